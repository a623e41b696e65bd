/-
  OWN WORK, A PART: an abstract machine for the program's text that the kernel can run, and the proof that it is sound: what it answers is what the program answers; contracts of functions by it. No condition.
-/
import Derived.Test.YtlnohbilfogheaaRows
import Derived.Test.YtlnohbilfogheaaPrF
import Derived.KernelRfl
import Derived.Test.YtlnohbilfogheaaQsE
section
section
namespace Go.Proofs.Ytlnohbilfogheaa.sumPart
open Go.Ax Go.RowKit
noncomputable def E3 : Env := envEx Try.prog (List.range 190) [(59, Try.f59)] []
noncomputable def sm : CallT := orC (sumC [⟨91, [], shaKv⟩]) (sumPressZ 92)
noncomputable def c7 : Code := Option.getD Try.f59.body .skip
noncomputable def k0 : Code := seqL c7
noncomputable def r1 : Code := seqR c7
noncomputable def k1 : Code := seqL r1
noncomputable def r2 : Code := seqR r1
noncomputable def k2 : Code := seqL r2
noncomputable def r3 : Code := seqR r2
noncomputable def k3 : Code := seqL r3
noncomputable def r4 : Code := seqR r3
noncomputable def k4 : Code := seqL (seqL r4)
noncomputable def B0 : Code := lopB (blkB (seqR (seqL r4)))
noncomputable def rest : Code := seqR r4
theorem shape : Try.f59.body = some (.seq k0 (.seq k1 (.seq k2 (.seq k3 (.seq (.seq k4 (.block 0 (.loop B0))) rest))))) := by kernel_rfl
noncomputable def F0 (n : Nat) : AFr := { m := putArgs [.slice (some (0, 0)) n (.atl n)] 0 .e, n := 90, defs := [] }
noncomputable def zs32 : List AV := (List.range 32).map fun _ => .int .u8 0
noncomputable def row (n : Nat) (b : Nat → Int) : List AV := ((List.range n).map b).map fun x => AV.int .u8 x
theorem e0 (n m : Nat) (b : Nat → Int) : Option.map (canR [0, 2] [0, 1]) ((M E3 (drawA E3) sm (m + 20)).ex none k0 (F0 n) (stZ ((List.range n).map b))) =
   some (.normal, zFr 90 [(0, .slice (some (0, 0)) n (.atl n)), (2, .ptr (some (1, 0)))], mkSt [(0, .cells (row n b) false), (1, .cells zs32 true)] 2) := by kernel_rfl
theorem e1 (n m : Nat) (b : Nat → Int) : Option.map (canR [0, 2, 3] [0, 1, 2]) ((M E3 (drawA E3) sm (m + 20)).ex none k1 (zFr 90 [(0, .slice (some (0, 0)) n (.atl n)), (2, .ptr (some (1, 0)))]) (mkSt [(0, .cells (row n b) false), (1, .cells zs32 true)] 2)) =
   some (.normal, zFr 90 [(0, .slice (some (0, 0)) n (.atl n)), (2, .ptr (some (1, 0))), (3, .ptr (some (2, 0)))], mkSt [(0, .cells (row n b) false), (1, .cells zs32 true), (2, .cells (shaK.map (AV.int .u32)) true)] 3) := by kernel_rfl
noncomputable def stS (n : Nat) (b : Nat → Int) (s : S8) (nx : Nat) : ASt := mkSt [(0, .cells (row n b) false), (1, .cells zs32 true), (2, .cells (shaK.map (AV.int .u32)) true), (3, .cells (cellsOf s.av) true)] nx
noncomputable def frS (n : Nat) (l : List (Nat × AV)) : AFr := zFr 90 ([(0, .slice (some (0, 0)) n (.atl n)), (2, .ptr (some (1, 0))), (3, .ptr (some (2, 0))), (4, .ptr (some (3, 0)))] ++ l)
noncomputable def wholeI (n : Nat) : Int := wrapF .i64 (wrapF .i64 ((Int.ofNat n).tdiv 64) * 64)
theorem e2 (n m : Nat) (b : Nat → Int) : Option.map (canR [0, 2, 3, 4] [0, 1, 2, 3]) ((M E3 (drawA E3) sm (m + 20)).ex none k2 (zFr 90 [(0, .slice (some (0, 0)) n (.atl n)), (2, .ptr (some (1, 0))), (3, .ptr (some (2, 0)))]) (mkSt [(0, .cells (row n b) false), (1, .cells zs32 true), (2, .cells (shaK.map (AV.int .u32)) true)] 3)) =
   some (.normal, frS n [], stS n b shaS0 4) := by kernel_rfl
theorem e3 (n m : Nat) (b : Nat → Int) : Option.map (canR [0, 2, 3, 4, 5] [0, 1, 2, 3]) ((M E3 (drawA E3) sm (m + 20)).ex none k3 (frS n []) (stS n b shaS0 4)) =
   some (.normal, frS n [(5, .int .i64 (wholeI n))], stS n b shaS0 4) := by kernel_rfl
theorem e4 (n m : Nat) (b : Nat → Int) (x : Int) : Option.map (canR [0, 2, 3, 4, 5, 6] [0, 1, 2, 3]) ((M E3 (drawA E3) sm (m + 20)).ex none k4 (frS n [(5, .int .i64 x)]) (stS n b shaS0 4)) =
   some (.normal, frS n [(5, .int .i64 x), (6, .int .i64 0)], stS n b shaS0 4) := by kernel_rfl
def fl0 : Fl := ⟨[28, 29], [], [19], []⟩
noncomputable def chunk (q : Nat) (b : Nat → Int) : List Int := (List.range 64).map fun i => b (64 * q + i)
theorem vc0 (n m j : Nat) (b : Nat → Int) (x : Int) (s : S8) (Q : Exit × AFr × ASt → Prop) :
  (((ltF (.ofNat (64 * j)) x = true) → (still (stS n b s 13) (aSlice E3 25 (.slice (some (0, 0)) n (.atl n)) (some (.int .i64 (.ofNat (64 * j)))) (some (.int .i64 (wrapF .i64 (.ofNat (64 * j) + 64)))) none (stS n b s 13)) = some (.slice (some (0, 64 * j)) 64 (.atl (n - 64 * j)), stS n b s 13) ∧
      ((M E3 (drawA E3) sm (m + 16)).call 92 [shaKv, s.av, .slice (some (0, 64 * j)) 64 (.atl (n - 64 * j))] (stS n b s 13) = some ((pressZ s (chunk j b)).av, stS n b s 13) ∧
       (True ∧ Q (.normal, frS n [(5, .int .i64 x), (6, .int .i64 (wrapF .i64 (.ofNat (64 * j) + 64)))], stS n b (pressZ s (chunk j b)) 13))))) ∧
   ((ltF (.ofNat (64 * j)) x = false) → Q (.exit 0, frS n [(5, .int .i64 x), (6, .int .i64 (.ofNat (64 * j)))], stS n b s 4))) =
  ((TM E3 sm [] ⟨[], [], [], []⟩ (m + 20)).ex fl0 none B0 (frS n [(5, .int .i64 x), (6, .int .i64 (.ofNat (64 * j)))]) (stS n b s 4)).allA (fun r => Q (canR [0, 2, 3, 4, 5, 6] [0, 1, 2, 3] r)) [(.slice (some (0, 64 * j)) 64 (.atl (n - 64 * j)), stS n b s 13), ((pressZ s (chunk j b)).av, stS n b s 13)] := by kernel_rfl
theorem sl (n lo hi : Nat) (st : ASt) : aSlice E3 25 (.slice (some (0, 0)) n (.atl n)) (some (.int .i64 (.ofNat lo))) (some (.int .i64 (.ofNat hi))) none st = (match aBounds n (Nat.max n n) (some lo) (some hi) none with
  | some (l, h, _) => bif Nat.blt l (Nat.max n n) then some (.slice (some (0, 0 + l * 1)) (h - l) (.atl (Nat.max n n - l))) else bif Nat.beq l 0 then some (.slice (some (0, 0)) 0 (.atl 0)) else some .slice0 | none => none) := by kernel_rfl
theorem call_sum {f : Nat} {args : List AV} {st : ASt} {r : AV × ASt} {m : Nat} (h : sm f args st = some r) : (M E3 (drawA E3) sm (m + 1)).call f args st = some r := by
  show (match sm f args st with | some r => some r | none => callF E3 (M E3 (drawA E3) sm m).ex f args st) = _
  rw [h]
theorem round0 (hs : CallsOK Try.prog sm) (hE : Env.Ok Try.prog E3) (n j : Nat) (b : Nat → Int) (s : S8) (hn : n < 1099511627776) (hj : j ≤ n / 64) :
    Trip Try.prog 1 none B0 (frS n [(5, .int .i64 (.ofNat (64 * (n / 64)))), (6, .int .i64 (.ofNat (64 * j)))]) (stS n b s 4) fun r =>
      (j < n / 64 ∧ canR [0, 2, 3, 4, 5, 6] [0, 1, 2, 3] r = (.normal, frS n [(5, .int .i64 (.ofNat (64 * (n / 64)))), (6, .int .i64 (.ofNat (64 * (j + 1))))], stS n b (pressZ s (chunk j b)) 13)) ∨
      (j = n / 64 ∧ canR [0, 2, 3, 4, 5, 6] [0, 1, 2, 3] r = (.exit 0, frS n [(5, .int .i64 (.ofNat (64 * (n / 64)))), (6, .int .i64 (.ofNat (64 * j)))], stS n b s 4)) := by
  have hw : wrapF .i64 (.ofNat (64 * j) + 64) = .ofNat (64 * (j + 1)) := by
    have : (Int.ofNat (64 * j) + 64) = Int.ofNat (64 * (j + 1)) := by show ((64 * j : Nat) : Int) + 64 = ((64 * (j + 1) : Nat) : Int); omega
    rw [this]; exact wrap_nat (by omega)
  refine Trip.runA hE hs (fls := []) (rf := ⟨[], [], [], []⟩) (n := 20) (fl := fl0) (Eq.mp (vc0 n 0 j b (.ofNat (64 * (n / 64))) s (fun r' =>
      (j < n / 64 ∧ r' = (.normal, frS n [(5, .int .i64 (.ofNat (64 * (n / 64)))), (6, .int .i64 (.ofNat (64 * (j + 1))))], stS n b (pressZ s (chunk j b)) 13)) ∨
      (j = n / 64 ∧ r' = (.exit 0, frS n [(5, .int .i64 (.ofNat (64 * (n / 64)))), (6, .int .i64 (.ofNat (64 * j)))], stS n b s 4)))) ⟨fun h => ?_, fun h => ?_⟩)
  · rw [ltF_nat] at h
    have hlt : j < n / 64 := by simp at h; omega
    refine ⟨?_, ?_, trivial, .inl ⟨hlt, by rw [hw]⟩⟩
    · rw [hw, sl]
      have hm : Nat.max n n = n := Nat.max_self n
      rw [hm, bounds_full (by omega) (by omega)]
      have h1 : Nat.blt (64 * j) n = true := by rw [Nat.blt_eq]; omega
      simp only [h1, cond_true, still]
      rw [show 64 * (j + 1) - 64 * j = 64 by omega, Nat.mul_one, Nat.zero_add]
    · have h0 : (stS n b s 13).h.get 0 = some (.cells (row n b) false) := by kernel_rfl
      have h1 : takeL (row n b) (64 * j) 64 = some ((chunk j b).map fun x => AV.int .u8 x) := by
        have := takeL_range (n := n) (a := 64 * j) (k := 64) (fun i => AV.int .u8 (b i)) (by omega)
        simp only [row, chunk, List.map_map]
        exact this
      have hp : sumPressZ 92 92 [shaKv, s.av, AV.slice (some (0, 64 * j)) 64 (Cap.atl (n - 64 * j))] (stS n b s 13) = some ((pressZ s (chunk j b)).av, stS n b s 13) := by
        unfold sumPressZ
        simp only [S8.av, h0, h1, bytesZ_map]
        rfl
      have ho : sm 92 [shaKv, s.av, AV.slice (some (0, 64 * j)) 64 (Cap.atl (n - 64 * j))] (stS n b s 13) = some ((pressZ s (chunk j b)).av, stS n b s 13) := by
        show orC (sumC [⟨91, [], shaKv⟩]) (sumPressZ 92) 92 _ _ = _
        unfold orC
        rw [show sumC [⟨91, [], shaKv⟩] 92 [shaKv, s.av, AV.slice (some (0, 64 * j)) 64 (Cap.atl (n - 64 * j))] (stS n b s 13) = none from by kernel_rfl]
        exact hp
      exact call_sum ho
  · rw [ltF_nat] at h
    have hge : j = n / 64 := by simp at h; omega
    exact .inr ⟨hge, rfl⟩
theorem shr (n : Nat) (b : Nat → Int) (s : S8) (x y : Int) (nx : Nat) : Shrinks 1 4 (frS n [(5, .int .i64 x), (6, .int .i64 y)]) (stS n b s nx) := by
  refine shrinks_of (by omega) ?_ ?_
  · simp [refsV]
  · simp only [List.mem_cons, List.not_mem_nil, or_false, forall_eq_or_imp, forall_eq, refsO]
    refine ⟨⟨by omega, fun c hc => ?_⟩, ⟨by omega, refs_map fun _ => by simp [refsV]⟩, ⟨by omega, refs_map fun _ => by simp [refsV]⟩, by omega, ?_⟩
    · obtain ⟨x, _, rfl⟩ := List.mem_map.1 hc; simp [refsV]
    · simp [cellsOf, S8.av, refsV]
theorem loop0 (hs : CallsOK Try.prog sm) (hE : Env.Ok Try.prog E3) (n : Nat) (b : Nat → Int) (hn : n < 1099511627776) :
    Trip Try.prog 1 none (.block 0 (.loop B0)) (frS n [(5, .int .i64 (.ofNat (64 * (n / 64)))), (6, .int .i64 0)]) (stS n b shaS0 4) fun r =>
      r.1 = .normal ∧ canF [0, 2, 3, 4, 5, 6] r.2.1 = frS n [(5, .int .i64 (.ofNat (64 * (n / 64)))), (6, .int .i64 (.ofNat (64 * (n / 64))))] ∧ canS [0, 1, 2, 3] r.2.2 = stS n b (headZ b (n / 64)) 4 := by
  refine Trip.block (Trip.loop (fun m fr st => ∃ j, j ≤ n / 64 ∧ m = n / 64 - j ∧ fr = frS n [(5, .int .i64 (.ofNat (64 * (n / 64)))), (6, .int .i64 (.ofNat (64 * j)))] ∧ st = stS n b (headZ b j) 4) ?_ (n / 64) ⟨0, by omega, by omega, rfl, rfl⟩)
  rintro m fr st ⟨j, hj, rfl, rfl, rfl⟩
  refine (round0 hs hE n j b (headZ b j) hn hj).mono ?_
  rintro ⟨e, fr', st'⟩ (⟨hlt, h⟩ | ⟨heq, h⟩)
  · simp only [canR, Prod.mk.injEq] at h
    obtain ⟨rfl, h1, h2⟩ := h
    refine ⟨n / 64 - (j + 1), _, _, by omega, Wk.trans (Wk.can 1 [0, 2, 3, 4, 5, 6] [0, 1, 2, 3] fr' st') (by rw [h1, h2]; exact Wk.shrink (shr n b _ _ _ 13)), j + 1, by omega, rfl, rfl, rfl⟩
  · simp only [canR, Prod.mk.injEq] at h
    obtain ⟨rfl, h1, h2⟩ := h
    subst heq
    exact ⟨fun _ => ⟨rfl, h1, h2⟩, fun h => absurd rfl h⟩
end Go.Proofs.Ytlnohbilfogheaa.sumPart
end
section
namespace Go.Proofs.Ytlnohbilfogheaa.sumPart
open Go.Ax Go.RowKit
def flR : Fl := ⟨[32, 33], [], [], []⟩
noncomputable def frR (n q : Nat) : AFr := frS n [(5, .int .i64 (.ofNat (64 * q))), (6, .int .i64 (.ofNat (64 * q)))]
noncomputable def tl (q r : Nat) (b : Nat → Int) : List AV := (List.range r).map fun i => .int .u8 (b (64 * q + i))
noncomputable def stR (n q r : Nat) (b : Nat → Int) (s : S8) : ASt := mkSt [(0, .cells (row n b) false), (1, .cells zs32 true), (2, .cells (shaK.map (AV.int .u32)) true), (3, .cells (cellsOf s.av) true), (4, .cells (tl q r b) true)] 5
noncomputable def x32 (n q : Nat) (st : ASt) : Option (AV × ASt) := still st (aSlice E3 25 (.slice (some (0, 0)) n (.atl n)) (some (.int .i64 (.ofNat (64 * q)))) none none st)
noncomputable def x33 (x : AV) (st : ASt) : Option (AV × ASt) := aAppend E3 25 25 (.slice none 0 (.known 0)) x st
noncomputable def outcome (P0 : Exit → Option AV → Prop) (r : Exit × AFr × ASt) : Prop := P0 r.1 (ans (leaveA E3 Try.f59 r.2.1 r.2.2))
noncomputable def runR (n q m : Nat) (b : Nat → Int) (s : S8) : Tr (Exit × AFr × ASt) := (TM E3 sm [] ⟨[], [], [], []⟩ (m + 40)).ex flR none rest (frR n q) (stS n b s 4)
theorem x32_eq (n q : Nat) (st : ASt) : x32 n q st = still st (match aBounds n (Nat.max n n) (some (64 * q)) none none with
  | some (l, h, _) => bif Nat.blt l (Nat.max n n) then some (.slice (some (0, 0 + l * 1)) (h - l) (.atl (Nat.max n n - l))) else bif Nat.beq l 0 then some (.slice (some (0, 0)) 0 (.atl 0)) else some .slice0 | none => none) := by kernel_rfl
theorem x33_eq (o r : Nat) (c : Cap) (st : ASt) : x33 (.slice (some (0, o)) r c) st = (match (match st.h.get 0 with | some (.cells cs _) => takeL cs o (r * 1) | _ => none) with
  | none => none
  | some new => bif Nat.beq r 0 then some (.slice none 0 (.known 0), st) else bif Nat.ble ((2 * r + 200) * 1) 281474976710656 then bif Nat.blt r 4611686018427387904 then some (.slice (some (st.next, 0)) r (.rest 1), st.add (.cells new true)) else none else none) := by kernel_rfl
theorem h32 {n q r : Nat} (h : n = 64 * q + r) (hr : 0 < r) (st : ASt) : x32 n q st = some (.slice (some (0, 64 * q)) r (.atl r), st) := by
  rw [x32_eq, show Nat.max n n = n from Nat.max_self n, bounds_from (by omega)]
  have h1 : Nat.blt (64 * q) n = true := by rw [Nat.blt_eq]; omega
  simp only [h1, cond_true, still]
  rw [show n - 64 * q = r by omega, Nat.mul_one, Nat.zero_add]
theorem h32z {n q : Nat} (h : n = 64 * q + 0) (hq : 0 < q) (st : ASt) : x32 n q st = some (.slice0, st) := by
  rw [x32_eq, show Nat.max n n = n from Nat.max_self n, bounds_from (by omega)]
  have h1 : Nat.blt (64 * q) n = false := by cases e : Nat.blt (64 * q) n with | false => rfl | true => rw [Nat.blt_eq] at e; omega
  have h2 : Nat.beq (64 * q) 0 = false := by cases e : Nat.beq (64 * q) 0 with | false => rfl | true => have := nbeq e; omega
  simp only [h1, h2, cond_false, still]
theorem h33z (st : ASt) : x33 .slice0 st = some (.slice none 0 (.known 0), st) := by kernel_rfl
theorem h33 {n q r : Nat} (h : n = 64 * q + r) (hr : 0 < r) (hr' : r < 64) (b : Nat → Int) (s : S8) : x33 (.slice (some (0, 64 * q)) r (.atl r)) (stS n b s 4) = some (.slice (some (4, 0)) r (.rest 1), stR n q r b s) := by
  rw [x33_eq]
  have h0 : (stS n b s 4).h.get 0 = some (.cells (row n b) false) := by kernel_rfl
  have h1 : takeL (row n b) (64 * q) (r * 1) = some (tl q r b) := by
    have := takeL_range (n := n) (a := 64 * q) (k := r) (fun i => AV.int .u8 (b i)) (by omega)
    rw [Nat.mul_one]
    simp only [row, tl, List.map_map]
    exact this
  have h2 : Nat.beq r 0 = false := by cases e : Nat.beq r 0 with | false => rfl | true => have := nbeq e; omega
  have h3 : Nat.ble ((2 * r + 200) * 1) 281474976710656 = true := by rw [Nat.ble_eq]; omega
  have h4 : Nat.blt r 4611686018427387904 = true := by rw [Nat.blt_eq]; omega
  simp only [h0, h1, h2, h3, h4, cond_true, cond_false]
  have : (stS n b s 4).add (.cells (tl q r b) true) = stR n q r b s := by kernel_rfl
  rw [this]
  rfl
def good (o : AV) (e : Exit) (a : Option AV) : Prop := e = .ret ∧ a = some o
end Go.Proofs.Ytlnohbilfogheaa.sumPart
end
section
namespace Go.Proofs.Ytlnohbilfogheaa.sumPart
open Go.Ax Go.RowKit
theorem vcR0 (n q : Nat) (b : Nat → Int) (s : S8) (P0 : Exit → Option AV → Prop) :
  (x32 n q (stS n b s 4) = some (.slice0, stS n b s 4) ∧ x33 .slice0 (stS n b s 4) = some (.slice none 0 (.known 0), stS n b s 4) ∧
     P0 .ret (some (outI (tailZ 0 (fun i => b (64 * q + i)) (.ofNat n) s)))) =
  (runR n q 0 b s).allA (outcome P0) [(.slice0, stS n b s 4), (.slice none 0 (.known 0), stS n b s 4)] := by kernel_rfl
theorem rest0 (n q : Nat) (b : Nat → Int) (s : S8) (h : n = 64 * q + 0) (h0 : 0 < n) : (runR n q 0 b s).all (outcome (good (outI (tailZ 0 (fun i => b (64 * q + i)) (.ofNat n) s)))) :=
  Tr.allA_all _ _ (Eq.mp (vcR0 n q b s _) ⟨h32z h (by omega) _, h33z _, rfl, rfl⟩)
theorem vcR1 (n q : Nat) (b : Nat → Int) (s : S8) (P0 : Exit → Option AV → Prop) :
  (x32 n q (stS n b s 4) = some (.slice (some (0, 64 * q)) 1 (.atl 1), stS n b s 4) ∧ x33 (.slice (some (0, 64 * q)) 1 (.atl 1)) (stS n b s 4) = some (.slice (some (4, 0)) 1 (.rest 1), stR n q 1 b s) ∧
     P0 .ret (some (outI (tailZ 1 (fun i => b (64 * q + i)) (.ofNat n) s)))) =
  (runR n q 0 b s).allA (outcome P0) [(.slice (some (0, 64 * q)) 1 (.atl 1), stS n b s 4), (.slice (some (4, 0)) 1 (.rest 1), stR n q 1 b s)] := by kernel_rfl
theorem rest1 (n q : Nat) (b : Nat → Int) (s : S8) (h : n = 64 * q + 1) (_ : 0 < n) : (runR n q 0 b s).all (outcome (good (outI (tailZ 1 (fun i => b (64 * q + i)) (.ofNat n) s)))) :=
  Tr.allA_all _ _ (Eq.mp (vcR1 n q b s _) ⟨h32 h (by omega) _, h33 h (by omega) (by omega) b s, rfl, rfl⟩)
theorem vcR2 (n q : Nat) (b : Nat → Int) (s : S8) (P0 : Exit → Option AV → Prop) :
  (x32 n q (stS n b s 4) = some (.slice (some (0, 64 * q)) 2 (.atl 2), stS n b s 4) ∧ x33 (.slice (some (0, 64 * q)) 2 (.atl 2)) (stS n b s 4) = some (.slice (some (4, 0)) 2 (.rest 1), stR n q 2 b s) ∧
     P0 .ret (some (outI (tailZ 2 (fun i => b (64 * q + i)) (.ofNat n) s)))) =
  (runR n q 0 b s).allA (outcome P0) [(.slice (some (0, 64 * q)) 2 (.atl 2), stS n b s 4), (.slice (some (4, 0)) 2 (.rest 1), stR n q 2 b s)] := by kernel_rfl
theorem rest2 (n q : Nat) (b : Nat → Int) (s : S8) (h : n = 64 * q + 2) (_ : 0 < n) : (runR n q 0 b s).all (outcome (good (outI (tailZ 2 (fun i => b (64 * q + i)) (.ofNat n) s)))) :=
  Tr.allA_all _ _ (Eq.mp (vcR2 n q b s _) ⟨h32 h (by omega) _, h33 h (by omega) (by omega) b s, rfl, rfl⟩)
theorem vcR3 (n q : Nat) (b : Nat → Int) (s : S8) (P0 : Exit → Option AV → Prop) :
  (x32 n q (stS n b s 4) = some (.slice (some (0, 64 * q)) 3 (.atl 3), stS n b s 4) ∧ x33 (.slice (some (0, 64 * q)) 3 (.atl 3)) (stS n b s 4) = some (.slice (some (4, 0)) 3 (.rest 1), stR n q 3 b s) ∧
     P0 .ret (some (outI (tailZ 3 (fun i => b (64 * q + i)) (.ofNat n) s)))) =
  (runR n q 0 b s).allA (outcome P0) [(.slice (some (0, 64 * q)) 3 (.atl 3), stS n b s 4), (.slice (some (4, 0)) 3 (.rest 1), stR n q 3 b s)] := by kernel_rfl
theorem rest3 (n q : Nat) (b : Nat → Int) (s : S8) (h : n = 64 * q + 3) (_ : 0 < n) : (runR n q 0 b s).all (outcome (good (outI (tailZ 3 (fun i => b (64 * q + i)) (.ofNat n) s)))) :=
  Tr.allA_all _ _ (Eq.mp (vcR3 n q b s _) ⟨h32 h (by omega) _, h33 h (by omega) (by omega) b s, rfl, rfl⟩)
theorem vcR4 (n q : Nat) (b : Nat → Int) (s : S8) (P0 : Exit → Option AV → Prop) :
  (x32 n q (stS n b s 4) = some (.slice (some (0, 64 * q)) 4 (.atl 4), stS n b s 4) ∧ x33 (.slice (some (0, 64 * q)) 4 (.atl 4)) (stS n b s 4) = some (.slice (some (4, 0)) 4 (.rest 1), stR n q 4 b s) ∧
     P0 .ret (some (outI (tailZ 4 (fun i => b (64 * q + i)) (.ofNat n) s)))) =
  (runR n q 0 b s).allA (outcome P0) [(.slice (some (0, 64 * q)) 4 (.atl 4), stS n b s 4), (.slice (some (4, 0)) 4 (.rest 1), stR n q 4 b s)] := by kernel_rfl
theorem rest4 (n q : Nat) (b : Nat → Int) (s : S8) (h : n = 64 * q + 4) (_ : 0 < n) : (runR n q 0 b s).all (outcome (good (outI (tailZ 4 (fun i => b (64 * q + i)) (.ofNat n) s)))) :=
  Tr.allA_all _ _ (Eq.mp (vcR4 n q b s _) ⟨h32 h (by omega) _, h33 h (by omega) (by omega) b s, rfl, rfl⟩)
theorem vcR5 (n q : Nat) (b : Nat → Int) (s : S8) (P0 : Exit → Option AV → Prop) :
  (x32 n q (stS n b s 4) = some (.slice (some (0, 64 * q)) 5 (.atl 5), stS n b s 4) ∧ x33 (.slice (some (0, 64 * q)) 5 (.atl 5)) (stS n b s 4) = some (.slice (some (4, 0)) 5 (.rest 1), stR n q 5 b s) ∧
     P0 .ret (some (outI (tailZ 5 (fun i => b (64 * q + i)) (.ofNat n) s)))) =
  (runR n q 0 b s).allA (outcome P0) [(.slice (some (0, 64 * q)) 5 (.atl 5), stS n b s 4), (.slice (some (4, 0)) 5 (.rest 1), stR n q 5 b s)] := by kernel_rfl
theorem rest5 (n q : Nat) (b : Nat → Int) (s : S8) (h : n = 64 * q + 5) (_ : 0 < n) : (runR n q 0 b s).all (outcome (good (outI (tailZ 5 (fun i => b (64 * q + i)) (.ofNat n) s)))) :=
  Tr.allA_all _ _ (Eq.mp (vcR5 n q b s _) ⟨h32 h (by omega) _, h33 h (by omega) (by omega) b s, rfl, rfl⟩)
theorem vcR6 (n q : Nat) (b : Nat → Int) (s : S8) (P0 : Exit → Option AV → Prop) :
  (x32 n q (stS n b s 4) = some (.slice (some (0, 64 * q)) 6 (.atl 6), stS n b s 4) ∧ x33 (.slice (some (0, 64 * q)) 6 (.atl 6)) (stS n b s 4) = some (.slice (some (4, 0)) 6 (.rest 1), stR n q 6 b s) ∧
     P0 .ret (some (outI (tailZ 6 (fun i => b (64 * q + i)) (.ofNat n) s)))) =
  (runR n q 0 b s).allA (outcome P0) [(.slice (some (0, 64 * q)) 6 (.atl 6), stS n b s 4), (.slice (some (4, 0)) 6 (.rest 1), stR n q 6 b s)] := by kernel_rfl
theorem rest6 (n q : Nat) (b : Nat → Int) (s : S8) (h : n = 64 * q + 6) (_ : 0 < n) : (runR n q 0 b s).all (outcome (good (outI (tailZ 6 (fun i => b (64 * q + i)) (.ofNat n) s)))) :=
  Tr.allA_all _ _ (Eq.mp (vcR6 n q b s _) ⟨h32 h (by omega) _, h33 h (by omega) (by omega) b s, rfl, rfl⟩)
theorem vcR7 (n q : Nat) (b : Nat → Int) (s : S8) (P0 : Exit → Option AV → Prop) :
  (x32 n q (stS n b s 4) = some (.slice (some (0, 64 * q)) 7 (.atl 7), stS n b s 4) ∧ x33 (.slice (some (0, 64 * q)) 7 (.atl 7)) (stS n b s 4) = some (.slice (some (4, 0)) 7 (.rest 1), stR n q 7 b s) ∧
     P0 .ret (some (outI (tailZ 7 (fun i => b (64 * q + i)) (.ofNat n) s)))) =
  (runR n q 0 b s).allA (outcome P0) [(.slice (some (0, 64 * q)) 7 (.atl 7), stS n b s 4), (.slice (some (4, 0)) 7 (.rest 1), stR n q 7 b s)] := by kernel_rfl
theorem rest7 (n q : Nat) (b : Nat → Int) (s : S8) (h : n = 64 * q + 7) (_ : 0 < n) : (runR n q 0 b s).all (outcome (good (outI (tailZ 7 (fun i => b (64 * q + i)) (.ofNat n) s)))) :=
  Tr.allA_all _ _ (Eq.mp (vcR7 n q b s _) ⟨h32 h (by omega) _, h33 h (by omega) (by omega) b s, rfl, rfl⟩)
theorem vcR8 (n q : Nat) (b : Nat → Int) (s : S8) (P0 : Exit → Option AV → Prop) :
  (x32 n q (stS n b s 4) = some (.slice (some (0, 64 * q)) 8 (.atl 8), stS n b s 4) ∧ x33 (.slice (some (0, 64 * q)) 8 (.atl 8)) (stS n b s 4) = some (.slice (some (4, 0)) 8 (.rest 1), stR n q 8 b s) ∧
     P0 .ret (some (outI (tailZ 8 (fun i => b (64 * q + i)) (.ofNat n) s)))) =
  (runR n q 0 b s).allA (outcome P0) [(.slice (some (0, 64 * q)) 8 (.atl 8), stS n b s 4), (.slice (some (4, 0)) 8 (.rest 1), stR n q 8 b s)] := by kernel_rfl
theorem rest8 (n q : Nat) (b : Nat → Int) (s : S8) (h : n = 64 * q + 8) (_ : 0 < n) : (runR n q 0 b s).all (outcome (good (outI (tailZ 8 (fun i => b (64 * q + i)) (.ofNat n) s)))) :=
  Tr.allA_all _ _ (Eq.mp (vcR8 n q b s _) ⟨h32 h (by omega) _, h33 h (by omega) (by omega) b s, rfl, rfl⟩)
theorem vcR9 (n q : Nat) (b : Nat → Int) (s : S8) (P0 : Exit → Option AV → Prop) :
  (x32 n q (stS n b s 4) = some (.slice (some (0, 64 * q)) 9 (.atl 9), stS n b s 4) ∧ x33 (.slice (some (0, 64 * q)) 9 (.atl 9)) (stS n b s 4) = some (.slice (some (4, 0)) 9 (.rest 1), stR n q 9 b s) ∧
     P0 .ret (some (outI (tailZ 9 (fun i => b (64 * q + i)) (.ofNat n) s)))) =
  (runR n q 0 b s).allA (outcome P0) [(.slice (some (0, 64 * q)) 9 (.atl 9), stS n b s 4), (.slice (some (4, 0)) 9 (.rest 1), stR n q 9 b s)] := by kernel_rfl
theorem rest9 (n q : Nat) (b : Nat → Int) (s : S8) (h : n = 64 * q + 9) (_ : 0 < n) : (runR n q 0 b s).all (outcome (good (outI (tailZ 9 (fun i => b (64 * q + i)) (.ofNat n) s)))) :=
  Tr.allA_all _ _ (Eq.mp (vcR9 n q b s _) ⟨h32 h (by omega) _, h33 h (by omega) (by omega) b s, rfl, rfl⟩)
theorem vcR10 (n q : Nat) (b : Nat → Int) (s : S8) (P0 : Exit → Option AV → Prop) :
  (x32 n q (stS n b s 4) = some (.slice (some (0, 64 * q)) 10 (.atl 10), stS n b s 4) ∧ x33 (.slice (some (0, 64 * q)) 10 (.atl 10)) (stS n b s 4) = some (.slice (some (4, 0)) 10 (.rest 1), stR n q 10 b s) ∧
     P0 .ret (some (outI (tailZ 10 (fun i => b (64 * q + i)) (.ofNat n) s)))) =
  (runR n q 0 b s).allA (outcome P0) [(.slice (some (0, 64 * q)) 10 (.atl 10), stS n b s 4), (.slice (some (4, 0)) 10 (.rest 1), stR n q 10 b s)] := by kernel_rfl
theorem rest10 (n q : Nat) (b : Nat → Int) (s : S8) (h : n = 64 * q + 10) (_ : 0 < n) : (runR n q 0 b s).all (outcome (good (outI (tailZ 10 (fun i => b (64 * q + i)) (.ofNat n) s)))) :=
  Tr.allA_all _ _ (Eq.mp (vcR10 n q b s _) ⟨h32 h (by omega) _, h33 h (by omega) (by omega) b s, rfl, rfl⟩)
theorem vcR11 (n q : Nat) (b : Nat → Int) (s : S8) (P0 : Exit → Option AV → Prop) :
  (x32 n q (stS n b s 4) = some (.slice (some (0, 64 * q)) 11 (.atl 11), stS n b s 4) ∧ x33 (.slice (some (0, 64 * q)) 11 (.atl 11)) (stS n b s 4) = some (.slice (some (4, 0)) 11 (.rest 1), stR n q 11 b s) ∧
     P0 .ret (some (outI (tailZ 11 (fun i => b (64 * q + i)) (.ofNat n) s)))) =
  (runR n q 0 b s).allA (outcome P0) [(.slice (some (0, 64 * q)) 11 (.atl 11), stS n b s 4), (.slice (some (4, 0)) 11 (.rest 1), stR n q 11 b s)] := by kernel_rfl
theorem rest11 (n q : Nat) (b : Nat → Int) (s : S8) (h : n = 64 * q + 11) (_ : 0 < n) : (runR n q 0 b s).all (outcome (good (outI (tailZ 11 (fun i => b (64 * q + i)) (.ofNat n) s)))) :=
  Tr.allA_all _ _ (Eq.mp (vcR11 n q b s _) ⟨h32 h (by omega) _, h33 h (by omega) (by omega) b s, rfl, rfl⟩)
theorem vcR12 (n q : Nat) (b : Nat → Int) (s : S8) (P0 : Exit → Option AV → Prop) :
  (x32 n q (stS n b s 4) = some (.slice (some (0, 64 * q)) 12 (.atl 12), stS n b s 4) ∧ x33 (.slice (some (0, 64 * q)) 12 (.atl 12)) (stS n b s 4) = some (.slice (some (4, 0)) 12 (.rest 1), stR n q 12 b s) ∧
     P0 .ret (some (outI (tailZ 12 (fun i => b (64 * q + i)) (.ofNat n) s)))) =
  (runR n q 0 b s).allA (outcome P0) [(.slice (some (0, 64 * q)) 12 (.atl 12), stS n b s 4), (.slice (some (4, 0)) 12 (.rest 1), stR n q 12 b s)] := by kernel_rfl
theorem rest12 (n q : Nat) (b : Nat → Int) (s : S8) (h : n = 64 * q + 12) (_ : 0 < n) : (runR n q 0 b s).all (outcome (good (outI (tailZ 12 (fun i => b (64 * q + i)) (.ofNat n) s)))) :=
  Tr.allA_all _ _ (Eq.mp (vcR12 n q b s _) ⟨h32 h (by omega) _, h33 h (by omega) (by omega) b s, rfl, rfl⟩)
theorem vcR13 (n q : Nat) (b : Nat → Int) (s : S8) (P0 : Exit → Option AV → Prop) :
  (x32 n q (stS n b s 4) = some (.slice (some (0, 64 * q)) 13 (.atl 13), stS n b s 4) ∧ x33 (.slice (some (0, 64 * q)) 13 (.atl 13)) (stS n b s 4) = some (.slice (some (4, 0)) 13 (.rest 1), stR n q 13 b s) ∧
     P0 .ret (some (outI (tailZ 13 (fun i => b (64 * q + i)) (.ofNat n) s)))) =
  (runR n q 0 b s).allA (outcome P0) [(.slice (some (0, 64 * q)) 13 (.atl 13), stS n b s 4), (.slice (some (4, 0)) 13 (.rest 1), stR n q 13 b s)] := by kernel_rfl
theorem rest13 (n q : Nat) (b : Nat → Int) (s : S8) (h : n = 64 * q + 13) (_ : 0 < n) : (runR n q 0 b s).all (outcome (good (outI (tailZ 13 (fun i => b (64 * q + i)) (.ofNat n) s)))) :=
  Tr.allA_all _ _ (Eq.mp (vcR13 n q b s _) ⟨h32 h (by omega) _, h33 h (by omega) (by omega) b s, rfl, rfl⟩)
theorem vcR14 (n q : Nat) (b : Nat → Int) (s : S8) (P0 : Exit → Option AV → Prop) :
  (x32 n q (stS n b s 4) = some (.slice (some (0, 64 * q)) 14 (.atl 14), stS n b s 4) ∧ x33 (.slice (some (0, 64 * q)) 14 (.atl 14)) (stS n b s 4) = some (.slice (some (4, 0)) 14 (.rest 1), stR n q 14 b s) ∧
     P0 .ret (some (outI (tailZ 14 (fun i => b (64 * q + i)) (.ofNat n) s)))) =
  (runR n q 0 b s).allA (outcome P0) [(.slice (some (0, 64 * q)) 14 (.atl 14), stS n b s 4), (.slice (some (4, 0)) 14 (.rest 1), stR n q 14 b s)] := by kernel_rfl
theorem rest14 (n q : Nat) (b : Nat → Int) (s : S8) (h : n = 64 * q + 14) (_ : 0 < n) : (runR n q 0 b s).all (outcome (good (outI (tailZ 14 (fun i => b (64 * q + i)) (.ofNat n) s)))) :=
  Tr.allA_all _ _ (Eq.mp (vcR14 n q b s _) ⟨h32 h (by omega) _, h33 h (by omega) (by omega) b s, rfl, rfl⟩)
theorem vcR15 (n q : Nat) (b : Nat → Int) (s : S8) (P0 : Exit → Option AV → Prop) :
  (x32 n q (stS n b s 4) = some (.slice (some (0, 64 * q)) 15 (.atl 15), stS n b s 4) ∧ x33 (.slice (some (0, 64 * q)) 15 (.atl 15)) (stS n b s 4) = some (.slice (some (4, 0)) 15 (.rest 1), stR n q 15 b s) ∧
     P0 .ret (some (outI (tailZ 15 (fun i => b (64 * q + i)) (.ofNat n) s)))) =
  (runR n q 0 b s).allA (outcome P0) [(.slice (some (0, 64 * q)) 15 (.atl 15), stS n b s 4), (.slice (some (4, 0)) 15 (.rest 1), stR n q 15 b s)] := by kernel_rfl
theorem rest15 (n q : Nat) (b : Nat → Int) (s : S8) (h : n = 64 * q + 15) (_ : 0 < n) : (runR n q 0 b s).all (outcome (good (outI (tailZ 15 (fun i => b (64 * q + i)) (.ofNat n) s)))) :=
  Tr.allA_all _ _ (Eq.mp (vcR15 n q b s _) ⟨h32 h (by omega) _, h33 h (by omega) (by omega) b s, rfl, rfl⟩)
end Go.Proofs.Ytlnohbilfogheaa.sumPart
end
section
namespace Go.Proofs.Ytlnohbilfogheaa.sumPart
open Go.Ax Go.RowKit
theorem vcR16 (n q : Nat) (b : Nat → Int) (s : S8) (P0 : Exit → Option AV → Prop) :
  (x32 n q (stS n b s 4) = some (.slice (some (0, 64 * q)) 16 (.atl 16), stS n b s 4) ∧ x33 (.slice (some (0, 64 * q)) 16 (.atl 16)) (stS n b s 4) = some (.slice (some (4, 0)) 16 (.rest 1), stR n q 16 b s) ∧
     P0 .ret (some (outI (tailZ 16 (fun i => b (64 * q + i)) (.ofNat n) s)))) =
  (runR n q 0 b s).allA (outcome P0) [(.slice (some (0, 64 * q)) 16 (.atl 16), stS n b s 4), (.slice (some (4, 0)) 16 (.rest 1), stR n q 16 b s)] := by kernel_rfl
theorem rest16 (n q : Nat) (b : Nat → Int) (s : S8) (h : n = 64 * q + 16) (_ : 0 < n) : (runR n q 0 b s).all (outcome (good (outI (tailZ 16 (fun i => b (64 * q + i)) (.ofNat n) s)))) :=
  Tr.allA_all _ _ (Eq.mp (vcR16 n q b s _) ⟨h32 h (by omega) _, h33 h (by omega) (by omega) b s, rfl, rfl⟩)
theorem vcR17 (n q : Nat) (b : Nat → Int) (s : S8) (P0 : Exit → Option AV → Prop) :
  (x32 n q (stS n b s 4) = some (.slice (some (0, 64 * q)) 17 (.atl 17), stS n b s 4) ∧ x33 (.slice (some (0, 64 * q)) 17 (.atl 17)) (stS n b s 4) = some (.slice (some (4, 0)) 17 (.rest 1), stR n q 17 b s) ∧
     P0 .ret (some (outI (tailZ 17 (fun i => b (64 * q + i)) (.ofNat n) s)))) =
  (runR n q 0 b s).allA (outcome P0) [(.slice (some (0, 64 * q)) 17 (.atl 17), stS n b s 4), (.slice (some (4, 0)) 17 (.rest 1), stR n q 17 b s)] := by kernel_rfl
theorem rest17 (n q : Nat) (b : Nat → Int) (s : S8) (h : n = 64 * q + 17) (_ : 0 < n) : (runR n q 0 b s).all (outcome (good (outI (tailZ 17 (fun i => b (64 * q + i)) (.ofNat n) s)))) :=
  Tr.allA_all _ _ (Eq.mp (vcR17 n q b s _) ⟨h32 h (by omega) _, h33 h (by omega) (by omega) b s, rfl, rfl⟩)
theorem vcR18 (n q : Nat) (b : Nat → Int) (s : S8) (P0 : Exit → Option AV → Prop) :
  (x32 n q (stS n b s 4) = some (.slice (some (0, 64 * q)) 18 (.atl 18), stS n b s 4) ∧ x33 (.slice (some (0, 64 * q)) 18 (.atl 18)) (stS n b s 4) = some (.slice (some (4, 0)) 18 (.rest 1), stR n q 18 b s) ∧
     P0 .ret (some (outI (tailZ 18 (fun i => b (64 * q + i)) (.ofNat n) s)))) =
  (runR n q 0 b s).allA (outcome P0) [(.slice (some (0, 64 * q)) 18 (.atl 18), stS n b s 4), (.slice (some (4, 0)) 18 (.rest 1), stR n q 18 b s)] := by kernel_rfl
theorem rest18 (n q : Nat) (b : Nat → Int) (s : S8) (h : n = 64 * q + 18) (_ : 0 < n) : (runR n q 0 b s).all (outcome (good (outI (tailZ 18 (fun i => b (64 * q + i)) (.ofNat n) s)))) :=
  Tr.allA_all _ _ (Eq.mp (vcR18 n q b s _) ⟨h32 h (by omega) _, h33 h (by omega) (by omega) b s, rfl, rfl⟩)
theorem vcR19 (n q : Nat) (b : Nat → Int) (s : S8) (P0 : Exit → Option AV → Prop) :
  (x32 n q (stS n b s 4) = some (.slice (some (0, 64 * q)) 19 (.atl 19), stS n b s 4) ∧ x33 (.slice (some (0, 64 * q)) 19 (.atl 19)) (stS n b s 4) = some (.slice (some (4, 0)) 19 (.rest 1), stR n q 19 b s) ∧
     P0 .ret (some (outI (tailZ 19 (fun i => b (64 * q + i)) (.ofNat n) s)))) =
  (runR n q 0 b s).allA (outcome P0) [(.slice (some (0, 64 * q)) 19 (.atl 19), stS n b s 4), (.slice (some (4, 0)) 19 (.rest 1), stR n q 19 b s)] := by kernel_rfl
theorem rest19 (n q : Nat) (b : Nat → Int) (s : S8) (h : n = 64 * q + 19) (_ : 0 < n) : (runR n q 0 b s).all (outcome (good (outI (tailZ 19 (fun i => b (64 * q + i)) (.ofNat n) s)))) :=
  Tr.allA_all _ _ (Eq.mp (vcR19 n q b s _) ⟨h32 h (by omega) _, h33 h (by omega) (by omega) b s, rfl, rfl⟩)
theorem vcR20 (n q : Nat) (b : Nat → Int) (s : S8) (P0 : Exit → Option AV → Prop) :
  (x32 n q (stS n b s 4) = some (.slice (some (0, 64 * q)) 20 (.atl 20), stS n b s 4) ∧ x33 (.slice (some (0, 64 * q)) 20 (.atl 20)) (stS n b s 4) = some (.slice (some (4, 0)) 20 (.rest 1), stR n q 20 b s) ∧
     P0 .ret (some (outI (tailZ 20 (fun i => b (64 * q + i)) (.ofNat n) s)))) =
  (runR n q 0 b s).allA (outcome P0) [(.slice (some (0, 64 * q)) 20 (.atl 20), stS n b s 4), (.slice (some (4, 0)) 20 (.rest 1), stR n q 20 b s)] := by kernel_rfl
theorem rest20 (n q : Nat) (b : Nat → Int) (s : S8) (h : n = 64 * q + 20) (_ : 0 < n) : (runR n q 0 b s).all (outcome (good (outI (tailZ 20 (fun i => b (64 * q + i)) (.ofNat n) s)))) :=
  Tr.allA_all _ _ (Eq.mp (vcR20 n q b s _) ⟨h32 h (by omega) _, h33 h (by omega) (by omega) b s, rfl, rfl⟩)
theorem vcR21 (n q : Nat) (b : Nat → Int) (s : S8) (P0 : Exit → Option AV → Prop) :
  (x32 n q (stS n b s 4) = some (.slice (some (0, 64 * q)) 21 (.atl 21), stS n b s 4) ∧ x33 (.slice (some (0, 64 * q)) 21 (.atl 21)) (stS n b s 4) = some (.slice (some (4, 0)) 21 (.rest 1), stR n q 21 b s) ∧
     P0 .ret (some (outI (tailZ 21 (fun i => b (64 * q + i)) (.ofNat n) s)))) =
  (runR n q 0 b s).allA (outcome P0) [(.slice (some (0, 64 * q)) 21 (.atl 21), stS n b s 4), (.slice (some (4, 0)) 21 (.rest 1), stR n q 21 b s)] := by kernel_rfl
theorem rest21 (n q : Nat) (b : Nat → Int) (s : S8) (h : n = 64 * q + 21) (_ : 0 < n) : (runR n q 0 b s).all (outcome (good (outI (tailZ 21 (fun i => b (64 * q + i)) (.ofNat n) s)))) :=
  Tr.allA_all _ _ (Eq.mp (vcR21 n q b s _) ⟨h32 h (by omega) _, h33 h (by omega) (by omega) b s, rfl, rfl⟩)
theorem vcR22 (n q : Nat) (b : Nat → Int) (s : S8) (P0 : Exit → Option AV → Prop) :
  (x32 n q (stS n b s 4) = some (.slice (some (0, 64 * q)) 22 (.atl 22), stS n b s 4) ∧ x33 (.slice (some (0, 64 * q)) 22 (.atl 22)) (stS n b s 4) = some (.slice (some (4, 0)) 22 (.rest 1), stR n q 22 b s) ∧
     P0 .ret (some (outI (tailZ 22 (fun i => b (64 * q + i)) (.ofNat n) s)))) =
  (runR n q 0 b s).allA (outcome P0) [(.slice (some (0, 64 * q)) 22 (.atl 22), stS n b s 4), (.slice (some (4, 0)) 22 (.rest 1), stR n q 22 b s)] := by kernel_rfl
theorem rest22 (n q : Nat) (b : Nat → Int) (s : S8) (h : n = 64 * q + 22) (_ : 0 < n) : (runR n q 0 b s).all (outcome (good (outI (tailZ 22 (fun i => b (64 * q + i)) (.ofNat n) s)))) :=
  Tr.allA_all _ _ (Eq.mp (vcR22 n q b s _) ⟨h32 h (by omega) _, h33 h (by omega) (by omega) b s, rfl, rfl⟩)
theorem vcR23 (n q : Nat) (b : Nat → Int) (s : S8) (P0 : Exit → Option AV → Prop) :
  (x32 n q (stS n b s 4) = some (.slice (some (0, 64 * q)) 23 (.atl 23), stS n b s 4) ∧ x33 (.slice (some (0, 64 * q)) 23 (.atl 23)) (stS n b s 4) = some (.slice (some (4, 0)) 23 (.rest 1), stR n q 23 b s) ∧
     P0 .ret (some (outI (tailZ 23 (fun i => b (64 * q + i)) (.ofNat n) s)))) =
  (runR n q 0 b s).allA (outcome P0) [(.slice (some (0, 64 * q)) 23 (.atl 23), stS n b s 4), (.slice (some (4, 0)) 23 (.rest 1), stR n q 23 b s)] := by kernel_rfl
theorem rest23 (n q : Nat) (b : Nat → Int) (s : S8) (h : n = 64 * q + 23) (_ : 0 < n) : (runR n q 0 b s).all (outcome (good (outI (tailZ 23 (fun i => b (64 * q + i)) (.ofNat n) s)))) :=
  Tr.allA_all _ _ (Eq.mp (vcR23 n q b s _) ⟨h32 h (by omega) _, h33 h (by omega) (by omega) b s, rfl, rfl⟩)
theorem vcR24 (n q : Nat) (b : Nat → Int) (s : S8) (P0 : Exit → Option AV → Prop) :
  (x32 n q (stS n b s 4) = some (.slice (some (0, 64 * q)) 24 (.atl 24), stS n b s 4) ∧ x33 (.slice (some (0, 64 * q)) 24 (.atl 24)) (stS n b s 4) = some (.slice (some (4, 0)) 24 (.rest 1), stR n q 24 b s) ∧
     P0 .ret (some (outI (tailZ 24 (fun i => b (64 * q + i)) (.ofNat n) s)))) =
  (runR n q 0 b s).allA (outcome P0) [(.slice (some (0, 64 * q)) 24 (.atl 24), stS n b s 4), (.slice (some (4, 0)) 24 (.rest 1), stR n q 24 b s)] := by kernel_rfl
theorem rest24 (n q : Nat) (b : Nat → Int) (s : S8) (h : n = 64 * q + 24) (_ : 0 < n) : (runR n q 0 b s).all (outcome (good (outI (tailZ 24 (fun i => b (64 * q + i)) (.ofNat n) s)))) :=
  Tr.allA_all _ _ (Eq.mp (vcR24 n q b s _) ⟨h32 h (by omega) _, h33 h (by omega) (by omega) b s, rfl, rfl⟩)
theorem vcR25 (n q : Nat) (b : Nat → Int) (s : S8) (P0 : Exit → Option AV → Prop) :
  (x32 n q (stS n b s 4) = some (.slice (some (0, 64 * q)) 25 (.atl 25), stS n b s 4) ∧ x33 (.slice (some (0, 64 * q)) 25 (.atl 25)) (stS n b s 4) = some (.slice (some (4, 0)) 25 (.rest 1), stR n q 25 b s) ∧
     P0 .ret (some (outI (tailZ 25 (fun i => b (64 * q + i)) (.ofNat n) s)))) =
  (runR n q 0 b s).allA (outcome P0) [(.slice (some (0, 64 * q)) 25 (.atl 25), stS n b s 4), (.slice (some (4, 0)) 25 (.rest 1), stR n q 25 b s)] := by kernel_rfl
theorem rest25 (n q : Nat) (b : Nat → Int) (s : S8) (h : n = 64 * q + 25) (_ : 0 < n) : (runR n q 0 b s).all (outcome (good (outI (tailZ 25 (fun i => b (64 * q + i)) (.ofNat n) s)))) :=
  Tr.allA_all _ _ (Eq.mp (vcR25 n q b s _) ⟨h32 h (by omega) _, h33 h (by omega) (by omega) b s, rfl, rfl⟩)
theorem vcR26 (n q : Nat) (b : Nat → Int) (s : S8) (P0 : Exit → Option AV → Prop) :
  (x32 n q (stS n b s 4) = some (.slice (some (0, 64 * q)) 26 (.atl 26), stS n b s 4) ∧ x33 (.slice (some (0, 64 * q)) 26 (.atl 26)) (stS n b s 4) = some (.slice (some (4, 0)) 26 (.rest 1), stR n q 26 b s) ∧
     P0 .ret (some (outI (tailZ 26 (fun i => b (64 * q + i)) (.ofNat n) s)))) =
  (runR n q 0 b s).allA (outcome P0) [(.slice (some (0, 64 * q)) 26 (.atl 26), stS n b s 4), (.slice (some (4, 0)) 26 (.rest 1), stR n q 26 b s)] := by kernel_rfl
theorem rest26 (n q : Nat) (b : Nat → Int) (s : S8) (h : n = 64 * q + 26) (_ : 0 < n) : (runR n q 0 b s).all (outcome (good (outI (tailZ 26 (fun i => b (64 * q + i)) (.ofNat n) s)))) :=
  Tr.allA_all _ _ (Eq.mp (vcR26 n q b s _) ⟨h32 h (by omega) _, h33 h (by omega) (by omega) b s, rfl, rfl⟩)
theorem vcR27 (n q : Nat) (b : Nat → Int) (s : S8) (P0 : Exit → Option AV → Prop) :
  (x32 n q (stS n b s 4) = some (.slice (some (0, 64 * q)) 27 (.atl 27), stS n b s 4) ∧ x33 (.slice (some (0, 64 * q)) 27 (.atl 27)) (stS n b s 4) = some (.slice (some (4, 0)) 27 (.rest 1), stR n q 27 b s) ∧
     P0 .ret (some (outI (tailZ 27 (fun i => b (64 * q + i)) (.ofNat n) s)))) =
  (runR n q 0 b s).allA (outcome P0) [(.slice (some (0, 64 * q)) 27 (.atl 27), stS n b s 4), (.slice (some (4, 0)) 27 (.rest 1), stR n q 27 b s)] := by kernel_rfl
theorem rest27 (n q : Nat) (b : Nat → Int) (s : S8) (h : n = 64 * q + 27) (_ : 0 < n) : (runR n q 0 b s).all (outcome (good (outI (tailZ 27 (fun i => b (64 * q + i)) (.ofNat n) s)))) :=
  Tr.allA_all _ _ (Eq.mp (vcR27 n q b s _) ⟨h32 h (by omega) _, h33 h (by omega) (by omega) b s, rfl, rfl⟩)
theorem vcR28 (n q : Nat) (b : Nat → Int) (s : S8) (P0 : Exit → Option AV → Prop) :
  (x32 n q (stS n b s 4) = some (.slice (some (0, 64 * q)) 28 (.atl 28), stS n b s 4) ∧ x33 (.slice (some (0, 64 * q)) 28 (.atl 28)) (stS n b s 4) = some (.slice (some (4, 0)) 28 (.rest 1), stR n q 28 b s) ∧
     P0 .ret (some (outI (tailZ 28 (fun i => b (64 * q + i)) (.ofNat n) s)))) =
  (runR n q 0 b s).allA (outcome P0) [(.slice (some (0, 64 * q)) 28 (.atl 28), stS n b s 4), (.slice (some (4, 0)) 28 (.rest 1), stR n q 28 b s)] := by kernel_rfl
theorem rest28 (n q : Nat) (b : Nat → Int) (s : S8) (h : n = 64 * q + 28) (_ : 0 < n) : (runR n q 0 b s).all (outcome (good (outI (tailZ 28 (fun i => b (64 * q + i)) (.ofNat n) s)))) :=
  Tr.allA_all _ _ (Eq.mp (vcR28 n q b s _) ⟨h32 h (by omega) _, h33 h (by omega) (by omega) b s, rfl, rfl⟩)
theorem vcR29 (n q : Nat) (b : Nat → Int) (s : S8) (P0 : Exit → Option AV → Prop) :
  (x32 n q (stS n b s 4) = some (.slice (some (0, 64 * q)) 29 (.atl 29), stS n b s 4) ∧ x33 (.slice (some (0, 64 * q)) 29 (.atl 29)) (stS n b s 4) = some (.slice (some (4, 0)) 29 (.rest 1), stR n q 29 b s) ∧
     P0 .ret (some (outI (tailZ 29 (fun i => b (64 * q + i)) (.ofNat n) s)))) =
  (runR n q 0 b s).allA (outcome P0) [(.slice (some (0, 64 * q)) 29 (.atl 29), stS n b s 4), (.slice (some (4, 0)) 29 (.rest 1), stR n q 29 b s)] := by kernel_rfl
theorem rest29 (n q : Nat) (b : Nat → Int) (s : S8) (h : n = 64 * q + 29) (_ : 0 < n) : (runR n q 0 b s).all (outcome (good (outI (tailZ 29 (fun i => b (64 * q + i)) (.ofNat n) s)))) :=
  Tr.allA_all _ _ (Eq.mp (vcR29 n q b s _) ⟨h32 h (by omega) _, h33 h (by omega) (by omega) b s, rfl, rfl⟩)
theorem vcR30 (n q : Nat) (b : Nat → Int) (s : S8) (P0 : Exit → Option AV → Prop) :
  (x32 n q (stS n b s 4) = some (.slice (some (0, 64 * q)) 30 (.atl 30), stS n b s 4) ∧ x33 (.slice (some (0, 64 * q)) 30 (.atl 30)) (stS n b s 4) = some (.slice (some (4, 0)) 30 (.rest 1), stR n q 30 b s) ∧
     P0 .ret (some (outI (tailZ 30 (fun i => b (64 * q + i)) (.ofNat n) s)))) =
  (runR n q 0 b s).allA (outcome P0) [(.slice (some (0, 64 * q)) 30 (.atl 30), stS n b s 4), (.slice (some (4, 0)) 30 (.rest 1), stR n q 30 b s)] := by kernel_rfl
theorem rest30 (n q : Nat) (b : Nat → Int) (s : S8) (h : n = 64 * q + 30) (_ : 0 < n) : (runR n q 0 b s).all (outcome (good (outI (tailZ 30 (fun i => b (64 * q + i)) (.ofNat n) s)))) :=
  Tr.allA_all _ _ (Eq.mp (vcR30 n q b s _) ⟨h32 h (by omega) _, h33 h (by omega) (by omega) b s, rfl, rfl⟩)
theorem vcR31 (n q : Nat) (b : Nat → Int) (s : S8) (P0 : Exit → Option AV → Prop) :
  (x32 n q (stS n b s 4) = some (.slice (some (0, 64 * q)) 31 (.atl 31), stS n b s 4) ∧ x33 (.slice (some (0, 64 * q)) 31 (.atl 31)) (stS n b s 4) = some (.slice (some (4, 0)) 31 (.rest 1), stR n q 31 b s) ∧
     P0 .ret (some (outI (tailZ 31 (fun i => b (64 * q + i)) (.ofNat n) s)))) =
  (runR n q 0 b s).allA (outcome P0) [(.slice (some (0, 64 * q)) 31 (.atl 31), stS n b s 4), (.slice (some (4, 0)) 31 (.rest 1), stR n q 31 b s)] := by kernel_rfl
theorem rest31 (n q : Nat) (b : Nat → Int) (s : S8) (h : n = 64 * q + 31) (_ : 0 < n) : (runR n q 0 b s).all (outcome (good (outI (tailZ 31 (fun i => b (64 * q + i)) (.ofNat n) s)))) :=
  Tr.allA_all _ _ (Eq.mp (vcR31 n q b s _) ⟨h32 h (by omega) _, h33 h (by omega) (by omega) b s, rfl, rfl⟩)
end Go.Proofs.Ytlnohbilfogheaa.sumPart
end
section
namespace Go.Proofs.Ytlnohbilfogheaa.sumPart
open Go.Ax Go.RowKit
theorem vcR32 (n q : Nat) (b : Nat → Int) (s : S8) (P0 : Exit → Option AV → Prop) :
  (x32 n q (stS n b s 4) = some (.slice (some (0, 64 * q)) 32 (.atl 32), stS n b s 4) ∧ x33 (.slice (some (0, 64 * q)) 32 (.atl 32)) (stS n b s 4) = some (.slice (some (4, 0)) 32 (.rest 1), stR n q 32 b s) ∧
     P0 .ret (some (outI (tailZ 32 (fun i => b (64 * q + i)) (.ofNat n) s)))) =
  (runR n q 0 b s).allA (outcome P0) [(.slice (some (0, 64 * q)) 32 (.atl 32), stS n b s 4), (.slice (some (4, 0)) 32 (.rest 1), stR n q 32 b s)] := by kernel_rfl
theorem rest32 (n q : Nat) (b : Nat → Int) (s : S8) (h : n = 64 * q + 32) (_ : 0 < n) : (runR n q 0 b s).all (outcome (good (outI (tailZ 32 (fun i => b (64 * q + i)) (.ofNat n) s)))) :=
  Tr.allA_all _ _ (Eq.mp (vcR32 n q b s _) ⟨h32 h (by omega) _, h33 h (by omega) (by omega) b s, rfl, rfl⟩)
theorem vcR33 (n q : Nat) (b : Nat → Int) (s : S8) (P0 : Exit → Option AV → Prop) :
  (x32 n q (stS n b s 4) = some (.slice (some (0, 64 * q)) 33 (.atl 33), stS n b s 4) ∧ x33 (.slice (some (0, 64 * q)) 33 (.atl 33)) (stS n b s 4) = some (.slice (some (4, 0)) 33 (.rest 1), stR n q 33 b s) ∧
     P0 .ret (some (outI (tailZ 33 (fun i => b (64 * q + i)) (.ofNat n) s)))) =
  (runR n q 0 b s).allA (outcome P0) [(.slice (some (0, 64 * q)) 33 (.atl 33), stS n b s 4), (.slice (some (4, 0)) 33 (.rest 1), stR n q 33 b s)] := by kernel_rfl
theorem rest33 (n q : Nat) (b : Nat → Int) (s : S8) (h : n = 64 * q + 33) (_ : 0 < n) : (runR n q 0 b s).all (outcome (good (outI (tailZ 33 (fun i => b (64 * q + i)) (.ofNat n) s)))) :=
  Tr.allA_all _ _ (Eq.mp (vcR33 n q b s _) ⟨h32 h (by omega) _, h33 h (by omega) (by omega) b s, rfl, rfl⟩)
theorem vcR34 (n q : Nat) (b : Nat → Int) (s : S8) (P0 : Exit → Option AV → Prop) :
  (x32 n q (stS n b s 4) = some (.slice (some (0, 64 * q)) 34 (.atl 34), stS n b s 4) ∧ x33 (.slice (some (0, 64 * q)) 34 (.atl 34)) (stS n b s 4) = some (.slice (some (4, 0)) 34 (.rest 1), stR n q 34 b s) ∧
     P0 .ret (some (outI (tailZ 34 (fun i => b (64 * q + i)) (.ofNat n) s)))) =
  (runR n q 0 b s).allA (outcome P0) [(.slice (some (0, 64 * q)) 34 (.atl 34), stS n b s 4), (.slice (some (4, 0)) 34 (.rest 1), stR n q 34 b s)] := by kernel_rfl
theorem rest34 (n q : Nat) (b : Nat → Int) (s : S8) (h : n = 64 * q + 34) (_ : 0 < n) : (runR n q 0 b s).all (outcome (good (outI (tailZ 34 (fun i => b (64 * q + i)) (.ofNat n) s)))) :=
  Tr.allA_all _ _ (Eq.mp (vcR34 n q b s _) ⟨h32 h (by omega) _, h33 h (by omega) (by omega) b s, rfl, rfl⟩)
theorem vcR35 (n q : Nat) (b : Nat → Int) (s : S8) (P0 : Exit → Option AV → Prop) :
  (x32 n q (stS n b s 4) = some (.slice (some (0, 64 * q)) 35 (.atl 35), stS n b s 4) ∧ x33 (.slice (some (0, 64 * q)) 35 (.atl 35)) (stS n b s 4) = some (.slice (some (4, 0)) 35 (.rest 1), stR n q 35 b s) ∧
     P0 .ret (some (outI (tailZ 35 (fun i => b (64 * q + i)) (.ofNat n) s)))) =
  (runR n q 0 b s).allA (outcome P0) [(.slice (some (0, 64 * q)) 35 (.atl 35), stS n b s 4), (.slice (some (4, 0)) 35 (.rest 1), stR n q 35 b s)] := by kernel_rfl
theorem rest35 (n q : Nat) (b : Nat → Int) (s : S8) (h : n = 64 * q + 35) (_ : 0 < n) : (runR n q 0 b s).all (outcome (good (outI (tailZ 35 (fun i => b (64 * q + i)) (.ofNat n) s)))) :=
  Tr.allA_all _ _ (Eq.mp (vcR35 n q b s _) ⟨h32 h (by omega) _, h33 h (by omega) (by omega) b s, rfl, rfl⟩)
theorem vcR36 (n q : Nat) (b : Nat → Int) (s : S8) (P0 : Exit → Option AV → Prop) :
  (x32 n q (stS n b s 4) = some (.slice (some (0, 64 * q)) 36 (.atl 36), stS n b s 4) ∧ x33 (.slice (some (0, 64 * q)) 36 (.atl 36)) (stS n b s 4) = some (.slice (some (4, 0)) 36 (.rest 1), stR n q 36 b s) ∧
     P0 .ret (some (outI (tailZ 36 (fun i => b (64 * q + i)) (.ofNat n) s)))) =
  (runR n q 0 b s).allA (outcome P0) [(.slice (some (0, 64 * q)) 36 (.atl 36), stS n b s 4), (.slice (some (4, 0)) 36 (.rest 1), stR n q 36 b s)] := by kernel_rfl
theorem rest36 (n q : Nat) (b : Nat → Int) (s : S8) (h : n = 64 * q + 36) (_ : 0 < n) : (runR n q 0 b s).all (outcome (good (outI (tailZ 36 (fun i => b (64 * q + i)) (.ofNat n) s)))) :=
  Tr.allA_all _ _ (Eq.mp (vcR36 n q b s _) ⟨h32 h (by omega) _, h33 h (by omega) (by omega) b s, rfl, rfl⟩)
theorem vcR37 (n q : Nat) (b : Nat → Int) (s : S8) (P0 : Exit → Option AV → Prop) :
  (x32 n q (stS n b s 4) = some (.slice (some (0, 64 * q)) 37 (.atl 37), stS n b s 4) ∧ x33 (.slice (some (0, 64 * q)) 37 (.atl 37)) (stS n b s 4) = some (.slice (some (4, 0)) 37 (.rest 1), stR n q 37 b s) ∧
     P0 .ret (some (outI (tailZ 37 (fun i => b (64 * q + i)) (.ofNat n) s)))) =
  (runR n q 0 b s).allA (outcome P0) [(.slice (some (0, 64 * q)) 37 (.atl 37), stS n b s 4), (.slice (some (4, 0)) 37 (.rest 1), stR n q 37 b s)] := by kernel_rfl
theorem rest37 (n q : Nat) (b : Nat → Int) (s : S8) (h : n = 64 * q + 37) (_ : 0 < n) : (runR n q 0 b s).all (outcome (good (outI (tailZ 37 (fun i => b (64 * q + i)) (.ofNat n) s)))) :=
  Tr.allA_all _ _ (Eq.mp (vcR37 n q b s _) ⟨h32 h (by omega) _, h33 h (by omega) (by omega) b s, rfl, rfl⟩)
theorem vcR38 (n q : Nat) (b : Nat → Int) (s : S8) (P0 : Exit → Option AV → Prop) :
  (x32 n q (stS n b s 4) = some (.slice (some (0, 64 * q)) 38 (.atl 38), stS n b s 4) ∧ x33 (.slice (some (0, 64 * q)) 38 (.atl 38)) (stS n b s 4) = some (.slice (some (4, 0)) 38 (.rest 1), stR n q 38 b s) ∧
     P0 .ret (some (outI (tailZ 38 (fun i => b (64 * q + i)) (.ofNat n) s)))) =
  (runR n q 0 b s).allA (outcome P0) [(.slice (some (0, 64 * q)) 38 (.atl 38), stS n b s 4), (.slice (some (4, 0)) 38 (.rest 1), stR n q 38 b s)] := by kernel_rfl
theorem rest38 (n q : Nat) (b : Nat → Int) (s : S8) (h : n = 64 * q + 38) (_ : 0 < n) : (runR n q 0 b s).all (outcome (good (outI (tailZ 38 (fun i => b (64 * q + i)) (.ofNat n) s)))) :=
  Tr.allA_all _ _ (Eq.mp (vcR38 n q b s _) ⟨h32 h (by omega) _, h33 h (by omega) (by omega) b s, rfl, rfl⟩)
theorem vcR39 (n q : Nat) (b : Nat → Int) (s : S8) (P0 : Exit → Option AV → Prop) :
  (x32 n q (stS n b s 4) = some (.slice (some (0, 64 * q)) 39 (.atl 39), stS n b s 4) ∧ x33 (.slice (some (0, 64 * q)) 39 (.atl 39)) (stS n b s 4) = some (.slice (some (4, 0)) 39 (.rest 1), stR n q 39 b s) ∧
     P0 .ret (some (outI (tailZ 39 (fun i => b (64 * q + i)) (.ofNat n) s)))) =
  (runR n q 0 b s).allA (outcome P0) [(.slice (some (0, 64 * q)) 39 (.atl 39), stS n b s 4), (.slice (some (4, 0)) 39 (.rest 1), stR n q 39 b s)] := by kernel_rfl
theorem rest39 (n q : Nat) (b : Nat → Int) (s : S8) (h : n = 64 * q + 39) (_ : 0 < n) : (runR n q 0 b s).all (outcome (good (outI (tailZ 39 (fun i => b (64 * q + i)) (.ofNat n) s)))) :=
  Tr.allA_all _ _ (Eq.mp (vcR39 n q b s _) ⟨h32 h (by omega) _, h33 h (by omega) (by omega) b s, rfl, rfl⟩)
theorem vcR40 (n q : Nat) (b : Nat → Int) (s : S8) (P0 : Exit → Option AV → Prop) :
  (x32 n q (stS n b s 4) = some (.slice (some (0, 64 * q)) 40 (.atl 40), stS n b s 4) ∧ x33 (.slice (some (0, 64 * q)) 40 (.atl 40)) (stS n b s 4) = some (.slice (some (4, 0)) 40 (.rest 1), stR n q 40 b s) ∧
     P0 .ret (some (outI (tailZ 40 (fun i => b (64 * q + i)) (.ofNat n) s)))) =
  (runR n q 0 b s).allA (outcome P0) [(.slice (some (0, 64 * q)) 40 (.atl 40), stS n b s 4), (.slice (some (4, 0)) 40 (.rest 1), stR n q 40 b s)] := by kernel_rfl
theorem rest40 (n q : Nat) (b : Nat → Int) (s : S8) (h : n = 64 * q + 40) (_ : 0 < n) : (runR n q 0 b s).all (outcome (good (outI (tailZ 40 (fun i => b (64 * q + i)) (.ofNat n) s)))) :=
  Tr.allA_all _ _ (Eq.mp (vcR40 n q b s _) ⟨h32 h (by omega) _, h33 h (by omega) (by omega) b s, rfl, rfl⟩)
theorem vcR41 (n q : Nat) (b : Nat → Int) (s : S8) (P0 : Exit → Option AV → Prop) :
  (x32 n q (stS n b s 4) = some (.slice (some (0, 64 * q)) 41 (.atl 41), stS n b s 4) ∧ x33 (.slice (some (0, 64 * q)) 41 (.atl 41)) (stS n b s 4) = some (.slice (some (4, 0)) 41 (.rest 1), stR n q 41 b s) ∧
     P0 .ret (some (outI (tailZ 41 (fun i => b (64 * q + i)) (.ofNat n) s)))) =
  (runR n q 0 b s).allA (outcome P0) [(.slice (some (0, 64 * q)) 41 (.atl 41), stS n b s 4), (.slice (some (4, 0)) 41 (.rest 1), stR n q 41 b s)] := by kernel_rfl
theorem rest41 (n q : Nat) (b : Nat → Int) (s : S8) (h : n = 64 * q + 41) (_ : 0 < n) : (runR n q 0 b s).all (outcome (good (outI (tailZ 41 (fun i => b (64 * q + i)) (.ofNat n) s)))) :=
  Tr.allA_all _ _ (Eq.mp (vcR41 n q b s _) ⟨h32 h (by omega) _, h33 h (by omega) (by omega) b s, rfl, rfl⟩)
theorem vcR42 (n q : Nat) (b : Nat → Int) (s : S8) (P0 : Exit → Option AV → Prop) :
  (x32 n q (stS n b s 4) = some (.slice (some (0, 64 * q)) 42 (.atl 42), stS n b s 4) ∧ x33 (.slice (some (0, 64 * q)) 42 (.atl 42)) (stS n b s 4) = some (.slice (some (4, 0)) 42 (.rest 1), stR n q 42 b s) ∧
     P0 .ret (some (outI (tailZ 42 (fun i => b (64 * q + i)) (.ofNat n) s)))) =
  (runR n q 0 b s).allA (outcome P0) [(.slice (some (0, 64 * q)) 42 (.atl 42), stS n b s 4), (.slice (some (4, 0)) 42 (.rest 1), stR n q 42 b s)] := by kernel_rfl
theorem rest42 (n q : Nat) (b : Nat → Int) (s : S8) (h : n = 64 * q + 42) (_ : 0 < n) : (runR n q 0 b s).all (outcome (good (outI (tailZ 42 (fun i => b (64 * q + i)) (.ofNat n) s)))) :=
  Tr.allA_all _ _ (Eq.mp (vcR42 n q b s _) ⟨h32 h (by omega) _, h33 h (by omega) (by omega) b s, rfl, rfl⟩)
theorem vcR43 (n q : Nat) (b : Nat → Int) (s : S8) (P0 : Exit → Option AV → Prop) :
  (x32 n q (stS n b s 4) = some (.slice (some (0, 64 * q)) 43 (.atl 43), stS n b s 4) ∧ x33 (.slice (some (0, 64 * q)) 43 (.atl 43)) (stS n b s 4) = some (.slice (some (4, 0)) 43 (.rest 1), stR n q 43 b s) ∧
     P0 .ret (some (outI (tailZ 43 (fun i => b (64 * q + i)) (.ofNat n) s)))) =
  (runR n q 0 b s).allA (outcome P0) [(.slice (some (0, 64 * q)) 43 (.atl 43), stS n b s 4), (.slice (some (4, 0)) 43 (.rest 1), stR n q 43 b s)] := by kernel_rfl
theorem rest43 (n q : Nat) (b : Nat → Int) (s : S8) (h : n = 64 * q + 43) (_ : 0 < n) : (runR n q 0 b s).all (outcome (good (outI (tailZ 43 (fun i => b (64 * q + i)) (.ofNat n) s)))) :=
  Tr.allA_all _ _ (Eq.mp (vcR43 n q b s _) ⟨h32 h (by omega) _, h33 h (by omega) (by omega) b s, rfl, rfl⟩)
theorem vcR44 (n q : Nat) (b : Nat → Int) (s : S8) (P0 : Exit → Option AV → Prop) :
  (x32 n q (stS n b s 4) = some (.slice (some (0, 64 * q)) 44 (.atl 44), stS n b s 4) ∧ x33 (.slice (some (0, 64 * q)) 44 (.atl 44)) (stS n b s 4) = some (.slice (some (4, 0)) 44 (.rest 1), stR n q 44 b s) ∧
     P0 .ret (some (outI (tailZ 44 (fun i => b (64 * q + i)) (.ofNat n) s)))) =
  (runR n q 0 b s).allA (outcome P0) [(.slice (some (0, 64 * q)) 44 (.atl 44), stS n b s 4), (.slice (some (4, 0)) 44 (.rest 1), stR n q 44 b s)] := by kernel_rfl
theorem rest44 (n q : Nat) (b : Nat → Int) (s : S8) (h : n = 64 * q + 44) (_ : 0 < n) : (runR n q 0 b s).all (outcome (good (outI (tailZ 44 (fun i => b (64 * q + i)) (.ofNat n) s)))) :=
  Tr.allA_all _ _ (Eq.mp (vcR44 n q b s _) ⟨h32 h (by omega) _, h33 h (by omega) (by omega) b s, rfl, rfl⟩)
theorem vcR45 (n q : Nat) (b : Nat → Int) (s : S8) (P0 : Exit → Option AV → Prop) :
  (x32 n q (stS n b s 4) = some (.slice (some (0, 64 * q)) 45 (.atl 45), stS n b s 4) ∧ x33 (.slice (some (0, 64 * q)) 45 (.atl 45)) (stS n b s 4) = some (.slice (some (4, 0)) 45 (.rest 1), stR n q 45 b s) ∧
     P0 .ret (some (outI (tailZ 45 (fun i => b (64 * q + i)) (.ofNat n) s)))) =
  (runR n q 0 b s).allA (outcome P0) [(.slice (some (0, 64 * q)) 45 (.atl 45), stS n b s 4), (.slice (some (4, 0)) 45 (.rest 1), stR n q 45 b s)] := by kernel_rfl
theorem rest45 (n q : Nat) (b : Nat → Int) (s : S8) (h : n = 64 * q + 45) (_ : 0 < n) : (runR n q 0 b s).all (outcome (good (outI (tailZ 45 (fun i => b (64 * q + i)) (.ofNat n) s)))) :=
  Tr.allA_all _ _ (Eq.mp (vcR45 n q b s _) ⟨h32 h (by omega) _, h33 h (by omega) (by omega) b s, rfl, rfl⟩)
theorem vcR46 (n q : Nat) (b : Nat → Int) (s : S8) (P0 : Exit → Option AV → Prop) :
  (x32 n q (stS n b s 4) = some (.slice (some (0, 64 * q)) 46 (.atl 46), stS n b s 4) ∧ x33 (.slice (some (0, 64 * q)) 46 (.atl 46)) (stS n b s 4) = some (.slice (some (4, 0)) 46 (.rest 1), stR n q 46 b s) ∧
     P0 .ret (some (outI (tailZ 46 (fun i => b (64 * q + i)) (.ofNat n) s)))) =
  (runR n q 0 b s).allA (outcome P0) [(.slice (some (0, 64 * q)) 46 (.atl 46), stS n b s 4), (.slice (some (4, 0)) 46 (.rest 1), stR n q 46 b s)] := by kernel_rfl
theorem rest46 (n q : Nat) (b : Nat → Int) (s : S8) (h : n = 64 * q + 46) (_ : 0 < n) : (runR n q 0 b s).all (outcome (good (outI (tailZ 46 (fun i => b (64 * q + i)) (.ofNat n) s)))) :=
  Tr.allA_all _ _ (Eq.mp (vcR46 n q b s _) ⟨h32 h (by omega) _, h33 h (by omega) (by omega) b s, rfl, rfl⟩)
theorem vcR47 (n q : Nat) (b : Nat → Int) (s : S8) (P0 : Exit → Option AV → Prop) :
  (x32 n q (stS n b s 4) = some (.slice (some (0, 64 * q)) 47 (.atl 47), stS n b s 4) ∧ x33 (.slice (some (0, 64 * q)) 47 (.atl 47)) (stS n b s 4) = some (.slice (some (4, 0)) 47 (.rest 1), stR n q 47 b s) ∧
     P0 .ret (some (outI (tailZ 47 (fun i => b (64 * q + i)) (.ofNat n) s)))) =
  (runR n q 0 b s).allA (outcome P0) [(.slice (some (0, 64 * q)) 47 (.atl 47), stS n b s 4), (.slice (some (4, 0)) 47 (.rest 1), stR n q 47 b s)] := by kernel_rfl
theorem rest47 (n q : Nat) (b : Nat → Int) (s : S8) (h : n = 64 * q + 47) (_ : 0 < n) : (runR n q 0 b s).all (outcome (good (outI (tailZ 47 (fun i => b (64 * q + i)) (.ofNat n) s)))) :=
  Tr.allA_all _ _ (Eq.mp (vcR47 n q b s _) ⟨h32 h (by omega) _, h33 h (by omega) (by omega) b s, rfl, rfl⟩)
end Go.Proofs.Ytlnohbilfogheaa.sumPart
end
section
namespace Go.Proofs.Ytlnohbilfogheaa.sumPart
open Go.Ax Go.RowKit
theorem vcR48 (n q : Nat) (b : Nat → Int) (s : S8) (P0 : Exit → Option AV → Prop) :
  (x32 n q (stS n b s 4) = some (.slice (some (0, 64 * q)) 48 (.atl 48), stS n b s 4) ∧ x33 (.slice (some (0, 64 * q)) 48 (.atl 48)) (stS n b s 4) = some (.slice (some (4, 0)) 48 (.rest 1), stR n q 48 b s) ∧
     P0 .ret (some (outI (tailZ 48 (fun i => b (64 * q + i)) (.ofNat n) s)))) =
  (runR n q 0 b s).allA (outcome P0) [(.slice (some (0, 64 * q)) 48 (.atl 48), stS n b s 4), (.slice (some (4, 0)) 48 (.rest 1), stR n q 48 b s)] := by kernel_rfl
theorem rest48 (n q : Nat) (b : Nat → Int) (s : S8) (h : n = 64 * q + 48) (_ : 0 < n) : (runR n q 0 b s).all (outcome (good (outI (tailZ 48 (fun i => b (64 * q + i)) (.ofNat n) s)))) :=
  Tr.allA_all _ _ (Eq.mp (vcR48 n q b s _) ⟨h32 h (by omega) _, h33 h (by omega) (by omega) b s, rfl, rfl⟩)
theorem vcR49 (n q : Nat) (b : Nat → Int) (s : S8) (P0 : Exit → Option AV → Prop) :
  (x32 n q (stS n b s 4) = some (.slice (some (0, 64 * q)) 49 (.atl 49), stS n b s 4) ∧ x33 (.slice (some (0, 64 * q)) 49 (.atl 49)) (stS n b s 4) = some (.slice (some (4, 0)) 49 (.rest 1), stR n q 49 b s) ∧
     P0 .ret (some (outI (tailZ 49 (fun i => b (64 * q + i)) (.ofNat n) s)))) =
  (runR n q 0 b s).allA (outcome P0) [(.slice (some (0, 64 * q)) 49 (.atl 49), stS n b s 4), (.slice (some (4, 0)) 49 (.rest 1), stR n q 49 b s)] := by kernel_rfl
theorem rest49 (n q : Nat) (b : Nat → Int) (s : S8) (h : n = 64 * q + 49) (_ : 0 < n) : (runR n q 0 b s).all (outcome (good (outI (tailZ 49 (fun i => b (64 * q + i)) (.ofNat n) s)))) :=
  Tr.allA_all _ _ (Eq.mp (vcR49 n q b s _) ⟨h32 h (by omega) _, h33 h (by omega) (by omega) b s, rfl, rfl⟩)
theorem vcR50 (n q : Nat) (b : Nat → Int) (s : S8) (P0 : Exit → Option AV → Prop) :
  (x32 n q (stS n b s 4) = some (.slice (some (0, 64 * q)) 50 (.atl 50), stS n b s 4) ∧ x33 (.slice (some (0, 64 * q)) 50 (.atl 50)) (stS n b s 4) = some (.slice (some (4, 0)) 50 (.rest 1), stR n q 50 b s) ∧
     P0 .ret (some (outI (tailZ 50 (fun i => b (64 * q + i)) (.ofNat n) s)))) =
  (runR n q 0 b s).allA (outcome P0) [(.slice (some (0, 64 * q)) 50 (.atl 50), stS n b s 4), (.slice (some (4, 0)) 50 (.rest 1), stR n q 50 b s)] := by kernel_rfl
theorem rest50 (n q : Nat) (b : Nat → Int) (s : S8) (h : n = 64 * q + 50) (_ : 0 < n) : (runR n q 0 b s).all (outcome (good (outI (tailZ 50 (fun i => b (64 * q + i)) (.ofNat n) s)))) :=
  Tr.allA_all _ _ (Eq.mp (vcR50 n q b s _) ⟨h32 h (by omega) _, h33 h (by omega) (by omega) b s, rfl, rfl⟩)
theorem vcR51 (n q : Nat) (b : Nat → Int) (s : S8) (P0 : Exit → Option AV → Prop) :
  (x32 n q (stS n b s 4) = some (.slice (some (0, 64 * q)) 51 (.atl 51), stS n b s 4) ∧ x33 (.slice (some (0, 64 * q)) 51 (.atl 51)) (stS n b s 4) = some (.slice (some (4, 0)) 51 (.rest 1), stR n q 51 b s) ∧
     P0 .ret (some (outI (tailZ 51 (fun i => b (64 * q + i)) (.ofNat n) s)))) =
  (runR n q 0 b s).allA (outcome P0) [(.slice (some (0, 64 * q)) 51 (.atl 51), stS n b s 4), (.slice (some (4, 0)) 51 (.rest 1), stR n q 51 b s)] := by kernel_rfl
theorem rest51 (n q : Nat) (b : Nat → Int) (s : S8) (h : n = 64 * q + 51) (_ : 0 < n) : (runR n q 0 b s).all (outcome (good (outI (tailZ 51 (fun i => b (64 * q + i)) (.ofNat n) s)))) :=
  Tr.allA_all _ _ (Eq.mp (vcR51 n q b s _) ⟨h32 h (by omega) _, h33 h (by omega) (by omega) b s, rfl, rfl⟩)
theorem vcR52 (n q : Nat) (b : Nat → Int) (s : S8) (P0 : Exit → Option AV → Prop) :
  (x32 n q (stS n b s 4) = some (.slice (some (0, 64 * q)) 52 (.atl 52), stS n b s 4) ∧ x33 (.slice (some (0, 64 * q)) 52 (.atl 52)) (stS n b s 4) = some (.slice (some (4, 0)) 52 (.rest 1), stR n q 52 b s) ∧
     P0 .ret (some (outI (tailZ 52 (fun i => b (64 * q + i)) (.ofNat n) s)))) =
  (runR n q 0 b s).allA (outcome P0) [(.slice (some (0, 64 * q)) 52 (.atl 52), stS n b s 4), (.slice (some (4, 0)) 52 (.rest 1), stR n q 52 b s)] := by kernel_rfl
theorem rest52 (n q : Nat) (b : Nat → Int) (s : S8) (h : n = 64 * q + 52) (_ : 0 < n) : (runR n q 0 b s).all (outcome (good (outI (tailZ 52 (fun i => b (64 * q + i)) (.ofNat n) s)))) :=
  Tr.allA_all _ _ (Eq.mp (vcR52 n q b s _) ⟨h32 h (by omega) _, h33 h (by omega) (by omega) b s, rfl, rfl⟩)
theorem vcR53 (n q : Nat) (b : Nat → Int) (s : S8) (P0 : Exit → Option AV → Prop) :
  (x32 n q (stS n b s 4) = some (.slice (some (0, 64 * q)) 53 (.atl 53), stS n b s 4) ∧ x33 (.slice (some (0, 64 * q)) 53 (.atl 53)) (stS n b s 4) = some (.slice (some (4, 0)) 53 (.rest 1), stR n q 53 b s) ∧
     P0 .ret (some (outI (tailZ 53 (fun i => b (64 * q + i)) (.ofNat n) s)))) =
  (runR n q 0 b s).allA (outcome P0) [(.slice (some (0, 64 * q)) 53 (.atl 53), stS n b s 4), (.slice (some (4, 0)) 53 (.rest 1), stR n q 53 b s)] := by kernel_rfl
theorem rest53 (n q : Nat) (b : Nat → Int) (s : S8) (h : n = 64 * q + 53) (_ : 0 < n) : (runR n q 0 b s).all (outcome (good (outI (tailZ 53 (fun i => b (64 * q + i)) (.ofNat n) s)))) :=
  Tr.allA_all _ _ (Eq.mp (vcR53 n q b s _) ⟨h32 h (by omega) _, h33 h (by omega) (by omega) b s, rfl, rfl⟩)
theorem vcR54 (n q : Nat) (b : Nat → Int) (s : S8) (P0 : Exit → Option AV → Prop) :
  (x32 n q (stS n b s 4) = some (.slice (some (0, 64 * q)) 54 (.atl 54), stS n b s 4) ∧ x33 (.slice (some (0, 64 * q)) 54 (.atl 54)) (stS n b s 4) = some (.slice (some (4, 0)) 54 (.rest 1), stR n q 54 b s) ∧
     P0 .ret (some (outI (tailZ 54 (fun i => b (64 * q + i)) (.ofNat n) s)))) =
  (runR n q 0 b s).allA (outcome P0) [(.slice (some (0, 64 * q)) 54 (.atl 54), stS n b s 4), (.slice (some (4, 0)) 54 (.rest 1), stR n q 54 b s)] := by kernel_rfl
theorem rest54 (n q : Nat) (b : Nat → Int) (s : S8) (h : n = 64 * q + 54) (_ : 0 < n) : (runR n q 0 b s).all (outcome (good (outI (tailZ 54 (fun i => b (64 * q + i)) (.ofNat n) s)))) :=
  Tr.allA_all _ _ (Eq.mp (vcR54 n q b s _) ⟨h32 h (by omega) _, h33 h (by omega) (by omega) b s, rfl, rfl⟩)
theorem vcR55 (n q : Nat) (b : Nat → Int) (s : S8) (P0 : Exit → Option AV → Prop) :
  (x32 n q (stS n b s 4) = some (.slice (some (0, 64 * q)) 55 (.atl 55), stS n b s 4) ∧ x33 (.slice (some (0, 64 * q)) 55 (.atl 55)) (stS n b s 4) = some (.slice (some (4, 0)) 55 (.rest 1), stR n q 55 b s) ∧
     P0 .ret (some (outI (tailZ 55 (fun i => b (64 * q + i)) (.ofNat n) s)))) =
  (runR n q 0 b s).allA (outcome P0) [(.slice (some (0, 64 * q)) 55 (.atl 55), stS n b s 4), (.slice (some (4, 0)) 55 (.rest 1), stR n q 55 b s)] := by kernel_rfl
theorem rest55 (n q : Nat) (b : Nat → Int) (s : S8) (h : n = 64 * q + 55) (_ : 0 < n) : (runR n q 0 b s).all (outcome (good (outI (tailZ 55 (fun i => b (64 * q + i)) (.ofNat n) s)))) :=
  Tr.allA_all _ _ (Eq.mp (vcR55 n q b s _) ⟨h32 h (by omega) _, h33 h (by omega) (by omega) b s, rfl, rfl⟩)
theorem vcR56 (n q : Nat) (b : Nat → Int) (s : S8) (P0 : Exit → Option AV → Prop) :
  (x32 n q (stS n b s 4) = some (.slice (some (0, 64 * q)) 56 (.atl 56), stS n b s 4) ∧ x33 (.slice (some (0, 64 * q)) 56 (.atl 56)) (stS n b s 4) = some (.slice (some (4, 0)) 56 (.rest 1), stR n q 56 b s) ∧
     P0 .ret (some (outI (tailZ 56 (fun i => b (64 * q + i)) (.ofNat n) s)))) =
  (runR n q 0 b s).allA (outcome P0) [(.slice (some (0, 64 * q)) 56 (.atl 56), stS n b s 4), (.slice (some (4, 0)) 56 (.rest 1), stR n q 56 b s)] := by kernel_rfl
theorem rest56 (n q : Nat) (b : Nat → Int) (s : S8) (h : n = 64 * q + 56) (_ : 0 < n) : (runR n q 0 b s).all (outcome (good (outI (tailZ 56 (fun i => b (64 * q + i)) (.ofNat n) s)))) :=
  Tr.allA_all _ _ (Eq.mp (vcR56 n q b s _) ⟨h32 h (by omega) _, h33 h (by omega) (by omega) b s, rfl, rfl⟩)
theorem vcR57 (n q : Nat) (b : Nat → Int) (s : S8) (P0 : Exit → Option AV → Prop) :
  (x32 n q (stS n b s 4) = some (.slice (some (0, 64 * q)) 57 (.atl 57), stS n b s 4) ∧ x33 (.slice (some (0, 64 * q)) 57 (.atl 57)) (stS n b s 4) = some (.slice (some (4, 0)) 57 (.rest 1), stR n q 57 b s) ∧
     P0 .ret (some (outI (tailZ 57 (fun i => b (64 * q + i)) (.ofNat n) s)))) =
  (runR n q 0 b s).allA (outcome P0) [(.slice (some (0, 64 * q)) 57 (.atl 57), stS n b s 4), (.slice (some (4, 0)) 57 (.rest 1), stR n q 57 b s)] := by kernel_rfl
theorem rest57 (n q : Nat) (b : Nat → Int) (s : S8) (h : n = 64 * q + 57) (_ : 0 < n) : (runR n q 0 b s).all (outcome (good (outI (tailZ 57 (fun i => b (64 * q + i)) (.ofNat n) s)))) :=
  Tr.allA_all _ _ (Eq.mp (vcR57 n q b s _) ⟨h32 h (by omega) _, h33 h (by omega) (by omega) b s, rfl, rfl⟩)
theorem vcR58 (n q : Nat) (b : Nat → Int) (s : S8) (P0 : Exit → Option AV → Prop) :
  (x32 n q (stS n b s 4) = some (.slice (some (0, 64 * q)) 58 (.atl 58), stS n b s 4) ∧ x33 (.slice (some (0, 64 * q)) 58 (.atl 58)) (stS n b s 4) = some (.slice (some (4, 0)) 58 (.rest 1), stR n q 58 b s) ∧
     P0 .ret (some (outI (tailZ 58 (fun i => b (64 * q + i)) (.ofNat n) s)))) =
  (runR n q 0 b s).allA (outcome P0) [(.slice (some (0, 64 * q)) 58 (.atl 58), stS n b s 4), (.slice (some (4, 0)) 58 (.rest 1), stR n q 58 b s)] := by kernel_rfl
theorem rest58 (n q : Nat) (b : Nat → Int) (s : S8) (h : n = 64 * q + 58) (_ : 0 < n) : (runR n q 0 b s).all (outcome (good (outI (tailZ 58 (fun i => b (64 * q + i)) (.ofNat n) s)))) :=
  Tr.allA_all _ _ (Eq.mp (vcR58 n q b s _) ⟨h32 h (by omega) _, h33 h (by omega) (by omega) b s, rfl, rfl⟩)
theorem vcR59 (n q : Nat) (b : Nat → Int) (s : S8) (P0 : Exit → Option AV → Prop) :
  (x32 n q (stS n b s 4) = some (.slice (some (0, 64 * q)) 59 (.atl 59), stS n b s 4) ∧ x33 (.slice (some (0, 64 * q)) 59 (.atl 59)) (stS n b s 4) = some (.slice (some (4, 0)) 59 (.rest 1), stR n q 59 b s) ∧
     P0 .ret (some (outI (tailZ 59 (fun i => b (64 * q + i)) (.ofNat n) s)))) =
  (runR n q 0 b s).allA (outcome P0) [(.slice (some (0, 64 * q)) 59 (.atl 59), stS n b s 4), (.slice (some (4, 0)) 59 (.rest 1), stR n q 59 b s)] := by kernel_rfl
theorem rest59 (n q : Nat) (b : Nat → Int) (s : S8) (h : n = 64 * q + 59) (_ : 0 < n) : (runR n q 0 b s).all (outcome (good (outI (tailZ 59 (fun i => b (64 * q + i)) (.ofNat n) s)))) :=
  Tr.allA_all _ _ (Eq.mp (vcR59 n q b s _) ⟨h32 h (by omega) _, h33 h (by omega) (by omega) b s, rfl, rfl⟩)
theorem vcR60 (n q : Nat) (b : Nat → Int) (s : S8) (P0 : Exit → Option AV → Prop) :
  (x32 n q (stS n b s 4) = some (.slice (some (0, 64 * q)) 60 (.atl 60), stS n b s 4) ∧ x33 (.slice (some (0, 64 * q)) 60 (.atl 60)) (stS n b s 4) = some (.slice (some (4, 0)) 60 (.rest 1), stR n q 60 b s) ∧
     P0 .ret (some (outI (tailZ 60 (fun i => b (64 * q + i)) (.ofNat n) s)))) =
  (runR n q 0 b s).allA (outcome P0) [(.slice (some (0, 64 * q)) 60 (.atl 60), stS n b s 4), (.slice (some (4, 0)) 60 (.rest 1), stR n q 60 b s)] := by kernel_rfl
theorem rest60 (n q : Nat) (b : Nat → Int) (s : S8) (h : n = 64 * q + 60) (_ : 0 < n) : (runR n q 0 b s).all (outcome (good (outI (tailZ 60 (fun i => b (64 * q + i)) (.ofNat n) s)))) :=
  Tr.allA_all _ _ (Eq.mp (vcR60 n q b s _) ⟨h32 h (by omega) _, h33 h (by omega) (by omega) b s, rfl, rfl⟩)
theorem vcR61 (n q : Nat) (b : Nat → Int) (s : S8) (P0 : Exit → Option AV → Prop) :
  (x32 n q (stS n b s 4) = some (.slice (some (0, 64 * q)) 61 (.atl 61), stS n b s 4) ∧ x33 (.slice (some (0, 64 * q)) 61 (.atl 61)) (stS n b s 4) = some (.slice (some (4, 0)) 61 (.rest 1), stR n q 61 b s) ∧
     P0 .ret (some (outI (tailZ 61 (fun i => b (64 * q + i)) (.ofNat n) s)))) =
  (runR n q 0 b s).allA (outcome P0) [(.slice (some (0, 64 * q)) 61 (.atl 61), stS n b s 4), (.slice (some (4, 0)) 61 (.rest 1), stR n q 61 b s)] := by kernel_rfl
theorem rest61 (n q : Nat) (b : Nat → Int) (s : S8) (h : n = 64 * q + 61) (_ : 0 < n) : (runR n q 0 b s).all (outcome (good (outI (tailZ 61 (fun i => b (64 * q + i)) (.ofNat n) s)))) :=
  Tr.allA_all _ _ (Eq.mp (vcR61 n q b s _) ⟨h32 h (by omega) _, h33 h (by omega) (by omega) b s, rfl, rfl⟩)
theorem vcR62 (n q : Nat) (b : Nat → Int) (s : S8) (P0 : Exit → Option AV → Prop) :
  (x32 n q (stS n b s 4) = some (.slice (some (0, 64 * q)) 62 (.atl 62), stS n b s 4) ∧ x33 (.slice (some (0, 64 * q)) 62 (.atl 62)) (stS n b s 4) = some (.slice (some (4, 0)) 62 (.rest 1), stR n q 62 b s) ∧
     P0 .ret (some (outI (tailZ 62 (fun i => b (64 * q + i)) (.ofNat n) s)))) =
  (runR n q 0 b s).allA (outcome P0) [(.slice (some (0, 64 * q)) 62 (.atl 62), stS n b s 4), (.slice (some (4, 0)) 62 (.rest 1), stR n q 62 b s)] := by kernel_rfl
theorem rest62 (n q : Nat) (b : Nat → Int) (s : S8) (h : n = 64 * q + 62) (_ : 0 < n) : (runR n q 0 b s).all (outcome (good (outI (tailZ 62 (fun i => b (64 * q + i)) (.ofNat n) s)))) :=
  Tr.allA_all _ _ (Eq.mp (vcR62 n q b s _) ⟨h32 h (by omega) _, h33 h (by omega) (by omega) b s, rfl, rfl⟩)
theorem vcR63 (n q : Nat) (b : Nat → Int) (s : S8) (P0 : Exit → Option AV → Prop) :
  (x32 n q (stS n b s 4) = some (.slice (some (0, 64 * q)) 63 (.atl 63), stS n b s 4) ∧ x33 (.slice (some (0, 64 * q)) 63 (.atl 63)) (stS n b s 4) = some (.slice (some (4, 0)) 63 (.rest 1), stR n q 63 b s) ∧
     P0 .ret (some (outI (tailZ 63 (fun i => b (64 * q + i)) (.ofNat n) s)))) =
  (runR n q 0 b s).allA (outcome P0) [(.slice (some (0, 64 * q)) 63 (.atl 63), stS n b s 4), (.slice (some (4, 0)) 63 (.rest 1), stR n q 63 b s)] := by kernel_rfl
theorem rest63 (n q : Nat) (b : Nat → Int) (s : S8) (h : n = 64 * q + 63) (_ : 0 < n) : (runR n q 0 b s).all (outcome (good (outI (tailZ 63 (fun i => b (64 * q + i)) (.ofNat n) s)))) :=
  Tr.allA_all _ _ (Eq.mp (vcR63 n q b s _) ⟨h32 h (by omega) _, h33 h (by omega) (by omega) b s, rfl, rfl⟩)
end Go.Proofs.Ytlnohbilfogheaa.sumPart
end
section
namespace Go.Proofs.Ytlnohbilfogheaa.sumPart
open Go.Ax Go.RowKit
theorem rest_all (n q r : Nat) (b : Nat → Int) (s : S8) (hr : r < 64) (h : n = 64 * q + r) (h0 : 0 < n) : (runR n q 0 b s).all (outcome (good (outI (tailZ r (fun i => b (64 * q + i)) (.ofNat n) s)))) := by
  match r, hr, h with
  | 0, _, h => exact rest0 n q b s h h0
  | 1, _, h => exact rest1 n q b s h h0
  | 2, _, h => exact rest2 n q b s h h0
  | 3, _, h => exact rest3 n q b s h h0
  | 4, _, h => exact rest4 n q b s h h0
  | 5, _, h => exact rest5 n q b s h h0
  | 6, _, h => exact rest6 n q b s h h0
  | 7, _, h => exact rest7 n q b s h h0
  | 8, _, h => exact rest8 n q b s h h0
  | 9, _, h => exact rest9 n q b s h h0
  | 10, _, h => exact rest10 n q b s h h0
  | 11, _, h => exact rest11 n q b s h h0
  | 12, _, h => exact rest12 n q b s h h0
  | 13, _, h => exact rest13 n q b s h h0
  | 14, _, h => exact rest14 n q b s h h0
  | 15, _, h => exact rest15 n q b s h h0
  | 16, _, h => exact rest16 n q b s h h0
  | 17, _, h => exact rest17 n q b s h h0
  | 18, _, h => exact rest18 n q b s h h0
  | 19, _, h => exact rest19 n q b s h h0
  | 20, _, h => exact rest20 n q b s h h0
  | 21, _, h => exact rest21 n q b s h h0
  | 22, _, h => exact rest22 n q b s h h0
  | 23, _, h => exact rest23 n q b s h h0
  | 24, _, h => exact rest24 n q b s h h0
  | 25, _, h => exact rest25 n q b s h h0
  | 26, _, h => exact rest26 n q b s h h0
  | 27, _, h => exact rest27 n q b s h h0
  | 28, _, h => exact rest28 n q b s h h0
  | 29, _, h => exact rest29 n q b s h h0
  | 30, _, h => exact rest30 n q b s h h0
  | 31, _, h => exact rest31 n q b s h h0
  | 32, _, h => exact rest32 n q b s h h0
  | 33, _, h => exact rest33 n q b s h h0
  | 34, _, h => exact rest34 n q b s h h0
  | 35, _, h => exact rest35 n q b s h h0
  | 36, _, h => exact rest36 n q b s h h0
  | 37, _, h => exact rest37 n q b s h h0
  | 38, _, h => exact rest38 n q b s h h0
  | 39, _, h => exact rest39 n q b s h h0
  | 40, _, h => exact rest40 n q b s h h0
  | 41, _, h => exact rest41 n q b s h h0
  | 42, _, h => exact rest42 n q b s h h0
  | 43, _, h => exact rest43 n q b s h h0
  | 44, _, h => exact rest44 n q b s h h0
  | 45, _, h => exact rest45 n q b s h h0
  | 46, _, h => exact rest46 n q b s h h0
  | 47, _, h => exact rest47 n q b s h h0
  | 48, _, h => exact rest48 n q b s h h0
  | 49, _, h => exact rest49 n q b s h h0
  | 50, _, h => exact rest50 n q b s h h0
  | 51, _, h => exact rest51 n q b s h h0
  | 52, _, h => exact rest52 n q b s h h0
  | 53, _, h => exact rest53 n q b s h h0
  | 54, _, h => exact rest54 n q b s h h0
  | 55, _, h => exact rest55 n q b s h h0
  | 56, _, h => exact rest56 n q b s h h0
  | 57, _, h => exact rest57 n q b s h h0
  | 58, _, h => exact rest58 n q b s h h0
  | 59, _, h => exact rest59 n q b s h h0
  | 60, _, h => exact rest60 n q b s h h0
  | 61, _, h => exact rest61 n q b s h h0
  | 62, _, h => exact rest62 n q b s h h0
  | 63, _, h => exact rest63 n q b s h h0
  | r + 64, hr, _ => omega
theorem whole_eq {n : Nat} (hn : n < 1099511627776) : wholeI n = .ofNat (64 * (n / 64)) := by
  unfold wholeI
  have h1 : (Int.ofNat n).tdiv 64 = Int.ofNat (n / 64) := rfl
  rw [h1, wrap_nat (by omega)]
  have h2 : Int.ofNat (n / 64) * 64 = Int.ofNat (64 * (n / 64)) := by show ((n / 64 : Nat) : Int) * 64 = ((64 * (n / 64) : Nat) : Int); omega
  rw [h2, wrap_nat (by omega)]
theorem body (hs : CallsOK Try.prog sm) (hE : Env.Ok Try.prog E3) (n : Nat) (b : Nat → Int) (h0 : 0 < n) (hn : n < 1099511627776) :
    Trip Try.prog 1 none (.seq k0 (.seq k1 (.seq k2 (.seq k3 (.seq (.seq k4 (.block 0 (.loop B0))) rest))))) (F0 n) (stZ ((List.range n).map b)) (outcome (good (outI (sumZ n b)))) := by
  refine Trip.seqC hE hs (n := 20) _ _ (e0 n 0 b) ?_
  refine Trip.seqC hE hs (n := 20) _ _ (e1 n 0 b) ?_
  refine Trip.seqC hE hs (n := 20) _ _ (e2 n 0 b) ?_
  refine Trip.seqC hE hs (n := 20) _ _ (e3 n 0 b) ?_
  rw [whole_eq hn]
  refine Trip.seq (Trip.seqC hE hs (n := 20) _ _ (e4 n 0 b _) (loop0 hs hE n b hn)) ?_ ?_
  · rintro fr' st' ⟨_, h1, h2⟩
    refine Trip.less (Wk.can 1 [0, 2, 3, 4, 5, 6] [0, 1, 2, 3] fr' st') ?_
    simp only at h1 h2
    rw [h1, h2]
    exact Trip.run hE hs (rest_all n (n / 64) (n % 64) b (headZ b (n / 64)) (Nat.mod_lt _ (by omega)) (by omega) h0)
  · rintro e fr' st' hne ⟨h, _⟩
    exact absurd h hne
theorem sum_row (hs : CallsOK Try.prog sm) (hE : Env.Ok Try.prog E3) (n : Nat) (b : Nat → Int) (h0 : 0 < n) (hn : n < 1099511627776) : AtRow Try.prog 59 [] ((List.range n).map b) (outI (sumZ n b)) := by
  intro B w0 ι w args' hB h1 h2
  have hfr : ({ m := putArgs [.slice (some (0, 0)) n (.atl n)] 0 .e, n := Try.f59.ntmps, defs := [] } : AFr) = F0 n := by kernel_rfl
  have hlen : ((List.range n).map b).length = n := by simp
  rw [hlen] at h2
  refine (Trip.call hE (fn := Try.f59) (by kernel_rfl) shape (args := [.slice (some (0, 0)) n (.atl n)]) (by kernel_rfl) (R := fun v => v.1 = outI (sumZ n b)) ?_ B hB w0 ι w args' h1 h2)
  rw [hfr]
  refine (body hs hE n b h0 hn).mono ?_
  rintro r ⟨hr, ha⟩
  obtain ⟨st, hst⟩ := ans_some ha
  exact ⟨.inr hr, _, hst, rfl⟩
end Go.Proofs.Ytlnohbilfogheaa.sumPart
end
section
namespace Go.Proofs.Ytlnohbilfogheaa.sumPart
open Go.Ax Go.RowKit
theorem press_runZ (s : S8) (b : Nat → Int) : ans ((M shaPart.E2 (drawA shaPart.E2) noSum 40).call 92 [shaKv, s.av, .slice (some (0, 0)) 64 (.atl 64)] (stZ ((List.range 64).map b))) = some (pressZ s ((List.range 64).map b)).av := by kernel_rfl
theorem press_okZ : CallsOK Try.prog (sumPressZ 92) := sumPressZ_ok shaPart.E2ok noSum_ok press_runZ
theorem sm_ok : CallsOK Try.prog sm := orC_ok (sumC_ok (l := [⟨91, [], shaKv⟩]) ⟨shaPart.consts, trivial⟩) press_okZ
theorem E3ok : Env.Ok Try.prog E3 := envEx_ok (fs := [(59, Try.f59)]) (xs := []) ⟨⟨Try.func59, Try.call59⟩, trivial⟩ trivial shaPart.mixed
theorem sum_ok : CallsOK Try.prog (sumSumZ 59) := sumSumZ_ok (fun n b h0 hn => sum_row sm_ok E3ok n b h0 hn)
end Go.Proofs.Ytlnohbilfogheaa.sumPart
end
end
