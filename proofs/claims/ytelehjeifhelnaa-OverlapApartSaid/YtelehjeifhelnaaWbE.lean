/-
  OWN WORK, A PART: an abstract machine for the program's text that the kernel can run, and the proof that it is sound: what it answers is what the program answers; contracts of functions by it. No condition.
-/
import Derived.Test.YtelehjeifhelnaaWbD
section
open Go Go.Ax Go.Proofs
namespace Go.Proofs.Ytelehjeifhelnaa.ovp
set_option linter.unusedVariables false
theorem EOok : Env.Ok Try.prog EO := envEx_ok (xs := []) ⟨⟨Try.func9, Try.call9⟩, trivial⟩ trivial (by kernel_rfl)
theorem Trip.endW {P : Program} {kb : Nat} {ro : Option Nat} {fr : AFr} {st : ASt} {c : Code} {kf ko : List Nat} {e : Exit} {F F' : AFr} {S S' : ASt} (h : Trip P kb ro c fr st fun r => canR kf ko r = (e, F, S)) (hw : Wk kb F S F' S') : Trip P kb ro c fr st fun r => r = (e, F', S') :=
  Trip.weak h fun r hr => by
    obtain ⟨r1, r2, r3⟩ := r
    simp only [canR, Prod.mk.injEq] at hr
    obtain ⟨rfl, rfl, rfl⟩ := hr
    exact ⟨_, _, Wk.trans (Wk.can _ _ _ _ _) hw, rfl⟩
theorem eqF_comm (a b : Int) : eqF a b = eqF b a := by
  rw [eqF_eq, eqF_eq]
  exact Bool.beq_comm
theorem hindB_comm (a b : RQ) : hindB a b = hindB b a := by
  unfold hindB
  rw [eqF_comm a.blk b.blk]
  cases a.wr <;> cases b.wr <;> cases ltF a.blk (.ofNat 0) <;> cases ltF b.blk (.ofNat 0) <;> rfl
theorem negB_eq (b : Int) : (bif ltF b (.ofNat 0) then Int.negSucc 0 else b) = negB b := by
  unfold negB
  rw [ltF_eq, ltF_eq]
  show (bif decide (b < (0 : Int)) then (-1 : Int) else b) = (bif decide (b < (-1 : Int)) then (-1 : Int) else b)
  by_cases h : b < (-1 : Int)
  · have h2 : b < (0 : Int) := by omega
    rw [decide_eq_true h, decide_eq_true h2]
  · by_cases h2 : b < (0 : Int)
    · have : b = (-1 : Int) := by omega
      subst this
      rfl
    · rw [decide_eq_false h, decide_eq_false h2]
theorem gt63 (b : Int) : ltF (.ofNat 63) b = !ltF b (.ofNat 64) := by
  rw [ltF_eq, ltF_eq]
  show decide ((63 : Int) < b) = !decide (b < (64 : Int))
  by_cases h : b < (64 : Int)
  · have h2 : ¬ (63 : Int) < b := by omega
    rw [decide_eq_true h, decide_eq_false h2]; rfl
  · have h2 : (63 : Int) < b := by omega
    rw [decide_eq_false h, decide_eq_true h2]; rfl
def dropQ (l : List RQ) (m : Int) : List RQ := l.eraseP (findP m)
def stepT (kd m b : Int) (w : Bool) (l : List RQ) : List RQ :=
  bif eqF kd (.ofNat 1) then (bif ltF b (.ofNat 64) then (bif l.any (findP m) then l else plusQ l m b w) else l)
  else bif eqF kd (.ofNat 2) then (bif l.any (findP m) then (promP (dropQ l m)).1 else l)
  else bif eqF kd (.ofNat 3) then [] else l
def Vw (k : Nat) (l : List RQ) : AV := bif l.isEmpty then nilA else slW k l.length
noncomputable def Ww (l : List RQ) : AO := bif l.isEmpty then .dead else .cells (l.flatMap enc4) true
theorem Ww_came (l : List RQ) : Came (Ww l) := by
  cases l with
  | nil => exact .inl rfl
  | cons x l => exact .inr ⟨_, _, rfl, enc4_refs⟩
theorem TabV.came {k : Nat} {l : List RQ} {V : AV} {R : AO} (h : TabV k l V R) : Came R := by
  cases h with
  | row h => exact h.came true
  | nil => exact .inl rfl
  | zero => exact .inr ⟨_, _, rfl, fun c hc => by cases hc⟩
noncomputable def finF (V : AV) : AFr := xFr [(6, V), (7, .bool true)] 183
noncomputable def finS (T N W : AO) : ASt := mkSt [(0, T), (1, .dead), (2, .dead), (3, N), (4, W)] 5
def DoT (F : AFr) (S : ASt) (l : List RQ) : Prop := ∃ V N, TabV 3 l V N ∧ Trip Try.prog 3 none c9 F S fun r => r = (.ret, finF (Vw 4 l), finS (tob V) N (Ww l))
def KO99 : List Nat := [0, 1, 2, 3, 4, 5, 6, 7, 8, 9, 10, 11, 12, 13, 14, 15, 16, 17, 18, 19, 20, 21, 22, 23, 24, 25, 26, 27, 28, 29, 30, 31, 32, 33, 34, 35, 36, 37, 38, 39, 40, 41, 42, 43, 44, 45, 46, 47, 48, 49, 50, 51, 52, 53, 54, 55, 56, 57, 58, 59, 60, 61, 62, 63, 64, 65, 66, 67, 68, 69, 70, 71, 72, 73, 74, 75, 76, 77, 78, 79, 80, 81, 82, 83, 84, 85, 86, 87, 88, 89, 90, 91, 92, 93, 94, 95, 96, 97, 98, 99]
section
variable {l : List RQ} {m b kd : Int} {w : Bool} {V : AV} {R : AO} {S : ASt} {T D : List RQ} {x : RQ}
theorem tab_ren (hT : TabV 1 l V R) : ∃ V', TabV 3 l V' R ∧ renO [0, 1000, 1001, 1, 2] (tob V) = some (tob V') := by
  cases hT with
  | row h => exact ⟨_, .row h, by kernel_rfl⟩
  | nil => exact ⟨_, .nil, by kernel_rfl⟩
  | zero => exact ⟨_, .zero, by kernel_rfl⟩
theorem held9u {nx : Nat} {A : AO} {V' : AV} (hT : TabV 1 l V R) (hr : renO [0, 1000, 1001, 1, 2] (tob V) = some (tob V')) (hn : okMask nx [0, 1, 2, 1, 2] [0, 1000, 1001, 1, 2] = true) :
    Wk 3 (xFr [(6, Vw 2 l), (7, .bool true)] 183) (mkSt [(0, tob V), (1, R), (2, Ww l), (3, A)] nx) (finF (Vw 4 l)) (finS (tob V') R (Ww l)) := by
  have hs : StP [0, 1000, 1001, 1, 2] (mkSt [(0, tob V), (1, R), (2, Ww l), (3, A)] nx) [(0, tob V'), (1, .dead), (2, .dead), (3, R), (4, Ww l)] :=
    .cons 0 _ rfl (by kernel_rfl : _ = some (tob V)) (.of hr) (.dead (j := 1) (by show 1 < 5; decide) (.dead (j := 2) (by show 2 < 5; decide) (.came hT.came rfl (by kernel_rfl) (.came (Ww_came l) rfl (by kernel_rfl) .nil))))
  have hf : frE [0, 1000, 1001, 1, 2] (xFr [(6, Vw 2 l), (7, .bool true)] 183) [6, 7] = some [(6, Vw 4 l), (7, .bool true)] := by
    cases l <;> kernel_rfl
  exact Wk.heldM (kb := 3) [0, 1, 2, 1, 2] [0, 1000, 1001, 1, 2] (by kernel_rfl) hn (by kernel_rfl) [6, 7] hf hs
theorem at_w (hl : l.length < 100000) (hS : S.h.get 2 = some (Ww l)) : Call1 Try.prog 37 [Vw 2 l, .int .u64 m] S (.int .i64 (idxV (findP m) l), S) := by
  cases l with
  | nil => exact at_nil
  | cons x l => exact at_any (by omega) (by simp) ⟨_, true, hS, by have := fm_all (enc := enc4) enc4_len (l := x :: l); rw [fm_len enc4_len]; exact this⟩
theorem tabO {tab : List (Nat × List AV × ASt × (AV × ASt))} (h : ∀ e, e ∈ tab → Call1 Try.prog e.1 e.2.1 e.2.2.1 e.2.2.2) : CallsOK Try.prog (smO (tabC tab)) := onlyC_ok (tabC_ok h)
theorem tabO1 {f : Nat} {a : List AV} {S : ASt} {r : AV × ASt} (h : Call1 Try.prog f a S r) : CallsOK Try.prog (smO (tabC [(f, a, S, r)])) := tabO fun e he => by
  simp only [List.mem_cons, List.not_mem_nil, or_false] at he
  subst he; exact h
theorem tabO2 {f g : Nat} {a a' : List AV} {S S' : ASt} {r r' : AV × ASt} (h : Call1 Try.prog f a S r) (h' : Call1 Try.prog g a' S' r') : CallsOK Try.prog (smO (tabC [(f, a, S, r), (g, a', S', r')])) := tabO fun e he => by
  simp only [List.mem_cons, List.not_mem_nil, or_false] at he
  rcases he with rfl | rfl
  · exact h
  · exact h'
theorem tabO3 {f g k : Nat} {a a' a'' : List AV} {S S' S'' : ASt} {r r' r'' : AV × ASt} (h : Call1 Try.prog f a S r) (h' : Call1 Try.prog g a' S' r') (h'' : Call1 Try.prog k a'' S'' r'') : CallsOK Try.prog (smO (tabC [(f, a, S, r), (g, a', S', r'), (k, a'', S'', r'')])) := tabO fun e he => by
  simp only [List.mem_cons, List.not_mem_nil, or_false] at he
  rcases he with rfl | rfl | rfl
  · exact h
  · exact h'
  · exact h''
theorem kindQ {k : Int} {t : Nat} (h : ∀ z : Int, aBin EO .eql 3 (.tmp t) (.const (.int .i64 k)) (.int .i64 z) (.int .i64 k) = some (.bool (eqF z k))) (hk : eqF kd k = false) : still S (aBin EO .eql 3 (.tmp t) (.const (.int .i64 k)) (.int .i64 kd) (.int .i64 k)) = some (.bool false, S) := by
  rw [h, hk]; rfl
theorem do_other (hT : TabV 1 l V R) (hl : l.length < 100000) (h1 : eqF kd (.ofNat 1) = false) (h2 : eqF kd (.ofNat 2) = false) (h3 : eqF kd (.ofNat 3) = false) : DoT (fr9a (Vw 2 l) kd m b w) (S9 (tob V) R (Ww l)) l := by
  obtain ⟨V', hT', hr⟩ := tab_ren hT
  exact ⟨V', R, hT', Trip.endW (kf := [6, 7]) (ko := KO99) (Trip.runY EOok (tabO1 (at_w (m := m) (S := vcO0_s0 kd m b w (tob V) R (Ww l)) hl (by kernel_rfl))) (Eq.mp (vcO0 (tabC [_]) (Vw 2 l) kd m b (idxV (findP m) l) w (tob V) R (Ww l) (fun r => r = (.ret, xFr [(6, Vw 2 l), (7, .bool true)] 183, vcO0_s0 kd m b w (tob V) R (Ww l))))
    ⟨call_at (onlyC_at rfl (tabC_hd ..)), kindQ (fun z => by kernel_rfl) h1, kindQ (fun z => by kernel_rfl) h2, kindQ (fun z => by kernel_rfl) h3, rfl⟩)) (held9u (nx := 4) hT hr (by kernel_rfl))⟩
theorem gtQ {t : Nat} {y : Bool} (h : ∀ z : Int, aBin EO .gtr 3 (.tmp t) (.const (.int .i64 63)) (.int .i64 z) (.int .i64 (.ofNat 63)) = some (.bool (ltF (.ofNat 63) z))) (hb : ltF b (.ofNat 64) = !y) : still S (aBin EO .gtr 3 (.tmp t) (.const (.int .i64 63)) (.int .i64 b) (.int .i64 (.ofNat 63))) = some (.bool y, S) := by
  rw [h, gt63, hb, Bool.not_not]; rfl
theorem geQ {t : Nat} {y : Bool} (h : ∀ z : Int, aBin EO .geq 3 (.tmp t) (.const (.int .i64 0)) (.int .i64 z) (.int .i64 (.ofNat 0)) = some (.bool (!ltF z (.ofNat 0)))) (hb : l.any (findP m) = y) : still S (aBin EO .geq 3 (.tmp t) (.const (.int .i64 0)) (.int .i64 (idxV (findP m) l)) (.int .i64 (.ofNat 0))) = some (.bool y, S) := by
  rw [h, idx_any_neg, hb]; rfl
theorem lsQ {t : Nat} {y : Bool} (h : ∀ z : Int, aBin EO .lss 3 (.tmp t) (.const (.int .i64 0)) (.int .i64 z) (.int .i64 (.ofNat 0)) = some (.bool (ltF z (.ofNat 0)))) (hb : l.any (findP m) = !y) : still S (aBin EO .lss 3 (.tmp t) (.const (.int .i64 0)) (.int .i64 (idxV (findP m) l)) (.int .i64 (.ofNat 0))) = some (.bool y, S) := by
  have := idx_any_neg (p := findP m) (l := l)
  rw [hb] at this
  have h2 : ltF (idxV (findP m) l) (.ofNat 0) = y := by
    cases hh : ltF (idxV (findP m) l) (.ofNat 0) <;> rw [hh] at this <;> cases y <;> first | rfl | cases this
  rw [h, h2]; rfl
theorem do_arg (hT : TabV 1 l V R) (hl : l.length < 100000) (hb : ltF b (.ofNat 64) = false) : DoT (fr9a (Vw 2 l) (.ofNat 1) m b w) (S9 (tob V) R (Ww l)) l := by
  obtain ⟨V', hT', hr⟩ := tab_ren hT
  exact ⟨V', R, hT', Trip.endW (kf := [6, 7]) (ko := KO99) (Trip.runY EOok (tabO2 (at_w (m := m) (S := vcO1_s0 m b w (tob V) R (Ww l)) hl (by kernel_rfl)) (come_no (m := m) (b := b) (w := w) (e := 2) (W := Ww l) (A := .cells [.int .i64 (.ofNat 1), .int .u64 m, .int .i64 b, .bool w] true) hT hl (.inl ⟨hb, rfl⟩))) (Eq.mp (vcO1 (tabC [_, _]) (Vw 2 l) m b (idxV (findP m) l) w (tob V) R (Ww l) (tob V) R (fun r => r = (.ret, xFr [(6, Vw 2 l), (7, .bool true)] 183, vcO1_s1 m b w (Ww l) (tob V) R)))
    ⟨call_at (onlyC_at rfl (tabC_hd ..)), call_at (onlyC_at rfl ((tabC_tlf rfl).trans (tabC_hd ..))), gtQ (fun z => by kernel_rfl) hb, rfl⟩)) (held9u (nx := 44) hT hr (by kernel_rfl))⟩
theorem do_exists (hT : TabV 1 l V R) (hl : l.length < 100000) (hb : ltF b (.ofNat 64) = true) (hm : l.any (findP m) = true) : DoT (fr9a (Vw 2 l) (.ofNat 1) m b w) (S9 (tob V) R (Ww l)) l := by
  obtain ⟨V', hT', hr⟩ := tab_ren hT
  exact ⟨V', R, hT', Trip.endW (kf := [6, 7]) (ko := KO99) (Trip.runY EOok (tabO2 (at_w (m := m) (S := vcO2_s0 m b w (tob V) R (Ww l)) hl (by kernel_rfl)) (come_no (m := m) (b := b) (w := w) (e := 7) (W := Ww l) (A := .cells [.int .i64 (.ofNat 1), .int .u64 m, .int .i64 b, .bool w] true) hT hl (.inr ⟨hb, hm, rfl⟩))) (Eq.mp (vcO2 (tabC [_, _]) (Vw 2 l) m b (idxV (findP m) l) w (tob V) R (Ww l) (tob V) R (fun r => r = (.ret, xFr [(6, Vw 2 l), (7, .bool true)] 183, vcO2_s1 m b w (Ww l) (tob V) R)))
    ⟨call_at (onlyC_at rfl (tabC_hd ..)), call_at (onlyC_at rfl ((tabC_tlf rfl).trans (tabC_hd ..))), gtQ (fun z => by kernel_rfl) hb, geQ (fun z => by kernel_rfl) hm, rfl⟩)) (held9u (nx := 44) hT hr (by kernel_rfl))⟩
theorem do_none (hT : TabV 1 l V R) (hl : l.length < 100000) (hm : l.any (findP m) = false) : DoT (fr9a (Vw 2 l) (.ofNat 2) m b w) (S9 (tob V) R (Ww l)) l := by
  obtain ⟨V', hT', hr⟩ := tab_ren hT
  exact ⟨V', R, hT', Trip.endW (kf := [6, 7]) (ko := KO99) (Trip.runY EOok (tabO2 (at_w (m := m) (S := vcO5_s0 m b w (tob V) R (Ww l)) hl (by kernel_rfl)) (done_no (m := m) (W := Ww l) (A := .cells [.int .i64 (.ofNat 2), .int .u64 m, .int .i64 b, .bool w] true) hT hl hm)) (Eq.mp (vcO5 (tabC [_, _]) (Vw 2 l) m b (idxV (findP m) l) w (tob V) R (Ww l) (tob V) R (fun r => r = (.ret, xFr [(6, Vw 2 l), (7, .bool true)] 183, vcO5_s1 m b w (Ww l) (tob V) R)))
    ⟨call_at (onlyC_at rfl (tabC_hd ..)), call_at (onlyC_at rfl ((tabC_tlf rfl).trans (tabC_hd ..))), lsQ (fun z => by kernel_rfl) hm, rfl⟩)) (held9u (nx := 44) hT hr (by kernel_rfl))⟩
end
end Go.Proofs.Ytelehjeifhelnaa.ovp
end

section
open Go Go.Ax Go.Proofs
namespace Go.Proofs.Ytelehjeifhelnaa.ovp
set_option linter.unusedVariables false
theorem ol27 : sliceT EO 27 = some 4 := by kernel_rfl
theorem oc4 : cellT EO 4 = true := by kernel_rfl
theorem oc30 : cellT EO 30 = true := by kernel_rfl
theorem op27 : appT EO 27 27 = some (4, 24) := by kernel_rfl
theorem op42 : appT EO 42 42 = some (1, 8) := by kernel_rfl
section
variable {l : List RQ} {m b kd : Int} {w : Bool} {V : AV} {R : AO} {S : ASt} {T D : List RQ} {x : RQ} {k i n : Nat} {r : RQ} {cp : Cap}
theorem oidx (hi : i < n) : still S (aIndexAddr EO 27 (.slice (some (k, 0)) n cp) (.int .i64 (.ofNat i))) = some (.ptr (some (k, i * 4)), S) := by
  have := idx_at (E := EO) (t := 27) (i := k) (o := 0) (n := n) (c := cp) (kd := .i64) ol27 hi
  rw [Nat.zero_add] at this
  exact still_of this
theorem oload3 {rw : Bool} (hS : S.h.get k = some (.cells (l.flatMap enc4) rw)) (hr : l[i]? = some r) : aLoad EO 4 (.ptr (some (k, i * 4 + 3))) S = some (.bool r.way, S) := load_at oc4 hS (fm_get enc4_len hr rfl)
theorem oload0 {rw : Bool} (hS : S.h.get k = some (.cells (l.flatMap enc4) rw)) (hr : l[i]? = some r) : aLoad EO 30 (.ptr (some (k, i * 4 + 0))) S = some (.int .u64 r.num, S) := load_at oc30 hS (fm_get enc4_len hr rfl)
theorem rowAt {rw : Bool} (hS : S.h.get k = some (.cells (l.flatMap enc4) rw)) : RowIn S k l := ⟨_, rw, hS, by
  have := fm_all (enc := enc4) enc4_len (l := l)
  rw [fm_len enc4_len]; exact this⟩
theorem first_all {rw : Bool} (hS : S.h.get k = some (.cells (l.flatMap enc4) rw)) {cp : Cap} : aFirst S 4 l.length (.slice (some (k, 0)) l.length cp) = some (l.flatMap enc4) := first_at hS (fm_all enc4_len)
theorem free_last {rk : RQ} : freeV (fun r => hindB r rk) (l ++ [rk]) l.length = !l.any (hindB rk) := by
  unfold freeV
  rw [List.take_left]
  induction l with
  | nil => rfl
  | cons a l ih =>
    rw [List.all_cons, List.any_cons, ih]
    show (!hindB a rk && !l.any (hindB rk)) = _
    rw [hindB_comm a rk]
    cases hindB rk a <;> cases l.any (hindB rk) <;> rfl
theorem hindB_way {a : RQ} {y : Bool} : hindB (newQ m b w y) a = hindB (newQ m b w false) a := rfl
theorem set_last {rk : RQ} {y : Bool} : ((l ++ [rk]).flatMap enc4).set (l.length * 4 + 3) (.bool y) = (l ++ [{ rk with way := y }]).flatMap enc4 := by
  have h : (l ++ [rk])[l.length]? = some rk := by simp
  have := fm_set (enc := enc4) (z := 4) enc4_len h (k := 3) (v := .bool y) (r' := { rk with way := y }) (by decide) rfl
  rw [← this]
  congr 1
  simp
theorem held9n {j nx : Nat} {N1 W3 : AO} {ls : List (Nat × AO)} {n : Nat} (hj : j = 55 ∨ j = 56) (hn : nx ≤ 100) (h0 : (mkSt ls nx).h.get 0 = some (tob (slW 30 n))) (h1 : (mkSt ls nx).h.get 30 = some N1) (h2 : (mkSt ls nx).h.get j = some W3) (hN : Came N1) (hW : Came W3) :
    Wk 3 (xFr [(6, slW j n), (7, .bool true)] 183) (mkSt ls nx) (finF (slW 4 n)) (finS (tob (slW 3 n)) N1 W3) := by
  have key : ∀ (hd : preB 3 0 [0, 1, 2, 30, j] = true) (hm : okMask nx [0, 1, 2, 30, j] [0, 1, 2, 30, j] = true) (hnd : noDup [0, 1, 2, 30, j] = true) (hr : renO [0, 1, 2, 30, j] (tob (slW 30 n)) = some (tob (slW 3 n))) (hf : frE [0, 1, 2, 30, j] (xFr [(6, slW j n), (7, .bool true)] 183) [6, 7] = some [(6, slW 4 n), (7, .bool true)]), Wk 3 (xFr [(6, slW j n), (7, .bool true)] 183) (mkSt ls nx) (finF (slW 4 n)) (finS (tob (slW 3 n)) N1 W3) := fun hd hm hnd hr hf =>
    Wk.heldM (kb := 3) [0, 1, 2, 30, j] [0, 1, 2, 30, j] hd hm hnd [6, 7] hf (ls := [(0, tob (slW 3 n)), (1, .dead), (2, .dead), (3, N1), (4, W3)])
      (.cons 0 _ rfl h0 (.of hr) (.dead (j := 1) (by show 1 < 5; decide) (.dead (j := 2) (by show 2 < 5; decide) (.came hN rfl h1 (.came hW rfl h2 .nil)))))
  rcases hj with rfl | rfl <;> exact key (by kernel_rfl) (by kernel_rfl) (by kernel_rfl) (by kernel_rfl) (by kernel_rfl)
theorem hold2 : holdsO [(some (.int .u64 m), .int .u64 m), (some (.bool w), .bool w)] := ⟨⟨rfl, by simp [avEq]⟩, ⟨rfl, by cases w <;> rfl⟩, trivial⟩
theorem subQ {t : Nat} (h : ∀ z : Int, aBin EO .sub 3 (.tmp t) (.const (.int .i64 1)) (.int .i64 z) (.int .i64 (.ofNat 1)) = some (.int .i64 (wrapF .i64 (z - .ofNat 1)))) (hn : n < 1000000) : still S (aBin EO .sub 3 (.tmp t) (.const (.int .i64 1)) (.int .i64 (.ofNat (n + 1))) (.int .i64 (.ofNat 1))) = some (.int .i64 (.ofNat n), S) := by
  rw [h]
  have e : Int.ofNat (n + 1) - Int.ofNat 1 = Int.ofNat n := by show ((n + 1 : Nat) : Int) - 1 = (n : Int); omega
  rw [e, wrap_nat (by omega)]; rfl
theorem do_come1 (hT : TabV 1 l V R) (h0 : l ≠ []) (hl : l.length < 100000) (hb : ltF b (.ofNat 64) = true) (hm : l.any (findP m) = false) : DoT (fr9a (slW 2 l.length) (.ofNat 1) m b w) (S9 (tob V) R (.cells (l.flatMap enc4) true)) (plusQ l m b w) := by
  have hW : Ww l = .cells (l.flatMap enc4) true := by
    cases l with
    | nil => exact absurd rfl h0
    | cons _ _ => rfl
  have hVl : Vw 2 l = slW 2 l.length := by
    cases l with
    | nil => exact absurd rfl h0
    | cons _ _ => rfl
  have hln : 0 < l.length := List.length_pos_iff.2 h0
  have hatw : ∀ {S : ASt}, S.h.get 2 = some (.cells (l.flatMap enc4) true) → Call1 Try.prog 37 [slW 2 l.length, .int .u64 m] S (.int .i64 (idxV (findP m) l), S) := fun {S} h => by
    rw [← hVl]; exact at_w hl (by rw [hW]; exact h)
  have hcome := come_yes (W := .cells (l.flatMap enc4) true) (A := .cells [.int .i64 (.ofNat 1), .int .u64 m, .int .i64 b, .bool w] true) (m := m) (b := b) (w := w) hT hl hb hm
  generalize hy : (!l.any (hindB (newQ m b w false))) = y at hcome
  have hp : plusQ l m b w = l ++ [newQ m b w y] := by unfold plusQ; rw [hy]
  have hfl : ∀ {S : ASt}, S.h.get 56 = some (.cells ((l ++ [newQ m b w false]).flatMap enc4) true) → Call1 Try.prog 38 [slW 56 (l.length + 1), nI l.length] S (.bool y, S) := fun {S} h => by
    have h2 := free_any (k := l.length) (rk := newQ m b w false) (l := l ++ [newQ m b w false]) (S := S) (r := 56) (c := .rest 4) (by simp; omega) (by simp) (rowAt h)
    rw [free_last, hy, show (l ++ [newQ m b w false]).length = l.length + 1 by simp] at h2
    exact h2
  have hfin : ∀ {nx : Nat} {ls : List (Nat × AO)} (hn : nx ≤ 100) (h0 : (mkSt ls nx).h.get 0 = some (tob (slW 30 (l.length + 1)))) (h1 : (mkSt ls nx).h.get 30 = some (.cells ((plusQ l m b w).flatMap enc4) true)) (h2 : (mkSt ls nx).h.get 56 = some (.cells ((plusQ l m b w).flatMap enc4) true)),
      Wk 3 (xFr [(6, slW 56 (l.length + 1)), (7, .bool true)] 183) (mkSt ls nx) (finF (slW 4 (l.length + 1))) (finS (tob (slW 3 (l.length + 1))) (.cells ((plusQ l m b w).flatMap enc4) true) (.cells ((plusQ l m b w).flatMap enc4) true)) := fun hn h0 h1 h2 =>
    held9n (.inr rfl) hn h0 h1 h2 (.inr ⟨_, _, rfl, enc4_refs⟩) (.inr ⟨_, _, rfl, enc4_refs⟩)
  have e1 : (plusQ l m b w).length = l.length + 1 := by unfold plusQ; simp
  have e2 : Vw 4 (plusQ l m b w) = slW 4 (l.length + 1) := by
    rw [← e1]; unfold plusQ; cases l <;> rfl
  have e3 : Ww (plusQ l m b w) = .cells ((plusQ l m b w).flatMap enc4) true := by unfold plusQ; cases l <;> rfl
  have hrow : TabV 3 (plusQ l m b w) (slW 3 (plusQ l m b w).length) (.cells ((plusQ l m b w).flatMap enc4) true) := .row ⟨enc4_refs, by
    have := fm_all (enc := enc4) enc4_len (l := plusQ l m b w); rw [fm_len enc4_len]; exact this⟩
  have hap1 : ∀ {S S' : ASt}, S.next = 55 → S.h.get 2 = some (.cells (l.flatMap enc4) true) → S.add (.cells (l.flatMap enc4) true) = S' → aBuiltinM EO .append [27, 27] [nilA, slW 2 l.length] S = some (slW 55 l.length, S') := fun {S S'} hn hS h => by
    have := append_nil_at (n := l.length) op27 (x := slW 2 l.length) (st := S) rfl (first_all hS) hln (by omega) (by omega)
    rw [hn] at this
    rw [← h]; exact this
  have hap2 : ∀ {S S' : ASt} {rq : RQ}, S.next = 56 → S.h.get 52 = some (.cells (enc4 rq) true) → S.h.get 55 = some (.cells (l.flatMap enc4) true) → (S.put 55 .dead).add (.cells ((l ++ [rq]).flatMap enc4) true) = S' → aBuiltinM EO .append [27, 27] [slW 55 l.length, .slice (some (52, 0)) 1 (.known 1)] S = some (slW 56 (l.length + 1), S') := fun {S S' rq} hn hB hS h => by
    have := append_grow_at (l := l.length) (i := 55) (cs := l.flatMap enc4) (n := 1) (new := enc4 rq) op27 (x := .slice (some (52, 0)) 1 (.known 1)) (st := S) rfl (first_at (cs := enc4 rq) (rw := true) hB rfl) hS (fm_len enc4_len l) (by decide) (by decide) (by omega) (by omega)
    rw [hn] at this
    rw [← h, List.flatMap_append]
    simp only [List.flatMap_cons, List.flatMap_nil, List.append_nil]
    exact this
  have hneg : ltF b (.ofNat 0) = true → newQ m b w false = ⟨m, Int.negSucc 0, w, false⟩ := fun h => by
    unfold newQ
    rw [← negB_eq, h]; rfl
  have hpos : ltF b (.ofNat 0) = false → newQ m b w false = ⟨m, b, w, false⟩ := fun h => by
    unfold newQ
    rw [← negB_eq, h]; rfl
  have hst : ∀ {S S' : ASt}, S.h.get 56 = some (.cells ((l ++ [newQ m b w false]).flatMap enc4) true) → S.put 56 (.cells ((plusQ l m b w).flatMap enc4) true) = S' → Option.map (fun s => (undefA, s)) (aStore EO 4 (.ptr (some (56, l.length * 4 + 3))) (.bool y) S) = some (.tuple [], S') := fun {S S'} hS h => by
    rw [store_bool (by kernel_rfl) hS (by rw [fm_len enc4_len]; simp; omega), set_last, ← h, hp]; rfl
  have hld : ∀ {S : ASt}, S.h.get 56 = some (.cells ((plusQ l m b w).flatMap enc4) true) → aLoad EO 4 (.ptr (some (56, l.length * 4 + 3))) S = some (.bool y, S) := fun {S} h => by
    rw [hp] at h
    exact oload3 (rw := true) h (r := newQ m b w y) (by simp)
  have heq : ∀ {S : ASt}, still S (aBin EO .eql 4 (.tmp 86) (.tmp 93) (.bool y) (.bool y)) = some (.bool true, S) := fun {S} => by
    cases y <;> kernel_rfl
  refine ⟨_, _, hrow, ?_⟩
  rw [e1, e2, e3]
  refine Trip.weak (Q := fun r => (canR [6, 7] KO99 r = (.ret, xFr [(6, slW 56 (l.length + 1)), (7, .bool true)] 183, vcO3_s7 m b w (.cells (l.flatMap enc4) true) (tob (slW 30 (l.length + 1))) R (.cells ((plusQ l m b w).flatMap enc4) true) (.cells ((plusQ l m b w).flatMap enc4) true))) ∨ canR [6, 7] KO99 r = (.ret, xFr [(6, slW 56 (l.length + 1)), (7, .bool true)] 183, vcO3_s11 m b w (.cells (l.flatMap enc4) true) (tob (slW 30 (l.length + 1))) R (.cells ((plusQ l m b w).flatMap enc4) true) (.cells ((plusQ l m b w).flatMap enc4) true))) ?_ (fun r hr => ?_)
  · by_cases hs : ltF b (.ofNat 0) = true
    · exact Trip.runY EOok (tabO3 (hatw (S := vcO3_s0 m b w (tob V) R (.cells (l.flatMap enc4) true)) (by kernel_rfl)) hcome (hfl (S := vcO3_s5 m b w (.cells (l.flatMap enc4) true) (tob (slW 30 (l.length + 1))) R (.cells ((plusQ l m b w).flatMap enc4) true) (.cells ((l ++ [newQ m b w false]).flatMap enc4) true)) (by kernel_rfl)))
        (Eq.mp (vcO3 (tabC [_, _, _]) l.length m b (idxV (findP m) l) w y (tob V) R (.cells (l.flatMap enc4) true) (tob (slW 30 (l.length + 1))) R (.cells ((plusQ l m b w).flatMap enc4) true) (.cells (l.flatMap enc4) true) (.cells ((l ++ [newQ m b w false]).flatMap enc4) true) (.cells ((plusQ l m b w).flatMap enc4) true) (fun q => q = (.ret, xFr [(6, slW 56 (l.length + 1)), (7, .bool true)] 183, vcO3_s7 m b w (.cells (l.flatMap enc4) true) (tob (slW 30 (l.length + 1))) R (.cells ((plusQ l m b w).flatMap enc4) true) (.cells ((plusQ l m b w).flatMap enc4) true)) ∨ q = (.ret, xFr [(6, slW 56 (l.length + 1)), (7, .bool true)] 183, vcO3_s11 m b w (.cells (l.flatMap enc4) true) (tob (slW 30 (l.length + 1))) R (.cells ((plusQ l m b w).flatMap enc4) true) (.cells ((plusQ l m b w).flatMap enc4) true))))
          ⟨call_at (onlyC_at rfl (tabC_hd ..)), call_at (onlyC_at rfl ((tabC_tlf rfl).trans (tabC_hd ..))), gtQ (fun z => by kernel_rfl) hb, geQ (fun z => by kernel_rfl) hm,
            ifB_mk (fun g => ⟨hap1 rfl (by kernel_rfl) (by kernel_rfl), hap2 (rq := newQ m b w false) rfl (by rw [hneg g]; kernel_rfl) (by kernel_rfl) (by kernel_rfl), hold2, by kernel_rfl, subQ (fun z => by kernel_rfl) (by omega), by kernel_rfl, subQ (fun z => by kernel_rfl) (by omega), call_at (onlyC_at rfl ((tabC_tlf rfl).trans ((tabC_tlf rfl).trans (tabC_hd ..)))), oidx (by omega), hst (by kernel_rfl) (by kernel_rfl), by kernel_rfl, subQ (fun z => by kernel_rfl) (by omega), oidx (by omega), hld (by kernel_rfl), heq, .inl rfl⟩)
              (fun g => by rw [hs] at g; cases g)⟩)
    · have hs : ltF b (.ofNat 0) = false := by simpa using hs
      exact Trip.runY EOok (tabO3 (hatw (S := vcO3_s0 m b w (tob V) R (.cells (l.flatMap enc4) true)) (by kernel_rfl)) hcome (hfl (S := vcO3_s9 m b w (.cells (l.flatMap enc4) true) (tob (slW 30 (l.length + 1))) R (.cells ((plusQ l m b w).flatMap enc4) true) (.cells ((l ++ [newQ m b w false]).flatMap enc4) true)) (by kernel_rfl)))
        (Eq.mp (vcO3 (tabC [_, _, _]) l.length m b (idxV (findP m) l) w y (tob V) R (.cells (l.flatMap enc4) true) (tob (slW 30 (l.length + 1))) R (.cells ((plusQ l m b w).flatMap enc4) true) (.cells (l.flatMap enc4) true) (.cells ((l ++ [newQ m b w false]).flatMap enc4) true) (.cells ((plusQ l m b w).flatMap enc4) true) (fun q => q = (.ret, xFr [(6, slW 56 (l.length + 1)), (7, .bool true)] 183, vcO3_s7 m b w (.cells (l.flatMap enc4) true) (tob (slW 30 (l.length + 1))) R (.cells ((plusQ l m b w).flatMap enc4) true) (.cells ((plusQ l m b w).flatMap enc4) true)) ∨ q = (.ret, xFr [(6, slW 56 (l.length + 1)), (7, .bool true)] 183, vcO3_s11 m b w (.cells (l.flatMap enc4) true) (tob (slW 30 (l.length + 1))) R (.cells ((plusQ l m b w).flatMap enc4) true) (.cells ((plusQ l m b w).flatMap enc4) true))))
          ⟨call_at (onlyC_at rfl (tabC_hd ..)), call_at (onlyC_at rfl ((tabC_tlf rfl).trans (tabC_hd ..))), gtQ (fun z => by kernel_rfl) hb, geQ (fun z => by kernel_rfl) hm,
            ifB_mk (fun g => by rw [hs] at g; cases g) (fun g => ⟨hap1 rfl (by kernel_rfl) (by kernel_rfl), hap2 (rq := newQ m b w false) rfl (by rw [hpos g]; kernel_rfl) (by kernel_rfl) (by kernel_rfl), hold2, by kernel_rfl, subQ (fun z => by kernel_rfl) (by omega), by kernel_rfl, subQ (fun z => by kernel_rfl) (by omega), call_at (onlyC_at rfl ((tabC_tlf rfl).trans ((tabC_tlf rfl).trans (tabC_hd ..)))), oidx (by omega), hst (by kernel_rfl) (by kernel_rfl), by kernel_rfl, subQ (fun z => by kernel_rfl) (by omega), oidx (by omega), hld (by kernel_rfl), heq, .inr rfl⟩)⟩)
  · obtain ⟨r1, r2, r3⟩ := r
    rcases hr with hr | hr <;> simp only [canR, Prod.mk.injEq] at hr <;> obtain ⟨rfl, hr2, hr3⟩ := hr
    · refine ⟨_, _, Wk.trans (Wk.can _ [6, 7] KO99 _ _) ?_, rfl⟩
      rw [hr2, hr3]
      exact hfin (by decide) (by kernel_rfl) (by kernel_rfl) (by kernel_rfl)
    · refine ⟨_, _, Wk.trans (Wk.can _ [6, 7] KO99 _ _) ?_, rfl⟩
      rw [hr2, hr3]
      exact hfin (by decide) (by kernel_rfl) (by kernel_rfl) (by kernel_rfl)
end
end Go.Proofs.Ytelehjeifhelnaa.ovp
end

section
open Go Go.Ax Go.Proofs
namespace Go.Proofs.Ytelehjeifhelnaa.ovp
set_option linter.unusedVariables false
section
variable {l : List RQ} {m b kd : Int} {w : Bool} {V : AV} {R : AO} {S : ASt} {x : List Int} {j k : Nat}
theorem takeL_all {X : List AV} : takeL X 0 X.length = some X := by
  unfold takeL; simp
theorem same_any (hl : x.length < 4611686018427387904) (h1 : S.h.get j = some (Bn x)) (h2 : S.h.get k = some (Bn x)) : Call1 Try.prog 39 [Vr j x, Vr k x] S (.bool true, S) := by
  cases x with
  | nil =>
    have hrun : AtMem Try.prog 39 [nilA, nilA] (mkSt [] 0) (.bool true) := AtMem.of_tm ESok (fls := []) (rf := fl0) (n := 60) noSum_ok (y := .nil) (by
      have : ((.bool true : AV) = .bool true) = ((TM ES noSum [] fl0 60).call 39 [nilA, nilA] (mkSt [] 0)).allY (fun r => r.1 = .bool true) .nil := by kernel_rfl
      exact Eq.mp this rfl)
    exact read0 (A := nilA) (F := nilA) (by simp [refsV, nilA]) (by simp [refsV, nilA]) hrun (by simp [refsV])
  | cons y ys =>
    refine Call1.read (at39 (x := y :: ys) hl) (by simp [refsV]) (l := [(j, 0, (y :: ys).map cu), (k, 0, (y :: ys).map cu)]) rfl (fun i o hi => ?_) (fun i q hq => ?_) fun ι args' hv => ⟨hv.size, fun i z z' hz hz' => ?_⟩
    · rcases get2 hi with ⟨rfl, rfl⟩ | ⟨rfl, rfl⟩
      · exact ⟨_, rfl, rfl⟩
      · exact ⟨_, rfl, rfl⟩
    · have ht := takeL_all (X := (y :: ys).map cu)
      match i, hq with
      | 0, hq =>
        have h := Option.some.inj (hq : some (j, 0, (y :: ys).map cu) = some q)
        subst h; exact ⟨by simp, cu_refs, _, _, h1, ht⟩
      | 1, hq =>
        have h := Option.some.inj (hq : some (k, 0, (y :: ys).map cu) = some q)
        subst h; exact ⟨by simp, cu_refs, _, _, h2, ht⟩
      | i + 2, hq => simp at hq
    · match i, hz with
      | 0, hz => simp at hz; subst hz; exact VR.rowR (l := [(j, 0, (y :: ys).map cu), (k, 0, (y :: ys).map cu)]) (j := 0) rfl rfl rfl (hv.at_ 0 _ z' rfl hz')
      | 1, hz => simp at hz; subst hz; exact VR.rowR (l := [(j, 0, (y :: ys).map cu), (k, 0, (y :: ys).map cu)]) (j := 1) rfl rfl rfl (hv.at_ 1 _ z' rfl hz')
      | i + 2, hz => simp at hz
theorem append_none {cp : Cap} : aBuiltinM EO .append [27, 27] [nilA, nilA] S = some (nilA, S) := by kernel_rfl
theorem do_come0 (hT : TabV 1 [] V R) (hb : ltF b (.ofNat 64) = true) : DoT (fr9a nilA (.ofNat 1) m b w) (S9 (tob V) R .dead) (plusQ [] m b w) := by
  have hcome := come_yes (W := .dead) (A := .cells [.int .i64 (.ofNat 1), .int .u64 m, .int .i64 b, .bool w] true) (m := m) (b := b) (w := w) hT (by decide) hb rfl
  have hatw : ∀ {S : ASt}, Call1 Try.prog 37 [nilA, .int .u64 m] S (.int .i64 (-1), S) := at_nil
  have hfl : ∀ {S : ASt}, S.h.get 55 = some (.cells ([newQ m b w false].flatMap enc4) true) → Call1 Try.prog 38 [slW 55 1, nI 0] S (.bool true, S) := fun {S} h =>
    free_any (k := 0) (rk := newQ m b w false) (l := [newQ m b w false]) (S := S) (r := 55) (c := .rest 4) (by show 1 < 4611686018427387904; decide) rfl (rowAt h)
  have hrow : TabV 3 (plusQ [] m b w) (slW 3 1) (.cells ((plusQ [] m b w).flatMap enc4) true) := .row ⟨enc4_refs, by
    have := fm_all (enc := enc4) enc4_len (l := plusQ [] m b w); rw [fm_len enc4_len]; exact this⟩
  have hap2 : ∀ {S S' : ASt} {rq : RQ}, S.next = 55 → S.h.get 52 = some (.cells (enc4 rq) true) → S.add (.cells ([rq].flatMap enc4) true) = S' → aBuiltinM EO .append [27, 27] [nilA, .slice (some (52, 0)) 1 (.known 1)] S = some (slW 55 1, S') := fun {S S' rq} hn hB h => by
    have := append_nil_at (n := 1) (new := enc4 rq) op27 (x := .slice (some (52, 0)) 1 (.known 1)) (st := S) rfl (first_at (cs := enc4 rq) (rw := true) hB rfl) (by decide) (by decide) (by decide)
    rw [hn] at this
    rw [← h]
    exact this
  have hneg : ltF b (.ofNat 0) = true → newQ m b w false = ⟨m, Int.negSucc 0, w, false⟩ := fun h => by
    unfold newQ
    rw [← negB_eq, h]; rfl
  have hpos : ltF b (.ofNat 0) = false → newQ m b w false = ⟨m, b, w, false⟩ := fun h => by
    unfold newQ
    rw [← negB_eq, h]; rfl
  have hst : ∀ {S S' : ASt}, S.h.get 55 = some (.cells ([newQ m b w false].flatMap enc4) true) → S.put 55 (.cells ((plusQ [] m b w).flatMap enc4) true) = S' → Option.map (fun s => (undefA, s)) (aStore EO 4 (.ptr (some (55, 3))) (.bool true) S) = some (.tuple [], S') := fun {S S'} hS h => by
    rw [store_bool (by kernel_rfl) hS (by rw [fm_len enc4_len]; show 3 < 1 * 4; decide), ← h]; rfl
  have hld : ∀ {S : ASt}, S.h.get 55 = some (.cells ((plusQ [] m b w).flatMap enc4) true) → aLoad EO 4 (.ptr (some (55, 3))) S = some (.bool true, S) := fun {S} h =>
    oload3 (i := 0) (rw := true) h (r := newQ m b w true) rfl
  have heq : ∀ {S : ASt}, still S (aBin EO .eql 4 (.tmp 86) (.tmp 93) (.bool true) (.bool true)) = some (.bool true, S) := fun {S} => by kernel_rfl
  have hge : ∀ {S : ASt}, still S (aBin EO .geq 3 (.tmp 48) (.const (.int .i64 0)) (.int .i64 (-1)) (.int .i64 (.ofNat 0))) = some (.bool false, S) := fun {S} => by kernel_rfl
  have hix : ∀ {S : ASt}, still S (aIndexAddr EO 27 (slW 55 1) (.int .i64 (.ofNat 0))) = some (.ptr (some (55, 0)), S) := fun {S} => oidx (k := 55) (i := 0) (n := 1) (by decide)
  have hfin : ∀ {nx : Nat} {ls : List (Nat × AO)} (hn : nx ≤ 100) (h0 : (mkSt ls nx).h.get 0 = some (tob (slW 30 1))) (h1 : (mkSt ls nx).h.get 30 = some (.cells ((plusQ [] m b w).flatMap enc4) true)) (h2 : (mkSt ls nx).h.get 55 = some (.cells ((plusQ [] m b w).flatMap enc4) true)),
      Wk 3 (xFr [(6, slW 55 1), (7, .bool true)] 183) (mkSt ls nx) (finF (slW 4 1)) (finS (tob (slW 3 1)) (.cells ((plusQ [] m b w).flatMap enc4) true) (.cells ((plusQ [] m b w).flatMap enc4) true)) := fun hn h0 h1 h2 =>
    held9n (.inl rfl) hn h0 h1 h2 (.inr ⟨_, _, rfl, enc4_refs⟩) (.inr ⟨_, _, rfl, enc4_refs⟩)
  refine ⟨_, _, hrow, ?_⟩
  show Trip Try.prog 3 none c9 _ _ fun r => r = (.ret, finF (slW 4 1), finS (tob (slW 3 1)) (.cells ((plusQ [] m b w).flatMap enc4) true) (.cells ((plusQ [] m b w).flatMap enc4) true))
  by_cases hs : ltF b (.ofNat 0) = true
  · refine Trip.endW (kf := [6, 7]) (ko := KO99) (F := xFr [(6, slW 55 1), (7, .bool true)] 183) (S := vcO4_s6 m b w (tob (slW 30 1)) R (.cells ((plusQ [] m b w).flatMap enc4) true) (.cells ((plusQ [] m b w).flatMap enc4) true)) (Trip.runY EOok (tabO3 (hatw (S := vcO4_s0 m b w (tob V) R)) hcome (hfl (S := vcO4_s4 m b w (tob (slW 30 1)) R (.cells ((plusQ [] m b w).flatMap enc4) true) (.cells ([newQ m b w false].flatMap enc4) true)) (by kernel_rfl)))
      (Eq.mp (vcO4 (tabC [_, _, _]) m b (-1) w true (tob V) R (tob (slW 30 1)) R (.cells ((plusQ [] m b w).flatMap enc4) true) (.cells ([newQ m b w false].flatMap enc4) true) (.cells ((plusQ [] m b w).flatMap enc4) true) (fun q => q = (.ret, xFr [(6, slW 55 1), (7, .bool true)] 183, vcO4_s6 m b w (tob (slW 30 1)) R (.cells ((plusQ [] m b w).flatMap enc4) true) (.cells ((plusQ [] m b w).flatMap enc4) true))))
        ⟨call_at (onlyC_at rfl (tabC_hd ..)), call_at (onlyC_at rfl ((tabC_tlf rfl).trans (tabC_hd ..))), gtQ (fun z => by kernel_rfl) hb, hge,
          ifB_mk (fun g => ⟨append_none (cp := .known 0), hap2 (rq := newQ m b w false) rfl (by rw [hneg g]; kernel_rfl) (by kernel_rfl), hold2, call_at (onlyC_at rfl ((tabC_tlf rfl).trans ((tabC_tlf rfl).trans (tabC_hd ..)))), hix, hst (by kernel_rfl) (by kernel_rfl), hix, hld (by kernel_rfl), heq, rfl⟩)
            (fun g => by rw [hs] at g; cases g)⟩)) (hfin (by decide) (by kernel_rfl) (by kernel_rfl) (by kernel_rfl))
  · have hs : ltF b (.ofNat 0) = false := by simpa using hs
    refine Trip.endW (kf := [6, 7]) (ko := KO99) (F := xFr [(6, slW 55 1), (7, .bool true)] 183) (S := vcO4_s10 m b w (tob (slW 30 1)) R (.cells ((plusQ [] m b w).flatMap enc4) true) (.cells ((plusQ [] m b w).flatMap enc4) true)) (Trip.runY EOok (tabO3 (hatw (S := vcO4_s0 m b w (tob V) R)) hcome (hfl (S := vcO4_s8 m b w (tob (slW 30 1)) R (.cells ((plusQ [] m b w).flatMap enc4) true) (.cells ([newQ m b w false].flatMap enc4) true)) (by kernel_rfl)))
      (Eq.mp (vcO4 (tabC [_, _, _]) m b (-1) w true (tob V) R (tob (slW 30 1)) R (.cells ((plusQ [] m b w).flatMap enc4) true) (.cells ([newQ m b w false].flatMap enc4) true) (.cells ((plusQ [] m b w).flatMap enc4) true) (fun q => q = (.ret, xFr [(6, slW 55 1), (7, .bool true)] 183, vcO4_s10 m b w (tob (slW 30 1)) R (.cells ((plusQ [] m b w).flatMap enc4) true) (.cells ((plusQ [] m b w).flatMap enc4) true))))
        ⟨call_at (onlyC_at rfl (tabC_hd ..)), call_at (onlyC_at rfl ((tabC_tlf rfl).trans (tabC_hd ..))), gtQ (fun z => by kernel_rfl) hb, hge,
          ifB_mk (fun g => by rw [hs] at g; cases g) (fun g => ⟨append_none (cp := .known 0), hap2 (rq := newQ m b w false) rfl (by rw [hpos g]; kernel_rfl) (by kernel_rfl), hold2, call_at (onlyC_at rfl ((tabC_tlf rfl).trans ((tabC_tlf rfl).trans (tabC_hd ..)))), hix, hst (by kernel_rfl) (by kernel_rfl), hix, hld (by kernel_rfl), heq, rfl⟩)⟩)) (hfin (by decide) (by kernel_rfl) (by kernel_rfl) (by kernel_rfl))
theorem do_clear0 (hT : TabV 1 [] V R) : DoT (fr9a nilA (.ofNat 3) m b w) (S9 (tob V) R .dead) [] := by
  have hcl := clear_0 (W := .dead) (A := .cells [.int .i64 (.ofNat 3), .int .u64 m, .int .i64 b, .bool w] true) hT
  have hsm : Call1 Try.prog 39 [nilA, nilA] (vcCe_s1 m b w (tob nilA) R) (.bool true, vcCe_s1 m b w (tob nilA) R) := by
    have hrun : AtMem Try.prog 39 [nilA, nilA] (mkSt [] 0) (.bool true) := AtMem.of_tm ESok (fls := []) (rf := fl0) (n := 60) noSum_ok (y := .nil) (by
      have : ((.bool true : AV) = .bool true) = ((TM ES noSum [] fl0 60).call 39 [nilA, nilA] (mkSt [] 0)).allY (fun r => r.1 = .bool true) .nil := by kernel_rfl
      exact Eq.mp this rfl)
    exact read0 (by simp [refsV, nilA]) (by simp [refsV, nilA]) hrun (by simp [refsV])
  refine ⟨nilA, .dead, .nil, ?_⟩
  refine Trip.endW (kf := [6, 7]) (ko := KO99) (F := xFr [(6, nilA), (7, .bool true)] 183) (S := vcCe_s1 m b w (tob nilA) R) (Trip.runY EOok (tabO3 (at_nil (m := m) (S := vcCe_s0 m b w (tob V) R)) hcl hsm)
      (Eq.mp (vcCe (tabC [_, _, _]) nilA m b (-1) w (tob V) R (tob nilA) R (fun q => q = (.ret, xFr [(6, nilA), (7, .bool true)] 183, vcCe_s1 m b w (tob nilA) R)))
        ⟨call_at (onlyC_at rfl (tabC_hd ..)), call_at (onlyC_at rfl ((tabC_tlf rfl).trans (tabC_hd ..))), call_at (onlyC_at rfl ((tabC_tlf rfl).trans ((tabC_tlf rfl).trans (tabC_hd ..)))), rfl⟩)) ?_
  have hs : StP [0, 1, 2, 1003, 1004] (vcCe_s1 m b w (tob nilA) R) [(0, tob nilA), (1, .dead), (2, .dead), (3, .dead), (4, .dead)] :=
    .cons 0 _ rfl (by kernel_rfl : _ = some (tob nilA)) (.of (by kernel_rfl)) (.dead (j := 1) (by show 1 < 5; decide) (.dead (j := 2) (by show 2 < 5; decide) (.dead (j := 3) (by show 3 < 5; decide) (.dead (j := 4) (by show 4 < 5; decide) .nil))))
  exact Wk.heldM (kb := 3) [0, 1, 2, 1003, 1004] [0, 1, 2, 1003, 1004] (by kernel_rfl) (by kernel_rfl) (by kernel_rfl) [6, 7] (by kernel_rfl) hs
end
end Go.Proofs.Ytelehjeifhelnaa.ovp
end

section
open Go Go.Ax Go.Proofs
namespace Go.Proofs.Ytelehjeifhelnaa.ovp
set_option linter.unusedVariables false
section
variable {T U : List RQ} {c : List Int} {i n k : Nat} {r : RQ} {S : ASt} {T1 N O J : AO} {Vo : AV}
theorem free_eq {rk : RQ} : freeV (fun r => hindB r rk) U i = !(U.take i).any (hindB rk) := by
  unfold freeV
  generalize U.take i = l
  induction l with
  | nil => rfl
  | cons a l ih =>
    rw [List.all_cons, List.any_cons, ih]
    show (!hindB a rk && !l.any (hindB rk)) = _
    rw [hindB_comm a rk]
    cases hindB rk a <;> cases l.any (hindB rk) <;> rfl
noncomputable def rowW (U : List RQ) : AO := .cells (U.flatMap enc4) true
theorem rowW_came : Came (rowW U) := .inr ⟨_, _, rfl, enc4_refs⟩
structure Kept (T1 N O : AO) (n : Nat) : Prop where
  t : T1 = tob (slW 3 n)
  n : Came N
  o : Came O
theorem heldK {nx d j n0 : Nat} {V V' Vo : AV} {ls : List (Nat × AO)} {W : AO} (hK : Kept T1 N O n0) (hd : preB 3 0 [0, 1, 2, 3, 4, 5, d] = true) (hnd : noDup [0, 1, 2, 3, 4, 5, d] = true) (h0 : (mkSt ls nx).h.get 0 = some T1) (h3 : (mkSt ls nx).h.get 3 = some N) (h4 : (mkSt ls nx).h.get 4 = some O) (h5 : (mkSt ls nx).h.get 5 = some (rowW U)) (h6 : (mkSt ls nx).h.get d = some W) (hW : Came W)
    (hf : frE [0, 1, 2, 3, 4, 5, d] (fr9d Vo V n j) [1, 12, 13, 14, 15] = some [(1, slW 5 n), (12, Vo), (13, .int .i64 (.ofNat 0)), (14, V'), (15, nI j)]) :
    Wk 3 (fr9d Vo V n j) (mkSt ls nx) (fr9d Vo V' n j) (S9d T1 N O (rowW U) W) := by
  have hs : StP [0, 1, 2, 3, 4, 5, d] (mkSt ls nx) [(0, T1), (1, .dead), (2, .dead), (3, N), (4, O), (5, rowW U), (6, W)] := by
    obtain ⟨rfl, hn, ho⟩ := hK
    exact .cons 0 _ rfl h0 (.of rfl) (.dead (j := 1) (by show 1 < 7; decide) (.dead (j := 2) (by show 2 < 7; decide) (.came hn rfl h3 (.came ho rfl h4 (.came rowW_came rfl h5 (.came hW rfl h6 .nil))))))
  exact Wk.heldX (kb := 3) [0, 1, 2, 3, 4, 5, d] hd hnd [1, 12, 13, 14, 15] hf hs
def QK (Vo : AV) (T1 N O : AO) (U : List RQ) (c : List Int) (i : Nat) (q : Exit × AFr × ASt) : Prop := (i < U.length ∧ Stops 3 .normal (fr9d Vo (Vr 6 (stepP (U, c) i).2) U.length (i + 1)) (S9d T1 N O (rowW (stepP (U, c) i).1) (Bn (stepP (U, c) i).2)) q) ∨ (i = U.length ∧ Stops 3 (.exit 1) (fr9d Vo (Vr 6 c) U.length i) (S9d T1 N O (rowW U) (Bn c)) q)
theorem roundK {x : List Int} {n0 : Nat} (hK : Kept T1 N O n0) (hV : Vo = Vr 4 x) (hl : U.length < 100000) (hc : c.length < 100000) (hi : i ≤ U.length) : Trip Try.prog 3 none LK2 (fr9d Vo (Vr 6 c) U.length i) (S9d T1 N O (rowW U) (Bn c)) (QK Vo T1 N O U c i) := by
  have fin : ∀ {r : Exit × AFr × ASt}, QK Vo T1 N O U c i (canR [1, 12, 13, 14, 15] KO99 r) → QK Vo T1 N O U c i r := fun h => h.imp (fun h => ⟨h.1, h.2.can⟩) (fun h => ⟨h.1, h.2.can⟩)
  have hfr : ∀ {j : Nat}, frE [0, 1, 2, 3, 4, 5, 6] (fr9d Vo (Vr 6 c) U.length j) [1, 12, 13, 14, 15] = some [(1, slW 5 U.length), (12, Vo), (13, .int .i64 (.ofNat 0)), (14, Vr 6 c), (15, nI j)] := fun {j} => by
    subst hV
    cases x <;> cases c <;> kernel_rfl
  by_cases e : i < U.length
  · obtain ⟨r, hr⟩ : ∃ r, U[i]? = some r := ⟨_, List.getElem?_eq_getElem e⟩
    have e1 : wrapF .i64 (Int.ofNat i + Int.ofNat 1) = .ofNat (i + 1) := wI e (by omega)
    obtain ⟨num, blk, wr, way⟩ := r
    cases hy : way with
    | true =>
      subst hy
      have es : stepP (U, c) i = (U, c) := by unfold stepP; simp only [hr, cond_true]
      refine (Trip.runY EOok (sum := smO (tabC [])) (tabO fun e he => by cases he) (Eq.mp (vcKr (tabC []) Vo (Vr 6 c) U.length i T1 N O (rowW U) (Bn c) (QK Vo T1 N O U c i)) (ifB_mk (fun _ => ⟨oidx e, oload3 (rw := true) (by kernel_rfl) hr, .inl ⟨e, rfl, ?_⟩⟩) fun h => nlt' e h))).mono fun q hq => fin hq
      rw [e1, es]
      exact heldK (d := 6) hK (by kernel_rfl) (by kernel_rfl) (by kernel_rfl) (by kernel_rfl) (by kernel_rfl) (by kernel_rfl) (by kernel_rfl) (Bn_came c) hfr
    | false =>
      subst hy
      have hcall : ∀ {S : ASt}, S.h.get 5 = some (rowW U) → Call1 Try.prog 38 [slW 5 U.length, nI i] S (.bool (!(U.take i).any (hindB ⟨num, blk, wr, false⟩)), S) := fun h => by
        have := free_any (k := i) (rk := ⟨num, blk, wr, false⟩) (l := U) (r := 5) (c := .rest 4) (by omega) hr (rowAt h)
        rw [free_eq] at this
        exact this
      cases hh : (U.take i).any (hindB ⟨num, blk, wr, false⟩) with
      | true =>
        have es : stepP (U, c) i = (U, c) := by unfold stepP; simp only [hr, cond_false, hh, cond_true]
        refine (Trip.runY EOok (sum := smO (tabC [_])) (tabO1 (hcall (S := vcKs_s0 T1 N O (rowW U) (Bn c)) (by kernel_rfl))) (Eq.mp (vcKs (tabC [_]) Vo (Vr 6 c) U.length i T1 N O (rowW U) (Bn c) (QK Vo T1 N O U c i)) (ifB_mk (fun _ => ⟨oidx e, oload3 (rw := true) (by kernel_rfl) hr, call_at (onlyC_at rfl ((tabC_hd ..).trans (by rw [hh]; rfl))), .inl ⟨e, rfl, ?_⟩⟩) fun h => nlt' e h))).mono fun q hq => fin hq
        rw [e1, es]
        exact heldK (d := 6) hK (by kernel_rfl) (by kernel_rfl) (by kernel_rfl) (by kernel_rfl) (by kernel_rfl) (by kernel_rfl) (by kernel_rfl) (Bn_came c) hfr
      | false =>
        have es : stepP (U, c) i = (U.set i ⟨num, blk, wr, true⟩, c ++ [num]) := by unfold stepP; simp only [hr, cond_false, hh]
        have hset : rowW (U.set i ⟨num, blk, wr, true⟩) = .cells ((U.flatMap enc4).set (i * 4 + 3) (.bool true)) true := by
          unfold rowW
          rw [fm_set (enc := enc4) (z := 4) enc4_len hr (k := 3) (v := .bool true) (by decide) rfl]
        have hr2 : (U.set i ⟨num, blk, wr, true⟩)[i]? = some ⟨num, blk, wr, true⟩ := by simp [e]
        refine (Trip.runY EOok (sum := smO (tabC [_])) (tabO1 (hcall (S := vcKt_s0 T1 N O (rowW U) (Bn c)) (by kernel_rfl))) (Eq.mp (vcKt (tabC [_]) Vo (Vr 6 c) U.length i c.length num T1 N O (rowW U) (rowW (U.set i ⟨num, blk, wr, true⟩)) (Bn c) (.cells (c.map cu ++ [cu num]) true) (QK Vo T1 N O U c i)) (ifB_mk (fun _ => ⟨oidx e, oload3 (rw := true) (by kernel_rfl) hr, call_at (onlyC_at rfl ((tabC_hd ..).trans (by rw [hh]; rfl))), oidx e, ?_, oidx e, oload0 (l := U.set i ⟨num, blk, wr, true⟩) (rw := true) (by kernel_rfl) hr2, (push_at op42 (j := 7) (a := num) (by omega) (by kernel_rfl) (by kernel_rfl) rfl).trans ?_, .inl ⟨e, rfl, ?_⟩⟩) fun h => nlt' e h))).mono fun q hq => fin hq
        · rw [store_bool (by kernel_rfl) (cs := U.flatMap enc4) (by kernel_rfl) (by rw [fm_len enc4_len]; omega), hset]
          kernel_rfl
        · cases c <;> kernel_rfl
        · have e3 : (U.set i ⟨num, blk, wr, true⟩).length = U.length := List.length_set
          rw [e1, es, Vr_push, Bn_push]
          refine heldK (d := 8) hK (by kernel_rfl) (by kernel_rfl) (by kernel_rfl) (by kernel_rfl) (by kernel_rfl) (by kernel_rfl) (by kernel_rfl) push_came ?_
          subst hV
          cases x <;> kernel_rfl
  · have ek : i = U.length := by omega
    refine (Trip.runY EOok (sum := smO (tabC [])) (tabO fun e he => by cases he) (Eq.mp (vcKr (tabC []) Vo (Vr 6 c) U.length i T1 N O (rowW U) (Bn c) (QK Vo T1 N O U c i)) (ifB_mk (fun h => ?_) fun _ => .inr ⟨ek, rfl, Wk.refl _ _ _⟩))).mono fun q hq => fin hq
    rw [ltF_nn] at h
    exact absurd (of_decide_eq_true h) e
theorem loopK {x : List Int} {n0 : Nat} (hK : Kept T1 N O n0) (hV : Vo = Vr 4 x) (hl : T.length < 90000) : Trip Try.prog 3 none (.block 1 (.loop LK2)) (fr9d Vo nilA T.length 0) (S9d T1 N O (rowW T) .dead) (Stops 3 .normal (fr9d Vo (Vr 6 (promP T).2) T.length T.length) (S9d T1 N O (rowW (promP T).1) (Bn (promP T).2))) := by
  refine Trip.block (Trip.loop (fun μ fr st => ∃ j, j ≤ T.length ∧ μ = T.length - j ∧ fr = fr9d Vo (Vr 6 (promK T j).2) T.length j ∧ st = S9d T1 N O (rowW (promK T j).1) (Bn (promK T j).2)) ?_ T.length ⟨0, by omega, by omega, rfl, rfl⟩)
  rintro μ fr st ⟨j, hj, rfl, rfl, rfl⟩
  obtain ⟨h1, h2⟩ := promK_len (T := T) j
  have := roundK (U := (promK T j).1) (c := (promK T j).2) (i := j) hK hV (by omega) (by omega) (by omega)
  rw [h1] at this
  refine this.mono ?_
  rintro ⟨e, fr', st'⟩ (⟨h3, h4, h5⟩ | ⟨h3, h4, h5⟩)
  · simp only at h4
    subst h4
    refine ⟨T.length - (j + 1), _, _, by omega, h5, j + 1, by omega, rfl, ?_, ?_⟩
    · rw [promK_succ, h1]
    · rw [promK_succ]
  · simp only at h4
    subst h4
    have h6 : j = T.length := by omega
    subst h6
    rw [h1] at h5
    exact ⟨fun _ => ⟨rfl, h5⟩, fun h => absurd rfl h⟩
theorem shapeK2 : dropC 1 (dropC 1 K2) = .seq (.seq (seqL (seqL (dropC 3 K2))) (.block 1 (.loop LK2))) (dropC 4 K2) := by kernel_rfl
end
end Go.Proofs.Ytelehjeifhelnaa.ovp
end

section
open Go Go.Ax Go.Proofs
namespace Go.Proofs.Ytelehjeifhelnaa.ovp
set_option linter.unusedVariables false
section
variable {S : ASt} {b n i j : Nat} {cs : List AV} {rw : Bool}
theorem oslice_hi (hb : 0 < n) (hi : i ≤ n) : still S (aSlice EO 27 (.slice (some (b, 0)) n (.rest 4)) none (some (.int .i64 (.ofNat i))) none S) = some (.slice (some (b, 0)) i (.rest 4), S) := by
  have e : aSlice EO 27 (.slice (some (b, 0)) n (.rest 4)) none (some (.int .i64 (.ofNat i))) none S =
    (match (bif Nat.ble i (aRoom S b 0 4 n) then bif true then some (0, i, aRoom S b 0 4 n) else none else none : Option (Nat × Nat × Nat)) with
      | some (l, h, m) => bif Nat.blt l (aRoom S b 0 4 n) then some (.slice (some (b, 0 + l * 4)) (h - l) (.rest 4)) else bif Nat.beq l 0 then some (.slice (some (b, 0)) 0 (.rest 4)) else some .slice0
      | none => none) := by kernel_rfl
  have hr : n ≤ aRoom S b 0 4 n := Nat.le_of_ble_eq_true room_le
  have hlt : Nat.blt 0 (aRoom S b 0 4 n) = true := by rw [Nat.blt_eq]; omega
  rw [e, Nat.ble_eq_true_of_le (show i ≤ aRoom S b 0 4 n by omega), cond_true, cond_true]
  simp only [hlt, cond_true]
  rfl
theorem oslice_lo (hS : S.h.get b = some (.cells cs rw)) (hl : cs.length = n * 4) (hi : i < n) : still S (aSlice EO 27 (.slice (some (b, 0)) n (.rest 4)) (some (.int .i64 (.ofNat i))) none none S) = some (.slice (some (b, i * 4)) (n - i) (.rest 4), S) := by
  have e : aSlice EO 27 (.slice (some (b, 0)) n (.rest 4)) (some (.int .i64 (.ofNat i))) none none S =
    (match (bif true then bif Nat.ble i n then some (i, n, aRoom S b 0 4 n) else none else none : Option (Nat × Nat × Nat)) with
      | some (l, h, m) => bif Nat.blt l (aRoom S b 0 4 n) then some (.slice (some (b, 0 + l * 4)) (h - l) (.rest 4)) else bif Nat.beq l 0 then some (.slice (some (b, 0)) 0 (.rest 4)) else some .slice0
      | none => none) := by kernel_rfl
  have hlt : Nat.blt i (aRoom S b 0 4 n) = true := by rw [room_is hS (Nat.le_refl _) hl, Nat.blt_eq]; exact hi
  rw [e, Nat.ble_eq_true_of_le (show i ≤ n by omega), cond_true, cond_true]
  simp only [hlt, cond_true, Nat.zero_add]
  rfl
theorem oslice_end (hS : S.h.get b = some (.cells cs rw)) (hl : cs.length = n * 4) (hn : 0 < n) : still S (aSlice EO 27 (.slice (some (b, 0)) n (.rest 4)) (some (.int .i64 (.ofNat n))) none none S) = some (.slice0, S) := by
  have e : aSlice EO 27 (.slice (some (b, 0)) n (.rest 4)) (some (.int .i64 (.ofNat n))) none none S =
    (match (bif true then bif Nat.ble n n then some (n, n, aRoom S b 0 4 n) else none else none : Option (Nat × Nat × Nat)) with
      | some (l, h, m) => bif Nat.blt l (aRoom S b 0 4 n) then some (.slice (some (b, 0 + l * 4)) (h - l) (.rest 4)) else bif Nat.beq l 0 then some (.slice (some (b, 0)) 0 (.rest 4)) else some .slice0
      | none => none) := by kernel_rfl
  have hlt : Nat.blt n (aRoom S b 0 4 n) = false := by
    rw [room_is hS (Nat.le_refl _) hl]
    cases h : Nat.blt n n with
    | false => rfl
    | true => rw [Nat.blt_eq] at h; omega
  have h0 : Nat.beq n 0 = false := by
    cases n with
    | zero => omega
    | succ n => rfl
  rw [e, Nat.ble_eq_true_of_le (Nat.le_refl n), cond_true, cond_true]
  simp only [hlt, cond_false, h0]
  rfl
end
section
variable {A D : List RQ} {x : RQ} {T1 N O : AO} {Vo : AV} {y : List Int} {n0 : Nat}
theorem slEq {i o n : Nat} : avEq (.slice (some (i, o)) n (.rest 4)) (.slice (some (i, o)) n (.rest 4)) = true := by
  simp [avEq, locEq, capEq]
noncomputable def fr9f (V Vo : AV) : AFr := xFr [(1, V), (12, Vo), (13, .int .i64 (.ofNat 0))] 183
theorem heldKB {nx d : Nat} {V V' : AV} {ls : List (Nat × AO)} {W : AO} (hK : Kept T1 N O n0) (hd : preB 3 0 [0, 1, 2, 3, 4, d, 1001] = true) (hnd : noDup [0, 1, 2, 3, 4, d, 1001] = true) (h0 : (mkSt ls nx).h.get 0 = some T1) (h3 : (mkSt ls nx).h.get 3 = some N) (h4 : (mkSt ls nx).h.get 4 = some O) (h5 : W = .dead ∨ (mkSt ls nx).h.get d = some W) (hW : Came W)
    (hf : frE [0, 1, 2, 3, 4, d, 1001] (fr9f V Vo) [1, 12, 13] = some [(1, V'), (12, Vo), (13, .int .i64 (.ofNat 0))]) :
    Wk 3 (fr9f V Vo) (mkSt ls nx) (fr9f V' Vo) (S9d T1 N O W .dead) := by
  have hs : StP [0, 1, 2, 3, 4, d, 1001] (mkSt ls nx) [(0, T1), (1, .dead), (2, .dead), (3, N), (4, O), (5, W), (6, .dead)] := by
    obtain ⟨rfl, hn, ho⟩ := hK
    refine .cons 0 _ rfl h0 (.of rfl) (.dead (j := 1) (by show 1 < 7; decide) (.dead (j := 2) (by show 2 < 7; decide) (.came hn rfl h3 (.came ho rfl h4 ?_))))
    rcases h5 with rfl | h5
    · exact .dead (j := 5) (by show 5 < 7; decide) (.dead (j := 6) (by show 6 < 7; decide) .nil)
    · exact .came hW rfl h5 (.dead (j := 6) (by show 6 < 7; decide) .nil)
  exact Wk.heldX (kb := 3) [0, 1, 2, 3, 4, d, 1001] hd hnd [1, 12, 13] hf hs
theorem cutK (hK : Kept T1 N O n0) (hV : Vo = Vr 4 y) (hl : (A ++ x :: D).length < 100000) : Trip Try.prog 3 none (preC 0 (dropC 1 K2)) (fr9c (slW 2 (A ++ x :: D).length) Vo A.length) (S9c T1 .dead (rowW (A ++ x :: D)) N O) (Stops 3 .normal (fr9f (Vw 5 (A ++ D)) Vo) (S9d T1 N O (Ww (A ++ D)) .dead)) := by
  have hlen : (A ++ x :: D).length = A.length + D.length + 1 := by rw [List.length_append, List.length_cons]; omega
  have fin : ∀ {V : AV} {d nx : Nat} {ls : List (Nat × AO)} {r : Exit × AFr × ASt}, canR [1, 12, 13] KO99 r = (.normal, fr9f V Vo, mkSt ls nx) → Wk 3 (fr9f V Vo) (mkSt ls nx) (fr9f (Vw 5 (A ++ D)) Vo) (S9d T1 N O (Ww (A ++ D)) .dead) → Stops 3 .normal (fr9f (Vw 5 (A ++ D)) Vo) (S9d T1 N O (Ww (A ++ D)) .dead) r := fun {V d nx ls r} h hw => by
    obtain ⟨r1, r2, r3⟩ := r
    simp only [canR, Prod.mk.injEq] at h
    obtain ⟨rfl, h2, h3⟩ := h
    refine ⟨rfl, Wk.trans (Wk.can 3 [1, 12, 13] KO99 _ _) ?_⟩
    rw [h2, h3]; exact hw
  have ap0 : ∀ {S : ASt}, S.h.get 2 = some (rowW (A ++ x :: D)) → aBuiltinM EO .append [27, 27] [nilA, slW 2 0] S = some (nilA, S) := fun {S} hS => by
    obtain ⟨ei, h1, h2, h⟩ := append_red (s := nilA) (x := slW 2 0) (st := S) (n := 0) (new := []) op27 rfl (first_at (rw := true) hS (by simp [takeL]))
    rw [h]; rfl
  cases A with
  | nil =>
    cases D with
    | nil =>
      have he : ∀ {S : ASt}, S.h.get 2 = some (rowW [x]) → still S (aSlice EO 27 (slW 2 1) (some (.int .i64 (.ofNat 1))) none none S) = some (.slice0, S) := fun h => oslice_end (n := 1) (rw := true) h (fm_len enc4_len _) (by decide)
      refine (Trip.runY EOok noSum_ok (Eq.mp (vcKb1 Vo T1 .dead (rowW [x]) N O (fun r => r = (.normal, fr9f nilA Vo, vcKb1_s0 T1 .dead (rowW [x]) N O))) ⟨oslice_hi (by decide) (by decide), ap0 (by kernel_rfl), he (by kernel_rfl), by kernel_rfl, ⟨⟨congrArg fstO (he (by kernel_rfl)), rfl⟩, trivial⟩, rfl⟩)).mono fun q hq => fin (d := 1000) hq ?_
      exact heldKB (d := 1000) hK (by kernel_rfl) (by kernel_rfl) (by kernel_rfl) (by kernel_rfl) (by kernel_rfl) (.inl rfl) (.inl rfl) (by subst hV; cases y <;> kernel_rfl)
    | cons d D =>
      have he : ∀ {S : ASt}, S.h.get 2 = some (rowW (x :: d :: D)) → still S (aSlice EO 27 (slW 2 ((d :: D).length + 1)) (some (.int .i64 (.ofNat 1))) none none S) = some (.slice (some (2, 4)) (d :: D).length (.rest 4), S) := fun h => oslice_lo (n := (d :: D).length + 1) (i := 1) (rw := true) h (fm_len enc4_len _) (by simp)
      have hl2 : (d :: D).length < 100000 := by simp only [List.nil_append, List.length_cons] at hl ⊢; omega
      have hap : ∀ {S : ASt}, S.next = 15 → S.h.get 2 = some (rowW (x :: d :: D)) → aBuiltinM EO .append [27, 27] [nilA, .slice (some (2, 4)) (d :: D).length (.rest 4)] S = some (slW 15 (d :: D).length, S.add (rowW (d :: D))) := fun {S} hn h => by
        have := append_nil_at (n := (d :: D).length) (new := (d :: D).flatMap enc4) op27 (x := .slice (some (2, 4)) (d :: D).length (.rest 4)) (st := S) rfl (first_at (rw := true) h (by
          have e := fm_takeL (enc := enc4) (z := 4) enc4_len (l := x :: d :: D) (a := 1) (n := (d :: D).length) (by simp; omega)
          rw [show (1 : Nat) * 4 = 4 from rfl] at e
          rw [e]
          congr 1
          simp)) (by simp) (by omega) (by omega)
        rw [hn] at this
        exact this
      refine (Trip.runY EOok noSum_ok (Eq.mp (vcKb2 Vo (d :: D).length T1 .dead (rowW (x :: d :: D)) N O (rowW (d :: D)) (fun r => r = (.normal, fr9f (slW 15 (d :: D).length) Vo, vcKb2_s1 T1 .dead (rowW (x :: d :: D)) N O (rowW (d :: D))))) ⟨oslice_hi (by simp) (by simp), ap0 (by kernel_rfl), he (by kernel_rfl), (hap rfl (by kernel_rfl)).trans (by kernel_rfl), ⟨⟨congrArg fstO (he (by kernel_rfl)), slEq⟩, trivial⟩, rfl⟩)).mono fun q hq => fin (d := 15) hq ?_
      exact heldKB (d := 15) hK (by kernel_rfl) (by kernel_rfl) (by kernel_rfl) (by kernel_rfl) (by kernel_rfl) (.inr (by kernel_rfl)) rowW_came (by subst hV; cases y <;> kernel_rfl)
  | cons a A =>
    have hla : (a :: A).length < 90000000 := by simp only [List.length_append] at hl ⊢; omega
    have e1 : wrapF .i64 (Int.ofNat (a :: A).length + Int.ofNat 1) = .ofNat ((a :: A).length + 1) := wI (n := (a :: A).length + 1) (by omega) (by omega)
    have hapA : ∀ {S : ASt}, S.next = 15 → S.h.get 2 = some (rowW (a :: A ++ x :: D)) → aBuiltinM EO .append [27, 27] [nilA, slW 2 (a :: A).length] S = some (slW 15 (a :: A).length, S.add (rowW (a :: A))) := fun {S} hn h => by
      have := append_nil_at (n := (a :: A).length) (new := (a :: A).flatMap enc4) op27 (x := slW 2 (a :: A).length) (st := S) rfl (first_at (rw := true) h (by
        have e := fm_takeL (enc := enc4) (z := 4) enc4_len (l := a :: A ++ x :: D) (a := 0) (n := (a :: A).length) (by simp)
        rw [Nat.zero_mul] at e
        rw [e, List.drop_zero, List.take_left])) (by simp) (by omega) (by omega)
      rw [hn] at this
      exact this
    cases D with
    | nil =>
      have he : ∀ {S : ASt}, S.h.get 2 = some (rowW (a :: A ++ [x])) → still S (aSlice EO 27 (slW 2 ((a :: A).length + 1)) (some (.int .i64 (wrapF .i64 (.ofNat (a :: A).length + .ofNat 1)))) none none S) = some (.slice0, S) := fun h => by
        rw [e1]
        exact oslice_end (n := (a :: A).length + 1) (rw := true) h (by rw [fm_len enc4_len]; simp) (by omega)
      rw [show (a :: A ++ [x]).length = (a :: A).length + 1 by simp, show a :: A ++ [] = a :: A by simp]
      refine (Trip.runY EOok noSum_ok (Eq.mp (vcKb3 Vo (a :: A).length T1 .dead (rowW (a :: A ++ [x])) N O (rowW (a :: A)) (fun r => r = (.normal, fr9f (slW 15 (a :: A).length) Vo, vcKb3_s1 T1 .dead (rowW (a :: A ++ [x])) N O (rowW (a :: A))))) ⟨oslice_hi (by omega) (by omega), (hapA rfl (by kernel_rfl)).trans (by kernel_rfl), he (by kernel_rfl), by kernel_rfl, ⟨⟨congrArg fstO (he (by kernel_rfl)), rfl⟩, trivial⟩, rfl⟩)).mono fun q hq => by
        have := fin (d := 15) (V := slW 15 (a :: A).length) (nx := 16) (ls := [(0, T1), (1, .dead), (2, rowW (a :: A ++ [x])), (3, N), (4, O), (15, rowW (a :: A))]) (r := q) hq
        rw [show a :: A ++ [] = a :: A by simp] at this
        exact this (heldKB (d := 15) hK (by kernel_rfl) (by kernel_rfl) (by kernel_rfl) (by kernel_rfl) (by kernel_rfl) (.inr (by kernel_rfl)) rowW_came (by subst hV; cases y <;> kernel_rfl))
    | cons d D =>
      have hlen3 : (a :: A ++ x :: d :: D).length = (a :: A).length + (d :: D).length + 1 := hlen
      have he : ∀ {S : ASt}, S.h.get 2 = some (rowW (a :: A ++ x :: d :: D)) → still S (aSlice EO 27 (slW 2 ((a :: A).length + (d :: D).length + 1)) (some (.int .i64 (wrapF .i64 (.ofNat (a :: A).length + .ofNat 1)))) none none S) = some (.slice (some (2, ((a :: A).length + 1) * 4)) (d :: D).length (.rest 4), S) := fun h => by
        rw [e1]
        have := oslice_lo (n := (a :: A).length + (d :: D).length + 1) (i := (a :: A).length + 1) (rw := true) h (by rw [fm_len enc4_len, hlen3]) (by simp)
        rw [show (a :: A).length + (d :: D).length + 1 - ((a :: A).length + 1) = (d :: D).length by omega] at this
        exact this
      have hapD : ∀ {S : ASt}, S.next = 16 → S.h.get 2 = some (rowW (a :: A ++ x :: d :: D)) → S.h.get 15 = some (rowW (a :: A)) → aBuiltinM EO .append [27, 27] [slW 15 (a :: A).length, .slice (some (2, ((a :: A).length + 1) * 4)) (d :: D).length (.rest 4)] S = some (slW 16 ((a :: A).length + (d :: D).length), (S.put 15 .dead).add (rowW (a :: A ++ d :: D))) := fun {S} hn h h15 => by
        have := append_grow_at (l := (a :: A).length) (i := 15) (cs := (a :: A).flatMap enc4) (n := (d :: D).length) (new := (d :: D).flatMap enc4) op27 (x := .slice (some (2, ((a :: A).length + 1) * 4)) (d :: D).length (.rest 4)) (st := S) rfl (first_at (rw := true) h (by
          have e := fm_takeL (enc := enc4) (z := 4) enc4_len (l := a :: A ++ x :: d :: D) (a := (a :: A).length + 1) (n := (d :: D).length) (by simp; omega)
          rw [e]
          congr 1
          rw [show a :: A ++ x :: d :: D = (a :: A ++ [x]) ++ d :: D by simp, show (a :: A).length + 1 = (a :: A ++ [x]).length by simp, List.drop_left, List.take_length])) h15 (fm_len enc4_len _) (by decide) (by simp) (by omega) (by omega)
        rw [hn, ← List.flatMap_append] at this
        exact this
      rw [hlen3]
      refine (Trip.runY EOok noSum_ok (Eq.mp (vcKb4 Vo (a :: A).length (d :: D).length T1 .dead (rowW (a :: A ++ x :: d :: D)) N O (rowW (a :: A ++ d :: D)) (rowW (a :: A)) (fun r => r = (.normal, fr9f (slW 16 ((a :: A).length + (d :: D).length)) Vo, vcKb4_s2 T1 .dead (rowW (a :: A ++ x :: d :: D)) N O (rowW (a :: A ++ d :: D))))) ⟨oslice_hi (by omega) (by omega), (hapA rfl (by kernel_rfl)).trans (by kernel_rfl), he (by kernel_rfl), (hapD rfl (by kernel_rfl) (by kernel_rfl)).trans (by kernel_rfl), ⟨⟨congrArg fstO (he (by kernel_rfl)), slEq⟩, trivial⟩, rfl⟩)).mono fun q hq => by
        refine fin (d := 16) (V := slW 16 ((a :: A).length + (d :: D).length)) (nx := 17) (ls := [(0, T1), (1, .dead), (2, rowW (a :: A ++ x :: d :: D)), (3, N), (4, O), (15, .dead), (16, rowW (a :: A ++ d :: D))]) (r := q) hq ?_
        have e5 : Vw 5 (a :: A ++ d :: D) = slW 5 ((a :: A).length + (d :: D).length) := by
          rw [← List.length_append]; rfl
        rw [e5]
        exact heldKB (d := 16) hK (by kernel_rfl) (by kernel_rfl) (by kernel_rfl) (by kernel_rfl) (by kernel_rfl) (.inr (by kernel_rfl)) rowW_came (by subst hV; cases y <;> kernel_rfl)
end
end Go.Proofs.Ytelehjeifhelnaa.ovp
end

section
open Go Go.Ax Go.Proofs
namespace Go.Proofs.Ytelehjeifhelnaa.ovp
set_option linter.unusedVariables false
section
variable {A D : List RQ} {x : RQ} {l : List RQ} {m b : Int} {w : Bool} {V : AV} {R T1 N O : AO} {Vo : AV} {y : List Int} {n0 : Nat} {Q : Exit × AFr × ASt → Prop}
theorem dropQ_app (hi : idxV (findP m) (A ++ x :: D) = .ofNat A.length) : dropQ (A ++ x :: D) m = A ++ D := by
  unfold dropQ
  unfold idxV at hi
  have h : (A ++ x :: D).findIdx? (findP m) = some A.length := by
    split at hi
    · rename_i i h
      rw [h]
      exact congrArg some (Int.ofNat.inj hi)
    · cases hi
  rw [List.findIdx?_eq_some_iff_getElem] at h
  obtain ⟨h1, h2, h3⟩ := h
  have hx : findP m x = true := by simpa using h2
  have hA : ∀ a, a ∈ A → findP m a = false := fun a ha => by
    obtain ⟨j, hj, e⟩ := List.getElem_of_mem ha
    have := h3 j hj
    rw [List.getElem_append_left hj, e] at this
    simpa using this
  rw [List.eraseP_append_right _ (fun a ha => by rw [hA a ha]; decide), List.eraseP_cons_of_pos hx]
theorem tailK (hK : Kept T1 N (Bn (promP (A ++ D)).2) (A ++ D).length) (hN : N = rowZ (promP (A ++ D)).1 zero4) (hl : (A ++ D).length < 90000) : Trip Try.prog 3 none (dropC 0 (dropC 1 K2)) (fr9f (Vw 5 (A ++ D)) (Vr 4 (promP (A ++ D)).2)) (S9d T1 N (Bn (promP (A ++ D)).2) (Ww (A ++ D)) .dead) (fun r => r = (.ret, finF (Vw 4 (promP (A ++ D)).1), finS (tob (slW 3 (A ++ D).length)) N (Ww (promP (A ++ D)).1))) := by
  have hU := (promK_len (T := A ++ D) (A ++ D).length).1
  have hU2 := (promK_len (T := A ++ D) (A ++ D).length).2
  have hx2 : (promP (A ++ D)).2.length < 4611686018427387904 := by
    have : (promP (A ++ D)).2.length ≤ (A ++ D).length := hU2
    omega
  by_cases h0 : A ++ D = []
  · have e1 : Vw 5 (A ++ D) = nilA := by rw [h0]; rfl
    have e2 : Ww (A ++ D) = .dead := by rw [h0]; rfl
    have e3 : promP (A ++ D) = ([], []) := by rw [h0]; rfl
    rw [e1, e2]
    have hk : dropC 0 (dropC 1 K2) = dropC 1 (dropC 0 K2) := by kernel_rfl
    rw [hk]
    refine Trip.mono (Q := fun r => r = (.ret, finF nilA, finS T1 N .dead)) ?_ fun r hr => by rw [hr, hK.t, e3]; rfl
    have hO : Bn (promP (A ++ D)).2 = .dead := by rw [e3]; rfl
    have hV : Vr 4 (promP (A ++ D)).2 = nilA := by rw [e3]; rfl
    rw [hO, hV]
    refine Trip.endW (kf := [6, 7]) (ko := KO99) (F := xFr [(6, nilA), (7, .bool true)] 183) (S := vcKe_s0 T1 N .dead) (Trip.runY EOok (tabO1 (same_any (x := []) (j := 4) (k := 5) (S := vcKe_s0 T1 N .dead) (by decide) (by kernel_rfl) (by kernel_rfl))) (Eq.mp (vcKe (tabC [_]) nilA T1 N .dead (fun q => q = (.ret, xFr [(6, nilA), (7, .bool true)] 183, vcKe_s0 T1 N .dead))) ⟨call_at (onlyC_at rfl (tabC_hd ..)), rfl⟩)) ?_
    have hs : StP [0, 1, 2, 3, 1004] (vcKe_s0 T1 N .dead) [(0, T1), (1, .dead), (2, .dead), (3, N), (4, .dead)] := by
      obtain ⟨rfl, hn, ho⟩ := hK
      exact .cons 0 _ rfl (by kernel_rfl : _ = some (tob (slW 3 (A ++ D).length))) (.of (by kernel_rfl)) (.dead (j := 1) (by show 1 < 5; decide) (.dead (j := 2) (by show 2 < 5; decide) (.came hn rfl (by kernel_rfl) (.dead (j := 4) (by show 4 < 5; decide) .nil))))
    exact Wk.heldM (kb := 3) [0, 1, 2, 3, 1004] [0, 1, 2, 3, 1004] (by kernel_rfl) (by kernel_rfl) (by kernel_rfl) [6, 7] (by kernel_rfl) hs
  · have hne : ∀ {X : List RQ}, X ≠ [] → ∀ k, Vw k X = slW k X.length ∧ Ww X = rowW X := fun {X} h k => by
      cases X with
      | nil => exact absurd rfl h
      | cons _ _ => exact ⟨rfl, rfl⟩
    rw [(hne h0 5).1, (hne h0 5).2]
    have hU0 : (promP (A ++ D)).1 ≠ [] := fun e => by
      have h3 : (promP (A ++ D)).1.length = (A ++ D).length := hU
      rw [e] at h3
      exact h0 (List.length_eq_zero_iff.1 h3.symm)
    have e4 : dropC 0 (dropC 1 K2) = .seq (seqL (dropC 0 (dropC 1 K2))) (dropC 1 (dropC 1 K2)) := by kernel_rfl
    rw [e4]
    refine Trip.seqC EOok noSum_ok (n := 60) [1, 12, 13, 14] KO99 (F := xFr [(1, slW 5 (A ++ D).length), (12, Vr 4 (promP (A ++ D)).2), (13, .int .i64 (.ofNat 0)), (14, nilA)] 183) (S := S9d T1 N (Bn (promP (A ++ D)).2) (rowW (A ++ D)) .dead) (by kernel_rfl) ?_
    rw [shapeK2]
    refine Trip.seq (R := Stops 3 .normal (fr9d (Vr 4 (promP (A ++ D)).2) (Vr 6 (promP (A ++ D)).2) (A ++ D).length (A ++ D).length) (S9d T1 N (Bn (promP (A ++ D)).2) (rowW (promP (A ++ D)).1) (Bn (promP (A ++ D)).2))) (Trip.seq (R := Stops 3 .normal (fr9d (Vr 4 (promP (A ++ D)).2) nilA (A ++ D).length 0) (S9d T1 N (Bn (promP (A ++ D)).2) (rowW (A ++ D)) .dead))
      ((Trip.runY EOok noSum_ok (Eq.mp (vcKi (Vr 4 (promP (A ++ D)).2) (A ++ D).length T1 N (Bn (promP (A ++ D)).2) (rowW (A ++ D)) (Stops 3 .normal (fr9d (Vr 4 (promP (A ++ D)).2) nilA (A ++ D).length 0) (S9d T1 N (Bn (promP (A ++ D)).2) (rowW (A ++ D)) .dead))) ⟨rfl, Wk.refl _ _ _⟩)).mono fun q hq => Stops.can hq) (fun fr' st' hq => Trip.less hq.2 (loopK hK rfl hl)) (fun e fr' st' hne hq => absurd hq.1 hne)) (fun fr' st' hq => ?_) (fun e fr' st' hne hq => absurd hq.1 hne)
    refine Trip.less hq.2 ?_
    refine Trip.mono (Q := fun r => r = (.ret, finF (slW 4 (A ++ D).length), finS T1 N (rowW (promP (A ++ D)).1))) ?_ fun r hr => ?_
    · refine Trip.endW (kf := [6, 7]) (ko := KO99) (F := xFr [(6, slW 5 (A ++ D).length), (7, .bool true)] 183) (S := vcKz_s0 T1 N (Bn (promP (A ++ D)).2) (rowW (promP (A ++ D)).1) (Bn (promP (A ++ D)).2)) (Trip.runY EOok (tabO1 (same_any (x := (promP (A ++ D)).2) (j := 4) (k := 6) (S := vcKz_s0 T1 N (Bn (promP (A ++ D)).2) (rowW (promP (A ++ D)).1) (Bn (promP (A ++ D)).2)) hx2 (by kernel_rfl) (by kernel_rfl)))
        (Eq.mp (vcKz (tabC [_]) (Vr 4 (promP (A ++ D)).2) (Vr 6 (promP (A ++ D)).2) (A ++ D).length T1 N (Bn (promP (A ++ D)).2) (rowW (promP (A ++ D)).1) (Bn (promP (A ++ D)).2) (fun q => q = (.ret, xFr [(6, slW 5 (A ++ D).length), (7, .bool true)] 183, vcKz_s0 T1 N (Bn (promP (A ++ D)).2) (rowW (promP (A ++ D)).1) (Bn (promP (A ++ D)).2)))) ⟨call_at (onlyC_at rfl (tabC_hd ..)), rfl⟩)) ?_
      have hs : StP [0, 1, 2, 3, 5] (vcKz_s0 T1 N (Bn (promP (A ++ D)).2) (rowW (promP (A ++ D)).1) (Bn (promP (A ++ D)).2)) [(0, T1), (1, .dead), (2, .dead), (3, N), (4, rowW (promP (A ++ D)).1)] := by
        have h0 : (vcKz_s0 T1 N (Bn (promP (A ++ D)).2) (rowW (promP (A ++ D)).1) (Bn (promP (A ++ D)).2)).h.get 0 = some T1 := by kernel_rfl
        have h3 : (vcKz_s0 T1 N (Bn (promP (A ++ D)).2) (rowW (promP (A ++ D)).1) (Bn (promP (A ++ D)).2)).h.get 3 = some N := by kernel_rfl
        refine .cons 0 T1 rfl h0 ?_ (.dead (j := 1) (by show 1 < 5; decide) (.dead (j := 2) (by show 2 < 5; decide) (.came hK.n rfl h3 (.came rowW_came rfl (by kernel_rfl) .nil))))
        rw [hK.t]
        exact .of (by kernel_rfl)
      exact Wk.heldM (kb := 3) [0, 1, 2, 3, 5] [0, 1, 2, 3, 5] (by kernel_rfl) (by kernel_rfl) (by kernel_rfl) [6, 7] (by kernel_rfl) hs
    · have h3 : (promP (A ++ D)).1.length = (A ++ D).length := hU
      rw [hr, (hne hU0 4).1, (hne hU0 4).2, h3, hK.t]
theorem shape9 : dropC 1 c9 = .seq (.seq (seqL (seqL (dropC 1 c9))) (.block 0 (.seq (seqL X9) (.cond (.tmp 25) (condT (seqR X9)) (.seq (seqL Y9) (.cond (.tmp 96) K2 (.seq (seqL Z9) (.cond (.tmp 161) K3 (condE (seqR Z9))))))))) ) (dropC 2 c9) := by kernel_rfl
theorem to2 {S : ASt} (hS : ∃ m b w T R W, S = S9b (.ofNat 2) m b w T R W) (h : Trip Try.prog 3 none K2 (fr9b V (.ofNat A.length)) S fun r => r.1 = .ret ∧ Q r) : Trip Try.prog 3 none (dropC 1 c9) (fr9b V (.ofNat A.length)) S Q := by
  obtain ⟨m, b, w, T, R, W, rfl⟩ := hS
  rw [shape9]
  refine Trip.seq (R := fun r => r.1 = .ret ∧ Q r) ?_ (fun fr' st' hr => by cases hr.1) (fun e fr' st' hne hr => hr.2)
  refine Trip.seqC EOok noSum_ok (n := 60) [0, 1, 5, 8, 24] KO99 (F := xFr [(0, p0), (1, V), (5, .ptr (some (3, 0))), (8, nI A.length), (24, .int .i64 (.ofNat 2))] 183) (S := S9b (.ofNat 2) m b w T R W) (by kernel_rfl) ?_
  refine Trip.block ?_
  refine Trip.mono (Q := fun r => r.1 = .ret ∧ Q r) ?_ (fun r hr => ?_)
  · refine Trip.seqC EOok noSum_ok (n := 60) [0, 1, 5, 8, 24, 25] KO99 (F := xFr [(0, p0), (1, V), (5, .ptr (some (3, 0))), (8, nI A.length), (24, .int .i64 (.ofNat 2)), (25, .bool false)] 183) (S := S9b (.ofNat 2) m b w T R W) (by kernel_rfl) ?_
    refine Trip.cond (b := false) (by kernel_rfl) ?_
    rw [cond_false]
    refine Trip.seqC EOok noSum_ok (n := 60) [0, 1, 5, 8, 24, 96] KO99 (F := xFr [(0, p0), (1, V), (5, .ptr (some (3, 0))), (8, nI A.length), (24, .int .i64 (.ofNat 2)), (96, .bool true)] 183) (S := S9b (.ofNat 2) m b w T R W) (by kernel_rfl) ?_
    refine Trip.cond (b := true) (by kernel_rfl) ?_
    rw [cond_true]
    refine Trip.less (Wk.can 3 [0, 1, 5, 8] KO99 _ _) ?_
    have e : canF [0, 1, 5, 8] (xFr [(0, p0), (1, V), (5, .ptr (some (3, 0))), (8, nI A.length), (24, .int .i64 (.ofNat 2)), (96, .bool true)] 183) = fr9b V (.ofNat A.length) := by kernel_rfl
    have e2 : canS KO99 (S9b (.ofNat 2) m b w T R W) = S9b (.ofNat 2) m b w T R W := by kernel_rfl
    rw [e, e2]; exact h
  · obtain ⟨r1, r2, r3⟩ := r
    obtain ⟨h1, h2⟩ := hr
    simp only at h1
    subst h1
    exact ⟨rfl, h2⟩
end
end Go.Proofs.Ytelehjeifhelnaa.ovp
end

section
open Go Go.Ax Go.Proofs
namespace Go.Proofs.Ytelehjeifhelnaa.ovp
set_option linter.unusedVariables false
section
variable {A D : List RQ} {x : RQ} {l : List RQ} {m b kd : Int} {w : Bool} {V : AV} {R T1 N O : AO} {Vo : AV} {y : List Int} {n0 : Nat} {Q : Exit × AFr × ASt → Prop}
theorem TabV.row1 (hT : TabV 1 (A ++ x :: D) V R) : ∃ cs, RowR cs (A ++ x :: D) ∧ V = slW 1 (A ++ x :: D).length ∧ R = .cells cs true := hT.row_of (by simp)
theorem do_done (hT : TabV 1 (A ++ x :: D) V R) (hl : (A ++ x :: D).length < 90000) (hi : idxV (findP m) (A ++ x :: D) = .ofNat A.length) : DoT (fr9a (slW 2 (A ++ x :: D).length) (.ofNat 2) m b w) (S9 (tob V) R (rowW (A ++ x :: D))) (promP (A ++ D)).1 := by
  have hlen : (A ++ x :: D).length = A.length + D.length + 1 := by rw [List.length_append, List.length_cons]; omega
  have hlAD : (A ++ D).length < 90000 := by rw [List.length_append]; omega
  have hW : Ww (A ++ x :: D) = rowW (A ++ x :: D) := by cases A <;> rfl
  have hVw : Vw 2 (A ++ x :: D) = slW 2 (A ++ x :: D).length := by cases A <;> rfl
  have hT3 : TabV 3 (promP (A ++ D)).1 (slW 3 (A ++ D).length) (rowZ (promP (A ++ D)).1 zero4) := by
    rw [← show (promP (A ++ D)).1.length = (A ++ D).length from (promK_len (T := A ++ D) (A ++ D).length).1]
    exact .row (rowZ_R zero4_refs)
  refine ⟨_, _, hT3, ?_⟩
  have h37 : Call1 Try.prog 37 [slW 2 (A ++ x :: D).length, .int .u64 m] (vcPa_s0 (.ofNat 2) m b w (tob V) R (rowW (A ++ x :: D))) (.int .i64 (.ofNat A.length), vcPa_s0 (.ofNat 2) m b w (tob V) R (rowW (A ++ x :: D))) := by
    rw [← hVw, ← hi]; exact at_w (by omega) (by rw [hW]; kernel_rfl)
  refine Trip.preY EOok (tabO1 h37) (k := 1) (kf := [0, 1, 5, 8]) (ko := KO99) (by kernel_rfl) (Q1 := fun q => q = (.normal, fr9b (slW 2 (A ++ x :: D).length) (.ofNat A.length), S9b (.ofNat 2) m b w (tob V) R (rowW (A ++ x :: D))))
    (Eq.mp (vcPa (tabC [_]) (slW 2 (A ++ x :: D).length) (.ofNat 2) m b (.ofNat A.length) w (tob V) R (rowW (A ++ x :: D)) (fun q => q = (.normal, fr9b (slW 2 (A ++ x :: D).length) (.ofNat A.length), S9b (.ofNat 2) m b w (tob V) R (rowW (A ++ x :: D))))) ⟨call_at (onlyC_at rfl (tabC_hd ..)), rfl⟩) ?_ (fun q h1 h2 => absurd (congrArg Prod.fst h2) h1)
  rintro F' S' h
  cases h
  refine to2 ⟨_, _, _, _, _, _, rfl⟩ ?_
  refine Trip.mono ?_ fun r hr => ⟨congrArg Prod.fst hr, hr⟩
  have h13 := done_yes (W := rowW (A ++ x :: D)) (A := .cells [.int .i64 (.ofNat 2), .int .u64 m, .int .i64 b, .bool w] true) hT (by omega) hi
  refine Trip.preY EOok (tabO1 h13) (k := 1) (kf := [1, 8, 12, 13]) (ko := KO99) (by kernel_rfl) (Q1 := fun q => q = (.normal, fr9c (slW 2 (A ++ x :: D).length) (Vr 7 (promP (A ++ D)).2) A.length, vcKa_s1 (.ofNat 2) m b w (rowW (A ++ x :: D)) (tob (slW 6 (A ++ D).length)) .dead (rowZ (promP (A ++ D)).1 zero4) (Bn (promP (A ++ D)).2)))
    (Eq.mp (vcKa (tabC [_]) (slW 2 (A ++ x :: D).length) (Vr 7 (promP (A ++ D)).2) (.ofNat 2) m b (.ofNat A.length) w (tob V) R (rowW (A ++ x :: D)) (tob (slW 6 (A ++ D).length)) .dead (rowZ (promP (A ++ D)).1 zero4) (Bn (promP (A ++ D)).2) (fun q => q = (.normal, fr9c (slW 2 (A ++ x :: D).length) (Vr 7 (promP (A ++ D)).2) A.length, vcKa_s1 (.ofNat 2) m b w (rowW (A ++ x :: D)) (tob (slW 6 (A ++ D).length)) .dead (rowZ (promP (A ++ D)).1 zero4) (Bn (promP (A ++ D)).2)))) ⟨call_at (onlyC_at rfl (tabC_hd ..)), ?_, rfl⟩) ?_ (fun q h1 h2 => absurd (congrArg Prod.fst h2) h1)
  · have h : ∀ z : Int, aBin EO .lss 3 (.tmp 105) (.const (.int .i64 0)) (.int .i64 z) (.int .i64 (.ofNat 0)) = some (.bool (ltF z (.ofNat 0))) := fun z => by kernel_rfl
    rw [h, ltF_nn]; rfl
  rintro F' S' h
  cases h
  have hs : StP [0, 1, 2, 6, 7] (vcKa_s1 (.ofNat 2) m b w (rowW (A ++ x :: D)) (tob (slW 6 (A ++ D).length)) .dead (rowZ (promP (A ++ D)).1 zero4) (Bn (promP (A ++ D)).2)) [(0, tob (slW 3 (A ++ D).length)), (1, .dead), (2, rowW (A ++ x :: D)), (3, rowZ (promP (A ++ D)).1 zero4), (4, Bn (promP (A ++ D)).2)] :=
    .cons 0 _ rfl (by kernel_rfl : _ = some (tob (slW 6 (A ++ D).length))) (.of (by kernel_rfl)) (.dead (j := 1) (by show 1 < 5; decide) (.came rowW_came rfl (by kernel_rfl) (.came ((rowZ_R zero4_refs).came true) rfl (by kernel_rfl) (.came (Bn_came _) rfl (by kernel_rfl) .nil))))
  have hf : frE [0, 1, 2, 6, 7] (fr9c (slW 2 (A ++ x :: D).length) (Vr 7 (promP (A ++ D)).2) A.length) [1, 8, 12, 13] = some [(1, slW 2 (A ++ x :: D).length), (8, nI A.length), (12, Vr 4 (promP (A ++ D)).2), (13, .int .i64 (.ofNat 0))] := by
    cases (promP (A ++ D)).2 <;> kernel_rfl
  refine Trip.less (Wk.heldM (kb := 3) [0, 1, 2, 6, 7] [0, 1, 2, 6, 7] (by kernel_rfl) (by kernel_rfl) (by kernel_rfl) [1, 8, 12, 13] hf hs) ?_
  have hK : Kept (tob (slW 3 (A ++ D).length)) (rowZ (promP (A ++ D)).1 zero4) (Bn (promP (A ++ D)).2) (A ++ D).length := ⟨rfl, (rowZ_R zero4_refs).came true, Bn_came _⟩
  have hsh : dropC 1 K2 = .seq (preC 0 (dropC 1 K2)) (dropC 0 (dropC 1 K2)) := by kernel_rfl
  rw [hsh]
  exact Trip.seq (cutK hK rfl (by omega)) (fun fr' st' hq => Trip.less hq.2 (tailK hK rfl hlAD)) (fun e fr' st' hne hq => absurd hq.1 hne)
theorem to3 {S : ASt} {z : Int} (hS : ∃ m b w T R W, S = S9b (.ofNat 3) m b w T R W) (h : Trip Try.prog 3 none K3 (fr9b V z) S fun r => r.1 = .ret ∧ Q r) : Trip Try.prog 3 none (dropC 1 c9) (fr9b V z) S Q := by
  obtain ⟨m, b, w, T, R, W, rfl⟩ := hS
  rw [shape9]
  refine Trip.seq (R := fun r => r.1 = .ret ∧ Q r) ?_ (fun fr' st' hr => by cases hr.1) (fun e fr' st' hne hr => hr.2)
  refine Trip.seqC EOok noSum_ok (n := 60) [0, 1, 5, 8, 24] KO99 (F := xFr [(0, p0), (1, V), (5, .ptr (some (3, 0))), (8, .int .i64 z), (24, .int .i64 (.ofNat 3))] 183) (S := S9b (.ofNat 3) m b w T R W) (by kernel_rfl) ?_
  refine Trip.block ?_
  refine Trip.mono (Q := fun r => r.1 = .ret ∧ Q r) ?_ (fun r hr => ?_)
  · refine Trip.seqC EOok noSum_ok (n := 60) [0, 1, 5, 8, 24, 25] KO99 (F := xFr [(0, p0), (1, V), (5, .ptr (some (3, 0))), (8, .int .i64 z), (24, .int .i64 (.ofNat 3)), (25, .bool false)] 183) (S := S9b (.ofNat 3) m b w T R W) (by kernel_rfl) ?_
    refine Trip.cond (b := false) (by kernel_rfl) ?_
    rw [cond_false]
    refine Trip.seqC EOok noSum_ok (n := 60) [0, 1, 5, 8, 24, 96] KO99 (F := xFr [(0, p0), (1, V), (5, .ptr (some (3, 0))), (8, .int .i64 z), (24, .int .i64 (.ofNat 3)), (96, .bool false)] 183) (S := S9b (.ofNat 3) m b w T R W) (by kernel_rfl) ?_
    refine Trip.cond (b := false) (by kernel_rfl) ?_
    rw [cond_false]
    refine Trip.seqC EOok noSum_ok (n := 60) [0, 1, 5, 8, 24, 161] KO99 (F := xFr [(0, p0), (1, V), (5, .ptr (some (3, 0))), (8, .int .i64 z), (24, .int .i64 (.ofNat 3)), (161, .bool true)] 183) (S := S9b (.ofNat 3) m b w T R W) (by kernel_rfl) ?_
    refine Trip.cond (b := true) (by kernel_rfl) ?_
    rw [cond_true]
    refine Trip.less (Wk.can 3 [0, 1, 5, 8] KO99 _ _) ?_
    have e : canF [0, 1, 5, 8] (xFr [(0, p0), (1, V), (5, .ptr (some (3, 0))), (8, .int .i64 z), (24, .int .i64 (.ofNat 3)), (161, .bool true)] 183) = fr9b V z := by kernel_rfl
    have e2 : canS KO99 (S9b (.ofNat 3) m b w T R W) = S9b (.ofNat 3) m b w T R W := by kernel_rfl
    rw [e, e2]; exact h
  · obtain ⟨r1, r2, r3⟩ := r
    obtain ⟨h1, h2⟩ := hr
    simp only at h1
    subst h1
    exact ⟨rfl, h2⟩
theorem heldE9 {nx d j n : Nat} {V V' Vo : AV} {ls : List (Nat × AO)} {W : AO} (hO : Came O) (hd : preB 3 0 [0, 1, 2, 3, d] = true) (hnd : noDup [0, 1, 2, 3, d] = true) (h0 : (mkSt ls nx).h.get 0 = some (tob nilA)) (h2 : (mkSt ls nx).h.get 2 = some (rowW l)) (h3 : (mkSt ls nx).h.get 3 = some O) (h4 : (mkSt ls nx).h.get d = some W) (hW : Came W)
    (hf : frE [0, 1, 2, 3, d] (fr9e Vo V n j) [1, 16, 17, 18] = some [(1, slW 2 n), (16, Vo), (17, V'), (18, nI j)]) :
    Wk 3 (fr9e Vo V n j) (mkSt ls nx) (fr9e Vo V' n j) (S9e (tob nilA) (rowW l) O W) := by
  have hs : StP [0, 1, 2, 3, d] (mkSt ls nx) [(0, tob nilA), (1, .dead), (2, rowW l), (3, O), (4, W)] :=
    .cons 0 _ rfl h0 (.of rfl) (.dead (j := 1) (by show 1 < 5; decide) (.came rowW_came rfl h2 (.came hO rfl h3 (.came hW rfl h4 .nil))))
  exact Wk.heldX (kb := 3) [0, 1, 2, 3, d] hd hnd [1, 16, 17, 18] hf hs
def QC9 (Vo : AV) (O : AO) (l : List RQ) (c : List Int) (i : Nat) (q : Exit × AFr × ASt) : Prop := (∃ r, l[i]? = some r ∧ Stops 3 .normal (fr9e Vo (Vr 4 (c ++ [r.num])) l.length (i + 1)) (S9e (tob nilA) (rowW l) O (Bn (c ++ [r.num]))) q) ∨ (i = l.length ∧ Stops 3 (.exit 3) (fr9e Vo (Vr 4 c) l.length i) (S9e (tob nilA) (rowW l) O (Bn c)) q)
theorem roundC9 {c : List Int} {i : Nat} (hO : Came O) (hV : Vo = Vr 3 y) (hl : l.length < 100000) (hc : c.length < 100000) (hi : i ≤ l.length) : Trip Try.prog 3 none LK3 (fr9e Vo (Vr 4 c) l.length i) (S9e (tob nilA) (rowW l) O (Bn c)) (QC9 Vo O l c i) := by
  have fin : ∀ {r : Exit × AFr × ASt}, QC9 Vo O l c i (canR [1, 16, 17, 18] KO99 r) → QC9 Vo O l c i r := fun h => h.imp (fun ⟨r, h1, h2⟩ => ⟨r, h1, h2.can⟩) (fun h => ⟨h.1, h.2.can⟩)
  by_cases e : i < l.length
  · obtain ⟨r, hr⟩ : ∃ r, l[i]? = some r := ⟨_, List.getElem?_eq_getElem e⟩
    have e1 : wrapF .i64 (Int.ofNat i + Int.ofNat 1) = .ofNat (i + 1) := wI e (by omega)
    refine (Trip.runY EOok noSum_ok (Eq.mp (vcCr Vo (Vr 4 c) l.length i c.length r.num (tob nilA) (rowW l) O (Bn c) (.cells (c.map cu ++ [cu r.num]) true) (QC9 Vo O l c i)) (ifB_mk (fun _ => ⟨oidx e, oload0 (rw := true) (by kernel_rfl) hr, (push_at op42 (j := 5) (a := r.num) (by omega) (by kernel_rfl) (by kernel_rfl) rfl).trans ?_, .inl ⟨r, hr, rfl, ?_⟩⟩) fun h => nlt' e h))).mono fun q hq => fin hq
    · cases c <;> kernel_rfl
    · rw [e1, Vr_push, Bn_push]
      exact heldE9 (d := 6) hO (by kernel_rfl) (by kernel_rfl) (by kernel_rfl) (by kernel_rfl) (by kernel_rfl) (by kernel_rfl) push_came (by subst hV; cases y <;> kernel_rfl)
  · have ek : i = l.length := by omega
    refine (Trip.runY EOok noSum_ok (Eq.mp (vcCr Vo (Vr 4 c) l.length i 0 0 (tob nilA) (rowW l) O (Bn c) .dead (QC9 Vo O l c i)) (ifB_mk (fun h => ?_) fun _ => .inr ⟨ek, rfl, Wk.refl _ _ _⟩))).mono fun q hq => fin hq
    rw [ltF_nn] at h
    exact absurd (of_decide_eq_true h) e
theorem loopC9 (hO : Came O) (hV : Vo = Vr 3 y) (hl : l.length < 100000) : Trip Try.prog 3 none (.block 3 (.loop LK3)) (fr9e Vo nilA l.length 0) (S9e (tob nilA) (rowW l) O .dead) (Stops 3 .normal (fr9e Vo (Vr 4 (allN l)) l.length l.length) (S9e (tob nilA) (rowW l) O (Bn (allN l)))) := by
  refine Trip.block (Trip.loop (fun μ fr st => ∃ k c, k ≤ l.length ∧ μ = l.length - k ∧ allN (l.take k) = c ∧ fr = fr9e Vo (Vr 4 c) l.length k ∧ st = S9e (tob nilA) (rowW l) O (Bn c)) ?_ l.length ⟨0, [], by omega, by omega, rfl, rfl, rfl⟩)
  rintro μ fr st ⟨k, c, hk, rfl, rfl, rfl, rfl⟩
  refine (roundC9 hO hV (by omega) (by unfold allN; rw [List.length_map, List.length_take]; omega) hk).mono ?_
  rintro ⟨e, fr', st'⟩ (⟨r, h2, h4, h5⟩ | ⟨h2, h4, h5⟩)
  · simp only at h4
    subst h4
    have hk2 : k < l.length := (List.getElem?_eq_some_iff.1 h2).1
    exact ⟨l.length - (k + 1), _, _, by omega, h5, k + 1, _, by omega, rfl, by unfold allN; rw [List.take_add_one, h2, List.map_append]; rfl, rfl, rfl⟩
  · simp only at h4
    subst h4
    subst h2
    rw [List.take_length] at h5
    exact ⟨fun _ => ⟨rfl, h5⟩, fun h => absurd rfl h⟩
theorem shapeK3 : dropC 1 K3 = .seq (.seq (seqL (seqL (dropC 1 K3))) (.block 3 (.loop LK3))) (dropC 2 K3) := by kernel_rfl
theorem do_clear1 (hT : TabV 1 l V R) (h0 : l ≠ []) (hl : l.length < 90000) : DoT (fr9a (slW 2 l.length) (.ofNat 3) m b w) (S9 (tob V) R (rowW l)) [] := by
  refine ⟨nilA, .dead, .nil, ?_⟩
  have hW : Ww l = rowW l := by
    cases l with
    | nil => exact absurd rfl h0
    | cons _ _ => rfl
  have hVw : Vw 2 l = slW 2 l.length := by
    cases l with
    | nil => exact absurd rfl h0
    | cons _ _ => rfl
  have h37 : Call1 Try.prog 37 [slW 2 l.length, .int .u64 m] (vcPa_s0 (.ofNat 3) m b w (tob V) R (rowW l)) (.int .i64 (idxV (findP m) l), vcPa_s0 (.ofNat 3) m b w (tob V) R (rowW l)) := by
    rw [← hVw]; exact at_w (by omega) (by rw [hW]; kernel_rfl)
  refine Trip.preY EOok (tabO1 h37) (k := 1) (kf := [0, 1, 5, 8]) (ko := KO99) (by kernel_rfl) (Q1 := fun q => q = (.normal, fr9b (slW 2 l.length) (idxV (findP m) l), S9b (.ofNat 3) m b w (tob V) R (rowW l)))
    (Eq.mp (vcPa (tabC [_]) (slW 2 l.length) (.ofNat 3) m b (idxV (findP m) l) w (tob V) R (rowW l) (fun q => q = (.normal, fr9b (slW 2 l.length) (idxV (findP m) l), S9b (.ofNat 3) m b w (tob V) R (rowW l)))) ⟨call_at (onlyC_at rfl (tabC_hd ..)), rfl⟩) ?_ (fun q h1 h2 => absurd (congrArg Prod.fst h2) h1)
  rintro F' S' h
  cases h
  refine to3 ⟨_, _, _, _, _, _, rfl⟩ ?_
  refine Trip.mono ?_ fun r hr => ⟨congrArg Prod.fst hr, hr⟩
  have h14 := clear_yes (W := rowW l) (A := .cells [.int .i64 (.ofNat 3), .int .u64 m, .int .i64 b, .bool w] true) hT h0 (by omega)
  refine Trip.preY EOok (tabO1 h14) (k := 1) (kf := [1, 16, 17]) (ko := KO99) (by kernel_rfl) (Q1 := fun q => q = (.normal, xFr [(1, slW 2 l.length), (16, Vr 6 (allN l)), (17, nilA)] 183, vcCa_s1 (.ofNat 3) m b w (rowW l) (tob nilA) .dead (Bn (allN l))))
    (Eq.mp (vcCa (tabC [_]) (slW 2 l.length) (Vr 6 (allN l)) (.ofNat 3) m b (idxV (findP m) l) w (tob V) R (rowW l) (tob nilA) .dead (Bn (allN l)) (fun q => q = (.normal, xFr [(1, slW 2 l.length), (16, Vr 6 (allN l)), (17, nilA)] 183, vcCa_s1 (.ofNat 3) m b w (rowW l) (tob nilA) .dead (Bn (allN l))))) ⟨call_at (onlyC_at rfl (tabC_hd ..)), rfl⟩) ?_ (fun q h1 h2 => absurd (congrArg Prod.fst h2) h1)
  rintro F' S' h
  cases h
  have hs : StP [0, 1, 2, 6, 1004] (vcCa_s1 (.ofNat 3) m b w (rowW l) (tob nilA) .dead (Bn (allN l))) [(0, tob nilA), (1, .dead), (2, rowW l), (3, Bn (allN l)), (4, .dead)] :=
    .cons 0 _ rfl (by kernel_rfl : _ = some (tob nilA)) (.of (by kernel_rfl)) (.dead (j := 1) (by show 1 < 5; decide) (.came rowW_came rfl (by kernel_rfl) (.came (Bn_came _) rfl (by kernel_rfl) (.dead (j := 4) (by show 4 < 5; decide) .nil))))
  have hf : frE [0, 1, 2, 6, 1004] (xFr [(1, slW 2 l.length), (16, Vr 6 (allN l)), (17, nilA)] 183) [1, 16, 17] = some [(1, slW 2 l.length), (16, Vr 3 (allN l)), (17, nilA)] := by
    cases allN l <;> kernel_rfl
  refine Trip.less (Wk.heldM (kb := 3) [0, 1, 2, 6, 1004] [0, 1, 2, 6, 1004] (by kernel_rfl) (by kernel_rfl) (by kernel_rfl) [1, 16, 17] hf hs) ?_
  rw [shapeK3]
  refine Trip.seq (R := Stops 3 .normal (fr9e (Vr 3 (allN l)) (Vr 4 (allN l)) l.length l.length) (S9e (tob nilA) (rowW l) (Bn (allN l)) (Bn (allN l)))) (Trip.seq (R := Stops 3 .normal (fr9e (Vr 3 (allN l)) nilA l.length 0) (S9e (tob nilA) (rowW l) (Bn (allN l)) .dead))
    ((Trip.runY EOok noSum_ok (Eq.mp (vcCi (Vr 3 (allN l)) l.length (tob nilA) (rowW l) (Bn (allN l)) (Stops 3 .normal (fr9e (Vr 3 (allN l)) nilA l.length 0) (S9e (tob nilA) (rowW l) (Bn (allN l)) .dead))) ⟨rfl, Wk.refl _ _ _⟩)).mono fun q hq => Stops.can hq) (fun fr' st' hq => Trip.less hq.2 (loopC9 (Bn_came _) rfl (by omega))) (fun e fr' st' hne hq => absurd hq.1 hne)) (fun fr' st' hq => ?_) (fun e fr' st' hne hq => absurd hq.1 hne)
  refine Trip.less hq.2 ?_
  have hal : (allN l).length < 4611686018427387904 := by unfold allN; rw [List.length_map]; omega
  refine Trip.endW (kf := [6, 7]) (ko := KO99) (F := xFr [(6, nilA), (7, .bool true)] 183) (S := vcCz_s0 (tob nilA) (rowW l) (Bn (allN l)) (Bn (allN l))) (Trip.runY EOok (tabO1 (same_any (x := allN l) (j := 3) (k := 4) (S := vcCz_s0 (tob nilA) (rowW l) (Bn (allN l)) (Bn (allN l))) hal (by kernel_rfl) (by kernel_rfl)))
    (Eq.mp (vcCz (tabC [_]) (Vr 3 (allN l)) (Vr 4 (allN l)) l.length (tob nilA) (rowW l) (Bn (allN l)) (Bn (allN l)) (fun q => q = (.ret, xFr [(6, nilA), (7, .bool true)] 183, vcCz_s0 (tob nilA) (rowW l) (Bn (allN l)) (Bn (allN l))))) ⟨call_at (onlyC_at rfl (tabC_hd ..)), rfl⟩)) ?_
  have hs : StP [0, 1, 2, 1003, 1004] (vcCz_s0 (tob nilA) (rowW l) (Bn (allN l)) (Bn (allN l))) [(0, tob nilA), (1, .dead), (2, .dead), (3, .dead), (4, .dead)] :=
    .cons 0 _ rfl (by kernel_rfl : _ = some (tob nilA)) (.of (by kernel_rfl)) (.dead (j := 1) (by show 1 < 5; decide) (.dead (j := 2) (by show 2 < 5; decide) (.dead (j := 3) (by show 3 < 5; decide) (.dead (j := 4) (by show 4 < 5; decide) .nil))))
  exact Wk.heldM (kb := 3) [0, 1, 2, 1003, 1004] [0, 1, 2, 1003, 1004] (by kernel_rfl) (by kernel_rfl) (by kernel_rfl) [6, 7] (by kernel_rfl) hs
end
end Go.Proofs.Ytelehjeifhelnaa.ovp
end
