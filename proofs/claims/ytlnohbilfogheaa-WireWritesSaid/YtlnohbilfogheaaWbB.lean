/-
  OWN WORK, A PART: an abstract machine for the program's text that the kernel can run, and the proof that it is sound: what it answers is what the program answers; contracts of functions by it. No condition.
-/
import Derived.Test.YtlnohbilfogheaaWbA
section
open Go Go.Ax Go.Proofs.Ytlnohbilfogheaa
namespace Go.Proofs.Ytlnohbilfogheaa.wwr
set_option linter.unusedVariables false
structure PV where
  k : Int
  sz : Int
  n : Nat
  v : AV
  b : List Nat
def enc (p : PV) : List AV := [.int .i64 p.k, .int .i64 p.sz, .int .u64 (.ofNat p.n), p.v]
theorem enc_len (p : PV) : (enc p).length = 4 := rfl
def RP (ps : List PV) : AO := .cells (ps.flatMap enc) false
structure CameP (ps : List PV) (rows : Nat → AO) : Prop where
  len : ps.length ≤ 41
  arg : ∀ i p, ps[i]? = some p → ArgB (i + 1) p.v (rows i) p.b
  byte : ∀ p, p ∈ ps → ∀ x, x ∈ p.b → x < 256
  num : ∀ p, p ∈ ps → p.n < 18446744073709551616
  came : ∀ i, Came (rows i)
def nilV : AV := .slice none 0 (.known 0)
def Sh (v : AV) : Prop := v = nilV ∨ v = .slice0 ∨ ∃ i n c, v = .slice (some (i, 0)) n c
section
variable {ps : List PV} {rows : Nat → AO} {R : AO}
theorem argSh {j : Nat} {v : AV} {o : AO} {l : List Nat} (A : ArgB j v o l) : Sh v := by
  cases A with
  | nil => exact .inl rfl
  | zero => exact .inr (.inl rfl)
  | row _ => exact .inr (.inr ⟨_, _, _, rfl⟩)
theorem argLt {j : Nat} {v : AV} {o : AO} {l : List Nat} (A : ArgB j v o l) (h : j < 42) : refsV 42 v := by
  cases A with
  | nil => simp [refsV]
  | zero => simp [refsV]
  | row _ => simp [refsV]; omega
theorem CameP.sh (C : CameP ps rows) {i : Nat} {p : PV} (h : ps[i]? = some p) : Sh p.v := argSh (C.arg i p h)
theorem CameP.refs (C : CameP ps rows) : refsO2 42 (RP ps) := fun c hc => by
  obtain ⟨p, hp, hc⟩ := List.mem_flatMap.1 hc
  obtain ⟨i, hi, e⟩ := List.getElem_of_mem hp
  have hpi : ps[i]? = some p := by rw [List.getElem?_eq_getElem hi, e]
  have hl := C.len
  simp only [enc, List.mem_cons, List.not_mem_nil, or_false] at hc
  rcases hc with rfl | rfl | rfl | rfl
  · simp [refsV]
  · simp [refsV]
  · simp [refsV]
  · exact argLt (C.arg i p hpi) (by omega)
theorem mk_get {ls ext : List (Nat × AO)} {nx j : Nat} (h : ∀ p, p ∈ ext → p.1 ≠ j) : (mkSt (ls ++ ext) nx).h.get j = (mkSt ls 0).h.get j := by
  show (((ls ++ ext).foldl (fun h p => h.set D p.1 p.2) (.e : T AO))).get j = (ls.foldl (fun h p => h.set D p.1 p.2) (.e : T AO)).get j
  rw [List.foldl_append]
  generalize ls.foldl (fun h p => h.set D p.1 p.2) (.e : T AO) = t
  induction ext generalizing t with
  | nil => rfl
  | cons p ext ih =>
    rw [List.foldl_cons, ih (fun q hq => h q (List.mem_cons_of_mem _ hq)), T.get_set]
    have := h p List.mem_cons_self
    rw [if_neg (fun e => this e.symm)]
theorem base_zero : (mkSt (base R rows) 0).h.get 0 = some R := by kernel_rfl
theorem base_eq : base R rows = (0, R) :: (List.range 41).map (fun j => (j + 1, rows j)) := by kernel_rfl
theorem base_row {j : Nat} (h : j < 41) : (mkSt (base R rows) 0).h.get (j + 1) = some (rows j) := by
  match j, h with
  | 0, _ => show _ = _; kernel_rfl
  | 1, _ => show _ = _; kernel_rfl
  | 2, _ => show _ = _; kernel_rfl
  | 3, _ => show _ = _; kernel_rfl
  | 4, _ => show _ = _; kernel_rfl
  | 5, _ => show _ = _; kernel_rfl
  | 6, _ => show _ = _; kernel_rfl
  | 7, _ => show _ = _; kernel_rfl
  | 8, _ => show _ = _; kernel_rfl
  | 9, _ => show _ = _; kernel_rfl
  | 10, _ => show _ = _; kernel_rfl
  | 11, _ => show _ = _; kernel_rfl
  | 12, _ => show _ = _; kernel_rfl
  | 13, _ => show _ = _; kernel_rfl
  | 14, _ => show _ = _; kernel_rfl
  | 15, _ => show _ = _; kernel_rfl
  | 16, _ => show _ = _; kernel_rfl
  | 17, _ => show _ = _; kernel_rfl
  | 18, _ => show _ = _; kernel_rfl
  | 19, _ => show _ = _; kernel_rfl
  | 20, _ => show _ = _; kernel_rfl
  | 21, _ => show _ = _; kernel_rfl
  | 22, _ => show _ = _; kernel_rfl
  | 23, _ => show _ = _; kernel_rfl
  | 24, _ => show _ = _; kernel_rfl
  | 25, _ => show _ = _; kernel_rfl
  | 26, _ => show _ = _; kernel_rfl
  | 27, _ => show _ = _; kernel_rfl
  | 28, _ => show _ = _; kernel_rfl
  | 29, _ => show _ = _; kernel_rfl
  | 30, _ => show _ = _; kernel_rfl
  | 31, _ => show _ = _; kernel_rfl
  | 32, _ => show _ = _; kernel_rfl
  | 33, _ => show _ = _; kernel_rfl
  | 34, _ => show _ = _; kernel_rfl
  | 35, _ => show _ = _; kernel_rfl
  | 36, _ => show _ = _; kernel_rfl
  | 37, _ => show _ = _; kernel_rfl
  | 38, _ => show _ = _; kernel_rfl
  | 39, _ => show _ = _; kernel_rfl
  | 40, _ => show _ = _; kernel_rfl
  | j + 41, h => exact absurd h (by omega)
theorem far {ext : List (Nat × AO)} (h : ext.all (fun p => Nat.ble 42 p.1) = true) {j : Nat} (hj : j < 42) : ∀ p, p ∈ ext → p.1 ≠ j := fun p hp => by
  have := Nat.le_of_ble_eq_true (List.all_eq_true.1 h p hp)
  omega
theorem get_zero {ext : List (Nat × AO)} {nx : Nat} (h : ext.all (fun p => Nat.ble 42 p.1) = true) : (mkSt (base R rows ++ ext) nx).h.get 0 = some R := (mk_get (far h (by omega))).trans base_zero
theorem get_row {ext : List (Nat × AO)} {nx j : Nat} (h : ext.all (fun p => Nat.ble 42 p.1) = true) (hj : j < 41) : (mkSt (base R rows ++ ext) nx).h.get (j + 1) = some (rows j) := (mk_get (far h (by omega))).trans (base_row hj)
def ids (d : Nat) : List Nat := List.range 42 ++ [42, d]
theorem ids_at {d j : Nat} (h : j < 42) : (ids d)[j]? = some j := by
  unfold ids
  rw [List.getElem?_append_left (by simpa using h), List.getElem?_range h]
theorem stp_rows {ids : List Nat} {S : ASt} (hids : ∀ j, j < 42 → ids[j]? = some j) (hS : ∀ j, j < 41 → S.h.get (j + 1) = some (rows j)) (hC : ∀ j, Came (rows j)) {tail : List (Nat × AO)} (ht : StP ids S tail) :
    ∀ l : List Nat, (∀ j, j ∈ l → j < 41) → StP ids S (l.map (fun j => (j + 1, rows j)) ++ tail)
  | [], _ => ht
  | j :: l, h => .came (hC j) (hids _ (by have := h j List.mem_cons_self; omega)) (hS j (h j List.mem_cons_self)) (stp_rows hids hS hC ht l fun k hk => h k (List.mem_cons_of_mem _ hk))
theorem held {n i nx d : Nat} {ext : List (Nat × AO)} {V V' : AV} {bad : Bool} {Bd : AO} (hR : refsO2 42 R) (hC : ∀ j, Came (rows j)) (he : ext.all (fun p => Nat.ble 42 p.1) = true)
    (hp : preB 42 0 (ids d) = true) (hn : noDup (ids d) = true) (hf : frE (ids d) (frP n i) [0, 2, 3, 4] = some [(0, .slice (some (0, 0)) n (.atl n)), (2, .ptr none), (3, .ptr (some (42, 0))), (4, nI i)])
    (h42 : (mkSt (base R rows ++ ext) nx).h.get 42 = some (wr V bad)) (hB : (mkSt (base R rows ++ ext) nx).h.get d = some Bd) (hb : Came Bd) (hV : RenO (ids d) (wr V bad) (wr V' bad)) :
    Wk 42 (frP n i) (mkSt (base R rows ++ ext) nx) (frP n i) (stW R rows V' bad Bd 44) := by
  have hs : StP (ids d) (mkSt (base R rows ++ ext) nx) ((0, R) :: ((List.range 41).map (fun j => (j + 1, rows j)) ++ [(42, wr V' bad), (43, Bd)])) :=
    .cons 0 R (ids_at (by omega)) (get_zero he) (RenO.keep hp hR) (stp_rows (fun j hj => ids_at hj) (fun j hj => get_row he hj) hC (.cons 42 _ rfl h42 hV (.came hb rfl hB .nil)) _ fun j hj => List.mem_range.1 hj)
  have h := Wk.heldX (kb := 42) (ids d) hp hn [0, 2, 3, 4] hf hs
  have e : (0, R) :: ((List.range 41).map (fun j => (j + 1, rows j)) ++ [(42, wr V' bad), (43, Bd)]) = base R rows ++ [(42, wr V' bad), (43, Bd)] := by rw [base_eq]; rfl
  have e2 : (ids d).length = 44 := by simp [ids]
  rw [e, e2] at h
  exact h
end
end Go.Proofs.Ytlnohbilfogheaa.wwr
end

section
open Go Go.Ax Go.Proofs.Ytlnohbilfogheaa
namespace Go.Proofs.Ytlnohbilfogheaa.wwr
set_option linter.unusedVariables false
theorem EWok : Env.Ok Try.prog EW := envEx_ok (xs := []) ⟨⟨Try.func13, Try.call13⟩, ⟨Try.func37, Try.call37⟩, ⟨Try.func38, Try.call38⟩, ⟨Try.func43, Try.call43⟩, ⟨Try.func44, Try.call44⟩, ⟨Try.func45, Try.call45⟩, ⟨Try.func46, Try.call46⟩, ⟨Try.func42, Try.call42⟩, ⟨Try.func78, Try.call78⟩, ⟨Try.func79, Try.call79⟩, trivial⟩ trivial (by kernel_rfl)
theorem sl22 : sliceT EW 22 = some 4 := by kernel_rfl
theorem sl25 : sliceT EW 25 = some 1 := by kernel_rfl
theorem ag30 : aggT EW 30 = some 4 := by kernel_rfl
theorem ap : appT EW 25 25 = some (1, 1) := by kernel_rfl
theorem bX (M i : Nat) : wrapF .u8 (shrF (.ofNat M) i) = .ofNat (M / 2 ^ i % 256) := by
  show wrapF .u8 (Int.ofNat (M / 2 ^ i)) = _
  have e : modN (.ofNat (M / 2 ^ i)) (big .u8) = M / 2 ^ i % 256 := rfl
  unfold wrapF
  have hb : Nat.blt (modN (.ofNat (M / 2 ^ i)) (big .u8)) (half .u8) = true := by
    rw [e]; exact blt_t (Nat.mod_lt _ (by decide))
  show (bif Nat.blt (modN (.ofNat (M / 2 ^ i)) (big .u8)) (half .u8) then Int.ofNat (modN (.ofNat (M / 2 ^ i)) (big .u8)) else _) = _
  rw [hb, e]; rfl
theorem wU64 {m : Nat} (h : m < 18446744073709551616) : wrapF .u64 (.ofNat m) = .ofNat m := by
  have e : modN (.ofNat m) (big .u64) = m := Nat.mod_eq_of_lt h
  unfold wrapF
  have hb : Nat.blt (modN (.ofNat m) (big .u64)) (half .u64) = true := by rw [e]; exact blt_t h
  show (bif Nat.blt (modN (.ofNat m) (big .u64)) (half .u64) then Int.ofNat (modN (.ofNat m) (big .u64)) else _) = _
  rw [hb, e]; rfl
def bs (sh : List Nat) (n : Nat) : List Nat := sh.map fun i => n / 2 ^ i % 256
def bc (sh : List Nat) (n : Int) : List AV := sh.map fun i => .int .u8 (wrapF .u8 (shrF n i))
theorem bc_eq (sh : List Nat) (n : Nat) : bc sh (.ofNat n) = (bs sh n).map cellU := by
  unfold bc bs
  rw [List.map_map]
  refine List.map_congr_left fun i _ => ?_
  rw [bX]; rfl
def Vc (c : List Nat) : AV := bif c.isEmpty then nilV else .slice (some (43, 0)) c.length (.rest 1)
def Bc (c : List Nat) : AO := bif c.isEmpty then .dead else .cells (c.map cellU) true
theorem Bc_came (c : List Nat) : Came (Bc c) := by
  cases c with
  | nil => exact .inl rfl
  | cons y c => exact .inr ⟨_, _, rfl, refU _⟩
noncomputable def stS (ps : List PV) (rows : Nat → AO) (c : List Nat) (bad : Bool) : ASt := stW (RP ps) rows (Vc c) bad (Bc c) 44
def RQ (ps : List PV) (rows : Nat → AO) (i : Nat) (c : List Nat) (bad : Bool) : Exit × AFr × ASt → Prop := Stops 42 .normal (frP ps.length (i + 1)) (stS ps rows c bad)
def Rnd (ps : List PV) (rows : Nat → AO) (i : Nat) (c : List Nat) (bad : Bool) (c' : List Nat) (bad' : Bool) : Prop := Trip Try.prog 42 none L13 (frP ps.length i) (stS ps rows c bad) (RQ ps rows i c' bad')
section
variable {ps : List PV} {rows : Nat → AO} {c : List Nat} {i : Nat} {p : PV}
theorem hlen {S : ASt} {n : Nat} : aBuiltinM EW .len [22] [.slice (some (0, 0)) n (.atl n)] S = some (nI n, S) := by kernel_rfl
theorem hidx {S : ASt} {n : Nat} (hi : i < n) : still S (aIndexAddr EW 22 (.slice (some (0, 0)) n (.atl n)) (.int .i64 (.ofNat i))) = some (.ptr (some (0, i * 4)), S) := by
  have := idx_at (E := EW) (t := 22) (i := 0) (o := 0) (n := n) (c := .atl n) (kd := .i64) sl22 hi
  rw [Nat.zero_add] at this
  exact still_of this
theorem hload {S : ASt} (hS : S.h.get 0 = some (RP ps)) (hp : ps[i]? = some p) : aLoad EW 30 (.ptr (some (0, i * 4))) S = some (.agg (enc p), S) := load_agg ag30 hS (fm_one enc_len hp)
theorem nlt {i n : Nat} {P : Prop} (hi : i < n) (h : ltF (.ofNat i) (.ofNat n) = false) : P := by
  rw [ltF_nn] at h
  exact absurd hi (of_decide_eq_false h)
theorem ne3 {S : ASt} {t : Nat} {z c c' : Int} (h : eqF z c = false) : still S (aBin EW .eql 3 (.tmp t) (.const (.int .i64 c')) (.int .i64 z) (.int .i64 c)) = some (.bool false, S) := by
  have e : aBin EW .eql 3 (.tmp t) (.const (.int .i64 c')) (.int .i64 z) (.int .i64 c) = some (.bool (eqF z c)) := by kernel_rfl
  rw [e, h]; rfl
theorem ne28 {S : ASt} {t : Nat} {z c c' : Int} (h : eqF z c = true) : still S (aBin EW .neq 28 (.tmp t) (.const (.int .u64 c')) (.int .u64 z) (.int .u64 c)) = some (.bool false, S) := by
  have e : aBin EW .neq 28 (.tmp t) (.const (.int .u64 c')) (.int .u64 z) (.int .u64 c) = some (.bool (!eqF z c)) := by kernel_rfl
  rw [e, h]; rfl
theorem ngt {S : ASt} {t : Nat} {z c c' : Int} (h : ltF c z = false) : still S (aBin EW .gtr 3 (.tmp t) (.const (.int .i64 c')) (.int .i64 z) (.int .i64 c)) = some (.bool false, S) := by
  have e : aBin EW .gtr 3 (.tmp t) (.const (.int .i64 c')) (.int .i64 z) (.int .i64 c) = some (.bool (ltF c z)) := by kernel_rfl
  rw [e, h]; rfl
theorem e_i {i : Nat} (hi : i < 100) : wrapF .i64 (Int.ofNat i + Int.ofNat 1) = .ofNat (i + 1) := by
  rw [show (Int.ofNat i + Int.ofNat 1) = Int.ofNat (i + 1) from rfl, wrap_nat (by omega)]
theorem end_new {n nx d m : Nat} {ext : List (Nat × AO)} {row : List AV} {c' : List Nat} (C : CameP ps rows) (hn : ps.length = n) (hi : i < n) (he : ext.all (fun p => Nat.ble 42 p.1) = true) (hp : preB 42 0 (ids d) = true) (hd : noDup (ids d) = true)
    (hf : frE (ids d) (frP n (i + 1)) [0, 2, 3, 4] = some [(0, .slice (some (0, 0)) n (.atl n)), (2, .ptr none), (3, .ptr (some (42, 0))), (4, nI (i + 1))])
    (h42 : (mkSt (base (RP ps) rows ++ ext) nx).h.get 42 = some (wr (.slice (some (d, 0)) m (.rest 1)) false)) (hB : (mkSt (base (RP ps) rows ++ ext) nx).h.get d = some (.cells row true)) (hr : row = c'.map cellU) (hm : m = c'.length) (h0 : c' ≠ [])
    (hV : RenO (ids d) (wr (.slice (some (d, 0)) m (.rest 1)) false) (wr (.slice (some (43, 0)) m (.rest 1)) false)) :
    RQ ps rows i c' false (.normal, xFr [(0, .slice (some (0, 0)) n (.atl n)), (2, .ptr none), (3, .ptr (some (42, 0))), (4, .int .i64 (wrapF .i64 (.ofNat i + .ofNat 1)))] 62, mkSt (base (RP ps) rows ++ ext) nx) := by
  subst hn
  rw [e_i (by have := C.len; omega)]
  subst hr; subst hm
  have h := held (n := ps.length) (i := i + 1) C.refs C.came he hp hd hf h42 hB (.inr ⟨_, _, rfl, refU _⟩) hV
  have e : stS ps rows c' false = stW (RP ps) rows (.slice (some (43, 0)) c'.length (.rest 1)) false (.cells (c'.map cellU) true) 44 := by
    cases c' with
    | nil => exact absurd rfl h0
    | cons y c => rfl
  refine ⟨rfl, ?_⟩
  rw [e]
  exact h
theorem end_same {n nx : Nat} {ext : List (Nat × AO)} {bad' : Bool} (C : CameP ps rows) (hn : ps.length = n) (hi : i < n) (he : ext.all (fun p => Nat.ble 42 p.1) = true)
    (h42 : (mkSt (base (RP ps) rows ++ ext) nx).h.get 42 = some (wr (Vc c) bad')) (hB : (mkSt (base (RP ps) rows ++ ext) nx).h.get 43 = some (Bc c)) :
    RQ ps rows i c bad' (.normal, xFr [(0, .slice (some (0, 0)) n (.atl n)), (2, .ptr none), (3, .ptr (some (42, 0))), (4, .int .i64 (wrapF .i64 (.ofNat i + .ofNat 1)))] 62, mkSt (base (RP ps) rows ++ ext) nx) := by
  subst hn
  rw [e_i (by have := C.len; omega)]
  exact ⟨rfl, held (n := ps.length) (i := i + 1) (d := 43) C.refs C.came he (by kernel_rfl) (by kernel_rfl) (by kernel_rfl) h42 hB (Bc_came c) (by cases c <;> exact RenO.of (by kernel_rfl))⟩
theorem fin {tr : Tr (Exit × AFr × ASt)} {P : Prop} {ys : An} {c' : List Nat} {bad bad' : Bool} {fls : List (Nat × Fl)} {fl : Fl} (ht : tr = (TM EW noSum fls fl0 60).ex fl none L13 (frP ps.length i) (stS ps rows c bad)) (hv : P = tr.allY (fun r => RQ ps rows i c' bad' (canR [0, 2, 3, 4] ko r)) ys) (h : P) : Rnd ps rows i c bad c' bad' := by
  subst ht
  exact (Trip.runY EWok noSum_ok (Eq.mp hv h)).mono fun r hr => Stops.can hr
theorem ne_app {c x : List Nat} (h : x ≠ []) : c ++ x ≠ [] := by simp [h]
theorem rdN1x (C : CameP ps rows) (hi : i < ps.length) (hp : ps[i]? = some p) (hc : c.length ≤ 1000000) (hk : p.k = .ofNat 1) (hz : p.sz = .ofNat 1) (hf : p.n / 2 ^ 8 = 0) : Rnd ps rows i c false (c ++ bs [0] p.n) false := by
  refine fin rfl (vcN1x ps.length i c.length (.ofNat p.n) (RP ps) rows (Vc c) p.v (Bc c) (.cells (c.map cellU ++ bc [0] (.ofNat p.n)) true) _) ⟨hlen, ifB_mk (fun _ => ⟨hidx hi, (hload (by kernel_rfl) hp).trans (by rw [enc, hk, hz]), (by rcases C.sh hp with h | h | ⟨_, _, _, h⟩ <;> rw [h] <;> kernel_rfl), ifB_mk (fun h => ?_) (fun _ => ⟨(by cases c <;> kernel_rfl), (by cases c <;> kernel_rfl), ?_, (by cases c <;> kernel_rfl), end_new C rfl hi (d := 46) (row := (c.map cellU ++ bc [0] (.ofNat p.n))) (m := (c.length + 1)) (by kernel_rfl) (by kernel_rfl) (by kernel_rfl) (by kernel_rfl) (by kernel_rfl) (by kernel_rfl) (by rw [bc_eq, List.map_append]) (by simp [bs]) (ne_app (by simp [bs])) (RenO.of (by kernel_rfl))⟩)⟩) fun h => nlt hi h⟩
  · have e : eqF (.ofNat (p.n / 2 ^ 8)) (.ofNat 0) = true := by rw [hf]; rfl
    have h' : (!eqF (.ofNat (p.n / 2 ^ 8)) (.ofNat 0)) = true := h
    rw [e] at h'; cases h'
  · exact by
      cases c with
      | nil => exact (append_nil_at ap (n := 1) (new := (bc [0] (.ofNat p.n))) (by kernel_rfl) (first_at (cs := bc [0] (.ofNat p.n)) (rw := true) (by kernel_rfl) (by kernel_rfl)) (by decide) (by decide) (by decide)).trans (by kernel_rfl)
      | cons y c => exact (append_grow_at (l := (y :: c).length) (i := 43) (cs := (y :: c).map cellU) ap (n := 1) (new := (bc [0] (.ofNat p.n))) (by kernel_rfl) (first_at (cs := bc [0] (.ofNat p.n)) (rw := true) (by kernel_rfl) (by kernel_rfl)) (by kernel_rfl) (by simp) (by decide) (by omega) (by omega) (by omega)).trans (by kernel_rfl)
theorem rdN1z (C : CameP ps rows) (hi : i < ps.length) (hp : ps[i]? = some p) (hc : c.length ≤ 1000000) (hk : p.k = .ofNat 1) (hz : p.sz = .ofNat 1) (hf : p.n / 2 ^ 8 ≠ 0) : Rnd ps rows i c false c true := by
  refine fin rfl (vcN1x ps.length i c.length (.ofNat p.n) (RP ps) rows (Vc c) p.v (Bc c) .dead _) ⟨hlen, ifB_mk (fun _ => ⟨hidx hi, (hload (by kernel_rfl) hp).trans (by rw [enc, hk, hz]), (by rcases C.sh hp with h | h | ⟨_, _, _, h⟩ <;> rw [h] <;> kernel_rfl), ifB_mk (fun _ => ⟨(by cases c <;> kernel_rfl), end_same C rfl hi (by kernel_rfl) (by kernel_rfl) (by kernel_rfl)⟩) (fun h => ?_)⟩) fun h => nlt hi h⟩
  have e : eqF (.ofNat (p.n / 2 ^ 8)) (.ofNat 0) = false := by rw [eqF_eq]; exact decide_eq_false fun g => hf (Int.ofNat.inj g)
  have h' : (!eqF (.ofNat (p.n / 2 ^ 8)) (.ofNat 0)) = false := h
  rw [e] at h'; cases h'
theorem rdN1y (C : CameP ps rows) (hi : i < ps.length) (hp : ps[i]? = some p) (hc : c.length ≤ 1000000) (hk : p.k = .ofNat 1) (hz : p.sz = .ofNat 1) : Rnd ps rows i c true c true :=
  fin rfl (vcN1y ps.length i c.length (.ofNat p.n) (RP ps) rows (Vc c) p.v (Bc c) .dead _) ⟨hlen, ifB_mk (fun _ => ⟨hidx hi, (hload (by kernel_rfl) hp).trans (by rw [enc, hk, hz]), (by rcases C.sh hp with h | h | ⟨_, _, _, h⟩ <;> rw [h] <;> kernel_rfl), ifB_mk (fun _ => ⟨(by cases c <;> kernel_rfl), end_same C rfl hi (by kernel_rfl) (by kernel_rfl) (by kernel_rfl)⟩) (fun _ => ⟨(by cases c <;> kernel_rfl), end_same C rfl hi (by kernel_rfl) (by kernel_rfl) (by kernel_rfl)⟩)⟩) fun h => nlt hi h⟩
theorem rdN2x (C : CameP ps rows) (hi : i < ps.length) (hp : ps[i]? = some p) (hc : c.length ≤ 1000000) (hk : p.k = .ofNat 1) (hz : p.sz = .ofNat 2) (hf : p.n / 2 ^ 16 = 0) : Rnd ps rows i c false (c ++ bs [8, 0] p.n) false := by
  refine fin rfl (vcN2x ps.length i c.length (.ofNat p.n) (RP ps) rows (Vc c) p.v (Bc c) (.cells (c.map cellU ++ bc [8, 0] (.ofNat p.n)) true) _) ⟨hlen, ifB_mk (fun _ => ⟨hidx hi, (hload (by kernel_rfl) hp).trans (by rw [enc, hk, hz]), (by rcases C.sh hp with h | h | ⟨_, _, _, h⟩ <;> rw [h] <;> kernel_rfl), ifB_mk (fun h => ?_) (fun _ => ⟨(by cases c <;> kernel_rfl), (by cases c <;> kernel_rfl), ?_, (by cases c <;> kernel_rfl), end_new C rfl hi (d := 46) (row := (c.map cellU ++ bc [8, 0] (.ofNat p.n))) (m := (c.length + 2)) (by kernel_rfl) (by kernel_rfl) (by kernel_rfl) (by kernel_rfl) (by kernel_rfl) (by kernel_rfl) (by rw [bc_eq, List.map_append]) (by simp [bs]) (ne_app (by simp [bs])) (RenO.of (by kernel_rfl))⟩)⟩) fun h => nlt hi h⟩
  · have e : eqF (.ofNat (p.n / 2 ^ 16)) (.ofNat 0) = true := by rw [hf]; rfl
    have h' : (!eqF (.ofNat (p.n / 2 ^ 16)) (.ofNat 0)) = true := h
    rw [e] at h'; cases h'
  · exact by
      cases c with
      | nil => exact (append_nil_at ap (n := 2) (new := (bc [8, 0] (.ofNat p.n))) (by kernel_rfl) (first_at (cs := bc [8, 0] (.ofNat p.n)) (rw := true) (by kernel_rfl) (by kernel_rfl)) (by decide) (by decide) (by decide)).trans (by kernel_rfl)
      | cons y c => exact (append_grow_at (l := (y :: c).length) (i := 43) (cs := (y :: c).map cellU) ap (n := 2) (new := (bc [8, 0] (.ofNat p.n))) (by kernel_rfl) (first_at (cs := bc [8, 0] (.ofNat p.n)) (rw := true) (by kernel_rfl) (by kernel_rfl)) (by kernel_rfl) (by simp) (by decide) (by omega) (by omega) (by omega)).trans (by kernel_rfl)
theorem rdN2z (C : CameP ps rows) (hi : i < ps.length) (hp : ps[i]? = some p) (hc : c.length ≤ 1000000) (hk : p.k = .ofNat 1) (hz : p.sz = .ofNat 2) (hf : p.n / 2 ^ 16 ≠ 0) : Rnd ps rows i c false c true := by
  refine fin rfl (vcN2x ps.length i c.length (.ofNat p.n) (RP ps) rows (Vc c) p.v (Bc c) .dead _) ⟨hlen, ifB_mk (fun _ => ⟨hidx hi, (hload (by kernel_rfl) hp).trans (by rw [enc, hk, hz]), (by rcases C.sh hp with h | h | ⟨_, _, _, h⟩ <;> rw [h] <;> kernel_rfl), ifB_mk (fun _ => ⟨(by cases c <;> kernel_rfl), end_same C rfl hi (by kernel_rfl) (by kernel_rfl) (by kernel_rfl)⟩) (fun h => ?_)⟩) fun h => nlt hi h⟩
  have e : eqF (.ofNat (p.n / 2 ^ 16)) (.ofNat 0) = false := by rw [eqF_eq]; exact decide_eq_false fun g => hf (Int.ofNat.inj g)
  have h' : (!eqF (.ofNat (p.n / 2 ^ 16)) (.ofNat 0)) = false := h
  rw [e] at h'; cases h'
theorem rdN2y (C : CameP ps rows) (hi : i < ps.length) (hp : ps[i]? = some p) (hc : c.length ≤ 1000000) (hk : p.k = .ofNat 1) (hz : p.sz = .ofNat 2) : Rnd ps rows i c true c true :=
  fin rfl (vcN2y ps.length i c.length (.ofNat p.n) (RP ps) rows (Vc c) p.v (Bc c) .dead _) ⟨hlen, ifB_mk (fun _ => ⟨hidx hi, (hload (by kernel_rfl) hp).trans (by rw [enc, hk, hz]), (by rcases C.sh hp with h | h | ⟨_, _, _, h⟩ <;> rw [h] <;> kernel_rfl), ifB_mk (fun _ => ⟨(by cases c <;> kernel_rfl), end_same C rfl hi (by kernel_rfl) (by kernel_rfl) (by kernel_rfl)⟩) (fun _ => ⟨(by cases c <;> kernel_rfl), end_same C rfl hi (by kernel_rfl) (by kernel_rfl) (by kernel_rfl)⟩)⟩) fun h => nlt hi h⟩
theorem rdN4x (C : CameP ps rows) (hi : i < ps.length) (hp : ps[i]? = some p) (hc : c.length ≤ 1000000) (hk : p.k = .ofNat 1) (hz : p.sz = .ofNat 4) (hf : p.n / 2 ^ 32 = 0) : Rnd ps rows i c false (c ++ bs [24, 16, 8, 0] p.n) false := by
  refine fin rfl (vcN4x ps.length i c.length (.ofNat p.n) (RP ps) rows (Vc c) p.v (Bc c) (.cells (c.map cellU ++ bc [24, 16, 8, 0] (.ofNat p.n)) true) _) ⟨hlen, ifB_mk (fun _ => ⟨hidx hi, (hload (by kernel_rfl) hp).trans (by rw [enc, hk, hz]), (by rcases C.sh hp with h | h | ⟨_, _, _, h⟩ <;> rw [h] <;> kernel_rfl), ifB_mk (fun h => ?_) (fun _ => ⟨(by cases c <;> kernel_rfl), (by cases c <;> kernel_rfl), ?_, (by cases c <;> kernel_rfl), end_new C rfl hi (d := 46) (row := (c.map cellU ++ bc [24, 16, 8, 0] (.ofNat p.n))) (m := (c.length + 4)) (by kernel_rfl) (by kernel_rfl) (by kernel_rfl) (by kernel_rfl) (by kernel_rfl) (by kernel_rfl) (by rw [bc_eq, List.map_append]) (by simp [bs]) (ne_app (by simp [bs])) (RenO.of (by kernel_rfl))⟩)⟩) fun h => nlt hi h⟩
  · have e : eqF (.ofNat (p.n / 2 ^ 32)) (.ofNat 0) = true := by rw [hf]; rfl
    have h' : (!eqF (.ofNat (p.n / 2 ^ 32)) (.ofNat 0)) = true := h
    rw [e] at h'; cases h'
  · exact by
      cases c with
      | nil => exact (append_nil_at ap (n := 4) (new := (bc [24, 16, 8, 0] (.ofNat p.n))) (by kernel_rfl) (first_at (cs := bc [24, 16, 8, 0] (.ofNat p.n)) (rw := true) (by kernel_rfl) (by kernel_rfl)) (by decide) (by decide) (by decide)).trans (by kernel_rfl)
      | cons y c => exact (append_grow_at (l := (y :: c).length) (i := 43) (cs := (y :: c).map cellU) ap (n := 4) (new := (bc [24, 16, 8, 0] (.ofNat p.n))) (by kernel_rfl) (first_at (cs := bc [24, 16, 8, 0] (.ofNat p.n)) (rw := true) (by kernel_rfl) (by kernel_rfl)) (by kernel_rfl) (by simp) (by decide) (by omega) (by omega) (by omega)).trans (by kernel_rfl)
theorem rdN4z (C : CameP ps rows) (hi : i < ps.length) (hp : ps[i]? = some p) (hc : c.length ≤ 1000000) (hk : p.k = .ofNat 1) (hz : p.sz = .ofNat 4) (hf : p.n / 2 ^ 32 ≠ 0) : Rnd ps rows i c false c true := by
  refine fin rfl (vcN4x ps.length i c.length (.ofNat p.n) (RP ps) rows (Vc c) p.v (Bc c) .dead _) ⟨hlen, ifB_mk (fun _ => ⟨hidx hi, (hload (by kernel_rfl) hp).trans (by rw [enc, hk, hz]), (by rcases C.sh hp with h | h | ⟨_, _, _, h⟩ <;> rw [h] <;> kernel_rfl), ifB_mk (fun _ => ⟨(by cases c <;> kernel_rfl), end_same C rfl hi (by kernel_rfl) (by kernel_rfl) (by kernel_rfl)⟩) (fun h => ?_)⟩) fun h => nlt hi h⟩
  have e : eqF (.ofNat (p.n / 2 ^ 32)) (.ofNat 0) = false := by rw [eqF_eq]; exact decide_eq_false fun g => hf (Int.ofNat.inj g)
  have h' : (!eqF (.ofNat (p.n / 2 ^ 32)) (.ofNat 0)) = false := h
  rw [e] at h'; cases h'
theorem rdN4y (C : CameP ps rows) (hi : i < ps.length) (hp : ps[i]? = some p) (hc : c.length ≤ 1000000) (hk : p.k = .ofNat 1) (hz : p.sz = .ofNat 4) : Rnd ps rows i c true c true :=
  fin rfl (vcN4y ps.length i c.length (.ofNat p.n) (RP ps) rows (Vc c) p.v (Bc c) .dead _) ⟨hlen, ifB_mk (fun _ => ⟨hidx hi, (hload (by kernel_rfl) hp).trans (by rw [enc, hk, hz]), (by rcases C.sh hp with h | h | ⟨_, _, _, h⟩ <;> rw [h] <;> kernel_rfl), ifB_mk (fun _ => ⟨(by cases c <;> kernel_rfl), end_same C rfl hi (by kernel_rfl) (by kernel_rfl) (by kernel_rfl)⟩) (fun _ => ⟨(by cases c <;> kernel_rfl), end_same C rfl hi (by kernel_rfl) (by kernel_rfl) (by kernel_rfl)⟩)⟩) fun h => nlt hi h⟩
theorem rdN8x (C : CameP ps rows) (hi : i < ps.length) (hp : ps[i]? = some p) (hc : c.length ≤ 1000000) (hk : p.k = .ofNat 1) (hz : p.sz = .ofNat 8) : Rnd ps rows i c false (c ++ bs [56, 48, 40, 32, 24, 16, 8, 0] p.n) false := by
  refine fin rfl (vcN8x ps.length i c.length (.ofNat p.n) (RP ps) rows (Vc c) p.v (Bc c) (.cells (c.map cellU ++ bc [56, 48, 40, 32, 24, 16, 8, 0] (.ofNat p.n)) true) _) ⟨hlen, ifB_mk (fun _ => ⟨hidx hi, (hload (by kernel_rfl) hp).trans (by rw [enc, hk, hz]), (by rcases C.sh hp with h | h | ⟨_, _, _, h⟩ <;> rw [h] <;> kernel_rfl), (by cases c <;> kernel_rfl), (by cases c <;> kernel_rfl), ?_, (by cases c <;> kernel_rfl), end_new C rfl hi (d := 46) (row := (c.map cellU ++ bc [56, 48, 40, 32, 24, 16, 8, 0] (.ofNat p.n))) (m := (c.length + 8)) (by kernel_rfl) (by kernel_rfl) (by kernel_rfl) (by kernel_rfl) (by kernel_rfl) (by kernel_rfl) (by rw [bc_eq, List.map_append]) (by simp [bs]) (ne_app (by simp [bs])) (RenO.of (by kernel_rfl))⟩) fun h => nlt hi h⟩
  exact by
      cases c with
      | nil => exact (append_nil_at ap (n := 8) (new := (bc [56, 48, 40, 32, 24, 16, 8, 0] (.ofNat p.n))) (by kernel_rfl) (first_at (cs := bc [56, 48, 40, 32, 24, 16, 8, 0] (.ofNat p.n)) (rw := true) (by kernel_rfl) (by kernel_rfl)) (by decide) (by decide) (by decide)).trans (by kernel_rfl)
      | cons y c => exact (append_grow_at (l := (y :: c).length) (i := 43) (cs := (y :: c).map cellU) ap (n := 8) (new := (bc [56, 48, 40, 32, 24, 16, 8, 0] (.ofNat p.n))) (by kernel_rfl) (first_at (cs := bc [56, 48, 40, 32, 24, 16, 8, 0] (.ofNat p.n)) (rw := true) (by kernel_rfl) (by kernel_rfl)) (by kernel_rfl) (by simp) (by decide) (by omega) (by omega) (by omega)).trans (by kernel_rfl)
theorem rdN8y (C : CameP ps rows) (hi : i < ps.length) (hp : ps[i]? = some p) (hc : c.length ≤ 1000000) (hk : p.k = .ofNat 1) (hz : p.sz = .ofNat 8) : Rnd ps rows i c true c true :=
  fin rfl (vcN8y ps.length i c.length (.ofNat p.n) (RP ps) rows (Vc c) p.v (Bc c) .dead _) ⟨hlen, ifB_mk (fun _ => ⟨hidx hi, (hload (by kernel_rfl) hp).trans (by rw [enc, hk, hz]), (by rcases C.sh hp with h | h | ⟨_, _, _, h⟩ <;> rw [h] <;> kernel_rfl), (by cases c <;> kernel_rfl), end_same C rfl hi (by kernel_rfl) (by kernel_rfl) (by kernel_rfl)⟩) fun h => nlt hi h⟩
theorem rdN0x (C : CameP ps rows) (hi : i < ps.length) (hp : ps[i]? = some p) (hc : c.length ≤ 1000000) (hk : p.k = .ofNat 1) (h1 : eqF p.sz (.ofNat 1) = false) (h2 : eqF p.sz (.ofNat 2) = false) (h4 : eqF p.sz (.ofNat 4) = false) (h8 : eqF p.sz (.ofNat 8) = false) : Rnd ps rows i c false c true :=
  fin rfl (vcN0x p.sz ps.length i c.length (.ofNat p.n) (RP ps) rows (Vc c) p.v (Bc c) _) ⟨hlen, ifB_mk (fun _ => ⟨hidx hi, (hload (by kernel_rfl) hp).trans (by rw [enc, hk]), (by rcases C.sh hp with h | h | ⟨_, _, _, h⟩ <;> rw [h] <;> kernel_rfl), ne3 h1, ne3 h2, ne3 h4, ne3 h8, (by cases c <;> kernel_rfl), end_same C rfl hi (by kernel_rfl) (by kernel_rfl) (by kernel_rfl)⟩) fun h => nlt hi h⟩
theorem rdF1x (C : CameP ps rows) (hi : i < ps.length) (hp : ps[i]? = some p) (hc : c.length ≤ 1000000) (hk : p.k = .ofNat 2) (hf : eqF (Int.tmod (.ofNat p.n) (.ofNat 2)) (.ofNat 1) = true) : Rnd ps rows i c false (c ++ [1]) false := by
  refine fin rfl (vcFx p.sz ps.length i c.length (.ofNat p.n) (RP ps) rows (Vc c) p.v (Bc c) (.cells (c.map cellU ++ [cellU 1]) true) .dead _) ⟨hlen, ifB_mk (fun _ => ⟨hidx hi, (hload (by kernel_rfl) hp).trans (by rw [enc, hk]), (by rcases C.sh hp with h | h | ⟨_, _, _, h⟩ <;> rw [h] <;> kernel_rfl), ifB_mk (fun _ => ⟨(by cases c <;> kernel_rfl), (by cases c <;> kernel_rfl), ?_, (by cases c <;> kernel_rfl), end_new C rfl hi (d := 46) (row := (c.map cellU ++ [cellU 1])) (m := (c.length + 1)) (by kernel_rfl) (by kernel_rfl) (by kernel_rfl) (by kernel_rfl) (by kernel_rfl) (by kernel_rfl) (by simp) (by simp) (ne_app (by simp)) (RenO.of (by kernel_rfl))⟩) (fun h => by rw [hf] at h; cases h)⟩) fun h => nlt hi h⟩
  exact by
      cases c with
      | nil => exact (append_nil_at ap (n := 1) (new := [cellU 1]) (by kernel_rfl) (first_at (cs := [cellU 1]) (rw := true) (by kernel_rfl) (by kernel_rfl)) (by decide) (by decide) (by decide)).trans (by kernel_rfl)
      | cons y c => exact (append_grow_at (l := (y :: c).length) (i := 43) (cs := (y :: c).map cellU) ap (n := 1) (new := [cellU 1]) (by kernel_rfl) (first_at (cs := [cellU 1]) (rw := true) (by kernel_rfl) (by kernel_rfl)) (by kernel_rfl) (by simp) (by decide) (by omega) (by omega) (by omega)).trans (by kernel_rfl)
theorem rdF0x (C : CameP ps rows) (hi : i < ps.length) (hp : ps[i]? = some p) (hc : c.length ≤ 1000000) (hk : p.k = .ofNat 2) (hf : eqF (Int.tmod (.ofNat p.n) (.ofNat 2)) (.ofNat 1) = false) : Rnd ps rows i c false (c ++ [0]) false := by
  refine fin rfl (vcFx p.sz ps.length i c.length (.ofNat p.n) (RP ps) rows (Vc c) p.v (Bc c) .dead (.cells (c.map cellU ++ [cellU 0]) true) _) ⟨hlen, ifB_mk (fun _ => ⟨hidx hi, (hload (by kernel_rfl) hp).trans (by rw [enc, hk]), (by rcases C.sh hp with h | h | ⟨_, _, _, h⟩ <;> rw [h] <;> kernel_rfl), ifB_mk (fun h => by rw [hf] at h; cases h) (fun _ => ⟨(by cases c <;> kernel_rfl), (by cases c <;> kernel_rfl), ?_, (by cases c <;> kernel_rfl), end_new C rfl hi (d := 46) (row := (c.map cellU ++ [cellU 0])) (m := (c.length + 1)) (by kernel_rfl) (by kernel_rfl) (by kernel_rfl) (by kernel_rfl) (by kernel_rfl) (by kernel_rfl) (by simp) (by simp) (ne_app (by simp)) (RenO.of (by kernel_rfl))⟩)⟩) fun h => nlt hi h⟩
  exact by
      cases c with
      | nil => exact (append_nil_at ap (n := 1) (new := [cellU 0]) (by kernel_rfl) (first_at (cs := [cellU 0]) (rw := true) (by kernel_rfl) (by kernel_rfl)) (by decide) (by decide) (by decide)).trans (by kernel_rfl)
      | cons y c => exact (append_grow_at (l := (y :: c).length) (i := 43) (cs := (y :: c).map cellU) ap (n := 1) (new := [cellU 0]) (by kernel_rfl) (first_at (cs := [cellU 0]) (rw := true) (by kernel_rfl) (by kernel_rfl)) (by kernel_rfl) (by simp) (by decide) (by omega) (by omega) (by omega)).trans (by kernel_rfl)
theorem rdN0y (C : CameP ps rows) (hi : i < ps.length) (hp : ps[i]? = some p) (hc : c.length ≤ 1000000) (hk : p.k = .ofNat 1) (h1 : eqF p.sz (.ofNat 1) = false) (h2 : eqF p.sz (.ofNat 2) = false) (h4 : eqF p.sz (.ofNat 4) = false) (h8 : eqF p.sz (.ofNat 8) = false) : Rnd ps rows i c true c true :=
  fin rfl (vcN0y p.sz ps.length i c.length (.ofNat p.n) (RP ps) rows (Vc c) p.v (Bc c) _) ⟨hlen, ifB_mk (fun _ => ⟨hidx hi, (hload (by kernel_rfl) hp).trans (by rw [enc, hk]), (by rcases C.sh hp with h | h | ⟨_, _, _, h⟩ <;> rw [h] <;> kernel_rfl), ne3 h1, ne3 h2, ne3 h4, ne3 h8, (by cases c <;> kernel_rfl), end_same C rfl hi (by kernel_rfl) (by kernel_rfl) (by kernel_rfl)⟩) fun h => nlt hi h⟩
theorem rdFy (C : CameP ps rows) (hi : i < ps.length) (hp : ps[i]? = some p) (hc : c.length ≤ 1000000) (hk : p.k = .ofNat 2) : Rnd ps rows i c true c true :=
  fin rfl (vcFy p.sz ps.length i c.length (.ofNat p.n) (RP ps) rows (Vc c) p.v (Bc c) .dead .dead _) ⟨hlen, ifB_mk (fun _ => ⟨hidx hi, (hload (by kernel_rfl) hp).trans (by rw [enc, hk]), (by rcases C.sh hp with h | h | ⟨_, _, _, h⟩ <;> rw [h] <;> kernel_rfl), ifB_mk (fun _ => ⟨(by cases c <;> kernel_rfl), end_same C rfl hi (by kernel_rfl) (by kernel_rfl) (by kernel_rfl)⟩) (fun _ => ⟨(by cases c <;> kernel_rfl), end_same C rfl hi (by kernel_rfl) (by kernel_rfl) (by kernel_rfl)⟩)⟩) fun h => nlt hi h⟩
theorem rdOx (C : CameP ps rows) (hi : i < ps.length) (hp : ps[i]? = some p) (hc : c.length ≤ 1000000) (h1 : eqF p.k (.ofNat 1) = false) (h2 : eqF p.k (.ofNat 2) = false) (h3 : eqF p.k (.ofNat 3) = false) (h4 : eqF p.k (.ofNat 4) = false) (h5 : eqF p.k (.ofNat 5) = false) (h6 : eqF p.k (.ofNat 6) = false) : Rnd ps rows i c false c false :=
  fin rfl (vcOx p.k p.sz ps.length i c.length (.ofNat p.n) (RP ps) rows (Vc c) p.v (Bc c) _) ⟨hlen, ifB_mk (fun _ => ⟨hidx hi, (hload (by kernel_rfl) hp).trans rfl, (by rcases C.sh hp with h | h | ⟨_, _, _, h⟩ <;> rw [h] <;> kernel_rfl), ne3 h1, ne3 h2, ne3 h3, ne3 h4, ne3 h5, ne3 h6, end_same C rfl hi (by kernel_rfl) (by kernel_rfl) (by kernel_rfl)⟩) fun h => nlt hi h⟩
theorem rdOy (C : CameP ps rows) (hi : i < ps.length) (hp : ps[i]? = some p) (hc : c.length ≤ 1000000) (h1 : eqF p.k (.ofNat 1) = false) (h2 : eqF p.k (.ofNat 2) = false) (h3 : eqF p.k (.ofNat 3) = false) (h4 : eqF p.k (.ofNat 4) = false) (h5 : eqF p.k (.ofNat 5) = false) (h6 : eqF p.k (.ofNat 6) = false) : Rnd ps rows i c true c true :=
  fin rfl (vcOy p.k p.sz ps.length i c.length (.ofNat p.n) (RP ps) rows (Vc c) p.v (Bc c) _) ⟨hlen, ifB_mk (fun _ => ⟨hidx hi, (hload (by kernel_rfl) hp).trans rfl, (by rcases C.sh hp with h | h | ⟨_, _, _, h⟩ <;> rw [h] <;> kernel_rfl), ne3 h1, ne3 h2, ne3 h3, ne3 h4, ne3 h5, ne3 h6, end_same C rfl hi (by kernel_rfl) (by kernel_rfl) (by kernel_rfl)⟩) fun h => nlt hi h⟩
theorem argRow {j : Nat} {v : AV} {o : AO} {l : List Nat} (A : ArgB j v o l) (h : l ≠ []) : v = .slice (some (j, 0)) l.length (.atl l.length) ∧ o = .cells (l.map cellU) false := by
  cases A with
  | nil => exact absurd rfl h
  | zero => exact absurd rfl h
  | row _ => exact ⟨rfl, rfl⟩
theorem argNil {j : Nat} {v : AV} {o : AO} {l : List Nat} (A : ArgB j v o l) (h : l = []) : v = nilV ∨ v = .slice0 := by
  cases A with
  | nil => exact .inl rfl
  | zero => exact .inr rfl
  | row h2 => exact absurd h h2
theorem lenB (C : CameP ps rows) (hp : ps[i]? = some p) {S : ASt} : aBuiltinM EW .len [25] [p.v] S = some (nI p.b.length, S) := (ArgB.sl (C.arg i p hp) sl25).len S
theorem frow {S : ASt} {i : Nat} {x : List Nat} (h : S.h.get (i + 1) = some (.cells (x.map cellU) false)) : aFirst S 1 x.length (.slice (some (i + 1, 0)) x.length (.atl x.length)) = some (x.map cellU) := first_at h (by rw [Nat.mul_one]; exact takeU)
theorem rowAt {ext : List (Nat × AO)} {nx : Nat} (C : CameP ps rows) (hi : i < ps.length) (hr : rows i = .cells (p.b.map cellU) false) (h : ext.all (fun p => Nat.ble 42 p.1) = true) : (mkSt (base (RP ps) rows ++ ext) nx).h.get (i + 1) = some (.cells (p.b.map cellU) false) :=
  (get_row h (by have := C.len; omega)).trans (by rw [hr])
theorem rdBx (C : CameP ps rows) (hi : i < ps.length) (hp : ps[i]? = some p) (hc : c.length ≤ 1000000) (hb : p.b.length ≤ 20000) (hk : p.k = .ofNat 3) (h0 : p.b ≠ []) : Rnd ps rows i c false (c ++ p.b) false := by
  have hn : 0 < p.b.length := List.length_pos_iff.2 h0
  obtain ⟨hv, hr⟩ := argRow (C.arg i p hp) h0
  refine fin rfl (vcBx p.sz ps.length i c.length p.b.length (.ofNat p.n) (RP ps) rows (Vc c) p.v (Bc c) (.cells (c.map cellU ++ p.b.map cellU) true) _) ⟨hlen, ifB_mk (fun _ => ⟨hidx hi, (hload (by kernel_rfl) hp).trans (by rw [enc, hk]), (by rcases C.sh hp with h | h | ⟨_, _, _, h⟩ <;> rw [h] <;> kernel_rfl), (by rcases C.sh hp with h | h | ⟨_, _, _, h⟩ <;> rw [h] <;> kernel_rfl), (by cases c <;> kernel_rfl), (by cases c <;> kernel_rfl), ?_, (by cases c <;> kernel_rfl), end_new C rfl hi (d := 45) (row := (c.map cellU ++ p.b.map cellU)) (m := (c.length + p.b.length)) (by kernel_rfl) (by kernel_rfl) (by kernel_rfl) (by kernel_rfl) (by kernel_rfl) (by kernel_rfl) (by rw [List.map_append]) (by rw [List.length_append]) (ne_app h0) (RenO.of (by kernel_rfl))⟩) fun h => nlt hi h⟩
  rw [hv]
  cases c with
  | nil => exact (append_nil_at ap (n := p.b.length) (by kernel_rfl) (frow (rowAt C hi hr (by kernel_rfl))) hn (by omega) (by omega)).trans (by simp only [List.length_nil, Nat.zero_add]; kernel_rfl)
  | cons y c => exact (append_grow_at (l := (y :: c).length) (i := 43) (cs := (y :: c).map cellU) ap (n := p.b.length) (by kernel_rfl) (frow (rowAt C hi hr (by kernel_rfl))) (by kernel_rfl) (by simp) (by decide) hn (by omega) (by omega)).trans (by kernel_rfl)
theorem rdZx (C : CameP ps rows) (hi : i < ps.length) (hp : ps[i]? = some p) (hc : c.length ≤ 1000000) (hb : p.b.length ≤ 20000) (hk : p.k = .ofNat 3) (h0 : p.b = []) : Rnd ps rows i c false c false := by
  refine fin rfl (vcZx p.sz ps.length i c.length (.ofNat p.n) (RP ps) rows (Vc c) p.v (Bc c) _) ⟨hlen, ifB_mk (fun _ => ⟨hidx hi, (hload (by kernel_rfl) hp).trans (by rw [enc, hk]), (by rcases C.sh hp with h | h | ⟨_, _, _, h⟩ <;> rw [h] <;> kernel_rfl), (by rcases C.sh hp with h | h | ⟨_, _, _, h⟩ <;> rw [h] <;> kernel_rfl), (by cases c <;> kernel_rfl), (by cases c <;> kernel_rfl), ?_, (by cases c <;> kernel_rfl), end_same C rfl hi (by kernel_rfl) (by kernel_rfl) (by kernel_rfl)⟩) fun h => nlt hi h⟩
  rcases argNil (C.arg i p hp) h0 with h | h <;> rw [h] <;> cases c <;> kernel_rfl
theorem rdBy (C : CameP ps rows) (hi : i < ps.length) (hp : ps[i]? = some p) (hc : c.length ≤ 1000000) (hb : p.b.length ≤ 20000) (hk : p.k = .ofNat 3) : Rnd ps rows i c true c true :=
  fin rfl (vcBy p.sz ps.length i c.length (.ofNat p.n) (RP ps) rows (Vc c) p.v (Bc c) _) ⟨hlen, ifB_mk (fun _ => ⟨hidx hi, (hload (by kernel_rfl) hp).trans (by rw [enc, hk]), (by rcases C.sh hp with h | h | ⟨_, _, _, h⟩ <;> rw [h] <;> kernel_rfl), (by rcases C.sh hp with h | h | ⟨_, _, _, h⟩ <;> rw [h] <;> kernel_rfl), (by cases c <;> kernel_rfl), end_same C rfl hi (by kernel_rfl) (by kernel_rfl) (by kernel_rfl)⟩) fun h => nlt hi h⟩
theorem rdLx (C : CameP ps rows) (hi : i < ps.length) (hp : ps[i]? = some p) (hc : c.length ≤ 1000000) (hb : p.b.length ≤ 20000) (hk : p.k = .ofNat 4) (h0 : p.b ≠ []) : Rnd ps rows i c false (c ++ (bs [8, 0] p.b.length ++ p.b)) false := by
  have hn : 0 < p.b.length := List.length_pos_iff.2 h0
  obtain ⟨hv, hr⟩ := argRow (C.arg i p hp) h0
  refine fin rfl (vcLx p.sz ps.length i c.length p.b.length (.ofNat p.n) (RP ps) rows (Vc c) p.v (Bc c) (.cells (c.map cellU ++ (bc [8, 0] (wrapF .u64 (.ofNat p.b.length)))) true) (.cells ((c.map cellU ++ (bc [8, 0] (wrapF .u64 (.ofNat p.b.length)))) ++ p.b.map cellU) true) _) ⟨hlen, ifB_mk (fun _ => ⟨hidx hi, (hload (by kernel_rfl) hp).trans (by rw [enc, hk]), (by rcases C.sh hp with h | h | ⟨_, _, _, h⟩ <;> rw [h] <;> kernel_rfl), (by rcases C.sh hp with h | h | ⟨_, _, _, h⟩ <;> rw [h] <;> kernel_rfl), lenB C hp, (ngt (by rw [ltF_nn]; exact decide_eq_false (by omega))), lenB C hp, (ne28 (by rw [wU64 (by omega)]; show eqF (.ofNat (p.b.length / 2 ^ 16)) (.ofNat 0) = true; rw [show p.b.length / 2 ^ 16 = 0 from Nat.div_eq_of_lt (by omega)]; rfl)), (by cases c <;> kernel_rfl), (by cases c <;> kernel_rfl), ?_, (by cases c <;> kernel_rfl), by kernel_rfl, by kernel_rfl, ?_, by kernel_rfl, end_new C rfl hi (d := 47) (row := ((c.map cellU ++ (bc [8, 0] (wrapF .u64 (.ofNat p.b.length)))) ++ p.b.map cellU)) (m := (c.length + 2 + p.b.length)) (by kernel_rfl) (by kernel_rfl) (by kernel_rfl) (by kernel_rfl) (by kernel_rfl) (by kernel_rfl) (by rw [wU64 (by omega), bc_eq, List.map_append, List.map_append, List.append_assoc]) (by simp [bs]; omega) (ne_app (by simp [bs])) (RenO.of (by kernel_rfl))⟩) fun h => nlt hi h⟩
  · exact by
      cases c with
      | nil => exact (append_nil_at ap (n := 2) (new := (bc [8, 0] (wrapF .u64 (.ofNat p.b.length)))) (by kernel_rfl) (first_at (cs := (bc [8, 0] (wrapF .u64 (.ofNat p.b.length)))) (rw := true) (by kernel_rfl) (by kernel_rfl)) (by decide) (by decide) (by decide)).trans (by kernel_rfl)
      | cons y c => exact (append_grow_at (l := (y :: c).length) (i := 43) (cs := (y :: c).map cellU) ap (n := 2) (new := (bc [8, 0] (wrapF .u64 (.ofNat p.b.length)))) (by kernel_rfl) (first_at (cs := (bc [8, 0] (wrapF .u64 (.ofNat p.b.length)))) (rw := true) (by kernel_rfl) (by kernel_rfl)) (by kernel_rfl) (by simp) (by decide) (by omega) (by omega) (by omega)).trans (by kernel_rfl)
  · rw [hv]
    exact (append_grow_at (l := c.length + 2) (i := 46) (cs := c.map cellU ++ (bc [8, 0] (wrapF .u64 (.ofNat p.b.length)))) ap (n := p.b.length) (by kernel_rfl) (frow (rowAt C hi hr (by kernel_rfl))) (by kernel_rfl) (by simp [bc]) (by decide) hn (by omega) (by omega)).trans (by kernel_rfl)
theorem rdMx (C : CameP ps rows) (hi : i < ps.length) (hp : ps[i]? = some p) (hc : c.length ≤ 1000000) (hb : p.b.length ≤ 20000) (hk : p.k = .ofNat 4) (h0 : p.b = []) : Rnd ps rows i c false (c ++ bs [8, 0] p.b.length) false := by
  refine fin rfl (vcMx p.sz ps.length i c.length p.b.length (.ofNat p.n) (RP ps) rows (Vc c) p.v (Bc c) (.cells (c.map cellU ++ (bc [8, 0] (wrapF .u64 (.ofNat p.b.length)))) true) .dead _) ⟨hlen, ifB_mk (fun _ => ⟨hidx hi, (hload (by kernel_rfl) hp).trans (by rw [enc, hk]), (by rcases C.sh hp with h | h | ⟨_, _, _, h⟩ <;> rw [h] <;> kernel_rfl), (by rcases C.sh hp with h | h | ⟨_, _, _, h⟩ <;> rw [h] <;> kernel_rfl), lenB C hp, (ngt (by rw [ltF_nn]; exact decide_eq_false (by omega))), lenB C hp, (ne28 (by rw [wU64 (by omega)]; show eqF (.ofNat (p.b.length / 2 ^ 16)) (.ofNat 0) = true; rw [show p.b.length / 2 ^ 16 = 0 from Nat.div_eq_of_lt (by omega)]; rfl)), (by cases c <;> kernel_rfl), (by cases c <;> kernel_rfl), ?_, (by cases c <;> kernel_rfl), by kernel_rfl, by kernel_rfl, ?_, by kernel_rfl, end_new C rfl hi (d := 46) (row := (c.map cellU ++ (bc [8, 0] (wrapF .u64 (.ofNat p.b.length))))) (m := (c.length + 2)) (by kernel_rfl) (by kernel_rfl) (by kernel_rfl) (by kernel_rfl) (by kernel_rfl) (by kernel_rfl) (by rw [wU64 (by omega), bc_eq, List.map_append]) (by simp [bs]) (ne_app (by simp [bs])) (RenO.of (by kernel_rfl))⟩) fun h => nlt hi h⟩
  · exact by
      cases c with
      | nil => exact (append_nil_at ap (n := 2) (new := (bc [8, 0] (wrapF .u64 (.ofNat p.b.length)))) (by kernel_rfl) (first_at (cs := (bc [8, 0] (wrapF .u64 (.ofNat p.b.length)))) (rw := true) (by kernel_rfl) (by kernel_rfl)) (by decide) (by decide) (by decide)).trans (by kernel_rfl)
      | cons y c => exact (append_grow_at (l := (y :: c).length) (i := 43) (cs := (y :: c).map cellU) ap (n := 2) (new := (bc [8, 0] (wrapF .u64 (.ofNat p.b.length)))) (by kernel_rfl) (first_at (cs := (bc [8, 0] (wrapF .u64 (.ofNat p.b.length)))) (rw := true) (by kernel_rfl) (by kernel_rfl)) (by kernel_rfl) (by simp) (by decide) (by omega) (by omega) (by omega)).trans (by kernel_rfl)
  · rcases argNil (C.arg i p hp) h0 with h | h <;> rw [h] <;> kernel_rfl
theorem rdLy (C : CameP ps rows) (hi : i < ps.length) (hp : ps[i]? = some p) (hc : c.length ≤ 1000000) (hb : p.b.length ≤ 20000) (hk : p.k = .ofNat 4) : Rnd ps rows i c true c true :=
  fin rfl (vcLy p.sz ps.length i c.length p.b.length (.ofNat p.n) (RP ps) rows (Vc c) p.v (Bc c) _) ⟨hlen, ifB_mk (fun _ => ⟨hidx hi, (hload (by kernel_rfl) hp).trans (by rw [enc, hk]), (by rcases C.sh hp with h | h | ⟨_, _, _, h⟩ <;> rw [h] <;> kernel_rfl), (by rcases C.sh hp with h | h | ⟨_, _, _, h⟩ <;> rw [h] <;> kernel_rfl), lenB C hp, (ngt (by rw [ltF_nn]; exact decide_eq_false (by omega))), lenB C hp, (ne28 (by rw [wU64 (by omega)]; show eqF (.ofNat (p.b.length / 2 ^ 16)) (.ofNat 0) = true; rw [show p.b.length / 2 ^ 16 = 0 from Nat.div_eq_of_lt (by omega)]; rfl)), (by cases c <;> kernel_rfl), (by cases c <;> kernel_rfl), end_same C rfl hi (by kernel_rfl) (by kernel_rfl) (by kernel_rfl)⟩) fun h => nlt hi h⟩
theorem rdCx (C : CameP ps rows) (hi : i < ps.length) (hp : ps[i]? = some p) (hc : c.length ≤ 1000000) (hk : p.k = .ofNat 5) {z : Nat} (hz : p.sz = .ofNat z) (h255 : z ≤ 255) : Rnd ps rows i c false (c ++ bs [0] z) false := by
  refine fin rfl (vcCx p.sz ps.length i c.length (.ofNat p.n) (RP ps) rows (Vc c) p.v (Bc c) (.cells (c.map cellU ++ (bc [0] (wrapF .u64 p.sz))) true) _) ⟨hlen, ifB_mk (fun _ => ⟨hidx hi, (hload (by kernel_rfl) hp).trans (by rw [enc, hk]), (by rcases C.sh hp with h | h | ⟨_, _, _, h⟩ <;> rw [h] <;> kernel_rfl), ifB_mk (fun h => ?_) (fun _ => ifB_mk (fun h => ?_) (fun _ => ⟨(ne28 (by rw [hz, wU64 (by omega)]; show eqF (.ofNat (z / 2 ^ 8)) (.ofNat 0) = true; rw [show z / 2 ^ 8 = 0 from Nat.div_eq_of_lt (by omega)]; rfl)), (by cases c <;> kernel_rfl), (by cases c <;> kernel_rfl), ?_, (by cases c <;> kernel_rfl), end_new C rfl hi (d := 46) (row := (c.map cellU ++ (bc [0] (wrapF .u64 p.sz)))) (m := (c.length + 1)) (by kernel_rfl) (by kernel_rfl) (by kernel_rfl) (by kernel_rfl) (by kernel_rfl) (by kernel_rfl) (by rw [hz, wU64 (by omega), bc_eq, List.map_append]) (by simp [bs]) (ne_app (by simp [bs])) (RenO.of (by kernel_rfl))⟩))⟩) fun h => nlt hi h⟩
  · rw [hz, ltF_nn] at h
    exact absurd (of_decide_eq_true h) (by omega)
  · rw [hz, ltF_nn] at h
    exact absurd (of_decide_eq_true h) (by omega)
  · exact by
      cases c with
      | nil => exact (append_nil_at ap (n := 1) (new := (bc [0] (wrapF .u64 p.sz))) (by kernel_rfl) (first_at (cs := (bc [0] (wrapF .u64 p.sz))) (rw := true) (by kernel_rfl) (by kernel_rfl)) (by decide) (by decide) (by decide)).trans (by kernel_rfl)
      | cons y c => exact (append_grow_at (l := (y :: c).length) (i := 43) (cs := (y :: c).map cellU) ap (n := 1) (new := (bc [0] (wrapF .u64 p.sz))) (by kernel_rfl) (first_at (cs := (bc [0] (wrapF .u64 p.sz))) (rw := true) (by kernel_rfl) (by kernel_rfl)) (by kernel_rfl) (by simp) (by decide) (by omega) (by omega) (by omega)).trans (by kernel_rfl)
theorem rdCn (C : CameP ps rows) (hi : i < ps.length) (hp : ps[i]? = some p) (hc : c.length ≤ 1000000) (hk : p.k = .ofNat 5) (hz : ltF p.sz (.ofNat 0) = true) : Rnd ps rows i c false c true :=
  fin rfl (vcCx p.sz ps.length i c.length (.ofNat p.n) (RP ps) rows (Vc c) p.v (Bc c) .dead _) ⟨hlen, ifB_mk (fun _ => ⟨hidx hi, (hload (by kernel_rfl) hp).trans (by rw [enc, hk]), (by rcases C.sh hp with h | h | ⟨_, _, _, h⟩ <;> rw [h] <;> kernel_rfl), ifB_mk (fun _ => ⟨(by cases c <;> kernel_rfl), end_same C rfl hi (by kernel_rfl) (by kernel_rfl) (by kernel_rfl)⟩) (fun h => by rw [hz] at h; cases h)⟩) fun h => nlt hi h⟩
theorem rdCb (C : CameP ps rows) (hi : i < ps.length) (hp : ps[i]? = some p) (hc : c.length ≤ 1000000) (hk : p.k = .ofNat 5) (hz : ltF p.sz (.ofNat 0) = false) (hz2 : ltF (.ofNat 255) p.sz = true) : Rnd ps rows i c false c true :=
  fin rfl (vcCx p.sz ps.length i c.length (.ofNat p.n) (RP ps) rows (Vc c) p.v (Bc c) .dead _) ⟨hlen, ifB_mk (fun _ => ⟨hidx hi, (hload (by kernel_rfl) hp).trans (by rw [enc, hk]), (by rcases C.sh hp with h | h | ⟨_, _, _, h⟩ <;> rw [h] <;> kernel_rfl), ifB_mk (fun h => by rw [hz] at h; cases h) (fun _ => ifB_mk (fun _ => ⟨(by cases c <;> kernel_rfl), end_same C rfl hi (by kernel_rfl) (by kernel_rfl) (by kernel_rfl)⟩) (fun h => by rw [hz2] at h; cases h))⟩) fun h => nlt hi h⟩
theorem rdCy (C : CameP ps rows) (hi : i < ps.length) (hp : ps[i]? = some p) (hc : c.length ≤ 1000000) (hk : p.k = .ofNat 5) : Rnd ps rows i c true c true := by
  refine fin rfl (vcCy p.sz ps.length i c.length (.ofNat p.n) (RP ps) rows (Vc c) p.v (Bc c) .dead _) ⟨hlen, ifB_mk (fun _ => ⟨hidx hi, (hload (by kernel_rfl) hp).trans (by rw [enc, hk]), (by rcases C.sh hp with h | h | ⟨_, _, _, h⟩ <;> rw [h] <;> kernel_rfl), ifB_mk (fun _ => ⟨(by cases c <;> kernel_rfl), end_same C rfl hi (by kernel_rfl) (by kernel_rfl) (by kernel_rfl)⟩) (fun g1 => ifB_mk (fun _ => ⟨(by cases c <;> kernel_rfl), end_same C rfl hi (by kernel_rfl) (by kernel_rfl) (by kernel_rfl)⟩) (fun g2 => ⟨?_, (by cases c <;> kernel_rfl), end_same C rfl hi (by kernel_rfl) (by kernel_rfl) (by kernel_rfl)⟩))⟩) fun h => nlt hi h⟩
  have h1 : (0 : Int) ≤ p.sz := ltF_f g1
  have h2 : p.sz ≤ 255 := ltF_f g2
  obtain ⟨z, hz⟩ : ∃ z : Nat, p.sz = .ofNat z := ⟨p.sz.toNat, (Int.toNat_of_nonneg h1).symm⟩
  have h3 : z ≤ 255 := by rw [hz] at h2; exact Int.ofNat_le.1 h2
  exact ne28 (by rw [hz, wU64 (by omega)]; show eqF (.ofNat (z / 2 ^ 8)) (.ofNat 0) = true; rw [show z / 2 ^ 8 = 0 from Nat.div_eq_of_lt (by omega)]; rfl)
def blk (l : List Nat) : List Nat := (List.range 256).map fun j => l.getD j 0
noncomputable def blkI (l : List Nat) (j : Nat) : Int := .ofNat (l.getD j 0)
theorem rowI_blk (l : List Nat) : rowI (blkI l) = (blk l).map cellU := by
  unfold rowI blk
  rw [List.map_map]
  rfl
theorem over_pre : ∀ (vs cs : List AV), vs.length ≤ cs.length → over vs cs = some (vs ++ cs.drop vs.length)
  | [], cs, _ => by cases cs <;> rfl
  | v :: vs, [], h => by simp at h
  | v :: vs, c :: cs, h => by
    have ih := over_pre vs cs (by simpa using h)
    show (match over vs cs with | some r => some (v :: r) | none => none) = _
    rw [ih]; rfl
theorem blk_set {l : List Nat} {n : Nat} (hn : n = Nat.min l.length 256) : setL (rowI fun _ => Int.ofNat 0) 0 ((l.take n).map cellU) = some (rowI (blkI l)) := by
  have hm1 : n ≤ l.length := by rw [hn]; exact Nat.min_le_left _ _
  have hl : ((l.take n).map cellU).length = n := by rw [List.length_map, List.length_take]; omega
  have h256 : n ≤ 256 := by rw [hn]; exact Nat.min_le_right _ _
  rw [setL_eq]
  have e : setL0 (rowI fun _ => Int.ofNat 0) 0 ((l.take n).map cellU) = over ((l.take n).map cellU) (rowI fun _ => Int.ofNat 0) := by cases (rowI fun _ => Int.ofNat 0) <;> rfl
  rw [e, over_pre _ _ (by rw [hl]; simpa [rowI] using h256), hl]
  congr 1
  apply List.ext_getElem?
  intro j
  by_cases h : j < n
  · rw [List.getElem?_append_left (by rw [hl]; exact h), List.getElem?_map, List.getElem?_take, if_pos h]
    have h2 : j < l.length := by omega
    rw [List.getElem?_eq_getElem h2]
    simp [rowI, show j < 256 by omega, blkI, cellU, List.getD_eq_getElem?_getD, List.getElem?_eq_getElem h2]
  · rw [List.getElem?_append_right (by rw [hl]; omega), hl, List.getElem?_drop]
    rw [show n + (j - n) = j by omega]
    by_cases h2 : j < 256
    · have h3 : ¬ j < l.length := fun g => h (by rw [hn]; exact Nat.lt_min.2 ⟨g, h2⟩)
      simp [rowI, h2, blkI, List.getD_eq_getElem?_getD, List.getElem?_eq_none (by omega : l.length ≤ j)]
    · simp [rowI, h2]
theorem cp {S : ASt} {x : AV} {sl : Nat} (hx : aLen x = some sl) : aBuiltinM EW .copy [25, 25] [.slice (some (46, 0)) 256 (.known 256), x] S =
    (match aFirst S 1 (Nat.min sl 256) x with
      | none => none
      | some new => match new with
        | [] => some (.int .i64 (.ofNat (Nat.min sl 256)), S)
        | _ => match S.h.get 46 with
          | some (.cells cs true) => (match setL cs 0 new with | some cs' => some (.int .i64 (.ofNat (Nat.min sl 256)), S.put 46 (.cells cs' true)) | none => none)
          | _ => none) := by
  obtain ⟨ti, h1⟩ : ∃ ti, EW.ty.get 25 = some ti := Option.isSome_iff_exists.mp (by kernel_rfl)
  have h2 : ti.desc = .slice 5 := by
    have : (EW.ty.get 25).map (·.desc) = some (.slice 5) := by kernel_rfl
    rw [h1] at this; simpa using this
  obtain ⟨ei, h3⟩ : ∃ ei, EW.ty.get 5 = some ei := Option.isSome_iff_exists.mp (by kernel_rfl)
  have h4 : ei.size = 1 := by
    have : (EW.ty.get 5).map (·.size) = some 1 := by kernel_rfl
    rw [h3] at this; simpa using this
  have e0 : aBuiltinM EW .copy [25, 25] [.slice (some (46, 0)) 256 (.known 256), x] S = aCopy EW 25 (.slice (some (46, 0)) 256 (.known 256)) x S := by kernel_rfl
  rw [e0]
  unfold aCopy
  simp only [h1, h2, h3, h4, hx]
  rfl
theorem cpRow {S : ASt} {i : Nat} {b : List Nat} (h0 : b ≠ []) (hr : S.h.get (i + 1) = some (.cells (b.map cellU) false)) (h46 : S.h.get 46 = some (.cells (rowI fun _ => Int.ofNat 0) true)) :
    aBuiltinM EW .copy [25, 25] [.slice (some (46, 0)) 256 (.known 256), .slice (some (i + 1, 0)) b.length (.atl b.length)] S = some (nI (Nat.min b.length 256), S.put 46 (.cells (rowI (blkI b)) true)) := by
  have hn : 0 < b.length := List.length_pos_iff.2 h0
  have hm : Nat.min b.length 256 ≤ b.length := Nat.min_le_left _ _
  have hp : 0 < Nat.min b.length 256 := Nat.lt_min.2 ⟨hn, by decide⟩
  have ht : takeL (b.map cellU) 0 (Nat.min b.length 256 * 1) = some ((b.take (Nat.min b.length 256)).map cellU) := by
    unfold takeL
    rw [Nat.mul_one, List.drop_zero, ← List.map_take]
    simp only [List.length_map, List.length_take]
    rw [show min (Nat.min b.length 256) b.length = Nat.min b.length 256 from Nat.min_eq_left hm, Nat.beq_refl]; rfl
  have hf : aFirst S 1 (Nat.min b.length 256) (.slice (some (i + 1, 0)) b.length (.atl b.length)) = some ((b.take (Nat.min b.length 256)).map cellU) := by simp only [aFirst, hr, ht]
  rw [cp (sl := b.length) (by kernel_rfl), hf]
  have hne : (b.take (Nat.min b.length 256)).map cellU ≠ [] := by
    intro g
    have := congrArg List.length g
    rw [List.length_map, List.length_take] at this
    simp only [List.length_nil] at this
    omega
  have hs := blk_set (l := b) rfl
  generalize (b.take (Nat.min b.length 256)).map cellU = w at hne hs
  cases w with
  | nil => exact absurd rfl hne
  | cons a w => simp only [h46, hs]; rfl
theorem rdKx (C : CameP ps rows) (hi : i < ps.length) (hp : ps[i]? = some p) (hc : c.length ≤ 1000000) (hb : p.b.length ≤ 20000) (hk : p.k = .ofNat 6) : Rnd ps rows i c false (c ++ blk p.b) false := by
  refine fin rfl (vcKx p.sz ps.length i c.length (Nat.min p.b.length 256) (.ofNat p.n) (RP ps) rows (Vc c) p.v (Bc c) (.cells (c.map cellU ++ rowI (blkI p.b)) true) (blkI p.b) _) ⟨hlen, ifB_mk (fun _ => ⟨hidx hi, (hload (by kernel_rfl) hp).trans (by rw [enc, hk]), (by rcases C.sh hp with h | h | ⟨_, _, _, h⟩ <;> rw [h] <;> kernel_rfl), (by rcases C.sh hp with h | h | ⟨_, _, _, h⟩ <;> rw [h] <;> kernel_rfl), ?_, (by cases c <;> kernel_rfl), (by cases c <;> kernel_rfl), ?_, (by cases c <;> kernel_rfl), end_new C rfl hi (d := 48) (row := (c.map cellU ++ rowI (blkI p.b))) (m := (c.length + 256)) (by kernel_rfl) (by kernel_rfl) (by kernel_rfl) (by kernel_rfl) (by kernel_rfl) (by kernel_rfl) (by rw [rowI_blk, List.map_append]) (by simp [blk]) (ne_app (by simp [blk])) (RenO.of (by kernel_rfl))⟩) fun h => nlt hi h⟩
  · by_cases h0 : p.b = []
    · have e : blkI p.b = fun _ => Int.ofNat 0 := by rw [h0]; funext j; simp [blkI]
      rw [e, h0]
      rcases argNil (C.arg i p hp) h0 with h | h <;> rw [h] <;> exact (cp (sl := 0) (by kernel_rfl)).trans (by kernel_rfl)
    · obtain ⟨hv, hr⟩ := argRow (C.arg i p hp) h0
      rw [hv]
      exact (cpRow h0 (rowAt C hi hr (by kernel_rfl)) (by kernel_rfl)).trans (by kernel_rfl)
  · exact by
      cases c with
      | nil => exact (append_nil_at ap (n := 256) (new := rowI (blkI p.b)) (by kernel_rfl) (first_at (cs := rowI (blkI p.b)) (rw := true) (by kernel_rfl) (by kernel_rfl)) (by decide) (by decide) (by decide)).trans (by kernel_rfl)
      | cons y c => exact (append_grow_at (l := (y :: c).length) (i := 43) (cs := (y :: c).map cellU) ap (n := 256) (new := rowI (blkI p.b)) (by kernel_rfl) (first_at (cs := rowI (blkI p.b)) (rw := true) (by kernel_rfl) (by kernel_rfl)) (by kernel_rfl) (by simp) (by decide) (by omega) (by omega) (by omega)).trans (by kernel_rfl)
theorem rdKy (C : CameP ps rows) (hi : i < ps.length) (hp : ps[i]? = some p) (hc : c.length ≤ 1000000) (hb : p.b.length ≤ 20000) (hk : p.k = .ofNat 6) : Rnd ps rows i c true c true := by
  refine fin rfl (vcKy p.sz ps.length i c.length (Nat.min p.b.length 256) (.ofNat p.n) (RP ps) rows (Vc c) p.v (Bc c) .dead (blkI p.b) _) ⟨hlen, ifB_mk (fun _ => ⟨hidx hi, (hload (by kernel_rfl) hp).trans (by rw [enc, hk]), (by rcases C.sh hp with h | h | ⟨_, _, _, h⟩ <;> rw [h] <;> kernel_rfl), (by rcases C.sh hp with h | h | ⟨_, _, _, h⟩ <;> rw [h] <;> kernel_rfl), ?_, (by cases c <;> kernel_rfl), end_same C rfl hi (by kernel_rfl) (by kernel_rfl) (by kernel_rfl)⟩) fun h => nlt hi h⟩
  · by_cases h0 : p.b = []
    · have e : blkI p.b = fun _ => Int.ofNat 0 := by rw [h0]; funext j; simp [blkI]
      rw [e, h0]
      rcases argNil (C.arg i p hp) h0 with h | h <;> rw [h] <;> exact (cp (sl := 0) (by kernel_rfl)).trans (by kernel_rfl)
    · obtain ⟨hv, hr⟩ := argRow (C.arg i p hp) h0
      rw [hv]
      exact (cpRow h0 (rowAt C hi hr (by kernel_rfl)) (by kernel_rfl)).trans (by kernel_rfl)
end
end Go.Proofs.Ytlnohbilfogheaa.wwr
end

section
open Go Go.Ax Go.Proofs.Ytlnohbilfogheaa
namespace Go.Proofs.Ytlnohbilfogheaa.wwr
set_option linter.unusedVariables false
def partB (p : PV) : Option (List Nat) :=
  bif eqF p.k (.ofNat 1) then
    (bif eqF p.sz (.ofNat 1) then (bif Nat.beq (p.n / 2 ^ 8) 0 then some (bs [0] p.n) else none)
     else bif eqF p.sz (.ofNat 2) then (bif Nat.beq (p.n / 2 ^ 16) 0 then some (bs [8, 0] p.n) else none)
     else bif eqF p.sz (.ofNat 4) then (bif Nat.beq (p.n / 2 ^ 32) 0 then some (bs [24, 16, 8, 0] p.n) else none)
     else bif eqF p.sz (.ofNat 8) then some (bs [56, 48, 40, 32, 24, 16, 8, 0] p.n) else none)
  else bif eqF p.k (.ofNat 2) then some [bif eqF (Int.tmod (.ofNat p.n) (.ofNat 2)) (.ofNat 1) then 1 else 0]
  else bif eqF p.k (.ofNat 3) then some p.b
  else bif eqF p.k (.ofNat 4) then some (bs [8, 0] p.b.length ++ p.b)
  else bif eqF p.k (.ofNat 5) then (bif ltF p.sz (.ofNat 0) then none else bif ltF (.ofNat 255) p.sz then none else some (bs [0] p.sz.toNat))
  else bif eqF p.k (.ofNat 6) then some (blk p.b)
  else some []
def stepP (s : List Nat × Bool) (p : PV) : List Nat × Bool := match partB p with
  | none => (s.1, true)
  | some x => bif s.2 then s else (s.1 ++ x, false)
section
variable {ps : List PV} {rows : Nat → AO} {c : List Nat} {i : Nat} {p : PV}
theorem sp_none {bad : Bool} (h : partB p = none) : stepP (c, bad) p = (c, true) := by unfold stepP; rw [h]
theorem sp_some {x : List Nat} (h : partB p = some x) : stepP (c, false) p = (c ++ x, false) := by unfold stepP; rw [h]; rfl
theorem sp_bad : stepP (c, true) p = (c, true) := by
  unfold stepP
  cases partB p <;> rfl
theorem beq_t {a : Nat} (h : a = 0) : Nat.beq a 0 = true := by rw [h]; rfl
theorem beq_f {a : Nat} (h : a ≠ 0) : Nat.beq a 0 = false := by
  cases e : Nat.beq a 0 with
  | true => exact absurd (Nat.eq_of_beq_eq_true e) h
  | false => rfl
theorem rdOk {x : List Nat} (h : partB p = some x) (r : Rnd ps rows i c false (c ++ x) false) : Rnd ps rows i c false (stepP (c, false) p).1 (stepP (c, false) p).2 := by rw [sp_some h]; exact r
theorem rdNo (h : partB p = none) (r : Rnd ps rows i c false c true) : Rnd ps rows i c false (stepP (c, false) p).1 (stepP (c, false) p).2 := by rw [sp_none h]; exact r
theorem rdBad (C : CameP ps rows) (hi : i < ps.length) (hp : ps[i]? = some p) (hc : c.length ≤ 1000000) (hb : p.b.length ≤ 20000) : Rnd ps rows i c true c true := by
  cases k1 : eqF p.k (.ofNat 1) with
  | true =>
    have hk := eqF_t k1
    cases z1 : eqF p.sz (.ofNat 1) with
    | true => exact rdN1y C hi hp hc hk (eqF_t z1)
    | false => cases z2 : eqF p.sz (.ofNat 2) with
      | true => exact rdN2y C hi hp hc hk (eqF_t z2)
      | false => cases z4 : eqF p.sz (.ofNat 4) with
        | true => exact rdN4y C hi hp hc hk (eqF_t z4)
        | false => cases z8 : eqF p.sz (.ofNat 8) with
          | true => exact rdN8y C hi hp hc hk (eqF_t z8)
          | false => exact rdN0y C hi hp hc hk z1 z2 z4 z8
  | false => cases k2 : eqF p.k (.ofNat 2) with
    | true => exact rdFy C hi hp hc (eqF_t k2)
    | false => cases k3 : eqF p.k (.ofNat 3) with
      | true => exact rdBy C hi hp hc hb (eqF_t k3)
      | false => cases k4 : eqF p.k (.ofNat 4) with
        | true => exact rdLy C hi hp hc hb (eqF_t k4)
        | false => cases k5 : eqF p.k (.ofNat 5) with
          | true => exact rdCy C hi hp hc (eqF_t k5)
          | false => cases k6 : eqF p.k (.ofNat 6) with
            | true => exact rdKy C hi hp hc hb (eqF_t k6)
            | false => exact rdOy C hi hp hc k1 k2 k3 k4 k5 k6
theorem rdGood (C : CameP ps rows) (hi : i < ps.length) (hp : ps[i]? = some p) (hc : c.length ≤ 1000000) (hb : p.b.length ≤ 20000) : Rnd ps rows i c false (stepP (c, false) p).1 (stepP (c, false) p).2 := by
  cases k1 : eqF p.k (.ofNat 1) with
  | true =>
    have hk := eqF_t k1
    cases z1 : eqF p.sz (.ofNat 1) with
    | true =>
      by_cases h : p.n / 2 ^ 8 = 0
      · exact rdOk (by simp only [partB, k1, z1, beq_t h, cond_true]) (rdN1x C hi hp hc hk (eqF_t z1) h)
      · exact rdNo (by simp only [partB, k1, z1, beq_f h, cond_true, cond_false]) (rdN1z C hi hp hc hk (eqF_t z1) h)
    | false => cases z2 : eqF p.sz (.ofNat 2) with
      | true =>
        by_cases h : p.n / 2 ^ 16 = 0
        · exact rdOk (by simp only [partB, k1, z1, z2, beq_t h, cond_true, cond_false]) (rdN2x C hi hp hc hk (eqF_t z2) h)
        · exact rdNo (by simp only [partB, k1, z1, z2, beq_f h, cond_true, cond_false]) (rdN2z C hi hp hc hk (eqF_t z2) h)
      | false => cases z4 : eqF p.sz (.ofNat 4) with
        | true =>
          by_cases h : p.n / 2 ^ 32 = 0
          · exact rdOk (by simp only [partB, k1, z1, z2, z4, beq_t h, cond_true, cond_false]) (rdN4x C hi hp hc hk (eqF_t z4) h)
          · exact rdNo (by simp only [partB, k1, z1, z2, z4, beq_f h, cond_true, cond_false]) (rdN4z C hi hp hc hk (eqF_t z4) h)
        | false => cases z8 : eqF p.sz (.ofNat 8) with
          | true => exact rdOk (by simp only [partB, k1, z1, z2, z4, z8, cond_true, cond_false]) (rdN8x C hi hp hc hk (eqF_t z8))
          | false => exact rdNo (by simp only [partB, k1, z1, z2, z4, z8, cond_true, cond_false]) (rdN0x C hi hp hc hk z1 z2 z4 z8)
  | false => cases k2 : eqF p.k (.ofNat 2) with
    | true => cases hf : eqF (Int.tmod (.ofNat p.n) (.ofNat 2)) (.ofNat 1) with
      | true => exact rdOk (by simp only [partB, k1, k2, hf, cond_true, cond_false]) (rdF1x C hi hp hc (eqF_t k2) hf)
      | false => exact rdOk (by simp only [partB, k1, k2, hf, cond_true, cond_false]) (rdF0x C hi hp hc (eqF_t k2) hf)
    | false => cases k3 : eqF p.k (.ofNat 3) with
      | true =>
        have e : partB p = some p.b := by simp only [partB, k1, k2, k3, cond_true, cond_false]
        by_cases h : p.b = []
        · refine rdOk e ?_
          have := rdZx C hi hp hc hb (eqF_t k3) h
          rw [h, List.append_nil]; exact this
        · exact rdOk e (rdBx C hi hp hc hb (eqF_t k3) h)
      | false => cases k4 : eqF p.k (.ofNat 4) with
        | true =>
          have e : partB p = some (bs [8, 0] p.b.length ++ p.b) := by simp only [partB, k1, k2, k3, k4, cond_true, cond_false]
          by_cases h : p.b = []
          · refine rdOk e ?_
            have := rdMx C hi hp hc hb (eqF_t k4) h
            rw [show bs [8, 0] p.b.length ++ p.b = bs [8, 0] p.b.length by rw [h, List.append_nil]]; exact this
          · exact rdOk e (rdLx C hi hp hc hb (eqF_t k4) h)
        | false => cases k5 : eqF p.k (.ofNat 5) with
          | true => cases l0 : ltF p.sz (.ofNat 0) with
            | true => exact rdNo (by simp only [partB, k1, k2, k3, k4, k5, l0, cond_true, cond_false]) (rdCn C hi hp hc (eqF_t k5) l0)
            | false => cases l1 : ltF (.ofNat 255) p.sz with
              | true => exact rdNo (by simp only [partB, k1, k2, k3, k4, k5, l0, l1, cond_true, cond_false]) (rdCb C hi hp hc (eqF_t k5) l0 l1)
              | false =>
                have h1 : (0 : Int) ≤ p.sz := ltF_f l0
                have h2 : p.sz ≤ 255 := ltF_f l1
                have hz : p.sz = .ofNat p.sz.toNat := (Int.toNat_of_nonneg h1).symm
                exact rdOk (by simp only [partB, k1, k2, k3, k4, k5, l0, l1, cond_true, cond_false]) (rdCx C hi hp hc (eqF_t k5) hz (by omega))
          | false => cases k6 : eqF p.k (.ofNat 6) with
            | true => exact rdOk (by simp only [partB, k1, k2, k3, k4, k5, k6, cond_true, cond_false]) (rdKx C hi hp hc hb (eqF_t k6))
            | false =>
              refine rdOk (x := []) (by simp only [partB, k1, k2, k3, k4, k5, k6, cond_false]) ?_
              rw [List.append_nil]
              exact rdOx C hi hp hc k1 k2 k3 k4 k5 k6
theorem round (C : CameP ps rows) (hi : i < ps.length) (hp : ps[i]? = some p) (hc : c.length ≤ 1000000) (hb : p.b.length ≤ 20000) (bad : Bool) : Rnd ps rows i c bad (stepP (c, bad) p).1 (stepP (c, bad) p).2 := by
  cases bad with
  | true => rw [sp_bad]; exact rdBad C hi hp hc hb
  | false => exact rdGood C hi hp hc hb
def LenOK (n : Nat) (o : Option (List Nat)) : Prop := ∀ x, o = some x → x.length ≤ n
theorem lo_bif {n : Nat} {b : Bool} {o o' : Option (List Nat)} (h : LenOK n o) (h' : LenOK n o') : LenOK n (bif b then o else o') := by cases b <;> assumption
theorem lo_none {n : Nat} : LenOK n none := fun x h => by cases h
theorem lo_some {n : Nat} {x : List Nat} (h : x.length ≤ n) : LenOK n (some x) := fun y e => by cases e; exact h
theorem bsLen {sh : List Nat} {n : Nat} : (bs sh n).length = sh.length := by simp [bs]
theorem blkLen {l : List Nat} : (blk l).length = 256 := by simp [blk]
theorem lo_bs {n : Nat} {sh : List Nat} {m : Nat} (h : sh.length ≤ 8) : LenOK (n + 300) (some (bs sh m)) := lo_some (by rw [bsLen]; omega)
theorem partLO : LenOK (p.b.length + 300) (partB p) :=
  lo_bif (lo_bif (lo_bif (lo_bs (by decide)) lo_none) (lo_bif (lo_bif (lo_bs (by decide)) lo_none) (lo_bif (lo_bif (lo_bs (by decide)) lo_none) (lo_bif (lo_bs (by decide)) lo_none))))
    (lo_bif (lo_some (by rw [List.length_singleton]; omega)) (lo_bif (lo_some (by omega)) (lo_bif (lo_some (by rw [List.length_append, bsLen]; simp only [List.length_cons, List.length_nil]; omega))
      (lo_bif (lo_bif lo_none (lo_bif lo_none (lo_bs (by decide)))) (lo_bif (lo_some (by rw [blkLen]; omega)) (lo_some (by simp)))))))
theorem partLen {x : List Nat} (h : partB p = some x) : x.length ≤ p.b.length + 300 := partLO x h
theorem stepLen (bad : Bool) (hb : p.b.length ≤ 20000) : (stepP (c, bad) p).1.length ≤ c.length + 20300 := by
  cases bad with
  | true => rw [sp_bad]; show c.length ≤ _; omega
  | false =>
    cases h : partB p with
    | none => rw [sp_none h]; show c.length ≤ _; omega
    | some x =>
      rw [sp_some h]
      have := partLen h
      show (c ++ x).length ≤ _
      rw [List.length_append]; omega
def putF (ps : List PV) : List Nat × Bool := ps.foldl stepP ([], false)
theorem putF_succ {k : Nat} (h : ps[k]? = some p) : putF (ps.take (k + 1)) = stepP (putF (ps.take k)) p := by
  unfold putF
  rw [List.take_add_one, h, List.foldl_append]; rfl
theorem exitRnd (C : CameP ps rows) (bad : Bool) : Trip Try.prog 42 none L13 (frP ps.length ps.length) (stS ps rows c bad) (Stops 42 (.exit 0) (frP ps.length ps.length) (stS ps rows c bad)) := by
  have hf : ltF (.ofNat ps.length) (.ofNat ps.length) = true → False := fun h => by rw [ltF_nn] at h; simp at h
  cases bad with
  | false => exact (Trip.runY EWok noSum_ok (Eq.mp (vcOx 0 0 ps.length ps.length c.length 0 (RP ps) rows (Vc c) undefA (Bc c) _) ⟨hlen, ifB_mk (fun h => (hf h).elim) fun _ => ⟨rfl, Wk.refl _ _ _⟩⟩)).mono fun r hr => Stops.can hr
  | true => exact (Trip.runY EWok noSum_ok (Eq.mp (vcOy 0 0 ps.length ps.length c.length 0 (RP ps) rows (Vc c) undefA (Bc c) _) ⟨hlen, ifB_mk (fun h => (hf h).elim) fun _ => ⟨rfl, Wk.refl _ _ _⟩⟩)).mono fun r hr => Stops.can hr
theorem loop (C : CameP ps rows) (hb : ∀ p, p ∈ ps → p.b.length ≤ 20000) : Trip Try.prog 42 none (.block 0 (.loop L13)) (frP ps.length 0) (stS ps rows [] false) (Stops 42 .normal (frP ps.length ps.length) (stS ps rows (putF ps).1 (putF ps).2)) := by
  have hl := C.len
  refine Trip.block (Trip.loop (fun m fr st => ∃ k c bad, k ≤ ps.length ∧ m = ps.length - k ∧ putF (ps.take k) = (c, bad) ∧ c.length ≤ k * 20300 ∧ fr = frP ps.length k ∧ st = stS ps rows c bad) ?_ ps.length ⟨0, [], false, by omega, by omega, rfl, by simp, rfl, rfl⟩)
  rintro m fr st ⟨k, c, bad, hk, rfl, hI, hc, rfl, rfl⟩
  by_cases e : k < ps.length
  · obtain ⟨p, hp⟩ : ∃ p, ps[k]? = some p := ⟨_, List.getElem?_eq_getElem e⟩
    have hpb := hb p (List.mem_of_getElem? hp)
    refine (round C e hp (by omega) hpb bad).mono ?_
    rintro ⟨e', fr', st'⟩ ⟨h1, h2⟩
    simp only at h1 h2
    subst h1
    refine ⟨ps.length - (k + 1), _, _, by omega, h2, k + 1, (stepP (c, bad) p).1, (stepP (c, bad) p).2, by omega, rfl, by rw [putF_succ hp, hI], ?_, rfl, rfl⟩
    have := stepLen (c := c) bad hpb
    omega
  · have ek : k = ps.length := by omega
    subst ek
    rw [List.take_length] at hI
    refine (exitRnd C bad).mono ?_
    rintro ⟨e', fr', st'⟩ ⟨h1, h2⟩
    simp only at h1 h2
    subst h1
    rw [hI]
    exact ⟨fun _ => ⟨rfl, h2⟩, fun h => absurd rfl h⟩
end
end Go.Proofs.Ytlnohbilfogheaa.wwr
end

section
open Go Go.Ax Go.Proofs.Ytlnohbilfogheaa
namespace Go.Proofs.Ytlnohbilfogheaa.wwr
set_option linter.unusedVariables false
noncomputable def argL (n : Nat) : AV := .slice (some (0, 0)) n (.atl n)
noncomputable def stB (R : AO) (rows : Nat → AO) : ASt := mkSt (base R rows) 42
noncomputable def fr13 (n : Nat) : AFr := { m := putArgs [argL n] 0 .e, n := 62, defs := [] }
section
variable {ps : List PV} {rows : Nat → AO}
theorem shape13 : Try.f13.body = some c13 := by kernel_rfl
theorem shapeL : dropC 1 c13 = .seq (.seq (seqL (seqL (dropC 1 c13))) (.block 0 (.loop L13))) (dropC 2 c13) := by kernel_rfl
theorem vcP (n : Nat) (R : AO) (rows : Nat → AO) (Q : Exit × AFr × ASt → Prop) : Q (.normal, xFr [(0, argL n), (2, .ptr none), (3, .ptr (some (42, 0)))] 62, mkSt (base R rows ++ [(42, wr nilV false)]) 43) =
    ((TM EW noSum [] fl0 60).ex fl0 none (preC 1 c13) (fr13 n) (stB R rows)).allY (fun r => Q (canR [0, 2, 3] ko r)) .nil := by kernel_rfl
theorem vcI (n : Nat) (R : AO) (rows : Nat → AO) (Q : Exit × AFr × ASt → Prop) : Q (.normal, frP n 0, mkSt (base R rows ++ [(42, wr nilV false)]) 43) =
    ((TM EW noSum [] fl0 60).ex fl0 none (seqL (seqL (dropC 1 c13))) (xFr [(0, argL n), (2, .ptr none), (3, .ptr (some (42, 0)))] 62) (mkSt (base R rows ++ [(42, wr nilV false)]) 43)).allY (fun r => Q (canR [0, 2, 3, 4] ko r)) .nil := by kernel_rfl
theorem vcE (n : Nat) (S : ASt) (R : AV × ASt → Prop) : ((Exit.ret = .normal ∨ Exit.ret = .ret) ∧ ∃ v, some (.ptr (some (42, 0)), S) = some v ∧ R v) =
    ((TM EW noSum [] fl0 60).ex fl0 none (dropC 2 c13) (frP n n) S).allY (fun r => (r.1 = .normal ∨ r.1 = .ret) ∧ ∃ v, leaveA EW Try.f13 r.2.1 r.2.2 = some v ∧ R v) .nil := by kernel_rfl
theorem held0 {n i nx : Nat} {R : AO} {ext : List (Nat × AO)} (hR : refsO2 42 R) (hC : ∀ j, Came (rows j)) (he : ext.all (fun p => Nat.ble 42 p.1) = true)
    (hp : preB 42 0 (ids 43) = true) (hn : noDup (ids 43) = true) (hf : frE (ids 43) (frP n i) [0, 2, 3, 4] = some [(0, .slice (some (0, 0)) n (.atl n)), (2, .ptr none), (3, .ptr (some (42, 0))), (4, nI i)])
    (h42 : (mkSt (base R rows ++ ext) nx).h.get 42 = some (wr nilV false)) :
    Wk 42 (frP n i) (mkSt (base R rows ++ ext) nx) (frP n i) (stW R rows nilV false .dead 44) := by
  have hs : StP (ids 43) (mkSt (base R rows ++ ext) nx) ((0, R) :: ((List.range 41).map (fun j => (j + 1, rows j)) ++ [(42, wr nilV false), (43, .dead)])) :=
    .cons 0 R (ids_at (by omega)) (get_zero he) (RenO.keep hp hR) (stp_rows (fun j hj => ids_at hj) (fun j hj => get_row he hj) hC (.cons 42 _ rfl h42 (RenO.of (by kernel_rfl)) (.dead (by simp [ids]) .nil)) _ fun j hj => List.mem_range.1 hj)
  have h := Wk.heldX (kb := 42) (ids 43) hp hn [0, 2, 3, 4] hf hs
  have e : (0, R) :: ((List.range 41).map (fun j => (j + 1, rows j)) ++ [(42, wr nilV false), (43, .dead)]) = base R rows ++ [(42, wr nilV false), (43, .dead)] := by rw [base_eq]; rfl
  have e2 : (ids 43).length = 44 := by simp [ids]
  rw [e, e2] at h
  exact h
theorem body (C : CameP ps rows) (hb : ∀ p, p ∈ ps → p.b.length ≤ 20000) : Trip Try.prog 42 none c13 (fr13 ps.length) (stB (RP ps) rows) fun r => (r.1 = .normal ∨ r.1 = .ret) ∧ ∃ v, leaveA EW Try.f13 r.2.1 r.2.2 = some v ∧ v = (.ptr (some (42, 0)), stS ps rows (putF ps).1 (putF ps).2) := by
  refine Trip.preY EWok noSum_ok (k := 1) (kf := [0, 2, 3]) (ko := ko) (by kernel_rfl) (Q1 := fun r => r = (.normal, xFr [(0, argL ps.length), (2, .ptr none), (3, .ptr (some (42, 0)))] 62, mkSt (base (RP ps) rows ++ [(42, wr nilV false)]) 43)) (Eq.mp (vcP ps.length (RP ps) rows (fun r => r = (.normal, xFr [(0, argL ps.length), (2, .ptr none), (3, .ptr (some (42, 0)))] 62, mkSt (base (RP ps) rows ++ [(42, wr nilV false)]) 43))) rfl) ?_ ?_
  · rintro F S h
    cases h
    rw [shapeL]
    refine Trip.seq (R := Stops 42 .normal (frP ps.length ps.length) (stS ps rows (putF ps).1 (putF ps).2)) (Trip.seq (R := Stops 42 .normal (frP ps.length 0) (stS ps rows [] false))
      ((Trip.runY EWok noSum_ok (Eq.mp (vcI ps.length (RP ps) rows (Stops 42 .normal (frP ps.length 0) (stS ps rows [] false))) ⟨rfl, held0 C.refs C.came (by kernel_rfl) (by kernel_rfl) (by kernel_rfl) (by kernel_rfl) (by kernel_rfl)⟩)).mono fun r hr => Stops.can hr) (fun fr' st' hq => Trip.less hq.2 (loop C hb)) (fun e fr' st' hne hq => absurd hq.1 hne)) (fun fr' st' hq => ?_) (fun e fr' st' hne hq => absurd hq.1 hne)
    exact Trip.less hq.2 (Trip.runY EWok noSum_ok (Eq.mp (vcE ps.length (stS ps rows (putF ps).1 (putF ps).2) (fun v => v = (.ptr (some (42, 0)), stS ps rows (putF ps).1 (putF ps).2))) ⟨.inr rfl, _, rfl, rfl⟩))
  · intro r h1 h2
    exact absurd (congrArg Prod.fst h2) h1
theorem putRun (C : CameP ps rows) (hb : ∀ p, p ∈ ps → p.b.length ≤ 20000) (B : Prot) (w0 : World) (ι : Ren) (w : World) (args' : Array Value) (hB : ∀ i, ¬ B.rs i) (hsr : SR B w0 ι (stB (RP ps) rows) w) (hv : VRs ι [argL ps.length] args') :
    (callFunc 13 args').run Try.prog w = .ok (.enter 13 args') w ∧ CallsIn Fence.wide 0 Try.prog 13 args' w fun e w' => ∃ v, v = (AV.ptr (some (42, 0)), stS ps rows (putF ps).1 (putF ps).2) ∧ Post B w0 ι v e w' :=
  Trip.call EWok (fn := Try.f13) (by kernel_rfl) shape13 (by kernel_rfl) (body C hb) B hB w0 ι w args' hsr hv
end
end Go.Proofs.Ytlnohbilfogheaa.wwr
end

section
open Go Go.Ax Go.Proofs.Ytlnohbilfogheaa
namespace Go.Proofs.Ytlnohbilfogheaa.wwr
set_option linter.unusedVariables false
noncomputable def liveB (S1 : ASt) (j : Nat) : Bool := match S1.h.get j with
  | some .dead => false
  | some _ => true
  | none => false
noncomputable def srcW (S1 : ASt) : Src := (List.range S1.next).map fun j => bif liveB S1 j then some (j, 0, false) else none
theorem srcW_at {S1 : ASt} {j : Nat} : (srcW S1)[j]? = if j < S1.next then some (bif liveB S1 j then some (j, 0, false) else none) else none := by
  unfold srcW
  rw [List.getElem?_map]
  by_cases h : j < S1.next
  · rw [List.getElem?_range h, if_pos h]; rfl
  · rw [List.getElem?_eq_none (by rw [List.length_range]; omega), if_neg h]; rfl
theorem srcW_some {S1 : ASt} {j i o : Nat} {w : Bool} (h : (srcW S1)[j]? = some (some (i, o, w))) : i = j ∧ o = 0 ∧ w = false ∧ liveB S1 j = true := by
  rw [srcW_at] at h
  by_cases e : j < S1.next
  · rw [if_pos e] at h
    cases hl : liveB S1 j with
    | true => rw [hl] at h; cases h; exact ⟨rfl, rfl, rfl, rfl⟩
    | false => rw [hl] at h; cases h
  · rw [if_neg e] at h; cases h
theorem gS_W {S1 : ASt} {nx : Nat} : gS (srcW S1) nx = fun j => nx + j := by
  funext j
  unfold gS
  split
  · rename_i i o h
    have := (srcW_some h).2.2.1
    cases this
  · rfl
theorem live_of {S1 : ASt} {j : Nat} (h : liveB S1 j = true) : ∃ x, S1.h.get j = some x ∧ x ≠ .dead := by
  unfold liveB at h
  cases hx : S1.h.get j with
  | none => rw [hx] at h; cases h
  | some x =>
    rw [hx] at h
    refine ⟨x, rfl, fun e => ?_⟩
    subst e
    cases h
theorem live_mk {S1 : ASt} {j : Nat} {x : AO} (h : S1.h.get j = some x) (hd : x ≠ .dead) : liveB S1 j = true := by
  unfold liveB
  rw [h]
  cases x <;> first | rfl | exact absurd rfl hd
theorem renW {S1 : ASt} {ι : Ren} {j : Nat} {L : Go.Ax.Loc} (hl : liveB S1 j = true) (hj : j < S1.next) (h : ι j = some L) : renS (srcW S1) ι j = some L := by
  unfold renS
  rw [srcW_at, if_pos hj, hl, cond_true]
  simp only [h]
  rfl
theorem whole {P : Program} {f : Nat} {args : List AV} {S S1 : ASt} {Q1 : AV × ASt → Prop}
    (hrun : ∀ B w0 ι w args', (∀ i, ¬ B.rs i) → SR B w0 ι S1 w → VRs ι args args' → (callFunc f args').run P w = .ok (.enter f args') w ∧ CallsIn Fence.wide 0 P f args' w fun e w' => ∃ v, Q1 v ∧ Post B w0 ι v e w')
    (hdom : ∀ j x, S1.h.get j = some x → j < S1.next)
    (hs : ∀ j x, S1.h.get j = some x → x ≠ .dead → S.h.get j = some x ∧ x.own = false ∧ ∀ ι L ob, OR ι L x ob → OR (renS (srcW S1) ι) L x ob)
    (ha : ∀ ι args', VRs ι args args' → VRs (renS (srcW S1) ι) args args')
    {outs : List (Nat × AO)} {n : Nat} {v : AV} (hn : S.next + S1.next ≤ n)
    (hback : ∀ q, Q1 q → BackV (fun j => S.next + j) q.1 v ∧ S.next + q.2.next ≤ n ∧ ∀ p, p ∈ outs → S1.next ≤ p.1 ∧ S.next + p.1 < n ∧ (p.2 = .dead ∨ p.2.own = true ∧ ∃ a, q.2.h.get p.1 = some a ∧ BackO (fun j => S.next + j) a p.2)) :
    Call1 P f args S (v, outS (fun j => S.next + j) outs S n) := by
  have hlen : (srcW S1).length = S1.next := by simp [srcW]
  have h := Call1.frame (P := P) (f := f) (args := args) (args1 := args) (S := S) (S1 := S1) (Q1 := Q1) hrun (src := srcW S1) ⟨hlen.symm, fun j i o w hj => ?_, fun j x hj => ?_, fun j x hj hd => ?_, fun j j' x i o w o' w' hj ho s1 s2 => ?_⟩ ha (outs := outs) (n := n) (v := v) (fun q hq => ?_)
  · rw [gS_W] at h; exact h
  · obtain ⟨rfl, rfl, rfl, hl⟩ := srcW_some hj
    obtain ⟨x, hx, hd⟩ := live_of hl
    exact ⟨(fun h => by cases h), x, (hs _ _ hx hd).1, hd⟩
  · rw [hlen]; exact hdom j x hj
  · obtain ⟨h1, h2, h3⟩ := hs j x hj hd
    refine ⟨j, 0, false, x, ?_, h1, hd, (fun h => by rw [h2] at h; cases h), fun ι L ob hx => h3 ι L ob hx⟩
    rw [srcW_at, if_pos (hdom j x hj), live_mk hj hd]; rfl
  · have := (hs j x hj (own_nd ho)).2.1
    rw [ho] at this; cases this
  · obtain ⟨b1, b2, b3⟩ := hback q hq
    rw [← gS_W (S1 := S1)] at b1
    refine ⟨b1, ⟨b2, by rw [hlen]; exact hn⟩, fun p hp => ?_, fun j x hj ho => ?_⟩
    · obtain ⟨c1, c2, c3⟩ := b3 p hp
      rw [gS_W]
      exact ⟨c2, fun h => by rw [hlen] at h; omega, c3⟩
    · have := (hs j x hj (own_nd ho)).2.1
      rw [ho] at this; cases this
structure CameQ (ps : List PV) (rows : Nat → AO) : Prop extends CameP ps rows where
  none : ∀ i, ps.length ≤ i → rows i = .dead
  pos : ps ≠ []
theorem base_get {R : AO} {rows : Nat → AO} {j : Nat} {x : AO} (h : (stB R rows).h.get j = some x) : (j = 0 ∧ x = R) ∨ ∃ k, k < 41 ∧ j = k + 1 ∧ x = rows k := by
  rcases foldl_get D (base R rows) .e j x h with ⟨p, p1, p2, p3⟩ | h
  · subst p2; subst p3
    rw [base_eq] at p1
    rcases List.mem_cons.1 p1 with e | h
    · subst e; exact .inl ⟨rfl, rfl⟩
    · obtain ⟨k, hk, e⟩ := List.mem_map.1 h
      subst e
      exact .inr ⟨k, List.mem_range.1 hk, rfl, rfl⟩
  · rw [T.get_e] at h; cases h
theorem argOwn {j : Nat} {v : AV} {o : AO} {l : List Nat} (A : ArgB j v o l) : o.own = false := by
  cases A <;> rfl
section
variable {ps : List PV} {rows : Nat → AO} {S : ASt}
theorem rowsRef {i : Nat} (C : CameQ ps rows) : (rows i).own = false ∧ (rows i = .dead ∨ ∃ cs rw, rows i = .cells cs rw ∧ ∀ c, c ∈ cs → refsV 0 c) := by
  refine ⟨?_, C.came i⟩
  by_cases h : i < ps.length
  · exact argOwn (C.arg i _ (List.getElem?_eq_getElem h))
  · rw [C.none i (by omega)]; rfl
theorem liveRow {i : Nat} {R : AO} {cs : List AV} {rw : Bool} (hi : i < 41) (h : rows i = .cells cs rw) : liveB (stB R rows) (i + 1) = true :=
  live_mk (x := .cells cs rw) (by rw [← h]; exact base_row hi) (fun h => by cases h)
theorem cellW (C : CameQ ps rows) {R : AO} {c : AV} (hc : c ∈ ps.flatMap enc) {ι : Ren} {x : Value} (hx : VR ι c x) : VR (renS (srcW (stB R rows)) ι) c x := by
  obtain ⟨p, hp, hc⟩ := List.mem_flatMap.1 hc
  obtain ⟨i, hi, e⟩ := List.getElem_of_mem hp
  have hpi : ps[i]? = some p := by rw [List.getElem?_eq_getElem hi, e]
  have hl := C.len
  simp only [enc, List.mem_cons, List.not_mem_nil, or_false] at hc
  rcases hc with rfl | rfl | rfl | rfl
  · exact hx.noRef (by simp [refsV])
  · exact hx.noRef (by simp [refsV])
  · exact hx.noRef (by simp [refsV])
  · have A := C.arg i p hpi
    generalize p.v = v, p.b = l at A hx
    generalize ho : rows i = o at A
    cases A with
    | nil => exact hx.noRef (by simp [refsV])
    | zero => exact hx.noRef (by simp [refsV])
    | row h0 => cases hx with
      | slice _ _ _ c' L _ hL hc hl' => exact .slice _ _ _ c' L _ (renW (liveRow (by omega) ho) (by show i + 1 < 42; omega) hL) hc hl'
theorem orR (C : CameQ ps rows) {R : AO} {ι : Ren} {L : Go.Ax.Loc} {ob : Obj} (h : OR ι L (RP ps) ob) : OR (renS (srcW (stB R rows)) ι) L (RP ps) ob := by
  obtain ⟨c, e, lo, hi, q1, q2, q3, q4, q5, q6⟩ := h
  exact ⟨c, e, lo, hi, q1, q2, q3, q4, fun k y y' hy hy' => cellW C (List.mem_of_getElem? hy) (q5 k y y' hy hy'), q6⟩
theorem wholeS (C : CameQ ps rows) (h0 : S.h.get 0 = some (RP ps)) (hr : ∀ i, i < ps.length → S.h.get (i + 1) = some (rows i)) :
    ∀ j x, (stB (RP ps) rows).h.get j = some x → x ≠ .dead → S.h.get j = some x ∧ x.own = false ∧ ∀ ι L ob, OR ι L x ob → OR (renS (srcW (stB (RP ps) rows)) ι) L x ob := fun j x hj hd => by
  rcases base_get hj with ⟨rfl, rfl⟩ | ⟨k, hk, rfl, rfl⟩
  · exact ⟨h0, rfl, fun ι L ob h => orR C h⟩
  · obtain ⟨h1, h2⟩ := rowsRef (i := k) C
    refine ⟨?_, h1, fun ι L ob h => ?_⟩
    · by_cases h : k < ps.length
      · exact hr k h
      · exact absurd (C.none k (by omega)) hd
    · rcases h2 with h2 | ⟨cs, rw, h2, h3⟩
      · exact absurd h2 hd
      · rw [h2] at h ⊢
        obtain ⟨c, e, lo, hi, q1, q2, q3, q4, q5, q6⟩ := h
        exact ⟨c, e, lo, hi, q1, q2, q3, q4, fun k y y' hy hy' => (q5 k y y' hy hy').noRef (h3 y (List.mem_of_getElem? hy)), q6⟩
theorem argW {ι : Ren} {args' : Array Value} (hv : VRs ι [argL ps.length] args') : VRs (renS (srcW (stB (RP ps) rows)) ι) [argL ps.length] args' := ⟨hv.size, fun k y y' hy hy' => by
  match k, hy with
  | 0, hy =>
    simp at hy; subst hy
    cases hv.at_ 0 _ y' rfl hy' with
    | slice _ _ _ c' L _ hL hc hl => exact .slice 0 0 _ c' L _ (renW (live_mk (x := RP ps) base_zero (fun h => by cases h)) (by show 0 < 42; omega) hL) hc hl
  | k + 1, hy => simp at hy⟩
theorem domB {R : AO} : ∀ j x, (stB R rows).h.get j = some x → j < (stB R rows).next := fun j x hj => by
  rcases base_get hj with ⟨rfl, _⟩ | ⟨k, hk, rfl, _⟩ <;> show _ < 42 <;> omega
def VcA (r : Nat) (c : List Nat) : AV := bif c.isEmpty then nilV else .slice (some (r, 0)) c.length (.rest 1)
theorem putAny (C : CameQ ps rows) (hb : ∀ p, p ∈ ps → p.b.length ≤ 20000) (h0 : S.h.get 0 = some (RP ps)) (hr : ∀ i, i < ps.length → S.h.get (i + 1) = some (rows i)) :
    Call1 Try.prog 13 [argL ps.length] S (.ptr (some (S.next + 42, 0)), outS (fun j => S.next + j) [(42, wr (VcA (S.next + 43) (putF ps).1) (putF ps).2), (43, Bc (putF ps).1)] S (S.next + 44)) := by
  refine whole (S1 := stB (RP ps) rows) (fun B w0 ι w args' hB hsr hv => putRun C.toCameP hb B w0 ι w args' hB hsr hv) domB (wholeS C h0 hr) (fun ι args' hv => argW hv) (by show S.next + 42 ≤ _; omega) (fun q hq => ?_)
  subst hq
  refine ⟨BackV.eq rfl, Nat.le_refl _, fun p hp => ?_⟩
  simp only [List.mem_cons, List.not_mem_nil, or_false] at hp
  rcases hp with rfl | rfl
  · refine ⟨by show 42 ≤ 42; omega, by show S.next + 42 < _; omega, .inr ⟨rfl, _, (by kernel_rfl : (stS ps rows (putF ps).1 (putF ps).2).h.get 42 = some (wr (Vc (putF ps).1) (putF ps).2)), ?_⟩⟩
    exact BackO.cells (by cases (putF ps).1 <;> rfl)
  · refine ⟨by show 42 ≤ 43; omega, by show S.next + 43 < _; omega, ?_⟩
    cases hc : (putF ps).1 with
    | nil => exact .inl rfl
    | cons y c => exact .inr ⟨rfl, _, (by kernel_rfl : (stS ps rows (y :: c) (putF ps).2).h.get 43 = some (Bc (y :: c))), BackO.row (refU _)⟩
end
end Go.Proofs.Ytlnohbilfogheaa.wwr
end
