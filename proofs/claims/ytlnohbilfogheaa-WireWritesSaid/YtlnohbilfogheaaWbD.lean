/-
  OWN WORK, A PART: an abstract machine for the program's text that the kernel can run, and the proof that it is sound: what it answers is what the program answers; contracts of functions by it. No condition.
-/
import Derived.Test.YtlnohbilfogheaaWbC
section
open Go Go.Ax Go.Proofs.Ytlnohbilfogheaa
namespace Go.Proofs.Ytlnohbilfogheaa.wwr
set_option linter.unusedVariables false
theorem E3ok : Env.Ok Try.prog E3 := envEx_ok (xs := []) ⟨⟨Try.func3, Try.call3⟩, ⟨Try.func12, Try.call12⟩, ⟨Try.func39, Try.call39⟩, ⟨Try.func40, Try.call40⟩, ⟨Try.func41, Try.call41⟩, ⟨Try.func81, Try.call81⟩, ⟨Try.func80, Try.call80⟩, ⟨Try.func42, Try.call42⟩, ⟨Try.func14, Try.call14⟩, ⟨Try.func15, Try.call15⟩, ⟨Try.func47, Try.call47⟩, ⟨Try.func10, Try.call10⟩, trivial⟩ trivial (by kernel_rfl)
theorem tl22 : sliceT E3 22 = some 4 := by kernel_rfl
theorem tl25 : sliceT E3 25 = some 1 := by kernel_rfl
theorem tg30 : aggT E3 30 = some 4 := by kernel_rfl
theorem tp : appT E3 25 25 = some (1, 1) := by kernel_rfl
def dvI (N : Int) : Nat → Int
  | 0 => N
  | k + 1 => wrapF .u64 (Int.tdiv (dvI N k) (.ofNat 256))
def rc (ks : List Nat) (N : Int) : List AV := ks.map fun k => .int .u8 (wrapF .u8 (Int.tmod (dvI N k) (.ofNat 256)))
theorem dvI_eq {n : Nat} (h : n < 18446744073709551616) : ∀ k, dvI (.ofNat n) k = .ofNat (n / 256 ^ k)
  | 0 => by simp [dvI]
  | k + 1 => by
    show wrapF .u64 (Int.tdiv (dvI (.ofNat n) k) (.ofNat 256)) = _
    rw [dvI_eq h k]
    show wrapF .u64 (.ofNat (n / 256 ^ k / 256)) = _
    rw [Nat.div_div_eq_div_mul, ← Nat.pow_succ, wU64 (Nat.lt_of_le_of_lt (Nat.div_le_self _ _) h)]
theorem wU8 (z : Int) : wrapF .u8 z = .ofNat (modN z (big .u8)) := by
  have hb : Nat.blt (modN z (big .u8)) (half .u8) = true := blt_t (by
    show modN z (big .u8) < 256
    cases z with
    | ofNat a => exact Nat.mod_lt _ (by decide)
    | negSucc a => exact Nat.lt_of_le_of_lt (Nat.sub_le _ _) (by decide))
  unfold wrapF
  show (bif Nat.blt (modN z (big .u8)) (half .u8) then Int.ofNat (modN z (big .u8)) else _) = _
  rw [hb]; rfl
theorem wU8n {m : Nat} (h : m < 256) : wrapF .u8 (.ofNat m) = .ofNat m := by
  rw [wU8]
  exact congrArg Int.ofNat (Nat.mod_eq_of_lt h)
theorem rc_eq {n : Nat} (h : n < 18446744073709551616) (ks : List Nat) : rc ks (.ofNat n) = (ks.map fun k => n / 256 ^ k % 256).map cellU := by
  unfold rc
  rw [List.map_map]
  refine List.map_congr_left fun k _ => ?_
  rw [dvI_eq h]
  show AV.int .u8 (wrapF .u8 (.ofNat (n / 256 ^ k % 256))) = _
  rw [wU8n (Nat.mod_lt _ (by decide))]; rfl
theorem bs1 (n : Nat) : [0].map (fun k => n / 256 ^ k % 256) = bs [0] n := rfl
theorem bs2 (n : Nat) : [1, 0].map (fun k => n / 256 ^ k % 256) = bs [8, 0] n := rfl
theorem bs4 (n : Nat) : [3, 2, 1, 0].map (fun k => n / 256 ^ k % 256) = bs [24, 16, 8, 0] n := rfl
theorem bs8 (n : Nat) : [7, 6, 5, 4, 3, 2, 1, 0].map (fun k => n / 256 ^ k % 256) = bs [56, 48, 40, 32, 24, 16, 8, 0] n := rfl
theorem eqZ (a : Nat) : eqF (.ofNat a) (.ofNat 0) = Nat.beq a 0 := by
  rw [eqF_eq]
  cases a with
  | zero => rfl
  | succ a => exact decide_eq_false fun h => by cases h
theorem okN {n : Nat} (h : n < 18446744073709551616) (k : Nat) : eqF (dvI (.ofNat n) k) (.ofNat 0) = Nat.beq (n / 256 ^ k) 0 := by rw [dvI_eq h, eqZ]
def refB (p : PV) : List Nat :=
  bif eqF p.k (.ofNat 1) then
    (bif eqF p.sz (.ofNat 1) then bs [0] p.n
     else bif eqF p.sz (.ofNat 2) then bs [8, 0] p.n
     else bif eqF p.sz (.ofNat 4) then bs [24, 16, 8, 0] p.n
     else bif eqF p.sz (.ofNat 8) then bs [56, 48, 40, 32, 24, 16, 8, 0] p.n else [])
  else bif eqF p.k (.ofNat 2) then [bif eqF (Int.tmod (.ofNat p.n) (.ofNat 2)) (.ofNat 1) then 1 else 0]
  else bif eqF p.k (.ofNat 3) then p.b
  else bif eqF p.k (.ofNat 4) then bs [8, 0] p.b.length ++ p.b
  else bif eqF p.k (.ofNat 5) then [modN p.sz (big .u8)]
  else bif eqF p.k (.ofNat 6) then blk p.b
  else []
def okB (p : PV) : Bool :=
  bif eqF p.k (.ofNat 1) then
    (bif eqF p.sz (.ofNat 1) then Nat.beq (p.n / 2 ^ 8) 0
     else bif eqF p.sz (.ofNat 2) then Nat.beq (p.n / 2 ^ 16) 0
     else bif eqF p.sz (.ofNat 4) then Nat.beq (p.n / 2 ^ 32) 0
     else eqF p.sz (.ofNat 8))
  else bif eqF p.k (.ofNat 2) then true
  else bif eqF p.k (.ofNat 3) then true
  else bif eqF p.k (.ofNat 4) then true
  else bif eqF p.k (.ofNat 5) then (bif ltF p.sz (.ofNat 0) then false else !ltF (.ofNat 255) p.sz)
  else true
theorem full_take {l : List AV} {n : Nat} (h : l.length = n) : takeL l 0 (n * 1) = some l := by
  subst h
  rw [Nat.mul_one]
  unfold takeL
  simp
def Vw (c : List Nat) : AV := bif c.isEmpty then nilV else .slice (some (42, 0)) c.length (.rest 1)
noncomputable def stw (ps : List PV) (rows : Nat → AO) (c : List Nat) : ASt := stL (RP ps) rows (Bc c)
def ids3 (d : Nat) : List Nat := List.range 42 ++ [d]
theorem ids3_at {d j : Nat} (h : j < 42) : (ids3 d)[j]? = some j := by
  unfold ids3
  rw [List.getElem?_append_left (by simpa using h), List.getElem?_range h]
def RU (ps : List PV) (rows : Nat → AO) (i : Nat) (c : List Nat) (g : Bool) : Exit × AFr × ASt → Prop := Stops 42 .normal (fr3 ps.length (i + 1) (Vw c) g) (stw ps rows c)
def Rd3 (ps : List PV) (rows : Nat → AO) (i : Nat) (c : List Nat) (g : Bool) (c' : List Nat) (g' : Bool) : Prop := Trip Try.prog 42 none L3 (fr3 ps.length i (Vw c) g) (stw ps rows c) (RU ps rows i c' g')
section
variable {ps : List PV} {rows : Nat → AO} {c : List Nat} {i : Nat} {p : PV} {R : AO}
theorem held3 {n i nx d : Nat} {ext : List (Nat × AO)} {V V' : AV} {g : Bool} {W : AO} (hR : refsO2 42 R) (hC : ∀ j, Came (rows j)) (he : ext.all (fun p => Nat.ble 42 p.1) = true)
    (hp : preB 42 0 (ids3 d) = true) (hn : noDup (ids3 d) = true) (hf : frE (ids3 d) (fr3 n i V g) [0, 2, 3, 4, 5] = some [(0, .slice (some (0, 0)) n (.atl n)), (2, .bool false), (3, V'), (4, .bool g), (5, nI i)])
    (hB : (mkSt (base R rows ++ ext) nx).h.get d = some W) (hb : Came W) : Wk 42 (fr3 n i V g) (mkSt (base R rows ++ ext) nx) (fr3 n i V' g) (stL R rows W) := by
  have hs : StP (ids3 d) (mkSt (base R rows ++ ext) nx) ((0, R) :: ((List.range 41).map (fun j => (j + 1, rows j)) ++ [(42, W)])) :=
    .cons 0 R (ids3_at (by omega)) (get_zero he) (RenO.keep hp hR) (stp_rows (fun j hj => ids3_at hj) (fun j hj => get_row he hj) hC (.came hb rfl hB .nil) _ fun j hj => List.mem_range.1 hj)
  have h := Wk.heldX (kb := 42) (ids3 d) hp hn [0, 2, 3, 4, 5] hf hs
  have e : (0, R) :: ((List.range 41).map (fun j => (j + 1, rows j)) ++ [(42, W)]) = base R rows ++ [(42, W)] := by rw [base_eq]; rfl
  have e2 : (ids3 d).length = 43 := by simp [ids3]
  rw [e, e2] at h
  exact h
theorem end3 {n nx d m : Nat} {ext : List (Nat × AO)} {row : List AV} {c' : List Nat} {g g' : Bool} (C : CameP ps rows) (hn : ps.length = n) (hi : i < n) (he : ext.all (fun p => Nat.ble 42 p.1) = true) (hp : preB 42 0 (ids3 d) = true) (hd : noDup (ids3 d) = true)
    (hf : frE (ids3 d) (fr3 n (i + 1) (.slice (some (d, 0)) m (.rest 1)) g) [0, 2, 3, 4, 5] = some [(0, .slice (some (0, 0)) n (.atl n)), (2, .bool false), (3, .slice (some (42, 0)) m (.rest 1)), (4, .bool g), (5, nI (i + 1))])
    (hB : (mkSt (base (RP ps) rows ++ ext) nx).h.get d = some (.cells row true)) (hr : row = c'.map cellU) (hm : m = c'.length) (h0 : c' ≠ []) (hg : g = g') :
    RU ps rows i c' g' (.normal, xFr [(0, .slice (some (0, 0)) n (.atl n)), (2, .bool false), (3, .slice (some (d, 0)) m (.rest 1)), (4, .bool g), (5, .int .i64 (wrapF .i64 (.ofNat i + .ofNat 1)))] 103, mkSt (base (RP ps) rows ++ ext) nx) := by
  subst hn
  rw [e_i (by have := C.len; omega)]
  subst hr; subst hm; subst hg
  have h := held3 (n := ps.length) (i := i + 1) C.refs C.came he hp hd hf hB (.inr ⟨_, _, rfl, refU _⟩)
  refine ⟨rfl, ?_⟩
  cases c' with
  | nil => exact absurd rfl h0
  | cons y c => exact h
theorem same3 {n nx : Nat} {ext : List (Nat × AO)} {g g' : Bool} (C : CameP ps rows) (hn : ps.length = n) (hi : i < n) (he : ext.all (fun p => Nat.ble 42 p.1) = true)
    (hB : (mkSt (base (RP ps) rows ++ ext) nx).h.get 42 = some (Bc c)) (hg : g = g') :
    RU ps rows i c g' (.normal, xFr [(0, .slice (some (0, 0)) n (.atl n)), (2, .bool false), (3, Vw c), (4, .bool g), (5, .int .i64 (wrapF .i64 (.ofNat i + .ofNat 1)))] 103, mkSt (base (RP ps) rows ++ ext) nx) := by
  subst hn; subst hg
  rw [e_i (by have := C.len; omega)]
  exact ⟨rfl, held3 (n := ps.length) (i := i + 1) (d := 42) C.refs C.came he (by kernel_rfl) (by kernel_rfl) (by cases c <;> kernel_rfl) hB (Bc_came c)⟩
theorem fin3 {tr : Tr (Exit × AFr × ASt)} {P : Prop} {ys : An} {c' : List Nat} {g g' : Bool} {fls : List (Nat × Fl)} {fl : Fl} (ht : tr = (TM E3 noSum fls fl0 60).ex fl none L3 (fr3 ps.length i (Vw c) g) (stw ps rows c)) (hv : P = tr.allY (fun r => RU ps rows i c' g' (canR [0, 2, 3, 4, 5] ko3 r)) ys) (h : P) : Rd3 ps rows i c g c' g' := by
  subst ht
  exact (Trip.runY E3ok noSum_ok (Eq.mp hv h)).mono fun r hr => Stops.can hr
theorem xlen {S : ASt} {n : Nat} : aBuiltinM E3 .len [22] [.slice (some (0, 0)) n (.atl n)] S = some (nI n, S) := by kernel_rfl
theorem xidx {S : ASt} {n : Nat} (hi : i < n) : still S (aIndexAddr E3 22 (.slice (some (0, 0)) n (.atl n)) (.int .i64 (.ofNat i))) = some (.ptr (some (0, i * 4)), S) := by
  have := idx_at (E := E3) (t := 22) (i := 0) (o := 0) (n := n) (c := .atl n) (kd := .i64) tl22 hi
  rw [Nat.zero_add] at this
  exact still_of this
theorem xload {S : ASt} (hS : S.h.get 0 = some (RP ps)) (hp : ps[i]? = some p) : aLoad E3 30 (.ptr (some (0, i * 4))) S = some (.agg (enc p), S) := load_agg tg30 hS (fm_one enc_len hp)
theorem xlenB (C : CameP ps rows) (hp : ps[i]? = some p) {S : ASt} : aBuiltinM E3 .len [25] [p.v] S = some (nI p.b.length, S) := (ArgB.sl (C.arg i p hp) tl25).len S
theorem xne {S : ASt} {t : Nat} {z c c' : Int} (h : eqF z c = false) : still S (aBin E3 .eql 3 (.tmp t) (.const (.int .i64 c')) (.int .i64 z) (.int .i64 c)) = some (.bool false, S) := by
  have e : aBin E3 .eql 3 (.tmp t) (.const (.int .i64 c')) (.int .i64 z) (.int .i64 c) = some (.bool (eqF z c)) := by kernel_rfl
  rw [e, h]; rfl
theorem w3N1x (C : CameP ps rows) (hi : i < ps.length) (hp : ps[i]? = some p) (hn : p.n < 18446744073709551616) (hc : c.length ≤ 1000000) (hk : p.k = .ofNat 1) (hz : p.sz = .ofNat 1) : Rd3 ps rows i c true (c ++ bs [0] p.n) (Nat.beq (p.n / 2 ^ 8) 0) := by
  refine fin3 rfl (vcUN1x ps.length i c.length 0 (.ofNat p.n) (RP ps) rows (Vw c) p.v (Bc c) (.cells (c.map cellU ++ (rc [0] (.ofNat p.n))) true) _) ⟨xlen, ifB_mk (fun _ => ⟨xidx hi, (xload (by kernel_rfl) hp).trans (by rw [enc, hk, hz]), (by rcases C.sh hp with h | h | ⟨_, _, _, h⟩ <;> rw [h] <;> kernel_rfl), ?_, end3 C rfl hi (d := 45) (row := (c.map cellU ++ (rc [0] (.ofNat p.n)))) (m := (c.length + 1)) (by kernel_rfl) (by kernel_rfl) (by kernel_rfl) (by kernel_rfl) (by kernel_rfl) (by rw [rc_eq hn, bs1, List.map_append]) (by simp [bs]) (ne_app (by simp [bs])) (okN hn 1)⟩) fun h => nlt hi h⟩
  exact by
      cases c with
      | nil => exact (append_nil_at tp (n := 1) (new := (rc [0] (.ofNat p.n))) (by kernel_rfl) (first_at (cs := (rc [0] (.ofNat p.n))) (rw := true) (by kernel_rfl) (by kernel_rfl)) (by decide) (by decide) (by decide)).trans (by kernel_rfl)
      | cons y c => exact (append_grow_at (l := (y :: c).length) (i := 42) (cs := (y :: c).map cellU) tp (n := 1) (new := (rc [0] (.ofNat p.n))) (by kernel_rfl) (first_at (cs := (rc [0] (.ofNat p.n))) (rw := true) (by kernel_rfl) (by kernel_rfl)) (by kernel_rfl) (by simp) (by decide) (by omega) (by omega) (by omega)).trans (by kernel_rfl)
theorem w3N2x (C : CameP ps rows) (hi : i < ps.length) (hp : ps[i]? = some p) (hn : p.n < 18446744073709551616) (hc : c.length ≤ 1000000) (hk : p.k = .ofNat 1) (hz : p.sz = .ofNat 2) : Rd3 ps rows i c true (c ++ bs [8, 0] p.n) (Nat.beq (p.n / 2 ^ 16) 0) := by
  refine fin3 rfl (vcUN2x ps.length i c.length 0 (.ofNat p.n) (RP ps) rows (Vw c) p.v (Bc c) (.cells (c.map cellU ++ (rc [1, 0] (.ofNat p.n))) true) _) ⟨xlen, ifB_mk (fun _ => ⟨xidx hi, (xload (by kernel_rfl) hp).trans (by rw [enc, hk, hz]), (by rcases C.sh hp with h | h | ⟨_, _, _, h⟩ <;> rw [h] <;> kernel_rfl), ?_, end3 C rfl hi (d := 45) (row := (c.map cellU ++ (rc [1, 0] (.ofNat p.n)))) (m := (c.length + 2)) (by kernel_rfl) (by kernel_rfl) (by kernel_rfl) (by kernel_rfl) (by kernel_rfl) (by rw [rc_eq hn, bs2, List.map_append]) (by simp [bs]) (ne_app (by simp [bs])) (okN hn 2)⟩) fun h => nlt hi h⟩
  exact by
      cases c with
      | nil => exact (append_nil_at tp (n := 2) (new := (rc [1, 0] (.ofNat p.n))) (by kernel_rfl) (first_at (cs := (rc [1, 0] (.ofNat p.n))) (rw := true) (by kernel_rfl) (by kernel_rfl)) (by decide) (by decide) (by decide)).trans (by kernel_rfl)
      | cons y c => exact (append_grow_at (l := (y :: c).length) (i := 42) (cs := (y :: c).map cellU) tp (n := 2) (new := (rc [1, 0] (.ofNat p.n))) (by kernel_rfl) (first_at (cs := (rc [1, 0] (.ofNat p.n))) (rw := true) (by kernel_rfl) (by kernel_rfl)) (by kernel_rfl) (by simp) (by decide) (by omega) (by omega) (by omega)).trans (by kernel_rfl)
theorem w3N4x (C : CameP ps rows) (hi : i < ps.length) (hp : ps[i]? = some p) (hn : p.n < 18446744073709551616) (hc : c.length ≤ 1000000) (hk : p.k = .ofNat 1) (hz : p.sz = .ofNat 4) : Rd3 ps rows i c true (c ++ bs [24, 16, 8, 0] p.n) (Nat.beq (p.n / 2 ^ 32) 0) := by
  refine fin3 rfl (vcUN4x ps.length i c.length 0 (.ofNat p.n) (RP ps) rows (Vw c) p.v (Bc c) (.cells (c.map cellU ++ (rc [3, 2, 1, 0] (.ofNat p.n))) true) _) ⟨xlen, ifB_mk (fun _ => ⟨xidx hi, (xload (by kernel_rfl) hp).trans (by rw [enc, hk, hz]), (by rcases C.sh hp with h | h | ⟨_, _, _, h⟩ <;> rw [h] <;> kernel_rfl), ?_, end3 C rfl hi (d := 45) (row := (c.map cellU ++ (rc [3, 2, 1, 0] (.ofNat p.n)))) (m := (c.length + 4)) (by kernel_rfl) (by kernel_rfl) (by kernel_rfl) (by kernel_rfl) (by kernel_rfl) (by rw [rc_eq hn, bs4, List.map_append]) (by simp [bs]) (ne_app (by simp [bs])) (okN hn 4)⟩) fun h => nlt hi h⟩
  exact by
      cases c with
      | nil => exact (append_nil_at tp (n := 4) (new := (rc [3, 2, 1, 0] (.ofNat p.n))) (by kernel_rfl) (first_at (cs := (rc [3, 2, 1, 0] (.ofNat p.n))) (rw := true) (by kernel_rfl) (by kernel_rfl)) (by decide) (by decide) (by decide)).trans (by kernel_rfl)
      | cons y c => exact (append_grow_at (l := (y :: c).length) (i := 42) (cs := (y :: c).map cellU) tp (n := 4) (new := (rc [3, 2, 1, 0] (.ofNat p.n))) (by kernel_rfl) (first_at (cs := (rc [3, 2, 1, 0] (.ofNat p.n))) (rw := true) (by kernel_rfl) (by kernel_rfl)) (by kernel_rfl) (by simp) (by decide) (by omega) (by omega) (by omega)).trans (by kernel_rfl)
theorem w3N8x (C : CameP ps rows) (hi : i < ps.length) (hp : ps[i]? = some p) (hn : p.n < 18446744073709551616) (hc : c.length ≤ 1000000) (hk : p.k = .ofNat 1) (hz : p.sz = .ofNat 8) : Rd3 ps rows i c true (c ++ bs [56, 48, 40, 32, 24, 16, 8, 0] p.n) (true) := by
  refine fin3 rfl (vcUN8x ps.length i c.length 0 (.ofNat p.n) (RP ps) rows (Vw c) p.v (Bc c) (.cells (c.map cellU ++ (rc [7, 6, 5, 4, 3, 2, 1, 0] (.ofNat p.n))) true) _) ⟨xlen, ifB_mk (fun _ => ⟨xidx hi, (xload (by kernel_rfl) hp).trans (by rw [enc, hk, hz]), (by rcases C.sh hp with h | h | ⟨_, _, _, h⟩ <;> rw [h] <;> kernel_rfl), ?_, end3 C rfl hi (d := 45) (row := (c.map cellU ++ (rc [7, 6, 5, 4, 3, 2, 1, 0] (.ofNat p.n)))) (m := (c.length + 8)) (by kernel_rfl) (by kernel_rfl) (by kernel_rfl) (by kernel_rfl) (by kernel_rfl) (by rw [rc_eq hn, bs8, List.map_append]) (by simp [bs]) (ne_app (by simp [bs])) ((okN hn 8).trans (beq_t (Nat.div_eq_of_lt hn)))⟩) fun h => nlt hi h⟩
  exact by
      cases c with
      | nil => exact (append_nil_at tp (n := 8) (new := (rc [7, 6, 5, 4, 3, 2, 1, 0] (.ofNat p.n))) (by kernel_rfl) (first_at (cs := (rc [7, 6, 5, 4, 3, 2, 1, 0] (.ofNat p.n))) (rw := true) (by kernel_rfl) (by kernel_rfl)) (by decide) (by decide) (by decide)).trans (by kernel_rfl)
      | cons y c => exact (append_grow_at (l := (y :: c).length) (i := 42) (cs := (y :: c).map cellU) tp (n := 8) (new := (rc [7, 6, 5, 4, 3, 2, 1, 0] (.ofNat p.n))) (by kernel_rfl) (first_at (cs := (rc [7, 6, 5, 4, 3, 2, 1, 0] (.ofNat p.n))) (rw := true) (by kernel_rfl) (by kernel_rfl)) (by kernel_rfl) (by simp) (by decide) (by omega) (by omega) (by omega)).trans (by kernel_rfl)
theorem w3N0x (C : CameP ps rows) (hi : i < ps.length) (hp : ps[i]? = some p) (hn : p.n < 18446744073709551616) (hc : c.length ≤ 1000000) (hk : p.k = .ofNat 1) (h1 : eqF p.sz (.ofNat 1) = false) (h2 : eqF p.sz (.ofNat 2) = false) (h4 : eqF p.sz (.ofNat 4) = false) (h8 : eqF p.sz (.ofNat 8) = false) : Rd3 ps rows i c true c false :=
  fin3 rfl (vcUN0x p.sz ps.length i c.length 0 (.ofNat p.n) (RP ps) rows (Vw c) p.v (Bc c) .dead _) ⟨xlen, ifB_mk (fun _ => ⟨xidx hi, (xload (by kernel_rfl) hp).trans (by rw [enc, hk]), (by rcases C.sh hp with h | h | ⟨_, _, _, h⟩ <;> rw [h] <;> kernel_rfl), xne h1, xne h2, xne h4, xne h8, (by cases c <;> kernel_rfl), same3 C rfl hi (by kernel_rfl) (by cases c <;> kernel_rfl) rfl⟩) fun h => nlt hi h⟩
theorem w3F1x (C : CameP ps rows) (hi : i < ps.length) (hp : ps[i]? = some p) (hn : p.n < 18446744073709551616) (hc : c.length ≤ 1000000) (hk : p.k = .ofNat 2) (hf : eqF (Int.tmod (.ofNat p.n) (.ofNat 2)) (.ofNat 1) = true) : Rd3 ps rows i c true (c ++ [1]) true := by
  refine fin3 rfl (vcUFx p.sz ps.length i c.length 0 (.ofNat p.n) (RP ps) rows (Vw c) p.v (Bc c) (.cells (c.map cellU ++ [cellU 1]) true) .dead _) ⟨xlen, ifB_mk (fun _ => ⟨xidx hi, (xload (by kernel_rfl) hp).trans (by rw [enc, hk]), (by rcases C.sh hp with h | h | ⟨_, _, _, h⟩ <;> rw [h] <;> kernel_rfl), ifB_mk (fun _ => ⟨?_, end3 C rfl hi (d := 45) (row := (c.map cellU ++ [cellU 1])) (m := (c.length + 1)) (by kernel_rfl) (by kernel_rfl) (by kernel_rfl) (by kernel_rfl) (by kernel_rfl) (by simp) (by simp) (ne_app (by simp)) rfl⟩) (fun h => by rw [hf] at h; cases h)⟩) fun h => nlt hi h⟩
  exact by
      cases c with
      | nil => exact (append_nil_at tp (n := 1) (new := [cellU 1]) (by kernel_rfl) (first_at (cs := [cellU 1]) (rw := true) (by kernel_rfl) (by kernel_rfl)) (by decide) (by decide) (by decide)).trans (by kernel_rfl)
      | cons y c => exact (append_grow_at (l := (y :: c).length) (i := 42) (cs := (y :: c).map cellU) tp (n := 1) (new := [cellU 1]) (by kernel_rfl) (first_at (cs := [cellU 1]) (rw := true) (by kernel_rfl) (by kernel_rfl)) (by kernel_rfl) (by simp) (by decide) (by omega) (by omega) (by omega)).trans (by kernel_rfl)
theorem w3F0x (C : CameP ps rows) (hi : i < ps.length) (hp : ps[i]? = some p) (hn : p.n < 18446744073709551616) (hc : c.length ≤ 1000000) (hk : p.k = .ofNat 2) (hf : eqF (Int.tmod (.ofNat p.n) (.ofNat 2)) (.ofNat 1) = false) : Rd3 ps rows i c true (c ++ [0]) true := by
  refine fin3 rfl (vcUFx p.sz ps.length i c.length 0 (.ofNat p.n) (RP ps) rows (Vw c) p.v (Bc c) .dead (.cells (c.map cellU ++ [cellU 0]) true) _) ⟨xlen, ifB_mk (fun _ => ⟨xidx hi, (xload (by kernel_rfl) hp).trans (by rw [enc, hk]), (by rcases C.sh hp with h | h | ⟨_, _, _, h⟩ <;> rw [h] <;> kernel_rfl), ifB_mk (fun h => by rw [hf] at h; cases h) (fun _ => ⟨?_, end3 C rfl hi (d := 45) (row := (c.map cellU ++ [cellU 0])) (m := (c.length + 1)) (by kernel_rfl) (by kernel_rfl) (by kernel_rfl) (by kernel_rfl) (by kernel_rfl) (by simp) (by simp) (ne_app (by simp)) rfl⟩)⟩) fun h => nlt hi h⟩
  exact by
      cases c with
      | nil => exact (append_nil_at tp (n := 1) (new := [cellU 0]) (by kernel_rfl) (first_at (cs := [cellU 0]) (rw := true) (by kernel_rfl) (by kernel_rfl)) (by decide) (by decide) (by decide)).trans (by kernel_rfl)
      | cons y c => exact (append_grow_at (l := (y :: c).length) (i := 42) (cs := (y :: c).map cellU) tp (n := 1) (new := [cellU 0]) (by kernel_rfl) (first_at (cs := [cellU 0]) (rw := true) (by kernel_rfl) (by kernel_rfl)) (by kernel_rfl) (by simp) (by decide) (by omega) (by omega) (by omega)).trans (by kernel_rfl)
theorem w3Bx (C : CameP ps rows) (hi : i < ps.length) (hp : ps[i]? = some p) (hn : p.n < 18446744073709551616) (hc : c.length ≤ 1000000) (hb : p.b.length ≤ 20000) (hk : p.k = .ofNat 3) (h0 : p.b ≠ []) : Rd3 ps rows i c true (c ++ p.b) true := by
  have hl : 0 < p.b.length := List.length_pos_iff.2 h0
  obtain ⟨hv, hr⟩ := argRow (C.arg i p hp) h0
  refine fin3 rfl (vcUBx p.sz ps.length i c.length p.b.length (.ofNat p.n) (RP ps) rows (Vw c) p.v (Bc c) (.cells (c.map cellU ++ p.b.map cellU) true) _) ⟨xlen, ifB_mk (fun _ => ⟨xidx hi, (xload (by kernel_rfl) hp).trans (by rw [enc, hk]), (by rcases C.sh hp with h | h | ⟨_, _, _, h⟩ <;> rw [h] <;> kernel_rfl), (by rcases C.sh hp with h | h | ⟨_, _, _, h⟩ <;> rw [h] <;> kernel_rfl), ?_, end3 C rfl hi (d := 44) (row := (c.map cellU ++ p.b.map cellU)) (m := (c.length + p.b.length)) (by kernel_rfl) (by kernel_rfl) (by kernel_rfl) (by kernel_rfl) (by kernel_rfl) (by rw [List.map_append]) (by rw [List.length_append]) (ne_app h0) rfl⟩) fun h => nlt hi h⟩
  rw [hv]
  exact by
      cases c with
      | nil => exact (append_nil_at tp (n := p.b.length) (new := (p.b.map cellU)) (by kernel_rfl) (frow (rowAt C hi hr (by kernel_rfl))) hl (by omega) (by omega)).trans (by rw [List.length_nil, Nat.zero_add]; kernel_rfl)
      | cons y c => exact (append_grow_at (l := (y :: c).length) (i := 42) (cs := (y :: c).map cellU) tp (n := p.b.length) (new := (p.b.map cellU)) (by kernel_rfl) (frow (rowAt C hi hr (by kernel_rfl))) (by kernel_rfl) (by simp) (by decide) hl (by omega) (by omega)).trans (by kernel_rfl)
theorem w3Zx (C : CameP ps rows) (hi : i < ps.length) (hp : ps[i]? = some p) (hn : p.n < 18446744073709551616) (hc : c.length ≤ 1000000) (hb : p.b.length ≤ 20000) (hk : p.k = .ofNat 3) (h0 : p.b = []) : Rd3 ps rows i c true c true := by
  refine fin3 rfl (vcUZx p.sz ps.length i c.length p.b.length (.ofNat p.n) (RP ps) rows (Vw c) p.v (Bc c) .dead _) ⟨xlen, ifB_mk (fun _ => ⟨xidx hi, (xload (by kernel_rfl) hp).trans (by rw [enc, hk]), (by rcases C.sh hp with h | h | ⟨_, _, _, h⟩ <;> rw [h] <;> kernel_rfl), (by rcases C.sh hp with h | h | ⟨_, _, _, h⟩ <;> rw [h] <;> kernel_rfl), ?_, same3 C rfl hi (by kernel_rfl) (by cases c <;> kernel_rfl) rfl⟩) fun h => nlt hi h⟩
  rcases argNil (C.arg i p hp) h0 with h | h <;> rw [h] <;> cases c <;> kernel_rfl
theorem w3Lx (C : CameP ps rows) (hi : i < ps.length) (hp : ps[i]? = some p) (hn : p.n < 18446744073709551616) (hc : c.length ≤ 1000000) (hb : p.b.length ≤ 20000) (hk : p.k = .ofNat 4) (h0 : p.b ≠ []) : Rd3 ps rows i c true (c ++ (bs [8, 0] p.b.length ++ p.b)) true := by
  have hl : 0 < p.b.length := List.length_pos_iff.2 h0
  obtain ⟨hv, hr⟩ := argRow (C.arg i p hp) h0
  refine fin3 rfl (vcULx p.sz ps.length i c.length p.b.length (.ofNat p.n) (RP ps) rows (Vw c) p.v (Bc c) (.cells (c.map cellU ++ ((rc [1, 0] (wrapF .u64 (.ofNat p.b.length))) ++ p.b.map cellU)) true) (.cells ((rc [1, 0] (wrapF .u64 (.ofNat p.b.length))) ++ p.b.map cellU) true) _) ⟨xlen, ifB_mk (fun _ => ⟨xidx hi, (xload (by kernel_rfl) hp).trans (by rw [enc, hk]), (by rcases C.sh hp with h | h | ⟨_, _, _, h⟩ <;> rw [h] <;> kernel_rfl), (by rcases C.sh hp with h | h | ⟨_, _, _, h⟩ <;> rw [h] <;> kernel_rfl), xlenB C hp, ?_, ?_, end3 C rfl hi (d := 46) (row := (c.map cellU ++ ((rc [1, 0] (wrapF .u64 (.ofNat p.b.length))) ++ p.b.map cellU))) (m := (c.length + (2 + p.b.length))) (by kernel_rfl) (by kernel_rfl) (by kernel_rfl) (by kernel_rfl) (by kernel_rfl) (by rw [wU64 (by omega), rc_eq (by omega), bs2, List.map_append, List.map_append]) (by simp [bs]; omega) (ne_app (by simp [bs])) rfl⟩) fun h => nlt hi h⟩
  · rw [hv]
    exact (append_full_at (l := 2) (i := 44) (o := 0) (n := p.b.length) (new := p.b.map cellU) (old := (rc [1, 0] (wrapF .u64 (.ofNat p.b.length)))) tp (by kernel_rfl) (frow (rowAt C hi hr (by kernel_rfl))) (by kernel_rfl) hl (by omega) (by omega)).trans (by kernel_rfl)
  · exact by
      cases c with
      | nil => exact (append_nil_at tp (n := (2 + p.b.length)) (new := ((rc [1, 0] (wrapF .u64 (.ofNat p.b.length))) ++ p.b.map cellU)) (by kernel_rfl) (first_at (cs := (rc [1, 0] (wrapF .u64 (.ofNat p.b.length))) ++ p.b.map cellU) (rw := true) (by kernel_rfl) (full_take (by simp [rc]; omega))) (by omega) (by omega) (by omega)).trans (by rw [List.length_nil, Nat.zero_add]; kernel_rfl)
      | cons y c => exact (append_grow_at (l := (y :: c).length) (i := 42) (cs := (y :: c).map cellU) tp (n := (2 + p.b.length)) (new := ((rc [1, 0] (wrapF .u64 (.ofNat p.b.length))) ++ p.b.map cellU)) (by kernel_rfl) (first_at (cs := (rc [1, 0] (wrapF .u64 (.ofNat p.b.length))) ++ p.b.map cellU) (rw := true) (by kernel_rfl) (full_take (by simp [rc]; omega))) (by kernel_rfl) (by simp) (by decide) (by omega) (by omega) (by omega)).trans (by kernel_rfl)
theorem w3Mx (C : CameP ps rows) (hi : i < ps.length) (hp : ps[i]? = some p) (hn : p.n < 18446744073709551616) (hc : c.length ≤ 1000000) (hb : p.b.length ≤ 20000) (hk : p.k = .ofNat 4) (h0 : p.b = []) : Rd3 ps rows i c true (c ++ bs [8, 0] p.b.length) true := by
  refine fin3 rfl (vcUMx p.sz ps.length i c.length p.b.length (.ofNat p.n) (RP ps) rows (Vw c) p.v (Bc c) (.cells (c.map cellU ++ (rc [1, 0] (wrapF .u64 (.ofNat p.b.length)))) true) _) ⟨xlen, ifB_mk (fun _ => ⟨xidx hi, (xload (by kernel_rfl) hp).trans (by rw [enc, hk]), (by rcases C.sh hp with h | h | ⟨_, _, _, h⟩ <;> rw [h] <;> kernel_rfl), (by rcases C.sh hp with h | h | ⟨_, _, _, h⟩ <;> rw [h] <;> kernel_rfl), xlenB C hp, ?_, ?_, end3 C rfl hi (d := 45) (row := (c.map cellU ++ (rc [1, 0] (wrapF .u64 (.ofNat p.b.length))))) (m := (c.length + 2)) (by kernel_rfl) (by kernel_rfl) (by kernel_rfl) (by kernel_rfl) (by kernel_rfl) (by rw [wU64 (by omega), rc_eq (by omega), bs2, List.map_append]) (by simp [bs]) (ne_app (by simp [bs])) rfl⟩) fun h => nlt hi h⟩
  · rcases argNil (C.arg i p hp) h0 with h | h <;> rw [h] <;> kernel_rfl
  · exact by
      cases c with
      | nil => exact (append_nil_at tp (n := 2) (new := (rc [1, 0] (wrapF .u64 (.ofNat p.b.length)))) (by kernel_rfl) (first_at (cs := (rc [1, 0] (wrapF .u64 (.ofNat p.b.length)))) (rw := true) (by kernel_rfl) (by kernel_rfl)) (by decide) (by decide) (by decide)).trans (by kernel_rfl)
      | cons y c => exact (append_grow_at (l := (y :: c).length) (i := 42) (cs := (y :: c).map cellU) tp (n := 2) (new := (rc [1, 0] (wrapF .u64 (.ofNat p.b.length)))) (by kernel_rfl) (first_at (cs := (rc [1, 0] (wrapF .u64 (.ofNat p.b.length)))) (rw := true) (by kernel_rfl) (by kernel_rfl)) (by kernel_rfl) (by simp) (by decide) (by omega) (by omega) (by omega)).trans (by kernel_rfl)
theorem okC1 {z : Int} (g1 : (!ltF z (.ofNat 0)) = true) (g2 : (!ltF (.ofNat 255) z) = true) : true = (bif ltF z (.ofNat 0) then false else !ltF (.ofNat 255) z) := by
  rw [Bool.not_eq_true'] at g1
  rw [g1, cond_false, g2]
theorem okC2 {z : Int} (g1 : (!ltF z (.ofNat 0)) = true) (g2 : (!ltF (.ofNat 255) z) = false) : false = (bif ltF z (.ofNat 0) then false else !ltF (.ofNat 255) z) := by
  rw [Bool.not_eq_true'] at g1
  rw [g1, cond_false, g2]
theorem okC3 {z : Int} (g1 : (!ltF z (.ofNat 0)) = false) : false = (bif ltF z (.ofNat 0) then false else !ltF (.ofNat 255) z) := by
  rw [Bool.not_eq_false'] at g1
  rw [g1, cond_true]
theorem w3Cx (C : CameP ps rows) (hi : i < ps.length) (hp : ps[i]? = some p) (hn : p.n < 18446744073709551616) (hc : c.length ≤ 1000000) (hk : p.k = .ofNat 5) : Rd3 ps rows i c true (c ++ [modN p.sz (big .u8)]) (bif ltF p.sz (.ofNat 0) then false else !ltF (.ofNat 255) p.sz) := by
  refine fin3 rfl (vcUCx p.sz ps.length i c.length 0 (.ofNat p.n) (RP ps) rows (Vw c) p.v (Bc c) (.cells (c.map cellU ++ [AV.int .u8 (wrapF .u8 p.sz)]) true) _) ⟨xlen, ifB_mk (fun _ => ⟨xidx hi, (xload (by kernel_rfl) hp).trans (by rw [enc, hk]), (by rcases C.sh hp with h | h | ⟨_, _, _, h⟩ <;> rw [h] <;> kernel_rfl), ifB_mk (fun g1 => ifB_mk (fun g2 => ⟨?_, end3 C rfl hi (d := 58) (row := (c.map cellU ++ [AV.int .u8 (wrapF .u8 p.sz)])) (m := (c.length + 1)) (by kernel_rfl) (by kernel_rfl) (by kernel_rfl) (by kernel_rfl) (by kernel_rfl) (by rw [wU8, List.map_append]; rfl) (by simp) (ne_app (by simp)) (okC1 g1 g2)⟩) fun g2 => ⟨?_, end3 C rfl hi (d := 58) (row := (c.map cellU ++ [AV.int .u8 (wrapF .u8 p.sz)])) (m := (c.length + 1)) (by kernel_rfl) (by kernel_rfl) (by kernel_rfl) (by kernel_rfl) (by kernel_rfl) (by rw [wU8, List.map_append]; rfl) (by simp) (ne_app (by simp)) (okC2 g1 g2)⟩) fun g1 => ⟨?_, end3 C rfl hi (d := 58) (row := (c.map cellU ++ [AV.int .u8 (wrapF .u8 p.sz)])) (m := (c.length + 1)) (by kernel_rfl) (by kernel_rfl) (by kernel_rfl) (by kernel_rfl) (by kernel_rfl) (by rw [wU8, List.map_append]; rfl) (by simp) (ne_app (by simp)) (okC3 g1)⟩⟩) fun h => nlt hi h⟩
  · exact by
      cases c with
      | nil => exact (append_nil_at tp (n := 1) (new := [AV.int .u8 (wrapF .u8 p.sz)]) (by kernel_rfl) (first_at (cs := [AV.int .u8 (wrapF .u8 p.sz)]) (rw := true) (by kernel_rfl) (by kernel_rfl)) (by decide) (by decide) (by decide)).trans (by kernel_rfl)
      | cons y c => exact (append_grow_at (l := (y :: c).length) (i := 42) (cs := (y :: c).map cellU) tp (n := 1) (new := [AV.int .u8 (wrapF .u8 p.sz)]) (by kernel_rfl) (first_at (cs := [AV.int .u8 (wrapF .u8 p.sz)]) (rw := true) (by kernel_rfl) (by kernel_rfl)) (by kernel_rfl) (by simp) (by decide) (by omega) (by omega) (by omega)).trans (by kernel_rfl)
  · exact by
      cases c with
      | nil => exact (append_nil_at tp (n := 1) (new := [AV.int .u8 (wrapF .u8 p.sz)]) (by kernel_rfl) (first_at (cs := [AV.int .u8 (wrapF .u8 p.sz)]) (rw := true) (by kernel_rfl) (by kernel_rfl)) (by decide) (by decide) (by decide)).trans (by kernel_rfl)
      | cons y c => exact (append_grow_at (l := (y :: c).length) (i := 42) (cs := (y :: c).map cellU) tp (n := 1) (new := [AV.int .u8 (wrapF .u8 p.sz)]) (by kernel_rfl) (first_at (cs := [AV.int .u8 (wrapF .u8 p.sz)]) (rw := true) (by kernel_rfl) (by kernel_rfl)) (by kernel_rfl) (by simp) (by decide) (by omega) (by omega) (by omega)).trans (by kernel_rfl)
  · exact by
      cases c with
      | nil => exact (append_nil_at tp (n := 1) (new := [AV.int .u8 (wrapF .u8 p.sz)]) (by kernel_rfl) (first_at (cs := [AV.int .u8 (wrapF .u8 p.sz)]) (rw := true) (by kernel_rfl) (by kernel_rfl)) (by decide) (by decide) (by decide)).trans (by kernel_rfl)
      | cons y c => exact (append_grow_at (l := (y :: c).length) (i := 42) (cs := (y :: c).map cellU) tp (n := 1) (new := [AV.int .u8 (wrapF .u8 p.sz)]) (by kernel_rfl) (first_at (cs := [AV.int .u8 (wrapF .u8 p.sz)]) (rw := true) (by kernel_rfl) (by kernel_rfl)) (by kernel_rfl) (by simp) (by decide) (by omega) (by omega) (by omega)).trans (by kernel_rfl)
theorem xcp {S : ASt} {x : AV} {sl : Nat} (hx : aLen x = some sl) : aBuiltinM E3 .copy [25, 25] [.slice (some (45, 0)) 256 (.known 256), x] S =
    (match aFirst S 1 (Nat.min sl 256) x with
      | none => none
      | some new => match new with
        | [] => some (.int .i64 (.ofNat (Nat.min sl 256)), S)
        | _ => match S.h.get 45 with
          | some (.cells cs true) => (match setL cs 0 new with | some cs' => some (.int .i64 (.ofNat (Nat.min sl 256)), S.put 45 (.cells cs' true)) | none => none)
          | _ => none) := by
  obtain ⟨ti, h1⟩ : ∃ ti, E3.ty.get 25 = some ti := Option.isSome_iff_exists.mp (by kernel_rfl)
  have h2 : ti.desc = .slice 5 := by
    have : (E3.ty.get 25).map (·.desc) = some (.slice 5) := by kernel_rfl
    rw [h1] at this; simpa using this
  obtain ⟨ei, h3⟩ : ∃ ei, E3.ty.get 5 = some ei := Option.isSome_iff_exists.mp (by kernel_rfl)
  have h4 : ei.size = 1 := by
    have : (E3.ty.get 5).map (·.size) = some 1 := by kernel_rfl
    rw [h3] at this; simpa using this
  have e0 : aBuiltinM E3 .copy [25, 25] [.slice (some (45, 0)) 256 (.known 256), x] S = aCopy E3 25 (.slice (some (45, 0)) 256 (.known 256)) x S := by kernel_rfl
  rw [e0]
  unfold aCopy
  simp only [h1, h2, h3, h4, hx]
  rfl
theorem xcpRow {S : ASt} {i : Nat} {b : List Nat} (h0 : b ≠ []) (hr : S.h.get (i + 1) = some (.cells (b.map cellU) false)) (h45 : S.h.get 45 = some (.cells (rowI fun _ => Int.ofNat 0) true)) :
    aBuiltinM E3 .copy [25, 25] [.slice (some (45, 0)) 256 (.known 256), .slice (some (i + 1, 0)) b.length (.atl b.length)] S = some (nI (Nat.min b.length 256), S.put 45 (.cells (rowI (blkI b)) true)) := by
  have hn : 0 < b.length := List.length_pos_iff.2 h0
  have hm : Nat.min b.length 256 ≤ b.length := Nat.min_le_left _ _
  have hp : 0 < Nat.min b.length 256 := Nat.lt_min.2 ⟨hn, by decide⟩
  have ht : takeL (b.map cellU) 0 (Nat.min b.length 256 * 1) = some ((b.take (Nat.min b.length 256)).map cellU) := by
    unfold takeL
    rw [Nat.mul_one, List.drop_zero, ← List.map_take]
    simp only [List.length_map, List.length_take]
    rw [show min (Nat.min b.length 256) b.length = Nat.min b.length 256 from Nat.min_eq_left hm, Nat.beq_refl]; rfl
  have hf : aFirst S 1 (Nat.min b.length 256) (.slice (some (i + 1, 0)) b.length (.atl b.length)) = some ((b.take (Nat.min b.length 256)).map cellU) := by simp only [aFirst, hr, ht]
  rw [xcp (sl := b.length) (by kernel_rfl), hf]
  have hne : (b.take (Nat.min b.length 256)).map cellU ≠ [] := by
    intro g
    have := congrArg List.length g
    rw [List.length_map, List.length_take] at this
    simp only [List.length_nil] at this
    omega
  have hs := blk_set (l := b) rfl
  generalize (b.take (Nat.min b.length 256)).map cellU = w at hne hs
  cases w with
  | nil => exact absurd rfl hne
  | cons a w => simp only [h45, hs]; rfl
theorem w3Kx (C : CameP ps rows) (hi : i < ps.length) (hp : ps[i]? = some p) (hn : p.n < 18446744073709551616) (hc : c.length ≤ 1000000) (hb : p.b.length ≤ 20000) (hk : p.k = .ofNat 6) : Rd3 ps rows i c true (c ++ blk p.b) true := by
  refine fin3 rfl (vcUKx p.sz ps.length i c.length (Nat.min p.b.length 256) (.ofNat p.n) (RP ps) rows (Vw c) p.v (Bc c) (.cells (c.map cellU ++ rowI (blkI p.b)) true) (blkI p.b) _) ⟨xlen, ifB_mk (fun _ => ⟨xidx hi, (xload (by kernel_rfl) hp).trans (by rw [enc, hk]), (by rcases C.sh hp with h | h | ⟨_, _, _, h⟩ <;> rw [h] <;> kernel_rfl), (by rcases C.sh hp with h | h | ⟨_, _, _, h⟩ <;> rw [h] <;> kernel_rfl), ?_, ?_, end3 C rfl hi (d := 47) (row := (c.map cellU ++ rowI (blkI p.b))) (m := (c.length + 256)) (by kernel_rfl) (by kernel_rfl) (by kernel_rfl) (by kernel_rfl) (by kernel_rfl) (by rw [rowI_blk, List.map_append]) (by simp [blk]) (ne_app (by simp [blk])) rfl⟩) fun h => nlt hi h⟩
  · by_cases h0 : p.b = []
    · have e : blkI p.b = fun _ => Int.ofNat 0 := by rw [h0]; funext j; simp [blkI]
      rw [e, h0]
      rcases argNil (C.arg i p hp) h0 with h | h <;> rw [h] <;> exact (xcp (sl := 0) (by kernel_rfl)).trans (by kernel_rfl)
    · obtain ⟨hv, hr⟩ := argRow (C.arg i p hp) h0
      rw [hv]
      exact (xcpRow h0 (rowAt C hi hr (by kernel_rfl)) (by kernel_rfl)).trans (by kernel_rfl)
  · exact by
      cases c with
      | nil => exact (append_nil_at tp (n := 256) (new := (rowI (blkI p.b))) (by kernel_rfl) (first_at (cs := rowI (blkI p.b)) (rw := true) (by kernel_rfl) (by kernel_rfl)) (by decide) (by decide) (by decide)).trans (by kernel_rfl)
      | cons y c => exact (append_grow_at (l := (y :: c).length) (i := 42) (cs := (y :: c).map cellU) tp (n := 256) (new := (rowI (blkI p.b))) (by kernel_rfl) (first_at (cs := rowI (blkI p.b)) (rw := true) (by kernel_rfl) (by kernel_rfl)) (by kernel_rfl) (by simp) (by decide) (by omega) (by omega) (by omega)).trans (by kernel_rfl)
theorem w3Ox (C : CameP ps rows) (hi : i < ps.length) (hp : ps[i]? = some p) (hn : p.n < 18446744073709551616) (hc : c.length ≤ 1000000) (h1 : eqF p.k (.ofNat 1) = false) (h2 : eqF p.k (.ofNat 2) = false) (h3 : eqF p.k (.ofNat 3) = false) (h4 : eqF p.k (.ofNat 4) = false) (h5 : eqF p.k (.ofNat 5) = false) (h6 : eqF p.k (.ofNat 6) = false) : Rd3 ps rows i c true c true :=
  fin3 rfl (vcUOx p.k p.sz ps.length i c.length 0 (.ofNat p.n) (RP ps) rows (Vw c) p.v (Bc c) .dead _) ⟨xlen, ifB_mk (fun _ => ⟨xidx hi, (xload (by kernel_rfl) hp).trans rfl, (by rcases C.sh hp with h | h | ⟨_, _, _, h⟩ <;> rw [h] <;> kernel_rfl), xne h1, xne h2, xne h3, xne h4, xne h5, xne h6, (by cases c <;> kernel_rfl), same3 C rfl hi (by kernel_rfl) (by cases c <;> kernel_rfl) rfl⟩) fun h => nlt hi h⟩
theorem w3N1y (C : CameP ps rows) (hi : i < ps.length) (hp : ps[i]? = some p) (hn : p.n < 18446744073709551616) (hc : c.length ≤ 1000000) (hk : p.k = .ofNat 1) (hz : p.sz = .ofNat 1) : Rd3 ps rows i c false (c ++ bs [0] p.n) (false) := by
  refine fin3 rfl (vcUN1y ps.length i c.length 0 (.ofNat p.n) (RP ps) rows (Vw c) p.v (Bc c) (.cells (c.map cellU ++ (rc [0] (.ofNat p.n))) true) _) ⟨xlen, ifB_mk (fun _ => ⟨xidx hi, (xload (by kernel_rfl) hp).trans (by rw [enc, hk, hz]), (by rcases C.sh hp with h | h | ⟨_, _, _, h⟩ <;> rw [h] <;> kernel_rfl), ?_, end3 C rfl hi (d := 45) (row := (c.map cellU ++ (rc [0] (.ofNat p.n)))) (m := (c.length + 1)) (by kernel_rfl) (by kernel_rfl) (by kernel_rfl) (by kernel_rfl) (by kernel_rfl) (by rw [rc_eq hn, bs1, List.map_append]) (by simp [bs]) (ne_app (by simp [bs])) rfl⟩) fun h => nlt hi h⟩
  exact by
      cases c with
      | nil => exact (append_nil_at tp (n := 1) (new := (rc [0] (.ofNat p.n))) (by kernel_rfl) (first_at (cs := (rc [0] (.ofNat p.n))) (rw := true) (by kernel_rfl) (by kernel_rfl)) (by decide) (by decide) (by decide)).trans (by kernel_rfl)
      | cons y c => exact (append_grow_at (l := (y :: c).length) (i := 42) (cs := (y :: c).map cellU) tp (n := 1) (new := (rc [0] (.ofNat p.n))) (by kernel_rfl) (first_at (cs := (rc [0] (.ofNat p.n))) (rw := true) (by kernel_rfl) (by kernel_rfl)) (by kernel_rfl) (by simp) (by decide) (by omega) (by omega) (by omega)).trans (by kernel_rfl)
theorem w3N2y (C : CameP ps rows) (hi : i < ps.length) (hp : ps[i]? = some p) (hn : p.n < 18446744073709551616) (hc : c.length ≤ 1000000) (hk : p.k = .ofNat 1) (hz : p.sz = .ofNat 2) : Rd3 ps rows i c false (c ++ bs [8, 0] p.n) (false) := by
  refine fin3 rfl (vcUN2y ps.length i c.length 0 (.ofNat p.n) (RP ps) rows (Vw c) p.v (Bc c) (.cells (c.map cellU ++ (rc [1, 0] (.ofNat p.n))) true) _) ⟨xlen, ifB_mk (fun _ => ⟨xidx hi, (xload (by kernel_rfl) hp).trans (by rw [enc, hk, hz]), (by rcases C.sh hp with h | h | ⟨_, _, _, h⟩ <;> rw [h] <;> kernel_rfl), ?_, end3 C rfl hi (d := 45) (row := (c.map cellU ++ (rc [1, 0] (.ofNat p.n)))) (m := (c.length + 2)) (by kernel_rfl) (by kernel_rfl) (by kernel_rfl) (by kernel_rfl) (by kernel_rfl) (by rw [rc_eq hn, bs2, List.map_append]) (by simp [bs]) (ne_app (by simp [bs])) rfl⟩) fun h => nlt hi h⟩
  exact by
      cases c with
      | nil => exact (append_nil_at tp (n := 2) (new := (rc [1, 0] (.ofNat p.n))) (by kernel_rfl) (first_at (cs := (rc [1, 0] (.ofNat p.n))) (rw := true) (by kernel_rfl) (by kernel_rfl)) (by decide) (by decide) (by decide)).trans (by kernel_rfl)
      | cons y c => exact (append_grow_at (l := (y :: c).length) (i := 42) (cs := (y :: c).map cellU) tp (n := 2) (new := (rc [1, 0] (.ofNat p.n))) (by kernel_rfl) (first_at (cs := (rc [1, 0] (.ofNat p.n))) (rw := true) (by kernel_rfl) (by kernel_rfl)) (by kernel_rfl) (by simp) (by decide) (by omega) (by omega) (by omega)).trans (by kernel_rfl)
theorem w3N4y (C : CameP ps rows) (hi : i < ps.length) (hp : ps[i]? = some p) (hn : p.n < 18446744073709551616) (hc : c.length ≤ 1000000) (hk : p.k = .ofNat 1) (hz : p.sz = .ofNat 4) : Rd3 ps rows i c false (c ++ bs [24, 16, 8, 0] p.n) (false) := by
  refine fin3 rfl (vcUN4y ps.length i c.length 0 (.ofNat p.n) (RP ps) rows (Vw c) p.v (Bc c) (.cells (c.map cellU ++ (rc [3, 2, 1, 0] (.ofNat p.n))) true) _) ⟨xlen, ifB_mk (fun _ => ⟨xidx hi, (xload (by kernel_rfl) hp).trans (by rw [enc, hk, hz]), (by rcases C.sh hp with h | h | ⟨_, _, _, h⟩ <;> rw [h] <;> kernel_rfl), ?_, end3 C rfl hi (d := 45) (row := (c.map cellU ++ (rc [3, 2, 1, 0] (.ofNat p.n)))) (m := (c.length + 4)) (by kernel_rfl) (by kernel_rfl) (by kernel_rfl) (by kernel_rfl) (by kernel_rfl) (by rw [rc_eq hn, bs4, List.map_append]) (by simp [bs]) (ne_app (by simp [bs])) rfl⟩) fun h => nlt hi h⟩
  exact by
      cases c with
      | nil => exact (append_nil_at tp (n := 4) (new := (rc [3, 2, 1, 0] (.ofNat p.n))) (by kernel_rfl) (first_at (cs := (rc [3, 2, 1, 0] (.ofNat p.n))) (rw := true) (by kernel_rfl) (by kernel_rfl)) (by decide) (by decide) (by decide)).trans (by kernel_rfl)
      | cons y c => exact (append_grow_at (l := (y :: c).length) (i := 42) (cs := (y :: c).map cellU) tp (n := 4) (new := (rc [3, 2, 1, 0] (.ofNat p.n))) (by kernel_rfl) (first_at (cs := (rc [3, 2, 1, 0] (.ofNat p.n))) (rw := true) (by kernel_rfl) (by kernel_rfl)) (by kernel_rfl) (by simp) (by decide) (by omega) (by omega) (by omega)).trans (by kernel_rfl)
theorem w3N8y (C : CameP ps rows) (hi : i < ps.length) (hp : ps[i]? = some p) (hn : p.n < 18446744073709551616) (hc : c.length ≤ 1000000) (hk : p.k = .ofNat 1) (hz : p.sz = .ofNat 8) : Rd3 ps rows i c false (c ++ bs [56, 48, 40, 32, 24, 16, 8, 0] p.n) (false) := by
  refine fin3 rfl (vcUN8y ps.length i c.length 0 (.ofNat p.n) (RP ps) rows (Vw c) p.v (Bc c) (.cells (c.map cellU ++ (rc [7, 6, 5, 4, 3, 2, 1, 0] (.ofNat p.n))) true) _) ⟨xlen, ifB_mk (fun _ => ⟨xidx hi, (xload (by kernel_rfl) hp).trans (by rw [enc, hk, hz]), (by rcases C.sh hp with h | h | ⟨_, _, _, h⟩ <;> rw [h] <;> kernel_rfl), ?_, end3 C rfl hi (d := 45) (row := (c.map cellU ++ (rc [7, 6, 5, 4, 3, 2, 1, 0] (.ofNat p.n)))) (m := (c.length + 8)) (by kernel_rfl) (by kernel_rfl) (by kernel_rfl) (by kernel_rfl) (by kernel_rfl) (by rw [rc_eq hn, bs8, List.map_append]) (by simp [bs]) (ne_app (by simp [bs])) rfl⟩) fun h => nlt hi h⟩
  exact by
      cases c with
      | nil => exact (append_nil_at tp (n := 8) (new := (rc [7, 6, 5, 4, 3, 2, 1, 0] (.ofNat p.n))) (by kernel_rfl) (first_at (cs := (rc [7, 6, 5, 4, 3, 2, 1, 0] (.ofNat p.n))) (rw := true) (by kernel_rfl) (by kernel_rfl)) (by decide) (by decide) (by decide)).trans (by kernel_rfl)
      | cons y c => exact (append_grow_at (l := (y :: c).length) (i := 42) (cs := (y :: c).map cellU) tp (n := 8) (new := (rc [7, 6, 5, 4, 3, 2, 1, 0] (.ofNat p.n))) (by kernel_rfl) (first_at (cs := (rc [7, 6, 5, 4, 3, 2, 1, 0] (.ofNat p.n))) (rw := true) (by kernel_rfl) (by kernel_rfl)) (by kernel_rfl) (by simp) (by decide) (by omega) (by omega) (by omega)).trans (by kernel_rfl)
theorem w3N0y (C : CameP ps rows) (hi : i < ps.length) (hp : ps[i]? = some p) (hn : p.n < 18446744073709551616) (hc : c.length ≤ 1000000) (hk : p.k = .ofNat 1) (h1 : eqF p.sz (.ofNat 1) = false) (h2 : eqF p.sz (.ofNat 2) = false) (h4 : eqF p.sz (.ofNat 4) = false) (h8 : eqF p.sz (.ofNat 8) = false) : Rd3 ps rows i c false c false :=
  fin3 rfl (vcUN0y p.sz ps.length i c.length 0 (.ofNat p.n) (RP ps) rows (Vw c) p.v (Bc c) .dead _) ⟨xlen, ifB_mk (fun _ => ⟨xidx hi, (xload (by kernel_rfl) hp).trans (by rw [enc, hk]), (by rcases C.sh hp with h | h | ⟨_, _, _, h⟩ <;> rw [h] <;> kernel_rfl), xne h1, xne h2, xne h4, xne h8, (by cases c <;> kernel_rfl), same3 C rfl hi (by kernel_rfl) (by cases c <;> kernel_rfl) rfl⟩) fun h => nlt hi h⟩
theorem w3F1y (C : CameP ps rows) (hi : i < ps.length) (hp : ps[i]? = some p) (hn : p.n < 18446744073709551616) (hc : c.length ≤ 1000000) (hk : p.k = .ofNat 2) (hf : eqF (Int.tmod (.ofNat p.n) (.ofNat 2)) (.ofNat 1) = true) : Rd3 ps rows i c false (c ++ [1]) false := by
  refine fin3 rfl (vcUFy p.sz ps.length i c.length 0 (.ofNat p.n) (RP ps) rows (Vw c) p.v (Bc c) (.cells (c.map cellU ++ [cellU 1]) true) .dead _) ⟨xlen, ifB_mk (fun _ => ⟨xidx hi, (xload (by kernel_rfl) hp).trans (by rw [enc, hk]), (by rcases C.sh hp with h | h | ⟨_, _, _, h⟩ <;> rw [h] <;> kernel_rfl), ifB_mk (fun _ => ⟨?_, end3 C rfl hi (d := 45) (row := (c.map cellU ++ [cellU 1])) (m := (c.length + 1)) (by kernel_rfl) (by kernel_rfl) (by kernel_rfl) (by kernel_rfl) (by kernel_rfl) (by simp) (by simp) (ne_app (by simp)) rfl⟩) (fun h => by rw [hf] at h; cases h)⟩) fun h => nlt hi h⟩
  exact by
      cases c with
      | nil => exact (append_nil_at tp (n := 1) (new := [cellU 1]) (by kernel_rfl) (first_at (cs := [cellU 1]) (rw := true) (by kernel_rfl) (by kernel_rfl)) (by decide) (by decide) (by decide)).trans (by kernel_rfl)
      | cons y c => exact (append_grow_at (l := (y :: c).length) (i := 42) (cs := (y :: c).map cellU) tp (n := 1) (new := [cellU 1]) (by kernel_rfl) (first_at (cs := [cellU 1]) (rw := true) (by kernel_rfl) (by kernel_rfl)) (by kernel_rfl) (by simp) (by decide) (by omega) (by omega) (by omega)).trans (by kernel_rfl)
theorem w3F0y (C : CameP ps rows) (hi : i < ps.length) (hp : ps[i]? = some p) (hn : p.n < 18446744073709551616) (hc : c.length ≤ 1000000) (hk : p.k = .ofNat 2) (hf : eqF (Int.tmod (.ofNat p.n) (.ofNat 2)) (.ofNat 1) = false) : Rd3 ps rows i c false (c ++ [0]) false := by
  refine fin3 rfl (vcUFy p.sz ps.length i c.length 0 (.ofNat p.n) (RP ps) rows (Vw c) p.v (Bc c) .dead (.cells (c.map cellU ++ [cellU 0]) true) _) ⟨xlen, ifB_mk (fun _ => ⟨xidx hi, (xload (by kernel_rfl) hp).trans (by rw [enc, hk]), (by rcases C.sh hp with h | h | ⟨_, _, _, h⟩ <;> rw [h] <;> kernel_rfl), ifB_mk (fun h => by rw [hf] at h; cases h) (fun _ => ⟨?_, end3 C rfl hi (d := 45) (row := (c.map cellU ++ [cellU 0])) (m := (c.length + 1)) (by kernel_rfl) (by kernel_rfl) (by kernel_rfl) (by kernel_rfl) (by kernel_rfl) (by simp) (by simp) (ne_app (by simp)) rfl⟩)⟩) fun h => nlt hi h⟩
  exact by
      cases c with
      | nil => exact (append_nil_at tp (n := 1) (new := [cellU 0]) (by kernel_rfl) (first_at (cs := [cellU 0]) (rw := true) (by kernel_rfl) (by kernel_rfl)) (by decide) (by decide) (by decide)).trans (by kernel_rfl)
      | cons y c => exact (append_grow_at (l := (y :: c).length) (i := 42) (cs := (y :: c).map cellU) tp (n := 1) (new := [cellU 0]) (by kernel_rfl) (first_at (cs := [cellU 0]) (rw := true) (by kernel_rfl) (by kernel_rfl)) (by kernel_rfl) (by simp) (by decide) (by omega) (by omega) (by omega)).trans (by kernel_rfl)
theorem w3By (C : CameP ps rows) (hi : i < ps.length) (hp : ps[i]? = some p) (hn : p.n < 18446744073709551616) (hc : c.length ≤ 1000000) (hb : p.b.length ≤ 20000) (hk : p.k = .ofNat 3) (h0 : p.b ≠ []) : Rd3 ps rows i c false (c ++ p.b) false := by
  have hl : 0 < p.b.length := List.length_pos_iff.2 h0
  obtain ⟨hv, hr⟩ := argRow (C.arg i p hp) h0
  refine fin3 rfl (vcUBy p.sz ps.length i c.length p.b.length (.ofNat p.n) (RP ps) rows (Vw c) p.v (Bc c) (.cells (c.map cellU ++ p.b.map cellU) true) _) ⟨xlen, ifB_mk (fun _ => ⟨xidx hi, (xload (by kernel_rfl) hp).trans (by rw [enc, hk]), (by rcases C.sh hp with h | h | ⟨_, _, _, h⟩ <;> rw [h] <;> kernel_rfl), (by rcases C.sh hp with h | h | ⟨_, _, _, h⟩ <;> rw [h] <;> kernel_rfl), ?_, end3 C rfl hi (d := 44) (row := (c.map cellU ++ p.b.map cellU)) (m := (c.length + p.b.length)) (by kernel_rfl) (by kernel_rfl) (by kernel_rfl) (by kernel_rfl) (by kernel_rfl) (by rw [List.map_append]) (by rw [List.length_append]) (ne_app h0) rfl⟩) fun h => nlt hi h⟩
  rw [hv]
  exact by
      cases c with
      | nil => exact (append_nil_at tp (n := p.b.length) (new := (p.b.map cellU)) (by kernel_rfl) (frow (rowAt C hi hr (by kernel_rfl))) hl (by omega) (by omega)).trans (by rw [List.length_nil, Nat.zero_add]; kernel_rfl)
      | cons y c => exact (append_grow_at (l := (y :: c).length) (i := 42) (cs := (y :: c).map cellU) tp (n := p.b.length) (new := (p.b.map cellU)) (by kernel_rfl) (frow (rowAt C hi hr (by kernel_rfl))) (by kernel_rfl) (by simp) (by decide) hl (by omega) (by omega)).trans (by kernel_rfl)
theorem w3Zy (C : CameP ps rows) (hi : i < ps.length) (hp : ps[i]? = some p) (hn : p.n < 18446744073709551616) (hc : c.length ≤ 1000000) (hb : p.b.length ≤ 20000) (hk : p.k = .ofNat 3) (h0 : p.b = []) : Rd3 ps rows i c false c false := by
  refine fin3 rfl (vcUZy p.sz ps.length i c.length p.b.length (.ofNat p.n) (RP ps) rows (Vw c) p.v (Bc c) .dead _) ⟨xlen, ifB_mk (fun _ => ⟨xidx hi, (xload (by kernel_rfl) hp).trans (by rw [enc, hk]), (by rcases C.sh hp with h | h | ⟨_, _, _, h⟩ <;> rw [h] <;> kernel_rfl), (by rcases C.sh hp with h | h | ⟨_, _, _, h⟩ <;> rw [h] <;> kernel_rfl), ?_, same3 C rfl hi (by kernel_rfl) (by cases c <;> kernel_rfl) rfl⟩) fun h => nlt hi h⟩
  rcases argNil (C.arg i p hp) h0 with h | h <;> rw [h] <;> cases c <;> kernel_rfl
theorem w3Ly (C : CameP ps rows) (hi : i < ps.length) (hp : ps[i]? = some p) (hn : p.n < 18446744073709551616) (hc : c.length ≤ 1000000) (hb : p.b.length ≤ 20000) (hk : p.k = .ofNat 4) (h0 : p.b ≠ []) : Rd3 ps rows i c false (c ++ (bs [8, 0] p.b.length ++ p.b)) false := by
  have hl : 0 < p.b.length := List.length_pos_iff.2 h0
  obtain ⟨hv, hr⟩ := argRow (C.arg i p hp) h0
  refine fin3 rfl (vcULy p.sz ps.length i c.length p.b.length (.ofNat p.n) (RP ps) rows (Vw c) p.v (Bc c) (.cells (c.map cellU ++ ((rc [1, 0] (wrapF .u64 (.ofNat p.b.length))) ++ p.b.map cellU)) true) (.cells ((rc [1, 0] (wrapF .u64 (.ofNat p.b.length))) ++ p.b.map cellU) true) _) ⟨xlen, ifB_mk (fun _ => ⟨xidx hi, (xload (by kernel_rfl) hp).trans (by rw [enc, hk]), (by rcases C.sh hp with h | h | ⟨_, _, _, h⟩ <;> rw [h] <;> kernel_rfl), (by rcases C.sh hp with h | h | ⟨_, _, _, h⟩ <;> rw [h] <;> kernel_rfl), xlenB C hp, ?_, ?_, end3 C rfl hi (d := 46) (row := (c.map cellU ++ ((rc [1, 0] (wrapF .u64 (.ofNat p.b.length))) ++ p.b.map cellU))) (m := (c.length + (2 + p.b.length))) (by kernel_rfl) (by kernel_rfl) (by kernel_rfl) (by kernel_rfl) (by kernel_rfl) (by rw [wU64 (by omega), rc_eq (by omega), bs2, List.map_append, List.map_append]) (by simp [bs]; omega) (ne_app (by simp [bs])) rfl⟩) fun h => nlt hi h⟩
  · rw [hv]
    exact (append_full_at (l := 2) (i := 44) (o := 0) (n := p.b.length) (new := p.b.map cellU) (old := (rc [1, 0] (wrapF .u64 (.ofNat p.b.length)))) tp (by kernel_rfl) (frow (rowAt C hi hr (by kernel_rfl))) (by kernel_rfl) hl (by omega) (by omega)).trans (by kernel_rfl)
  · exact by
      cases c with
      | nil => exact (append_nil_at tp (n := (2 + p.b.length)) (new := ((rc [1, 0] (wrapF .u64 (.ofNat p.b.length))) ++ p.b.map cellU)) (by kernel_rfl) (first_at (cs := (rc [1, 0] (wrapF .u64 (.ofNat p.b.length))) ++ p.b.map cellU) (rw := true) (by kernel_rfl) (full_take (by simp [rc]; omega))) (by omega) (by omega) (by omega)).trans (by rw [List.length_nil, Nat.zero_add]; kernel_rfl)
      | cons y c => exact (append_grow_at (l := (y :: c).length) (i := 42) (cs := (y :: c).map cellU) tp (n := (2 + p.b.length)) (new := ((rc [1, 0] (wrapF .u64 (.ofNat p.b.length))) ++ p.b.map cellU)) (by kernel_rfl) (first_at (cs := (rc [1, 0] (wrapF .u64 (.ofNat p.b.length))) ++ p.b.map cellU) (rw := true) (by kernel_rfl) (full_take (by simp [rc]; omega))) (by kernel_rfl) (by simp) (by decide) (by omega) (by omega) (by omega)).trans (by kernel_rfl)
theorem w3My (C : CameP ps rows) (hi : i < ps.length) (hp : ps[i]? = some p) (hn : p.n < 18446744073709551616) (hc : c.length ≤ 1000000) (hb : p.b.length ≤ 20000) (hk : p.k = .ofNat 4) (h0 : p.b = []) : Rd3 ps rows i c false (c ++ bs [8, 0] p.b.length) false := by
  refine fin3 rfl (vcUMy p.sz ps.length i c.length p.b.length (.ofNat p.n) (RP ps) rows (Vw c) p.v (Bc c) (.cells (c.map cellU ++ (rc [1, 0] (wrapF .u64 (.ofNat p.b.length)))) true) _) ⟨xlen, ifB_mk (fun _ => ⟨xidx hi, (xload (by kernel_rfl) hp).trans (by rw [enc, hk]), (by rcases C.sh hp with h | h | ⟨_, _, _, h⟩ <;> rw [h] <;> kernel_rfl), (by rcases C.sh hp with h | h | ⟨_, _, _, h⟩ <;> rw [h] <;> kernel_rfl), xlenB C hp, ?_, ?_, end3 C rfl hi (d := 45) (row := (c.map cellU ++ (rc [1, 0] (wrapF .u64 (.ofNat p.b.length))))) (m := (c.length + 2)) (by kernel_rfl) (by kernel_rfl) (by kernel_rfl) (by kernel_rfl) (by kernel_rfl) (by rw [wU64 (by omega), rc_eq (by omega), bs2, List.map_append]) (by simp [bs]) (ne_app (by simp [bs])) rfl⟩) fun h => nlt hi h⟩
  · rcases argNil (C.arg i p hp) h0 with h | h <;> rw [h] <;> kernel_rfl
  · exact by
      cases c with
      | nil => exact (append_nil_at tp (n := 2) (new := (rc [1, 0] (wrapF .u64 (.ofNat p.b.length)))) (by kernel_rfl) (first_at (cs := (rc [1, 0] (wrapF .u64 (.ofNat p.b.length)))) (rw := true) (by kernel_rfl) (by kernel_rfl)) (by decide) (by decide) (by decide)).trans (by kernel_rfl)
      | cons y c => exact (append_grow_at (l := (y :: c).length) (i := 42) (cs := (y :: c).map cellU) tp (n := 2) (new := (rc [1, 0] (wrapF .u64 (.ofNat p.b.length)))) (by kernel_rfl) (first_at (cs := (rc [1, 0] (wrapF .u64 (.ofNat p.b.length)))) (rw := true) (by kernel_rfl) (by kernel_rfl)) (by kernel_rfl) (by simp) (by decide) (by omega) (by omega) (by omega)).trans (by kernel_rfl)
theorem w3Cy (C : CameP ps rows) (hi : i < ps.length) (hp : ps[i]? = some p) (hn : p.n < 18446744073709551616) (hc : c.length ≤ 1000000) (hk : p.k = .ofNat 5) : Rd3 ps rows i c false (c ++ [modN p.sz (big .u8)]) false := by
  refine fin3 rfl (vcUCy p.sz ps.length i c.length 0 (.ofNat p.n) (RP ps) rows (Vw c) p.v (Bc c) (.cells (c.map cellU ++ [AV.int .u8 (wrapF .u8 p.sz)]) true) _) ⟨xlen, ifB_mk (fun _ => ⟨xidx hi, (xload (by kernel_rfl) hp).trans (by rw [enc, hk]), (by rcases C.sh hp with h | h | ⟨_, _, _, h⟩ <;> rw [h] <;> kernel_rfl), ifB_mk (fun g1 => ifB_mk (fun g2 => ⟨?_, end3 C rfl hi (d := 58) (row := (c.map cellU ++ [AV.int .u8 (wrapF .u8 p.sz)])) (m := (c.length + 1)) (by kernel_rfl) (by kernel_rfl) (by kernel_rfl) (by kernel_rfl) (by kernel_rfl) (by rw [wU8, List.map_append]; rfl) (by simp) (ne_app (by simp)) rfl⟩) fun g2 => ⟨?_, end3 C rfl hi (d := 58) (row := (c.map cellU ++ [AV.int .u8 (wrapF .u8 p.sz)])) (m := (c.length + 1)) (by kernel_rfl) (by kernel_rfl) (by kernel_rfl) (by kernel_rfl) (by kernel_rfl) (by rw [wU8, List.map_append]; rfl) (by simp) (ne_app (by simp)) rfl⟩) fun g1 => ⟨?_, end3 C rfl hi (d := 58) (row := (c.map cellU ++ [AV.int .u8 (wrapF .u8 p.sz)])) (m := (c.length + 1)) (by kernel_rfl) (by kernel_rfl) (by kernel_rfl) (by kernel_rfl) (by kernel_rfl) (by rw [wU8, List.map_append]; rfl) (by simp) (ne_app (by simp)) rfl⟩⟩) fun h => nlt hi h⟩
  · exact by
      cases c with
      | nil => exact (append_nil_at tp (n := 1) (new := [AV.int .u8 (wrapF .u8 p.sz)]) (by kernel_rfl) (first_at (cs := [AV.int .u8 (wrapF .u8 p.sz)]) (rw := true) (by kernel_rfl) (by kernel_rfl)) (by decide) (by decide) (by decide)).trans (by kernel_rfl)
      | cons y c => exact (append_grow_at (l := (y :: c).length) (i := 42) (cs := (y :: c).map cellU) tp (n := 1) (new := [AV.int .u8 (wrapF .u8 p.sz)]) (by kernel_rfl) (first_at (cs := [AV.int .u8 (wrapF .u8 p.sz)]) (rw := true) (by kernel_rfl) (by kernel_rfl)) (by kernel_rfl) (by simp) (by decide) (by omega) (by omega) (by omega)).trans (by kernel_rfl)
  · exact by
      cases c with
      | nil => exact (append_nil_at tp (n := 1) (new := [AV.int .u8 (wrapF .u8 p.sz)]) (by kernel_rfl) (first_at (cs := [AV.int .u8 (wrapF .u8 p.sz)]) (rw := true) (by kernel_rfl) (by kernel_rfl)) (by decide) (by decide) (by decide)).trans (by kernel_rfl)
      | cons y c => exact (append_grow_at (l := (y :: c).length) (i := 42) (cs := (y :: c).map cellU) tp (n := 1) (new := [AV.int .u8 (wrapF .u8 p.sz)]) (by kernel_rfl) (first_at (cs := [AV.int .u8 (wrapF .u8 p.sz)]) (rw := true) (by kernel_rfl) (by kernel_rfl)) (by kernel_rfl) (by simp) (by decide) (by omega) (by omega) (by omega)).trans (by kernel_rfl)
  · exact by
      cases c with
      | nil => exact (append_nil_at tp (n := 1) (new := [AV.int .u8 (wrapF .u8 p.sz)]) (by kernel_rfl) (first_at (cs := [AV.int .u8 (wrapF .u8 p.sz)]) (rw := true) (by kernel_rfl) (by kernel_rfl)) (by decide) (by decide) (by decide)).trans (by kernel_rfl)
      | cons y c => exact (append_grow_at (l := (y :: c).length) (i := 42) (cs := (y :: c).map cellU) tp (n := 1) (new := [AV.int .u8 (wrapF .u8 p.sz)]) (by kernel_rfl) (first_at (cs := [AV.int .u8 (wrapF .u8 p.sz)]) (rw := true) (by kernel_rfl) (by kernel_rfl)) (by kernel_rfl) (by simp) (by decide) (by omega) (by omega) (by omega)).trans (by kernel_rfl)
theorem w3Ky (C : CameP ps rows) (hi : i < ps.length) (hp : ps[i]? = some p) (hn : p.n < 18446744073709551616) (hc : c.length ≤ 1000000) (hb : p.b.length ≤ 20000) (hk : p.k = .ofNat 6) : Rd3 ps rows i c false (c ++ blk p.b) false := by
  refine fin3 rfl (vcUKy p.sz ps.length i c.length (Nat.min p.b.length 256) (.ofNat p.n) (RP ps) rows (Vw c) p.v (Bc c) (.cells (c.map cellU ++ rowI (blkI p.b)) true) (blkI p.b) _) ⟨xlen, ifB_mk (fun _ => ⟨xidx hi, (xload (by kernel_rfl) hp).trans (by rw [enc, hk]), (by rcases C.sh hp with h | h | ⟨_, _, _, h⟩ <;> rw [h] <;> kernel_rfl), (by rcases C.sh hp with h | h | ⟨_, _, _, h⟩ <;> rw [h] <;> kernel_rfl), ?_, ?_, end3 C rfl hi (d := 47) (row := (c.map cellU ++ rowI (blkI p.b))) (m := (c.length + 256)) (by kernel_rfl) (by kernel_rfl) (by kernel_rfl) (by kernel_rfl) (by kernel_rfl) (by rw [rowI_blk, List.map_append]) (by simp [blk]) (ne_app (by simp [blk])) rfl⟩) fun h => nlt hi h⟩
  · by_cases h0 : p.b = []
    · have e : blkI p.b = fun _ => Int.ofNat 0 := by rw [h0]; funext j; simp [blkI]
      rw [e, h0]
      rcases argNil (C.arg i p hp) h0 with h | h <;> rw [h] <;> exact (xcp (sl := 0) (by kernel_rfl)).trans (by kernel_rfl)
    · obtain ⟨hv, hr⟩ := argRow (C.arg i p hp) h0
      rw [hv]
      exact (xcpRow h0 (rowAt C hi hr (by kernel_rfl)) (by kernel_rfl)).trans (by kernel_rfl)
  · exact by
      cases c with
      | nil => exact (append_nil_at tp (n := 256) (new := (rowI (blkI p.b))) (by kernel_rfl) (first_at (cs := rowI (blkI p.b)) (rw := true) (by kernel_rfl) (by kernel_rfl)) (by decide) (by decide) (by decide)).trans (by kernel_rfl)
      | cons y c => exact (append_grow_at (l := (y :: c).length) (i := 42) (cs := (y :: c).map cellU) tp (n := 256) (new := (rowI (blkI p.b))) (by kernel_rfl) (first_at (cs := rowI (blkI p.b)) (rw := true) (by kernel_rfl) (by kernel_rfl)) (by kernel_rfl) (by simp) (by decide) (by omega) (by omega) (by omega)).trans (by kernel_rfl)
theorem w3Oy (C : CameP ps rows) (hi : i < ps.length) (hp : ps[i]? = some p) (hn : p.n < 18446744073709551616) (hc : c.length ≤ 1000000) (h1 : eqF p.k (.ofNat 1) = false) (h2 : eqF p.k (.ofNat 2) = false) (h3 : eqF p.k (.ofNat 3) = false) (h4 : eqF p.k (.ofNat 4) = false) (h5 : eqF p.k (.ofNat 5) = false) (h6 : eqF p.k (.ofNat 6) = false) : Rd3 ps rows i c false c false :=
  fin3 rfl (vcUOy p.k p.sz ps.length i c.length 0 (.ofNat p.n) (RP ps) rows (Vw c) p.v (Bc c) .dead _) ⟨xlen, ifB_mk (fun _ => ⟨xidx hi, (xload (by kernel_rfl) hp).trans rfl, (by rcases C.sh hp with h | h | ⟨_, _, _, h⟩ <;> rw [h] <;> kernel_rfl), xne h1, xne h2, xne h3, xne h4, xne h5, xne h6, (by cases c <;> kernel_rfl), same3 C rfl hi (by kernel_rfl) (by cases c <;> kernel_rfl) rfl⟩) fun h => nlt hi h⟩
end
end Go.Proofs.Ytlnohbilfogheaa.wwr
end

section
open Go Go.Ax Go.Proofs.Ytlnohbilfogheaa
namespace Go.Proofs.Ytlnohbilfogheaa.wwr
set_option linter.unusedVariables false
def stepG (s : List Nat × Bool) (p : PV) : List Nat × Bool := (s.1 ++ refB p, s.2 && okB p)
section
variable {ps : List PV} {rows : Nat → AO} {c : List Nat} {i : Nat} {p : PV} {g : Bool}
theorem to3 {c' x : List Nat} {g' o : Bool} (hx : refB p = x) (ho : okB p = o) (hc : c' = c ++ x) (hg : g' = (g && o)) (r : Rd3 ps rows i c g c' g') : Rd3 ps rows i c g (stepG (c, g) p).1 (stepG (c, g) p).2 := by
  subst hx; subst ho; subst hc; subst hg
  exact r
theorem round3 (C : CameP ps rows) (hi : i < ps.length) (hp : ps[i]? = some p) (hn : p.n < 18446744073709551616) (hc : c.length ≤ 1000000) (hb : p.b.length ≤ 20000) (g : Bool) : Rd3 ps rows i c g (stepG (c, g) p).1 (stepG (c, g) p).2 := by
  cases k1 : eqF p.k (.ofNat 1) with
  | true =>
    have hk := eqF_t k1
    cases z1 : eqF p.sz (.ofNat 1) with
    | true =>
      refine to3 (x := bs [0] p.n) (o := Nat.beq (p.n / 2 ^ 8) 0) (by simp only [refB, k1, z1, cond_true]) (by simp only [okB, k1, z1, cond_true]) rfl rfl ?_
      cases g
      · exact w3N1y C hi hp hn hc hk (eqF_t z1)
      · exact w3N1x C hi hp hn hc hk (eqF_t z1)
    | false => cases z2 : eqF p.sz (.ofNat 2) with
      | true =>
        refine to3 (x := bs [8, 0] p.n) (o := Nat.beq (p.n / 2 ^ 16) 0) (by simp only [refB, k1, z1, z2, cond_true, cond_false]) (by simp only [okB, k1, z1, z2, cond_true, cond_false]) rfl rfl ?_
        cases g
        · exact w3N2y C hi hp hn hc hk (eqF_t z2)
        · exact w3N2x C hi hp hn hc hk (eqF_t z2)
      | false => cases z4 : eqF p.sz (.ofNat 4) with
        | true =>
          refine to3 (x := bs [24, 16, 8, 0] p.n) (o := Nat.beq (p.n / 2 ^ 32) 0) (by simp only [refB, k1, z1, z2, z4, cond_true, cond_false]) (by simp only [okB, k1, z1, z2, z4, cond_true, cond_false]) rfl rfl ?_
          cases g
          · exact w3N4y C hi hp hn hc hk (eqF_t z4)
          · exact w3N4x C hi hp hn hc hk (eqF_t z4)
        | false => cases z8 : eqF p.sz (.ofNat 8) with
          | true =>
            refine to3 (x := bs [56, 48, 40, 32, 24, 16, 8, 0] p.n) (o := true) (by simp only [refB, k1, z1, z2, z4, z8, cond_true, cond_false]) (by simp only [okB, k1, z1, z2, z4, z8, cond_true, cond_false]) rfl rfl ?_
            cases g
            · exact w3N8y C hi hp hn hc hk (eqF_t z8)
            · exact w3N8x C hi hp hn hc hk (eqF_t z8)
          | false =>
            refine to3 (x := []) (o := false) (c' := c) (g' := false) (by simp only [refB, k1, z1, z2, z4, z8, cond_true, cond_false]) (by simp only [okB, k1, z1, z2, z4, z8, cond_true, cond_false]) (List.append_nil c).symm (Bool.and_false g).symm ?_
            cases g
            · exact w3N0y C hi hp hn hc hk z1 z2 z4 z8
            · exact w3N0x C hi hp hn hc hk z1 z2 z4 z8
  | false => cases k2 : eqF p.k (.ofNat 2) with
    | true => cases hf : eqF (Int.tmod (.ofNat p.n) (.ofNat 2)) (.ofNat 1) with
      | true =>
        refine to3 (x := [1]) (o := true) (by simp only [refB, k1, k2, hf, cond_true, cond_false]) (by simp only [okB, k1, k2, cond_true, cond_false]) rfl (Bool.and_true g).symm ?_
        cases g
        · exact w3F1y C hi hp hn hc (eqF_t k2) hf
        · exact w3F1x C hi hp hn hc (eqF_t k2) hf
      | false =>
        refine to3 (x := [0]) (o := true) (by simp only [refB, k1, k2, hf, cond_true, cond_false]) (by simp only [okB, k1, k2, cond_true, cond_false]) rfl (Bool.and_true g).symm ?_
        cases g
        · exact w3F0y C hi hp hn hc (eqF_t k2) hf
        · exact w3F0x C hi hp hn hc (eqF_t k2) hf
    | false => cases k3 : eqF p.k (.ofNat 3) with
      | true =>
        have e : refB p = p.b := by simp only [refB, k1, k2, k3, cond_true, cond_false]
        have eo : okB p = true := by simp only [okB, k1, k2, k3, cond_true, cond_false]
        by_cases h : p.b = []
        · refine to3 (c' := c) (g' := g) e eo (by rw [h, List.append_nil]) (Bool.and_true g).symm ?_
          cases g
          · exact w3Zy C hi hp hn hc hb (eqF_t k3) h
          · exact w3Zx C hi hp hn hc hb (eqF_t k3) h
        · refine to3 (g' := g) e eo rfl (Bool.and_true g).symm ?_
          cases g
          · exact w3By C hi hp hn hc hb (eqF_t k3) h
          · exact w3Bx C hi hp hn hc hb (eqF_t k3) h
      | false => cases k4 : eqF p.k (.ofNat 4) with
        | true =>
          have e : refB p = bs [8, 0] p.b.length ++ p.b := by simp only [refB, k1, k2, k3, k4, cond_true, cond_false]
          have eo : okB p = true := by simp only [okB, k1, k2, k3, k4, cond_true, cond_false]
          by_cases h : p.b = []
          · refine to3 (c' := c ++ bs [8, 0] p.b.length) (g' := g) e eo (by rw [h, List.append_nil]) (Bool.and_true g).symm ?_
            cases g
            · exact w3My C hi hp hn hc hb (eqF_t k4) h
            · exact w3Mx C hi hp hn hc hb (eqF_t k4) h
          · refine to3 (g' := g) e eo rfl (Bool.and_true g).symm ?_
            cases g
            · exact w3Ly C hi hp hn hc hb (eqF_t k4) h
            · exact w3Lx C hi hp hn hc hb (eqF_t k4) h
        | false => cases k5 : eqF p.k (.ofNat 5) with
          | true =>
            refine to3 (x := [modN p.sz (big .u8)]) (o := bif ltF p.sz (.ofNat 0) then false else !ltF (.ofNat 255) p.sz) (by simp only [refB, k1, k2, k3, k4, k5, cond_true, cond_false]) (by simp only [okB, k1, k2, k3, k4, k5, cond_true, cond_false]) rfl rfl ?_
            cases g
            · exact w3Cy C hi hp hn hc (eqF_t k5)
            · exact w3Cx C hi hp hn hc (eqF_t k5)
          | false => cases k6 : eqF p.k (.ofNat 6) with
            | true =>
              refine to3 (x := blk p.b) (o := true) (g' := g) (by simp only [refB, k1, k2, k3, k4, k5, k6, cond_true, cond_false]) (by simp only [okB, k1, k2, k3, k4, k5, cond_false]) rfl (Bool.and_true g).symm ?_
              cases g
              · exact w3Ky C hi hp hn hc hb (eqF_t k6)
              · exact w3Kx C hi hp hn hc hb (eqF_t k6)
            | false =>
              refine to3 (x := []) (o := true) (c' := c) (g' := g) (by simp only [refB, k1, k2, k3, k4, k5, k6, cond_false]) (by simp only [okB, k1, k2, k3, k4, k5, cond_false]) (List.append_nil c).symm (Bool.and_true g).symm ?_
              cases g
              · exact w3Oy C hi hp hn hc k1 k2 k3 k4 k5 k6
              · exact w3Ox C hi hp hn hc k1 k2 k3 k4 k5 k6
def LenL (n : Nat) (l : List Nat) : Prop := l.length ≤ n
theorem ll_bif {n : Nat} {b : Bool} {l l' : List Nat} (h : LenL n l) (h' : LenL n l') : LenL n (bif b then l else l') := by cases b <;> assumption
theorem ll_bs {n : Nat} {sh : List Nat} {m : Nat} (h : sh.length ≤ 8) : LenL (n + 300) (bs sh m) := by
  show (bs sh m).length ≤ _
  rw [bsLen]; omega
theorem ll_nil {n : Nat} : LenL n [] := Nat.zero_le _
theorem refLen : (refB p).length ≤ p.b.length + 300 :=
  ll_bif (ll_bif (ll_bs (by decide)) (ll_bif (ll_bs (by decide)) (ll_bif (ll_bs (by decide)) (ll_bif (ll_bs (by decide)) ll_nil))))
    (ll_bif (by show List.length [_] ≤ _; rw [List.length_singleton]; omega) (ll_bif (by show p.b.length ≤ _; omega) (ll_bif (by show (bs [8, 0] p.b.length ++ p.b).length ≤ _; rw [List.length_append, bsLen]; simp only [List.length_cons, List.length_nil]; omega)
      (ll_bif (by show List.length [_] ≤ _; rw [List.length_singleton]; omega) (ll_bif (by show (blk p.b).length ≤ _; rw [blkLen]; omega) ll_nil)))))
def wantF (ps : List PV) : List Nat × Bool := ps.foldl stepG ([], true)
theorem wantF_succ {k : Nat} (h : ps[k]? = some p) : wantF (ps.take (k + 1)) = stepG (wantF (ps.take k)) p := by
  unfold wantF
  rw [List.take_add_one, h, List.foldl_append]; rfl
theorem exit3 (g : Bool) : Trip Try.prog 42 none L3 (fr3 ps.length ps.length (Vw c) g) (stw ps rows c) (Stops 42 (.exit 0) (fr3 ps.length ps.length (Vw c) g) (stw ps rows c)) := by
  have hf : ltF (.ofNat ps.length) (.ofNat ps.length) = true → False := fun h => by rw [ltF_nn] at h; simp at h
  cases g with
  | true => exact (Trip.runY E3ok noSum_ok (Eq.mp (vcUOx 0 0 ps.length ps.length c.length 0 0 (RP ps) rows (Vw c) undefA (Bc c) .dead _) ⟨xlen, ifB_mk (fun h => (hf h).elim) fun _ => ⟨rfl, Wk.refl _ _ _⟩⟩)).mono fun r hr => Stops.can hr
  | false => exact (Trip.runY E3ok noSum_ok (Eq.mp (vcUOy 0 0 ps.length ps.length c.length 0 0 (RP ps) rows (Vw c) undefA (Bc c) .dead _) ⟨xlen, ifB_mk (fun h => (hf h).elim) fun _ => ⟨rfl, Wk.refl _ _ _⟩⟩)).mono fun r hr => Stops.can hr
theorem loop3 (C : CameP ps rows) (hb : ∀ p, p ∈ ps → p.b.length ≤ 20000) : Trip Try.prog 42 none (.block 0 (.loop L3)) (fr3 ps.length 0 nilV true) (stw ps rows []) (Stops 42 .normal (fr3 ps.length ps.length (Vw (wantF ps).1) (wantF ps).2) (stw ps rows (wantF ps).1)) := by
  have hl := C.len
  refine Trip.block (Trip.loop (fun m fr st => ∃ k c g, k ≤ ps.length ∧ m = ps.length - k ∧ wantF (ps.take k) = (c, g) ∧ c.length ≤ k * 20300 ∧ fr = fr3 ps.length k (Vw c) g ∧ st = stw ps rows c) ?_ ps.length ⟨0, [], true, by omega, by omega, rfl, by simp, rfl, rfl⟩)
  rintro m fr st ⟨k, c, g, hk, rfl, hI, hc, rfl, rfl⟩
  by_cases e : k < ps.length
  · obtain ⟨p, hp⟩ : ∃ p, ps[k]? = some p := ⟨_, List.getElem?_eq_getElem e⟩
    have hm := List.mem_of_getElem? hp
    have hpb := hb p hm
    refine (round3 C e hp (C.num p hm) (by omega) hpb g).mono ?_
    rintro ⟨e', fr', st'⟩ ⟨h1, h2⟩
    simp only at h1 h2
    subst h1
    refine ⟨ps.length - (k + 1), _, _, by omega, h2, k + 1, (stepG (c, g) p).1, (stepG (c, g) p).2, by omega, rfl, by rw [wantF_succ hp, hI], ?_, rfl, rfl⟩
    have := refLen (p := p)
    show (c ++ refB p).length ≤ _
    rw [List.length_append]
    omega
  · have ek : k = ps.length := by omega
    subst ek
    rw [List.take_length] at hI
    refine (exit3 g).mono ?_
    rintro ⟨e', fr', st'⟩ ⟨h1, h2⟩
    simp only at h1 h2
    subst h1
    rw [hI]
    exact ⟨fun _ => ⟨rfl, h2⟩, fun h => absurd rfl h⟩
theorem partOk (h : okB p = true) : partB p = some (refB p) := by
  revert h
  unfold okB partB refB
  cases eqF p.k (.ofNat 1) with
  | true =>
    simp only [cond_true]
    cases eqF p.sz (.ofNat 1) <;> cases eqF p.sz (.ofNat 2) <;> cases eqF p.sz (.ofNat 4) <;> cases eqF p.sz (.ofNat 8) <;> simp only [cond_true, cond_false] <;> intro h <;> first | exact True.intro | (rw [h]; rfl) | rfl | cases h
  | false =>
    simp only [cond_false]
    cases eqF p.k (.ofNat 2) with
    | true => intro _; rfl
    | false => cases eqF p.k (.ofNat 3) with
      | true => intro _; rfl
      | false => cases eqF p.k (.ofNat 4) with
        | true => intro _; rfl
        | false => cases eqF p.k (.ofNat 5) with
          | true =>
            simp only [cond_true, cond_false]
            intro h
            cases l0 : ltF p.sz (.ofNat 0) with
            | true => rw [l0] at h; cases h
            | false =>
              rw [l0, cond_false] at h
              rw [Bool.not_eq_true'] at h
              rw [h]
              have h1 : (0 : Int) ≤ p.sz := ltF_f l0
              have h2 : p.sz ≤ 255 := ltF_f h
              obtain ⟨z, hz⟩ : ∃ z : Nat, p.sz = .ofNat z := ⟨p.sz.toNat, (Int.toNat_of_nonneg h1).symm⟩
              have h3 : z ≤ 255 := by rw [hz] at h2; exact Int.ofNat_le.1 h2
              rw [hz]
              show some (bs [0] z) = some [z % 256]
              simp [bs]
          | false => cases eqF p.k (.ofNat 6) <;> (intro _; rfl)
theorem partNo (h : okB p = false) : partB p = none := by
  revert h
  unfold okB partB
  cases eqF p.k (.ofNat 1) with
  | true =>
    simp only [cond_true]
    cases eqF p.sz (.ofNat 1) <;> cases eqF p.sz (.ofNat 2) <;> cases eqF p.sz (.ofNat 4) <;> cases eqF p.sz (.ofNat 8) <;> simp only [cond_true, cond_false] <;> intro h <;> first | exact True.intro | (rw [h]; rfl) | rfl | cases h
  | false =>
    simp only [cond_false]
    cases eqF p.k (.ofNat 2) <;> cases eqF p.k (.ofNat 3) <;> cases eqF p.k (.ofNat 4) <;> cases eqF p.k (.ofNat 5) <;> simp only [cond_true, cond_false] <;> intro h <;> first | (cases h; done) | skip
    cases l0 : ltF p.sz (.ofNat 0) with
    | true => rfl
    | false =>
      rw [l0, cond_false] at h
      rw [Bool.not_eq_false'] at h
      rw [h]; rfl
theorem fold_same : ∀ (ps : List PV) (c : List Nat), (ps.foldl stepG (c, true)).2 = true → ps.foldl stepP (c, false) = ((ps.foldl stepG (c, true)).1, false)
  | [], c, _ => rfl
  | p :: ps, c, h => by
    cases ho : okB p with
    | true =>
      have e1 : stepG (c, true) p = (c ++ refB p, true) := by unfold stepG; rw [ho]; rfl
      rw [List.foldl_cons, e1] at h
      rw [List.foldl_cons, List.foldl_cons, e1, sp_some (partOk ho)]
      exact fold_same ps _ h
    | false =>
      have e1 : stepG (c, true) p = (c ++ refB p, false) := by unfold stepG; rw [ho]; rfl
      rw [List.foldl_cons, e1] at h
      have : ∀ (ps : List PV) (s : List Nat), (ps.foldl stepG (s, false)).2 = false := fun ps => by
        induction ps with
        | nil => intro s; rfl
        | cons q qs ih => intro s; rw [List.foldl_cons]; exact ih _
      rw [this] at h; cases h
theorem bad_stays : ∀ (ps : List PV) (c : List Nat), ps.foldl stepP (c, true) = (c, true)
  | [], c => rfl
  | p :: ps, c => by rw [List.foldl_cons, sp_bad]; exact bad_stays ps c
theorem fold_bad : ∀ (ps : List PV) (c : List Nat), (ps.foldl stepG (c, true)).2 = false → (ps.foldl stepP (c, false)).2 = true
  | [], c, h => by cases h
  | p :: ps, c, h => by
    cases ho : okB p with
    | true =>
      have e1 : stepG (c, true) p = (c ++ refB p, true) := by unfold stepG; rw [ho]; rfl
      rw [List.foldl_cons, e1] at h
      rw [List.foldl_cons, sp_some (partOk ho)]
      exact fold_bad ps _ h
    | false => rw [List.foldl_cons, sp_none (partNo ho), bad_stays]
theorem put_good (h : (wantF ps).2 = true) : putF ps = ((wantF ps).1, false) := fold_same ps [] h
theorem put_bad (h : (wantF ps).2 = false) : (putF ps).2 = true := fold_bad ps [] h
end
end Go.Proofs.Ytlnohbilfogheaa.wwr
end
