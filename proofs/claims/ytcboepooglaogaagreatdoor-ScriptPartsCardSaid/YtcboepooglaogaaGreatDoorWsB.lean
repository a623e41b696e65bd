/-
  OWN WORK, A PART: an abstract machine for the program's text that the kernel can run, and the proof that it is sound: what it answers is what the program answers; contracts of functions by it. No condition.
-/
import Derived.Test.YtcboepooglaogaaGreatDoorWsA
section
open Go Go.Ax Go.Proofs
namespace Go.Proofs.YtcboepooglaogaaGreatDoor.spt
set_option linter.unusedVariables false
def hexd (a : Nat) : Nat := hexs.getD a 0
def digL (d : List Nat) : List Nat := d.flatMap fun x => [hexd (x / 16), hexd (x % 16)]
theorem ixH {S : ASt} {a : Nat} (h : a < 16) : still S (aIndex EV 9 (.str [48, 49, 50, 51, 52, 53, 54, 55, 56, 57, 97, 98, 99, 100, 101, 102]) (.int .u8 (.ofNat a))) = some (.int .u8 (.ofNat (hexd a)), S) := by
  match a, h with
  | 0, _ => exact still_of (by kernel_rfl)
  | 1, _ => exact still_of (by kernel_rfl)
  | 2, _ => exact still_of (by kernel_rfl)
  | 3, _ => exact still_of (by kernel_rfl)
  | 4, _ => exact still_of (by kernel_rfl)
  | 5, _ => exact still_of (by kernel_rfl)
  | 6, _ => exact still_of (by kernel_rfl)
  | 7, _ => exact still_of (by kernel_rfl)
  | 8, _ => exact still_of (by kernel_rfl)
  | 9, _ => exact still_of (by kernel_rfl)
  | 10, _ => exact still_of (by kernel_rfl)
  | 11, _ => exact still_of (by kernel_rfl)
  | 12, _ => exact still_of (by kernel_rfl)
  | 13, _ => exact still_of (by kernel_rfl)
  | 14, _ => exact still_of (by kernel_rfl)
  | 15, _ => exact still_of (by kernel_rfl)
  | a + 16, h => omega
theorem shrH {S : ASt} {x : Nat} : still S (aBin EV .shr 5 (.tmp 17) (.const (.int .u64 4)) (.int .u8 (.ofNat x)) (.int .u64 (.ofNat 4))) = some (.int .u8 (.ofNat (x / 16)), S) := still_of (by kernel_rfl)
theorem andH {S : ASt} {x : Nat} (h : x < 256) : still S (aBin EV .and 5 (.tmp 20) (.const (.int .u8 15)) (.int .u8 (.ofNat x)) (.int .u8 (.ofNat 15))) = some (.int .u8 (.ofNat (x % 16)), S) := by
  have e : aBin EV .and 5 (.tmp 20) (.const (.int .u8 15)) (.int .u8 (.ofNat x)) (.int .u8 (.ofNat 15)) = some (.int .u8 (wrapF .u8 (.ofNat (Nat.land (x % 256) 15)))) := by kernel_rfl
  have e2 : Nat.land (x % 256) 15 = x % 16 := by
    rw [Nat.mod_eq_of_lt h]
    exact Nat.and_two_pow_sub_one_eq_mod x 4
  refine still_of ?_
  rw [e, e2, wrapB (by omega)]
theorem quoH {S : ASt} {x : Nat} (h : x < 256) : still S (aBin EV .quo 5 (.tmp 17) (.const (.int .u8 16)) (.int .u8 (.ofNat x)) (.int .u8 (.ofNat 16))) = some (.int .u8 (.ofNat (x / 16)), S) := by
  have e : aBin EV .quo 5 (.tmp 17) (.const (.int .u8 16)) (.int .u8 (.ofNat x)) (.int .u8 (.ofNat 16)) = some (.int .u8 (wrapF .u8 (.ofNat (x / 16)))) := by kernel_rfl
  refine still_of ?_
  rw [e, wrapB (by omega)]
theorem remH {S : ASt} {x : Nat} : still S (aBin EV .rem 5 (.tmp 24) (.const (.int .u8 16)) (.int .u8 (.ofNat x)) (.int .u8 (.ofNat 16))) = some (.int .u8 (.ofNat (x % 16)), S) := still_of (by kernel_rfl)
theorem ap110 : appT EV 110 110 = some (1, 1) := by kernel_rfl
theorem sl110 : sliceT EV 110 = some 1 := by kernel_rfl
theorem ce5 : cellT EV 5 = true := by kernel_rfl
theorem append_room_at {E : Env} {sT xT : TypeId} {z b n l i c : Nat} {x : AV} {st : ASt} {new A B C : List AV} (hT : appT E sT xT = some (z, b)) (hn : aLen x = some n) (hf : aFirst st z n x = some new) (hi : st.h.get i = some (.cells (A ++ (B ++ C)) true))
    (hl : A.length = l * z) (hB : B.length = new.length) (h0 : 0 < n) (hc : l + n ≤ c) :
    aBuiltinM E .append [sT, xT] [.slice (some (i, 0)) l (.known c), x] st = some (.slice (some (i, 0)) (l + n) (.known c), st.put i (.cells (A ++ (new ++ C)) true)) := by
  obtain ⟨ei, rfl, rfl, h⟩ := append_red (s := .slice (some (i, 0)) l (.known c)) hT hn hf
  rw [h]
  simp only [aAppendTo, ble_t hc, beq_f (show n ≠ 0 by omega), cond_true, cond_false, hi, Nat.zero_add, ← hl, setL_mid hB]
def R0 (d : List Nat) : AO := .cells (d.map cellU) false
def Wc (d : List Nat) (i : Nat) : List AV := (digL (d.take i)).map cellU ++ List.replicate (2 * (d.length - i)) (cellU 0)
theorem digL_len : ∀ d : List Nat, (digL d).length = 2 * d.length
  | [] => rfl
  | x :: d => by
    show ([hexd (x / 16), hexd (x % 16)] ++ digL d).length = _
    rw [List.length_append, digL_len d]; simp only [List.length_cons, List.length_nil]; omega
theorem digL_take {d : List Nat} {i x : Nat} (h : d[i]? = some x) : digL (d.take (i + 1)) = digL (d.take i) ++ [hexd (x / 16), hexd (x % 16)] := by
  rw [List.take_add_one, h]
  unfold digL
  rw [List.flatMap_append]; rfl
theorem digL_b {d : List Nat} : ∀ y, y ∈ digL d → y < 256 := by
  intro y hy
  obtain ⟨x, _, hx⟩ := List.mem_flatMap.1 hy
  have key : ∀ a, hexd a < 256 := fun a => by
    unfold hexd
    rw [List.getD_eq_getElem?_getD]
    by_cases h : a < 16
    · match a, h with
      | 0, _ => decide
      | 1, _ => decide
      | 2, _ => decide
      | 3, _ => decide
      | 4, _ => decide
      | 5, _ => decide
      | 6, _ => decide
      | 7, _ => decide
      | 8, _ => decide
      | 9, _ => decide
      | 10, _ => decide
      | 11, _ => decide
      | 12, _ => decide
      | 13, _ => decide
      | 14, _ => decide
      | 15, _ => decide
      | a + 16, h => omega
    · rw [List.getElem?_eq_none (by show 16 ≤ a; omega)]; decide
  simp only [List.mem_cons, List.not_mem_nil, or_false] at hx
  rcases hx with rfl | rfl <;> exact key _
section
variable {d : List Nat} {n i x c : Nat} {S : ASt}
theorem lenT (hd : d.length < 1099511627776) (hi : i < d.length) : (digL (d.take i)).length = 2 * i := by
  rw [digL_len, List.length_take]; omega
theorem ldD {k : Nat} (hS : S.h.get 0 = some (R0 d)) (hk : d[k]? = some x) : aLoad EV 5 (.ptr (some (0, k))) S = some (.int .u8 (.ofNat x), S) :=
  load_at (cs := d.map cellU) (rw := false) ce5 hS (by rw [List.getElem?_map, hk]; rfl)
theorem ixD (hi : i < n) : still S (aIndexAddr EV 110 (.slice (some (0, 0)) n (.atl n)) (.int .i64 (.ofNat i))) = some (.ptr (some (0, i)), S) := by
  have := idx_at (E := EV) (t := 110) (i := 0) (o := 0) (n := n) (c := .atl n) (kd := .i64) sl110 hi
  rw [Nat.zero_add, Nat.mul_one] at this
  exact still_of this
theorem repL_rep : ∀ c, repL [cellU 0] c = List.replicate c (cellU 0)
  | 0 => rfl
  | c + 1 => by
    show [cellU 0] ++ repL [cellU 0] c = _
    rw [repL_rep c, List.replicate_succ]; rfl
theorem mulD (h : n < 100000) : still S (aBin EV .mul 3 (.const (.int .i64 2)) (.tmp 7) (.int .i64 (.ofNat 2)) (.int .i64 (.ofNat n))) = some (.int .i64 (.ofNat (2 * n)), S) := by
  have e : aBin EV .mul 3 (.const (.int .i64 2)) (.tmp 7) (.int .i64 (.ofNat 2)) (.int .i64 (.ofNat n)) = some (.int .i64 (wrapF .i64 (.ofNat (2 * n)))) := by kernel_rfl
  refine still_of ?_
  rw [e, wrap_nat (by omega)]
theorem makeD {R : AO} (h : c < 200000) : aMake EV 110 (.int .i64 (.ofNat 0)) (.int .i64 (.ofNat c)) (vcDp_s0 R) = some (.slice (some (1, 0)) 0 (.known c), vcDp_s1 R (.cells (List.replicate c (cellU 0)) true)) := by
  have e : aMake EV 110 (.int .i64 (.ofNat 0)) (.int .i64 (.ofNat c)) (vcDp_s0 R) = (bif Nat.ble (1 * c) 281474976710656 then bif Nat.ble 0 c then bif Nat.blt c 9223372036854775808 then some (.slice (some (1, 0)) 0 (.known c), vcDp_s1 R (.cells (repL [cellU 0] c) true)) else none else none else none) := by kernel_rfl
  rw [e, ble_t (by omega), ble_t (by omega), blt_t (by omega), repL_rep]; rfl
def QD (d : List Nat) (i : Nat) (q : Exit × AFr × ASt) : Prop := (i < d.length ∧ Stops 1 .normal (fr46 (2 * (i + 1)) (2 * d.length) d.length (i + 1)) (M2 (R0 d) (.cells (Wc d (i + 1)) true)) q) ∨ (i = d.length ∧ Stops 1 (.exit 0) (fr46 (2 * i) (2 * d.length) d.length i) (M2 (R0 d) (.cells (Wc d i) true)) q)
theorem roundD (hd : d.length < 50000) (hb : ∀ y, y ∈ d → y < 256) (hi : i ≤ d.length) : Trip Tryz.prog 1 none L46 (fr46 (2 * i) (2 * d.length) d.length i) (M2 (R0 d) (.cells (Wc d i) true))
    (QD d i) := by
  have fin : ∀ {x a b h1 h2 : Nat} {ys}, (tDr (2 * i) (2 * (i + 1)) (2 * d.length) d.length i x a b h1 h2 (R0 d) (.cells (Wc d i) true) (.cells (Wc d (i + 1)) true)).allY (fun r => QD d i (canR [3, 10, 11, 12] KO30 r)) ys → Trip Tryz.prog 1 none L46 (fr46 (2 * i) (2 * d.length) d.length i) (M2 (R0 d) (.cells (Wc d i) true)) (QD d i) := fun h =>
    (Trip.runY EVok noSum_ok h).mono fun q hq => hq.imp (fun h => ⟨h.1, h.2.can⟩) (fun h => ⟨h.1, h.2.can⟩)
  by_cases e : i < d.length
  · obtain ⟨x, hx⟩ : ∃ x, d[i]? = some x := ⟨_, List.getElem?_eq_getElem e⟩
    have hx2 : x < 256 := hb x (List.mem_of_getElem? hx)
    have hW : Wc d i = (digL (d.take i)).map cellU ++ ([cellU 0, cellU 0] ++ List.replicate (2 * (d.length - (i + 1))) (cellU 0)) := by
      unfold Wc
      rw [show 2 * (d.length - i) = 2 * (d.length - (i + 1)) + 1 + 1 by omega, List.replicate_succ, List.replicate_succ]; rfl
    have hW2 : Wc d (i + 1) = (digL (d.take i)).map cellU ++ ([cellU (hexd (x / 16)), cellU (hexd (x % 16))] ++ List.replicate (2 * (d.length - (i + 1))) (cellU 0)) := by
      unfold Wc
      rw [digL_take hx, List.map_append, List.append_assoc]; rfl
    refine fin (Eq.mp (vcDr (2 * i) (2 * (i + 1)) (2 * d.length) d.length i x (x / 16) (x % 16) (hexd (x / 16)) (hexd (x % 16)) (R0 d) (.cells (Wc d i) true) (.cells (Wc d (i + 1)) true) (QD d i)) (ifB_mk (fun _ => ⟨ixD e, ldD (by kernel_rfl) hx, shrH, ixH (by omega), andH hx2, ixH (by omega), ?_, trivial, .inl ⟨e, rfl, ?_⟩⟩) fun h => absurd e (of_decide_eq_false (by rw [← ltF_nn]; exact h))))
    · have := append_room_at (E := EV) (sT := 110) (xT := 110) (n := 2) (l := 2 * i) (i := 1) (c := 2 * d.length) (x := .slice (some (9, 0)) 2 (.known 2)) (st := vcDr_s2 (hexd (x / 16)) (hexd (x % 16)) (R0 d) (.cells (Wc d i) true)) (new := [cellU (hexd (x / 16)), cellU (hexd (x % 16))]) (A := (digL (d.take i)).map cellU) (B := [cellU 0, cellU 0]) (C := List.replicate (2 * (d.length - (i + 1))) (cellU 0)) ap110 rfl (by kernel_rfl) (by rw [← hW]; kernel_rfl) (by rw [List.length_map, lenT (by omega) e, Nat.mul_one]) rfl (by decide) (by omega)
      rw [← hW2] at this
      exact this.trans (by kernel_rfl)
    · rw [wrap_succ (by omega)]
      exact Wk.heldX (kb := 1) [0, 1] (by kernel_rfl) (by kernel_rfl) [3, 10, 11, 12] (by kernel_rfl) (.cons 0 _ rfl (by kernel_rfl) (.row (refU d)) <| .cons 1 _ rfl (by kernel_rfl) (.row (fun v hv => by
        rw [hW2] at hv
        rcases List.mem_append.1 hv with h | h
        · exact refU _ v h
        · rcases List.mem_append.1 h with h | h
          · simp only [List.mem_cons, List.not_mem_nil, or_false] at h
            rcases h with rfl | rfl <;> simp [refsV, cellU]
          · rw [(List.mem_replicate.1 h).2]; simp [refsV, cellU])) .nil)
  · have ek : i = d.length := by omega
    refine fin (Eq.mp (vcDr (2 * i) (2 * (i + 1)) (2 * d.length) d.length i 0 0 0 0 0 (R0 d) (.cells (Wc d i) true) (.cells (Wc d (i + 1)) true) (QD d i)) (ifB_mk (fun h => absurd (of_decide_eq_true (by rw [← ltF_nn]; exact h)) e) fun _ => .inr ⟨ek, rfl, Wk.refl _ _ _⟩))
theorem loopD (hd : d.length < 50000) (hb : ∀ y, y ∈ d → y < 256) : Trip Tryz.prog 1 none (.block 0 (.loop L46)) (fr46 0 (2 * d.length) d.length 0) (M2 (R0 d) (.cells (Wc d 0) true)) (Stops 1 .normal (fr46 (2 * d.length) (2 * d.length) d.length d.length) (M2 (R0 d) (.cells (Wc d d.length) true))) := by
  refine Trip.block (Trip.loop (fun μ fr st => ∃ i, i ≤ d.length ∧ μ = d.length - i ∧ fr = fr46 (2 * i) (2 * d.length) d.length i ∧ st = M2 (R0 d) (.cells (Wc d i) true)) ?_ d.length ⟨0, by omega, by omega, rfl, rfl⟩)
  rintro μ fr st ⟨i, hi, rfl, rfl, rfl⟩
  refine (roundD hd hb hi).mono ?_
  rintro ⟨e, fr', st'⟩ (⟨q1, g3, g4⟩ | ⟨q1, g3, g4⟩)
  · simp only at g3
    subst g3
    exact ⟨d.length - (i + 1), _, _, by omega, g4, i + 1, by omega, rfl, rfl, rfl⟩
  · simp only at g3
    subst g3
    subst q1
    exact ⟨fun _ => ⟨rfl, g4⟩, fun h => absurd rfl h⟩
theorem shape46 : dropC 1 c46 = .seq (.seq (seqL (seqL (dropC 1 c46))) (.block 0 (.loop L46))) (dropC 2 c46) := by kernel_rfl
theorem conv_row {k n : Nat} {cp : Cap} {l : List Nat} {rw : Bool} (h : S.h.get k = some (.cells (l.map cellU) rw)) (hn : n = l.length) (hb : ∀ y, y ∈ l → y < 256) : aConvert EV 110 9 (.slice (some (k, 0)) n cp) S = some (.str l, S) := by
  subst hn
  have e : aConvert EV 110 9 (.slice (some (k, 0)) l.length cp) S = (match S.h.get k with
      | some (.cells cs _) => match takeL cs 0 l.length with | some l => (match bytesL l with | some b => some (.str b, S) | none => none) | none => none
      | _ => none) := by kernel_rfl
  rw [e]
  simp only [h, takeU, bytesL_U l hb]
theorem Wc_end : Wc d d.length = (digL d).map cellU := by
  unfold Wc
  rw [List.take_length, Nat.sub_self, Nat.mul_zero, List.replicate_zero, List.append_nil]
theorem Wc_zero : Wc d 0 = List.replicate (2 * d.length) (cellU 0) := by
  unfold Wc
  rw [List.take_zero, Nat.sub_zero]; rfl
theorem dig_mem (hd : d.length < 50000) (hb : ∀ y, y ∈ d → y < 256) : AtMem Tryz.prog 46 [sB d.length] (M1 (R0 d)) (.str (digL d)) := by
  refine AtMem.of_trip EVok (fn := Tryz.f46) (by kernel_rfl) (c := c46) (by kernel_rfl) (by kernel_rfl) ?_
  refine Trip.preY EVok noSum_ok (k := 1) (kf := [0, 3]) (ko := KO30) (by kernel_rfl) (Q1 := fun q => q = (.normal, xFr [(0, sB d.length), (3, Vo 0 (2 * d.length))] 28, M2 (R0 d) (.cells (Wc d 0) true))) (Eq.mp (vcDp d.length (2 * d.length) (R0 d) (.cells (Wc d 0) true) (fun q => q = (.normal, xFr [(0, sB d.length), (3, Vo 0 (2 * d.length))] 28, M2 (R0 d) (.cells (Wc d 0) true)))) ⟨mulD (by omega), by rw [Wc_zero]; exact makeD (by omega), rfl⟩) ?_ (fun q h1 h2 => absurd (congrArg Prod.fst h2) h1)
  rintro F' S' hq
  cases hq
  rw [shape46]
  refine Trip.seq (R := Stops 1 .normal (fr46 (2 * d.length) (2 * d.length) d.length d.length) (M2 (R0 d) (.cells (Wc d d.length) true))) (Trip.seq (R := Stops 1 .normal (fr46 0 (2 * d.length) d.length 0) (M2 (R0 d) (.cells (Wc d 0) true)))
    ((Trip.runY EVok noSum_ok (Eq.mp (vcDi d.length (2 * d.length) (R0 d) (.cells (Wc d 0) true) (Stops 1 .normal (fr46 0 (2 * d.length) d.length 0) (M2 (R0 d) (.cells (Wc d 0) true)))) ⟨rfl, Wk.refl _ _ _⟩)).mono fun q hq => Stops.can hq) (fun fr' st' hq => Trip.less hq.2 (loopD hd hb)) (fun e fr' st' hne hq => absurd hq.1 hne)) (fun fr' st' hq => ?_) (fun e fr' st' hne hq => absurd hq.1 hne)
  refine Trip.less hq.2 ((Trip.runY EVok noSum_ok (Eq.mp (vcDz (2 * d.length) (2 * d.length) d.length d.length (digL d) (R0 d) (.cells (Wc d d.length) true) (fun q => q = (.ret, some (.str (digL d))))) ⟨conv_row (l := digL d) (rw := true) (by rw [← Wc_end]; kernel_rfl) (digL_len d).symm digL_b, rfl⟩)).mono fun q hq => ⟨.inr (congrArg Prod.fst hq), congrArg Prod.snd hq⟩)
end
end Go.Proofs.YtcboepooglaogaaGreatDoor.spt
end

section
open Go Go.Ax Go.Proofs
namespace Go.Proofs.YtcboepooglaogaaGreatDoor.spt
set_option linter.unusedVariables false
def Vx : Nat → AV
  | 0 => .slice none 0 (.known 0)
  | i + 1 => .slice (some (1, 0)) (2 * (i + 1)) (.rest 1)
def Ox (d : List Nat) : Nat → AO
  | 0 => .dead
  | i + 1 => .cells ((digL (d.take (i + 1))).map cellU) true
section
variable {d : List Nat} {n i x c : Nat} {S : ASt}
noncomputable abbrev SX (d : List Nat) (i : Nat) : ASt := M2 (R0 d) (Ox d i)
def QX (d : List Nat) (i : Nat) (q : Exit × AFr × ASt) : Prop := (i < d.length ∧ Stops 1 .normal (fr47 (Vx (i + 1)) d.length (i + 1)) (SX d (i + 1)) q) ∨ (i = d.length ∧ Stops 1 (.exit 0) (fr47 (Vx i) d.length i) (SX d i) q)
theorem heldXx {O2 : AO} {l2 : Nat} {ls : List (Nat × AO)} (hO : O2 = Ox d (i + 1)) (hS : S = mkSt ls 21) (h0 : S.h.get 0 = some (R0 d)) (h20 : S.h.get 20 = some O2) (hl2 : l2 = 2 * (i + 1)) :
    Wk 1 (xFr [(0, sB d.length), (3, .str hexs), (4, .slice (some (20, 0)) l2 (.rest 1)), (5, nI (i + 1))] 31) S (fr47 (Vx (i + 1)) d.length (i + 1)) (SX d (i + 1)) := by
  subst hO; subst hS; subst hl2
  exact Wk.heldX (kb := 1) [0, 20] (by kernel_rfl) (by kernel_rfl) [0, 3, 4, 5] (by kernel_rfl) (.cons 0 _ rfl h0 (.row (refU d)) <| .cons 20 _ rfl h20 (.row (refU _)) .nil)
theorem roundX (hd : d.length < 50000) (hb : ∀ y, y ∈ d → y < 256) (hi : i ≤ d.length) : Trip Tryz.prog 1 none L47 (fr47 (Vx i) d.length i) (SX d i) (QX d i) := by
  by_cases e : i < d.length
  · obtain ⟨x, hx⟩ : ∃ x, d[i]? = some x := ⟨_, List.getElem?_eq_getElem e⟩
    have hx2 : x < 256 := hb x (List.mem_of_getElem? hx)
    have hdt := digL_take hx
    have hno : ∀ {A : Prop}, ltF (.ofNat i) (.ofNat d.length) = false → A := fun h => absurd e (of_decide_eq_false (by rw [← ltF_nn]; exact h))
    match i, e, hx, hdt, @hno with
    | 0, e, hx, hdt, hno =>
      refine (Trip.runY EVok noSum_ok (Eq.mp (vcXn (2 * (0 + 1)) d.length 0 x (x / 16) (x % 16) (hexd (x / 16)) (hexd (x % 16)) (R0 d) (Ox d (0 + 1)) (QX d 0)) (ifB_mk (fun _ => ⟨ixD e, ldD (by kernel_rfl) hx, quoH hx2, ixH (by omega), ixD e, ldD (by kernel_rfl) hx, remH, ixH (by omega), ?_, trivial, .inl ⟨e, rfl, ?_⟩⟩) fun h => hno h))).mono fun q hq => hq.imp (fun h => ⟨h.1, h.2.can⟩) (fun h => ⟨h.1, h.2.can⟩)
      · have hO : Ox d (0 + 1) = .cells [cellU (hexd (x / 16)), cellU (hexd (x % 16))] true := by
          show AO.cells ((digL (d.take (0 + 1))).map cellU) true = _
          rw [hdt]; rfl
        rw [hO]
        exact (append_nil_at ap110 (n := 2) (new := [cellU (hexd (x / 16)), cellU (hexd (x % 16))]) rfl (by kernel_rfl) (by decide) (by decide) (by decide)).trans (by kernel_rfl)
      · rw [wrap_succ (by decide)]
        exact heldXx rfl rfl (by kernel_rfl) (by kernel_rfl) rfl
    | i + 1, e, hx, hdt, hno =>
      refine (Trip.runY EVok noSum_ok (Eq.mp (vcXr (2 * (i + 1)) (2 * (i + 1 + 1)) d.length (i + 1) x (x / 16) (x % 16) (hexd (x / 16)) (hexd (x % 16)) (R0 d) (Ox d (i + 1)) (Ox d (i + 1 + 1)) (QX d (i + 1))) (ifB_mk (fun _ => ⟨ixD e, ldD (by kernel_rfl) hx, quoH hx2, ixH (by omega), ixD e, ldD (by kernel_rfl) hx, remH, ixH (by omega), ?_, trivial, .inl ⟨e, rfl, ?_⟩⟩) fun h => hno h))).mono fun q hq => hq.imp (fun h => ⟨h.1, h.2.can⟩) (fun h => ⟨h.1, h.2.can⟩)
      · have hO : Ox d (i + 1 + 1) = .cells ((digL (d.take (i + 1))).map cellU ++ [cellU (hexd (x / 16)), cellU (hexd (x % 16))]) true := by
          show AO.cells ((digL (d.take (i + 1 + 1))).map cellU) true = _
          rw [hdt, List.map_append]; rfl
        rw [hO]
        exact (append_grow_at (l := 2 * (i + 1)) (i := 1) (cs := (digL (d.take (i + 1))).map cellU) ap110 (n := 2) (new := [cellU (hexd (x / 16)), cellU (hexd (x % 16))]) rfl (by kernel_rfl) (by kernel_rfl) (by rw [List.length_map, lenT (by omega) e, Nat.mul_one]) (by decide) (by decide) (by omega) (by omega)).trans (by kernel_rfl)
      · rw [wrap_succ (by omega)]
        exact heldXx rfl rfl (by kernel_rfl) (by kernel_rfl) rfl
  · have ek : i = d.length := by omega
    have hno : ∀ {A : Prop}, ltF (.ofNat i) (.ofNat d.length) = true → A := fun h => absurd (of_decide_eq_true (by rw [← ltF_nn]; exact h)) e
    match i, ek, @hno with
    | 0, ek, hno => exact (Trip.runY EVok noSum_ok (Eq.mp (vcXn 0 d.length 0 0 0 0 0 0 (R0 d) .dead (QX d 0)) (ifB_mk (fun h => hno h) fun _ => .inr ⟨ek, rfl, Wk.refl _ _ _⟩))).mono fun q hq => hq.imp (fun h => ⟨h.1, h.2.can⟩) (fun h => ⟨h.1, h.2.can⟩)
    | i + 1, ek, hno => exact (Trip.runY EVok noSum_ok (Eq.mp (vcXr (2 * (i + 1)) 0 d.length (i + 1) 0 0 0 0 0 (R0 d) (Ox d (i + 1)) .dead (QX d (i + 1))) (ifB_mk (fun h => hno h) fun _ => .inr ⟨ek, rfl, Wk.refl _ _ _⟩))).mono fun q hq => hq.imp (fun h => ⟨h.1, h.2.can⟩) (fun h => ⟨h.1, h.2.can⟩)
theorem loopX (hd : d.length < 50000) (hb : ∀ y, y ∈ d → y < 256) : Trip Tryz.prog 1 none (.block 0 (.loop L47)) (fr47 (Vx 0) d.length 0) (SX d 0) (Stops 1 .normal (fr47 (Vx d.length) d.length d.length) (SX d d.length)) := by
  refine Trip.block (Trip.loop (fun μ fr st => ∃ i, i ≤ d.length ∧ μ = d.length - i ∧ fr = fr47 (Vx i) d.length i ∧ st = SX d i) ?_ d.length ⟨0, by omega, by omega, rfl, rfl⟩)
  rintro μ fr st ⟨i, hi, rfl, rfl, rfl⟩
  refine (roundX hd hb hi).mono ?_
  rintro ⟨e, fr', st'⟩ (⟨q1, g3, g4⟩ | ⟨q1, g3, g4⟩)
  · simp only at g3
    subst g3
    exact ⟨d.length - (i + 1), _, _, by omega, g4, i + 1, by omega, rfl, rfl, rfl⟩
  · simp only at g3
    subst g3
    subst q1
    exact ⟨fun _ => ⟨rfl, g4⟩, fun h => absurd rfl h⟩
theorem shape47 : dropC 2 c47 = .seq (.seq (seqL (seqL (dropC 2 c47))) (.block 0 (.loop L47))) (dropC 3 c47) := by kernel_rfl
theorem conv_x : aConvert EV 110 9 (Vx d.length) (vcXz_s0 (R0 d) (Ox d d.length)) = some (.str (digL d), vcXz_s0 (R0 d) (Ox d d.length)) := by
  cases h : d.length with
  | zero =>
    have : d = [] := List.length_eq_zero_iff.1 h
    subst this
    show aConvert EV 110 9 (.slice none 0 (.known 0)) (vcXz_s0 (R0 []) .dead) = some (.str [], vcXz_s0 (R0 []) .dead)
    kernel_rfl
  | succ m =>
    have : Ox d (m + 1) = .cells ((digL d).map cellU) true := by
      show AO.cells ((digL (d.take (m + 1))).map cellU) true = _
      rw [← h, List.take_length]
    rw [this]
    exact conv_row (k := 1) (l := digL d) (rw := true) (by kernel_rfl) (by rw [digL_len, h]) digL_b
theorem digX_mem (hd : d.length < 50000) (hb : ∀ y, y ∈ d → y < 256) : AtMem Tryz.prog 47 [sB d.length] (M1 (R0 d)) (.str (digL d)) := by
  refine AtMem.of_trip EVok (fn := Tryz.f47) (by kernel_rfl) (c := c47) (by kernel_rfl) (by kernel_rfl) ?_
  refine Trip.preY EVok noSum_ok (k := 2) (kf := [0, 3, 4]) (ko := KO30) (by kernel_rfl) (Q1 := fun q => q = (.normal, xFr [(0, sB d.length), (3, .str hexs), (4, .slice none 0 (.known 0))] 31, vcXp_s0 (R0 d))) (Eq.mp (vcXp d.length (R0 d) (fun q => q = (.normal, xFr [(0, sB d.length), (3, .str hexs), (4, .slice none 0 (.known 0))] 31, vcXp_s0 (R0 d)))) rfl) ?_ (fun q h1 h2 => absurd (congrArg Prod.fst h2) h1)
  rintro F' S' hq
  cases hq
  have hs : StP [0, 9] (vcXp_s0 (R0 d)) [(0, R0 d), (1, .dead)] := .cons 0 _ rfl (by kernel_rfl) (.row (refU d)) (.dead (j := 1) (by decide) .nil)
  have hf : frE [0, 9] (xFr [(0, sB d.length), (3, .str hexs), (4, .slice none 0 (.known 0))] 31) [0, 3, 4] = some [(0, sB d.length), (3, .str hexs), (4, .slice none 0 (.known 0))] := by kernel_rfl
  refine Trip.less (Wk.heldX (kb := 1) [0, 9] (by kernel_rfl) (by kernel_rfl) [0, 3, 4] hf hs) ?_
  rw [shape47]
  refine Trip.seq (R := Stops 1 .normal (fr47 (Vx d.length) d.length d.length) (SX d d.length)) (Trip.seq (R := Stops 1 .normal (fr47 (Vx 0) d.length 0) (SX d 0))
    ((Trip.runY EVok noSum_ok (Eq.mp (vcXi d.length (R0 d) (Stops 1 .normal (fr47 (Vx 0) d.length 0) (SX d 0))) ⟨rfl, Wk.refl _ _ _⟩)).mono fun q hq => Stops.can hq) (fun fr' st' hq => Trip.less hq.2 (loopX hd hb)) (fun e fr' st' hne hq => absurd hq.1 hne)) (fun fr' st' hq => ?_) (fun e fr' st' hne hq => absurd hq.1 hne)
  refine Trip.less hq.2 ((Trip.runY EVok noSum_ok (Eq.mp (vcXz (Vx d.length) d.length d.length (digL d) (R0 d) (Ox d d.length) (fun q => q = (.ret, some (.str (digL d))))) ⟨conv_x, rfl⟩)).mono fun q hq => ⟨.inr (congrArg Prod.fst hq), congrArg Prod.snd hq⟩)
end
theorem dig_any {f : Nat} (hm : ∀ {d : List Nat}, d.length < 50000 → (∀ y, y ∈ d → y < 256) → AtMem Tryz.prog f [sB d.length] (M1 (R0 d)) (.str (digL d))) {S : ASt} {k : Nat} {c : Cap} {d : List Nat} {n : Nat} {rw : Bool} (hS : S.h.get k = some (.cells (d.map cellU) rw)) (h0 : 0 < n) (hn : n ≤ d.length) (hd : d.length < 50000) (hb : ∀ y, y ∈ d → y < 256) :
    Call1 Tryz.prog f [.slice (some (k, 0)) n c] S (.str (digL (d.take n)), S) := by
  have hl : (d.take n).length = n := by rw [List.length_take]; omega
  have hrun := hm (d := d.take n) (by omega) (fun y hy => hb y (List.mem_of_mem_take hy))
  rw [hl] at hrun
  refine Call1.read hrun (by simp [refsV]) (l := [(k, 0, (d.take n).map cellU)]) rfl (fun j x hj => ?_) (fun j q hq => ?_) (fun ι args' hv => ⟨hv.size, fun i v v' h h' => ?_⟩)
  · have hg : (M1 (R0 (d.take n))).h.get j = if j = 0 then some (R0 (d.take n)) else none := by
      show ((T.e : T AO).set D 0 _).get j = _
      rw [T.get_set, T.get_e]
    rw [hg] at hj
    by_cases e : j = 0
    · subst e
      simp only [if_true, Option.some.injEq] at hj
      exact ⟨_, rfl, hj.symm⟩
    · rw [if_neg e] at hj; cases hj
  · match j, hq with
    | 0, hq =>
      simp only [List.getElem?_cons_zero, Option.some.injEq] at hq
      subst hq
      refine ⟨fun e => ?_, refU _, _, _, hS, ?_⟩
      · have := congrArg List.length e
        rw [List.length_map, hl] at this
        simp at this; omega
      · show takeL (d.map cellU) 0 ((d.take n).map cellU).length = some ((d.take n).map cellU)
        rw [show d.map cellU = (d.take n).map cellU ++ (d.drop n).map cellU by rw [← List.map_append, List.take_append_drop]]
        unfold takeL
        rw [List.drop_zero, List.take_left' rfl]
        simp
    | j + 1, hq => simp at hq
  · match i, h with
    | 0, h =>
      simp only [List.getElem?_cons_zero, Option.some.injEq] at h
      subst h
      exact VR.rowR (q := (k, 0, (d.take n).map cellU)) rfl rfl rfl (hv.at_ 0 _ v' rfl h')
    | i + 1, h => simp at h
def trim (d : List Nat) : Nat → Nat
  | 0 => 0
  | n + 1 => if d.getD n 0 = 0 then trim d n else n + 1
theorem trim_le (d : List Nat) : ∀ n, trim d n ≤ n
  | 0 => Nat.le_refl _
  | n + 1 => by
    unfold trim
    split
    · have := trim_le d n; omega
    · omega
def blkT (d : List Nat) : List Nat := if trim d 256 = 0 then [45] else digL (d.take (trim d 256))
def DB (d : List Nat) : AO := .cells (d.map cellU) true
section
variable {d : List Nat} {n m x : Nat} {S : ASt}
theorem subB (h : n < 1000) : still S (aBin EV .sub 3 (.tmp 7) (.const (.int .i64 1)) (.int .i64 (.ofNat (n + 1))) (.int .i64 (.ofNat 1))) = some (.int .i64 (.ofNat n), S) := by
  have e : aBin EV .sub 3 (.tmp 7) (.const (.int .i64 1)) (.int .i64 (.ofNat (n + 1))) (.int .i64 (.ofNat 1)) = some (.int .i64 (wrapF .i64 (.ofNat (n + 1) - .ofNat 1))) := by kernel_rfl
  have e2 : (Int.ofNat (n + 1) - Int.ofNat 1) = Int.ofNat n := by
    show ((n + 1 : Nat) : Int) - 1 = (n : Int)
    omega
  refine still_of ?_
  rw [e, e2, wrap_nat (by omega)]
theorem subB' (h : n < 1000) : still S (aBin EV .sub 3 (.tmp 13) (.const (.int .i64 1)) (.int .i64 (.ofNat (n + 1))) (.int .i64 (.ofNat 1))) = some (.int .i64 (.ofNat n), S) := by
  have e : aBin EV .sub 3 (.tmp 13) (.const (.int .i64 1)) (.int .i64 (.ofNat (n + 1))) (.int .i64 (.ofNat 1)) = some (.int .i64 (wrapF .i64 (.ofNat (n + 1) - .ofNat 1))) := by kernel_rfl
  have e2 : (Int.ofNat (n + 1) - Int.ofNat 1) = Int.ofNat n := by
    show ((n + 1 : Nat) : Int) - 1 = (n : Int)
    omega
  refine still_of ?_
  rw [e, e2, wrap_nat (by omega)]
theorem ixB (h : n < 256) : still S (aIndexAddr EV 25 (.ptr (some (0, 0))) (.int .i64 (.ofNat n))) = some (.ptr (some (0, n)), S) := by
  have e : aIndexAddr EV 25 (.ptr (some (0, 0))) (.int .i64 (.ofNat n)) = bif Nat.blt n 256 then some (.ptr (some (0, 0 + n * 1))) else none := by kernel_rfl
  refine still_of ?_
  rw [e, blt_t h, Nat.zero_add, Nat.mul_one]; rfl
theorem ldB (hS : S.h.get 0 = some (DB d)) (hk : d[n]? = some x) : aLoad EV 5 (.ptr (some (0, n))) S = some (.int .u8 (.ofNat x), S) :=
  load_at (cs := d.map cellU) (rw := true) ce5 hS (by rw [List.getElem?_map, hk]; rfl)
theorem slB {n : Nat} (h : n ≤ 256) (h0 : 0 < n) : still S (aSlice EV 25 (.ptr (some (0, 0))) none (some (.int .i64 (.ofNat n))) none S) = some (.slice (some (0, 0)) n (.known 256), S) := by
  refine still_of ?_
  have e : aSlice EV 25 (.ptr (some (0, 0))) none (some (.int .i64 (.ofNat n))) none S = (match aBounds 256 256 none (some n) none with
    | some (l, h, m) => some (.slice (some (0, bif Nat.beq m l then 0 else 0 + l * 1)) (h - l) (.known (m - l)))
    | none => none) := by kernel_rfl
  rw [e]
  unfold aBounds
  simp only [ble_t h, cond_true]
  rfl
end
section
variable {d : List Nat} {n : Nat} {S : ASt}
def QB10 (d : List Nat) (n : Nat) (q : Exit × AFr × ASt) : Prop := (∃ m, n = m + 1 ∧ d.getD m 0 = 0 ∧ Stops 0 .normal (fr10 m) (M1 (DB d)) q) ∨ (n = trim d n ∧ Stops 0 (.exit 0) (fr10 n) (M1 (DB d)) q)
theorem roundB10 (hd : d.length = 256) (hn : n ≤ 256) : Trip Tryz.prog 0 none L10 (fr10 n) (M1 (DB d)) (QB10 d n) := by
  have fin : ∀ {m x : Nat} {ys}, (tBr10 n m x (DB d)).allY (fun r => QB10 d n (canR [1, 3] KO30 r)) ys → Trip Tryz.prog 0 none L10 (fr10 n) (M1 (DB d)) (QB10 d n) := fun h =>
    (Trip.runY EVok noSum_ok h).mono fun q hq => hq.imp (fun ⟨m, h1, h2, h3⟩ => ⟨m, h1, h2, h3.can⟩) (fun h => ⟨h.1, h.2.can⟩)
  match n, hn, @fin with
  | 0, hn, fin => exact fin (Eq.mp (vcBr10 0 0 0 (DB d) (QB10 d 0)) (ifB_mk (fun h => absurd (ltF_t h) (by decide)) fun _ => .inr ⟨rfl, rfl, Wk.refl _ _ _⟩))
  | n + 1, hn, fin =>
    have hx : d[n]? = some (d.getD n 0) := by rw [List.getD_eq_getElem?_getD, List.getElem?_eq_getElem (by omega)]; rfl
    refine fin (Eq.mp (vcBr10 (n + 1) n (d.getD n 0) (DB d) (QB10 d (n + 1))) (ifB_mk (fun _ => ⟨subB (by omega), ixB (by omega), ldB (by kernel_rfl) hx, ifB_mk (fun h => ⟨subB' (by omega), .inl ⟨n, rfl, Int.ofNat.inj (eqF_t h), rfl, Wk.refl _ _ _⟩⟩) fun h => .inr ⟨?_, rfl, Wk.refl _ _ _⟩⟩) fun h => absurd (ltF_f h) (by show ¬ ((n + 1 : Nat) : Int) ≤ (0 : Int); omega)))
    have : ¬ d.getD n 0 = 0 := fun e => eqF_f h (by rw [e])
    unfold trim
    rw [if_neg this]
theorem loopB10 (hd : d.length = 256) : Trip Tryz.prog 0 none (.block 0 (.loop L10)) (fr10 256) (M1 (DB d)) (Stops 0 .normal (fr10 (trim d 256)) (M1 (DB d))) := by
  refine Trip.block (Trip.loop (fun μ fr st => ∃ n, n ≤ 256 ∧ μ = n ∧ trim d n = trim d 256 ∧ fr = fr10 n ∧ st = M1 (DB d)) ?_ 256 ⟨256, Nat.le_refl _, rfl, rfl, rfl, rfl⟩)
  rintro μ fr st ⟨n, hn, rfl, hI, rfl, rfl⟩
  refine (roundB10 hd hn).mono ?_
  rintro ⟨e, fr', st'⟩ (⟨m, q1, q2, g3, g4⟩ | ⟨q1, g3, g4⟩)
  · simp only at g3
    subst g3
    subst q1
    refine ⟨m, _, _, by omega, g4, m, by omega, rfl, ?_, rfl, rfl⟩
    rw [← hI]
    conv => rhs; unfold trim
    rw [if_pos q2]
  · simp only at g3
    subst g3
    rw [← hI, ← q1]
    exact ⟨fun _ => ⟨rfl, g4⟩, fun h => absurd rfl h⟩
theorem shape10 : dropC 1 c10 = .seq (.block 0 (.loop L10)) (dropC 2 c10) := by kernel_rfl
theorem blk10_mem (hd : d.length = 256) (hb : ∀ y, y ∈ d → y < 256) : AtMem Tryz.prog 10 [.agg (d.map cellU)] M0 (.str (blkT d)) := by
  refine AtMem.of_trip EVok (fn := Tryz.f10) (by kernel_rfl) (c := c10) (by kernel_rfl) (by kernel_rfl) ?_
  refine Trip.preY EVok noSum_ok (k := 1) (kf := [1, 3]) (ko := KO30) (by kernel_rfl) (Q1 := fun q => q = (.normal, fr10 256, M1 (DB d))) (Eq.mp (vcBp10 (d.map cellU) (fun q => q = (.normal, fr10 256, M1 (DB d)))) rfl) ?_ (fun q h1 h2 => absurd (congrArg Prod.fst h2) h1)
  rintro F' S' hq
  cases hq
  rw [shape10]
  refine Trip.seq (loopB10 hd) (fun fr' st' hq => ?_) (fun e fr' st' hne hq => absurd hq.1 hne)
  have hle := trim_le d 256
  refine Trip.less hq.2 ?_
  by_cases hz : trim d 256 = 0
  · refine (Trip.runY EVok (sum := onlyC [46] (tabC [])) (onlyC_ok (tabC_ok fun w he => by cases he)) (Eq.mp (vcBe10 (tabC []) (trim d 256) [] (DB d) (fun q => q = (.ret, some (.str (blkT d))))) (ifB_mk (fun _ => by unfold blkT; rw [if_pos hz]) fun h => absurd (eqF_f h) (by rw [hz]; exact fun h => h rfl)))).mono fun q hq => ⟨.inr (congrArg Prod.fst hq), congrArg Prod.snd hq⟩
  · have hc : Call1 Tryz.prog 46 [.slice (some (0, 0)) (trim d 256) (.known 256)] (vcBe10_s0 (DB d)) (.str (blkT d), vcBe10_s0 (DB d)) := by
      unfold blkT
      rw [if_neg hz]
      exact dig_any (fun h1 h2 => dig_mem h1 h2) (rw := true) (by kernel_rfl) (by omega) (by omega) (by omega) hb
    refine (Trip.runY EVok (sum := onlyC [46] (tabC [_])) (onlyC_ok (tabC_ok fun e he => by
      simp only [List.mem_cons, List.not_mem_nil, or_false] at he
      subst he
      exact hc)) (Eq.mp (vcBe10 (tabC [_]) (trim d 256) (blkT d) (DB d) (fun q => q = (.ret, some (.str (blkT d))))) (ifB_mk (fun h => absurd (Int.ofNat.inj (eqF_t h)) hz) fun _ => ⟨slB (by omega) (by omega), call_at (onlyC_at rfl (tabC_hd ..)), rfl⟩))).mono fun q hq => ⟨.inr (congrArg Prod.fst hq), congrArg Prod.snd hq⟩
theorem blk10_at (hd : d.length = 256) (hb : ∀ y, y ∈ d → y < 256) : Call1 Tryz.prog 10 [.agg (d.map cellU)] S (.str (blkT d), S) :=
  Call1.pure (blk10_mem hd hb) (by simp [refsV]) fun a ha => by
    simp only [List.mem_cons, List.not_mem_nil, or_false] at ha
    subst ha
    simp only [refsV]
    exact refU d
end
section
variable {d : List Nat} {n : Nat} {S : ASt}
def QB11 (d : List Nat) (n : Nat) (q : Exit × AFr × ASt) : Prop := (∃ m, n = m + 1 ∧ d.getD m 0 = 0 ∧ Stops 0 .normal (fr10 m) (M1 (DB d)) q) ∨ (n = trim d n ∧ Stops 0 (.exit 0) (fr10 n) (M1 (DB d)) q)
theorem roundB11 (hd : d.length = 256) (hn : n ≤ 256) : Trip Tryz.prog 0 none L11 (fr10 n) (M1 (DB d)) (QB11 d n) := by
  have fin : ∀ {m x : Nat} {ys}, (tBr11 n m x (DB d)).allY (fun r => QB11 d n (canR [1, 3] KO30 r)) ys → Trip Tryz.prog 0 none L11 (fr10 n) (M1 (DB d)) (QB11 d n) := fun h =>
    (Trip.runY EVok noSum_ok h).mono fun q hq => hq.imp (fun ⟨m, h1, h2, h3⟩ => ⟨m, h1, h2, h3.can⟩) (fun h => ⟨h.1, h.2.can⟩)
  match n, hn, @fin with
  | 0, hn, fin => exact fin (Eq.mp (vcBr11 0 0 0 (DB d) (QB11 d 0)) (ifB_mk (fun h => absurd (ltF_t h) (by decide)) fun _ => .inr ⟨rfl, rfl, Wk.refl _ _ _⟩))
  | n + 1, hn, fin =>
    have hx : d[n]? = some (d.getD n 0) := by rw [List.getD_eq_getElem?_getD, List.getElem?_eq_getElem (by omega)]; rfl
    refine fin (Eq.mp (vcBr11 (n + 1) n (d.getD n 0) (DB d) (QB11 d (n + 1))) (ifB_mk (fun _ => ⟨subB (by omega), ixB (by omega), ldB (by kernel_rfl) hx, ifB_mk (fun h => ⟨subB' (by omega), .inl ⟨n, rfl, Int.ofNat.inj (eqF_t h), rfl, Wk.refl _ _ _⟩⟩) fun h => .inr ⟨?_, rfl, Wk.refl _ _ _⟩⟩) fun h => absurd (ltF_f h) (by show ¬ ((n + 1 : Nat) : Int) ≤ (0 : Int); omega)))
    have : ¬ d.getD n 0 = 0 := fun e => eqF_f h (by rw [e])
    unfold trim
    rw [if_neg this]
theorem loopB11 (hd : d.length = 256) : Trip Tryz.prog 0 none (.block 0 (.loop L11)) (fr10 256) (M1 (DB d)) (Stops 0 .normal (fr10 (trim d 256)) (M1 (DB d))) := by
  refine Trip.block (Trip.loop (fun μ fr st => ∃ n, n ≤ 256 ∧ μ = n ∧ trim d n = trim d 256 ∧ fr = fr10 n ∧ st = M1 (DB d)) ?_ 256 ⟨256, Nat.le_refl _, rfl, rfl, rfl, rfl⟩)
  rintro μ fr st ⟨n, hn, rfl, hI, rfl, rfl⟩
  refine (roundB11 hd hn).mono ?_
  rintro ⟨e, fr', st'⟩ (⟨m, q1, q2, g3, g4⟩ | ⟨q1, g3, g4⟩)
  · simp only at g3
    subst g3
    subst q1
    refine ⟨m, _, _, by omega, g4, m, by omega, rfl, ?_, rfl, rfl⟩
    rw [← hI]
    conv => rhs; unfold trim
    rw [if_pos q2]
  · simp only at g3
    subst g3
    rw [← hI, ← q1]
    exact ⟨fun _ => ⟨rfl, g4⟩, fun h => absurd rfl h⟩
theorem shape11 : dropC 1 c11 = .seq (.block 0 (.loop L11)) (dropC 2 c11) := by kernel_rfl
theorem blk11_mem (hd : d.length = 256) (hb : ∀ y, y ∈ d → y < 256) : AtMem Tryz.prog 11 [.agg (d.map cellU)] M0 (.str (blkT d)) := by
  refine AtMem.of_trip EVok (fn := Tryz.f11) (by kernel_rfl) (c := c11) (by kernel_rfl) (by kernel_rfl) ?_
  refine Trip.preY EVok noSum_ok (k := 1) (kf := [1, 3]) (ko := KO30) (by kernel_rfl) (Q1 := fun q => q = (.normal, fr10 256, M1 (DB d))) (Eq.mp (vcBp11 (d.map cellU) (fun q => q = (.normal, fr10 256, M1 (DB d)))) rfl) ?_ (fun q h1 h2 => absurd (congrArg Prod.fst h2) h1)
  rintro F' S' hq
  cases hq
  rw [shape11]
  refine Trip.seq (loopB11 hd) (fun fr' st' hq => ?_) (fun e fr' st' hne hq => absurd hq.1 hne)
  have hle := trim_le d 256
  refine Trip.less hq.2 ?_
  by_cases hz : trim d 256 = 0
  · refine (Trip.runY EVok (sum := onlyC [47] (tabC [])) (onlyC_ok (tabC_ok fun w he => by cases he)) (Eq.mp (vcBe11 (tabC []) (trim d 256) [] (DB d) (fun q => q = (.ret, some (.str (blkT d))))) (ifB_mk (fun _ => by unfold blkT; rw [if_pos hz]) fun h => absurd (eqF_f h) (by rw [hz]; exact fun h => h rfl)))).mono fun q hq => ⟨.inr (congrArg Prod.fst hq), congrArg Prod.snd hq⟩
  · have hc : Call1 Tryz.prog 47 [.slice (some (0, 0)) (trim d 256) (.known 256)] (vcBe11_s0 (DB d)) (.str (blkT d), vcBe11_s0 (DB d)) := by
      unfold blkT
      rw [if_neg hz]
      exact dig_any (fun h1 h2 => digX_mem h1 h2) (rw := true) (by kernel_rfl) (by omega) (by omega) (by omega) hb
    refine (Trip.runY EVok (sum := onlyC [47] (tabC [_])) (onlyC_ok (tabC_ok fun e he => by
      simp only [List.mem_cons, List.not_mem_nil, or_false] at he
      subst he
      exact hc)) (Eq.mp (vcBe11 (tabC [_]) (trim d 256) (blkT d) (DB d) (fun q => q = (.ret, some (.str (blkT d))))) (ifB_mk (fun h => absurd (Int.ofNat.inj (eqF_t h)) hz) fun _ => ⟨slB (by omega) (by omega), call_at (onlyC_at rfl (tabC_hd ..)), rfl⟩))).mono fun q hq => ⟨.inr (congrArg Prod.fst hq), congrArg Prod.snd hq⟩
theorem blk11_at (hd : d.length = 256) (hb : ∀ y, y ∈ d → y < 256) : Call1 Tryz.prog 11 [.agg (d.map cellU)] S (.str (blkT d), S) :=
  Call1.pure (blk11_mem hd hb) (by simp [refsV]) fun a ha => by
    simp only [List.mem_cons, List.not_mem_nil, or_false] at ha
    subst ha
    simp only [refsV]
    exact refU d
end
end Go.Proofs.YtcboepooglaogaaGreatDoor.spt
end
