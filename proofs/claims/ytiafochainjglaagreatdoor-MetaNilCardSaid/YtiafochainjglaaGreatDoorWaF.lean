/-
  OWN WORK, A PART: an abstract machine for the program's text that the kernel can run, and the proof that it is sound: what it answers is what the program answers; contracts of functions by it. No condition.
-/
import Derived.Test.YtiafochainjglaaGreatDoorWaE
section
namespace Go.Ax
noncomputable section
open Go.RowKit
def bytesZ : List AV → Option (List Int)
  | [] => some []
  | v :: vs =>
    match v with
    | .int k n =>
      match k with
      | .u8 => match bytesZ vs with | some l => some (n :: l) | none => none
      | _ => none
    | _ => none
theorem bytesZ_eq : ∀ {l : List AV} {bs : List Int}, bytesZ l = some bs → l = bs.map fun b => AV.int .u8 b
  | [], bs, h => by simp [bytesZ] at h; subst h; rfl
  | v :: vs, bs, h => by
    unfold bytesZ at h
    split at h
    · split at h
      · split at h
        · rename_i l hl
          simp only [Option.some.injEq] at h; subst h
          rw [bytesZ_eq hl]; rfl
        · simp at h
      · simp at h
    · simp at h
theorem bytesZ_map : ∀ (bs : List Int), bytesZ (bs.map fun b => AV.int .u8 b) = some bs
  | [] => rfl
  | b :: bs => by simp [bytesZ, bytesZ_map bs]
def stZ (bs : List Int) : ASt := { h := T.set D .e 0 (.cells (bs.map fun b => AV.int .u8 b) false), next := 1 }
def AtRow (P : Program) (f : Nat) (pre : List AV) (bs : List Int) (v : AV) : Prop :=
  ∀ (B : Prot) w0 ι w args', (∀ i, ¬ B.rs i) → SR B w0 ι (stZ bs) w → VRs ι (pre ++ [.slice (some (0, 0)) bs.length (.atl bs.length)]) args' →
    (callFunc f args').run P w = .ok (.enter f args') w ∧ CallsIn Fence.wide 0 P f args' w fun e w' => ∃ r, r.1 = v ∧ Post B w0 ι r e w'
theorem AtRow.of_run {P : Program} {E : Env} (hE : E.Ok P) {sum : CallT} (hs : CallsOK P sum) {n f : Nat} {pre : List AV} {bs : List Int} {v : AV}
    (hrun : ans ((M E (drawA E) sum n).call f (pre ++ [.slice (some (0, 0)) bs.length (.atl bs.length)]) (stZ bs)) = some v) : AtRow P f pre bs v := fun B w0 ι w args' _ h1 h2 => by
  obtain ⟨st2, hq⟩ := ans_some hrun
  obtain ⟨k1, k2⟩ := (M_ok hE (drawA_ok hE) hs n).call B w0 f _ _ _ hq ι w args' h1 h2
  exact ⟨k1, k2.mono fun e w' hp => ⟨_, rfl, hp⟩⟩
theorem local_row {P : Program} {f : Nat} {pre : List AV} {bs : List Int} {v : AV} (hz : bs.length ≠ 0) (hp : pre.all pureV = true) (hv : pureV v = true) (hrun : AtRow P f pre bs v)
    {B : Prot} {w0 : World} {ι : Ren} {st : ASt} {w : World} (hsr : SR B w0 ι st w) {i o : Nat} {cap : Cap} {cs : List AV} {rw : Bool} (hi : st.h.get i = some (.cells cs rw))
    (hcs : takeL cs o bs.length = some (bs.map fun b => AV.int .u8 b)) {args' : Array Value} (hargs : VRs ι (pre ++ [.slice (some (i, o)) bs.length cap]) args') :
    (callFunc f args').run P w = .ok (.enter f args') w ∧ CallsIn Fence.wide 0 P f args' w (Post B w0 ι (v, st)) := by
  have hlast := hargs.get (i := pre.length) (v := .slice (some (i, o)) bs.length cap) (by simp)
  obtain ⟨y, hy, hyv⟩ := hlast
  cases hyv with
  | slice _ _ _ c' L _ hL hcap hle =>
    obtain ⟨L', ob, h1, h2, c, e, lo, hi', h3, h4, h5, h6, h7, h8⟩ := hsr.obj i _ hi (by simp)
    rw [hL] at h1; cases h1
    rw [h3] at h2
    obtain ⟨t1, t2⟩ := takeL_ok hcs
    have hlt : L.b < w.heap.size := (Array.getElem?_eq_some_iff.1 h2).1
    have hlen : bs.length ≠ 0 → o + bs.length ≤ cs.length := fun hne => by
      have := t2 (bs.length - 1) (by omega)
      rw [List.getElem?_eq_getElem (by simp; omega)] at this
      have := (List.getElem?_eq_some_iff.1 this.symm).1
      omega
    let ι1 : Ren := fun j => if j = 0 then some ⟨L.b, L.p + o, L.tot⟩ else none
    let B1 : Prot := ⟨fun k => k = L.b, fun k => k < w.heap.size, fun _ => False⟩
    have hg : ∀ j, (stZ bs).h.get j = if j = 0 then some (.cells (bs.map fun b => AV.int .u8 b) false) else none := fun j => by
      show (T.set D .e 0 _).get j = _
      rw [T.get_set, T.get_e]
    have hob : ∀ (k : Nat) v v', (bs.map fun b => AV.int .u8 b)[k]? = some v → c[L.p + o + k]? = some v' → VR ι1 v v' := fun k v v' hk hk' => by
      have hkl : k < bs.length := by have := (List.getElem?_eq_some_iff.1 hk).1; simpa using this
      have hk2 := hk
      rw [t2 k hkl] at hk2
      have := h7 (o + k) v v' hk2 (by rw [← hk']; congr 1; omega)
      simp only [List.getElem?_map] at hk
      cases hb : bs[k]? with
      | none => rw [hb] at hk; simp at hk
      | some b => rw [hb] at hk; simp at hk; subst hk; cases this; exact .int _ _
    have hsr1 : SR B1 w ι1 (stZ bs) w := by
      refine ⟨Keeps.refl _ _, ?_, ?_, ?_, ?_, ?_, ?_, fun i hi => hi.elim, fun g cs hg => ⟨.inr (hsr.globw g cs hg).lt, hsr.globw g cs hg⟩⟩
      · rintro k (hk | hk)
        · exact hk ▸ hlt
        · exact hk
      · intro j a hj hd
        rw [hg] at hj
        by_cases e : j = 0
        · subst e
          simp only [if_true, Option.some.injEq] at hj; subst hj
          refine ⟨⟨L.b, L.p + o, L.tot⟩, .cells c e (lo, hi'), rfl, h2, c, e, lo, hi', rfl, h4, ?_, ?_, hob, fun h => by cases h⟩
          · have := hlen hz; simp; omega
          · intro x hx; simp at hx; obtain ⟨b, _, rfl⟩ := hx; rfl
        · simp [e] at hj
      · intro j a L' hj ho hL'
        rw [hg] at hj
        by_cases e : j = 0
        · simp only [e, if_true, Option.some.injEq] at hj; subst hj; cases ho
        · simp [e] at hj
      · intro j L' hj
        simp only [ι1] at hj
        by_cases e : j = 0
        · subst e; show 0 < 1; omega
        · simp [e] at hj
      · intro j a hj
        rw [hg] at hj
        by_cases e : j = 0
        · subst e; show 0 < 1; omega
        · simp [e] at hj
      · intro j a L' hj hd ho hL'
        simp only [ι1] at hL'
        by_cases e : j = 0
        · simp only [e, if_true, Option.some.injEq] at hL'; subst hL'; rfl
        · simp [e] at hL'
    have hv1 : VRs ι1 (pre ++ [.slice (some (0, 0)) bs.length (.atl bs.length)]) args' := by
      refine ⟨by have := hargs.size; simpa using this, fun j x x' hx hx' => ?_⟩
      by_cases hj : j < pre.length
      · rw [List.getElem?_append_left hj] at hx
        exact pureV_VR (List.all_eq_true.1 hp x (List.mem_of_getElem? hx)) (hargs.at_ j x x' (by rw [List.getElem?_append_left hj]; exact hx) hx')
      · have hj2 : j = pre.length := by have := (List.getElem?_eq_some_iff.1 hx).1; simp at this; omega
        subst hj2
        simp at hx; subst hx
        rw [hy] at hx'; cases hx'
        have := VR.slice (ι := ι1) 0 0 bs.length c' ⟨L.b, L.p + o, L.tot⟩ (.atl bs.length) rfl hle hle
        simpa using this
    obtain ⟨k1, k2⟩ := hrun B1 w ι1 w args' (fun _ h => h) hsr1 hv1
    refine ⟨k1, k2.mono ?_⟩
    rintro e w' ⟨r, rfl, x, ι', rfl, _, h9, h10⟩
    exact ⟨x, ι, rfl, ι.le_refl, hsr.later ⟨h9.below.os, h9.below.tape, h9.below.output, h9.below.size, fun k hk => h9.below.block k (.inr hk)⟩, pureV_VR hv h10⟩
def wordZ (a b c d : Int) : Int := orI (shlF .u32 (orI (shlF .u32 (orI (shlF .u32 (orI (shlF .u32 0 8) (wrapF .u32 a)) 8) (wrapF .u32 b)) 8) (wrapF .u32 c)) 8) (wrapF .u32 d)
def wordsZ : List Int → List Int → List Int
  | a :: b :: c :: d :: l, acc => wordsZ l (wordZ a b c d :: acc)
  | _, acc => acc
def pressZ (s : S8) (bs : List Int) : S8 :=
  match rnds shaK (extW 48 (wordsZ bs [])).reverse s with
  | ⟨a, b, c, d, e, f, g, h⟩ => ⟨addI a s.a, addI b s.b, addI c s.c, addI d s.d, addI e s.e, addI f s.f, addI g s.g, addI h s.h⟩
def sumPressZ (fp : Nat) : CallT := fun fn args st =>
  bif Nat.beq fp fn then
    match args with
    | [k, .agg [.int .u32 a, .int .u32 b, .int .u32 c, .int .u32 d, .int .u32 e, .int .u32 f, .int .u32 g, .int .u32 h], .slice (some (i, o)) len _] =>
      bif Nat.beq len 64 then
        bif avEq k shaKv then
          match st.h.get i with
          | some (.cells cs _) =>
            match takeL cs o 64 with
            | some l =>
              match bytesZ l with
              | some bs => some ((pressZ ⟨a, b, c, d, e, f, g, h⟩ bs).av, st)
              | none => none
            | none => none
          | _ => none
        else none
      else none
    | _ => none
  else none
theorem list_of_range (bs : List Int) : bs = (List.range bs.length).map fun j => bs.getD j 0 := by
  apply List.ext_getElem?
  intro j
  by_cases hj : j < bs.length
  · simp [hj]
  · simp [hj]
theorem sumPressZ_ok {P : Program} {E : Env} (hE : E.Ok P) {sum : CallT} (hs : CallsOK P sum) {n fp : Nat}
    (hrun : ∀ (s : S8) (b : Nat → Int), ans ((M E (drawA E) sum n).call fp [shaKv, s.av, .slice (some (0, 0)) 64 (.atl 64)] (stZ ((List.range 64).map b))) = some (pressZ s ((List.range 64).map b)).av) :
    CallsOK P (sumPressZ fp) := by
  intro B w0 fn args st r h ι w args' hsr hv
  unfold sumPressZ at h
  cases hf : Nat.beq fp fn
  · simp [hf] at h
  simp only [hf, cond_true] at h
  have := nbeq hf
  subst this
  split at h
  rotate_left
  · simp at h
  rename_i k a b c d e f g hh i o len cap
  cases hl : Nat.beq len 64
  · simp [hl] at h
  simp only [hl, cond_true] at h
  have := nbeq hl
  subst this
  cases hk : avEq k shaKv
  · simp [hk] at h
  simp only [hk, cond_true] at h
  have := avEq_eq _ _ hk
  subst this
  split at h
  rotate_left
  · simp at h
  rename_i cs rw hi
  split at h
  rotate_left
  · simp at h
  rename_i l hl
  split at h
  rotate_left
  · simp at h
  rename_i bs hbs
  simp only [Option.some.injEq] at h
  have hll := (takeL_ok hl).1
  have hb := bytesZ_eq hbs
  have hlen : bs.length = 64 := by rw [hb] at hll; simpa using hll
  have hbl := list_of_range bs
  rw [hlen] at hbl
  have hr := hrun ⟨a, b, c, d, e, f, g, hh⟩ fun j => bs.getD j 0
  rw [← hbl] at hr
  have := local_row (pre := [shaKv, S8.av ⟨a, b, c, d, e, f, g, hh⟩]) (bs := bs) (v := (pressZ ⟨a, b, c, d, e, f, g, hh⟩ bs).av) (f := fp) (by omega)
    (by simp only [List.all_cons, List.all_nil, shaKv_pure, S8.pure, Bool.and_self]) (S8.pure _) (.of_run hE hs (n := n) (by rw [hlen]; exact hr)) hsr hi (by rw [hlen, hl, hb]) (args' := args') (cap := cap) (by rw [hlen]; exact hv)
  rw [← h]
  exact this
def lenZ (n : Int) (i : Nat) : Int := wrapF .u8 (shrF (wrapF .u64 (wrapF .u64 n * 8)) (56 - 8 * i))
def tailL (r : Nat) (t : Nat → Int) (n : Int) : List Int := (List.range r).map t ++ (128 :: (List.replicate ((119 - r) % 64) 0 ++ (List.range 8).map (lenZ n)))
def tailZ (r : Nat) (t : Nat → Int) (n : Int) (s : S8) : S8 :=
  bif Nat.blt r 56 then pressZ s (tailL r t n) else pressZ (pressZ s ((tailL r t n).take 64)) ((tailL r t n).drop 64)
def headZ (b : Nat → Int) : Nat → S8
  | 0 => shaS0
  | q + 1 => pressZ (headZ b q) ((List.range 64).map fun i => b (64 * q + i))
def sumZ (n : Nat) (b : Nat → Int) : S8 := tailZ (n % 64) (fun i => b (64 * (n / 64) + i)) (.ofNat n) (headZ b (n / 64))
end
end Go.Ax
end

section
namespace Go.Ax
noncomputable section
open Go.RowKit
def it (f : AFr → ASt → Option (Exit × AFr × ASt)) : Nat → AFr → ASt → Option (Exit × AFr × ASt)
  | 0, fr, st => some (.normal, fr, st)
  | k + 1, fr, st =>
    match f fr st with
    | some (.normal, fr', st') => it f k fr' st'
    | r => r
theorem it_add (f : AFr → ASt → Option (Exit × AFr × ASt)) : ∀ (a b : Nat) (fr : AFr) (st : ASt), it f (a + b) fr st = match it f a fr st with | some (.normal, fr', st') => it f b fr' st' | r => r
  | 0, b, fr, st => by simp [it]
  | a + 1, b, fr, st => by
    have e : a + 1 + b = (a + b) + 1 := by omega
    rw [e]
    simp only [it]
    cases h : f fr st with
    | none => rfl
    | some r =>
      obtain ⟨e, fr', st'⟩ := r
      cases e <;> first | exact it_add f a b fr' st' | rfl
theorem loopN_it (f : AFr → ASt → Option (Exit × AFr × ASt)) : ∀ (d : Nat) (fr : AFr) (st : ASt), loopN f d fr st = it f (2 ^ d) fr st
  | 0, fr, st => by
    simp only [loopN, Nat.pow_zero, it]
    cases h : f fr st with
    | none => rfl
    | some r => obtain ⟨e, fr', st'⟩ := r; cases e <;> rfl
  | d + 1, fr, st => by
    have e : 2 ^ (d + 1) = 2 ^ d + 2 ^ d := by rw [Nat.pow_succ]; omega
    rw [e, it_add]
    simp only [loopN, loopN_it f d]
    cases h : it f (2 ^ d) fr st with
    | none => rfl
    | some r =>
      obtain ⟨e, fr', st'⟩ := r
      cases e <;> rfl
def Comes (f : AFr → ASt → Option (Exit × AFr × ASt)) (n : Nat) (fr : AFr) (st : ASt) (r : Exit × AFr × ASt) : Prop := ∃ k, k ≤ n ∧ it f k fr st = some r
theorem comes_last {f : AFr → ASt → Option (Exit × AFr × ASt)} {n : Nat} {fr : AFr} {st : ASt} {r : Exit × AFr × ASt} (h : it f n fr st = some r) : Comes f n fr st r := ⟨n, Nat.le_refl _, h⟩
theorem comes_step {f : AFr → ASt → Option (Exit × AFr × ASt)} {a b : Nat} {fr fr' : AFr} {st st' : ASt} {r : Exit × AFr × ASt} (h : it f a fr st = some (.normal, fr', st')) (h' : Comes f b fr' st' r) : Comes f (a + b) fr st r := by
  obtain ⟨k, hk, hr⟩ := h'
  exact ⟨a + k, by omega, by rw [it_add, h]; exact hr⟩
theorem comes_loop {f : AFr → ASt → Option (Exit × AFr × ASt)} {n : Nat} {fr : AFr} {st : ASt} {r : Exit × AFr × ASt} (h : Comes f n fr st r) (hn : n ≤ 2 ^ 24) (hr : r.1 ≠ .normal) : loopN f 24 fr st = some r := by
  obtain ⟨k, hk, hit⟩ := h
  rw [loopN_it, show 2 ^ 24 = k + (2 ^ 24 - k) by omega, it_add, hit]
  obtain ⟨e, fr', st'⟩ := r
  cases e <;> first | exact absurd rfl hr | rfl
def seqL : Code → Code
  | .seq a _ => a
  | c => c
def seqR : Code → Code
  | .seq _ b => b
  | c => c
def blkB : Code → Code
  | .block _ b => b
  | c => c
def lopB : Code → Code
  | .loop b => b
  | c => c
section
variable {E : Env} {draw : DrawT} {sum : CallT} {n : Nat} {ro : Option Nat} {fr fr1 : AFr} {st st1 : ASt} {r : Exit × AFr × ASt}
theorem ex_seq {a b : Code} (h : (M E draw sum n).ex ro a fr st = some (.normal, fr1, st1)) (h' : (M E draw sum n).ex ro b fr1 st1 = some r) : (M E draw sum (n + 1)).ex ro (.seq a b) fr st = some r := by
  show execF E draw (M E draw sum n).ex (M E draw sum n).call (M E draw sum n).round ro (.seq a b) fr st = _
  rw [execF_seq, h]; exact h'
theorem ex_loop {b : Code} {k : Nat} (hl : leftHas b = none) (h : Comes ((M E draw sum n).ex ro b) k fr st r) (hk : k ≤ 2 ^ 24) (hr : r.1 ≠ .normal) : (M E draw sum (n + 1)).ex ro (.loop b) fr st = some r := by
  show (match leftHas b with | some _ => (match loopM E (M E draw sum n).call (M E draw sum n).round (M E draw sum n).ex ro b 1000 fr st with | some (.normal, _, _) => none | r => r) | none => (match loopN ((M E draw sum n).ex ro b) 24 fr st with | some (.normal, _, _) => none | r => r)) = _
  rw [hl]
  simp only
  rw [comes_loop h hk hr]
  obtain ⟨e, fr', st'⟩ := r
  cases e <;> first | exact absurd rfl hr | rfl
theorem ex_block {b : Code} {id : Nat} (h : (M E draw sum n).ex ro b fr st = some (.exit id, fr1, st1)) : (M E draw sum (n + 1)).ex ro (.block id b) fr st = some (.normal, fr1, st1) := by
  show execF E draw (M E draw sum n).ex (M E draw sum n).call (M E draw sum n).round ro (.block id b) fr st = _
  rw [execF_block, h]
  simp
theorem call_of {f : Nat} {fn : Func} {c : Code} {args : List AV} {v : AV} {st2 : ASt} (hs : sum f args st = none) (h1 : E.fn.get f = some fn) (h2 : fn.body = some c) (h3 : Nat.ble args.length fn.ntmps = true)
    (h4 : (M E draw sum n).ex none c { m := putArgs args 0 .e, n := fn.ntmps, defs := [] } st = some (.ret, fr1, st1)) (h5 : leaveA E fn fr1 st1 = some (v, st2)) :
    (M E draw sum (n + 1)).call f args st = some (v, st2) := by
  show (match sum f args st with | some r => some r | none => callF E (M E draw sum n).ex f args st) = _
  rw [hs]
  simp only [callF, h1, h2, h3, cond_true, h4, h5]
end
def mkFr (l : List (Nat × AV)) (n : Nat) (ds : List Nat) : AFr := { m := l.foldl (fun t p => t.set 11 p.1 p.2) .e, n := n, defs := ds }
def mkSt (l : List (Nat × AO)) (n : Nat) : ASt := { h := l.foldl (fun t p => t.set D p.1 p.2) .e, next := n }
end
end Go.Ax
end

section
namespace Go.Ax
noncomputable section
open Go.RowKit
theorem foldl_get {α : Type} (d : Nat) : ∀ (l : List (Nat × α)) (t : T α) (k : Nat) (v : α), (l.foldl (fun t p => t.set d p.1 p.2) t).get k = some v → (∃ p, p ∈ l ∧ p.1 = k ∧ p.2 = v) ∨ t.get k = some v
  | [], t, k, v, h => .inr h
  | p :: l, t, k, v, h => by
    rcases foldl_get d l _ k v h with ⟨q, h1, h2⟩ | h
    · exact .inl ⟨q, List.mem_cons_of_mem _ h1, h2⟩
    · rw [T.get_set] at h
      by_cases e : k = p.1
      · simp only [e, if_true, Option.some.injEq] at h
        exact .inl ⟨p, List.mem_cons_self, e.symm, h⟩
      · simp only [e, if_false] at h; exact .inr h
def zFr (n : Nat) (l : List (Nat × AV)) : AFr := canF (l.map (·.1)) (mkFr l n [])
theorem zFr_refs {k n : Nat} {l : List (Nat × AV)} (h : ∀ p, p ∈ l → refsV k p.2) (t : Nat) : refsV k (((zFr n l).m.get t).getD undefA) := by
  unfold zFr
  rw [canF_get]
  by_cases ht : t < n
  · have : t < (mkFr l n []).n := ht
    simp only [this, if_true]
    cases memN t (l.map (·.1))
    · simp only [cond_false, refsV]
    · simp only [cond_true]
      cases hg : (mkFr l n []).m.get t with
      | none => simp [undefA, refsV]
      | some v =>
        rcases foldl_get 11 l .e t v hg with ⟨p, h1, h2, h3⟩ | h1
        · subst h3; exact h p h1
        · rw [T.get_e] at h1; cases h1
  · have : ¬ t < (mkFr l n []).n := ht
    simp only [this, if_false, undefA, refsV]
    simp
theorem shrinks_of {kb k n nx : Nat} {l : List (Nat × AV)} {s : List (Nat × AO)} (hk : kb ≤ k) (hl : ∀ p, p ∈ l → refsV k p.2) (hs : ∀ p, p ∈ s → p.1 < k ∧ refsO k p.2) : Shrinks kb k (zFr n l) (mkSt s nx) :=
  ⟨hk, rfl, zFr_refs hl, fun i a hi => by
    rcases foldl_get D s .e i a hi with ⟨p, h1, h2, h3⟩ | h1
    · subst h3; subst h2; exact hs p h1
    · rw [T.get_e] at h1; cases h1⟩
theorem refs_map {α : Type} {k : Nat} {f : α → AV} {l : List α} (h : ∀ x, refsV k (f x)) : ∀ c, c ∈ l.map f → refsV k c := fun c hc => by
  obtain ⟨x, _, rfl⟩ := List.mem_map.1 hc; exact h x
theorem wrap_nat {n : Nat} (h : n < 9223372036854775808) : wrapF .i64 (.ofNat n) = .ofNat n := by
  rw [wrapF_eq]; exact wrap64_small h
theorem ltF_nat (a b : Nat) : ltF (.ofNat a) (.ofNat b) = decide (a < b) := by rw [ltF_eq]; congr 1; apply propext; exact Int.ofNat_lt
theorem bounds_full {n a b : Nat} (hab : a ≤ b) (hb : b ≤ n) : aBounds n n (some a) (some b) none = some (a, b, n) := by
  have h1 : Nat.ble b n = true := by rw [Nat.ble_eq]; exact hb
  have h2 : Nat.ble a b = true := by rw [Nat.ble_eq]; exact hab
  simp only [aBounds, h1, h2, cond_true]
theorem bounds_from {n a : Nat} (h : a ≤ n) : aBounds n n (some a) none none = some (a, n, n) := by
  have h2 : Nat.ble a n = true := by rw [Nat.ble_eq]; exact h
  simp only [aBounds, h2, cond_true]
theorem takeL_range {n a k : Nat} (f : Nat → AV) (h : a + k ≤ n) : takeL ((List.range n).map f) a k = some ((List.range k).map fun i => f (a + i)) := by
  have e : (((List.range n).map f).drop a).take k = (List.range k).map fun i => f (a + i) := by
    apply List.ext_getElem?
    intro j
    by_cases hj : j < k
    · simp [hj, show a + j < n by omega]
    · simp [hj]; omega
  unfold takeL
  simp only [e]
  have : Nat.beq ((List.range k).map fun i => f (a + i)).length k = true := by simp
  simp only [this, cond_true]
end
end Go.Ax
end

section
namespace Go.Ax
noncomputable section
open Go.RowKit
def idxN : List Nat → Nat → Nat → Option Nat
  | [], _, _ => none
  | x :: xs, i, k => bif Nat.beq x i then some k else idxN xs i (k + 1)
theorem idxN_ok : ∀ {xs : List Nat} {i k j : Nat}, idxN xs i k = some j → k ≤ j ∧ xs[j - k]? = some i
  | [], i, k, j, h => by simp [idxN] at h
  | x :: xs, i, k, j, h => by
    unfold idxN at h
    cases hb : Nat.beq x i
    · rw [hb, cond_false] at h
      obtain ⟨h1, h2⟩ := idxN_ok h
      refine ⟨by omega, ?_⟩
      rw [show j - k = (j - (k + 1)) + 1 by omega]
      simpa using h2
    · rw [hb, cond_true] at h
      simp only [Option.some.injEq] at h
      subst h
      have := nbeq hb
      subst this
      exact ⟨by omega, by simp⟩
def renR (ids : List Nat) (ι : Ren) : Ren := fun j => match ids[j]? with | some i => ι i | none => none
theorem renR_of {ids : List Nat} {ι : Ren} {i j : Nat} {L : Loc} (h : idxN ids i 0 = some j) (hi : ι i = some L) : renR ids ι j = some L := by
  obtain ⟨_, h2⟩ := idxN_ok h
  simp only [Nat.sub_zero] at h2
  simp only [renR, h2, hi]
mutual
def renV (ids : List Nat) : AV → Option AV
  | .ptr (some (i, o)) => match idxN ids i 0 with | some j => some (.ptr (some (j, o))) | none => none
  | .slice (some (i, o)) l c => match idxN ids i 0 with | some j => some (.slice (some (j, o)) l c) | none => none
  | .clos f cs => match renVs ids cs with | some l => some (.clos f l) | none => none
  | .bound _ _ _ => none
  | .yield i => match idxN ids i 0 with | some j => some (.yield j) | none => none
  | .iface t v => match renV ids v with | some v' => some (.iface t v') | none => none
  | .agg cs => match renVs ids cs with | some l => some (.agg l) | none => none
  | .tuple cs => match renVs ids cs with | some l => some (.tuple l) | none => none
  | .map (some i) => match idxN ids i 0 with | some j => some (.map (some j)) | none => none
  | v => some v
def renVs (ids : List Nat) : List AV → Option (List AV)
  | [] => some []
  | v :: vs =>
    match renV ids v with
    | some v' => match renVs ids vs with | some l => some (v' :: l) | none => none
    | none => none
end
theorem renVs_get {ids : List Nat} : ∀ {l l' : List AV}, renVs ids l = some l' → l'.length = l.length ∧ ∀ (i : Nat) v', l'[i]? = some v' → ∃ v, l[i]? = some v ∧ renV ids v = some v'
  | [], l', h => by
    simp only [renVs, Option.some.injEq] at h; subst h
    exact ⟨rfl, fun i v' h => by simp at h⟩
  | x :: xs, l', h => by
    simp only [renVs] at h
    split at h
    · rename_i x' hx
      split at h
      · rename_i l hl
        simp only [Option.some.injEq] at h; subst h
        obtain ⟨h1, h2⟩ := renVs_get hl
        refine ⟨by simp [h1], fun i v' hv => ?_⟩
        cases i with
        | zero => simp at hv; subst hv; exact ⟨x, rfl, hx⟩
        | succ i => simp at hv; obtain ⟨v, h3, h4⟩ := h2 i v' hv; exact ⟨v, by simpa using h3, h4⟩
      · simp at h
    · simp at h
theorem renV_cell {ids : List Nat} {v v' : AV} (h : renV ids v = some v') (hc : v.isCell = true) : v'.isCell = true := by
  cases v with
  | ptr a => cases a with
    | none => simp only [renV, Option.some.injEq] at h; subst h; rfl
    | some p => obtain ⟨i, o⟩ := p; simp only [renV] at h; split at h <;> first | (simp only [Option.some.injEq] at h; subst h; rfl) | simp at h
  | slice a l c => cases a with
    | none => simp only [renV, Option.some.injEq] at h; subst h; rfl
    | some p => obtain ⟨i, o⟩ := p; simp only [renV] at h; split at h <;> first | (simp only [Option.some.injEq] at h; subst h; rfl) | simp at h
  | map a => cases a with
    | none => simp only [renV, Option.some.injEq] at h; subst h; rfl
    | some p => simp only [renV] at h; split at h <;> first | (simp only [Option.some.injEq] at h; subst h; rfl) | simp at h
  | yield i => simp only [renV] at h; split at h <;> first | (simp only [Option.some.injEq] at h; subst h; rfl) | simp at h
  | clos f cs => simp only [renV] at h; split at h <;> first | (simp only [Option.some.injEq] at h; subst h; rfl) | simp at h
  | iface t x => simp only [renV] at h; split at h <;> first | (simp only [Option.some.injEq] at h; subst h; rfl) | simp at h
  | agg cs => cases hc
  | tuple cs => cases hc
  | any => cases hc
  | bound _ _ _ => simp [renV] at h
  | _ => simp only [renV, Option.some.injEq] at h; subst h; rfl
theorem VR.ren {ids : List Nat} {ι : Ren} {v : AV} {x : Value} (h : VR ι v x) : ∀ v', renV ids v = some v' → VR (renR ids ι) v' x := by
  induction h with
  | bool b => intro v' h; simp only [renV, Option.some.injEq] at h; subst h; exact .bool b
  | int k n => intro v' h; simp only [renV, Option.some.injEq] at h; subst h; exact .int k n
  | str l s hl => intro v' h; simp only [renV, Option.some.injEq] at h; subst h; exact .str l s hl
  | ptrN => intro v' h; simp only [renV, Option.some.injEq] at h; subst h; exact .ptrN
  | ptr i o L hi =>
    intro v' h
    simp only [renV] at h
    split at h
    · rename_i j hj; simp only [Option.some.injEq] at h; subst h; exact .ptr j o L (renR_of hj hi)
    · simp at h
  | sliceN => intro v' h; simp only [renV, Option.some.injEq] at h; subst h; exact .sliceN
  | slice i o l c' L c hi hc hl =>
    intro v' h
    simp only [renV] at h
    split at h
    · rename_i j hj; simp only [Option.some.injEq] at h; subst h; exact .slice j o l c' L c (renR_of hj hi) hc hl
    · simp at h
  | clos f cs cs' hs h ih =>
    intro v' h
    simp only [renV] at h
    split at h
    · rename_i l hl
      simp only [Option.some.injEq] at h; subst h
      obtain ⟨h1, h2⟩ := renVs_get hl
      exact .clos f l cs' (h1.trans hs) fun i y y' hy hy' => by obtain ⟨z, h3, h4⟩ := h2 i y hy; exact ih i z y' h3 hy' y h4
    · simp at h
  | bound f fs cs fs' cs' hs hf h g ih ig => intro v' h; simp [renV] at h
  | yield i L hi =>
    intro v' h
    simp only [renV] at h
    split at h
    · rename_i j hj; simp only [Option.some.injEq] at h; subst h; exact .yield j L (renR_of hj hi)
    · simp at h
  | nilFunc => intro v' h; simp only [renV, Option.some.injEq] at h; subst h; exact .nilFunc
  | iface t v w h ih =>
    intro v' h
    simp only [renV] at h
    split at h
    · rename_i u hu; simp only [Option.some.injEq] at h; subst h; exact .iface t u w (ih u hu)
    · simp at h
  | nilIface => intro v' h; simp only [renV, Option.some.injEq] at h; subst h; exact .nilIface
  | agg cs cs' hs hcell h ih =>
    intro v' h
    simp only [renV] at h
    split at h
    · rename_i l hl
      simp only [Option.some.injEq] at h; subst h
      obtain ⟨h1, h2⟩ := renVs_get hl
      refine .agg l cs' (h1.trans hs) (fun y hy => ?_) fun i y y' hy hy' => by obtain ⟨z, h3, h4⟩ := h2 i y hy; exact ih i z y' h3 hy' y h4
      obtain ⟨i, hi, e⟩ := List.getElem_of_mem hy
      obtain ⟨z, h3, h4⟩ := h2 i y (by simp [hi, e])
      exact renV_cell h4 (hcell z (List.mem_of_getElem? h3))
    · simp at h
  | tuple cs cs' hs h ih =>
    intro v' h
    simp only [renV] at h
    split at h
    · rename_i l hl
      simp only [Option.some.injEq] at h; subst h
      obtain ⟨h1, h2⟩ := renVs_get hl
      exact .tuple l cs' (h1.trans hs) fun i y y' hy hy' => by obtain ⟨z, h3, h4⟩ := h2 i y hy; exact ih i z y' h3 hy' y h4
    · simp at h
  | mapN => intro v' h; simp only [renV, Option.some.injEq] at h; subst h; exact .mapN
  | map i L hi =>
    intro v' h
    simp only [renV] at h
    split at h
    · rename_i j hj; simp only [Option.some.injEq] at h; subst h; exact .map j L (renR_of hj hi)
    · simp at h
  | slice0 a c => intro v' h; simp only [renV, Option.some.injEq] at h; subst h; exact .slice0 a c
  | gptr g o => intro v' h; simp only [renV, Option.some.injEq] at h; subst h; exact .gptr g o
  | any v => intro v' h; simp only [renV, Option.some.injEq] at h; subst h; exact .any v
def renE (ids : List Nat) : List (AV × AV × Nat) → Option (List (AV × AV × Nat))
  | [] => some []
  | (k, v, b) :: es =>
    match renV ids k with
    | some k' => match renV ids v with
      | some v' => match renE ids es with | some l => some ((k', v', b) :: l) | none => none
      | none => none
    | none => none
theorem renE_get {ids : List Nat} : ∀ {l l' : List (AV × AV × Nat)}, renE ids l = some l' → l'.length = l.length ∧ ∀ (i : Nat) y, l'[i]? = some y → ∃ x, l[i]? = some x ∧ renV ids x.1 = some y.1 ∧ renV ids x.2.1 = some y.2.1 ∧ x.2.2 = y.2.2
  | [], l', h => by
    simp only [renE, Option.some.injEq] at h; subst h
    exact ⟨rfl, fun i v' h => by simp at h⟩
  | (k, v, b) :: xs, l', h => by
    simp only [renE] at h
    split at h
    · rename_i k' hk
      split at h
      · rename_i v' hv
        split at h
        · rename_i l hl
          simp only [Option.some.injEq] at h; subst h
          obtain ⟨h1, h2⟩ := renE_get hl
          refine ⟨by simp [h1], fun i y hy => ?_⟩
          cases i with
          | zero => simp at hy; subst hy; exact ⟨_, rfl, hk, hv, rfl⟩
          | succ i => simp at hy; obtain ⟨x, h3, h4⟩ := h2 i y hy; exact ⟨x, by simpa using h3, h4⟩
        · simp at h
      · simp at h
    · simp at h
def allR (ids : List Nat) : List AV → Bool
  | [] => true
  | v :: vs => bif (match renV ids v with | some _ => true | none => false) then allR ids vs else false
def renT (ids : List Nat) (v : AV) : AV := match renV ids v with | some v' => v' | none => .tuple []
def mapR (ids : List Nat) : List AV → List AV
  | [] => []
  | v :: vs => renT ids v :: mapR ids vs
theorem allR_eq {ids : List Nat} : ∀ {l : List AV}, allR ids l = true → renVs ids l = some (mapR ids l)
  | [], _ => rfl
  | v :: vs, h => by
    unfold allR at h
    cases hv : renV ids v with
    | none => rw [hv] at h; cases h
    | some v' =>
      rw [hv] at h
      simp only [cond_true] at h
      simp only [renVs, hv, allR_eq h, mapR, renT]
def renO (ids : List Nat) : AO → Option AO
  | .cells cs rw => bif allR ids cs then some (.cells (mapR ids cs) rw) else none
  | .map es c => match renE ids es with | some l => some (.map l c) | none => none
  | _ => none
theorem OR.ren {ids : List Nat} {ι : Ren} {L : Loc} {a a' : AO} {o : Obj} (h : OR ι L a o) (hr : renO ids a = some a') : OR (renR ids ι) L a' o ∧ a'.own = a.own ∧ a ≠ .dead := by
  cases a with
  | cells cs rw =>
    simp only [renO] at hr
    cases ha : allR ids cs with
    | true =>
      rw [ha, cond_true] at hr
      have hl := allR_eq ha
      simp only [Option.some.injEq] at hr; subst hr
      obtain ⟨h1, h2⟩ := renVs_get hl
      obtain ⟨c, e, lo, hi, q1, q2, q3, q4, q5, q6⟩ := h
      refine ⟨⟨c, e, lo, hi, q1, q2, by rw [h1]; exact q3, fun v hv => ?_, fun k v v' hv hv' => ?_, q6⟩, rfl, by simp⟩
      · obtain ⟨i, hi, e⟩ := List.getElem_of_mem hv
        obtain ⟨z, h3, h4⟩ := h2 i v (by simp [hi, e])
        exact renV_cell h4 (q4 z (List.mem_of_getElem? h3))
      · obtain ⟨z, h3, h4⟩ := h2 k v hv
        exact (q5 k z v' h3 hv').ren v h4
    | false => rw [ha] at hr; cases hr
  | map es c =>
    simp only [renO] at hr
    split at hr
    · rename_i l hl
      simp only [Option.some.injEq] at hr; subst hr
      obtain ⟨h1, h2⟩ := renE_get hl
      obtain ⟨es', q1, q2, q3⟩ := h
      refine ⟨⟨es', q1, h1.trans q2, fun i x e hx he => ?_⟩, rfl, by simp⟩
      obtain ⟨z, h3, h4, h5, h6⟩ := h2 i x hx
      obtain ⟨k1, k2, k3⟩ := q3 i z e h3 he
      exact ⟨k1.ren _ h4, k2.ren _ h5, h6 ▸ k3⟩
    · simp at hr
  | _ => simp [renO] at hr
def gcL (ids : List Nat) (h : T AO) : List Nat → Nat → T AO → T AO
  | [], _, t => t
  | i :: is, k, t => match h.get i with | some a => (match renO ids a with | some a' => gcL ids h is (k + 1) (t.set D k a') | none => gcL ids h is (k + 1) t) | none => gcL ids h is (k + 1) t
def gcS (ids : List Nat) (st : ASt) : ASt := { h := gcL ids st.h ids 0 .e, next := ids.length }
def gcF (kf ids : List Nat) (fr : AFr) : AFr := { m := (List.range fr.n).foldl (fun t k => t.set 11 k (bif memN k kf then (match renV ids ((fr.m.get k).getD undefA) with | some v => v | none => .any) else .any)) .e, n := fr.n, defs := [] }
theorem gcL_get {ids : List Nat} {h : T AO} : ∀ (is : List Nat) (k : Nat) (t : T AO), (∀ j a, t.get j = some a → ∃ i x, ids[j]? = some i ∧ h.get i = some x ∧ renO ids x = some a) → (∀ j i, is[j]? = some i → ids[k + j]? = some i) →
    ∀ j a, (gcL ids h is k t).get j = some a → ∃ i x, ids[j]? = some i ∧ h.get i = some x ∧ renO ids x = some a
  | [], k, t, ht, _, j, a, hj => ht j a hj
  | i :: is, k, t, ht, hk, j, a, hj => by
    have hk' : ∀ j i, is[j]? = some i → ids[k + 1 + j]? = some i := fun j i' h => by have := hk (j + 1) i' (by simpa using h); rw [← this]; congr 1; omega
    unfold gcL at hj
    split at hj
    · rename_i x hx
      split at hj
      · rename_i a' ha
        refine gcL_get is (k + 1) _ (fun j b hb => ?_) hk' j a hj
        rw [T.get_set] at hb
        by_cases e : j = k
        · subst e; simp at hb; subst hb
          exact ⟨i, x, by have := hk 0 i (by simp); simpa using this, hx, ha⟩
        · simp only [e, if_false] at hb; exact ht j b hb
      · exact gcL_get is (k + 1) _ ht hk' j a hj
    · exact gcL_get is (k + 1) _ ht hk' j a hj
def noDup : List Nat → Bool
  | [] => true
  | x :: xs => bif memN x xs then false else noDup xs
theorem noDup_ok : ∀ {xs : List Nat}, noDup xs = true → ∀ {i j : Nat} {x : Nat}, xs[i]? = some x → xs[j]? = some x → i = j
  | [], _, i, j, x, h, _ => by simp at h
  | y :: ys, hn, i, j, x, hi, hj => by
    unfold noDup at hn
    cases hm : memN y ys
    · rw [hm, cond_false] at hn
      have hne : ∀ k, ys[k]? ≠ some y := fun k hk => by
        have : y ∈ ys := List.mem_of_getElem? hk
        rw [memN_ok] at hm
        simp [this] at hm
      cases i with
      | zero =>
        cases j with
        | zero => rfl
        | succ j => simp at hi hj; subst hi; exact absurd hj (hne j)
      | succ i =>
        cases j with
        | zero => simp at hi hj; subst hj; exact absurd hi (hne i)
        | succ j => simp at hi hj; rw [noDup_ok hn hi hj]
    · rw [hm] at hn; cases hn
theorem Wk.gc (kf ids : List Nat) (hn : noDup ids = true) (fr : AFr) (st : ASt) (hd : fr.defs = []) : Wk 0 fr st (gcF kf ids fr) (gcS ids st) := fun B w0 κ hb ι w a hk h1 h2 => by
  have hget : ∀ {j a}, (gcS ids st).h.get j = some a → ∃ i x, ids[j]? = some i ∧ st.h.get i = some x ∧ renO ids x = some a := fun {j a} hj =>
    gcL_get ids 0 .e (fun j a h => by rw [T.get_e] at h; cases h) (fun j i h => by simpa using h) j a hj
  have hren : ∀ {j L}, renR ids ι j = some L → ∃ i, ids[j]? = some i ∧ ι i = some L := fun {j L} h => by
    unfold renR at h
    cases hi : ids[j]? with
    | none => rw [hi] at h; cases h
    | some i => rw [hi] at h; exact ⟨i, rfl, h⟩
  refine ⟨renR ids ι, fun i L hi => absurd (hb.dom i L hi) (Nat.not_lt_zero _), ?_, ⟨⟨h2.hf.1, fun t => ?_⟩, ?_⟩⟩
  · refine ⟨h1.below, h1.base, fun j a hj hd => ?_, fun j a L hj ho hL => ?_, fun j L hL => ?_, fun j a hj => ?_, fun j a L hj hd ho hL => ?_, fun i hi => absurd hi (hb.rs i), h1.glob⟩
    · obtain ⟨i, x, g1, g2, g3⟩ := hget hj
      have hx : x ≠ .dead := by intro e; subst e; simp [renO] at g3
      obtain ⟨L, o, k1, k2, k3⟩ := h1.obj i x g2 hx
      exact ⟨L, o, by simp only [renR, g1, k1], k2, (k3.ren g3).1⟩
    · obtain ⟨i, x, g1, g2, g3⟩ := hget hj
      obtain ⟨i', g1', hL'⟩ := hren hL
      rw [g1] at g1'; cases g1'
      have hx : x ≠ .dead := by intro e; subst e; simp [renO] at g3
      obtain ⟨L0, o, k1, k2, k3⟩ := h1.obj i x g2 hx
      rw [hL'] at k1; cases k1
      have hox : x.own = true := by rw [← (k3.ren g3).2.1]; exact ho
      obtain ⟨m1, m2⟩ := h1.own i x L g2 hox hL'
      refine ⟨m1, fun j' a' L' hj' hd' hL'' hbb => ?_⟩
      obtain ⟨i2, x2, p1, p2, p3⟩ := hget hj'
      obtain ⟨i2', p1', hL2⟩ := hren hL''
      rw [p1] at p1'; cases p1'
      have hx2 : x2 ≠ .dead := by intro e; subst e; simp [renO] at p3
      have := m2 i2 x2 L' p2 hx2 hL2 hbb
      subst this
      exact noDup_ok hn p1 g1
    · obtain ⟨i, g1, _⟩ := hren hL
      exact (List.getElem?_eq_some_iff.1 g1).1
    · obtain ⟨i, x, g1, _⟩ := hget hj
      exact (List.getElem?_eq_some_iff.1 g1).1
    · obtain ⟨i, x, g1, g2, g3⟩ := hget hj
      obtain ⟨i', g1', hL'⟩ := hren hL
      rw [g1] at g1'; cases g1'
      have hx : x ≠ .dead := by intro e; subst e; simp [renO] at g3
      obtain ⟨L0, o, k1, k2, k3⟩ := h1.obj i x g2 hx
      exact h1.ro i x L g2 hx (by rw [← (k3.ren g3).2.1]; exact ho) hL'
  · have key : ∀ (n : Nat) (g : Nat → AV), (((List.range n).foldl (fun t k => t.set 11 k (g k)) (.e : T AV)).get t) = if t < n then some (g t) else none := by
      intro n g
      induction n with
      | zero => simp [T.get_e]
      | succ n ih =>
        rw [List.range_succ, List.foldl_append]
        simp only [List.foldl_cons, List.foldl_nil, T.get_set, ih]
        by_cases h : t = n
        · subst h; simp
        · have : (t < n + 1) = (t < n) := by apply propext; omega
          simp only [h, if_false, this]
    show VR _ (((gcF kf ids fr).m.get t).getD undefA) _
    unfold gcF
    simp only [key fr.n]
    by_cases ht : t < fr.n
    · simp only [ht, if_true, Option.getD_some]
      cases memN t kf
      · exact .any _
      · simp only [cond_true]
        cases hr : renV ids ((fr.m.get t).getD undefA) with
        | none => exact .any _
        | some v => exact (h2.hf.2 t).ren v hr
    · simp only [ht, if_false, Option.getD_none]
      have : a.tmps.getD t undef = undef := by
        have := h2.hf.1
        simp [Array.getD]; omega
      rw [this]; exact .undef _
  · have := h2.hd; rw [hd] at this
    revert this; cases a.defers <;> exact id
def eqRow : List AV → List AV → Bool
  | [], [] => true
  | a :: as, b :: bs => bif avEq a b then eqRow as bs else false
  | _, _ => false
theorem eqRow_eq : ∀ {a b : List AV}, eqRow a b = true → a = b
  | [], [], _ => rfl
  | a :: as, b :: bs, h => by
    unfold eqRow at h
    cases hb : avEq a b
    · rw [hb] at h; cases h
    · rw [hb, cond_true] at h
      rw [avEq_eq _ _ hb, eqRow_eq h]
  | [], _ :: _, h => by cases h
  | _ :: _, [], h => by cases h
def aoB (a b : AO) : Bool :=
  match a with
  | .cells cs rw => match b with | .cells ds rw' => bif boolEq rw rw' then eqRow cs ds else false | _ => false
  | a => aoEq a b
theorem aoB_eq {a b : AO} (h : aoB a b = true) : a = b := by
  cases a with
  | cells cs rw =>
    cases b with
    | cells ds rw' =>
      simp only [aoB] at h
      cases hb : boolEq rw rw'
      · rw [hb] at h; cases h
      · rw [hb, cond_true] at h
        rw [boolEq_eq hb, eqRow_eq h]
    | _ => cases h
  | _ => exact aoEq_eq h
def lkp : Nat → List (Nat × AV) → AV
  | _, [] => .any
  | k, x :: xs => bif Nat.beq x.1 k then x.2 else lkp k xs
def xFr (l : List (Nat × AV)) (n : Nat) : AFr := { m := (List.range n).foldl (fun t k => t.set 11 k (lkp k l)) .e, n := n, defs := [] }
theorem xFr_get (l : List (Nat × AV)) (n t : Nat) : ((xFr l n).m.get t).getD undefA = if t < n then lkp t l else undefA := by
  have key : ∀ (n : Nat) (g : Nat → AV), (((List.range n).foldl (fun t k => t.set 11 k (g k)) (.e : T AV)).get t) = if t < n then some (g t) else none := by
    intro n g
    induction n with
    | zero => simp [T.get_e]
    | succ n ih =>
      rw [List.range_succ, List.foldl_append]
      simp only [List.foldl_cons, List.foldl_nil, T.get_set, ih]
      by_cases h : t = n
      · subst h; simp
      · have : (t < n + 1) = (t < n) := by apply propext; omega
        simp only [h, if_false, this]
  unfold xFr
  simp only [key n (fun k => lkp k l)]
  by_cases h : t < n <;> simp [h]
def frC (ids : List Nat) (fr : AFr) : List (Nat × AV) → Bool
  | [] => true
  | p :: ps => bif (match renV ids ((fr.m.get p.1).getD undefA) with | some v => avEq v p.2 | none => false) then frC ids fr ps else false
theorem frC_ok {ids : List Nat} {fr : AFr} : ∀ {l : List (Nat × AV)}, frC ids fr l = true → ∀ p, p ∈ l → renV ids ((fr.m.get p.1).getD undefA) = some p.2
  | [], _, p, hp => by cases hp
  | x :: xs, h, p, hp => by
    unfold frC at h
    cases hv : renV ids ((fr.m.get x.1).getD undefA) with
    | none => rw [hv] at h; cases h
    | some v =>
      rw [hv] at h
      simp only at h
      cases hb : avEq v x.2
      · rw [hb] at h; cases h
      · rw [hb, cond_true] at h
        rcases List.mem_cons.1 hp with e | hp
        · subst e; rw [hv, avEq_eq _ _ hb]
        · exact frC_ok h p hp
def stC (ids : List Nat) (st : ASt) : List (Nat × AO) → Bool
  | [] => true
  | p :: ps => bif (match ids[p.1]? with | some i => (match st.h.get i with | some x => (match renO ids x with | some a => aoB a p.2 | none => false) | none => false) | none => false) then stC ids st ps else false
theorem stC_ok {ids : List Nat} {st : ASt} : ∀ {l : List (Nat × AO)}, stC ids st l = true → ∀ p, p ∈ l → ∃ i x, ids[p.1]? = some i ∧ st.h.get i = some x ∧ renO ids x = some p.2
  | [], _, p, hp => by cases hp
  | x :: xs, h, p, hp => by
    unfold stC at h
    split at h
    · rename_i i hi
      split at h
      · rename_i y hy
        split at h
        · rename_i a ha
          cases hb : aoB a x.2
          · rw [hb] at h; cases h
          · rw [hb, cond_true] at h
            rcases List.mem_cons.1 hp with e | hp
            · subst e; exact ⟨i, y, hi, hy, by rw [ha, aoB_eq hb]⟩
            · exact stC_ok h p hp
        · cases h
      · cases h
    · cases h
theorem lkp_mem : ∀ {l : List (Nat × AV)} {t : Nat}, lkp t l = .any ∨ ∃ p, p ∈ l ∧ p.1 = t ∧ p.2 = lkp t l
  | [], t => .inl rfl
  | x :: xs, t => by
    unfold lkp
    cases hb : Nat.beq x.1 t
    · simp only [cond_false]
      rcases lkp_mem (l := xs) (t := t) with h | ⟨p, h1, h2, h3⟩
      · exact .inl h
      · exact .inr ⟨p, List.mem_cons_of_mem _ h1, h2, h3⟩
    · simp only [cond_true]
      exact .inr ⟨x, List.mem_cons_self, nbeq hb, rfl⟩
def preB : Nat → Nat → List Nat → Bool
  | 0, _, _ => true
  | _ + 1, _, [] => false
  | n + 1, i, x :: xs => bif Nat.beq x i then preB n (i + 1) xs else false
theorem preB_ok : ∀ {n i : Nat} {xs : List Nat}, preB n i xs = true → ∀ {j : Nat}, j < n → xs[j]? = some (i + j)
  | 0, _, _, _, j, hj => by omega
  | n + 1, i, [], h, _, _ => by cases h
  | n + 1, i, x :: xs, h, j, hj => by
    unfold preB at h
    cases hb : Nat.beq x i
    · rw [hb] at h; cases h
    · rw [hb, cond_true] at h
      have := nbeq hb
      subst this
      cases j with
      | zero => simp
      | succ j => have := preB_ok h (j := j) (by omega); simp only [List.getElem?_cons_succ]; rw [this]; congr 1; omega
theorem Wk.held {kb : Nat} (ids : List Nat) (hp : preB kb 0 ids = true) (hn : noDup ids = true) (fr : AFr) (st : ASt) (hd : fr.defs = []) (lf : List (Nat × AV)) (ls : List (Nat × AO)) (hf : frC ids fr lf = true) (hs : stC ids st ls = true) :
    Wk kb fr st (xFr lf fr.n) (mkSt ls ids.length) := fun B w0 κ hb ι w a hk h1 h2 => by
  have hget : ∀ {j a}, (mkSt ls ids.length).h.get j = some a → ∃ i x, ids[j]? = some i ∧ st.h.get i = some x ∧ renO ids x = some a := fun {j a} hj => by
    rcases foldl_get D ls .e j a hj with ⟨p, p1, p2, p3⟩ | h
    · subst p2; subst p3; exact stC_ok hs p p1
    · rw [T.get_e] at h; cases h
  have hren : ∀ {j L}, renR ids ι j = some L → ∃ i, ids[j]? = some i ∧ ι i = some L := fun {j L} h => by
    unfold renR at h
    cases hi : ids[j]? with
    | none => rw [hi] at h; cases h
    | some i => rw [hi] at h; exact ⟨i, rfl, h⟩
  refine ⟨renR ids ι, fun i L hi => by
    have h3 := preB_ok hp (hb.dom i L hi)
    rw [Nat.zero_add] at h3
    simp only [renR, h3]
    exact hk i L hi, ?_, ⟨⟨h2.hf.1, fun t => ?_⟩, ?_⟩⟩
  · refine ⟨h1.below, h1.base, fun j a hj hd => ?_, fun j a L hj ho hL => ?_, fun j L hL => ?_, fun j a hj => ?_, fun j a L hj hd ho hL => ?_, fun i hi => absurd hi (hb.rs i), h1.glob⟩
    · obtain ⟨i, x, g1, g2, g3⟩ := hget hj
      have hx : x ≠ .dead := by intro e; subst e; simp [renO] at g3
      obtain ⟨L, o, k1, k2, k3⟩ := h1.obj i x g2 hx
      exact ⟨L, o, by simp only [renR, g1, k1], k2, (k3.ren g3).1⟩
    · obtain ⟨i, x, g1, g2, g3⟩ := hget hj
      obtain ⟨i', g1', hL'⟩ := hren hL
      rw [g1] at g1'; cases g1'
      have hx : x ≠ .dead := by intro e; subst e; simp [renO] at g3
      obtain ⟨L0, o, k1, k2, k3⟩ := h1.obj i x g2 hx
      rw [hL'] at k1; cases k1
      have hox : x.own = true := by rw [← (k3.ren g3).2.1]; exact ho
      obtain ⟨m1, m2⟩ := h1.own i x L g2 hox hL'
      refine ⟨m1, fun j' a' L' hj' hd' hL'' hbb => ?_⟩
      obtain ⟨i2, x2, p1, p2, p3⟩ := hget hj'
      obtain ⟨i2', p1', hL2⟩ := hren hL''
      rw [p1] at p1'; cases p1'
      have hx2 : x2 ≠ .dead := by intro e; subst e; simp [renO] at p3
      have := m2 i2 x2 L' p2 hx2 hL2 hbb
      subst this
      exact noDup_ok hn p1 g1
    · obtain ⟨i, g1, _⟩ := hren hL
      exact (List.getElem?_eq_some_iff.1 g1).1
    · obtain ⟨i, x, g1, _⟩ := hget hj
      exact (List.getElem?_eq_some_iff.1 g1).1
    · obtain ⟨i, x, g1, g2, g3⟩ := hget hj
      obtain ⟨i', g1', hL'⟩ := hren hL
      rw [g1] at g1'; cases g1'
      have hx : x ≠ .dead := by intro e; subst e; simp [renO] at g3
      obtain ⟨L0, o, k1, k2, k3⟩ := h1.obj i x g2 hx
      exact h1.ro i x L g2 hx (by rw [← (k3.ren g3).2.1]; exact ho) hL'
  · rw [xFr_get]
    by_cases ht : t < fr.n
    · simp only [ht, if_true]
      rcases lkp_mem (l := lf) (t := t) with e | ⟨p, p1, p2, p3⟩
      · rw [e]; exact .any _
      · have := frC_ok hf p p1
        rw [p2, p3] at this
        exact (h2.hf.2 t).ren _ this
    · simp only [ht, if_false]
      have : a.tmps.getD t undef = undef := by
        have := h2.hf.1
        simp [Array.getD]; omega
      rw [this]; exact .undef _
  · have := h2.hd; rw [hd] at this
    revert this; cases a.defers <;> exact id
def gcB (kb : Nat) (e : Exit) (ids : List Nat) (lf : List (Nat × AV)) (n : Nat) (ls : List (Nat × AO)) (nx : Nat) : Option (Exit × AFr × ASt) → Bool
  | some (e', fr, st) =>
    bif exEq e' e then
      match fr.defs with
      | [] => bif noDup ids then bif Nat.beq fr.n n then bif Nat.beq ids.length nx then bif frC ids fr lf then bif preB kb 0 ids then stC ids st ls else false else false else false else false else false
      | _ => false
    else false
  | none => false
theorem exEq_n {e : Exit} (h : exEq e .normal = true) : e = .normal := by cases e <;> first | rfl | cases h
theorem exEq_x {e : Exit} {i : Nat} (h : exEq e (.exit i) = true) : e = .exit i := by
  cases e <;> first | cases h | skip
  simp only [exEq] at h
  rw [nbeq h]
theorem gcB_ok {kb : Nat} {e : Exit} {ids : List Nat} {lf : List (Nat × AV)} {n nx : Nat} {ls : List (Nat × AO)} {q : Option (Exit × AFr × ASt)} (h : gcB kb e ids lf n ls nx q = true) :
    ∃ e' fr st, q = some (e', fr, st) ∧ exEq e' e = true ∧ Wk kb fr st (xFr lf n) (mkSt ls nx) := by
  unfold gcB at h
  split at h
  rotate_left
  · cases h
  rename_i e' fr st
  cases h0 : exEq e' e
  · rw [h0] at h; cases h
  rw [h0, cond_true] at h
  split at h
  rotate_left
  · cases h
  rename_i hd
  cases h1 : noDup ids
  · rw [h1] at h; cases h
  cases h2 : Nat.beq fr.n n
  · rw [h1, h2] at h; cases h
  cases h3 : Nat.beq ids.length nx
  · rw [h1, h2, h3] at h; cases h
  cases h4 : frC ids fr lf
  · rw [h1, h2, h3, h4] at h; cases h
  cases h5 : preB kb 0 ids
  · rw [h1, h2, h3, h4, h5] at h; cases h
  rw [h1, h2, h3, h4, h5] at h
  simp only [cond_true] at h
  have := nbeq h2; subst this
  have := nbeq h3; subst this
  exact ⟨e', fr, st, rfl, h0, Wk.held ids h5 h1 fr st hd lf ls h4 h⟩
theorem gcBn_ok {kb : Nat} {ids : List Nat} {lf : List (Nat × AV)} {n nx : Nat} {ls : List (Nat × AO)} {q : Option (Exit × AFr × ASt)} (h : gcB kb .normal ids lf n ls nx q = true) :
    ∃ fr st, q = some (.normal, fr, st) ∧ Wk kb fr st (xFr lf n) (mkSt ls nx) := by
  obtain ⟨e', fr, st, h1, h2, h3⟩ := gcB_ok h
  have := exEq_n h2
  subst this
  exact ⟨fr, st, h1, h3⟩
def gcR (kf ids : List Nat) : Option (Exit × AFr × ASt) → Option (AFr × ASt)
  | some (.normal, fr, st) => (match fr.defs with | [] => bif noDup ids then some (gcF kf ids fr, gcS ids st) else none | _ => none)
  | _ => none
theorem gcR_ok {kf ids : List Nat} {q : Option (Exit × AFr × ASt)} {F : AFr} {S : ASt} (h : gcR kf ids q = some (F, S)) : ∃ fr st, q = some (.normal, fr, st) ∧ Wk 0 fr st F S := by
  unfold gcR at h
  split at h
  · rename_i fr st
    split at h
    · rename_i hd
      cases hn : noDup ids
      · rw [hn] at h; cases h
      · rw [hn, cond_true] at h
        simp only [Option.some.injEq, Prod.mk.injEq] at h
        obtain ⟨rfl, rfl⟩ := h
        exact ⟨fr, st, rfl, Wk.gc kf ids hn fr st hd⟩
    · cases h
  · cases h
section
variable {P : Program} {E : Env} {sum : CallT} {n : Nat} {ro : Option Nat} {fr : AFr} {st : ASt} {Q : Exit × AFr × ASt → Prop}
theorem Trip.seqG (hE : E.Ok P) (hs : CallsOK P sum) {x y : Code} (kf ids : List Nat) {F : AFr} {S : ASt} (h : gcR kf ids ((M E (drawA E) sum n).ex ro x fr st) = some (F, S)) (hy : Trip P 0 ro y F S Q) : Trip P 0 ro (.seq x y) fr st Q := by
  obtain ⟨fr1, st1, h1, h2⟩ := gcR_ok h
  refine Trip.seq (R := fun r => r = (.normal, fr1, st1)) (Trip.exec hE hs h1 rfl) (fun fr' st' hr => ?_) (fun e fr' st' hne hr => by cases hr; exact absurd rfl hne)
  cases hr
  exact Trip.less h2 hy
theorem Trip.seqT {kb : Nat} {x y : Code} {F : AFr} {S : ASt} (h : Trip P kb ro x fr st fun r => r.1 = .normal ∧ Wk kb r.2.1 r.2.2 F S) (hy : Trip P kb ro y F S Q) : Trip P kb ro (.seq x y) fr st Q :=
  Trip.seq h (fun _ _ hr => Trip.less hr.2 hy) (fun _ _ _ hne hr => absurd hr.1 hne)
theorem Trip.gcEnd (hE : E.Ok P) (hs : CallsOK P sum) {x : Code} (kf ids : List Nat) {F : AFr} {S : ASt} (h : gcR kf ids ((M E (drawA E) sum n).ex ro x fr st) = some (F, S)) : Trip P 0 ro x fr st fun r => r.1 = .normal ∧ Wk 0 r.2.1 r.2.2 F S := by
  obtain ⟨fr1, st1, h1, h2⟩ := gcR_ok h
  exact Trip.exec hE hs h1 ⟨rfl, h2⟩
def TripL (P : Program) (kb : Nat) (ro : Option Nat) (x : Code) (fr : AFr) (st : ASt) (Q : Exit × AFr × ASt → Prop) : Prop :=
  ∃ k, ∀ B w0 κ, Base B kb κ → ∀ ι w a rl, κ.le ι → SR B w0 ι st w → FRA ι fr a → RO κ ro rl → Code.roundsIn (FF rl) 0 P x (TrPost B w0 κ Q) k a w
theorem TripL.loop {kb : Nat} {x : Code} (h : TripL P kb ro x fr st Q) : Trip P kb ro (.loop x) fr st Q := fun B w0 κ hb ι w a rl hk h1 h2 h3 =>
  let ⟨k, hr⟩ := h; wpIn_loop_rounds k (hr B w0 κ hb ι w a rl hk h1 h2 h3)
theorem TripL.last {kb : Nat} {x : Code} (h : Trip P kb ro x fr st fun r => r.1 ≠ .normal ∧ Q r) : TripL P kb ro x fr st Q :=
  ⟨1, fun B w0 κ hb ι w a rl hk h1 h2 h3 => wpIn_mono (h B w0 κ hb ι w a rl hk h1 h2 h3) fun e a' w' ⟨r, ⟨hne, hq⟩, he, hp⟩ => by
    cases e with
    | normal => exact absurd he.symm hne
    | _ => exact ⟨r, hq, he, hp⟩⟩
theorem TripL.less {kb : Nat} {x : Code} {F : AFr} {S : ASt} (l : Wk kb fr st F S) (h : TripL P kb ro x F S Q) : TripL P kb ro x fr st Q :=
  let ⟨k, hr⟩ := h
  ⟨k, fun B w0 κ hb ι w a rl hk h1 h2 h3 => let ⟨ι', g0, g1, g2⟩ := l B w0 κ hb ι w a hk h1 h2; hr B w0 κ hb ι' w a rl g0 g1 g2 h3⟩
theorem TripL.its (hE : E.Ok P) (hs : CallsOK P sum) {kb : Nat} {x : Code} : ∀ (c : Nat) (fr : AFr) (st : ASt) {fr1 : AFr} {st1 : ASt}, it ((M E (drawA E) sum n).ex ro x) c fr st = some (.normal, fr1, st1) → TripL P kb ro x fr1 st1 Q → TripL P kb ro x fr st Q
  | 0, fr, st, fr1, st1, h, hl => by
    simp only [it, Option.some.injEq, Prod.mk.injEq] at h
    obtain ⟨_, rfl, rfl⟩ := h
    exact hl
  | c + 1, fr, st, fr1, st1, h, hl => by
    simp only [it] at h
    split at h
    · rename_i fr2 st2 h2
      obtain ⟨k, hr⟩ := TripL.its hE hs c fr2 st2 h hl
      refine ⟨k + 1, fun B w0 κ hb ι w a rl hk g1 g2 g3 => ?_⟩
      refine wpIn_mono ((M_ok hE (drawA_ok hE) hs n).ex B w0 ro x fr st _ h2 ι w a rl g1 g2 (g3.mono hk)) fun e a' w' ⟨he, ι', q1, q2, q3⟩ => ?_
      simp only at he
      subst he
      exact hr B w0 κ hb ι' w' a' rl (Ren.le_trans hk q1) q2 q3 g3
    · rename_i r hne
      obtain ⟨e, f1, s1⟩ := fr1, st1
      exact absurd h (by intro h; exact hne _ _ h)
theorem TripL.itG (hE : E.Ok P) (hs : CallsOK P sum) {x : Code} (c : Nat) (kf ids : List Nat) {F : AFr} {S : ASt} (h : gcR kf ids (it ((M E (drawA E) sum n).ex ro x) c fr st) = some (F, S)) (hl : TripL P 0 ro x F S Q) : TripL P 0 ro x fr st Q := by
  obtain ⟨fr1, st1, h1, h2⟩ := gcR_ok h
  exact TripL.its hE hs c fr st h1 (TripL.less h2 hl)
theorem Trip.blockL {kb : Nat} {id : Nat} {x : Code} (h : TripL P kb ro x fr st (outB id Q)) : Trip P kb ro (.block id (.loop x)) fr st Q := Trip.block h.loop
end
def gcX (id : Nat) (kf ids : List Nat) : Option (Exit × AFr × ASt) → Option (AFr × ASt)
  | some (.exit i, fr, st) => bif Nat.beq i id then (match fr.defs with | [] => bif noDup ids then some (gcF kf ids fr, gcS ids st) else none | _ => none) else none
  | _ => none
theorem gcX_ok {id : Nat} {kf ids : List Nat} {q : Option (Exit × AFr × ASt)} {F : AFr} {S : ASt} (h : gcX id kf ids q = some (F, S)) : ∃ fr st, q = some (.exit id, fr, st) ∧ Wk 0 fr st F S := by
  unfold gcX at h
  split at h
  · rename_i i fr st
    cases hi : Nat.beq i id
    · rw [hi] at h; cases h
    · rw [hi, cond_true] at h
      have := nbeq hi
      subst this
      obtain ⟨fr1, st1, h1, h2⟩ := gcR_ok (q := some (.normal, fr, st)) (kf := kf) (ids := ids) (F := F) (S := S) h
      simp only [Option.some.injEq, Prod.mk.injEq] at h1
      obtain ⟨_, rfl, rfl⟩ := h1
      exact ⟨fr, st, rfl, h2⟩
  · cases h
def lastB (E : Env) (fn : Func) : Option (Exit × AFr × ASt) → Bool
  | some (.ret, fr, st) => isTrue (leaveA E fn fr st)
  | some (.normal, fr, st) => isTrue (leaveA E fn fr st)
  | _ => false
section
variable {P : Program} {E : Env} {sum : CallT} {n : Nat} {ro : Option Nat} {fr : AFr} {st : ASt}
theorem TripL.lastG (hE : E.Ok P) (hs : CallsOK P sum) {x : Code} (id : Nat) (kf ids : List Nat) {F : AFr} {S : ASt} (h : gcX id kf ids ((M E (drawA E) sum n).ex ro x fr st) = some (F, S)) :
    TripL P 0 ro x fr st (outB id fun r => r.1 = .normal ∧ Wk 0 r.2.1 r.2.2 F S) := by
  obtain ⟨fr1, st1, h1, h2⟩ := gcX_ok h
  exact TripL.last (Trip.exec hE hs h1 ⟨by simp, fun _ => ⟨rfl, h2⟩, fun h => absurd rfl h⟩)
theorem Trip.lastB (hE : E.Ok P) (hs : CallsOK P sum) {x : Code} {fn : Func} (h : lastB E fn ((M E (drawA E) sum n).ex ro x fr st) = true) :
    Trip P 0 ro x fr st fun r => (r.1 = .normal ∨ r.1 = .ret) ∧ isTrue (leaveA E fn r.2.1 r.2.2) = true := by
  cases hq : (M E (drawA E) sum n).ex ro x fr st with
  | none => rw [hq] at h; cases h
  | some r =>
    rw [hq] at h
    obtain ⟨e, fr1, st1⟩ := r
    refine Trip.exec hE hs hq ?_
    cases e with
    | ret => exact ⟨.inr rfl, h⟩
    | normal => exact ⟨.inl rfl, h⟩
    | _ => cases h
end
def rl : List (Nat × AV) → List AV
  | [] => []
  | x :: xs => repL [x.2] x.1 ++ rl xs
theorem trip_true {P : Program} {E : Env} (hE : E.Ok P) {f : Nat} {fn : Func} {c : Code} (hfn : E.fn.get f = some fn) (hc : fn.body = some c)
    (h : Trip P 0 none c { m := .e, n := fn.ntmps, defs := [] } st0 fun r => (r.1 = .normal ∨ r.1 = .ret) ∧ isTrue (leaveA E fn r.2.1 r.2.2) = true) (w : World) (hgl : GlobOK w := by intro _ _ h; cases h) :
    Calls P f #[] w fun e w' => e = .returned (.bool true) ∧ Below w.heap.size w w' := by
  have := (Trip.call hE hfn hc (args := []) (st := st0) (by cases fn.ntmps <;> rfl) (R := fun v => isTrue (some v) = true) (h.mono fun r ⟨h1, h2⟩ => ⟨h1, by
    cases hl : leaveA E fn r.2.1 r.2.2 with
    | none => rw [hl] at h2; cases h2
    | some v => rw [hl] at h2; exact ⟨v, rfl, h2⟩⟩) (Old w) (fun _ h => h) w (fun _ => none) w #[] (st0_ok w hgl) ⟨rfl, fun i v v' h => by simp at h⟩).2
  rw [callsIn_wide] at this
  refine this.mono ?_
  rintro e w' ⟨⟨v, st⟩, hv, x, ι', rfl, _, h2, h3⟩
  cases v with
  | bool b =>
    simp only [isTrue] at hv
    subst hv
    simp only at h3
    cases h3
    exact ⟨rfl, h2.below.os, h2.below.tape, h2.below.output, h2.below.size, fun k hk => h2.below.block k (.inr hk)⟩
  | _ => cases hv
theorem trip_memo {P : Program} {E : Env} (hE : E.Ok P) {f : Nat} {fn : Func} {c : Code} (hfn : E.fn.get f = some fn) (hc : fn.body = some c) (henter : ∀ args w, (callFunc f args).run P w = .ok (.enter f args) w)
    (h : Trip P 0 none c { m := .e, n := fn.ntmps, defs := [] } st0 fun r => (r.1 = .normal ∨ r.1 = .ret) ∧ isTrue (leaveA E fn r.2.1 r.2.2) = true) : MemoOK P ⟨f, [], .bool true⟩ := by
  refine ⟨henter, rfl, rfl, fun w args' hgl hv => ?_⟩
  have := (Trip.call hE hfn hc (args := []) (st := st0) (by cases fn.ntmps <;> rfl) (R := fun v => isTrue (some v) = true) (h.mono fun r ⟨h1, h2⟩ => ⟨h1, by
    cases hl : leaveA E fn r.2.1 r.2.2 with
    | none => rw [hl] at h2; cases h2
    | some v => rw [hl] at h2; exact ⟨v, rfl, h2⟩⟩) (Old w) (fun _ h => h) w (fun _ => none) w args' (st0_ok w hgl) hv).2
  refine this.mono ?_
  rintro e w' ⟨⟨v, st⟩, hv, x, ι', rfl, _, h2, h3⟩
  cases v with
  | bool b =>
    simp only [isTrue] at hv
    subst hv
    simp only at h3
    cases h3
    exact ⟨_, rfl, .bool true, h2.below.os, h2.below.tape, h2.below.output, h2.below.size, fun k hk => h2.below.block k (.inr hk)⟩
  | _ => cases hv
end
end Go.Ax
namespace Go.Ax
noncomputable section
open Go.RowKit
def TripO (P : Program) (kb : Nat) (ro : Option Nat) (ops : Array Oper) (k : Nat) (l : List Oper) (fr : AFr) (st : ASt) (Q : Exit × AFr × ASt → Prop) : Prop :=
  ∀ B w0 κ, Base B kb κ → ∀ ι w a rl, κ.le ι → SR B w0 ι st w → FRA ι fr a → RO κ ro rl → wpOpsIn (FF rl) 0 P ops (TrPost B w0 κ Q) (List.range' k l.length) a w
section
variable {P : Program} {E : Env} {sum : CallT} {n kb : Nat} {ro : Option Nat} {fr : AFr} {st : ASt} {Q : Exit × AFr × ASt → Prop} {ops : Array Oper}
theorem Trip.regionO {id : Nat} (h : TripO P kb ro ops 0 ops.toList fr st Q) : Trip P kb ro (.region id ops false) fr st Q := fun B w0 κ hb ι w a rl hk h1 h2 h3 => by
  refine wpIn_region ?_
  have := h B w0 κ hb ι w a rl hk h1 h2 h3
  rw [List.range_eq_range']
  simpa using this
theorem TripO.done (k : Nat) (h : Q (.normal, fr, st)) : TripO P kb ro ops k [] fr st Q := fun B w0 κ hb ι w a rl hk h1 h2 h3 => by
  show TrPost B w0 κ Q .normal a w
  exact ⟨_, h, rfl, ι, hk, h1, h2⟩
theorem TripO.less {k : Nat} {l : List Oper} {F : AFr} {S : ASt} (hw : Wk kb fr st F S) (h : TripO P kb ro ops k l F S Q) : TripO P kb ro ops k l fr st Q := fun B w0 κ hb ι w a rl hk h1 h2 h3 =>
  let ⟨ι', g0, g1, g2⟩ := hw B w0 κ hb ι w a hk h1 h2; h B w0 κ hb ι' w a rl g0 g1 g2 h3
theorem TripO.step (hE : E.Ok P) (hs : CallsOK P sum) {k : Nat} {o : Oper} {l : List Oper} {fr1 : AFr} {st1 : ASt} (ho : ops[k]? = some o)
    (hst : step E (M E (drawA E) sum n).call (M E (drawA E) sum n).round ops.toList o fr st = some (fr1, st1)) (h : TripO P kb ro ops (k + 1) l fr1 st1 Q) : TripO P kb ro ops k (o :: l) fr st Q := fun B w0 κ hb ι w a rl hk h1 h2 h3 => by
  have hM := M_ok hE (drawA_ok hE) hs n
  have := step_ok (ro := rl) (Q := TrPost B w0 κ Q) hE h1 h2 (hM.call B w0) (hM.round B w0) (ops := ops) hst (K := wpOpsIn (FF rl) 0 P ops (TrPost B w0 κ Q) (List.range' (k + 1) l.length))
    (fun ι' a' w' hle hfr' hsr' => h B w0 κ hb ι' w' a' rl (Ren.le_trans hk hle) hsr' hfr' h3)
  simp only [List.length_cons, List.range'_succ, wpOpsIn, ho]
  exact this
theorem TripO.end_ {k : Nat} (hd : ops.toList.drop k = []) (h : Q (.normal, fr, st)) : TripO P kb ro ops k (ops.toList.drop k) fr st Q := by
  rw [hd]; exact TripO.done k h
theorem TripO.run (hE : E.Ok P) (hs : CallsOK P sum) : ∀ (c k : Nat) (fr : AFr) (st : ASt) {fr1 : AFr} {st1 : ASt},
    regL (Go.Ax.step E (M E (drawA E) sum n).call (M E (drawA E) sum n).round ops.toList) ((ops.toList.drop k).take c) fr st = some (fr1, st1) → TripO P kb ro ops (k + c) (ops.toList.drop (k + c)) fr1 st1 Q → TripO P kb ro ops k (ops.toList.drop k) fr st Q
  | 0, k, fr, st, fr1, st1, h, hl => by
    simp only [List.take_zero, regL, Option.some.injEq, Prod.mk.injEq] at h
    obtain ⟨rfl, rfl⟩ := h
    exact hl
  | c + 1, k, fr, st, fr1, st1, h, hl => by
    cases hd : ops.toList.drop k with
    | nil =>
      rw [hd] at h
      simp only [List.take_nil, regL, Option.some.injEq, Prod.mk.injEq] at h
      obtain ⟨rfl, rfl⟩ := h
      have hd2 : ops.toList.drop (k + (c + 1)) = [] := by rw [List.drop_eq_nil_iff] at hd ⊢; omega
      rw [hd2] at hl
      exact hl
    | cons o l =>
      have hk : k < ops.toList.length := by
        by_cases hlt : k < ops.toList.length
        · exact hlt
        · rw [List.drop_eq_nil_iff.2 (by omega)] at hd; cases hd
      have hdd := List.drop_eq_getElem_cons hk
      rw [hd] at hdd
      have ho : ops[k]? = some o := by
        have : ops.toList[k]? = some o := by rw [List.getElem?_eq_getElem hk]; simp only [List.cons.injEq] at hdd; rw [hdd.1]
        simpa using this
      have hl' : l = ops.toList.drop (k + 1) := by simp only [List.cons.injEq] at hdd; exact hdd.2
      rw [hd, List.take_succ_cons] at h
      simp only [regL] at h
      split at h
      · rename_i fr2 st2 h2
        refine TripO.step hE hs ho h2 ?_
        rw [hl'] at h ⊢
        exact TripO.run hE hs c (k + 1) fr2 st2 h (by rw [show k + 1 + c = k + (c + 1) by omega]; exact hl)
      · simp at h
end
section
variable {P : Program} {E : Env} {sum : CallT} {n : Nat} {ro : Option Nat} {fr : AFr} {st : ASt} {Q : Exit × AFr × ASt → Prop} {ops : Array Oper}
def nrm : Option (AFr × ASt) → Option (Exit × AFr × ASt)
  | some (fr, st) => some (.normal, fr, st)
  | none => none
theorem TripO.runG (hE : E.Ok P) (hs : CallsOK P sum) (c : Nat) {k : Nat} (kf ids : List Nat) {F : AFr} {S : ASt}
    (h : gcR kf ids (nrm (regL (Go.Ax.step E (M E (drawA E) sum n).call (M E (drawA E) sum n).round ops.toList) ((ops.toList.drop k).take c) fr st)) = some (F, S))
    (hl : TripO P 0 ro ops (k + c) (ops.toList.drop (k + c)) F S Q) : TripO P 0 ro ops k (ops.toList.drop k) fr st Q := by
  obtain ⟨fr1, st1, h1, h2⟩ := gcR_ok h
  cases hr : regL (Go.Ax.step E (M E (drawA E) sum n).call (M E (drawA E) sum n).round ops.toList) ((ops.toList.drop k).take c) fr st with
  | none => rw [hr] at h1; cases h1
  | some r =>
    rw [hr] at h1
    obtain ⟨f, s⟩ := r
    simp only [nrm, Option.some.injEq, Prod.mk.injEq] at h1
    obtain ⟨_, rfl, rfl⟩ := h1
    exact TripO.run hE hs c k fr st hr (TripO.less h2 hl)
def opsOf : Code → Array Oper
  | .region _ ops _ => ops
  | _ => #[]
def idOf : Code → Nat
  | .region id _ _ => id
  | _ => 0
theorem Trip.ofRegion {kb : Nat} {c : Code} (hc : c = .region (idOf c) (opsOf c) false) (h : TripO P kb ro (opsOf c) 0 ((opsOf c).toList.drop 0) fr st Q) : Trip P kb ro c fr st Q := by
  rw [hc]
  exact Trip.regionO h
end
section
variable {P : Program} {E : Env} {sum : CallT} {n N nx kb : Nat} {ro : Option Nat} {fr : AFr} {st : ASt} {Q : Exit × AFr × ASt → Prop} {ops : Array Oper} {lf : List (Nat × AV)} {ls : List (Nat × AO)}
theorem Trip.seqB (hE : E.Ok P) (hs : CallsOK P sum) {x y : Code} (ids : List Nat) (h : gcB kb .normal ids lf N ls nx ((M E (drawA E) sum n).ex ro x fr st) = true) (hy : Trip P kb ro y (xFr lf N) (mkSt ls nx) Q) : Trip P kb ro (.seq x y) fr st Q := by
  obtain ⟨fr1, st1, h1, h2⟩ := gcBn_ok h
  refine Trip.seq (R := fun r => r = (.normal, fr1, st1)) (Trip.exec hE hs h1 rfl) (fun fr' st' hr => ?_) (fun e fr' st' hne hr => by cases hr; exact absurd rfl hne)
  cases hr
  exact Trip.less h2 hy
theorem TripL.itB (hE : E.Ok P) (hs : CallsOK P sum) {x : Code} (c : Nat) (ids : List Nat) (h : gcB kb .normal ids lf N ls nx (it ((M E (drawA E) sum n).ex ro x) c fr st) = true) (hl : TripL P kb ro x (xFr lf N) (mkSt ls nx) Q) : TripL P kb ro x fr st Q := by
  obtain ⟨fr1, st1, h1, h2⟩ := gcBn_ok h
  exact TripL.its hE hs c fr st h1 (TripL.less h2 hl)
theorem TripL.lastX (hE : E.Ok P) (hs : CallsOK P sum) {x : Code} (id : Nat) (ids : List Nat) (h : gcB kb (.exit id) ids lf N ls nx ((M E (drawA E) sum n).ex ro x fr st) = true) :
    TripL P kb ro x fr st (outB id fun r => r.1 = .normal ∧ Wk kb r.2.1 r.2.2 (xFr lf N) (mkSt ls nx)) := by
  obtain ⟨e, fr1, st1, h1, h0, h2⟩ := gcB_ok h
  have := exEq_x h0
  subst this
  exact TripL.last (Trip.exec hE hs h1 ⟨by simp, fun _ => ⟨rfl, h2⟩, fun h => absurd rfl h⟩)
theorem TripO.runB (hE : E.Ok P) (hs : CallsOK P sum) (c : Nat) {k : Nat} (ids : List Nat)
    (h : gcB kb .normal ids lf N ls nx (nrm (regL (Go.Ax.step E (M E (drawA E) sum n).call (M E (drawA E) sum n).round ops.toList) ((ops.toList.drop k).take c) fr st)) = true)
    (hl : TripO P kb ro ops (k + c) (ops.toList.drop (k + c)) (xFr lf N) (mkSt ls nx) Q) : TripO P kb ro ops k (ops.toList.drop k) fr st Q := by
  obtain ⟨fr1, st1, h1, h2⟩ := gcBn_ok h
  cases hr : regL (Go.Ax.step E (M E (drawA E) sum n).call (M E (drawA E) sum n).round ops.toList) ((ops.toList.drop k).take c) fr st with
  | none => rw [hr] at h1; cases h1
  | some r =>
    rw [hr] at h1
    obtain ⟨f, s⟩ := r
    simp only [nrm, Option.some.injEq, Prod.mk.injEq] at h1
    obtain ⟨_, rfl, rfl⟩ := h1
    exact TripO.run hE hs c k fr st hr (TripO.less h2 hl)
theorem TripO.call (hE : E.Ok P) (hs : CallsOK P sum) {k g : Nat} {o : Oper} {l : List Oper} (ho : ops[k]? = some o) {fn : Func} {c : Code} {args : List AV} (hfn : E.fn.get g = some fn) (hc : fn.body = some c)
    (hb : Nat.ble args.length fn.ntmps = true) {v0 : AV} {S0 : ASt} {F1 : AFr} (hop : ∀ call : CallT, stepV E call (M E (drawA E) sum n).round ops.toList o fr st = call g args st) (hput : fr.put o.dst v0 = some F1)
    (hcall : Trip P st.next none c { m := putArgs args 0 .e, n := fn.ntmps, defs := [] } st fun r => (r.1 = .normal ∨ r.1 = .ret) ∧ leaveA E fn r.2.1 r.2.2 = some (v0, S0))
    (h : TripO P kb ro ops (k + 1) l F1 S0 Q) : TripO P kb ro ops k (o :: l) fr st Q := fun B w0 κ hbs ι w a rl hk h1 h2 h3 => by
  classical
  have hM := M_ok hE (drawA_ok hE) hs n
  let call' : CallT := fun f a s => if f = g ∧ a = args ∧ s = st then some (v0, S0) else none
  have hc' : CallOK P B w0 call' := by
    intro f as s r hr ι2 w2 args' q1 q2
    simp only [call'] at hr
    split at hr
    · rename_i heq
      obtain ⟨rfl, rfl, rfl⟩ := heq
      simp only [Option.some.injEq] at hr
      subst hr
      obtain ⟨k1, k2⟩ := Trip.call hE hfn hc hb (R := fun v => v = (v0, S0)) (hcall.mono fun r ⟨m1, m2⟩ => ⟨m1, _, m2, rfl⟩) B hbs.rs w0 ι2 w2 args' q1 q2
      exact ⟨k1, k2.mono fun e w' ⟨v, hv, hp⟩ => hv ▸ hp⟩
    · cases hr
  have hst : Go.Ax.step E call' (M E (drawA E) sum n).round ops.toList o fr st = some (F1, S0) := by
    unfold Go.Ax.step
    rw [hop call']
    simp only [call', and_self, if_true, hput]
  have := step_ok (ro := rl) (Q := TrPost B w0 κ Q) hE h1 h2 hc' (hM.round B w0) (ops := ops) hst (K := wpOpsIn (FF rl) 0 P ops (TrPost B w0 κ Q) (List.range' (k + 1) l.length))
    (fun ι' a' w' hle hfr' hsr' => h B w0 κ hbs ι' w' a' rl (Ren.le_trans hk hle) hsr' hfr' h3)
  simp only [List.length_cons, List.range'_succ, wpOpsIn, ho]
  exact this
end
end
end Go.Ax
end

section
namespace Go.Ax
noncomputable section
open Go.RowKit
def lookT : List (List Nat × List Nat) → List Nat → Option (List Nat)
  | [], _ => none
  | p :: ps, bs => bif lEq p.1 bs then some p.2 else lookT ps bs
theorem lookT_ok : ∀ {tab : List (List Nat × List Nat)} {bs h : List Nat}, lookT tab bs = some h → (bs, h) ∈ tab
  | [], bs, h, e => by cases e
  | p :: ps, bs, h, e => by
    unfold lookT at e
    cases hb : lEq p.1 bs
    · rw [hb, cond_false] at e
      exact List.mem_cons_of_mem _ (lookT_ok e)
    · rw [hb, cond_true] at e
      simp only [Option.some.injEq] at e
      rw [lEq_eq] at hb
      have : p.1 = bs := by simpa using hb
      subst this; subst e
      exact List.mem_cons_self
def hashV (h : List Nat) : AV := .agg (h.map fun x => .int .u8 (.ofNat x))
def sumTab (fs : Nat) (tab : List (List Nat × List Nat)) : CallT := fun fn args st =>
  bif Nat.beq fs fn then
    match args with
    | [.slice (some (i, o)) len _] =>
      match st.h.get i with
      | some (.cells cs _) =>
        match takeL cs o len with
        | some l =>
          match bytesN l with
          | some bs => (match lookT tab bs with | some h => some (hashV h, st) | none => none)
          | none => none
        | none => none
      | _ => none
    | _ => none
  else none
structure TabOK (ns : List Nat) (p : List Nat × List Nat) : Prop where
  len : memN p.1.length ns = true
  eq : outI ((foldF (chunks ((p.1.length + 72) / 64) (p.1 ++ padTail p.1.length)) shaS0).forceS fun s => s) = hashV p.2
def AllTab (ns : List Nat) : List (List Nat × List Nat) → Prop
  | [] => True
  | p :: ps => TabOK ns p ∧ AllTab ns ps
theorem AllTab_at {ns : List Nat} : ∀ {tab : List (List Nat × List Nat)}, AllTab ns tab → ∀ p, p ∈ tab → TabOK ns p
  | [], _, p, h => by cases h
  | x :: xs, h, p, hp => by
    rcases List.mem_cons.1 hp with e | hp
    · subst e; exact h.1
    · exact AllTab_at h.2 p hp
theorem sumTab_ok {P : Program} {fs : Nat} {ns : List Nat} (hs : CallsOK P (sumSum fs ns)) {tab : List (List Nat × List Nat)} (ht : AllTab ns tab) : CallsOK P (sumTab fs tab) := by
  intro B w0 fn args st r h
  refine hs B w0 fn args st r ?_
  unfold sumTab at h
  unfold sumSum
  cases hf : Nat.beq fs fn
  · simp [hf] at h
  simp only [hf, cond_true] at h ⊢
  split at h
  rotate_left
  · simp at h
  rename_i i o len cap
  split at h
  rotate_left
  · simp at h
  rename_i cs rw hi
  split at h
  rotate_left
  · simp at h
  rename_i l hl
  split at h
  rotate_left
  · simp at h
  rename_i bs hbs
  split at h
  rotate_left
  · simp at h
  rename_i hh hlk
  simp only [Option.some.injEq] at h
  have hll := (takeL_ok hl).1
  have hb := bytesN_eq hbs
  have hlen : bs.length = len := by rw [hb] at hll; simpa using hll
  obtain ⟨h1, h2⟩ := AllTab_at ht _ (lookT_ok hlk)
  simp only at h1 h2
  rw [hlen] at h1
  simp only [h1, cond_true, hi, hl, hbs]
  rw [S8.forceS_eq] at h2 ⊢
  rw [h2, h]
end
end Go.Ax
end
