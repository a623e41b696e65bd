/-
  OWN WORK, TOLD ONCE FOR ALL TEXTS YtmjmpmmonelmmaaAxA TO YtmjmpmmonelmmaaAxU: an abstract machine for the program's text that the kernel can run, and the proof that it is sound: what it answers is what the program answers. No condition.
-/
import Derived.Test.YtmjmpmmonelmmaaAxTr
namespace Go.Ax
noncomputable section
open Go.RowKit

/-! ### Rows of bytes, told by numbers of whatever form -/
def bytesZ : List AV → Option (List Int)
  | [] => some []
  | v :: vs =>
    match v with
    | .int k n =>
      match k with
      | .u8 => match bytesZ vs with | some l => some (n :: l) | none => none
      | _ => none
    | _ => none

theorem bytesZ_eq : ∀ {l : List AV} {bs : List Int}, bytesZ l = some bs → l = bs.map fun b => AV.int .u8 b
  | [], bs, h => by simp [bytesZ] at h; subst h; rfl
  | v :: vs, bs, h => by
    unfold bytesZ at h
    split at h
    · split at h
      · split at h
        · rename_i l hl
          simp only [Option.some.injEq] at h; subst h
          rw [bytesZ_eq hl]; rfl
        · simp at h
      · simp at h
    · simp at h

theorem bytesZ_map : ∀ (bs : List Int), bytesZ (bs.map fun b => AV.int .u8 b) = some bs
  | [] => rfl
  | b :: bs => by simp [bytesZ, bytesZ_map bs]

def stZ (bs : List Int) : ASt := { h := T.set D .e 0 (.cells (bs.map fun b => AV.int .u8 b) false), next := 1 }

/-- a contract at a memory of one row of bytes -/
def AtRow (P : Program) (f : Nat) (pre : List AV) (bs : List Int) (v : AV) : Prop :=
  ∀ (B : Prot) w0 ι w args', (∀ i, ¬ B.rs i) → SR B w0 ι (stZ bs) w → VRs ι (pre ++ [.slice (some (0, 0)) bs.length (.atl bs.length)]) args' →
    (callFunc f args').run P w = .ok (.enter f args') w ∧ CallsIn Fence.wide 0 P f args' w fun e w' => ∃ r, r.1 = v ∧ Post B w0 ι r e w'

theorem AtRow.of_run {P : Program} {E : Env} (hE : E.Ok P) {sum : CallT} (hs : CallsOK P sum) {n f : Nat} {pre : List AV} {bs : List Int} {v : AV}
    (hrun : ans ((M E (drawA E) sum n).call f (pre ++ [.slice (some (0, 0)) bs.length (.atl bs.length)]) (stZ bs)) = some v) : AtRow P f pre bs v := fun B w0 ι w args' _ h1 h2 => by
  obtain ⟨st2, hq⟩ := ans_some hrun
  obtain ⟨k1, k2⟩ := (M_ok hE (drawA_ok hE) hs n).call B w0 f _ _ _ hq ι w args' h1 h2
  exact ⟨k1, k2.mono fun e w' hp => ⟨_, rfl, hp⟩⟩

/-- such a call, out of its contract at that memory -/
theorem local_row {P : Program} {f : Nat} {pre : List AV} {bs : List Int} {v : AV} (hz : bs.length ≠ 0) (hp : pre.all pureV = true) (hv : pureV v = true) (hrun : AtRow P f pre bs v)
    {B : Prot} {w0 : World} {ι : Ren} {st : ASt} {w : World} (hsr : SR B w0 ι st w) {i o : Nat} {cap : Cap} {cs : List AV} {rw : Bool} (hi : st.h.get i = some (.cells cs rw))
    (hcs : takeL cs o bs.length = some (bs.map fun b => AV.int .u8 b)) {args' : Array Value} (hargs : VRs ι (pre ++ [.slice (some (i, o)) bs.length cap]) args') :
    (callFunc f args').run P w = .ok (.enter f args') w ∧ CallsIn Fence.wide 0 P f args' w (Post B w0 ι (v, st)) := by
  have hlast := hargs.get (i := pre.length) (v := .slice (some (i, o)) bs.length cap) (by simp)
  obtain ⟨y, hy, hyv⟩ := hlast
  cases hyv with
  | slice _ _ _ c' L _ hL hcap hle =>
    obtain ⟨L', ob, h1, h2, c, e, lo, hi', h3, h4, h5, h6, h7, h8⟩ := hsr.obj i _ hi (by simp)
    rw [hL] at h1; cases h1
    rw [h3] at h2
    obtain ⟨t1, t2⟩ := takeL_ok hcs
    have hlt : L.b < w.heap.size := (Array.getElem?_eq_some_iff.1 h2).1
    have hlen : bs.length ≠ 0 → o + bs.length ≤ cs.length := fun hne => by
      have := t2 (bs.length - 1) (by omega)
      rw [List.getElem?_eq_getElem (by simp; omega)] at this
      have := (List.getElem?_eq_some_iff.1 this.symm).1
      omega
    let ι1 : Ren := fun j => if j = 0 then some ⟨L.b, L.p + o, L.tot⟩ else none
    let B1 : Prot := ⟨fun k => k = L.b, fun k => k < w.heap.size, fun _ => False⟩
    have hg : ∀ j, (stZ bs).h.get j = if j = 0 then some (.cells (bs.map fun b => AV.int .u8 b) false) else none := fun j => by
      show (T.set D .e 0 _).get j = _
      rw [T.get_set, T.get_e]
    have hob : ∀ (k : Nat) v v', (bs.map fun b => AV.int .u8 b)[k]? = some v → c[L.p + o + k]? = some v' → VR ι1 v v' := fun k v v' hk hk' => by
      have hkl : k < bs.length := by have := (List.getElem?_eq_some_iff.1 hk).1; simpa using this
      have hk2 := hk
      rw [t2 k hkl] at hk2
      have := h7 (o + k) v v' hk2 (by rw [← hk']; congr 1; omega)
      simp only [List.getElem?_map] at hk
      cases hb : bs[k]? with
      | none => rw [hb] at hk; simp at hk
      | some b => rw [hb] at hk; simp at hk; subst hk; cases this; exact .int _ _
    have hsr1 : SR B1 w ι1 (stZ bs) w := by
      refine ⟨Keeps.refl _ _, ?_, ?_, ?_, ?_, ?_, ?_, fun i hi => hi.elim, fun g cs hg => ⟨.inr (hsr.globw g cs hg).lt, hsr.globw g cs hg⟩⟩
      · rintro k (hk | hk)
        · exact hk ▸ hlt
        · exact hk
      · intro j a hj hd
        rw [hg] at hj
        by_cases e : j = 0
        · subst e
          simp only [if_true, Option.some.injEq] at hj; subst hj
          refine ⟨⟨L.b, L.p + o, L.tot⟩, .cells c e (lo, hi'), rfl, h2, c, e, lo, hi', rfl, h4, ?_, ?_, hob, fun h => by cases h⟩
          · have := hlen hz; simp; omega
          · intro x hx; simp at hx; obtain ⟨b, _, rfl⟩ := hx; rfl
        · simp [e] at hj
      · intro j a L' hj ho hL'
        rw [hg] at hj
        by_cases e : j = 0
        · simp only [e, if_true, Option.some.injEq] at hj; subst hj; cases ho
        · simp [e] at hj
      · intro j L' hj
        simp only [ι1] at hj
        by_cases e : j = 0
        · subst e; show 0 < 1; omega
        · simp [e] at hj
      · intro j a hj
        rw [hg] at hj
        by_cases e : j = 0
        · subst e; show 0 < 1; omega
        · simp [e] at hj
      · intro j a L' hj hd ho hL'
        simp only [ι1] at hL'
        by_cases e : j = 0
        · simp only [e, if_true, Option.some.injEq] at hL'; subst hL'; rfl
        · simp [e] at hL'
    have hv1 : VRs ι1 (pre ++ [.slice (some (0, 0)) bs.length (.atl bs.length)]) args' := by
      refine ⟨by have := hargs.size; simpa using this, fun j x x' hx hx' => ?_⟩
      by_cases hj : j < pre.length
      · rw [List.getElem?_append_left hj] at hx
        exact pureV_VR (List.all_eq_true.1 hp x (List.mem_of_getElem? hx)) (hargs.at_ j x x' (by rw [List.getElem?_append_left hj]; exact hx) hx')
      · have hj2 : j = pre.length := by have := (List.getElem?_eq_some_iff.1 hx).1; simp at this; omega
        subst hj2
        simp at hx; subst hx
        rw [hy] at hx'; cases hx'
        have := VR.slice (ι := ι1) 0 0 bs.length c' ⟨L.b, L.p + o, L.tot⟩ (.atl bs.length) rfl hle hle
        simpa using this
    obtain ⟨k1, k2⟩ := hrun B1 w ι1 w args' (fun _ h => h) hsr1 hv1
    refine ⟨k1, k2.mono ?_⟩
    rintro e w' ⟨r, rfl, x, ι', rfl, _, h9, h10⟩
    exact ⟨x, ι, rfl, ι.le_refl, hsr.later ⟨h9.below.os, h9.below.tape, h9.below.output, h9.below.size, fun k hk => h9.below.block k (.inr hk)⟩, pureV_VR hv h10⟩

/-! ### The pressing of a block of whatever bytes -/
def wordZ (a b c d : Int) : Int := orI (shlF .u32 (orI (shlF .u32 (orI (shlF .u32 (orI (shlF .u32 0 8) (wrapF .u32 a)) 8) (wrapF .u32 b)) 8) (wrapF .u32 c)) 8) (wrapF .u32 d)
def wordsZ : List Int → List Int → List Int
  | a :: b :: c :: d :: l, acc => wordsZ l (wordZ a b c d :: acc)
  | _, acc => acc
def pressZ (s : S8) (bs : List Int) : S8 :=
  match rnds shaK (extW 48 (wordsZ bs [])).reverse s with
  | ⟨a, b, c, d, e, f, g, h⟩ => ⟨addI a s.a, addI b s.b, addI c s.c, addI d s.d, addI e s.e, addI f s.f, addI g s.g, addI h s.h⟩

def sumPressZ (fp : Nat) : CallT := fun fn args st =>
  bif Nat.beq fp fn then
    match args with
    | [k, .agg [.int .u32 a, .int .u32 b, .int .u32 c, .int .u32 d, .int .u32 e, .int .u32 f, .int .u32 g, .int .u32 h], .slice (some (i, o)) len _] =>
      bif Nat.beq len 64 then
        bif avEq k shaKv then
          match st.h.get i with
          | some (.cells cs _) =>
            match takeL cs o 64 with
            | some l =>
              match bytesZ l with
              | some bs => some ((pressZ ⟨a, b, c, d, e, f, g, h⟩ bs).av, st)
              | none => none
            | none => none
          | _ => none
        else none
      else none
    | _ => none
  else none

theorem list_of_range (bs : List Int) : bs = (List.range bs.length).map fun j => bs.getD j 0 := by
  apply List.ext_getElem?
  intro j
  by_cases hj : j < bs.length
  · simp [hj]
  · simp [hj]

theorem sumPressZ_ok {P : Program} {E : Env} (hE : E.Ok P) {sum : CallT} (hs : CallsOK P sum) {n fp : Nat}
    (hrun : ∀ (s : S8) (b : Nat → Int), ans ((M E (drawA E) sum n).call fp [shaKv, s.av, .slice (some (0, 0)) 64 (.atl 64)] (stZ ((List.range 64).map b))) = some (pressZ s ((List.range 64).map b)).av) :
    CallsOK P (sumPressZ fp) := by
  intro B w0 fn args st r h ι w args' hsr hv
  unfold sumPressZ at h
  cases hf : Nat.beq fp fn
  · simp [hf] at h
  simp only [hf, cond_true] at h
  have := nbeq hf
  subst this
  split at h
  rotate_left
  · simp at h
  rename_i k a b c d e f g hh i o len cap
  cases hl : Nat.beq len 64
  · simp [hl] at h
  simp only [hl, cond_true] at h
  have := nbeq hl
  subst this
  cases hk : avEq k shaKv
  · simp [hk] at h
  simp only [hk, cond_true] at h
  have := avEq_eq _ _ hk
  subst this
  split at h
  rotate_left
  · simp at h
  rename_i cs rw hi
  split at h
  rotate_left
  · simp at h
  rename_i l hl
  split at h
  rotate_left
  · simp at h
  rename_i bs hbs
  simp only [Option.some.injEq] at h
  have hll := (takeL_ok hl).1
  have hb := bytesZ_eq hbs
  have hlen : bs.length = 64 := by rw [hb] at hll; simpa using hll
  have hbl := list_of_range bs
  rw [hlen] at hbl
  have hr := hrun ⟨a, b, c, d, e, f, g, hh⟩ fun j => bs.getD j 0
  rw [← hbl] at hr
  have := local_row (pre := [shaKv, S8.av ⟨a, b, c, d, e, f, g, hh⟩]) (bs := bs) (v := (pressZ ⟨a, b, c, d, e, f, g, hh⟩ bs).av) (f := fp) (by omega)
    (by simp only [List.all_cons, List.all_nil, shaKv_pure, S8.pure, Bool.and_self]) (S8.pure _) (.of_run hE hs (n := n) (by rw [hlen]; exact hr)) hsr hi (by rw [hlen, hl, hb]) (args' := args') (cap := cap) (by rw [hlen]; exact hv)
  rw [← h]
  exact this

/-! ### The hash of bytes, as the text reckons it -/
def lenZ (n : Int) (i : Nat) : Int := wrapF .u8 (shrF (wrapF .u64 (wrapF .u64 n * 8)) (56 - 8 * i))
/-- what is pressed behind the whole blocks: of so many bytes left -/
def tailL (r : Nat) (t : Nat → Int) (n : Int) : List Int := (List.range r).map t ++ (128 :: (List.replicate ((119 - r) % 64) 0 ++ (List.range 8).map (lenZ n)))
def tailZ (r : Nat) (t : Nat → Int) (n : Int) (s : S8) : S8 :=
  bif Nat.blt r 56 then pressZ s (tailL r t n) else pressZ (pressZ s ((tailL r t n).take 64)) ((tailL r t n).drop 64)
def headZ (b : Nat → Int) : Nat → S8
  | 0 => shaS0
  | q + 1 => pressZ (headZ b q) ((List.range 64).map fun i => b (64 * q + i))
def sumZ (n : Nat) (b : Nat → Int) : S8 := tailZ (n % 64) (fun i => b (64 * (n / 64) + i)) (.ofNat n) (headZ b (n / 64))
end
end Go.Ax
