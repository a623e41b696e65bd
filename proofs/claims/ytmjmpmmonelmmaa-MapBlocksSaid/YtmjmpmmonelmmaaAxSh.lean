/-
  OWN WORK, TOLD ONCE FOR ALL TEXTS YtmjmpmmonelmmaaAxA TO YtmjmpmmonelmmaaAxU: an abstract machine for the program's text that the kernel can run, and the proof that it is sound: what it answers is what the program answers. No condition.
-/
import Derived.Test.YtmjmpmmonelmmaaAxZ
namespace Go.Ax
noncomputable section
open Go.RowKit

/-! ### SHA-256's pressing of a block, as the machine reckons it -/
def orI (x y : Int) : Int := wrapF .u32 (.ofNat (Nat.lor (modN x 4294967296) (modN y 4294967296)))
def xorI (x y : Int) : Int := wrapF .u32 (.ofNat (Nat.xor (modN x 4294967296) (modN y 4294967296)))
def andI (x y : Int) : Int := wrapF .u32 (.ofNat (Nat.land (modN x 4294967296) (modN y 4294967296)))
def notI (y : Int) : Int := wrapF .u32 (.ofNat (Nat.xor (modN 4294967295 4294967296) (modN y 4294967296)))
def addI (x y : Int) : Int := wrapF .u32 (x + y)
def rotI (x : Int) (n : Nat) : Int := orI (shlF .u32 x (32 - n)) (shrF x n)
def word (a b c d : Nat) : Int := orI (shlF .u32 (orI (shlF .u32 (orI (shlF .u32 (orI (shlF .u32 0 8) (wrapF .u32 (.ofNat a))) 8) (wrapF .u32 (.ofNat b))) 8) (wrapF .u32 (.ofNat c))) 8) (wrapF .u32 (.ofNat d))
def words : List Nat → List Int → List Int
  | a :: b :: c :: d :: l, acc => words l (word a b c d :: acc)
  | _, acc => acc
def nextW (w16 x w7 y : Int) : Int := addI (addI (addI w16 (xorI (xorI (rotI x 7) (rotI x 18)) (shrF x 3))) w7) (xorI (xorI (rotI y 17) (rotI y 19)) (shrF y 10))
def extW : Nat → List Int → List Int
  | 0, l => l
  | n + 1, l => extW n (nextW (l.getD 15 0) (l.getD 14 0) (l.getD 6 0) (l.getD 1 0) :: l)
structure S8 where
  a : Int
  b : Int
  c : Int
  d : Int
  e : Int
  f : Int
  g : Int
  h : Int
def rnd (k w : Int) (s : S8) : S8 :=
  match s with
  | ⟨a, b, c, d, e, f, g, h⟩ =>
    let x := addI (addI (addI (addI h (xorI (xorI (rotI e 6) (rotI e 11)) (rotI e 25))) (xorI (andI e f) (andI (notI e) g))) k) w
    let y := addI (xorI (xorI (rotI a 2) (rotI a 13)) (rotI a 22)) (xorI (xorI (andI a b) (andI a c)) (andI b c))
    ⟨addI x y, a, b, c, addI d x, e, f, g⟩
def rnds : List Int → List Int → S8 → S8
  | k :: ks, w :: ws, s => rnds ks ws (rnd k w s)
  | _, _, s => s
def shaK : List Int := [0x428a2f98, 0x71374491, 0xb5c0fbcf, 0xe9b5dba5, 0x3956c25b, 0x59f111f1, 0x923f82a4, 0xab1c5ed5, 0xd807aa98, 0x12835b01, 0x243185be, 0x550c7dc3, 0x72be5d74, 0x80deb1fe, 0x9bdc06a7, 0xc19bf174, 0xe49b69c1, 0xefbe4786, 0x0fc19dc6, 0x240ca1cc, 0x2de92c6f, 0x4a7484aa, 0x5cb0a9dc, 0x76f988da, 0x983e5152, 0xa831c66d, 0xb00327c8, 0xbf597fc7, 0xc6e00bf3, 0xd5a79147, 0x06ca6351, 0x14292967, 0x27b70a85, 0x2e1b2138, 0x4d2c6dfc, 0x53380d13, 0x650a7354, 0x766a0abb, 0x81c2c92e, 0x92722c85, 0xa2bfe8a1, 0xa81a664b, 0xc24b8b70, 0xc76c51a3, 0xd192e819, 0xd6990624, 0xf40e3585, 0x106aa070, 0x19a4c116, 0x1e376c08, 0x2748774c, 0x34b0bcb5, 0x391c0cb3, 0x4ed8aa4a, 0x5b9cca4f, 0x682e6ff3, 0x748f82ee, 0x78a5636f, 0x84c87814, 0x8cc70208, 0x90befffa, 0xa4506ceb, 0xbef9a3f7, 0xc67178f2]
def pressI (s : S8) (bs : List Nat) : S8 :=
  match rnds shaK (extW 48 (words bs [])).reverse s with
  | ⟨a, b, c, d, e, f, g, h⟩ => ⟨addI a s.a, addI b s.b, addI c s.c, addI d s.d, addI e s.e, addI f s.f, addI g s.g, addI h s.h⟩
def S8.av (s : S8) : AV := .agg [.int .u32 s.a, .int .u32 s.b, .int .u32 s.c, .int .u32 s.d, .int .u32 s.e, .int .u32 s.f, .int .u32 s.g, .int .u32 s.h]
def shaKv : AV := .agg (shaK.map (AV.int .u32))

/-- 'turn' only computes -/
def turnA : List AV → Option AV
  | [.int .u32 x, .int .i64 (.ofNat n)] => bif memN n [2, 6, 7, 11, 13, 17, 18, 19, 22, 25] then some (.int .u32 (rotI x n)) else none
  | _ => none

/-! ### A call that looks at a row of bytes, at most, and turns nothing -/
def bytesN : List AV → Option (List Nat)
  | [] => some []
  | v :: vs =>
    match v with
    | .int k n =>
      match k with
      | .u8 =>
        match n with
        | .ofNat n => match bytesN vs with | some l => some (n :: l) | none => none
        | .negSucc _ => none
      | _ => none
    | _ => none

theorem bytesN_eq : ∀ {l : List AV} {bs : List Nat}, bytesN l = some bs → l = bs.map fun b => AV.int .u8 (.ofNat b)
  | [], bs, h => by simp [bytesN] at h; subst h; rfl
  | v :: vs, bs, h => by
    unfold bytesN at h
    split at h
    · split at h
      · split at h
        · split at h
          · rename_i l hl
            simp only [Option.some.injEq] at h; subst h
            rw [bytesN_eq hl]; rfl
          · simp at h
        · simp at h
      · simp at h
    · simp at h

/-- a memory of one row of bytes -/
def stB (bs : List Nat) : ASt := { h := T.set D .e 0 (.cells (bs.map fun b => AV.int .u8 (.ofNat b)) false), next := 1 }

def ans : Option (AV × ASt) → Option AV
  | some (v, _) => some v
  | none => none

theorem ans_some {q : Option (AV × ASt)} {v : AV} (h : ans q = some v) : ∃ st, q = some (v, st) := by
  match q, h with
  | some (x, st), h => simp only [ans, Option.some.injEq] at h; subst h; exact ⟨st, rfl⟩

/-- such a call, out of its run at that memory -/
theorem local_bytes {P : Program} {E : Env} (hE : E.Ok P) {sum : CallT} (hs : CallsOK P sum) {n f : Nat} {pre : List AV} {bs : List Nat} {v : AV} (hz : bs.length ≠ 0) (hp : pre.all pureV = true) (hv : pureV v = true)
    (hrun : ans ((M E (drawA E) sum n).call f (pre ++ [.slice (some (0, 0)) bs.length (.atl bs.length)]) (stB bs)) = some v)
    {B : Prot} {w0 : World} {ι : Ren} {st : ASt} {w : World} (hsr : SR B w0 ι st w) {i o : Nat} {cap : Cap} {cs : List AV} {rw : Bool} (hi : st.h.get i = some (.cells cs rw))
    (hcs : takeL cs o bs.length = some (bs.map fun b => AV.int .u8 (.ofNat b))) {args' : Array Value} (hargs : VRs ι (pre ++ [.slice (some (i, o)) bs.length cap]) args') :
    (callFunc f args').run P w = .ok (.enter f args') w ∧ CallsIn Fence.wide 0 P f args' w (Post B w0 ι (v, st)) := by
  obtain ⟨st2, hq⟩ := ans_some hrun
  have hlast := hargs.get (i := pre.length) (v := .slice (some (i, o)) bs.length cap) (by simp)
  obtain ⟨y, hy, hyv⟩ := hlast
  cases hyv with
  | slice _ _ _ c' L _ hL hcap hle =>
    obtain ⟨L', ob, h1, h2, c, e, lo, hi', h3, h4, h5, h6, h7, h8⟩ := hsr.obj i _ hi (by simp)
    rw [hL] at h1; cases h1
    rw [h3] at h2
    obtain ⟨t1, t2⟩ := takeL_ok hcs
    have hlt : L.b < w.heap.size := (Array.getElem?_eq_some_iff.1 h2).1
    have hlen : bs.length ≠ 0 → o + bs.length ≤ cs.length := fun hne => by
      have := t2 (bs.length - 1) (by omega)
      rw [List.getElem?_eq_getElem (by simp; omega)] at this
      have := (List.getElem?_eq_some_iff.1 this.symm).1
      omega
    let ι1 : Ren := fun j => if j = 0 then some ⟨L.b, L.p + o, L.tot⟩ else none
    let B1 : Prot := ⟨fun k => k = L.b, fun k => k < w.heap.size, fun _ => False⟩
    have hg : ∀ j, (stB bs).h.get j = if j = 0 then some (.cells (bs.map fun b => AV.int .u8 (.ofNat b)) false) else none := fun j => by
      show (T.set D .e 0 _).get j = _
      rw [T.get_set, T.get_e]
    have hob : ∀ (k : Nat) v v', (bs.map fun b => AV.int .u8 (.ofNat b))[k]? = some v → c[L.p + o + k]? = some v' → VR ι1 v v' := fun k v v' hk hk' => by
      have hkl : k < bs.length := by have := (List.getElem?_eq_some_iff.1 hk).1; simpa using this
      have hk2 := hk
      rw [t2 k hkl] at hk2
      have := h7 (o + k) v v' hk2 (by rw [← hk']; congr 1; omega)
      simp only [List.getElem?_map] at hk
      cases hb : bs[k]? with
      | none => rw [hb] at hk; simp at hk
      | some b => rw [hb] at hk; simp at hk; subst hk; cases this; exact .int _ _
    have hsr1 : SR B1 w ι1 (stB bs) w := by
      refine ⟨Keeps.refl _ _, ?_, ?_, ?_, ?_, ?_, ?_, fun i hi => hi.elim, fun g cs hg => ⟨.inr (hsr.globw g cs hg).lt, hsr.globw g cs hg⟩⟩
      · rintro k (hk | hk)
        · exact hk ▸ hlt
        · exact hk
      · intro j a hj hd
        rw [hg] at hj
        by_cases e : j = 0
        · subst e
          simp only [if_true, Option.some.injEq] at hj; subst hj
          refine ⟨⟨L.b, L.p + o, L.tot⟩, .cells c e (lo, hi'), rfl, h2, c, e, lo, hi', rfl, h4, ?_, ?_, hob, fun h => by cases h⟩
          · have := hlen hz; simp; omega
          · intro x hx; simp at hx; obtain ⟨b, _, rfl⟩ := hx; rfl
        · simp [e] at hj
      · intro j a L' hj ho hL'
        rw [hg] at hj
        by_cases e : j = 0
        · simp only [e, if_true, Option.some.injEq] at hj; subst hj; cases ho
        · simp [e] at hj
      · intro j L' hj
        simp only [ι1] at hj
        by_cases e : j = 0
        · subst e; show 0 < 1; omega
        · simp [e] at hj
      · intro j a hj
        rw [hg] at hj
        by_cases e : j = 0
        · subst e; show 0 < 1; omega
        · simp [e] at hj
      · intro j a L' hj hd ho hL'
        simp only [ι1] at hL'
        by_cases e : j = 0
        · simp only [e, if_true, Option.some.injEq] at hL'; subst hL'; rfl
        · simp [e] at hL'
    have hv1 : VRs ι1 (pre ++ [.slice (some (0, 0)) bs.length (.atl bs.length)]) args' := by
      refine ⟨by have := hargs.size; simpa using this, fun j x x' hx hx' => ?_⟩
      by_cases hj : j < pre.length
      · rw [List.getElem?_append_left hj] at hx
        exact pureV_VR (List.all_eq_true.1 hp x (List.mem_of_getElem? hx)) (hargs.at_ j x x' (by rw [List.getElem?_append_left hj]; exact hx) hx')
      · have hj2 : j = pre.length := by have := (List.getElem?_eq_some_iff.1 hx).1; simp at this; omega
        subst hj2
        simp at hx; subst hx
        rw [hy] at hx'; cases hx'
        have := VR.slice (ι := ι1) 0 0 bs.length c' ⟨L.b, L.p + o, L.tot⟩ (.atl bs.length) rfl hle hle
        simpa using this
    obtain ⟨k1, k2⟩ := (M_ok hE (drawA_ok hE) hs n).call B1 w f _ _ _ hq ι1 w args' hsr1 hv1
    refine ⟨k1, k2.mono ?_⟩
    rintro e w' ⟨x, ι', rfl, _, h9, h10⟩
    exact ⟨x, ι, rfl, ι.le_refl, hsr.later ⟨h9.below.os, h9.below.tape, h9.below.output, h9.below.size, fun k hk => h9.below.block k (.inr hk)⟩, pureV_VR hv h10⟩

/-! ### Several summaries -/
def orC (s t : CallT) : CallT := fun f args st => match s f args st with | some r => some r | none => t f args st

theorem orC_ok {P : Program} {s t : CallT} (hs : CallsOK P s) (ht : CallsOK P t) : CallsOK P (orC s t) := fun B w0 f args st r h => by
  simp only [orC] at h
  split at h
  · rename_i x hx
    simp only [Option.some.injEq] at h; subst h
    exact hs B w0 f args st _ hx
  · exact ht B w0 f args st r h

/-! ### 'press' -/
def forceI {α : Type} (x : Int) (k : Int → α) : α :=
  match x with
  | .ofNat n => force n fun m => k (.ofNat m)
  | .negSucc n => k (.negSucc n)
theorem forceI_eq {α : Type} (x : Int) (k : Int → α) : forceI x k = k x := by cases x <;> simp [forceI, force_eq]

def S8.force (s : S8) (k : AV → Option (AV × ASt)) : Option (AV × ASt) :=
  match s with
  | ⟨a, b, c, d, e, f, g, h⟩ => forceI a fun a => forceI b fun b => forceI c fun c => forceI d fun d => forceI e fun e => forceI f fun f => forceI g fun g => forceI h fun h => k (S8.av ⟨a, b, c, d, e, f, g, h⟩)
theorem S8.force_eq (s : S8) (k : AV → Option (AV × ASt)) : s.force k = k s.av := by
  obtain ⟨a, b, c, d, e, f, g, h⟩ := s
  simp only [S8.force, forceI_eq]

def sumPress (fp : Nat) : CallT := fun fn args st =>
  bif Nat.beq fp fn then
    match args with
    | [k, .agg [.int .u32 a, .int .u32 b, .int .u32 c, .int .u32 d, .int .u32 e, .int .u32 f, .int .u32 g, .int .u32 h], .slice (some (i, o)) len _] =>
      bif Nat.beq len 64 then
        bif avEq k shaKv then
          match st.h.get i with
          | some (.cells cs _) =>
            match takeL cs o 64 with
            | some l =>
              match bytesN l with
              | some bs => (pressI ⟨a, b, c, d, e, f, g, h⟩ bs).force fun v => some (v, st)
              | none => none
            | none => none
          | _ => none
        else none
      else none
    | _ => none
  else none

theorem S8.pure (s : S8) : pureV s.av = true := rfl
theorem shaKv_pure : pureV shaKv = true := by
  show (shaK.map (AV.int .u32)).all pureC = true
  rw [List.all_map]; exact List.all_eq_true.2 fun _ _ => rfl

theorem sumPress_ok {P : Program} {E : Env} (hE : E.Ok P) {sum : CallT} (hs : CallsOK P sum) {n fp : Nat}
    (hrun : ∀ (s : S8) (b : Nat → Nat), ans ((M E (drawA E) sum n).call fp [shaKv, s.av, .slice (some (0, 0)) 64 (.atl 64)] (stB ((List.range 64).map b))) = some (pressI s ((List.range 64).map b)).av) :
    CallsOK P (sumPress fp) := by
  intro B w0 fn args st r h ι w args' hsr hv
  unfold sumPress at h
  cases hf : Nat.beq fp fn
  · simp [hf] at h
  simp only [hf, cond_true] at h
  have := nbeq hf
  subst this
  split at h
  rotate_left
  · simp at h
  rename_i k a b c d e f g hh i o len cap
  cases hl : Nat.beq len 64
  · simp [hl] at h
  simp only [hl, cond_true] at h
  have := nbeq hl
  subst this
  cases hk : avEq k shaKv
  · simp [hk] at h
  simp only [hk, cond_true] at h
  have := avEq_eq _ _ hk
  subst this
  split at h
  rotate_left
  · simp at h
  rename_i cs rw hi
  split at h
  rotate_left
  · simp at h
  rename_i l hl
  split at h
  rotate_left
  · simp at h
  rename_i bs hbs
  rw [S8.force_eq] at h
  simp only [Option.some.injEq] at h
  have hll := (takeL_ok hl).1
  have hb := bytesN_eq hbs
  have hlen : bs.length = 64 := by rw [hb] at hll; simpa using hll
  have hbl : bs = (List.range 64).map fun j => bs.getD j 0 := by
    apply List.ext_getElem?
    intro j
    by_cases hj : j < 64
    · have hj' : j < bs.length := by omega
      simp [hj, hj']
    · have hj' : ¬ j < bs.length := by omega
      simp [hj]; omega
  have hr := hrun ⟨a, b, c, d, e, f, g, hh⟩ fun j => bs.getD j 0
  rw [← hbl] at hr
  have := local_bytes (pre := [shaKv, S8.av ⟨a, b, c, d, e, f, g, hh⟩]) (bs := bs) (v := (pressI ⟨a, b, c, d, e, f, g, hh⟩ bs).av) hE hs (n := n) (f := fp) (by omega)
    (by simp only [List.all_cons, List.all_nil, shaKv_pure, S8.pure, Bool.and_self]) (S8.pure _) (by rw [hlen]; exact hr) hsr hi (by rw [hlen, hl, hb]) (args' := args') (cap := cap) (by rw [hlen]; exact hv)
  rw [← h]
  exact this
end
end Go.Ax
