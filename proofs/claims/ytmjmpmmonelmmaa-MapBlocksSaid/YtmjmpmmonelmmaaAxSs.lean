/-
  OWN WORK, TOLD ONCE FOR ALL TEXTS YtmjmpmmonelmmaaAxA TO YtmjmpmmonelmmaaAxU: an abstract machine for the program's text that the kernel can run, and the proof that it is sound: what it answers is what the program answers. No condition.
-/
import Derived.Test.YtmjmpmmonelmmaaAxSh
namespace Go.Ax
noncomputable section
open Go.RowKit

/-! ### sha.Sum, for given lengths -/
/-- 'sumPress', for open numbers -/
def sumPressL (fp : Nat) : CallT := fun fn args st =>
  bif Nat.beq fp fn then
    match args with
    | [k, .agg [.int .u32 a, .int .u32 b, .int .u32 c, .int .u32 d, .int .u32 e, .int .u32 f, .int .u32 g, .int .u32 h], .slice (some (i, o)) len _] =>
      bif Nat.beq len 64 then
        bif avEq k shaKv then
          match st.h.get i with
          | some (.cells cs _) =>
            match takeL cs o 64 with
            | some l =>
              match bytesN l with
              | some bs => some ((pressI ⟨a, b, c, d, e, f, g, h⟩ bs).av, st)
              | none => none
            | none => none
          | _ => none
        else none
      else none
    | _ => none
  else none

theorem sumPressL_eq (fp : Nat) : sumPressL fp = sumPress fp := by
  funext fn args st
  simp only [sumPressL, sumPress, S8.force_eq]
  rfl

def lenB (n : Nat) : List Nat := [n * 8 / 2 ^ 56 % 256, n * 8 / 2 ^ 48 % 256, n * 8 / 2 ^ 40 % 256, n * 8 / 2 ^ 32 % 256, n * 8 / 2 ^ 24 % 256, n * 8 / 2 ^ 16 % 256, n * 8 / 2 ^ 8 % 256, n * 8 % 256]
def padTail (n : Nat) : List Nat := 128 :: (List.replicate ((119 - n % 64) % 64) 0 ++ lenB n)
def chunks : Nat → List Nat → List (List Nat)
  | 0, _ => []
  | k + 1, l => l.take 64 :: chunks k (l.drop 64)
def shaS0 : S8 := ⟨0x6a09e667, 0xbb67ae85, 0x3c6ef372, 0xa54ff53a, 0x510e527f, 0x9b05688c, 0x1f83d9ab, 0x5be0cd19⟩
def sumI (bs : List Nat) : S8 := (chunks ((bs.length + 72) / 64) (bs ++ padTail bs.length)).foldl pressI shaS0
def outW (w : Int) : List AV := [.int .u8 (wrapF .u8 (shrF w 24)), .int .u8 (wrapF .u8 (shrF w 16)), .int .u8 (wrapF .u8 (shrF w 8)), .int .u8 (wrapF .u8 (shrF w 0))]
def outI (s : S8) : AV := .agg (outW s.a ++ (outW s.b ++ (outW s.c ++ (outW s.d ++ (outW s.e ++ (outW s.f ++ (outW s.g ++ outW s.h)))))))

theorem outI_pure (s : S8) : pureV (outI s) = true := rfl

def S8.forceS {α : Type} (s : S8) (k : S8 → α) : α :=
  match s with
  | ⟨a, b, c, d, e, f, g, h⟩ => forceI a fun a => forceI b fun b => forceI c fun c => forceI d fun d => forceI e fun e => forceI f fun f => forceI g fun g => forceI h fun h => k ⟨a, b, c, d, e, f, g, h⟩
theorem S8.forceS_eq {α : Type} (s : S8) (k : S8 → α) : s.forceS k = k s := by
  obtain ⟨a, b, c, d, e, f, g, h⟩ := s
  simp only [S8.forceS, forceI_eq]
def foldF : List (List Nat) → S8 → S8
  | [], s => s
  | b :: bs, s => (pressI s b).forceS fun t => foldF bs t
theorem foldF_eq : ∀ (l : List (List Nat)) (s : S8), foldF l s = l.foldl pressI s
  | [], _ => rfl
  | b :: bs, s => by simp only [foldF, S8.forceS_eq, List.foldl_cons, foldF_eq bs]

def sumSum (fs : Nat) (ns : List Nat) : CallT := fun fn args st =>
  bif Nat.beq fs fn then
    match args with
    | [.slice (some (i, o)) len _] =>
      bif memN len ns then
        match st.h.get i with
        | some (.cells cs _) =>
          match takeL cs o len with
          | some l =>
            match bytesN l with
            | some bs => (foldF (chunks ((bs.length + 72) / 64) (bs ++ padTail bs.length)) shaS0).forceS fun s => some (outI s, st)
            | none => none
          | none => none
        | _ => none
      else none
    | _ => none
  else none

theorem sumSum_ok {P : Program} {E : Env} (hE : E.Ok P) {sum : CallT} (hs : CallsOK P sum) {n fs : Nat} {ns : List Nat} (hpos : memN 0 ns = false)
    (hrun : ∀ m, m ∈ ns → ∀ (b : Nat → Nat), ans ((M E (drawA E) sum n).call fs [.slice (some (0, 0)) m (.atl m)] (stB ((List.range m).map b))) = some (outI (sumI ((List.range m).map b)))) :
    CallsOK P (sumSum fs ns) := by
  intro B w0 fn args st r h ι w args' hsr hv
  unfold sumSum at h
  cases hf : Nat.beq fs fn
  · simp [hf] at h
  simp only [hf, cond_true] at h
  have := nbeq hf
  subst this
  split at h
  rotate_left
  · simp at h
  rename_i i o len cap
  cases hm : memN len ns
  · simp [hm] at h
  simp only [hm, cond_true] at h
  split at h
  rotate_left
  · simp at h
  rename_i cs rw hi
  split at h
  rotate_left
  · simp at h
  rename_i l hl
  split at h
  rotate_left
  · simp at h
  rename_i bs hbs
  rw [S8.forceS_eq, foldF_eq] at h
  simp only [Option.some.injEq] at h
  have hll := (takeL_ok hl).1
  have hb := bytesN_eq hbs
  have hlen : bs.length = len := by rw [hb] at hll; simpa using hll
  have hmem : len ∈ ns := by rw [memN_ok] at hm; simpa using hm
  have hz : bs.length ≠ 0 := fun e => by
    rw [hlen] at e; subst e; rw [hm] at hpos; cases hpos
  have hbl : bs = (List.range len).map fun j => bs.getD j 0 := by
    apply List.ext_getElem?
    intro j
    by_cases hj : j < len
    · have hj' : j < bs.length := by omega
      simp [hj, hj']
    · have hj' : ¬ j < bs.length := by omega
      simp [hj]; omega
  have hr := hrun len hmem fun j => bs.getD j 0
  rw [← hbl] at hr
  have := local_bytes (pre := []) (bs := bs) (v := outI (sumI bs)) hE hs (n := n) (f := fs) hz rfl (outI_pure _) (by rw [hlen]; exact hr) hsr hi (by rw [hlen, hl, hb]) (args' := args') (cap := cap) (by rw [hlen]; exact hv)
  rw [← h]
  exact this
end
end Go.Ax
