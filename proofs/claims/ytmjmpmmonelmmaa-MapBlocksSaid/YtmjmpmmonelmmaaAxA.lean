/-
  OWN WORK, TOLD ONCE FOR ALL TEXTS YtmjmpmmonelmmaaAxA TO YtmjmpmmonelmmaaAxU: an abstract machine for the program's text that the kernel can run, and the proof that it is sound: what it answers is what the program answers. No condition.
-/
import Derived.RangeFuncLeaves
import Derived.LoopNIn
import Derived.Below
namespace Go.Ax

/-! ### A map from numbers -/
inductive T (α : Type) where
  | e
  | n (l : T α) (v : Option α) (r : T α)
  | o (t : T α) (k : Nat) (v : α)

/-- by recursors alone: the kernel reckons these fast -/
noncomputable def T.get {α : Type} (t : T α) : Nat → Option α :=
  @T.rec α (fun _ => Nat → Option α) (fun _ => none)
    (fun _ v _ gl gr k => @Nat.rec (fun _ => Option α) v (fun k _ => @Bool.rec (fun _ => Option α) (gr (Nat.div k 2)) (gl (Nat.div k 2)) (Nat.beq (Nat.mod k 2) 0)) k)
    (fun _ j v g k => @Bool.rec (fun _ => Option α) (g k) (some v) (Nat.beq j k)) t

theorem T.get_e {α : Type} (k : Nat) : (T.e : T α).get k = none := rfl
theorem T.get_n0 {α : Type} (l : T α) (v : Option α) (r : T α) : (T.n l v r).get 0 = v := rfl
theorem T.get_n1 {α : Type} (l : T α) (v : Option α) (r : T α) (k : Nat) : (T.n l v r).get (k + 1) = bif Nat.beq (k % 2) 0 then l.get (k / 2) else r.get (k / 2) := by
  show @Bool.rec (fun _ => Option α) (r.get (k / 2)) (l.get (k / 2)) (Nat.beq (k % 2) 0) = _
  cases Nat.beq (k % 2) 0 <;> rfl
theorem T.get_o {α : Type} (t : T α) (j : Nat) (v : α) (k : Nat) : (T.o t j v).get k = bif Nat.beq j k then some v else t.get k := by
  show @Bool.rec (fun _ => Option α) (t.get k) (some v) (Nat.beq j k) = _
  cases Nat.beq j k <;> rfl

noncomputable def T.set {α : Type} (d : Nat) : T α → Nat → α → T α :=
  @Nat.rec (fun _ => T α → Nat → α → T α) (fun t k v => .o t k v)
    (fun _ ih t k v => @T.rec α (fun _ => T α)
      (@Nat.rec (fun _ => T α) (.n .e (some v) .e) (fun k _ => @Bool.rec (fun _ => T α) (.n .e none (ih .e (Nat.div k 2) v)) (.n (ih .e (Nat.div k 2) v) none .e) (Nat.beq (Nat.mod k 2) 0)) k)
      (fun l u r _ _ => @Nat.rec (fun _ => T α) (.n l (some v) r) (fun k _ => @Bool.rec (fun _ => T α) (.n l u (ih r (Nat.div k 2) v)) (.n (ih l (Nat.div k 2) v) u r) (Nat.beq (Nat.mod k 2) 0)) k)
      (fun t j u _ => .o (.o t j u) k v) t) d

theorem T.set_0 {α : Type} (t : T α) (k : Nat) (v : α) : T.set 0 t k v = .o t k v := rfl
theorem T.set_e0 {α : Type} (d : Nat) (v : α) : T.set (d + 1) (.e : T α) 0 v = .n .e (some v) .e := rfl
theorem T.set_e1 {α : Type} (d k : Nat) (v : α) : T.set (d + 1) (.e : T α) (k + 1) v = bif Nat.beq (k % 2) 0 then .n (T.set d .e (k / 2) v) none .e else .n .e none (T.set d .e (k / 2) v) := by
  show @Bool.rec (fun _ => T α) (.n .e none (T.set d .e (k / 2) v)) (.n (T.set d .e (k / 2) v) none .e) (Nat.beq (k % 2) 0) = _
  cases Nat.beq (k % 2) 0 <;> rfl
theorem T.set_n0 {α : Type} (d : Nat) (l : T α) (u : Option α) (r : T α) (v : α) : T.set (d + 1) (.n l u r) 0 v = .n l (some v) r := rfl
theorem T.set_n1 {α : Type} (d k : Nat) (l : T α) (u : Option α) (r : T α) (v : α) :
    T.set (d + 1) (.n l u r) (k + 1) v = bif Nat.beq (k % 2) 0 then .n (T.set d l (k / 2) v) u r else .n l u (T.set d r (k / 2) v) := by
  show @Bool.rec (fun _ => T α) (.n l u (T.set d r (k / 2) v)) (.n (T.set d l (k / 2) v) u r) (Nat.beq (k % 2) 0) = _
  cases Nat.beq (k % 2) 0 <;> rfl
theorem T.set_o {α : Type} (d k j : Nat) (t : T α) (u v : α) : T.set (d + 1) (.o t j u) k v = .o (.o t j u) k v := rfl

theorem beq_half {a b : Nat} {x y : Bool} (ha : Nat.beq (a % 2) 0 = x) (hb : Nat.beq (b % 2) 0 = y) : (x = y → (a / 2 = b / 2 ↔ a = b)) ∧ (x ≠ y → a ≠ b) := by
  have e : ∀ c : Nat, Nat.beq (c % 2) 0 = decide (c % 2 = 0) := fun c => by
    rcases Nat.mod_two_eq_zero_or_one c with h | h <;> rw [h] <;> rfl
  rw [e] at ha hb
  subst ha; subst hb
  refine ⟨fun h => ?_, fun h e => h (by rw [e])⟩
  have h : (a % 2 = 0) = (b % 2 = 0) := by simpa using h
  have h : (a % 2 = 0) ↔ (b % 2 = 0) := by rw [h]
  omega

theorem T.get_set {α : Type} (d : Nat) : ∀ (t : T α) (k : Nat) (v : α) (j : Nat), (T.set d t k v).get j = if j = k then some v else t.get j := by
  have hbeq : ∀ k j : Nat, Nat.beq k j = decide (j = k) := fun k j => by
    by_cases h : j = k
    · subst h; simp
    · have : k ≠ j := fun e => h e.symm
      simp only [h, decide_false]
      cases hb : Nat.beq k j
      · rfl
      · exact absurd (Nat.eq_of_beq_eq_true hb) this
  induction d with
  | zero =>
    intro t k v j
    by_cases h : j = k <;> simp [T.set_0, T.get_o, h, hbeq]
  | succ d ih =>
    intro t k v j
    cases t with
    | e =>
      cases k with
      | zero => cases j <;> simp [T.set_e0, T.get_e, T.get_n0, T.get_n1]
      | succ k =>
        cases hk : Nat.beq (k % 2) 0 <;> cases j with
        | zero => simp [T.set_e1, T.get_e, T.get_n0, hk]
        | succ j =>
          cases hj : Nat.beq (j % 2) 0 <;> have hh := beq_half hj hk <;> simp at hh <;> simp [T.set_e1, T.get_e, T.get_n1, hk, hj, ih, hh]
    | n l u r =>
      cases k with
      | zero => cases j <;> simp [T.set_n0, T.get_n0, T.get_n1]
      | succ k =>
        cases hk : Nat.beq (k % 2) 0 <;> cases j with
        | zero => simp [T.set_n1, T.get_n0, hk]
        | succ j =>
          cases hj : Nat.beq (j % 2) 0 <;> have hh := beq_half hj hk <;> simp at hh <;> simp [T.set_n1, T.get_n1, hk, hj, ih, hh]
    | o t i u =>
      by_cases h : j = k <;> simp [T.set_o, T.get_o, h, hbeq]

attribute [irreducible] T.get T.set

/-! ### Values -/
/-- a slice's capacity: known; whatever is left of its block, in elements of so many cells; or so many at least -/
inductive Cap where
  | known (n : Nat)
  | rest (esz : Nat)
  | atl (n : Nat)

inductive AV where
  | bool (b : Bool)
  | int (k : IntKind) (n : Int)
  | str (s : List Nat)
  | ptr (a : Option (Nat × Nat))
  | slice (a : Option (Nat × Nat)) (len : Nat) (cap : Cap)
  | clos (f : FuncId) (caps : List AV)
  | bound (f : FuncId) (first caps : List AV)
  | yield (l : Nat)
  | nilFunc
  | iface (t : TypeId) (v : AV)
  | nilIface
  | agg (cs : List AV)
  | tuple (vs : List AV)
  | map (r : Option Nat)
  | slice0
  | gptr (g o : Nat)
  | any

instance : Inhabited AV := ⟨.tuple []⟩

def undefA : AV := .tuple []

/-- a value of one cell -/
def AV.isCell : AV → Bool
  | .agg _ => false
  | .tuple _ => false
  | .any => false
  | _ => true

/-- where a block lies: the block, where its first place lies in it, how many places the block has -/
structure Loc where
  b : Nat
  p : Nat
  tot : Nat

abbrev Ren := Nat → Option Loc

def CapR (L : Loc) (o c' : Nat) : Cap → Prop
  | .known n => n = c'
  | .rest e => L.p + o + c' * e = L.tot
  | .atl n => n ≤ c'

inductive VR (ι : Ren) : AV → Value → Prop
  | bool (b : Bool) : VR ι (.bool b) (.bool b)
  | int (k : IntKind) (n : Int) : VR ι (.int k n) (.int k n)
  | str (l : List Nat) (s : ByteArray) (h : s.data.toList.map UInt8.toNat = l) : VR ι (.str l) (.string s)
  | ptrN : VR ι (.ptr none) (.pointer none)
  | ptr (i o : Nat) (L : Loc) (h : ι i = some L) : VR ι (.ptr (some (i, o))) (.pointer (some ⟨L.b, L.p + o, none⟩))
  | sliceN : VR ι (.slice none 0 (.known 0)) (.slice none 0 0)
  | slice (i o l c' : Nat) (L : Loc) (c : Cap) (h : ι i = some L) (hc : CapR L o c' c) (hl : l ≤ c') :
      VR ι (.slice (some (i, o)) l c) (.slice (some ⟨L.b, L.p + o, none⟩) l c')
  | clos (f : FuncId) (cs : List AV) (cs' : Array Value) (hs : cs.length = cs'.size)
      (h : ∀ (i : Nat) v v', cs[i]? = some v → cs'[i]? = some v' → VR ι v v') : VR ι (.clos f cs) (.func (.func f) #[] cs')
  | bound (f : FuncId) (fs cs : List AV) (fs' cs' : Array Value) (hs : cs.length = cs'.size) (hf : fs.length = fs'.size)
      (h : ∀ (i : Nat) v v', cs[i]? = some v → cs'[i]? = some v' → VR ι v v') (g : ∀ (i : Nat) v v', fs[i]? = some v → fs'[i]? = some v' → VR ι v v') : VR ι (.bound f fs cs) (.func (.func f) fs' cs')
  | yield (i : Nat) (L : Loc) (h : ι i = some L) : VR ι (.yield i) (.func (.yield L.b) #[] #[])
  | nilFunc : VR ι .nilFunc .nilFunc
  | iface (t : TypeId) (v : AV) (v' : Value) (h : VR ι v v') : VR ι (.iface t v) (.iface t v')
  | nilIface : VR ι .nilIface .nilIface
  | agg (cs : List AV) (cs' : Array Value) (hs : cs.length = cs'.size) (hc : ∀ v, v ∈ cs → v.isCell = true)
      (h : ∀ (i : Nat) v v', cs[i]? = some v → cs'[i]? = some v' → VR ι v v') : VR ι (.agg cs) (.agg cs')
  | tuple (cs : List AV) (cs' : Array Value) (hs : cs.length = cs'.size)
      (h : ∀ (i : Nat) v v', cs[i]? = some v → cs'[i]? = some v' → VR ι v v') : VR ι (.tuple cs) (.tuple cs')
  | mapN : VR ι (.map none) (.map none)
  | map (i : Nat) (L : Loc) (h : ι i = some L) : VR ι (.map (some i)) (.map (some L.b))
  | slice0 (a : Addr) (c : Nat) : VR ι .slice0 (.slice (some a) 0 c)
  | gptr (g o : Nat) : VR ι (.gptr g o) (.pointer (some ⟨g, o, none⟩))
  | any (v : Value) : VR ι .any v

def Ren.le (ι κ : Ren) : Prop := ∀ i x, ι i = some x → κ i = some x

theorem Ren.le_refl (ι : Ren) : ι.le ι := fun _ _ h => h
theorem Ren.le_trans {ι κ μ : Ren} (h : ι.le κ) (h' : κ.le μ) : ι.le μ := fun i x hx => h' i x (h i x hx)

theorem VR.mono {ι κ : Ren} (hle : ι.le κ) {a : AV} {v : Value} (h : VR ι a v) : VR κ a v := by
  induction h with
  | bool b => exact .bool b
  | int k n => exact .int k n
  | str l s h => exact .str l s h
  | ptrN => exact .ptrN
  | ptr i o L h => exact .ptr i o L (hle _ _ h)
  | sliceN => exact .sliceN
  | slice i o l c' L c h hc hl => exact .slice i o l c' L c (hle _ _ h) hc hl
  | clos f cs cs' hs h ih => exact .clos f cs cs' hs ih
  | bound f fs cs fs' cs' hs hf h g ih ig => exact .bound f fs cs fs' cs' hs hf ih ig
  | yield i L h => exact .yield i L (hle _ _ h)
  | nilFunc => exact .nilFunc
  | iface t v v' h ih => exact .iface t v v' ih
  | nilIface => exact .nilIface
  | agg cs cs' hs hc h ih => exact .agg cs cs' hs hc ih
  | tuple cs cs' hs h ih => exact .tuple cs cs' hs ih
  | mapN => exact .mapN
  | map i L h => exact .map i L (hle _ _ h)
  | slice0 a c => exact .slice0 a c
  | gptr g o => exact .gptr g o
  | any v => exact .any v

/-- rows of values, place by place -/
structure VRs (ι : Ren) (l : List AV) (r : Array Value) : Prop where
  size : l.length = r.size
  at_ : ∀ (i : Nat) v v', l[i]? = some v → r[i]? = some v' → VR ι v v'

theorem VRs.mono {ι κ : Ren} (hle : ι.le κ) {l : List AV} {r : Array Value} (h : VRs ι l r) : VRs κ l r :=
  ⟨h.size, fun i v v' a b => (h.at_ i v v' a b).mono hle⟩

theorem VRs.get {ι : Ren} {l : List AV} {r : Array Value} (h : VRs ι l r) {i : Nat} {v : AV} (hv : l[i]? = some v) : ∃ v', r[i]? = some v' ∧ VR ι v v' := by
  have hi : i < l.length := (List.getElem?_eq_some_iff.1 hv).1
  have hr : i < r.size := h.size ▸ hi
  exact ⟨r[i], by simp [hr], h.at_ i v _ hv (by simp [hr])⟩

theorem VR.cell_of {ι : Ren} {a : AV} {v : Value} (h : VR ι a v) (hc : a.isCell = true) : v.cells = #[v] ∧ (∀ c, v ≠ .agg c) ∧ (∀ c, v ≠ .tuple c) := by
  cases h <;> simp_all [AV.isCell, Value.cells]

/-! ### Constants -/
def ofLeaf : Value → Option AV
  | .bool b => some (.bool b)
  | .int k n => some (.int k n)
  | .string s => some (.str (s.data.toList.map UInt8.toNat))
  | .pointer none => some (.ptr none)
  | .slice none 0 0 => some (.slice none 0 (.known 0))
  | .nilFunc => some .nilFunc
  | .nilIface => some .nilIface
  | .map none => some (.map none)
  | _ => none

def ofLeaves : List Value → Option (List AV)
  | [] => some []
  | v :: vs =>
    match ofLeaf v with
    | some a =>
      match ofLeaves vs with
      | some l => some (a :: l)
      | none => none
    | none => none

def ofValue : Value → Option AV
  | .agg cs =>
    match ofLeaves cs.toList with
    | some l => some (.agg l)
    | none => none
  | v => ofLeaf v

theorem ofLeaf_ok {ι : Ren} {v : Value} {a : AV} (h : ofLeaf v = some a) : VR ι a v ∧ a.isCell = true := by
  unfold ofLeaf at h
  split at h <;> simp only [Option.some.injEq, reduceCtorEq] at h <;> subst h
  · exact ⟨.bool _, rfl⟩
  · exact ⟨.int _ _, rfl⟩
  · exact ⟨.str _ _ rfl, rfl⟩
  · exact ⟨.ptrN, rfl⟩
  · exact ⟨.sliceN, rfl⟩
  · exact ⟨.nilFunc, rfl⟩
  · exact ⟨.nilIface, rfl⟩
  · exact ⟨.mapN, rfl⟩

theorem ofLeaves_ok {ι : Ren} : ∀ (vs : List Value) (l : List AV), ofLeaves vs = some l →
    VRs ι l vs.toArray ∧ ∀ v, v ∈ l → v.isCell = true
  | [], l, h => by simp [ofLeaves] at h; subst h; exact ⟨⟨rfl, fun i v v' h => by simp at h⟩, by simp⟩
  | v :: vs, l, h => by
    simp only [ofLeaves] at h
    split at h
    · rename_i a ha
      split at h
      · rename_i l' hl'
        simp at h; subst h
        obtain ⟨h1, h2⟩ := ofLeaves_ok (ι := ι) vs l' hl'
        refine ⟨⟨by have := h1.size; simp at this; simp [this], fun i x x' hx hx' => ?_⟩, fun x hx => ?_⟩
        · cases i with
          | zero => simp at hx hx'; subst hx; subst hx'; exact (ofLeaf_ok ha).1
          | succ i => simp at hx hx'; exact h1.at_ i x x' hx (by simpa using hx')
        · simp at hx; rcases hx with rfl | hx
          · exact (ofLeaf_ok (ι := ι) ha).2
          · exact h2 x hx
      · simp at h
    · simp at h

theorem ofValue_ok {ι : Ren} {v : Value} {a : AV} (h : ofValue v = some a) : VR ι a v := by
  unfold ofValue at h
  split at h
  · rename_i cs
    split at h
    · rename_i l hl
      simp at h; subst h
      obtain ⟨h1, h2⟩ := ofLeaves_ok (ι := ι) _ _ hl
      exact .agg l cs (by simpa using h1.size) h2 (by simpa using h1.at_)
    · simp at h
  · exact (ofLeaf_ok h).1

/-! ### The program's variables that are read -/
/-- by their numbers, what they hold (a table of the seat) -/
def glV : Nat → Option (List AV) := fun _ => none

structure GlobAt (w : World) (g : Nat) (cs : List AV) : Prop where
  cell : ∀ v, v ∈ cs → v.isCell = true
  at_ : ∃ c e m, w.heap[g]? = some (.cells c e m) ∧ cs.length = c.size ∧ ∀ (k : Nat) v v', cs[k]? = some v → c[k]? = some v' → ∀ ι, VR ι v v'

def GlobOK (w : World) : Prop := ∀ g cs, glV g = some cs → GlobAt w g cs

theorem GlobAt.lt {w : World} {g : Nat} {cs : List AV} (h : GlobAt w g cs) : g < w.heap.size := by
  obtain ⟨c, e, m, h1, _⟩ := h.at_
  exact (Array.getElem?_eq_some_iff.1 h1).1

theorem GlobAt.to {w w' : World} {g : Nat} {cs : List AV} (h : GlobAt w g cs) (he : w'.heap[g]? = w.heap[g]?) : GlobAt w' g cs :=
  ⟨h.cell, by rw [he]; exact h.at_⟩

end Go.Ax
