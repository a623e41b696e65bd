/-
  OWN WORK, TOLD ONCE FOR ALL TEXTS YtmjmpmmonelmmaaAxA TO YtmjmpmmonelmmaaAxU: an abstract machine for the program's text that the kernel can run, and the proof that it is sound: what it answers is what the program answers. No condition.
-/
import Derived.Test.YtmjmpmmonelmmaaAxLf
namespace Go.Ax
noncomputable section
open Go.RowKit

/-! ### A contract at a small memory, used at any -/
/-- what a call answers at a memory that is told whole -/
def AtMem (P : Program) (f : Nat) (args : List AV) (st : ASt) (v : AV) : Prop :=
  ∀ (B : Prot) w0 ι w args', (∀ i, ¬ B.rs i) → SR B w0 ι st w → VRs ι args args' →
    (callFunc f args').run P w = .ok (.enter f args') w ∧ CallsIn Fence.wide 0 P f args' w fun e w' => ∃ r, r.1 = v ∧ Post B w0 ι r e w'

theorem AtMem.of_trip {P : Program} {E : Env} (hE : E.Ok P) {f : Nat} {fn : Func} {c : Code} (hfn : E.fn.get f = some fn) (hc : fn.body = some c) {args : List AV} (hb : Nat.ble args.length fn.ntmps = true) {st : ASt} {v : AV}
    (h : Trip P st.next none c { m := putArgs args 0 .e, n := fn.ntmps, defs := [] } st fun r => (r.1 = .normal ∨ r.1 = .ret) ∧ ans (leaveA E fn r.2.1 r.2.2) = some v) : AtMem P f args st v := fun B w0 ι w args' hB hsr hv => by
  obtain ⟨h1, h2⟩ := Trip.call hE hfn hc hb (R := fun q => q.1 = v) (h.mono fun r ⟨h1, h2⟩ => by
    obtain ⟨st2, h3⟩ := ans_some h2
    exact ⟨h1, _, h3, rfl⟩) B hB w0 ι w args' hsr hv
  exact ⟨h1, h2⟩

/-- the cells of a memory of which a part is looked at: numbers 'ids', what they hold told alone as 'st1' does -/
structure View (ids : List Nat) (st st1 : ASt) : Prop where
  next : st1.next = ids.length
  obj : ∀ (j : Nat) x, st1.h.get j = some x → ∃ i a cs cs', ids[j]? = some i ∧ x = .cells cs' false ∧ st.h.get i = some (.cells cs a) ∧ renVs ids cs = some cs'

theorem local_roV {P : Program} {f : Nat} {args args1 : List AV} {st1 : ASt} {v : AV} (hrun : AtMem P f args1 st1 v) (hp : ∀ (ι κ : Ren) (x : Value), VR ι v x → VR κ v x) {ids : List Nat}
    {B : Prot} {w0 : World} {ι : Ren} {st : ASt} {w : World} (hsr : SR B w0 ι st w) (hview : View ids st st1) (ha : renVs ids args = some args1) {args' : Array Value} (hargs : VRs ι args args') :
    (callFunc f args').run P w = .ok (.enter f args') w ∧ CallsIn Fence.wide 0 P f args' w (Post B w0 ι (v, st)) := by
  let B1 : Prot := ⟨fun k => k < w.heap.size, fun k => k < w.heap.size, fun _ => False⟩
  have hren : ∀ {j L}, renR ids ι j = some L → ∃ i, ids[j]? = some i ∧ ι i = some L := fun {j L} h => by
    unfold renR at h
    cases hi : ids[j]? with
    | none => rw [hi] at h; cases h
    | some i => rw [hi] at h; exact ⟨i, rfl, h⟩
  have hsr1 : SR B1 w (renR ids ι) st1 w := by
    refine ⟨Keeps.refl _ _, ?_, fun j x hj hd => ?_, fun j x L hj ho hL => ?_, fun j L hL => ?_, fun j x hj => ?_, fun j x L hj hd ho hL => ?_, fun i hi => hi.elim, fun g cs hg => ⟨.inr (hsr.globw g cs hg).lt, hsr.globw g cs hg⟩⟩
    · rintro k (hk | hk) <;> exact hk
    · obtain ⟨i, a, cs, cs', h1, rfl, h2, h3⟩ := hview.obj j x hj
      obtain ⟨L, o, k1, k2, k3⟩ := hsr.obj i _ h2 (by simp)
      refine ⟨L, o, by simp only [renR, h1, k1], k2, ?_⟩
      obtain ⟨g1, g2⟩ := renVs_get h3
      obtain ⟨c, e, lo, hi, q1, q2, q3, q4, q5, q6⟩ := k3
      refine ⟨c, e, lo, hi, q1, q2, by rw [g1]; exact q3, fun y hy => ?_, fun k y y' hy hy' => ?_, fun h => by cases h⟩
      · obtain ⟨n, hn, en⟩ := List.getElem_of_mem hy
        obtain ⟨z, h5, h6⟩ := g2 n y (by simp [hn, en])
        exact renV_cell h6 (q4 z (List.mem_of_getElem? h5))
      · obtain ⟨z, h5, h6⟩ := g2 k y hy
        exact (q5 k z y' h5 hy').ren y h6
    · obtain ⟨i, a, cs, cs', h1, rfl, h2, h3⟩ := hview.obj j x hj
      cases ho
    · obtain ⟨i, h1, h2⟩ := hren hL
      rw [hview.next]; exact (List.getElem?_eq_some_iff.1 h1).1
    · obtain ⟨i, a, cs, cs', h1, _⟩ := hview.obj j x hj
      rw [hview.next]; exact (List.getElem?_eq_some_iff.1 h1).1
    · obtain ⟨i, a, cs, cs', h1, rfl, h2, h3⟩ := hview.obj j x hj
      obtain ⟨i', h1', hL'⟩ := hren hL
      obtain ⟨L0, o, k1, k2, k3⟩ := hsr.obj i' (.cells cs a) (by rw [h1] at h1'; cases h1'; exact h2) (by simp)
      rw [k1] at hL'; cases hL'
      exact (Array.getElem?_eq_some_iff.1 k2).1
  have hv1 : VRs (renR ids ι) args1 args' := by
    obtain ⟨g1, g2⟩ := renVs_get ha
    refine ⟨g1.trans hargs.size, fun k y y' hy hy' => ?_⟩
    obtain ⟨z, h5, h6⟩ := g2 k y hy
    exact (hargs.at_ k z y' h5 hy').ren y h6
  obtain ⟨k1, k2⟩ := hrun B1 w (renR ids ι) w args' (fun _ h => h) hsr1 hv1
  refine ⟨k1, k2.mono ?_⟩
  rintro e w' ⟨r, rfl, x, ι', rfl, _, h9, h10⟩
  exact ⟨x, ι, rfl, ι.le_refl, hsr.later ⟨h9.below.os, h9.below.tape, h9.below.output, h9.below.size, fun k hk => h9.below.block k (.inl hk)⟩, hp _ _ _ h10⟩

theorem local_ro {P : Program} {f : Nat} {args args1 : List AV} {st1 : ASt} {v : AV} (hrun : AtMem P f args1 st1 v) (hp : pureV v = true) {ids : List Nat}
    {B : Prot} {w0 : World} {ι : Ren} {st : ASt} {w : World} (hsr : SR B w0 ι st w) (hview : View ids st st1) (ha : renVs ids args = some args1) {args' : Array Value} (hargs : VRs ι args args') :
    (callFunc f args').run P w = .ok (.enter f args') w ∧ CallsIn Fence.wide 0 P f args' w (Post B w0 ι (v, st)) :=
  local_roV hrun (fun _ _ _ h => pureV_VR hp h) hsr hview ha hargs

/-! ### A slice that came in: nil, without elements, or a row -/
structure SlArg (E : Env) (t : TypeId) (z : Nat) (i n : Nat) (v : AV) (o : AO) (cs : List AV) : Prop where
  len : ∀ st, aBuiltinM E .len [t] [v] st = some (.int .i64 (.ofNat n), st)
  idx : ∀ k kd, k < n → aIndexAddr E t v (.int kd (.ofNat k)) = some (.ptr (some (i, 0 + k * z)))
  obj : 0 < n → o = .cells cs false

/-- is a length asked of such a type? -/
def lenT (E : Env) (t : TypeId) : Bool := match E.ty.get t with | some ti => (match ti.desc with | .slice _ => true | _ => false) | none => false

theorem SlArg.row {E : Env} {t : TypeId} {z i n : Nat} {cs : List AV} (hT : sliceT E t = some z) : SlArg E t z i n (.slice (some (i, 0)) n (.atl n)) (.cells cs false) cs := by
  refine ⟨fun st => ?_, fun k kd hk => idx_at hT hk, fun _ => rfl⟩
  unfold sliceT at hT
  split at hT
  · rename_i ti hti
    split at hT
    · rename_i e he
      simp only [aBuiltinM, aBuiltin, aLenB, hti, he]
    · cases hT
  · cases hT
theorem SlArg.none {E : Env} {t : TypeId} {z i : Nat} (hT : sliceT E t = some z) : SlArg E t z i 0 (.slice none 0 (.known 0)) .dead [] := by
  refine ⟨fun st => ?_, fun k kd hk => by omega, fun h => by omega⟩
  unfold sliceT at hT
  split at hT
  · rename_i ti hti
    split at hT
    · rename_i e he
      simp only [aBuiltinM, aBuiltin, aLenB, hti, he]
    · cases hT
  · cases hT
theorem SlArg.zero {E : Env} {t : TypeId} {z i : Nat} (hT : sliceT E t = some z) : SlArg E t z i 0 .slice0 .dead [] := by
  refine ⟨fun st => ?_, fun k kd hk => by omega, fun h => by omega⟩
  unfold sliceT at hT
  split at hT
  · rename_i ti hti
    split at hT
    · rename_i e he
      simp only [aBuiltinM, aBuiltin, aLenB, hti, he]
    · cases hT
  · cases hT

/-! ### Frames whose values stay -/
theorem frE_xFr {ids : List Nat} {lf : List (Nat × AV)} {N : Nat} : ∀ {ks : List (Nat × AV)}, (∀ p, p ∈ ks → p.1 < N ∧ lkp p.1 lf = p.2 ∧ renV ids p.2 = some p.2) → frE ids (xFr lf N) (ks.map (·.1)) = some ks
  | [], _ => rfl
  | p :: ks, h => by
    obtain ⟨h1, h2, h3⟩ := h p List.mem_cons_self
    have ih := frE_xFr (lf := lf) (N := N) (ks := ks) fun q hq => h q (List.mem_cons_of_mem _ hq)
    have hg : ((xFr lf N).m.get p.1).getD undefA = p.2 := by rw [xFr_get, if_pos h1, h2]
    simp only [List.map_cons, frE, hg, h3, ih]

/-- a value whose numbers are below k -/
def KeptV (k : Nat) (v : AV) : Prop := ∀ ids, preB k 0 ids = true → renV ids v = some v

theorem idx_pre : ∀ {xs : List Nat} {k n i : Nat}, preB n k xs = true → i < n → idxN xs (k + i) k = some (k + i)
  | [], k, n, i, h, hi => by cases n with | zero => omega | succ n => cases h
  | x :: xs, k, n, i, h, hi => by
    cases n with
    | zero => omega
    | succ n =>
      unfold preB at h
      cases hb : Nat.beq x k
      · rw [hb] at h; cases h
      · rw [hb, cond_true] at h
        have := nbeq hb
        subst this
        cases i with
        | zero => simp [idxN]
        | succ i =>
          have ih := idx_pre (k := x + 1) (i := i) h (by omega)
          have hne : Nat.beq x (x + (i + 1)) = false := beq_f (by omega)
          simp only [idxN, hne, cond_false]
          rw [show x + (i + 1) = x + 1 + i by omega]
          exact ih

theorem KeptV.row {k i o n : Nat} {c : Cap} (h : i < k) : KeptV k (.slice (some (i, o)) n c) := fun ids hp => by
  have := idx_pre (k := 0) (i := i) hp h
  rw [Nat.zero_add] at this
  simp only [renV, this]
theorem KeptV.none {k n : Nat} {c : Cap} : KeptV k (.slice none n c) := fun _ _ => rfl
theorem KeptV.zero {k : Nat} : KeptV k .slice0 := fun _ _ => rfl

/-- an object that came in: nothing, or a row without references -/
def Came (o : AO) : Prop := o = .dead ∨ ∃ cs rw, o = .cells cs rw ∧ ∀ c, c ∈ cs → refsV 0 c
theorem StP.came {ids : List Nat} {st : ASt} {j i : Nat} {o : AO} {ls : List (Nat × AO)} (ho : Came o) (h1 : ids[j]? = some i) (h2 : st.h.get i = some o) (h : StP ids st ls) : StP ids st ((j, o) :: ls) := by
  rcases ho with rfl | ⟨cs, rw, rfl, hc⟩
  · exact .dead (List.getElem?_eq_some_iff.1 h1).1 h
  · exact .cons i _ h1 h2 (RenO.row hc) h

/-! ### Slices that came in, at the start -/
def rowsRen (W : World) (n : Nat) (rows : Nat → Option (Nat × Nat × List AV)) : Ren := fun i => if i < n then (match rows i with | some r => rowLoc W r | none => none) else none

theorem rowsO_ok {W : World} (hgl : GlobOK W) {n : Nat} {rows : Nat → Option (Nat × Nat × List AV)} (hr : ∀ i r, rows i = some r → r.2.2 ≠ [] ∧ RowAt W r.1 r.2.1 r.2.2) {st : ASt} (hn : st.next = n)
    (hst : ∀ i a, st.h.get i = some a → i < n ∧ (a ≠ .dead → ∃ r, rows i = some r ∧ a = .cells r.2.2 false)) :
    SR ⟨fun k => ∃ i r, i < n ∧ rows i = some r ∧ r.1 = k, fun k => k < W.heap.size, fun _ => False⟩ W (rowsRen W n rows) st W := by
  have hloc : ∀ {i : Nat} {r : Nat × Nat × List AV}, i < n → rows i = some r → ∃ c e lo hi, W.heap[r.1]? = some (.cells c e (lo, hi)) ∧ rowsRen W n rows i = some ⟨r.1, r.2.1, c.size⟩ ∧ r.2.1 + r.2.2.length ≤ c.size ∧ ∀ (k : Nat) v v', r.2.2[k]? = some v → c[r.2.1 + k]? = some v' → ∀ ι, VR ι v v' := fun {i r} hi h => by
    obtain ⟨h0, h1⟩ := hr i r h
    obtain ⟨c, e, lo, hh, k1, k2, k3⟩ := h1.block h0
    exact ⟨c, e, lo, hh, k1, by simp only [rowsRen, hi, if_true, h, rowLoc, k1], k2, k3⟩
  refine ⟨Keeps.refl _ _, ?_, fun i a hi hd => ?_, fun i a L hi ho hL => ?_, fun i L hL => ?_, fun i a hi => ?_, fun i a L hi hd ho hL => ?_, fun i hi => hi.elim, fun g cs hg => ⟨.inr (hgl g cs hg).lt, hgl g cs hg⟩⟩
  · rintro k (⟨i, r, hi, h, rfl⟩ | hk)
    · obtain ⟨c, e, lo, hh, k1, _⟩ := hloc hi h
      exact (Array.getElem?_eq_some_iff.1 k1).1
    · exact hk
  · obtain ⟨hin, h2⟩ := hst i a hi
    obtain ⟨r, h1, rfl⟩ := h2 hd
    obtain ⟨c, e, lo, hh, k1, k2, k3, k4⟩ := hloc hin h1
    obtain ⟨_, hra⟩ := hr i r h1
    exact ⟨_, _, k2, k1, c, e, lo, hh, rfl, rfl, k3, fun v hv => by
      obtain ⟨j, hj, e⟩ := List.getElem_of_mem hv
      exact (hra j v (by rw [← e]; simp [hj])).1, fun k v v' hk hk' => k4 k v v' hk hk' _, fun h => by cases h⟩
  · by_cases hd : a = .dead
    · subst hd; cases ho
    · obtain ⟨r, _, rfl⟩ := (hst i a hi).2 hd
      cases ho
  · unfold rowsRen at hL
    by_cases e : i < n
    · rw [hn]; exact e
    · simp [e] at hL
  · rw [hn]; exact (hst i a hi).1
  · obtain ⟨hin, h2⟩ := hst i a hi
    obtain ⟨r, h1, rfl⟩ := h2 hd
    obtain ⟨c, e, lo, hh, k1, k2, k3, k4⟩ := hloc hin h1
    rw [k2] at hL; cases hL
    exact ⟨i, r, hin, h1, rfl⟩

/-- a slice that came in as argument 'v': how it is told at number 'i' -/
structure ArgAt (E : Env) (W : World) (t : TypeId) (z i n : Nat) (v : Value) (cs : List AV) (vl : AV) (o : AO) (r : Option (Nat × Nat × List AV)) : Prop where
  sl : SlArg E t z i n vl o cs
  came : (∀ c, c ∈ cs → refsV 0 c) → Came o
  kept : ∀ k, i < k → KeptV k vl
  row : ∀ q, r = some q → q.2.2 ≠ [] ∧ RowAt W q.1 q.2.1 q.2.2
  obj : o ≠ .dead → ∃ q, r = some q ∧ o = .cells q.2.2 false
  vr : ∀ ι : Ren, (∀ q, r = some q → ∃ tot, ι i = some ⟨q.1, q.2.1, tot⟩) → VR ι vl v

theorem ArgAt.mk_nil {E : Env} {W : World} {t : TypeId} {z i : Nat} (hT : sliceT E t = some z) : ArgAt E W t z i 0 (.slice none 0 0) [] (.slice none 0 (.known 0)) .dead Option.none :=
  ⟨SlArg.none hT, fun _ => .inl rfl, fun _ _ => KeptV.none, (fun _ h => by cases h), fun h => absurd rfl h, fun _ _ => VR.sliceN⟩
theorem ArgAt.mk_zero {E : Env} {W : World} {t : TypeId} {z i : Nat} {a : Addr} {c : Nat} (hT : sliceT E t = some z) : ArgAt E W t z i 0 (.slice (some a) 0 c) [] .slice0 .dead Option.none :=
  ⟨SlArg.zero hT, fun _ => .inl rfl, fun _ _ => KeptV.zero, (fun _ h => by cases h), fun h => absurd rfl h, fun _ _ => VR.slice0 _ _⟩
theorem ArgAt.mk_row {E : Env} {W : World} {t : TypeId} {z i n b off cap : Nat} {cs : List AV} (hT : sliceT E t = some z) (h0 : cs ≠ []) (hc : n ≤ cap) (hr : RowAt W b off cs) :
    ArgAt E W t z i n (.slice (some ⟨b, off, Option.none⟩) n cap) cs (.slice (some (i, 0)) n (.atl n)) (.cells cs false) (some (b, off, cs)) :=
  ⟨SlArg.row hT, fun h => .inr ⟨cs, false, rfl, h⟩, fun _ h => KeptV.row h, (fun q h => by cases h; exact ⟨h0, hr⟩), fun _ => ⟨_, rfl, rfl⟩, fun ι h => by
    obtain ⟨tot, ht⟩ := h _ rfl
    have := VR.slice (ι := ι) i 0 n cap ⟨b, off, tot⟩ (.atl n) ht hc hc
    simpa using this⟩

theorem rowsRen_at {W : World} {n i : Nat} {rows : Nat → Option (Nat × Nat × List AV)} {r : Nat × Nat × List AV} (hi : i < n) (h : rows i = some r) (h0 : r.2.2 ≠ []) (h1 : RowAt W r.1 r.2.1 r.2.2) : ∃ tot, rowsRen W n rows i = some ⟨r.1, r.2.1, tot⟩ := by
  obtain ⟨c, e, lo, hh, k1, k2, k3⟩ := h1.block h0
  exact ⟨c.size, by simp only [rowsRen, hi, if_true, h, rowLoc, k1]⟩

theorem still_of {st : ASt} {x : Option AV} {v : AV} (h : x = some v) : still st x = some (v, st) := by rw [h]; rfl
end
end Go.Ax
