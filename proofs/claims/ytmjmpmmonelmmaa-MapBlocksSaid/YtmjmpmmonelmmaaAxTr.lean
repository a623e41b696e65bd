/-
  OWN WORK, TOLD ONCE FOR ALL TEXTS YtmjmpmmonelmmaaAxA TO YtmjmpmmonelmmaaAxU: an abstract machine for the program's text that the kernel can run, and the proof that it is sound: what it answers is what the program answers. No condition.
-/
import Derived.Test.YtmjmpmmonelmmaaAxTm
namespace Go.Ax
noncomputable section
open Go.RowKit

/-! ### What a piece of text comes to, from every world that a frame and a memory tell -/
/-- what was told ahead stays told: below 'kb' -/
structure Base (B : Prot) (kb : Nat) (κ : Ren) : Prop where
  rs : ∀ i, ¬ B.rs i
  dom : ∀ i L, κ i = some L → i < kb

def TrPost (B : Prot) (w0 : World) (κ : Ren) (Q : Exit × AFr × ASt → Prop) (e : Exit) (a' : Act) (w' : World) : Prop :=
  ∃ r, Q r ∧ e = r.1 ∧ ∃ ι', κ.le ι' ∧ SR B w0 ι' r.2.2 w' ∧ FRA ι' r.2.1 a'

def Trip (P : Program) (kb : Nat) (ro : Option Nat) (c : Code) (fr : AFr) (st : ASt) (Q : Exit × AFr × ASt → Prop) : Prop :=
  ∀ B w0 κ, Base B kb κ → ∀ ι w a rl, κ.le ι → SR B w0 ι st w → FRA ι fr a → RO κ ro rl → c.wpIn (FF rl) 0 P (TrPost B w0 κ Q) a w

/-- a frame, a memory, of which less is told -/
def Wk (kb : Nat) (fr : AFr) (st : ASt) (fr' : AFr) (st' : ASt) : Prop := ∀ B w0 κ, Base B kb κ → ∀ ι w a, κ.le ι → SR B w0 ι st w → FRA ι fr a → ∃ ι', κ.le ι' ∧ SR B w0 ι' st' w ∧ FRA ι' fr' a

theorem Wk.refl (kb : Nat) (fr : AFr) (st : ASt) : Wk kb fr st fr st := fun _ _ _ _ ι _ _ hk h g => ⟨ι, hk, h, g⟩

theorem Wk.trans {kb : Nat} {fr fr1 fr2 : AFr} {st st1 st2 : ASt} (h : Wk kb fr st fr1 st1) (k : Wk kb fr1 st1 fr2 st2) : Wk kb fr st fr2 st2 := fun B w0 κ hb ι w a hk h1 h2 =>
  let ⟨ι1, g0, g1, g2⟩ := h B w0 κ hb ι w a hk h1 h2; k B w0 κ hb ι1 w a g0 g1 g2

/-- the listed temporaries, the listed objects alone -/
def canF (keep : List Nat) (fr : AFr) : AFr := { m := (List.range fr.n).foldl (fun t k => t.set 11 k (bif memN k keep then (fr.m.get k).getD undefA else .any)) .e, n := fr.n, defs := fr.defs }
def canL (h : T AO) : List Nat → T AO → T AO
  | [], t => t
  | i :: is, t => match h.get i with | some a => canL h is (t.set D i a) | none => canL h is t
def canS (keep : List Nat) (st : ASt) : ASt := { h := canL st.h keep .e, next := st.next }

theorem canF_get (keep : List Nat) (fr : AFr) (t : Nat) : ((canF keep fr).m.get t).getD undefA = if t < fr.n then (bif memN t keep then (fr.m.get t).getD undefA else .any) else undefA := by
  have key : ∀ (n : Nat) (g : Nat → AV), (((List.range n).foldl (fun t k => t.set 11 k (g k)) (.e : T AV)).get t) = if t < n then some (g t) else none := by
    intro n g
    induction n with
    | zero => simp [T.get_e]
    | succ n ih =>
      rw [List.range_succ, List.foldl_append]
      simp only [List.foldl_cons, List.foldl_nil, T.get_set, ih]
      by_cases h : t = n
      · subst h; simp
      · have : (t < n + 1) = (t < n) := by apply propext; omega
        simp only [h, if_false, this]
  unfold canF
  simp only [key fr.n]
  by_cases h : t < fr.n <;> simp [h]

theorem canL_get (h : T AO) : ∀ (is : List Nat) (t : T AO) (i : Nat), (∀ j a, t.get j = some a → h.get j = some a) → ∀ a, (canL h is t).get i = some a → h.get i = some a
  | [], t, i, ht, a, hi => ht i a hi
  | k :: ks, t, i, ht, a, hi => by
    unfold canL at hi
    split at hi
    · rename_i x hx
      refine canL_get h ks _ i (fun j b hj => ?_) a hi
      rw [T.get_set] at hj
      by_cases e : j = k
      · subst e; simp at hj; subst hj; exact hx
      · simp only [e, if_false] at hj; exact ht j b hj
    · exact canL_get h ks t i ht a hi

theorem can_ok (kf ko : List Nat) (fr : AFr) (st : ASt) {B : Prot} {w0 : World} {ι : Ren} {w : World} {a : Act} (h : SR B w0 ι st w) (g : FRA ι fr a) : SR B w0 ι (canS ko st) w ∧ FRA ι (canF kf fr) a := by
  have get : ∀ {i x}, (canS ko st).h.get i = some x → st.h.get i = some x := fun {i x} hi => canL_get st.h ko .e i (fun j b hj => by rw [T.get_e] at hj; cases hj) x hi
  refine ⟨⟨h.below, h.base, fun i a hi => h.obj i a (get hi), fun i a L hi ho hL => ⟨(h.own i a L (get hi) ho hL).1, fun j a' L' hj => (h.own i a L (get hi) ho hL).2 j a' L' (get hj)⟩,
    fun i L hL => h.dom i L hL, fun i a hi => h.hdom i a (get hi), fun i a L hi => h.ro i a L (get hi), fun i hi => h.res i hi, h.glob⟩, ⟨g.hf.1, fun t => ?_⟩, g.hd⟩
  rw [canF_get]
  by_cases ht : t < fr.n
  · simp only [ht, if_true]
    cases memN t kf
    · exact .any _
    · exact g.hf.2 t
  · simp only [ht, if_false]
    have : a.tmps.getD t undef = undef := by
      have := g.hf.1
      simp [Array.getD]; omega
    rw [this]; exact .undef ι

theorem Wk.can (kb : Nat) (kf ko : List Nat) (fr : AFr) (st : ASt) : Wk kb fr st (canF kf fr) (canS ko st) := fun _ _ _ _ ι _ _ hk h g => ⟨ι, hk, can_ok kf ko fr st h g⟩

def canR (kf ko : List Nat) (r : Exit × AFr × ASt) : Exit × AFr × ASt := (r.1, canF kf r.2.1, canS ko r.2.2)

/-! ### Numbers told again from 'k' on -/
def refsV (k : Nat) : AV → Prop
  | .ptr (some (i, _)) => i < k
  | .slice (some (i, _)) _ _ => i < k
  | .clos _ cs => ∀ c, c ∈ cs → refsV k c
  | .bound _ fs cs => (∀ c, c ∈ fs → refsV k c) ∧ ∀ c, c ∈ cs → refsV k c
  | .yield i => i < k
  | .iface _ v => refsV k v
  | .agg cs => ∀ c, c ∈ cs → refsV k c
  | .tuple cs => ∀ c, c ∈ cs → refsV k c
  | .map (some i) => i < k
  | _ => True

def cutR (k : Nat) (ι : Ren) : Ren := fun i => if i < k then ι i else none

theorem VR.cut {k : Nat} {ι : Ren} {v : AV} {x : Value} (h : VR ι v x) : refsV k v → VR (cutR k ι) v x := by
  have hc : ∀ {i L}, ι i = some L → i < k → cutR k ι i = some L := fun {i L} hi hk => by simp [cutR, hk, hi]
  induction h with
  | bool b => intro _; exact .bool b
  | int k n => intro _; exact .int k n
  | str l s h => intro _; exact .str l s h
  | ptrN => intro _; exact .ptrN
  | ptr i o L h => intro hr; simp only [refsV] at hr; exact .ptr i o L (hc h hr)
  | sliceN => intro _; exact .sliceN
  | slice i o l c' L c h hcap hl => intro hr; simp only [refsV] at hr; exact .slice i o l c' L c (hc h hr) hcap hl
  | clos f cs cs' hs h ih => intro hr; simp only [refsV] at hr; exact .clos f cs cs' hs fun i v v' hv hv' => ih i v v' hv hv' (hr v (List.mem_of_getElem? hv))
  | bound f fs cs fs' cs' hs hf h g ih ig => intro hr; simp only [refsV] at hr; exact .bound f fs cs fs' cs' hs hf (fun i v v' hv hv' => ih i v v' hv hv' (hr.2 v (List.mem_of_getElem? hv))) (fun i v v' hv hv' => ig i v v' hv hv' (hr.1 v (List.mem_of_getElem? hv)))
  | yield i L h => intro hr; simp only [refsV] at hr; exact .yield i L (hc h hr)
  | nilFunc => intro _; exact .nilFunc
  | iface t v v' h ih => intro hr; simp only [refsV] at hr; exact .iface t v v' (ih hr)
  | nilIface => intro _; exact .nilIface
  | agg cs cs' hs hcell h ih => intro hr; simp only [refsV] at hr; exact .agg cs cs' hs hcell fun i v v' hv hv' => ih i v v' hv hv' (hr v (List.mem_of_getElem? hv))
  | tuple cs cs' hs h ih => intro hr; simp only [refsV] at hr; exact .tuple cs cs' hs fun i v v' hv hv' => ih i v v' hv hv' (hr v (List.mem_of_getElem? hv))
  | mapN => intro _; exact .mapN
  | map i L h => intro hr; simp only [refsV] at hr; exact .map i L (hc h hr)
  | slice0 a c => intro _; exact .slice0 a c
  | gptr g o => intro _; exact .gptr g o
  | any v => intro _; exact .any v

/-- objects of cells alone -/
def refsO (k : Nat) : AO → Prop
  | .cells cs _ => ∀ c, c ∈ cs → refsV k c
  | _ => False

structure Shrinks (kb k : Nat) (fr : AFr) (st : ASt) : Prop where
  le : kb ≤ k
  defs : fr.defs = []
  tmps : ∀ t, refsV k ((fr.m.get t).getD undefA)
  objs : ∀ i a, st.h.get i = some a → i < k ∧ refsO k a

theorem Wk.shrink {kb k : Nat} {fr : AFr} {st : ASt} (h : Shrinks kb k fr st) : Wk kb fr st fr { h := st.h, next := k } := fun B w0 κ hb ι w a hk h1 h2 => by
  have hc : ∀ {i L}, cutR k ι i = some L → i < k ∧ ι i = some L := fun {i L} hi => by
    unfold cutR at hi
    by_cases e : i < k
    · simp only [e, if_true] at hi; exact ⟨e, hi⟩
    · simp [e] at hi
  refine ⟨cutR k ι, fun i L hi => by simp only [cutR, Nat.lt_of_lt_of_le (hb.dom i L hi) h.le, if_true]; exact hk i L hi, ?_, ⟨⟨h2.hf.1, fun t => (h2.hf.2 t).cut (h.tmps t)⟩, by
    rw [h.defs]; have := h2.hd; rw [h.defs] at this
    revert this; cases a.defers <;> exact id⟩⟩
  refine ⟨h1.below, h1.base, fun i a hi hd => ?_, fun i a L hi ho hL => ?_, fun i L hL => (hc hL).1, fun i a hi => (h.objs i a hi).1, fun i a L hi hd ho hL => h1.ro i a L hi hd ho (hc hL).2, fun i hi => absurd hi (hb.rs i), h1.glob⟩
  · obtain ⟨L, o, g1, g2, g3⟩ := h1.obj i a hi hd
    obtain ⟨k1, k2⟩ := h.objs i a hi
    refine ⟨L, o, by simp only [cutR, k1, if_true]; exact g1, g2, ?_⟩
    cases a with
    | cells cs rw =>
      obtain ⟨c, e, lo, hi', q1, q2, q3, q4, q5, q6⟩ := g3
      exact ⟨c, e, lo, hi', q1, q2, q3, q4, fun j v v' hv hv' => (q5 j v v' hv hv').cut (k2 v (List.mem_of_getElem? hv)), q6⟩
    | _ => exact k2.elim
  · exact ⟨(h1.own i a L hi ho (hc hL).2).1, fun j a' L' hj hd hL' => (h1.own i a L hi ho (hc hL).2).2 j a' L' hj hd (hc hL').2⟩

section
variable {P : Program} {kb : Nat} {ro : Option Nat} {fr : AFr} {st : ASt} {Q R : Exit × AFr × ASt → Prop}

theorem TrPost.mono {B : Prot} {w0 : World} {κ : Ren} {e : Exit} {a' : Act} {w' : World} (h : TrPost B w0 κ Q e a' w') (hq : ∀ r, Q r → R r) : TrPost B w0 κ R e a' w' :=
  let ⟨r, h1, h2⟩ := h; ⟨r, hq r h1, h2⟩

theorem Trip.mono {c : Code} (h : Trip P kb ro c fr st Q) (hq : ∀ r, Q r → R r) : Trip P kb ro c fr st R := fun B w0 κ hb ι w a rl hk h1 h2 h3 =>
  wpIn_mono (h B w0 κ hb ι w a rl hk h1 h2 h3) fun _ _ _ hp => hp.mono hq

theorem RO.le {κ ι : Ren} (hle : κ.le ι) {ro rl : Option Nat} (h : RO κ ro rl) : RO ι ro rl := h.mono hle

theorem Trip.exec {E : Env} (hE : E.Ok P) {sum : CallT} (hs : CallsOK P sum) {n : Nat} {c : Code} {r : Exit × AFr × ASt} (h : (M E (drawA E) sum n).ex ro c fr st = some r) (hq : Q r) : Trip P kb ro c fr st Q := fun B w0 _ _ ι w a rl hk h1 h2 h3 =>
  wpIn_mono ((M_ok hE (drawA_ok hE) hs n).ex B w0 ro c fr st r h ι w a rl h1 h2 (h3.mono hk)) fun _ _ _ ⟨he, ι', g1, g2, g3⟩ => ⟨r, hq, he, ι', Ren.le_trans hk g1, g2, g3⟩

theorem Trip.run {E : Env} (hE : E.Ok P) {sum : CallT} (hs : CallsOK P sum) {fls : List (Nat × Fl)} {rf : Fl} {n : Nat} {fl : Fl} {c : Code} (h : ((TM E sum fls rf n).ex fl ro c fr st).all Q) : Trip P kb ro c fr st Q := by
  obtain ⟨r, k1, k2⟩ := TM_ex h
  exact Trip.exec hE hs k1 k2

theorem Trip.runA {E : Env} (hE : E.Ok P) {sum : CallT} (hs : CallsOK P sum) {fls : List (Nat × Fl)} {rf : Fl} {n : Nat} {fl : Fl} {c : Code} {ys : List (AV × ASt)} (h : ((TM E sum fls rf n).ex fl ro c fr st).allA Q ys) : Trip P kb ro c fr st Q :=
  Trip.run hE hs (Tr.allA_all _ ys h)

theorem Trip.less {c : Code} {fr' : AFr} {st' : ASt} (l : Wk kb fr st fr' st') (h : Trip P kb ro c fr' st' Q) : Trip P kb ro c fr st Q := fun B w0 κ hb ι w a rl hk h1 h2 h3 =>
  let ⟨ι', g0, g1, g2⟩ := l B w0 κ hb ι w a hk h1 h2; h B w0 κ hb ι' w a rl g0 g1 g2 h3

theorem Trip.seq {x y : Code} (h : Trip P kb ro x fr st R) (hn : ∀ fr' st', R (.normal, fr', st') → Trip P kb ro y fr' st' Q) (he : ∀ e fr' st', e ≠ .normal → R (e, fr', st') → Q (e, fr', st')) : Trip P kb ro (.seq x y) fr st Q := fun B w0 κ hb ι w a rl hk h1 h2 h3 => by
  refine wpIn_seq (wpIn_mono (h B w0 κ hb ι w a rl hk h1 h2 h3) ?_)
  rintro e a' w' ⟨⟨e1, fr', st'⟩, hr, he1, ι', g1, g2, g3⟩
  simp only at he1
  subst he1
  cases e with
  | normal => exact hn fr' st' hr B w0 κ hb ι' w' a' rl g1 g2 g3 h3
  | _ => exact ⟨_, he _ fr' st' (by intro h; cases h) hr, rfl, ι', g1, g2, g3⟩

/-- a first piece, run; what is told of it cut down -/
theorem Trip.seqC {E : Env} (hE : E.Ok P) {sum : CallT} (hs : CallsOK P sum) {n : Nat} {x y : Code} (kf ko : List Nat) {F : AFr} {S : ASt}
    (h : Option.map (canR kf ko) ((M E (drawA E) sum n).ex ro x fr st) = some (.normal, F, S)) (hy : Trip P kb ro y F S Q) : Trip P kb ro (.seq x y) fr st Q := by
  cases hx : (M E (drawA E) sum n).ex ro x fr st with
  | none => rw [hx] at h; cases h
  | some r =>
    obtain ⟨e, fr1, st1⟩ := r
    rw [hx] at h
    simp only [Option.map_some, canR, Option.some.injEq, Prod.mk.injEq] at h
    obtain ⟨rfl, h1, h2⟩ := h
    refine Trip.seq (R := fun r => r = (.normal, fr1, st1)) (Trip.exec hE hs hx rfl) (fun fr' st' hr => ?_) (fun e fr' st' hne hr => by cases hr; exact absurd rfl hne)
    cases hr
    refine Trip.less (Wk.can kb kf ko fr1 st1) ?_
    rw [h1, h2]; exact hy

/-- what a block makes of it -/
def outB (id : Nat) (Q : Exit × AFr × ASt → Prop) (r : Exit × AFr × ASt) : Prop :=
  match r with
  | (.exit i, fr', st') => (i = id → Q (.normal, fr', st')) ∧ (i ≠ id → Q (.exit i, fr', st'))
  | r => Q r

theorem Trip.block {id : Nat} {x : Code} (h : Trip P kb ro x fr st (outB id Q)) : Trip P kb ro (.block id x) fr st Q := fun B w0 κ hb ι w a rl hk h1 h2 h3 => by
  refine wpIn_block (wpIn_mono (h B w0 κ hb ι w a rl hk h1 h2 h3) ?_)
  rintro e a' w' ⟨⟨e1, fr', st'⟩, hr, he1, ι', g1, g2, g3⟩
  simp only at he1
  subst he1
  cases e with
  | exit i =>
    simp only [Exit.inBlock]
    by_cases hi : i = id
    · simp only [hi, if_true]
      exact ⟨_, hr.1 hi, rfl, ι', g1, g2, g3⟩
    · simp only [hi, if_false]
      exact ⟨_, hr.2 hi, rfl, ι', g1, g2, g3⟩
  | _ => exact ⟨_, hr, rfl, ι', g1, g2, g3⟩

/-- what a round makes of it -/
def outL (kb : Nat) (I : Nat → AFr → ASt → Prop) (m : Nat) (Q : Exit × AFr × ASt → Prop) (r : Exit × AFr × ASt) : Prop :=
  match r with
  | (.normal, fr', st') => ∃ m' fr2 st2, m' < m ∧ Wk kb fr' st' fr2 st2 ∧ I m' fr2 st2
  | r => Q r

theorem roundsIn_mono {F : Fence} {P : Program} {x : Code} {Q R : Exit → Act → World → Prop} (h : ∀ e a w, Q e a w → R e a w) : ∀ (k : Nat) (a : Act) (w : World), Code.roundsIn F 0 P x Q k a w → Code.roundsIn F 0 P x R k a w
  | 0, _, _, hk => hk
  | k + 1, a, w, hk => wpIn_mono (c := x) hk fun e a' w' hp => by
    cases e with
    | normal => exact roundsIn_mono h k a' w' hp
    | _ => exact h _ _ _ hp

theorem Trip.rounds {x : Code} (I : Nat → AFr → ASt → Prop) (h : ∀ m fr st, I m fr st → Trip P kb ro x fr st (outL kb I m Q)) :
    ∀ (k m : Nat) (fr : AFr) (st : ASt), m < k → I m fr st → ∀ B w0 κ, Base B kb κ → ∀ ι w a rl, κ.le ι → SR B w0 ι st w → FRA ι fr a → RO κ ro rl → Code.roundsIn (FF rl) 0 P x (TrPost B w0 κ Q) k a w
  | 0, m, fr, st, hm, h0, B, w0, κ, hb, ι, w, a, rl, hk, h1, h2, h3 => by omega
  | k + 1, m, fr, st, hm, h0, B, w0, κ, hb, ι, w, a, rl, hk, h1, h2, h3 => by
    refine wpIn_mono (h m fr st h0 B w0 κ hb ι w a rl hk h1 h2 h3) ?_
    rintro e a' w' ⟨⟨e1, fr', st'⟩, hr, he1, ι', g1, g2, g3⟩
    simp only at he1
    subst he1
    cases e with
    | normal =>
      obtain ⟨m', fr2, st2, hlt, l, hi⟩ := hr
      obtain ⟨ι2, q1, q2, q3⟩ := l B w0 κ hb ι' w' a' g1 g2 g3
      exact Trip.rounds I h k m' fr2 st2 (by omega) hi B w0 κ hb ι2 w' a' rl q1 q2 q3 h3
    | _ => exact ⟨_, hr, rfl, ι', g1, g2, g3⟩

theorem Trip.loop {x : Code} (I : Nat → AFr → ASt → Prop) (h : ∀ m fr st, I m fr st → Trip P kb ro x fr st (outL kb I m Q)) (m : Nat) (h0 : I m fr st) : Trip P kb ro (.loop x) fr st Q := fun B w0 κ hb ι w a rl hk h1 h2 h3 =>
  wpIn_loop_rounds (m + 1) (Trip.rounds I h (m + 1) m fr st (by omega) h0 B w0 κ hb ι w a rl hk h1 h2 h3)

end
theorem leaveA_okR {P : Program} {E : Env} {B : Prot} {w0 : World} {ι : Ren} {w : World} {st : ASt} {fr : AFr} {a : Act} (hE : E.Ok P) {R : AV × ASt → Prop} {fn : Func} {r : AV × ASt} (hsr : SR B w0 ι st w) (hf : FRA ι fr a) (h : leaveA E fn fr st = some r) (hR : R r) {ι0 : Ren} (hle : ι0.le ι) :
    LeavesInM Fence.wide 0 P fn a.tmps (fun e w' => ∃ v, R v ∧ Post B w0 ι0 v e w') a.defers .returning w := by
  simp only [leaveA] at h
  split at h
  · rename_i st' hk
    split at h
    · rename_i vs hv
      simp only [Option.some.injEq] at h; subst h
      refine killAll_ok fr.defs st st' a.defers w hk hsr hf.hd fun w' hsr' => ?_
      obtain ⟨vs', h1, h2⟩ := resV_ok hE hsr' hf.hf fn.results.toList vs hv
      have hrun : (results fn a.tmps).run P w' = .ok (if h : vs'.toArray.size = 1 then vs'.toArray[0] else .tuple vs'.toArray) w' := by
        unfold results
        rw [Array.mapM_eq_mapM_toList]
        simp only [Sem.run_bind, map_eq_pure_bind, Sem.run_pure]
        exact congrArg (fun r : Result (List Value) => (r.andThen fun a w' => Result.ok a.toArray w').andThen fun a w' => Result.ok (if h : a.size = 1 then a[0] else Value.tuple a) w') h1
      refine ⟨_, hrun, _, hR, _, ι, rfl, hle, hsr', ?_⟩
      show VR ι (retV vs) _
      have hs := h2.size
      match vs, hs, h2 with
      | [], hs, h2 =>
        have : ¬ vs'.toArray.size = 1 := by simp at hs ⊢; omega
        simp only [this, dite_false]
        exact .tuple _ _ h2.size h2.at_
      | [x], hs, h2 =>
        have : vs'.toArray.size = 1 := by simp at hs ⊢; omega
        simp only [this, dite_true]
        exact h2.at_ 0 x _ rfl (by simp)
      | x :: y :: zs, hs, h2 =>
        have : ¬ vs'.toArray.size = 1 := by simp at hs ⊢; omega
        simp only [this, dite_false]
        exact .tuple _ _ h2.size h2.at_
    · simp at h
  · simp at h


section
variable {P : Program} {kb : Nat} {ro : Option Nat} {fr : AFr} {st : ASt} {Q R : Exit × AFr × ASt → Prop}

/-- a call whose text is told so -/
theorem Trip.call {E : Env} (hE : E.Ok P) {f : Nat} {fn : Func} {c : Code} (hfn : E.fn.get f = some fn) (hc : fn.body = some c) {args : List AV} (hb : Nat.ble args.length fn.ntmps = true) {R : AV × ASt → Prop}
    (h : Trip P st.next none c { m := putArgs args 0 .e, n := fn.ntmps, defs := [] } st fun r => (r.1 = .normal ∨ r.1 = .ret) ∧ ∃ v, leaveA E fn r.2.1 r.2.2 = some v ∧ R v)
    (B : Prot) (hB : ∀ i, ¬ B.rs i) (w0 : World) (ι : Ren) (w : World) (args' : Array Value) (hsr : SR B w0 ι st w) (hargs : VRs ι args args') :
    (callFunc f args').run P w = .ok (.enter f args') w ∧ CallsIn Fence.wide 0 P f args' w fun e w' => ∃ v, R v ∧ Post B w0 ι v e w' := by
  refine ⟨hE.call f fn hfn args' w, callsIn_of_wp_marks (hE.fn f fn hfn) hc trivial ?_⟩
  have hfr : FRA ι { m := putArgs args 0 .e, n := fn.ntmps, defs := [] } { tmps := args' ++ Array.replicate (fn.ntmps - args'.size) undef, defers := [] } :=
    ⟨enter_FR (Nat.le_of_ble_eq_true hb) hargs, trivial⟩
  refine wpIn_mono (h B w0 ι ⟨hB, hsr.dom⟩ ι w _ none ι.le_refl hsr hfr trivial) ?_
  rintro e a' w' ⟨⟨e1, fr', st'⟩, ⟨hr, v, hl, hv⟩, he1, ι', g1, g2, g3⟩
  simp only at he1 hr
  subst he1
  have := leaveA_okR hE g2 g3 hl hv g1
  rcases hr with rfl | rfl <;> exact this
end
end
end Go.Ax
