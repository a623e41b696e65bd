/-
  OWN WORK, TOLD ONCE FOR ALL TEXTS YtmjmpmmonelmmaaAxA TO YtmjmpmmonelmmaaAxU: an abstract machine for the program's text that the kernel can run, and the proof that it is sound: what it answers is what the program answers. No condition.
-/
import Derived.Test.YtmjmpmmonelmmaaAxPr
namespace Go.Ax
noncomputable section
open Go.RowKit

/-! ### A law's call with rows that came in -/
def RowAt (W : World) (b off : Nat) (cs : List AV) : Prop := ∀ (k : Nat) v, cs[k]? = some v → v.isCell = true ∧ ∃ v', W.cell? ⟨b, off + k, none⟩ = some v' ∧ ∀ ι, VR ι v v'

def roB (W : World) (bs : List Nat) : Prot := ⟨fun k => k ∈ bs, fun k => k < W.heap.size, fun _ => False⟩

def rowLoc (W : World) (r : Nat × Nat × List AV) : Option Loc :=
  match W.heap[r.1]? with
  | some (.cells c _ _) => some ⟨r.1, r.2.1, c.size⟩
  | _ => none
def rowRen (W : World) (rows : List (Nat × Nat × List AV)) : Ren := fun i => match rows[i]? with | some r => rowLoc W r | none => none

theorem RowAt.block {W : World} {b off : Nat} {cs : List AV} (h : RowAt W b off cs) (h0 : cs ≠ []) : ∃ c e lo hi, W.heap[b]? = some (.cells c e (lo, hi)) ∧ off + cs.length ≤ c.size ∧ ∀ (k : Nat) v v', cs[k]? = some v → c[off + k]? = some v' → ∀ ι, VR ι v v' := by
  have hl : cs.length - 1 < cs.length := by cases cs with | nil => exact absurd rfl h0 | cons _ _ => simp
  obtain ⟨_, v', hv', _⟩ := h (cs.length - 1) _ (List.getElem?_eq_getElem hl)
  unfold World.cell? at hv'
  cases hb : W.heap[b]? with
  | none => rw [hb] at hv'; cases hv'
  | some o =>
    rw [hb] at hv'
    cases o with
    | cells c e m =>
      obtain ⟨lo, hi⟩ := m
      simp only [Option.isSome_none, Bool.false_eq_true, if_false] at hv'
      have hs := (Array.getElem?_eq_some_iff.1 hv').1
      refine ⟨c, e, lo, hi, rfl, by omega, fun k v v' hk hk' ι => ?_⟩
      obtain ⟨_, x, hx, hvr⟩ := h k v hk
      unfold World.cell? at hx
      rw [hb] at hx
      simp only [Option.isSome_none, Bool.false_eq_true, if_false] at hx
      rw [hk'] at hx
      simp only [Option.some.injEq] at hx
      subst hx
      exact hvr ι
    | _ => cases hv'

theorem rows_ok {W : World} (hgl : GlobOK W) {rows : List (Nat × Nat × List AV)} (hr : ∀ r, r ∈ rows → r.2.2 ≠ [] ∧ RowAt W r.1 r.2.1 r.2.2) {st : ASt} (hn : st.next = rows.length)
    (hst : ∀ i a, st.h.get i = some a → ∃ r, rows[i]? = some r ∧ a = .cells r.2.2 false) : SR (roB W (rows.map (·.1))) W (rowRen W rows) st W := by
  have hloc : ∀ {i : Nat} {r : Nat × Nat × List AV}, rows[i]? = some r → ∃ c e lo hi, W.heap[r.1]? = some (.cells c e (lo, hi)) ∧ rowRen W rows i = some ⟨r.1, r.2.1, c.size⟩ ∧ r.2.1 + r.2.2.length ≤ c.size ∧ ∀ (k : Nat) v v', r.2.2[k]? = some v → c[r.2.1 + k]? = some v' → ∀ ι, VR ι v v' := fun {i r} h => by
    obtain ⟨h0, h1⟩ := hr r (List.mem_of_getElem? h)
    obtain ⟨c, e, lo, hi, k1, k2, k3⟩ := h1.block h0
    exact ⟨c, e, lo, hi, k1, by simp only [rowRen, h, rowLoc, k1], k2, k3⟩
  have hlt : ∀ {i : Nat} {r : Nat × Nat × List AV}, rows[i]? = some r → r.1 < W.heap.size := fun h => by
    obtain ⟨c, e, lo, hi, k1, _⟩ := hloc h
    exact (Array.getElem?_eq_some_iff.1 k1).1
  refine ⟨Keeps.refl _ _, ?_, fun i a hi hd => ?_, fun i a L hi ho hL => ?_, fun i L hL => ?_, fun i a hi => ?_, fun i a L hi hd ho hL => ?_, fun i hi => hi.elim, fun g cs hg => ⟨.inr (hgl g cs hg).lt, hgl g cs hg⟩⟩
  · rintro k (hk | hk)
    · obtain ⟨r, hr1, rfl⟩ := List.mem_map.1 hk
      obtain ⟨i, hi, e⟩ := List.getElem_of_mem hr1
      exact hlt (i := i) (by rw [← e]; simp [hi])
    · exact hk
  · obtain ⟨r, h1, rfl⟩ := hst i a hi
    obtain ⟨c, e, lo, hh, k1, k2, k3, k4⟩ := hloc h1
    obtain ⟨_, hra⟩ := hr r (List.mem_of_getElem? h1)
    exact ⟨_, _, k2, k1, c, e, lo, hh, rfl, rfl, k3, fun v hv => by
      obtain ⟨j, hj, e⟩ := List.getElem_of_mem hv
      exact (hra j v (by rw [← e]; simp [hj])).1, fun k v v' hk hk' => k4 k v v' hk hk' _, fun h => by cases h⟩
  · obtain ⟨r, h1, rfl⟩ := hst i a hi
    cases ho
  · have hL' : (match rows[i]? with | some r => rowLoc W r | none => none) = some L := hL
    cases hri : rows[i]? with
    | none => rw [hri] at hL'; cases hL'
    | some r => rw [hn]; exact (List.getElem?_eq_some_iff.1 hri).1
  · obtain ⟨r, h1, _⟩ := hst i a hi
    rw [hn]; exact (List.getElem?_eq_some_iff.1 h1).1
  · obtain ⟨r, h1, rfl⟩ := hst i a hi
    obtain ⟨c, e, lo, hh, k1, k2, k3, k4⟩ := hloc h1
    rw [k2] at hL; cases hL
    exact List.mem_map.2 ⟨r, List.mem_of_getElem? h1, rfl⟩

theorem rowRen_at {W : World} {rows : List (Nat × Nat × List AV)} {i : Nat} {r : Nat × Nat × List AV} (h : rows[i]? = some r) (h0 : r.2.2 ≠ []) (h1 : RowAt W r.1 r.2.1 r.2.2) : ∃ tot, rowRen W rows i = some ⟨r.1, r.2.1, tot⟩ := by
  obtain ⟨c, e, lo, hi, k1, k2, k3⟩ := h1.block h0
  exact ⟨c.size, by simp only [rowRen, h, rowLoc, k1]⟩

/-- a law's call, told by its text -/
theorem law_calls {P : Program} {E : Env} (hE : E.Ok P) {f : Nat} {fn : Func} {c : Code} (hfn : E.fn.get f = some fn) (hc : fn.body = some c) {args : List AV} {args' : Array Value} (hb : Nat.ble args.length fn.ntmps = true)
    {B : Prot} (hB : ∀ i, ¬ B.rs i) {W : World} (hall : ∀ k, k < W.heap.size → B.all k) {ι : Ren} {st : ASt} (hsr : SR B W ι st W) (hv : VRs ι args args')
    (h : Trip P st.next none c { m := putArgs args 0 .e, n := fn.ntmps, defs := [] } st fun r => (r.1 = .normal ∨ r.1 = .ret) ∧ ans (leaveA E fn r.2.1 r.2.2) = some (.bool true)) :
    Calls P f args' W fun e w' => e = .returned (.bool true) ∧ Below W.heap.size W w' := by
  have := (Trip.call hE hfn hc hb (R := fun v => v.1 = .bool true) (h.mono fun r ⟨h1, h2⟩ => by
    obtain ⟨st2, h3⟩ := ans_some h2
    exact ⟨h1, _, h3, rfl⟩) B hB W ι W args' hsr hv).2
  rw [callsIn_wide] at this
  refine this.mono ?_
  rintro e w' ⟨⟨v, st'⟩, hv, x, ι', rfl, _, h2, h3⟩
  simp only at hv h3
  subst hv
  cases h3
  exact ⟨rfl, h2.below.os, h2.below.tape, h2.below.output, h2.below.size, fun k hk => h2.below.block k (hall k hk)⟩

/-- where a run ends or goes on: a frame and a memory, or an answer -/
def mixQ (E : Env) (fn : Func) (kf ko : List Nat) (Q : Exit × AFr × ASt → Prop) (Q2 : Exit × Option AV → Prop) (r : Exit × AFr × ASt) : Prop :=
  match r.1 with
  | .ret => Q2 (.ret, ans (leaveA E fn r.2.1 r.2.2))
  | _ => Q (canR kf ko r)

theorem mixQ_cases {E : Env} {fn : Func} {kf ko : List Nat} {Q : Exit × AFr × ASt → Prop} {Q2 : Exit × Option AV → Prop} {r : Exit × AFr × ASt} (h : mixQ E fn kf ko Q Q2 r) :
    (r.1 = .ret ∧ Q2 (.ret, ans (leaveA E fn r.2.1 r.2.2))) ∨ (r.1 ≠ .ret ∧ Q (canR kf ko r)) := by
  obtain ⟨e, fr', st'⟩ := r
  cases e <;> first | exact .inl ⟨rfl, h⟩ | exact .inr ⟨(fun e => by cases e), h⟩

theorem Trip.preM {P : Program} {kb : Nat} {ro : Option Nat} {Q : Exit × AFr × ASt → Prop} {E : Env} {sum : CallT} (hE : E.Ok P) (hs : CallsOK P sum) {k : Nat} {c : Code} {n : Nat} {fls : List (Nat × Fl)} {rf fl : Fl} {fr : AFr} {st : ASt} {y : An} {kf ko : List Nat} (hc : hasC k c = true)
    {fn : Func} {Q1 : Exit × AFr × ASt → Prop} {Q2 : Exit × Option AV → Prop} (h : ((TM E sum fls rf n).ex fl ro (preC k c) fr st).allY (mixQ E fn kf ko Q1 Q2) y)
    (hn : ∀ F S, Q1 (.normal, F, S) → Trip P kb ro (dropC k c) F S Q) (hr : ∀ r, r.1 = .ret → Q2 (.ret, ans (leaveA E fn r.2.1 r.2.2)) → Q r) (hx : ∀ r, r.1 ≠ .normal → r.1 ≠ .ret → Q1 (canR kf ko r) → Q r) : Trip P kb ro c fr st Q := by
  obtain ⟨r, h1, h2⟩ := TM_ex (Tr.allY_all _ y h)
  obtain ⟨e, fr', st'⟩ := r
  have h3 := mixQ_cases h2
  refine Trip.preX hE hs k c n fr st _ hc h1 (fun he => ?_) (fun he => ?_)
  · simp only at he
    subst he
    rcases h3 with ⟨h3, _⟩ | ⟨_, h3⟩
    · cases h3
    · exact Trip.less (Wk.can kb kf ko fr' st') (hn _ _ h3)
  · rcases h3 with ⟨h4, h3⟩ | ⟨h4, h3⟩
    · exact hr _ h4 h3
    · exact hx _ he h4 h3

/-- a run that asks, whose returns are told as answers -/
theorem Trip.runM {P : Program} {kb : Nat} {ro : Option Nat} {Q : Exit × AFr × ASt → Prop} {E : Env} {sum : CallT} (hE : E.Ok P) (hs : CallsOK P sum) {c : Code} {n : Nat} {fls : List (Nat × Fl)} {rf fl : Fl} {fr : AFr} {st : ASt} {y : An} {kf ko : List Nat}
    {fn : Func} {Q1 : Exit × AFr × ASt → Prop} {Q2 : Exit × Option AV → Prop} (h : ((TM E sum fls rf n).ex fl ro c fr st).allY (mixQ E fn kf ko Q1 Q2) y)
    (hr : ∀ r, r.1 = .ret → Q2 (.ret, ans (leaveA E fn r.2.1 r.2.2)) → Q r) (hx : ∀ r, r.1 ≠ .ret → Q1 (canR kf ko r) → Q r) : Trip P kb ro c fr st Q :=
  (Trip.runY hE hs h).mono fun r hq => (mixQ_cases hq).elim (fun h => hr r h.1 h.2) (fun h => hx r h.1 h.2)
end
end Go.Ax
