/-
  OWN WORK, TOLD ONCE FOR ALL TEXTS YtmjmpmmonelmmaaAxA TO YtmjmpmmonelmmaaAxU: an abstract machine for the program's text that the kernel can run, and the proof that it is sound: what it answers is what the program answers. No condition.
-/
import Derived.Test.YtmjmpmmonelmmaaAxVc
import Derived.Test.YtmjmpmmonelmmaaAxGc
namespace Go.Ax
noncomputable section
open Go.RowKit

/-! ### Numbers given anew where rows are open -/
/-- an object, its numbers given anew -/
def RenO (ids : List Nat) (a a' : AO) : Prop := a ≠ .dead ∧ a'.own = a.own ∧ ∀ ι L o, OR ι L a o → OR (renR ids ι) L a' o

theorem RenO.of {ids : List Nat} {a a' : AO} (h : renO ids a = some a') : RenO ids a a' := by
  have hne : a ≠ .dead := by intro e; subst e; simp [renO] at h
  refine ⟨hne, ?_, fun _ _ _ ho => (ho.ren h).1⟩
  cases a with
  | cells cs rw =>
    simp only [renO] at h
    cases hb : allR ids cs
    · rw [hb] at h; cases h
    · rw [hb, cond_true, Option.some.injEq] at h; subst h; rfl
  | map es c =>
    simp only [renO] at h
    split at h
    · simp only [Option.some.injEq] at h; subst h; rfl
    · cases h
  | _ => simp [renO] at h

theorem cutR0_le (ι κ : Ren) : (cutR 0 ι).le κ := fun i L h => by simp [cutR] at h

theorem VR.noRef {ι κ : Ren} {v : AV} {x : Value} (h : VR ι v x) (hr : refsV 0 v) : VR κ v x := (h.cut hr).mono (cutR0_le ι κ)

/-- a row without references -/
theorem RenO.row {ids : List Nat} {cs : List AV} {rw : Bool} (h : ∀ c, c ∈ cs → refsV 0 c) : RenO ids (.cells cs rw) (.cells cs rw) :=
  ⟨by simp, rfl, fun ι L o ⟨c, e, lo, hi, q1, q2, q3, q4, q5, q6⟩ => ⟨c, e, lo, hi, q1, q2, q3, q4, fun k v v' hv hv' => (q5 k v v' hv hv').noRef (h v (List.mem_of_getElem? hv)), q6⟩⟩

/-- objects whose numbers are below k -/
def refsO2 (k : Nat) : AO → Prop
  | .cells cs _ => ∀ c, c ∈ cs → refsV k c
  | .loop _ _ tm _ _ _ de => (∀ t, refsV k ((tm.m.get t).getD undefA)) ∧ de < k
  | .defd => True
  | .siter _ _ => True
  | _ => False

theorem cut_le {kb : Nat} {ids : List Nat} {ι : Ren} (hp : preB kb 0 ids = true) : (cutR kb ι).le (renR ids ι) := fun i L h => by
  unfold cutR at h
  by_cases e : i < kb
  · simp only [e, if_true] at h
    have h3 := preB_ok hp e
    rw [Nat.zero_add] at h3
    simp only [renR, h3]; exact h
  · simp [e] at h

theorem RenO.keep {kb : Nat} {ids : List Nat} (hp : preB kb 0 ids = true) {a : AO} (h : refsO2 kb a) : RenO ids a a := by
  refine ⟨by intro e; subst e; exact h, rfl, fun ι L o ho => ?_⟩
  have hv : ∀ {v : AV} {x : Value}, VR ι v x → refsV kb v → VR (renR ids ι) v x := fun hx hr => (hx.cut hr).mono (cut_le hp)
  cases a with
  | cells cs rw =>
    obtain ⟨c, e, lo, hi, q1, q2, q3, q4, q5, q6⟩ := ho
    exact ⟨c, e, lo, hi, q1, q2, q3, q4, fun k v v' hk hk' => hv (q5 k v v' hk hk') (h v (List.mem_of_getElem? hk)), q6⟩
  | loop st pe tm ps as bo de =>
    obtain ⟨r, h1, h2, h3, h4, h5, h6, h7, D, h8, h9⟩ := ho
    refine ⟨r, h1, h2, h3, ⟨h4.1, fun t => hv (h4.2 t) (h.1 t)⟩, h5, h6, h7, D, cut_le hp _ _ ?_, h9⟩
    simp only [cutR, h.2, if_true]; exact h8
  | defd => exact ho
  | siter s p => exact ho
  | _ => exact h.elim

/-- the listed temporaries, their numbers given anew -/
def frE (ids : List Nat) (fr : AFr) : List Nat → Option (List (Nat × AV))
  | [] => some []
  | k :: ks =>
    match renV ids ((fr.m.get k).getD undefA) with
    | some v => match frE ids fr ks with | some l => some ((k, v) :: l) | none => none
    | none => none

theorem frE_ok {ids : List Nat} {fr : AFr} : ∀ {ks : List Nat} {l : List (Nat × AV)}, frE ids fr ks = some l → ∀ p, p ∈ l → renV ids ((fr.m.get p.1).getD undefA) = some p.2
  | [], l, h, p, hp => by simp only [frE, Option.some.injEq] at h; subst h; cases hp
  | k :: ks, l, h, p, hp => by
    unfold frE at h
    split at h
    · rename_i v hv
      split at h
      · rename_i l' hl
        simp only [Option.some.injEq] at h; subst h
        rcases List.mem_cons.1 hp with e | hp
        · subst e; exact hv
        · exact frE_ok hl p hp
      · cases h
    · cases h

/-- the listed objects -/
inductive StP (ids : List Nat) (st : ASt) : List (Nat × AO) → Prop
  | nil : StP ids st []
  | dead {j : Nat} {ls : List (Nat × AO)} (h1 : j < ids.length) (h : StP ids st ls) : StP ids st ((j, .dead) :: ls)
  | cons {j : Nat} {a : AO} {ls : List (Nat × AO)} (i : Nat) (x : AO) (h1 : ids[j]? = some i) (h2 : st.h.get i = some x) (h3 : RenO ids x a) (h : StP ids st ls) : StP ids st ((j, a) :: ls)

theorem StP.ok {ids : List Nat} {st : ASt} {ls : List (Nat × AO)} (h : StP ids st ls) : ∀ p, p ∈ ls → p.1 < ids.length ∧ (p.2 ≠ .dead → ∃ i x, ids[p.1]? = some i ∧ st.h.get i = some x ∧ RenO ids x p.2) := by
  induction h with
  | nil => intro p hp; cases hp
  | dead h1 _ ih =>
    intro p hp
    rcases List.mem_cons.1 hp with e | hp
    · subst e; exact ⟨h1, fun h => absurd rfl h⟩
    · exact ih p hp
  | cons i x h1 h2 h3 _ ih =>
    intro p hp
    rcases List.mem_cons.1 hp with e | hp
    · subst e; exact ⟨(List.getElem?_eq_some_iff.1 h1).1, fun _ => ⟨i, x, h1, h2, h3⟩⟩
    · exact ih p hp

def allLt (k : Nat) : List Nat → Bool
  | [] => true
  | x :: xs => bif Nat.blt x k then allLt k xs else false

theorem allLt_ok {k : Nat} : ∀ {l : List Nat}, allLt k l = true → ∀ x, x ∈ l → x < k
  | [], _, x, hx => by cases hx
  | y :: ys, h, x, hx => by
    unfold allLt at h
    cases hb : Nat.blt y k
    · rw [hb] at h; cases h
    · rw [hb, cond_true] at h
      rcases List.mem_cons.1 hx with e | hx
      · subst e; exact blt_lt' hb
      · exact allLt_ok h x hx
where
  blt_lt' {a b : Nat} (h : Nat.blt a b = true) : a < b := by rw [← Nat.blt_eq]; exact h

theorem DR.ren {kb : Nat} {ids : List Nat} {ι : Ren} (hp : preB kb 0 ids = true) : ∀ {is : List Nat} {ds : List Deferred}, (∀ x, x ∈ is → x < kb) → DR ι is ds → DR (renR ids ι) is ds
  | [], [], _, _ => trivial
  | i :: is, d :: ds, hl, ⟨⟨L, h1, h2⟩, h3⟩ => by
    refine ⟨⟨L, cut_le hp _ _ ?_, h2⟩, DR.ren hp (fun x hx => hl x (List.mem_cons_of_mem _ hx)) h3⟩
    simp only [cutR, hl i List.mem_cons_self, if_true]; exact h1
  | [], _ :: _, _, h => h.elim
  | _ :: _, [], _, h => h.elim

theorem Wk.heldP {kb : Nat} (ids : List Nat) (hp : preB kb 0 ids = true) (hn : noDup ids = true) {fr : AFr} {st : ASt} (hd : allLt kb fr.defs = true) {ks : List Nat} {lf : List (Nat × AV)} {ls : List (Nat × AO)}
    (hf : frE ids fr ks = some lf) (hs : StP ids st ls) : Wk kb fr st { xFr lf fr.n with defs := fr.defs } (mkSt ls ids.length) := fun B w0 κ hb ι w a hk h1 h2 => by
  have hall : ∀ {j a}, (mkSt ls ids.length).h.get j = some a → j < ids.length ∧ (a ≠ .dead → ∃ i x, ids[j]? = some i ∧ st.h.get i = some x ∧ RenO ids x a) := fun {j a} hj => by
    rcases foldl_get D ls .e j a hj with ⟨p, p1, p2, p3⟩ | h
    · subst p2; subst p3; exact hs.ok p p1
    · rw [T.get_e] at h; cases h
  have hget : ∀ {j a}, (mkSt ls ids.length).h.get j = some a → a ≠ .dead → ∃ i x, ids[j]? = some i ∧ st.h.get i = some x ∧ RenO ids x a := fun hj hd => (hall hj).2 hd
  have live : ∀ {a : AO}, a.own = true → a ≠ .dead := fun ha e => by subst e; simp [AO.own] at ha
  have hren : ∀ {j L}, renR ids ι j = some L → ∃ i, ids[j]? = some i ∧ ι i = some L := fun {j L} h => by
    unfold renR at h
    cases hi : ids[j]? with
    | none => rw [hi] at h; cases h
    | some i => rw [hi] at h; exact ⟨i, rfl, h⟩
  refine ⟨renR ids ι, fun i L hi => by
    have h3 := preB_ok hp (hb.dom i L hi)
    rw [Nat.zero_add] at h3
    simp only [renR, h3]
    exact hk i L hi, ?_, ⟨⟨h2.hf.1, fun t => ?_⟩, ?_⟩⟩
  · refine ⟨h1.below, h1.base, fun j a hj hd => ?_, fun j a L hj ho hL => ?_, fun j L hL => ?_, fun j a hj => ?_, fun j a L hj hd ho hL => ?_, fun i hi => absurd hi (hb.rs i), h1.glob⟩
    · obtain ⟨i, x, g1, g2, hx, _, g3⟩ := hget hj hd
      obtain ⟨L, o, k1, k2, k3⟩ := h1.obj i x g2 hx
      exact ⟨L, o, by simp only [renR, g1, k1], k2, g3 _ _ _ k3⟩
    · obtain ⟨i, x, g1, g2, hx, hox, g3⟩ := hget hj (live ho)
      obtain ⟨i', g1', hL'⟩ := hren hL
      rw [g1] at g1'; cases g1'
      obtain ⟨m1, m2⟩ := h1.own i x L g2 (by rw [← hox]; exact ho) hL'
      refine ⟨m1, fun j' a' L' hj' hd' hL'' hbb => ?_⟩
      obtain ⟨i2, x2, p1, p2, hx2, _⟩ := hget hj' hd'
      obtain ⟨i2', p1', hL2⟩ := hren hL''
      rw [p1] at p1'; cases p1'
      have := m2 i2 x2 L' p2 hx2 hL2 hbb
      subst this
      exact noDup_ok hn p1 g1
    · obtain ⟨i, g1, _⟩ := hren hL
      exact (List.getElem?_eq_some_iff.1 g1).1
    · exact (hall hj).1
    · obtain ⟨i, x, g1, g2, hx, hox, g3⟩ := hget hj hd
      obtain ⟨i', g1', hL'⟩ := hren hL
      rw [g1] at g1'; cases g1'
      exact h1.ro i x L g2 hx (by rw [← hox]; exact ho) hL'
  · show VR _ (((xFr lf fr.n).m.get t).getD undefA) _
    rw [xFr_get]
    by_cases ht : t < fr.n
    · simp only [ht, if_true]
      rcases lkp_mem (l := lf) (t := t) with e | ⟨p, p1, p2, p3⟩
      · rw [e]; exact .any _
      · have := frE_ok hf p p1
        rw [p2, p3] at this
        exact (h2.hf.2 t).ren _ this
    · simp only [ht, if_false]
      have : a.tmps.getD t undef = undef := by
        have := h2.hf.1
        simp [Array.getD]; omega
      rw [this]; exact .undef _
  · exact DR.ren hp (allLt_ok hd) h2.hd

/-! ### A range over a function -/
section
variable {P : Program} {kb : Nat} {fr : AFr} {st : ASt} {Q : Exit × AFr × ASt → Prop}

/-- the call of the function's text told so; 'l' the loop's record, 'de' the deferred block -/
theorem Trip.range {E : Env} (hE : E.Ok P) {g : Operand} {ps : Array Tmp} {as bo : Code} {f : Nat} {caps : List AV} (hg : evA fr g = some (.clos f caps))
    {fn : Func} {cb : Code} (hfn : E.fn.get f = some fn) (hc : fn.body = some cb) {l : Nat} (hl : st.next + 1 = l) (hb : Nat.ble (AV.yield l :: caps).length fn.ntmps = true) {R : AV × ASt → Prop}
    (hcall : Trip P (l + 1) none cb { m := putArgs (.yield l :: caps) 0 .e, n := fn.ntmps, defs := [] } ((st.add .defd).add (.loop .ready none fr ps.toList as bo st.next)) fun r => (r.1 = .normal ∨ r.1 = .ret) ∧ ∃ v, leaveA E fn r.2.1 r.2.2 = some v ∧ R v)
    (hR : ∀ v, R v → ∃ s pe tm ps' as' bo' de', v.2.h.get l = some (.loop s pe tm ps' as' bo' de') ∧ s ≠ .busy ∧
      match pe with
      | none => Q (.normal, { fr with defs := st.next :: fr.defs }, v.2.put l .dead)
      | some c => Trip P kb none c { fr with defs := st.next :: fr.defs } (v.2.put l .dead) Q) :
    Trip P kb none (.rangeFunc g ps as bo) fr st Q := fun B w0 κ hbase ι w a rl hk hsr hfr hro => by
  cases rl with
  | some _ => exact hro.elim
  | none =>
  have hgv := evA_ok hfr.hf hg
  generalize hge : a.eval g = gv at hgv
  cases hgv with
  | clos _ _ cs' hs hv =>
  refine wpIn_rangeFunc fun fn0 _ => ?_
  obtain ⟨k1, k2, k3⟩ := hsr.alloc .defd (.deferred (some [])) 0 rfl
  have hfr1 : FRA (ι.ext st.next ⟨w.heap.size, 0, 0⟩) { fr with defs := st.next :: fr.defs } { a with defers := [{ target := .collected w.heap.size, args := #[] }] ++ a.defers } :=
    ⟨hfr.hf.mono k2, ⟨_, k3, rfl⟩, hfr.hd.mono k2⟩
  let rec1 : Loop := { state := .ready, pending := none, fn := fn0, tmps := a.tmps, params := ps, assign := as, body := bo, defers := w.heap.size }
  obtain ⟨m1, m2, m3⟩ := k1.alloc (.loop .ready none fr ps.toList as bo st.next) (.loop rec1) 0 ⟨rec1, rfl, rfl, rfl, hfr.hf.mono k2, rfl, rfl, rfl, _, k3, rfl⟩
  have hln : (st.add .defd).next = l := hl
  rw [hln] at m1 m2 m3
  have hle2 : ι.le ((ι.ext st.next ⟨w.heap.size, 0, 0⟩).ext l ⟨(w.alloc (.deferred (some []))).heap.size, 0, 0⟩) := Ren.le_trans k2 m2
  have hargs := list_cons1 (.yield l _ m3) ((⟨hs, hv⟩ : VRs ι caps cs').mono hle2)
  have hnx : ((st.add .defd).add (.loop .ready none fr ps.toList as bo st.next)).next = l + 1 := by rw [← hl]; rfl
  rw [← hnx] at hcall
  obtain ⟨c1, c2⟩ := Trip.call hE hfn hc (args := .yield l :: caps) hb hcall B hbase.rs w0 _ _ _ m1 hargs
  have hsz : (w.alloc (.deferred (some []))).heap.size = w.heap.size + 1 := by simp
  refine ⟨w.heap.size + 1, [{ target := .collected w.heap.size, args := #[] }], (w.alloc (.deferred (some []))).alloc (.loop rec1),
    { target := .fn (.func f) cs', args := #[.func (.yield (w.heap.size + 1)) #[] #[]] }, (w.alloc (.deferred (some []))).alloc (.loop rec1),
    f, #[.func (.yield (w.heap.size + 1)) #[] #[]] ++ cs', (w.alloc (.deferred (some []))).alloc (.loop rec1), run_enterLoop_outer fn0 a.tmps ps as bo, res_range _ _ hge, fun _ _ => FF_fn none _, ?_, FF_depth none, ?_⟩
  · simp only [invoke]
    rw [← hsz]; exact c1
  · rw [← hsz]
    refine (FF_calls (ro := none) c2).mono ?_
    rintro e w3 ⟨v, hRv, x, ι3, rfl, hle3, hsr3, _⟩
    obtain ⟨s, pe, tm2, ps2, as2, bo2, de2, hlp, hns, hq⟩ := hR v hRv
    have hL3 := hle3 _ _ m3
    obtain ⟨q, q1, q2, q3, q4, q5, q6, q7, D3, q8, q9⟩ := loop_at hsr3 hlp hL3
    have hend := run_endLoop (P := P) q1 (by rw [q2]; exact hns)
    have hkill : SR B w0 ι3 (v.2.put l .dead) (w3.putObj (w.alloc (.deferred (some []))).heap.size (.loop { q with state := .exhausted })) := by
      have hw := hsr3.write (a' := .loop .exhausted pe tm2 ps2 as2 bo2 de2) hlp rfl hL3 (o' := .loop { q with state := .exhausted }) ⟨_, rfl, rfl, q3, q4, q5, q6, q7, D3, q8, q9⟩
      have hk := hw.kill (put_get _ _ _)
      exact hk.congr (fun j => put_put v.2 l _ _ j) rfl
    have hle' : ι.le ι3 := Ren.le_trans hle2 hle3
    refine ⟨pe, w3.putObj (w.alloc (.deferred (some []))).heap.size (.loop { q with state := .exhausted }), ?_, ?_⟩
    · rw [← q3]; exact hend
    · cases pe with
      | none => exact ⟨_, hq, rfl, ι3, Ren.le_trans hk hle', hkill, hfr1.mono (Ren.le_trans m2 hle3)⟩
      | some c =>
        exact hq B w0 κ hbase ι3 _ _ none (Ren.le_trans hk hle') hkill (hfr1.mono (Ren.le_trans m2 hle3)) trivial
end
end
end Go.Ax
