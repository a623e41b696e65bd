/-
  OWN WORK, TOLD ONCE FOR ALL TEXTS YtmjmpmmonelmmaaAxA TO YtmjmpmmonelmmaaAxU: an abstract machine for the program's text that the kernel can run, and the proof that it is sound: what it answers is what the program answers. No condition.
-/
import Derived.Test.YtmjmpmmonelmmaaAxO
namespace Go.Ax
noncomputable section
open Go.RowKit

/-! ### A range over a map with several entries: whichever comes next -/
section
variable {P : Program} {B : Prot} {w0 : World} {ι : Ren} {st : ASt} {w : World}

theorem aNext_any (h : SR B w0 ι st w) {x : AV} {x' : Value} {ty : TypeId} {i j since ck : Nat} {seen : List Nat} {cs : Ents} (hx : VR ι x x') (hc : candsOf x st = some (i, j, since, seen, ck, cs)) (hne : cs ≠ []) :
    ∃ c r, c < cs.length ∧ aNextC c x st = some r ∧ Did P B w0 ι w (Instr.next x' false ty) r := by
  have hc0 := hc
  unfold candsOf at hc
  split at hc
  rotate_left
  · simp at hc
  rename_i i1
  cases hx with
  | ptr _ _ L hL =>
  split at hc
  rotate_left
  · simp at hc
  rename_i j1 since1 seen1 last hi
  split at hc
  rotate_left
  · simp at hc
  rename_i es c1 hj
  obtain ⟨L', o, h1, h2, h0, m', h3, h4⟩ := h.obj i1 _ hi (by simp)
  rw [hL] at h1; cases h1
  rw [h3] at h2
  have e0 : L.p + 0 = 0 := by omega
  obtain ⟨D, hD, rfl⟩ := h4
  obtain ⟨es', ho, hent⟩ := map_obj h hj hD
  cases hbad : (bif isNil seen1 then false else bif isNil es then false else allE (fun b => Nat.ble last b) es)
  rotate_left
  · rw [hbad] at hc; exact absurd hc (by simp)
  simp only [hbad, cond_false] at hc
  have hbad' : (!seen1.toArray.isEmpty && !es'.isEmpty && es'.all (fun e => decide (e.born ≥ last))) = false := by
    have e1 : seen1.toArray.isEmpty = isNil seen1 := by cases seen1 <;> rfl
    have e2 : es'.isEmpty = isNil es := by
      have := hent.1
      cases es with
      | nil => have := hent.nil; simp at this; subst this; rfl
      | cons a l => simp at this; simp [isNil]; intro h; subst h; simp at this
    have e3 : es'.all (fun e => decide (e.born ≥ last)) = allE (fun b => Nat.ble last b) es := by
      rw [allE_ok hent, ← Array.all_toList]
      congr 1; funext e
      rw [Bool.eq_iff_iff, decide_eq_true_eq, Nat.ble_eq]
    rw [e1, e2, e3]
    revert hbad
    cases isNil seen1 <;> cases isNil es <;> cases allE (fun b => Nat.ble last b) es <;> simp
  have l1 := filt_ok (p := fun b => Bool.not (memN b seen1)) hent
  have l2 := filt_ok (p := fun b => Nat.blt b since1) l1
  have l3 := filt_ok (p := fun b => Nat.ble since1 b) l1
  have q1 : (es'.filter fun e => !seen1.toArray.contains e.born).toList = es'.toList.filter fun e => Bool.not (memN e.born seen1) := by
    rw [Array.toList_filter]
    congr 1; funext e; rw [memN_ok]
  have q2 : ((es'.filter fun e => !seen1.toArray.contains e.born).filter fun e => decide (e.born < since1)).toList = (es'.toList.filter fun e => Bool.not (memN e.born seen1)).filter fun e => Nat.blt e.born since1 := by
    rw [Array.toList_filter, q1]
    congr 1; funext e; rw [Bool.eq_iff_iff, decide_eq_true_eq, Nat.blt_eq]
  have q3 : ((es'.filter fun e => !seen1.toArray.contains e.born).filter fun e => decide (e.born ≥ since1)).toList = (es'.toList.filter fun e => Bool.not (memN e.born seen1)).filter fun e => Nat.ble since1 e.born := by
    rw [Array.toList_filter, q1]
    congr 1; funext e; rw [Bool.eq_iff_iff, decide_eq_true_eq, Nat.ble_eq]
  rw [← q2] at l2
  rw [← q3] at l3
  generalize hA : ((es'.filter fun e => !seen1.toArray.contains e.born).filter fun e => decide (e.born < since1)) = A at l2
  generalize hB : ((es'.filter fun e => !seen1.toArray.contains e.born).filter fun e => decide (e.born ≥ since1)) = Bq at l3
  split at hc
  rotate_left
  · simp at hc
  rename_i hnil
  rw [hnil] at l3
  have hB0 : Bq = #[] := Array.ext' (by simpa using l3.nil)
  simp only [Option.some.injEq, Prod.mk.injEq] at hc
  obtain ⟨rfl, rfl, rfl, rfl, rfl, hcs⟩ := hc
  rw [hcs] at l2
  have hlen : cs.length = A.size := by have := l2.1; simpa using this
  have hpos : 0 < A.size := by
    rw [← hlen]; exact List.length_pos_iff.2 hne
  have harr : ((if A.isEmpty then #[none] else #[]) ++ (A ++ #[]).map some) = (A.map some : Array (Option MapEntry)) := by
    have : A.isEmpty = false := by simp; intro e; subst e; simp at hpos
    simp [this]
  let idx : Nat := if (Question.mapNext A.size).forced then 0 else (Question.mapNext A.size).cut (w.tape w.drawn (.mapNext A.size))
  let w1 : World := if (Question.mapNext A.size).forced then w else { w with drawn := w.drawn + 1 }
  have hidx : idx < A.size := by
    simp only [idx]
    split
    · exact hpos
    · exact Nat.mod_lt _ hpos
  have hch : (choose (.mapNext A.size)).run P w = .ok idx w1 := by
    rw [run_choose]
    simp only [idx, w1]
    split <;> rfl
  have hw1 : w1.heap = w.heap := by simp only [w1]; split <;> rfl
  have hsr1 : SR B w0 ι st w1 := by
    simp only [w1]; split
    · exact h
    · exact h.drawn _
  have hci : idx < cs.length := by omega
  have hce : cs[idx]? = some cs[idx] := by simp [hci]
  have hAe : A[idx]? = some A[idx] := by simp [hidx]
  obtain ⟨f1, f2, f3⟩ := l2.2 idx cs[idx] A[idx] hce (by simp)
  refine ⟨idx, (.tuple [.bool true, cs[idx].1, cs[idx].2.1], st.put i1 (.miter (some j1) since1 (seen1 ++ [cs[idx].2.2]) c1)), hci, ?_, ?_⟩
  · simp only [aNextC, hc0, hce]
  have h2' : w1.heap[L.b]? = some (.mapIter (some D.b) since1 seen1.toArray last) := by rw [hw1]; exact h2
  have hw := hsr1.write (a' := .miter (some j1) since1 (seen1 ++ [cs[idx].2.2]) c1) hi rfl hL (o' := .mapIter (some D.b) since1 (seen1.toArray.push A[idx].born) c1)
    ⟨h0, some D.b, by rw [f3]; simp, D, hD, rfl⟩
  refine ⟨ι, .tuple #[.bool true, A[idx].key, A[idx].val], _, ?_, ι.le_refl, hw, three f1 f2⟩
  rw [e0]
  simp only [Instr.next, Sem.run_bind, run_getMI h2, Result.andThen_ok, run_getMap ho, hbad', Bool.false_eq_true, if_false, hA, hB, hB0]
  rw [harr, Array.size_map, hch]
  simp only [Result.andThen_ok]
  have hget : (A.map some)[idx]? = some (some A[idx]) := by simp [hidx]
  rw [hget]
  simp only [Sem.run_bind, run_setMI _ h2', Result.andThen_ok, Sem.run_pure]
end
/-! ### The first operation of a loop's body: 'next' on a map -/
section
variable {P : Program} {E : Env} {B : Prot} {w0 : World} {ι : Ren} {st : ASt} {w : World} {fr : AFr} {a : Act}

theorem left_ok (hE : E.Ok P) {ex : ExecT} {call round : CallT} (hex : ExecOK P B w0 ex) (hc : CallOK P B w0 call) (hr : RoundOK P B w0 round) {ro rl : Option Nat} (hro : RO ι ro rl)
    {x : Operand} {v : AV} (hv : evA fr x = some v) {i j since ck : Nat} {seen : List Nat} {cs : Ents} (hcs : candsOf v st = some (i, j, since, seen, ck, cs)) (hne : cs ≠ []) (hsr : SR B w0 ι st w) (hfr : FRA ι fr a) :
    ∀ (body : Code), leftHas body = some x → (∀ c, c < cs.length → ∃ r, leftRun E call round ex ro c body fr st = some r) →
      body.wpIn (FF rl) 0 P (fun e a' w' => ∃ c r, c < cs.length ∧ leftRun E call round ex ro c body fr st = some r ∧ ExPost B w0 ι r e a' w') a w := by
  intro body
  induction body with
  | seq p q ihp _ =>
    intro hl hall
    have hallp : ∀ c, c < cs.length → ∃ r, leftRun E call round ex ro c p fr st = some r := fun c hcl => by
      obtain ⟨r, hr⟩ := hall c hcl
      simp only [leftRun] at hr
      cases hp : leftRun E call round ex ro c p fr st with
      | none => rw [hp] at hr; simp at hr
      | some r => exact ⟨r, rfl⟩
    refine wpIn_seq (wpIn_mono (ihp hl hallp) ?_)
    rintro e a' w' ⟨c, r1, hcl, h1, he, ι', h2, h3, h4⟩
    obtain ⟨r, hrr⟩ := hall c hcl
    have hrr0 := hrr
    simp only [leftRun, h1] at hrr
    obtain ⟨e1, fr1, st1⟩ := r1
    simp only at he; subst he
    cases e with
    | normal =>
      simp only at hrr
      exact wpIn_mono (hex ro q fr1 st1 r hrr ι' w' a' rl h3 h4 (hro.mono h2)) fun e2 a2 w2 hp => ⟨c, r, hcl, hrr0, hp.le h2⟩
    | _ =>
      simp only [Option.some.injEq] at hrr; subst hrr
      exact ⟨c, _, hcl, hrr0, rfl, ι', h2, h3, h4⟩
  | region id ops dr =>
    intro hl hall
    cases dr with
    | true => simp [leftHas] at hl
    | false =>
      simp only [leftHas] at hl
      split at hl
      rotate_left
      · simp at hl
      rename_i o os hops
      split at hl
      · simp at hl
      rename_i hg
      split at hl
      rotate_left
      · simp at hl
      rename_i x1 isS hop
      cases isS
      rotate_left
      · simp at hl
      simp only [cond_false, Option.some.injEq] at hl
      subst hl
      refine wpIn_region ?_
      have hsz : ops.size = os.length + 1 := by have := congrArg List.length hops; simpa using this
      rw [List.range_eq_range', hsz, List.range'_succ]
      have ho : ops[0]? = some o := by
        have : ops.toList[0]? = some o := by rw [hops]; rfl
        simpa using this
      simp only [wpOpsIn, ho]
      have hgd : guardAny ops.toList fr o = false := by simp [guardAny, hg]
      have hwt : wantedA ops.toList fr o = true := by simp [wantedA, hg]
      rw [wanted_ok hfr.hf ops o hgd, hwt]
      simp only [if_true]
      obtain ⟨c, u, hcl, hnc, ι', y, w', hrun, hle, hsr', hy⟩ := aNext_any (P := P) (ty := o.type) hsr (evA_ok (a := a) hfr.hf hv) hcs hne
      refine ⟨fun f _ => FF_fn rl f, ?_⟩
      rw [Oper.semAt_eq _ _ _ (by simp [hop])]
      have hrun' : (execOp a.eval o).run P w = .ok (.value y) w' := by
        simp only [execOp, hop, Sem.run_bind, hrun, Result.andThen_ok, Sem.run_pure]
      rw [hrun', Oper.uponIn_value]
      obtain ⟨r, hrr⟩ := hall c hcl
      have hrr0 := hrr
      simp only [leftRun, hops, hop, hv, hnc] at hrr
      split at hrr
      rotate_left
      · simp at hrr
      rename_i fr1 hput
      split at hrr
      rotate_left
      · simp at hrr
      rename_i fr2 st2 hreg
      simp only [Option.some.injEq] at hrr
      rw [← hops] at hreg
      refine regL_ok hE hc hr os 1 fr1 u.2 fr2 st2 ι' w' _ (fun j => ?_) hreg hsr' (put_ok (hfr.mono hle) hy hput) (fun ι'' a'' w'' h1 h2 h3 => ⟨c, r, hcl, hrr0, ?_⟩)
      · have : ops.toList[j + 1]? = os[j]? := by rw [hops]; simp
        rw [← this]; simp; congr 1; omega
      · subst hrr; exact ⟨rfl, ι'', Ren.le_trans hle h1, h2, h3⟩
  | _ => intro hl; simp [leftHas] at hl
end
end
end Go.Ax
