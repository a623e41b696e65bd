/-
  OWN WORK, TOLD ONCE FOR ALL TEXTS YtmjmpmmonelmmaaAxA TO YtmjmpmmonelmmaaAxU: an abstract machine for the program's text that the kernel can run, and the proof that it is sound: what it answers is what the program answers. No condition.
-/
import Derived.Test.YtmjmpmmonelmmaaAxX
namespace Go.Ax
noncomputable section
open Go.RowKit Go.Region
section
variable {P : Program} {E : Env} {B : Prot} {w0 : World} {ι : Ren} {st : ASt} {w : World} {fr : AFr} {a : Act}

theorem mkConv_ok (hE : E.Ok P) {src dst : TypeId} {x : AV} {x' : Value} {y : AO × Sh} (hx : VR ι x x') (hr : mkConv E src dst x = some y) : Made P ι w (convert src dst x') y.1 y.2 := by
  simp only [mkConv] at hr
  split at hr
  · simp at hr
  rename_i td htd
  split at hr
  · simp at hr
  rename_i ts hts
  have hd := (mkTI_ok (hE.ty _ _ htd)).run_und w
  have hs := (mkTI_ok (hE.ty _ _ hts)).run_und w
  split at hr
  rotate_left
  · simp at hr
  rename_i e he
  rw [he] at hd
  split at hr
  rotate_left
  · simp at hr
  rename_i l
  cases hx with
  | str _ s hs' =>
    split at hr
    · rename_i te hte
      split at hr
      · rename_i h8
        simp only [Option.some.injEq] at hr; subst hr
        have hte' := (mkTI_ok (hE.ty _ _ hte)).run_und w
        rw [h8] at hte'
        have hlen : l.length = s.size := by rw [← hs']; simp
        let q := Question.appendCap s.size 0 e
        let cap := q.cut (w.tape w.drawn q)
        have hcap : s.size ≤ cap := by simp only [cap, q, Question.cut]; omega
        let w1 : World := { w with drawn := w.drawn + 1 }
        let row : Array Value := (s.data.map fun b => (.int .u8 b.toNat : Value)) ++ Array.replicate (cap - s.size) (.int .u8 0)
        have hrow : row.size = cap := by
          simp only [row, Array.size_append, Array.size_map, Array.size_replicate]
          have : s.data.size = s.size := rfl
          omega
        have hor : OR ι ⟨w.heap.size, 0, cap⟩ (.cells (ofBytes l) true) (.cells row e (cap, cap + 1)) :=
          ⟨row, e, cap, cap + 1, rfl, hrow, by
            have : (ofBytes l).length = l.length := by rw [← hs', ofBytes_ok]; simp
            simp only [Nat.zero_add, hrow]; omega, by
            rw [← hs', ofBytes_ok]; intro v hv; simp at hv; obtain ⟨b, _, rfl⟩ := hv; rfl, by
            intro k v v' hv hv'
            rw [← hs', ofBytes_ok] at hv
            simp only [List.getElem?_map] at hv
            simp only [Nat.zero_add, row] at hv'
            cases hb : s.data.toList[k]? with
            | none => rw [hb] at hv; simp at hv
            | some b =>
              rw [hb] at hv
              simp at hv; subst hv
              have hk : k < s.data.size := by have := (List.getElem?_eq_some_iff.1 hb).1; simpa using this
              rw [Array.getElem?_append_left (by simpa using hk)] at hv'
              have hb' : s.data[k]? = some b := by simpa using hb
              simp [hb'] at hv'
              subst hv'
              exact .int _ _, fun _ => .inr (by rw [hrow]; exact Nat.le_refl _)⟩
        refine ⟨rfl, .slice (some ⟨w.heap.size, 0, none⟩) s.size cap, .cells row e (cap, cap + 1), cap, w.drawn + 1, ?_, hor, fun κ k hk => ?_⟩
        · have hfz : (w1.alloc (.cells row e)).freeze ⟨w.heap.size, row.size, none⟩ 1 = w1.alloc (.cells row e (cap, cap + 1)) := by
            simp only [World.freeze, World.alloc]
            simp only [Nat.one_ne_zero, if_false]
            congr 1
            apply Array.ext_getElem?
            intro j
            have e1 : w1.heap = w.heap := rfl
            rw [Array.getElem?_modify]
            by_cases hj : w.heap.size = j
            · subst hj; simp [e1, hrow]
            · simp only [hj, if_false]
              rw [Array.getElem?_push, Array.getElem?_push, e1]
              have : ¬ j = w.heap.size := fun e => hj e.symm
              simp [this]
          have hq : q.forced = false := rfl
          have hsh : (w1.alloc (.cells row e)).shape? w.heap.size = some (e, row.size) := by
            have := heap_alloc_at w1 (.cells row e)
            have e1 : w1.heap.size = w.heap.size := rfl
            rw [e1] at this
            simp only [World.shape?, this]
          simp only [convert, Sem.run_bind, hs, hd, hte', Result.andThen_ok]
          have goal : (Conv.stringToBytes e s).run P w = .ok (.slice (some ⟨w.heap.size, 0, none⟩) s.size cap) (w1.alloc (.cells row e (cap, cap + 1))) := by
            simp only [Conv.stringToBytes, Sem.run_bind, run_choose]
            rw [show Question.forced (.appendCap s.size 0 e) = false from rfl]
            simp only [Bool.false_eq_true, if_false, Result.andThen_ok, newRow, Sem.run_bind, run_newObj, markStringish, run_shape, Sem.run_pure]
            show ((Sem.run P (match (w1.alloc (.cells row e)).shape? w.heap.size with | some (_, n) => freeze { block := w.heap.size, off := n } 1 | x => pure ()) (w1.alloc (.cells row e))).andThen fun a w' =>
              Result.ok (Value.slice (some ⟨w.heap.size, 0, none⟩) s.size cap) w') = _
            rw [hsh]
            simp only [run_freeze, Result.andThen_ok]
            rw [hfz]
          cases hdd : ts.desc <;> simp only [hdd] at * <;> exact goal
        · show VR _ (AV.slice (some (k, 0)) l.length (.rest 1)) _
          rw [hlen]
          refine VR.slice k 0 _ cap _ _ hk ?_ (by omega)
          show 0 + 0 + cap * 1 = cap
          omega
      · simp at hr
    · simp at hr

theorem aFree_ok (hE : E.Ok P) (hfr : FR ι fr a.tmps) {o : Oper} {x : AO × Sh} (h : aFree E o fr = some x) :
    (∃ s : Sem Value, execOp a.eval o = (do pure (.value (← s))) ∧ Made P ι w s x.1 x.2) ∧ ∀ c, o.op ≠ .defer c := by
  have hev : ∀ {x v}, evA fr x = some v → VR ι v (a.eval x) := fun h => evA_ok hfr h
  unfold aFree at h
  split at h
  case h_1 t ho =>
    refine ⟨?_, by simp [ho]⟩
    split at h
    · rename_i ti hti
      split at h
      · rename_i z hz
        refine ⟨Instr.alloc t true (.tuple #[]), by simp only [execOp, ho], ?_⟩
        obtain ⟨v, h1, h2⟩ := (mkTI_ok (hE.ty _ _ hti)).run_zero hz w
        obtain ⟨own, p, ob, tot, n, h3, h4⟩ := mkBox_ok (P := P) (w := w) t (h2 ι) h
        refine ⟨own, p, ob, tot, n, ?_, h4⟩
        simp only [Instr.box, Sem.run_bind] at h3
        simp only [Instr.alloc, Sem.run_bind, h1, Result.andThen_ok]
        exact h3
      · simp at h
    · simp at h
  case h_2 t x ho =>
    refine ⟨?_, by simp [ho]⟩
    split at h
    · rename_i v hv
      exact ⟨Instr.box t (a.eval x), by simp only [execOp, ho], mkBox_ok t (hev hv) h⟩
    · simp at h
  case h_3 t n ps ho =>
    refine ⟨?_, by simp [ho]⟩
    split at h
    · rename_i l hl
      obtain ⟨h1, h2⟩ := evP_ok hfr ps.toList l hl
      exact ⟨Instr.buildSlice t n (ps.map fun (i, x) => (i, a.eval x)), by simp only [execOp, ho], mkSlice_ok hE (by simpa using h1) (by simpa using h2) h⟩
    · simp at h
  case h_4 t rs ho =>
    refine ⟨?_, by simp [ho]⟩
    split at h
    · simp only [Option.some.injEq] at h; subst h
      refine ⟨Instr.makeMap t none, by simp only [execOp, ho, Option.map_none], rfl, .map (some w.heap.size), .map #[] 0, 0, w.drawn, ?_, ⟨#[], rfl, rfl, fun i x e hx => by simp at hx⟩, fun κ k hk => .map _ ⟨w.heap.size, 0, 0⟩ hk⟩
      simp only [Instr.makeMap, Sem.run_bind, run_newObj_alloc, Result.andThen_ok, Sem.run_pure]
    · simp at h
  case h_5 t l c ho =>
    refine ⟨?_, by simp [ho]⟩
    split at h
    · rename_i x hx
      split at h
      · rename_i y hy
        exact ⟨Instr.makeSlice t (a.eval l) (a.eval c), by simp only [execOp, ho], mkMake_ok hE (hev hx) (hev hy) h⟩
      · simp at h
    · simp at h
  case h_6 s d x ho =>
    refine ⟨?_, by simp [ho]⟩
    split at h
    · rename_i v hv
      exact ⟨convert s d (a.eval x), by simp only [execOp, ho], mkConv_ok hE (hev hv) h⟩
    · simp at h
  case h_7 => simp at h

/-- an operation that makes an object, at a number that was set aside -/
theorem free_step_ok (hE : E.Ok P) (hsr : SR B w0 ι st w) (hfr : FRA ι fr a) {ops : Array Oper} {o : Oper} {fr' : AFr} {x : AO × Sh} {k : Nat} {rs : Nat → Prop}
    (hw : wantedA ops.toList fr o = true) (hgd : guardAny ops.toList fr o = false) (h : aFree E o fr = some x) (hp : fr.put o.dst (x.2.val k) = some fr') (hk : k < st.next) (hn : ι k = none) (hrs : ∀ i, rs i → B.rs i ∧ i ≠ k)
    {ro : Option Nat} {K : Act → World → Prop} {Q : Exit → Act → World → Prop}
    (hK : ∀ ι' a' w', ι.le ι' → FRA ι' fr' a' → SR ⟨B.ro, B.ex, rs⟩ w0 ι' (st.put k x.1) w' → K a' w') :
    if Region.wanted o (yielded ops a.tmps) then o.wpIn (FF ro) 0 P a w K Q else (∀ f, o.about P w a.eval = some f → (FF ro).fn f) ∧ K (a.put o.dst undef) w := by
  rw [wanted_ok hfr.hf ops o hgd, hw]
  simp only [if_true]
  obtain ⟨⟨s, h1, own, v, ob, tot, n, h2, h3, h4⟩, hnd⟩ := aFree_ok (P := P) (w := w) hE hfr.hf h
  refine ⟨fun f _ => FF_fn ro f, ?_⟩
  rw [Oper.semAt_eq _ _ _ hnd]
  have hrun : (execOp a.eval o).run P w = .ok (.value v) (({ w with drawn := n } : World).alloc ob) := by
    rw [h1]; simp only [Sem.run_bind, h2, Result.andThen_ok, Sem.run_pure]
  rw [hrun, Oper.uponIn_value]
  obtain ⟨k1, k2, k3⟩ := (hsr.drawn n).allocAt (k := k) x.1 ob tot h3 own hk hn hrs
  exact hK _ _ _ k2 (put_ok (hfr.mono k2) (h4 _ _ k3) hp) k1
end
end
end Go.Ax
