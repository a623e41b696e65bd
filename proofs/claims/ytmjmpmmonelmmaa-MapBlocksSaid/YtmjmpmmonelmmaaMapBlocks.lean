/-
PROVED HERE: 'Rows.MapBlocksSaid': for every set, every block, every place and every byte the call of the law's function returns true, and the arguments read as they did. No condition.
  THE WALK is a run of the function's text in an abstract machine (the texts YtmjmpmmonelmmaaAxA to YtmjmpmmonelmmaaAxFm show that it is sound), with the arguments open; what it calls by contracts of their own, both hashes among them (the texts YtmjmpmmonelmmaaSumM, YtmjmpmmonelmmaaRs)
-/
import Derived.Test.YtmjmpmmonelmmaaAxFm
import Derived.Test.YtmjmpmmonelmmaaRows
import Derived.KernelRfl
import Derived.Test.YtmjmpmmonelmmaaRs
import Derived.Carry
import Derived.WalkKit
import Derived.ProofKit
import Derived.OpenShut
import Derived.ShutString
import Derived.ChangeOld
import Derived.ChangeSlices
import Derived.Below
import Derived.Deep.SlicePairs
import Derived.Deep.Grids
import Derived.WideKeyArgs
section
namespace Go.Ax
noncomputable section
open Go.RowKit

/-! ### What one call comes to at one memory -/
def Call1 (P : Program) (f : Nat) (args : List AV) (st : ASt) (r : AV × ASt) : Prop :=
  ∀ (B : Prot) w0 ι w args', SR B w0 ι st w → VRs ι args args' →
    (callFunc f args').run P w = .ok (.enter f args') w ∧ CallsIn Fence.wide 0 P f args' w (Post B w0 ι r)

theorem Call1.of {P : Program} {sum : CallT} (hs : CallsOK P sum) {f : Nat} {args : List AV} {st : ASt} {r : AV × ASt} (h : sum f args st = some r) : Call1 P f args st r :=
  fun B w0 ι w args' hsr hv => hs B w0 f args st r h ι w args' hsr hv

open Classical in
/-- calls that are told one by one -/
def tabC : List (Nat × List AV × ASt × (AV × ASt)) → CallT
  | [], _, _, _ => none
  | (g, a, s, r) :: t, f, args, st => if g = f ∧ a = args ∧ s = st then some r else tabC t f args st

theorem tabC_ok {P : Program} : ∀ {tab : List (Nat × List AV × ASt × (AV × ASt))}, (∀ e, e ∈ tab → Call1 P e.1 e.2.1 e.2.2.1 e.2.2.2) → CallsOK P (tabC tab)
  | [], _ => fun _ _ f args st r h => by cases h
  | (g, a, s, r) :: t, h => fun B w0 f args st r' hr ι w args' hsr hv => by
    unfold tabC at hr
    split at hr
    · rename_i e
      obtain ⟨rfl, rfl, rfl⟩ := e
      simp only [Option.some.injEq] at hr
      subst hr
      exact h _ List.mem_cons_self B w0 ι w args' hsr hv
    · exact tabC_ok (fun e he => h e (List.mem_cons_of_mem _ he)) B w0 f args st r' hr ι w args' hsr hv

theorem tabC_hd (f : Nat) (args : List AV) (st : ASt) (r : AV × ASt) (t : List (Nat × List AV × ASt × (AV × ASt))) : tabC ((f, args, st, r) :: t) f args st = some r := by
  simp [tabC]
theorem tabC_tl {g f : Nat} {a args : List AV} {s st : ASt} {r : AV × ASt} {t : List (Nat × List AV × ASt × (AV × ASt))} (h : ¬ (g = f ∧ a = args ∧ s = st)) : tabC ((g, a, s, r) :: t) f args st = tabC t f args st := by
  simp only [tabC, h, if_false]
theorem tabC_tlf {g f : Nat} {a args : List AV} {s st : ASt} {r : AV × ASt} {t : List (Nat × List AV × ASt × (AV × ASt))} (h : Nat.beq g f = false) : tabC ((g, a, s, r) :: t) f args st = tabC t f args st :=
  tabC_tl fun e => by rw [e.1, Nat.beq_refl] at h; cases h
theorem tabC_tln {g f : Nat} {a args : List AV} {s st : ASt} {r : AV × ASt} {t : List (Nat × List AV × ASt × (AV × ASt))} (h : Nat.beq s.next st.next = false) : tabC ((g, a, s, r) :: t) f args st = tabC t f args st :=
  tabC_tl fun e => by rw [e.2.2, Nat.beq_refl] at h; cases h
theorem tabC_tla {g f : Nat} {a args : List AV} {s st : ASt} {r : AV × ASt} {t : List (Nat × List AV × ASt × (AV × ASt))} (h : a ≠ args) : tabC ((g, a, s, r) :: t) f args st = tabC t f args st :=
  tabC_tl fun e => h e.2.1

/-- calls of these functions alone -/
def onlyC (fs : List Nat) (q : CallT) : CallT := fun f args st => bif memN f fs then q f args st else none
theorem onlyC_ok {P : Program} {fs : List Nat} {q : CallT} (h : CallsOK P q) : CallsOK P (onlyC fs q) := fun B w0 f args st r hr ι w args' hsr hv => by
  unfold onlyC at hr
  cases hm : memN f fs
  · rw [hm] at hr; cases hr
  · rw [hm] at hr; exact h B w0 f args st r hr ι w args' hsr hv

/-- a call that a summary tells -/
theorem call_at {E : Env} {draw : DrawT} {sum : CallT} {n f : Nat} {args : List AV} {st : ASt} {r : AV × ASt} (h : sum f args st = some r) : (M E draw sum (n + 1)).call f args st = some r := by
  show (match sum f args st with | some r => some r | none => callF E (M E draw sum n).ex f args st) = _
  rw [h]

/-! ### A frame: a contract at a small memory, used at any -/
/-- where the numbers of a small memory come from: a number, how far behind its first place, is it handed over -/
abbrev Src := List (Option (Nat × Nat × Bool))
def gS (src : Src) (nx : Nat) (j : Nat) : Nat := match src[j]? with | some (some (i, _, true)) => i | _ => nx + j
def Loc.sh (L : Loc) (o : Nat) : Loc := ⟨L.b, L.p + o, L.tot⟩
def renS (src : Src) (ι : Ren) : Ren := fun j => match src[j]? with | some (some (i, o, _)) => (match ι i with | some L => some (L.sh o) | none => none) | _ => none

def Through (g : Nat → Nat) (ι κ : Ren) : Prop := ∀ j L, ι j = some L → κ (g j) = some L

def BackV (g : Nat → Nat) (v v' : AV) : Prop := ∀ ι κ x, Through g ι κ → VR ι v x → VR κ v' x
def BackO (g : Nat → Nat) (a a' : AO) : Prop := a'.own = a.own ∧ ∀ ι κ L o, Through g ι κ → OR ι L a o → OR κ L a' o

mutual
def mapV (g : Nat → Nat) : AV → AV
  | .ptr (some (i, o)) => .ptr (some (g i, o))
  | .slice (some (i, o)) l c => .slice (some (g i, o)) l c
  | .clos f cs => .clos f (mapVs g cs)
  | .bound f fs cs => .bound f (mapVs g fs) (mapVs g cs)
  | .yield i => .yield (g i)
  | .iface t v => .iface t (mapV g v)
  | .agg cs => .agg (mapVs g cs)
  | .tuple cs => .tuple (mapVs g cs)
  | .map (some i) => .map (some (g i))
  | v => v
def mapVs (g : Nat → Nat) : List AV → List AV
  | [] => []
  | v :: vs => mapV g v :: mapVs g vs
end

theorem mapVs_map (g : Nat → Nat) : ∀ l : List AV, mapVs g l = l.map (mapV g)
  | [] => rfl
  | v :: vs => by rw [mapVs, mapVs_map g vs]; rfl

theorem mapV_cell {g : Nat → Nat} {v : AV} (h : v.isCell = true) : (mapV g v).isCell = true := by
  cases v with
  | ptr a => cases a with | none => rfl | some p => rfl
  | slice a l c => cases a with | none => rfl | some p => rfl
  | map a => cases a with | none => rfl | some p => rfl
  | agg _ => cases h
  | tuple _ => cases h
  | any => cases h
  | _ => rfl

theorem VR.through {g : Nat → Nat} {ι κ : Ren} (ht : Through g ι κ) {v : AV} {x : Value} (h : VR ι v x) : VR κ (mapV g v) x := by
  have rows : ∀ {cs : List AV} {cs' : Array Value}, cs.length = cs'.size → (∀ (i : Nat) v v', cs[i]? = some v → cs'[i]? = some v' → VR κ (mapV g v) v') →
      (mapVs g cs).length = cs'.size ∧ ∀ (i : Nat) v v', (mapVs g cs)[i]? = some v → cs'[i]? = some v' → VR κ v v' := fun {cs cs'} hs ih => by
    rw [mapVs_map]
    refine ⟨by rw [List.length_map]; exact hs, fun i v v' hv hv' => ?_⟩
    rw [List.getElem?_map, Option.map_eq_some_iff] at hv
    obtain ⟨a, h1, rfl⟩ := hv
    exact ih i a v' h1 hv'
  induction h with
  | bool b => exact .bool b
  | int k n => exact .int k n
  | str l s h => exact .str l s h
  | ptrN => exact .ptrN
  | ptr i o L h => exact .ptr _ o L (ht _ _ h)
  | sliceN => exact .sliceN
  | slice i o l c' L c h hc hl => exact .slice _ o l c' L c (ht _ _ h) hc hl
  | clos f cs cs' hs h ih => obtain ⟨a, b⟩ := rows hs ih; exact .clos f _ cs' a b
  | bound f fs cs fs' cs' hs hf h g' ih ig => obtain ⟨a, b⟩ := rows hs ih; obtain ⟨c, d⟩ := rows hf ig; exact .bound f _ _ fs' cs' a c b d
  | yield i L h => exact .yield _ L (ht _ _ h)
  | nilFunc => exact .nilFunc
  | iface t v v' h ih => exact .iface t _ v' ih
  | nilIface => exact .nilIface
  | agg cs cs' hs hc h ih =>
    obtain ⟨a, b⟩ := rows hs ih
    refine .agg _ cs' a (fun v hv => ?_) b
    rw [mapVs_map] at hv
    obtain ⟨y, hy, rfl⟩ := List.mem_map.1 hv
    exact mapV_cell (hc y hy)
  | tuple cs cs' hs h ih => obtain ⟨a, b⟩ := rows hs ih; exact .tuple _ cs' a b
  | mapN => exact .mapN
  | map i L h => exact .map _ L (ht _ _ h)
  | slice0 a c => exact .slice0 a c
  | gptr g o => exact .gptr g o
  | any v => exact .any v

theorem BackV.of (g : Nat → Nat) (v : AV) : BackV g v (mapV g v) := fun _ _ _ ht h => h.through ht
theorem BackV.eq {g : Nat → Nat} {v v' : AV} (h : mapV g v = v') : BackV g v v' := h ▸ BackV.of g v
theorem BackV.keep {g : Nat → Nat} {v : AV} (h : refsV 0 v) : BackV g v v := fun _ _ _ _ hv => hv.noRef h

theorem BackO.row {g : Nat → Nat} {cs : List AV} {rw : Bool} (h : ∀ c, c ∈ cs → refsV 0 c) : BackO g (.cells cs rw) (.cells cs rw) :=
  ⟨rfl, fun ι κ L o _ ⟨c, e, lo, hi, q1, q2, q3, q4, q5, q6⟩ => ⟨c, e, lo, hi, q1, q2, q3, q4, fun k v v' hv hv' => (q5 k v v' hv hv').noRef (h v (List.mem_of_getElem? hv)), q6⟩⟩
theorem BackO.cells {g : Nat → Nat} {cs cs' : List AV} {rw : Bool} (h : mapVs g cs = cs') : BackO g (.cells cs rw) (.cells cs' rw) := by
  subst h
  refine ⟨rfl, fun ι κ L o ht ⟨c, e, lo, hi, q1, q2, q3, q4, q5, q6⟩ => ⟨c, e, lo, hi, q1, q2, by rw [mapVs_map, List.length_map]; exact q3, fun v hv => ?_, fun k v v' hv hv' => ?_, q6⟩⟩
  · rw [mapVs_map] at hv
    obtain ⟨y, hy, rfl⟩ := List.mem_map.1 hv
    exact mapV_cell (q4 y hy)
  · rw [mapVs_map, List.getElem?_map, Option.map_eq_some_iff] at hv
    obtain ⟨a, h1, rfl⟩ := hv
    exact (q5 k a v' h1 hv').through ht
theorem BackO.map {g : Nat → Nat} {es es' : List (AV × AV × Nat)} {c : Nat} (h : es.map (fun x => (mapV g x.1, mapV g x.2.1, x.2.2)) = es') : BackO g (.map es c) (.map es' c) := by
  subst h
  refine ⟨rfl, fun ι κ L o ht ⟨e, q1, q2, q3⟩ => ⟨e, q1, by rw [List.length_map]; exact q2, fun i x y hx hy => ?_⟩⟩
  rw [List.getElem?_map, Option.map_eq_some_iff] at hx
  obtain ⟨a, h1, rfl⟩ := hx
  obtain ⟨h2, h3, h4⟩ := q3 i a y h1 hy
  exact ⟨h2.through ht, h3.through ht, h4⟩

/-- a small memory: objects of a great one, numbers told again by their places in 'src'; an own one may be told as one that is but read -/
structure View2 (src : Src) (S S1 : ASt) : Prop where
  next : S1.next = src.length
  live : ∀ (j : Nat) i o w, src[j]? = some (some (i, o, w)) → (w = true → o = 0) ∧ ∃ a, S.h.get i = some a ∧ a ≠ .dead
  dom : ∀ j x, S1.h.get j = some x → j < src.length
  obj : ∀ j x, S1.h.get j = some x → x ≠ .dead → ∃ i o w a, src[j]? = some (some (i, o, w)) ∧ S.h.get i = some a ∧ a ≠ .dead ∧ (x.own = true → a.own = true ∧ w = true) ∧ ∀ ι L ob, OR ι L a ob → OR (renS src ι) (L.sh o) x ob
  uniq : ∀ j j' x i o w o' w', S1.h.get j = some x → x.own = true → src[j]? = some (some (i, o, w)) → src[j']? = some (some (i, o', w')) → j' = j

/-- what is written, what is new, told back -/
def outS (g : Nat → Nat) (outs : List (Nat × AO)) (S : ASt) (n : Nat) : ASt := { h := outs.foldl (fun h p => h.set D (g p.1) p.2) S.h, next := n }

theorem outs_get {g : Nat → Nat} : ∀ (outs : List (Nat × AO)) (h : T AO) (i : Nat) (a : AO), (outs.foldl (fun h p => h.set D (g p.1) p.2) h).get i = some a →
    (∃ p, p ∈ outs ∧ g p.1 = i ∧ p.2 = a) ∨ (h.get i = some a ∧ ∀ p, p ∈ outs → g p.1 ≠ i)
  | [], h, i, a, hi => .inr ⟨hi, fun p hp => by cases hp⟩
  | p :: ps, h, i, a, hi => by
    rcases outs_get ps _ i a hi with ⟨q, h1, h2, h3⟩ | ⟨h1, h2⟩
    · exact .inl ⟨q, List.mem_cons_of_mem _ h1, h2, h3⟩
    · rw [T.get_set] at h1
      by_cases e : i = g p.1
      · simp only [e, if_true, Option.some.injEq] at h1
        exact .inl ⟨p, List.mem_cons_self, e.symm, h1⟩
      · simp only [e, if_false] at h1
        refine .inr ⟨h1, fun q hq => ?_⟩
        rcases List.mem_cons.1 hq with rfl | hq
        · exact fun h => e h.symm
        · exact h2 q hq

structure Back (src : Src) (S S1 : ASt) (outs : List (Nat × AO)) (n : Nat) (q : AV × ASt) (v : AV) : Prop where
  val : BackV (gS src S.next) q.1 v
  next : S.next + q.2.next ≤ n ∧ S.next + src.length ≤ n
  out : ∀ p, p ∈ outs → gS src S.next p.1 < n ∧ (p.1 < src.length → ∃ x, S1.h.get p.1 = some x ∧ x.own = true) ∧ (p.2 = .dead ∨ p.2.own = true ∧ ∃ a, q.2.h.get p.1 = some a ∧ BackO (gS src S.next) a p.2)
  all : ∀ j x, S1.h.get j = some x → x.own = true → ∃ p, p ∈ outs ∧ p.1 = j

theorem own_nd {x : AO} (h : x.own = true) : x ≠ .dead := by intro e; subst e; cases h

theorem Call1.frame {P : Program} {f : Nat} {args args1 : List AV} {S S1 : ASt} {Q1 : AV × ASt → Prop}
    (hrun : ∀ B w0 ι w args', (∀ i, ¬ B.rs i) → SR B w0 ι S1 w → VRs ι args1 args' → (callFunc f args').run P w = .ok (.enter f args') w ∧ CallsIn Fence.wide 0 P f args' w fun e w' => ∃ v, Q1 v ∧ Post B w0 ι v e w')
    {src : Src} (hview : View2 src S S1) (ha : ∀ ι args', VRs ι args args' → VRs (renS src ι) args1 args')
    {outs : List (Nat × AO)} {n : Nat} {v : AV} (hback : ∀ q, Q1 q → Back src S S1 outs n q v) : Call1 P f args S (v, outS (gS src S.next) outs S n) := by
  intro B w0 ι w args' hsr hv
  let own1 : Nat → Prop := fun b => ∃ j x i o w' L, S1.h.get j = some x ∧ x.own = true ∧ src[j]? = some (some (i, o, w')) ∧ ι i = some L ∧ L.b = b
  let B1 : Prot := ⟨fun k => k < w.heap.size ∧ ¬ own1 k, fun k => k < w.heap.size ∧ ¬ own1 k, fun _ => False⟩
  have hall : ∀ k, B1.all k ↔ k < w.heap.size ∧ ¬ own1 k := fun k => ⟨fun h => by rcases h with h | h <;> exact h, .inl⟩
  have hren : ∀ {j L}, renS src ι j = some L → ∃ i o w' L0, src[j]? = some (some (i, o, w')) ∧ ι i = some L0 ∧ L = L0.sh o := fun {j L} h => by
    unfold renS at h
    split at h
    · rename_i i o w' hs
      split at h
      · rename_i L0 h0
        cases h
        exact ⟨i, o, w', L0, hs, h0, rfl⟩
      · cases h
    · cases h
  have hat : ∀ {i : Nat} {a : AO}, S.h.get i = some a → a ≠ .dead → ∃ L, ι i = some L ∧ L.b < w.heap.size := fun {i a} hi hd => by
    obtain ⟨L, o, h1, h2, _⟩ := hsr.obj i a hi hd
    exact ⟨L, h1, (Array.getElem?_eq_some_iff.1 h2).1⟩
  -- no object of the great memory but the one that is handed over lies in its block
  have apart : ∀ {i : Nat} {a : AO} {L : Loc}, S.h.get i = some a → a ≠ .dead → ι i = some L → (∀ j x o w', S1.h.get j = some x → x.own = true → src[j]? ≠ some (some (i, o, w'))) → B1.all L.b := fun {i a L} hi hd hL hne => by
    obtain ⟨L', h1, h2⟩ := hat hi hd
    rw [hL] at h1; cases h1
    refine (hall _).2 ⟨h2, ?_⟩
    rintro ⟨j, x, i', o', w', L', g1, g2, g3, g4, g5⟩
    obtain ⟨i2, o2, w2, a2, k1, k2, k3, k4, k5⟩ := hview.obj j x g1 (own_nd g2)
    rw [g3] at k1; cases k1
    exact hne j x o' w' g1 g2 (((hsr.own i' a2 L' k2 (k4 g2).1 g4).2 i a L hi hd hL g5.symm) ▸ g3)
  have hB : ∀ k, B.all k → B1.all k := fun k hk => (hall k).2 ⟨hsr.base k hk, by
    rintro ⟨j, x, i', o', w', L', g1, g2, g3, g4, g5⟩
    obtain ⟨i2, o2, w2, a2, k1, k2, k3, k4, k5⟩ := hview.obj j x g1 (own_nd g2)
    rw [g3] at k1; cases k1
    exact (hsr.own i' a2 L' k2 (k4 g2).1 g4).1 (g5 ▸ hk)⟩
  have hsr1 : SR B1 w (renS src ι) S1 w := by
    refine ⟨Keeps.refl _ _, fun k hk => ((hall k).1 hk).1, fun j x hj hd => ?_, fun j x L hj ho hL => ?_, fun j L hL => ?_, fun j x hj => ?_, fun j x L hj hd ho hL => ?_, fun i hi => hi.elim, fun g cs hg => ⟨hB g (hsr.glob g cs hg).1, hsr.globw g cs hg⟩⟩
    · obtain ⟨i, o, w', a, k1, k2, k3, k4, k5⟩ := hview.obj j x hj hd
      obtain ⟨L, ob, q1, q2, q3⟩ := hsr.obj i a k2 k3
      exact ⟨L.sh o, ob, by simp only [renS, k1, q1], q2, k5 ι L ob q3⟩
    · obtain ⟨i, o, w', a, k1, k2, k3, k4, k5⟩ := hview.obj j x hj (own_nd ho)
      obtain ⟨i', o2, w2, L0, k1', hL', rfl⟩ := hren hL
      rw [k1] at k1'; cases k1'
      refine ⟨fun hk => ((hall _).1 hk).2 ⟨j, x, i, o, w', L0, hj, ho, k1, hL', rfl⟩, fun j' x' L' hj' hd' hL2 hb => ?_⟩
      obtain ⟨i2, o3, w3, a2, m1, m2, m3, m4, m5⟩ := hview.obj j' x' hj' hd'
      obtain ⟨i3, o4, w4, L3, m1', hL3, rfl⟩ := hren hL2
      rw [m1] at m1'; cases m1'
      have := (hsr.own i a L0 k2 (k4 ho).1 hL').2 i2 a2 L3 m2 m3 hL3 hb
      subst this
      exact hview.uniq j j' x _ _ _ _ _ hj ho k1 m1
    · obtain ⟨i, o, w', L0, h1, _⟩ := hren hL
      rw [hview.next]; exact (List.getElem?_eq_some_iff.1 h1).1
    · rw [hview.next]; exact hview.dom j x hj
    · obtain ⟨i, o, w', a, k1, k2, k3, k4, k5⟩ := hview.obj j x hj hd
      obtain ⟨i', o2, w2, L0, k1', hL', rfl⟩ := hren hL
      rw [k1] at k1'; cases k1'
      obtain ⟨L1, g1, g2⟩ := hat k2 k3
      rw [hL'] at g1; cases g1
      refine ⟨g2, ?_⟩
      rintro ⟨j2, x2, i2, o3, w3, L2, m1, m2, m3, m4, m5⟩
      obtain ⟨i3, o4, w4, a3, p1, p2, p3, p4, p5⟩ := hview.obj j2 x2 m1 (own_nd m2)
      rw [m3] at p1; cases p1
      have := (hsr.own i2 a3 L2 p2 (p4 m2).1 m4).2 i a L0 k2 k3 hL' m5.symm
      subst this
      have := hview.uniq j2 j x2 _ _ _ _ _ m1 m2 m3 k1
      subst this
      rw [hj] at m1; cases m1
      rw [ho] at m2; cases m2
  obtain ⟨k1, k2⟩ := hrun B1 w (renS src ι) w args' (fun _ h => h) hsr1 (ha ι args' hv)
  refine ⟨k1, k2.mono ?_⟩
  rintro e w' ⟨q, hq, x, ι1, rfl, hle, hs, hx⟩
  have hb := hback q hq
  obtain ⟨v1, T1⟩ := q
  simp only at hs hx
  have hn1 : S.next + T1.next ≤ n := hb.next.1
  let κ : Ren := fun i => if i < S.next then ι i else ι1 (i - S.next)
  have hκ : ι.le κ := fun i L h => by
    have := hsr.dom i L h
    show (if i < S.next then ι i else _) = some L
    rw [if_pos this]; exact h
  have through : Through (gS src S.next) ι1 κ := fun j L hL => by
    unfold gS
    split
    · rename_i i o hs2
      obtain ⟨h0, a, h1, h2⟩ := hview.live j i o true hs2
      obtain ⟨L', h3, _⟩ := hat h1 h2
      have h4 : renS src ι j = some (L'.sh o) := by simp only [renS, hs2, h3]
      have h5 := hle j _ h4
      rw [hL] at h5; cases h5
      rw [h0 rfl]
      exact hκ i L' h3
    · show (if S.next + j < S.next then _ else ι1 (S.next + j - S.next)) = some L
      rw [if_neg (by omega), Nat.add_sub_cancel_left]
      exact hL
  refine ⟨x, κ, rfl, hκ, ?_, hb.val ι1 κ x through hx⟩
  have hcase : ∀ i a, (outS (gS src S.next) outs S n).h.get i = some a → a ≠ .dead →
      (∃ j a1 L o, gS src S.next j = i ∧ T1.h.get j = some a1 ∧ a1 ≠ .dead ∧ a.own = true ∧ a1.own = true ∧ ι1 j = some L ∧ κ i = some L ∧ w'.heap[L.b]? = some o ∧ OR κ L a o) ∨
      (S.h.get i = some a ∧ ∃ L, ι i = some L ∧ κ i = some L ∧ B1.all L.b) := fun i a hi hd => by
    rcases outs_get outs S.h i a hi with ⟨p, p1, p2, p3⟩ | ⟨h1, h2⟩
    · subst p3
      obtain ⟨_, _, hh | ⟨g1, a1, g2, g3, g4⟩⟩ := hb.out p p1
      · exact absurd hh hd
      · have hd1 : a1 ≠ .dead := by intro e; subst e; rw [g1] at g3; cases g3
        obtain ⟨L, o, q1, q2, q3⟩ := hs.obj p.1 a1 g2 hd1
        exact .inl ⟨p.1, a1, L, o, p2, g2, hd1, g1, g3.symm.trans g1, q1, p2 ▸ through _ _ q1, q2, g4 ι1 κ L o through q3⟩
    · obtain ⟨L, q1, q2⟩ := hat h1 hd
      refine .inr ⟨h1, L, q1, hκ i L q1, apart h1 hd q1 fun j x o w' hj ho he => ?_⟩
      obtain ⟨p, p1, rfl⟩ := hb.all j x hj ho
      obtain ⟨i2, o2, w2, a2, m1, m2, m3, m4, m5⟩ := hview.obj p.1 x hj (own_nd ho)
      rw [he] at m1; cases m1
      have hw := (m4 ho).2
      subst hw
      exact h2 p p1 (by simp only [gS, he])
  refine ⟨?_, ?_, fun i a hi hd => ?_, fun i a L hi ho hL => ?_, fun i L hL => ?_, fun i a hi => ?_, fun i a L hi hd ho hL => ?_, fun i hi => ?_, hsr.glob⟩
  · exact hsr.below.trans ⟨hs.below.os, hs.below.tape, hs.below.output, hs.below.size, fun k hk => hs.below.block k (hB k hk)⟩
  · exact fun k hk => Nat.lt_of_lt_of_le (hsr.base k hk) hs.below.size
  · rcases hcase i a hi hd with ⟨j, a1, L, o, _, _, _, _, _, _, q1, q2, q3⟩ | ⟨h1, L, q1, q2, q3⟩
    · exact ⟨L, o, q1, q2, q3⟩
    · obtain ⟨L', o, m1, m2, m3⟩ := hsr.obj i a h1 hd
      rw [q1] at m1; cases m1
      exact ⟨L, o, q2, (hs.below.block _ q3).trans m2, m3.mono hκ⟩
  · have hd : a ≠ .dead := by intro e; subst e; cases ho
    rcases hcase i a hi hd with ⟨j, a1, L', o, e1, g1, g2, g3, g4, g5, g6, g7, g8⟩ | ⟨h1, L', q1, q2, q3⟩
    · rw [hL] at g6; cases g6
      obtain ⟨n1, n2⟩ := hs.own j a1 L g1 g4 g5
      refine ⟨fun hk => n1 (hB _ hk), fun i' a' L2 hi' hd' hL' hbb => ?_⟩
      rcases hcase i' a' hi' hd' with ⟨j', a1', L3, o', e1', g1', g2', g3', g4', g5', g6', g7', g8'⟩ | ⟨h1', L3, q1', q2', q3'⟩
      · rw [hL'] at g6'; cases g6'
        have := n2 j' a1' L2 g1' g2' g5' hbb
        subst this
        rw [← e1', ← e1]
      · rw [hL'] at q2'; cases q2'
        rw [hbb] at q3'
        exact absurd q3' n1
    · rw [hL] at q2; cases q2
      obtain ⟨n1, n2⟩ := hsr.own i a L h1 ho q1
      refine ⟨n1, fun i' a' L2 hi' hd' hL' hbb => ?_⟩
      rcases hcase i' a' hi' hd' with ⟨j', a1', L3, o', e1', g1', g2', g3', g4', g5', g6', g7', g8'⟩ | ⟨h1', L3, q1', q2', q3'⟩
      · rw [hL'] at g6'; cases g6'
        have := (hs.own j' a1' L2 g1' g4' g5').1
        rw [hbb] at this
        exact absurd q3 this
      · rw [hL'] at q2'; cases q2'
        exact n2 i' a' L2 h1' hd' q1' hbb
  · have hL : (if i < S.next then ι i else ι1 (i - S.next)) = some L := hL
    show i < n
    by_cases e : i < S.next
    · omega
    · rw [if_neg e] at hL
      have := hs.dom _ _ hL
      omega
  · show i < n
    rcases outs_get outs S.h i a hi with ⟨p, p1, p2, p3⟩ | ⟨h1, _⟩
    · have := (hb.out p p1).1
      omega
    · have := hsr.hdom i a h1
      omega
  · rcases hcase i a hi hd with ⟨j, a1, L', o, e1, g1, g2, g3, _⟩ | ⟨h1, L', q1, q2, q3⟩
    · rw [ho] at g3; cases g3
    · rw [hL] at q2; cases q2
      exact hsr.ro i a L h1 hd ho q1
  · obtain ⟨h1, h2⟩ := hsr.res i hi
    refine ⟨?_, ?_⟩
    · show i < n
      omega
    · show (if i < S.next then ι i else _) = none
      rw [if_pos h1]; exact h2

/-! ### Calls that but read: each argument told alone -/
inductive RoArg (S : ASt) (j : Nat) : AV → AV → AO → Prop
  | pure {v : AV} : refsV 0 v → RoArg S j v v .dead
  | empty {i o : Nat} {c : Cap} : RoArg S j (.slice (some (i, o)) 0 c) .slice0 .dead
  | row {i o n : Nat} {c : Cap} {cs cs' : List AV} {rw : Bool} : S.h.get i = some (.cells cs rw) → cs' ≠ [] → takeL cs o cs'.length = some cs' → (∀ c, c ∈ cs' → refsV 0 c) →
      RoArg S j (.slice (some (i, o)) n c) (.slice (some (j, 0)) n (.atl n)) (.cells cs' false)
  | agg {pre post : List AV} {v v1 : AV} {o : AO} : RoArg S j v v1 o → v.isCell = true → v1.isCell = true → (∀ c, c ∈ pre → refsV 0 c) → (∀ c, c ∈ post → refsV 0 c) →
      RoArg S j (.agg (pre ++ v :: post)) (.agg (pre ++ v1 :: post)) o

def firstSl : List AV → Option (Nat × Nat)
  | [] => none
  | .slice (some p) _ _ :: _ => some p
  | _ :: t => firstSl t
def slOf : AV → Option (Nat × Nat)
  | .slice (some p) _ _ => some p
  | .agg cs => firstSl cs
  | _ => none

theorem firstSl_pre {v : AV} {post : List AV} {p : Nat × Nat} {n : Nat} {c : Cap} (hv : v = .slice (some p) n c) : ∀ {pre : List AV}, (∀ c, c ∈ pre → refsV 0 c) → firstSl (pre ++ v :: post) = some p
  | [], _ => by subst hv; rfl
  | x :: xs, h => by
    have ih := firstSl_pre (v := v) (post := post) hv (pre := xs) fun c hc => h c (List.mem_cons_of_mem _ hc)
    have hx := h x List.mem_cons_self
    show firstSl (x :: (xs ++ v :: post)) = _
    cases x with
    | slice q _ _ => cases q with
      | none => exact ih
      | some q => obtain ⟨i, o⟩ := q; simp [refsV] at hx
    | _ => exact ih

/-- what such an argument's row is -/
theorem RoArg.obj {S : ASt} {j : Nat} {v v1 : AV} {ob : AO} (h : RoArg S j v v1 ob) (hd : ob ≠ .dead) : (∃ i o n c, v = .slice (some (i, o)) n c ∨ ∃ pre post, v = .agg (pre ++ .slice (some (i, o)) n c :: post)) ∧
    ∃ i o cs cs' rw, slOf v = some (i, o) ∧ ob = .cells cs' false ∧ S.h.get i = some (.cells cs rw) ∧ cs' ≠ [] ∧ takeL cs o cs'.length = some cs' ∧ ∀ c, c ∈ cs' → refsV 0 c := by
  induction h with
  | pure _ => exact absurd rfl hd
  | empty => exact absurd rfl hd
  | @row i o n c cs cs' rw g1 g0 g2 g3 => exact ⟨⟨i, o, n, c, .inl rfl⟩, i, o, cs, cs', rw, rfl, rfl, g1, g0, g2, g3⟩
  | @agg pre post v v1 o h hv0 hc h1 h2 ih =>
    obtain ⟨⟨i, o, n, c, hv⟩, i', o', cs, cs', rw, g1, g2, g3, g4, g5, g6⟩ := ih hd
    rcases hv with rfl | ⟨p, q, rfl⟩
    · simp only [slOf, Option.some.injEq, Prod.mk.injEq] at g1
      obtain ⟨rfl, rfl⟩ := g1
      exact ⟨⟨i, o, n, c, .inr ⟨pre, post, rfl⟩⟩, i, o, cs, cs', rw, firstSl_pre rfl h1, g2, g3, g4, g5, g6⟩
    · cases hv0

theorem RoArg.val {S : ASt} {j : Nat} {v v1 : AV} {ob : AO} (h : RoArg S j v v1 ob) : ∀ {ι κ : Ren} {x : Value}, VR ι v x → (ob ≠ .dead → ∀ i o L, slOf v = some (i, o) → ι i = some L → κ j = some ⟨L.b, L.p + o, L.tot⟩) → VR κ v1 x := by
  induction h with
  | pure hp => exact fun hv _ => hv.noRef hp
  | empty =>
    intro ι κ x hv _
    cases hv with
    | slice _ _ _ c' L _ hL hc hl => exact .slice0 _ _
  | @row i o n c cs cs' rw g1 g0 g2 g3 =>
    intro ι κ x hv hk
    cases hv with
    | slice _ _ _ c' L _ hL hc hl =>
      have := VR.slice (ι := κ) j 0 n c' ⟨L.b, L.p + o, L.tot⟩ (.atl n) (hk (by simp) i o L rfl hL) hl hl
      simpa using this
  | @agg pre post v v1 o h hv0 hc h1 h2 ih =>
    intro ι κ x hv hk
    cases hv with
    | agg _ cs' hs hcell hat =>
      have pur : ∀ {c : AV}, c ∈ pre ++ post → refsV 0 c := fun {c} hc => (List.mem_append.1 hc).elim (h1 c) (h2 c)
      refine .agg _ cs' (by simpa using hs) (fun c hc' => ?_) fun k y y' hy hy' => ?_
      · rcases List.mem_append.1 hc' with hm | hm
        · exact hcell c (List.mem_append_left _ hm)
        · rcases List.mem_cons.1 hm with rfl | hm
          · exact hc
          · exact hcell c (List.mem_append_right _ (List.mem_cons_of_mem _ hm))
      · by_cases e1 : k < pre.length
        · rw [List.getElem?_append_left e1] at hy
          have := hat k y y' (by rw [List.getElem?_append_left e1]; exact hy) hy'
          exact this.noRef (h1 y (List.mem_of_getElem? hy))
        · rw [List.getElem?_append_right (by omega)] at hy
          by_cases e2 : k = pre.length
          · subst e2
            simp at hy; subst hy
            have hv2 := hat pre.length v y' (by rw [List.getElem?_append_right (by omega)]; simp) hy'
            refine ih hv2 fun hd i o L hs hL => hk hd i o L ?_ hL
            cases h with
            | pure hp =>
              cases v with
              | slice q _ _ => cases q with
                | none => cases hs
                | some q => obtain ⟨a, b⟩ := q; simp [refsV] at hp
              | agg _ => cases hv0
              | _ => cases hs
            | empty => simp only [slOf, Option.some.injEq] at hs; rw [← hs]; exact firstSl_pre rfl h1
            | row _ _ _ _ => simp only [slOf, Option.some.injEq] at hs; rw [← hs]; exact firstSl_pre rfl h1
            | agg _ _ _ _ _ => cases hc
          · obtain ⟨m, hm⟩ : ∃ m, k - pre.length = m + 1 := ⟨k - pre.length - 1, by omega⟩
            rw [hm, List.getElem?_cons_succ] at hy
            have := hat k y y' (by rw [List.getElem?_append_right (by omega), hm, List.getElem?_cons_succ]; exact hy) hy'
            exact this.noRef (h2 y (List.mem_of_getElem? hy))

/-- the arguments, one by one: from number 'j' on -/
def RoArgs (S : ASt) : Nat → List AV → List AV → List AO → Prop
  | _, [], [], [] => True
  | j, v :: vs, v1 :: vs1, o :: os => RoArg S j v v1 o ∧ RoArgs S (j + 1) vs vs1 os
  | _, _, _, _ => False

theorem RoArgs.at_ {S : ASt} : ∀ {vs vs1 : List AV} {os : List AO} {j : Nat}, RoArgs S j vs vs1 os → vs1.length = vs.length ∧ os.length = vs.length ∧
    ∀ (k : Nat) v v1 o, vs[k]? = some v → vs1[k]? = some v1 → os[k]? = some o → RoArg S (j + k) v v1 o
  | [], [], [], _, _ => ⟨rfl, rfl, fun k v v1 o h => by simp at h⟩
  | v :: vs, v1 :: vs1, o :: os, j, h => by
    obtain ⟨h1, h2, h3⟩ := RoArgs.at_ h.2
    refine ⟨by simp [h1], by simp [h2], fun k a b c ha hb hc => ?_⟩
    cases k with
    | zero => simp at ha hb hc; subst ha; subst hb; subst hc; exact h.1
    | succ k =>
      have := h3 k a b c (by simpa using ha) (by simpa using hb) (by simpa using hc)
      rw [show j + (k + 1) = j + 1 + k by omega]; exact this
  | [], [], _ :: _, _, h => h.elim
  | [], _ :: _, _, _, h => h.elim
  | _ :: _, [], _, _, h => h.elim
  | _ :: _, _ :: _, [], _, h => h.elim

/-- where a row lies -/
def roRen (vs : List AV) (ι : Ren) : Ren := fun j => match vs[j]? with
  | some v => (match slOf v with | some p => (match ι p.1 with | some L => some ⟨L.b, L.p + p.2, L.tot⟩ | none => none) | none => none)
  | none => none

def srcOf (v : AV) : Option (Nat × Nat × Bool) := match slOf v with | some p => some (p.1, p.2, false) | none => none

theorem RoArg.src {S : ASt} {j : Nat} {v v1 : AV} {ob : AO} (h : RoArg S j v v1 ob) {i o : Nat} {w : Bool} (hs : srcOf v = some (i, o, w)) : w = false ∧ slOf v = some (i, o) := by
  unfold srcOf at hs
  split at hs
  · rename_i p hp
    simp only [Option.some.injEq, Prod.mk.injEq] at hs
    obtain ⟨rfl, rfl, rfl⟩ := hs
    exact ⟨rfl, hp⟩
  · cases hs

/-- a row that is told alone -/
theorem row_sub {ι κ : Ren} {L : Loc} {o : Nat} {cs cs' : List AV} {rw : Bool} {ob : Obj} (h : OR ι L (.cells cs rw) ob) (h0 : cs' ≠ []) (ht : takeL cs o cs'.length = some cs') (hp : ∀ c, c ∈ cs' → refsV 0 c) : OR κ (L.sh o) (.cells cs' false) ob := by
  have hget : ∀ {k : Nat} {y : AV}, cs'[k]? = some y → cs[o + k]? = some y := fun {k y} hy => by
    rw [← (takeL_ok ht).2 k (List.getElem?_eq_some_iff.1 hy).1]; exact hy
  obtain ⟨c, e, lo, hi, q1, q2, q3, q4, q5, q6⟩ := h
  refine ⟨c, e, lo, hi, q1, q2, ?_, fun v hv => ?_, fun k y y' hy hy' => ?_, fun h => by cases h⟩
  · have h1 : 0 < cs'.length := List.length_pos_iff.2 h0
    have := hget (k := cs'.length - 1) (y := cs'[cs'.length - 1]) (List.getElem?_eq_getElem (by omega))
    have := (List.getElem?_eq_some_iff.1 this).1
    show L.p + o + cs'.length ≤ c.size
    omega
  · obtain ⟨m, hm, em⟩ := List.getElem_of_mem hv
    exact q4 v (List.mem_of_getElem? (hget (k := m) (by simp [hm, em])))
  · have := q5 (o + k) y y' (hget hy) (by rw [← Nat.add_assoc]; exact hy')
    exact this.noRef (hp y (List.mem_of_getElem? hy))

/-- a small memory of what such arguments bear; what else stands in front of it, by 'pre' -/
theorem RoArg.view {S : ASt} {j : Nat} {v v1 : AV} {ob : AO} (h : RoArg S j v v1 ob) (hd : ob ≠ .dead) : ∃ i o a, srcOf v = some (i, o, false) ∧ S.h.get i = some a ∧ a ≠ .dead ∧ ob.own = false ∧ ∀ ι κ L x, OR ι L a x → OR κ (L.sh o) ob x := by
  obtain ⟨_, i, o, cs, cs', rw, h1, rfl, h2, h3, h4, h5⟩ := h.obj hd
  exact ⟨i, o, _, by simp only [srcOf, h1], h2, by simp, rfl, fun ι κ L x hx => row_sub hx h3 h4 h5⟩

theorem AtMem.of_tm {P : Program} {E : Env} (hE : E.Ok P) {sum : CallT} (hs : CallsOK P sum) {fls : List (Nat × Fl)} {rf : Fl} {n f : Nat} {args : List AV} {st : ASt} {v : AV} {y : An}
    (h : ((TM E sum fls rf n).call f args st).allY (fun r => r.1 = v) y) : AtMem P f args st v := by
  obtain ⟨r, h1, h2⟩ := TM_call (Tr.allY_all _ y h)
  intro B w0 ι w args' _ hsr hv
  obtain ⟨k1, k2⟩ := (M_ok hE (drawA_ok hE) hs n).call B w0 f args st r h1 ι w args' hsr hv
  exact ⟨k1, k2.mono fun e w' hp => ⟨r, h2, hp⟩⟩

/-- a run, as a contract at its memory -/
theorem run_of_tm {P : Program} {E : Env} (hE : E.Ok P) {sum : CallT} (hs : CallsOK P sum) {fls : List (Nat × Fl)} {rf : Fl} {n f : Nat} {args : List AV} {st : ASt} {Q1 : AV × ASt → Prop} {y : An} {ko : List Nat}
    (h : ((TM E sum fls rf n).call f args st).allY (fun r => Q1 (r.1, canS ko r.2)) y) (B : Prot) (w0 : World) (ι : Ren) (w : World) (args' : Array Value) (hsr : SR B w0 ι st w) (hv : VRs ι args args') :
    (callFunc f args').run P w = .ok (.enter f args') w ∧ CallsIn Fence.wide 0 P f args' w fun e w' => ∃ v, Q1 v ∧ Post B w0 ι v e w' := by
  obtain ⟨r, h1, h2⟩ := TM_call (Tr.allY_all _ y h)
  obtain ⟨k1, k2⟩ := (M_ok hE (drawA_ok hE) hs n).call B w0 f args st r h1 ι w args' hsr hv
  refine ⟨k1, k2.mono fun e w' hp => ⟨_, h2, ?_⟩⟩
  obtain ⟨x, ι', rfl, hle, g1, g2⟩ := hp
  exact ⟨x, ι', rfl, hle, (can_ok [] ko { m := .e, n := 0, defs := [] } r.2 g1 (a := { tmps := #[], defers := [] }) ⟨⟨rfl, fun t => by rw [T.get_e]; exact .undef _⟩, trivial⟩).1, g2⟩

/-- one argument that is but read; what is new told back -/
theorem Call1.frame1 {P : Program} {f : Nat} {v v1 : AV} {o : AO} {S : ASt} {Q1 : AV × ASt → Prop} (r : RoArg S 0 v v1 o)
    (hrun : ∀ B w0 ι w args', (∀ i, ¬ B.rs i) → SR B w0 ι (mkSt [(0, o)] 1) w → VRs ι [v1] args' → (callFunc f args').run P w = .ok (.enter f args') w ∧ CallsIn Fence.wide 0 P f args' w fun e w' => ∃ v, Q1 v ∧ Post B w0 ι v e w')
    {outs : List (Nat × AO)} {n : Nat} {val : AV} (hn : S.next < n) (hback : ∀ q, Q1 q → BackV (fun j => S.next + j) q.1 val ∧ S.next + q.2.next ≤ n ∧
      ∀ p, p ∈ outs → 1 ≤ p.1 ∧ S.next + p.1 < n ∧ (p.2 = .dead ∨ p.2.own = true ∧ ∃ a, q.2.h.get p.1 = some a ∧ BackO (fun j => S.next + j) a p.2)) :
    Call1 P f [v] S (val, outS (fun j => S.next + j) outs S n) := by
  have hg : ∀ j, (mkSt [(0, o)] 1).h.get j = if j = 0 then some o else none := fun j => by
    show ((T.e : T AO).set D 0 _).get j = _
    rw [T.get_set, T.get_e]
  have hg2 : ∀ {j x}, (mkSt [(0, o)] 1).h.get j = some x → j = 0 ∧ x = o := fun {j x} hj => by
    rw [hg] at hj
    by_cases e : j = 0
    · simp [e] at hj; exact ⟨e, hj.symm⟩
    · simp [e] at hj
  obtain ⟨src, hlen, hsrc, hlive, hvr, hob⟩ : ∃ src : Src, src.length = 1 ∧ (∀ (j : Nat) i q w, src[j]? = some (some (i, q, w)) → w = false) ∧
      (∀ (j : Nat) i q w, src[j]? = some (some (i, q, w)) → ∃ a, S.h.get i = some a ∧ a ≠ .dead) ∧ (∀ ι x, VR ι v x → VR (renS src ι) v1 x) ∧
      (o ≠ .dead → o.own = false ∧ ∃ i q a, src[0]? = some (some (i, q, false)) ∧ S.h.get i = some a ∧ a ≠ .dead ∧ ∀ ι κ L x, OR ι L a x → OR κ (L.sh q) o x) := by
    by_cases hd : o = .dead
    · refine ⟨[none], rfl, fun j i q w h => ?_, fun j i q w h => ?_, fun ι x hx => ?_, fun h => absurd hd h⟩
      · cases j <;> simp at h
      · cases j <;> simp at h
      · exact r.val hx fun h => absurd hd h
    · obtain ⟨i, q, a, h1, h2, h3, h4, h5⟩ := r.view hd
      refine ⟨[srcOf v], rfl, fun j i' q' w h => ?_, fun j i' q' w h => ?_, fun ι x hx => ?_, fun _ => ⟨h4, i, q, a, by simp [h1], h2, h3, h5⟩⟩
      · cases j with
        | zero => simp [h1] at h; exact h.2.2
        | succ j => simp at h
      · cases j with
        | zero => simp [h1] at h; obtain ⟨rfl, _⟩ := h; exact ⟨a, h2, h3⟩
        | succ j => simp at h
      · refine r.val hx fun _ i' q' L hs hL => ?_
        have h6 : srcOf v = some (i', q', false) := by simp only [srcOf, hs]
        simp [renS, h6, hL, Loc.sh]
  have hgs : gS src S.next = fun j => S.next + j := by
    funext j
    unfold gS
    split
    · rename_i i q hs
      have := hsrc j i q true hs
      cases this
    · rfl
  rw [← hgs]
  refine Call1.frame (S1 := mkSt [(0, o)] 1) (args1 := [v1]) hrun (src := src) ⟨hlen.symm, fun j i q w h => ⟨fun hw => (by rw [hsrc j i q w h] at hw; cases hw), hlive j i q w h⟩, fun j x hj => (by rw [(hg2 hj).1, hlen]; exact Nat.zero_lt_one), fun j x hj hd => ?_, fun j j' x i q w q' w' hj ho => ?_⟩ (fun ι args' hv => ?_) (fun q hq => ?_)
  · obtain ⟨rfl, rfl⟩ := hg2 hj
    obtain ⟨h4, i, q, a, h1, h2, h3, h5⟩ := hob hd
    exact ⟨i, q, false, a, h1, h2, h3, fun hx => (by rw [h4] at hx; cases hx), fun ι L ob hx => h5 ι _ L ob hx⟩
  · obtain ⟨rfl, rfl⟩ := hg2 hj
    have := (hob (own_nd ho)).1
    rw [ho] at this; cases this
  · refine ⟨hv.size, fun k y y' hy hy' => ?_⟩
    cases k with
    | zero => simp at hy; subst hy; exact hvr ι y' (hv.at_ 0 v y' rfl hy')
    | succ k => simp at hy
  · obtain ⟨b1, b2, b3⟩ := hback q hq
    refine ⟨by rw [hgs]; exact b1, ⟨b2, by omega⟩, fun p hp => ?_, fun j x hj ho => ?_⟩
    · obtain ⟨c1, c2, c3⟩ := b3 p hp
      rw [hgs]
      exact ⟨c2, fun h => absurd h (by omega), c3⟩
    · obtain ⟨rfl, rfl⟩ := hg2 hj
      have := (hob (own_nd ho)).1
      rw [ho] at this; cases this

theorem Call1.ro {P : Program} {f : Nat} {args args1 : List AV} {S S1 : ASt} {v : AV} (hrun : AtMem P f args1 S1 v) (hp : refsV 0 v) {os : List AO} (ha : RoArgs S 0 args args1 os)
    (hn : S1.next = args.length) (ho : ∀ j x, S1.h.get j = some x → os[j]? = some x) : Call1 P f args S (v, S) := by
  intro B w0 ι w args' hsr hargs
  obtain ⟨l1, l2, hat⟩ := ha.at_
  let B1 : Prot := ⟨fun k => k < w.heap.size, fun k => k < w.heap.size, fun _ => False⟩
  have hobj : ∀ {j x}, S1.h.get j = some x → x ≠ .dead → ∃ i o cs rw cs' L e lo hi arr, x = .cells cs' false ∧ ι i = some L ∧ roRen args ι j = some ⟨L.b, L.p + o, L.tot⟩ ∧
      w.heap[L.b]? = some (.cells arr e (lo, hi)) ∧ arr.size = L.tot ∧ S.h.get i = some (.cells cs rw) ∧ (cs' ≠ [] ∧ takeL cs o cs'.length = some cs') ∧ (∀ v, v ∈ cs → v.isCell = true) ∧ L.p + cs.length ≤ arr.size ∧
      (∀ (k : Nat) v v', cs[k]? = some v → arr[L.p + k]? = some v' → VR ι v v') ∧ (∀ c, c ∈ cs' → refsV 0 c) := fun {j x} hj hd => by
    have hoj := ho j x hj
    have hj2 : j < os.length := (List.getElem?_eq_some_iff.1 hoj).1
    have a1 : args[j]? = some args[j] := List.getElem?_eq_getElem (by omega)
    have a2 : args1[j]? = some args1[j] := List.getElem?_eq_getElem (by omega)
    have h := hat j _ _ _ a1 a2 hoj
    rw [Nat.zero_add] at h
    generalize args[j] = va at a1 h
    generalize args1[j] = vb at a2 h
    obtain ⟨_, i, o, cs, cs', rw, g0, g1, g2, g3, g4, g5⟩ := h.obj hd
    obtain ⟨L, ob, q1, q2, arr, e, lo, hi, q3, q4, q5, q6, q7, q8⟩ := hsr.obj i _ g2 (by simp)
    subst q3
    exact ⟨i, o, cs, rw, cs', L, e, lo, hi, arr, g1, q1, by simp only [roRen, a1, g0, q1], q2, q4, g2, ⟨g3, g4⟩, q6, q5, q7, g5⟩
  have hget : ∀ {cs cs' : List AV} {o k : Nat} {y : AV}, takeL cs o cs'.length = some cs' → cs'[k]? = some y → cs[o + k]? = some y := fun {cs cs' o k y} h hy => by
    rw [← (takeL_ok h).2 k (List.getElem?_eq_some_iff.1 hy).1]; exact hy
  have htake : ∀ {cs cs' : List AV} {o : Nat}, cs' ≠ [] → takeL cs o cs'.length = some cs' → o + cs'.length ≤ cs.length := fun {cs cs' o} e h => by
    have h0 : 0 < cs'.length := List.length_pos_iff.2 e
    have := hget h (k := cs'.length - 1) (y := cs'[cs'.length - 1]) (List.getElem?_eq_getElem (by omega))
    have := (List.getElem?_eq_some_iff.1 this).1
    omega
  have hsr1 : SR B1 w (roRen args ι) S1 w := by
    refine ⟨Keeps.refl _ _, ?_, fun j x hj hd => ?_, fun j x L hj ho' hL => ?_, fun j L hL => ?_, fun j x hj => ?_, fun j x L hj hd ho' hL => ?_, fun i hi => hi.elim, fun g cs hg => ⟨.inr (hsr.globw g cs hg).lt, hsr.globw g cs hg⟩⟩
    · rintro k (hk | hk) <;> exact hk
    · obtain ⟨i, o, cs, rw, cs', L, e, lo, hi, arr, rfl, k3, k4, k5, k6, k7, k8, k9, k10, k11, k12⟩ := hobj hj hd
      refine ⟨_, _, k4, k5, arr, e, lo, hi, rfl, k6, ?_, fun y hy => ?_, fun k y y' hy hy' => ?_, fun h => by cases h⟩
      · show L.p + o + cs'.length ≤ arr.size
        have := htake k8.1 k8.2
        omega
      · obtain ⟨m, hm, em⟩ := List.getElem_of_mem hy
        have := hget k8.2 (k := m) (y := y) (by simp [hm, em])
        exact k9 y (List.mem_of_getElem? this)
      · have h2 := hget k8.2 hy
        have := k11 (o + k) y y' h2 (by rw [← Nat.add_assoc]; exact hy')
        exact this.noRef (k12 y (List.mem_of_getElem? hy))
    · by_cases hd : x = .dead
      · subst hd; cases ho'
      · obtain ⟨i, o, cs, rw, cs', L', e, lo, hi, arr, rfl, _⟩ := hobj hj hd
        cases ho'
    · unfold roRen at hL
      rw [hn]
      split at hL
      · rename_i h; exact (List.getElem?_eq_some_iff.1 h).1
      · cases hL
    · have := (List.getElem?_eq_some_iff.1 (ho j x hj)).1
      rw [hn]; omega
    · obtain ⟨i, o, cs, rw, cs', L', e, lo, hi, arr, rfl, k3, k4, k5, _⟩ := hobj hj hd
      rw [k4] at hL; cases hL
      exact (Array.getElem?_eq_some_iff.1 k5).1
  have hv1 : VRs (roRen args ι) args1 args' := by
    refine ⟨l1.trans hargs.size, fun k y y' hy hy' => ?_⟩
    have hk : k < args.length := by rw [← l1]; exact (List.getElem?_eq_some_iff.1 hy).1
    have a1 : args[k]? = some args[k] := List.getElem?_eq_getElem hk
    have a3 : os[k]? = some os[k] := List.getElem?_eq_getElem (by omega)
    have h := hat k _ _ _ a1 hy a3
    rw [Nat.zero_add] at h
    exact h.val (hargs.at_ k _ y' a1 hy') fun _ i o L hs hL => by simp only [roRen, a1, hs, hL]
  obtain ⟨k1, k2⟩ := hrun B1 w (roRen args ι) w args' (fun _ h => h) hsr1 hv1
  refine ⟨k1, k2.mono ?_⟩
  rintro e w' ⟨r, rfl, x, ι', rfl, _, h9, h10⟩
  exact ⟨x, ι, rfl, ι.le_refl, hsr.later ⟨h9.below.os, h9.below.tape, h9.below.output, h9.below.size, fun k hk => h9.below.block k (.inl hk)⟩, h10.noRef hp⟩
end
end Go.Ax
end

section
namespace Go.Ax
noncomputable section
open Go.RowKit

/-! ### Rows of bytes -/
def cellU (n : Nat) : AV := .int .u8 (.ofNat n)

theorem refU (l : List Nat) : ∀ c, c ∈ l.map cellU → refsV 0 c := fun c hc => by obtain ⟨x, _, rfl⟩ := List.mem_map.1 hc; simp [cellU, refsV]

theorem takeU {l : List Nat} : takeL (l.map cellU) 0 l.length = some (l.map cellU) := by
  have : (l.map cellU).take l.length = l.map cellU := List.take_of_length_le (by simp)
  unfold takeL
  simp [this]

/-- a slice of bytes that came in -/
inductive ArgB (i : Nat) : AV → AO → List Nat → Prop
  | nil : ArgB i (.slice none 0 (.known 0)) .dead []
  | zero : ArgB i .slice0 .dead []
  | row {l} : l ≠ [] → ArgB i (.slice (some (i, 0)) l.length (.atl l.length)) (.cells (l.map cellU) false) l

theorem ArgB.sl {E : Env} {t i : Nat} {v : AV} {o : AO} {l : List Nat} (h : ArgB i v o l) (hT : sliceT E t = some 1) : SlArg E t 1 i l.length v o (l.map cellU) := by
  cases h with
  | nil => exact SlArg.none hT
  | zero => exact SlArg.zero hT
  | row _ => exact SlArg.row hT

/-- a slice of bytes in a memory -/
inductive SlB (S : ASt) : AV → List Nat → Prop
  | nil : SlB S (.slice none 0 (.known 0)) []
  | zero : SlB S .slice0 []
  | row {i o n c cs rw l} : S.h.get i = some (.cells cs rw) → takeL cs o n = some (l.map cellU) → SlB S (.slice (some (i, o)) n c) l

theorem SlB.ro {S : ASt} {v : AV} {l : List Nat} (h : SlB S v l) (j : Nat) : ∃ v1 o, RoArg S j v v1 o ∧ ArgB j v1 o l := by
  cases h with
  | nil => exact ⟨_, _, .pure (by simp [refsV]), .nil⟩
  | zero => exact ⟨_, _, .pure (by simp [refsV]), .zero⟩
  | @row i o n c cs rw l h1 h2 =>
    have hn := (takeL_ok h2).1
    simp only [List.length_map] at hn
    subst hn
    by_cases e : l = []
    · subst e
      exact ⟨_, _, .empty, .zero⟩
    · exact ⟨_, _, .row h1 (cs' := l.map cellU) (by simpa using e) (by rw [List.length_map]; exact h2) (refU l), .row e⟩

theorem ArgB.toSl {i : Nat} {v : AV} {o : AO} {l : List Nat} (h : ArgB i v o l) {S : ASt} (hg : S.h.get i = some o) : SlB S v l := by
  cases h with
  | nil => exact .nil
  | zero => exact .zero
  | row _ =>
    refine .row hg ?_
    exact takeU

/-- the k-th one is loaded -/
theorem SlArg.ld {E : Env} {t u i : Nat} {v : AV} {o : AO} {l : List Nat} {k x : Nat} {S : ASt} (h : SlArg E t 1 i l.length v o (l.map cellU)) (hu : cellT E u = true) (hg : S.h.get i = some o) (hk : l[k]? = some x) :
    aLoad E u (.ptr (some (i, 0 + k * 1))) S = some (cellU x, S) := by
  have hlt : k < l.length := (List.getElem?_eq_some_iff.1 hk).1
  rw [h.obj (by omega)] at hg
  refine load_at hu hg ?_
  rw [Nat.zero_add, Nat.mul_one, List.getElem?_map, hk]; rfl

theorem cellU_inj : ∀ {a b : List Nat}, a.map cellU = b.map cellU → a = b
  | [], [], _ => rfl
  | [], _ :: _, h => by simp at h
  | _ :: _, [], h => by simp at h
  | x :: a, y :: b, h => by
    simp only [List.map_cons, List.cons.injEq, cellU, AV.int.injEq, true_and] at h
    have h1 : x = y := Int.ofNat_inj.1 h.1
    rw [h1, cellU_inj h.2]
theorem SlB.inj {S : ASt} {v : AV} {a b : List Nat} (h : SlB S v a) (h' : SlB S v b) : a = b := by
  cases h with
  | nil => cases h'; rfl
  | zero => cases h'; rfl
  | row h1 h2 =>
    cases h' with
    | row h3 h4 =>
      rw [h1] at h3
      cases h3
      rw [h2] at h4
      exact cellU_inj (Option.some.inj h4)

/-! ### slices.Equal as a summary -/
open Classical in
def eqC (f : Nat) : CallT := fun g args st => bif Nat.beq f g then (match args with
  | [v, w] => if h : ∃ a b, SlB st v a ∧ SlB st w b ∧ a.length < 9223372036854775808 then some (.bool (decide (h.choose = h.choose_spec.choose)), st) else none
  | _ => none) else none
theorem eqC_ok {P : Program} {f : Nat} (h : ∀ {S : ASt} {v w : AV} {a b : List Nat}, SlB S v a → SlB S w b → a.length < 9223372036854775808 → Call1 P f [v, w] S (.bool (decide (a = b)), S)) : CallsOK P (eqC f) := by
  intro B w0 g args st r hr ι w args' hsr hv
  unfold eqC at hr
  cases hf : Nat.beq f g
  · rw [hf] at hr; cases hr
  rw [hf, cond_true] at hr
  have := nbeq hf
  subst this
  split at hr
  · split at hr
    · rename_i hx
      simp only [Option.some.injEq] at hr
      subst hr
      obtain ⟨h1, h2, h3⟩ := hx.choose_spec.choose_spec
      exact h h1 h2 h3 B w0 ι w args' hsr hv
    · cases hr
  · cases hr
theorem eqC_at {f : Nat} {st : ASt} {v w : AV} {a b : List Nat} (h1 : SlB st v a) (h2 : SlB st w b) (h3 : a.length < 9223372036854775808) : eqC f f [v, w] st = some (.bool (decide (a = b)), st) := by
  have hx : ∃ a b, SlB st v a ∧ SlB st w b ∧ a.length < 9223372036854775808 := ⟨a, b, h1, h2, h3⟩
  obtain ⟨g1, g2, g3⟩ := hx.choose_spec.choose_spec
  have e1 := g1.inj h1
  have e2 := g2.inj h2
  have e3 : decide (hx.choose = hx.choose_spec.choose) = decide (a = b) := decide_eq_decide.2 ⟨fun h => e1.symm.trans (h.trans e2), fun h => e1.trans (h.trans e2.symm)⟩
  unfold eqC
  simp only [Nat.beq_refl, cond_true, dif_pos hx, e3]

/-- several summaries, of the functions that are listed -/
theorem onlyC_at {fs : List Nat} {q : CallT} {f : Nat} {args : List AV} {st : ASt} {r : AV × ASt} (hm : memN f fs = true) (h : q f args st = some r) : onlyC fs q f args st = some r := by
  unfold onlyC
  rw [hm, cond_true, h]
theorem orC_l {q p : CallT} {f : Nat} {args : List AV} {st : ASt} {r : AV × ASt} (h : q f args st = some r) : orC q p f args st = some r := by
  unfold orC
  rw [h]
theorem orC_r {q p : CallT} {f : Nat} {args : List AV} {st : ASt} {r : AV × ASt} (h0 : q f args st = none) (h : p f args st = some r) : orC q p f args st = some r := by
  unfold orC
  rw [h0, h]
theorem eqF_self (x : Int) : eqF x x = true := by rw [eqF_eq]; simp
end
end Go.Ax
end

section
open Go Go.Ax Go.Proofs.Ytmjmpmmonelmmaa
namespace Go.Proofs.Ytmjmpmmonelmmaa.mpb
set_option linter.unusedVariables false
noncomputable def fns : List (Nat × Func) := [(7, Try.f7), (41, Try.f41), (42, Try.f42), (43, Try.f43), (44, Try.f44), (73, Try.f73), (74, Try.f74), (75, Try.f75)]
noncomputable def E : Env := envEx Try.prog [0, 3, 4, 5, 9, 27, 33, 54, 78, 80, 116, 117, 119, 123] fns []
def fl0 : Fl := ⟨[], [], [], []⟩
noncomputable def sm (q : CallT) : CallT := onlyC [41, 42, 45, 72, 74, 100] q
noncomputable def smB (q : CallT) : CallT := onlyC [72, 100] q
def nI (n : Nat) : AV := .int .i64 (.ofNat n)
def cl (xs : Nat → Int) : List AV := (List.range 32).map fun i => .int .u8 (xs i)
def rowI (xs : Nat → Int) : List AV := (List.range 256).map fun i => .int .u8 (xs i)
noncomputable def fls7 : List (Nat × Fl) := [(7, ⟨[15, 18, 19, 27, 28, 31, 60, 4095], [34, 39], [19, 21, 57], []⟩), (43, ⟨[20, 23], [], [23], []⟩), (44, ⟨[8, 10], [], [10], []⟩)]
noncomputable def t7 (q : CallT) (s at_ : Int) (by_ : Int) (b c xs ys ws : Nat → Int) (j : Nat) (z : Int) (e e2 : Bool) : Tr (AV × ASt) := (TM E (sm q) fls7 fl0 60).call 7 [.int .u64 s, .agg (rowI b), .int .i64 at_, .int .u8 by_] (mkSt [] 0)
noncomputable def t41 (q : CallT) (s : Int) (xs : Nat → Int) : Tr (AV × ASt) := (TM E (smB q) [(41, ⟨[23], [], [], []⟩)] fl0 60).call 41 [.int .u64 s] (mkSt [] 1)
noncomputable def t42 (q : CallT) (s : Int) (xs : Nat → Int) : Tr (AV × ASt) := (TM E (smB q) [(42, ⟨[], [21], [], []⟩), (73, ⟨[24], [], [], []⟩)] fl0 60).call 42 [.int .u64 s] (mkSt [] 1)
noncomputable def t74 (v w : AV) (o o1 : AO) (a b : List Nat) : Tr (AV × ASt) := (TM E noSum [(74, ⟨[6, 8, 9], [], [], []⟩)] fl0 60).call 74 [v, w] (mkSt [(0, o), (1, o1)] 2)

def zr : List Int := List.replicate 236 (.ofNat 0)
def hdI (s : Int) : List Int := .ofNat 71 :: .ofNat 69 :: .ofNat 66 :: .ofNat 77 :: (wrapF .u8 (shrF s 56) :: wrapF .u8 (shrF s 48) :: wrapF .u8 (shrF s 40) :: wrapF .u8 (shrF s 32) :: wrapF .u8 (shrF s 24) :: wrapF .u8 (shrF s 16) :: wrapF .u8 (shrF s 8) :: wrapF .u8 (shrF s 0) :: zr)
def blkC (s : Int) (xs : Nat → Int) : List AV := (hdI s ++ [xs 0, xs 1, xs 2, xs 3, xs 4, xs 5, xs 6, xs 7]).map (AV.int .u8)
def hdC (s : Int) : List AV := (hdI s ++ List.replicate 8 (Int.ofNat 0)).map (AV.int .u8)
def orV (c : Nat → Int) : Int := wrapF IntKind.u64 (Int.ofNat (Nat.lor (modN (shlF IntKind.u64 (wrapF IntKind.u64 (Int.ofNat (Nat.lor (modN (shlF IntKind.u64 (wrapF IntKind.u64 (Int.ofNat (Nat.lor (modN (shlF IntKind.u64 (wrapF IntKind.u64 (Int.ofNat (Nat.lor (modN (shlF IntKind.u64 (wrapF IntKind.u64 (Int.ofNat (Nat.lor (modN (shlF IntKind.u64 (wrapF IntKind.u64 (Int.ofNat (Nat.lor (modN (shlF IntKind.u64 (wrapF IntKind.u64 (Int.ofNat (Nat.lor (modN (shlF IntKind.u64 (wrapF IntKind.u64 (Int.ofNat (Nat.lor 0 (modN (wrapF IntKind.u64 (c 4)) 18446744073709551616)))) 8) 18446744073709551616) (modN (wrapF IntKind.u64 (c 5)) 18446744073709551616)))) 8) 18446744073709551616) (modN (wrapF IntKind.u64 (c 6)) 18446744073709551616)))) 8) 18446744073709551616) (modN (wrapF IntKind.u64 (c 7)) 18446744073709551616)))) 8) 18446744073709551616) (modN (wrapF IntKind.u64 (c 8)) 18446744073709551616)))) 8) 18446744073709551616) (modN (wrapF IntKind.u64 (c 9)) 18446744073709551616)))) 8) 18446744073709551616) (modN (wrapF IntKind.u64 (c 10)) 18446744073709551616)))) 8) 18446744073709551616) (modN (wrapF IntKind.u64 (c 11)) 18446744073709551616)))
def adV (c : Nat → Int) : Int := wrapF IntKind.u64 (wrapF IntKind.u64 (wrapF IntKind.u64 (wrapF IntKind.u64 (wrapF IntKind.u64 (wrapF IntKind.u64 (wrapF IntKind.u64 (wrapF IntKind.u64 (wrapF IntKind.u64 (wrapF IntKind.u64 (wrapF IntKind.u64 (wrapF IntKind.u64 (wrapF IntKind.u64 (wrapF IntKind.u64 (wrapF IntKind.u64 (Int.ofNat 0 + wrapF IntKind.u64 (c 4)) * Int.ofNat 256) + wrapF IntKind.u64 (c 5)) * Int.ofNat 256) + wrapF IntKind.u64 (c 6)) * Int.ofNat 256) + wrapF IntKind.u64 (c 7)) * Int.ofNat 256) + wrapF IntKind.u64 (c 8)) * Int.ofNat 256) + wrapF IntKind.u64 (c 9)) * Int.ofNat 256) + wrapF IntKind.u64 (c 10)) * Int.ofNat 256) + wrapF IntKind.u64 (c 11))
attribute [irreducible] orV adV
noncomputable def vc41_s0 (s : Int) (xs : Nat → Int) : ASt := mkSt [(1, AO.cells (hdC s) true)] 2
noncomputable def vc41_s1 (s : Int) (xs : Nat → Int) : ASt := mkSt [] 6
theorem vc41 (q : CallT) (s : Int) (xs : Nat → Int) (Q : AV × ASt → Prop) :
  ((M E (drawA E) (smB q) 54).call 72 [AV.slice (some (1, 0)) 248 (Cap.known 256)] (vc41_s0 s xs) = some (AV.agg (cl xs), vc41_s0 s xs) ∧ Q (AV.agg (blkC s xs), vc41_s1 s xs)) =
  (t41 q s xs).allY (fun r => Q (r.1, canS [] r.2)) (An.v (AV.agg (cl xs), vc41_s0 s xs) An.nil) := by kernel_rfl
noncomputable def vc42_s0 (s : Int) (xs : Nat → Int) : ASt := mkSt [(1, AO.cells (List.replicate 256 (AV.int IntKind.u8 (Int.ofNat 0))) true), (2, AO.cells [AV.int IntKind.u8 (Int.ofNat 71), AV.int IntKind.u8 (Int.ofNat 69), AV.int IntKind.u8 (Int.ofNat 66), AV.int IntKind.u8 (Int.ofNat 77)] true), (3, AO.cells [AV.int IntKind.u8 (wrapF IntKind.u8 (shrF s 56))] true), (4, AO.dead), (5, AO.cells [AV.int IntKind.u8 (wrapF IntKind.u8 (shrF s 48))] true), (6, AO.dead), (7, AO.cells [AV.int IntKind.u8 (wrapF IntKind.u8 (shrF s 40))] true), (8, AO.dead), (9, AO.cells [AV.int IntKind.u8 (wrapF IntKind.u8 (shrF s 32))] true), (10, AO.dead), (11, AO.cells [AV.int IntKind.u8 (wrapF IntKind.u8 (shrF s 24))] true), (12, AO.dead), (13, AO.cells [AV.int IntKind.u8 (wrapF IntKind.u8 (shrF s 16))] true), (14, AO.dead), (15, AO.cells [AV.int IntKind.u8 (wrapF IntKind.u8 (shrF s 8))] true), (16, AO.dead), (17, AO.cells [AV.int IntKind.u8 (wrapF IntKind.u8 (shrF s 0))] true), (18, AO.cells [AV.int IntKind.u8 (Int.ofNat 71), AV.int IntKind.u8 (Int.ofNat 69), AV.int IntKind.u8 (Int.ofNat 66), AV.int IntKind.u8 (Int.ofNat 77), AV.int IntKind.u8 (wrapF IntKind.u8 (shrF s 56)), AV.int IntKind.u8 (wrapF IntKind.u8 (shrF s 48)), AV.int IntKind.u8 (wrapF IntKind.u8 (shrF s 40)), AV.int IntKind.u8 (wrapF IntKind.u8 (shrF s 32)), AV.int IntKind.u8 (wrapF IntKind.u8 (shrF s 24)), AV.int IntKind.u8 (wrapF IntKind.u8 (shrF s 16)), AV.int IntKind.u8 (wrapF IntKind.u8 (shrF s 8)), AV.int IntKind.u8 (wrapF IntKind.u8 (shrF s 0))] true), (19, AO.cells (List.replicate 256 (AV.int IntKind.u8 (Int.ofNat 0))) true), (20, AO.cells (hdC s) true)] 21
noncomputable def vc42_s1 (s : Int) (xs : Nat → Int) : ASt := mkSt [] 22
theorem vc42 (q : CallT) (s : Int) (xs : Nat → Int) (Q : AV × ASt → Prop) :
  ((M E (drawA E) (smB q) 48).call 100 [AV.slice (some (20, 0)) 248 (Cap.known 256)] (vc42_s0 s xs) = some (AV.agg (cl xs), vc42_s0 s xs) ∧ Q (AV.agg (blkC s xs), vc42_s1 s xs)) =
  (t42 q s xs).allY (fun r => Q (r.1, canS [] r.2)) (An.v (AV.agg (cl xs), vc42_s0 s xs) An.nil) := by kernel_rfl
noncomputable def vc74_s0 (v : AV) (w : AV) (o : AO) (o1 : AO) (a : List Nat) (b : List Nat) : ASt := mkSt [(0, o), (1, o1)] 2
noncomputable def vc74_s1 (v : AV) (w : AV) (o : AO) (o1 : AO) (a : List Nat) (b : List Nat) : ASt := mkSt [] 2
theorem vc74 (v : AV) (w : AV) (o : AO) (o1 : AO) (a : List Nat) (b : List Nat) (Q : AV × ASt → Prop) :
  (aConvert E 116 9 v (vc74_s0 v w o o1 a b) = some (AV.str a, vc74_s0 v w o o1 a b) ∧ aConvert E 116 9 w (vc74_s0 v w o o1 a b) = some (AV.str b, vc74_s0 v w o o1 a b) ∧ still (vc74_s0 v w o o1 a b) (aBin E BinOp.eql 9 (Operand.tmp 6) (Operand.tmp 8) (AV.str a) (AV.str b)) = some (AV.bool (a == b), vc74_s0 v w o o1 a b) ∧ Q (AV.bool (a == b), vc74_s1 v w o o1 a b)) =
  (t74 v w o o1 a b).allY (fun r => Q (r.1, canS [] r.2)) (An.v (AV.str a, vc74_s0 v w o o1 a b) (An.v (AV.str b, vc74_s0 v w o o1 a b) (An.v (AV.bool (a == b), vc74_s0 v w o o1 a b) An.nil))) := by kernel_rfl
noncomputable def vc7_s0 (s : Int) (at_ : Int) (by_ : Int) (b : Nat → Int) (c : Nat → Int) (xs : Nat → Int) (ys : Nat → Int) (ws : Nat → Int) (j : Nat) (z : Int) (e : Bool) (e2 : Bool) : ASt := mkSt [(0, AO.cells (rowI b) true)] 1
noncomputable def vc7_s1 (s : Int) (at_ : Int) (by_ : Int) (b : Nat → Int) (c : Nat → Int) (xs : Nat → Int) (ys : Nat → Int) (ws : Nat → Int) (j : Nat) (z : Int) (e : Bool) (e2 : Bool) : ASt := mkSt [(0, AO.cells (rowI b) true), (1, AO.cells (List.replicate 256 (AV.int IntKind.u8 (Int.ofNat 0))) true)] 2
noncomputable def vc7_s2 (s : Int) (at_ : Int) (by_ : Int) (b : Nat → Int) (c : Nat → Int) (xs : Nat → Int) (ys : Nat → Int) (ws : Nat → Int) (j : Nat) (z : Int) (e : Bool) (e2 : Bool) : ASt := mkSt [(0, AO.cells (rowI b) true), (1, AO.cells (rowI xs) true)] 2
noncomputable def vc7_s3 (s : Int) (at_ : Int) (by_ : Int) (b : Nat → Int) (c : Nat → Int) (xs : Nat → Int) (ys : Nat → Int) (ws : Nat → Int) (j : Nat) (z : Int) (e : Bool) (e2 : Bool) : ASt := mkSt [(0, AO.cells (rowI b) true), (1, AO.cells (rowI xs) true)] 6
noncomputable def vc7_s4 (s : Int) (at_ : Int) (by_ : Int) (b : Nat → Int) (c : Nat → Int) (xs : Nat → Int) (ys : Nat → Int) (ws : Nat → Int) (j : Nat) (z : Int) (e : Bool) (e2 : Bool) : ASt := mkSt [(0, AO.cells (rowI xs) true), (1, AO.cells (rowI xs) true)] 6
noncomputable def vc7_s5 (s : Int) (at_ : Int) (by_ : Int) (b : Nat → Int) (c : Nat → Int) (xs : Nat → Int) (ys : Nat → Int) (ws : Nat → Int) (j : Nat) (z : Int) (e : Bool) (e2 : Bool) : ASt := mkSt [(0, AO.cells (rowI c) true), (1, AO.cells (rowI xs) true)] 6
noncomputable def vc7_s6 (s : Int) (at_ : Int) (by_ : Int) (b : Nat → Int) (c : Nat → Int) (xs : Nat → Int) (ys : Nat → Int) (ws : Nat → Int) (j : Nat) (z : Int) (e : Bool) (e2 : Bool) : ASt := mkSt [(0, AO.cells (rowI c) true), (1, AO.cells (rowI xs) true), (6, AO.cells (rowI c) true)] 7
noncomputable def vc7_s7 (s : Int) (at_ : Int) (by_ : Int) (b : Nat → Int) (c : Nat → Int) (xs : Nat → Int) (ys : Nat → Int) (ws : Nat → Int) (j : Nat) (z : Int) (e : Bool) (e2 : Bool) : ASt := mkSt [(0, AO.cells (rowI c) true), (1, AO.cells (rowI xs) true), (6, AO.cells (rowI c) true), (7, AO.cells (rowI ys) true)] 12
noncomputable def vc7_s8 (s : Int) (at_ : Int) (by_ : Int) (b : Nat → Int) (c : Nat → Int) (xs : Nat → Int) (ys : Nat → Int) (ws : Nat → Int) (j : Nat) (z : Int) (e : Bool) (e2 : Bool) : ASt := mkSt [(0, AO.cells (rowI c) true), (1, AO.cells (rowI xs) true), (6, AO.cells (rowI c) true), (7, AO.cells (rowI ys) true), (12, AO.cells (rowI c) true)] 17
noncomputable def vc7_s9 (s : Int) (at_ : Int) (by_ : Int) (b : Nat → Int) (c : Nat → Int) (xs : Nat → Int) (ys : Nat → Int) (ws : Nat → Int) (j : Nat) (z : Int) (e : Bool) (e2 : Bool) : ASt := mkSt [] 17
noncomputable def vc7_s10 (s : Int) (at_ : Int) (by_ : Int) (b : Nat → Int) (c : Nat → Int) (xs : Nat → Int) (ys : Nat → Int) (ws : Nat → Int) (j : Nat) (z : Int) (e : Bool) (e2 : Bool) : ASt := mkSt [(0, AO.cells (rowI b) true), (1, AO.cells (rowI xs) true), (6, AO.cells (rowI b) true)] 7
noncomputable def vc7_s11 (s : Int) (at_ : Int) (by_ : Int) (b : Nat → Int) (c : Nat → Int) (xs : Nat → Int) (ys : Nat → Int) (ws : Nat → Int) (j : Nat) (z : Int) (e : Bool) (e2 : Bool) : ASt := mkSt [(0, AO.cells (rowI b) true), (1, AO.cells (rowI xs) true), (6, AO.cells (rowI b) true), (7, AO.cells (rowI ys) true)] 12
noncomputable def vc7_s12 (s : Int) (at_ : Int) (by_ : Int) (b : Nat → Int) (c : Nat → Int) (xs : Nat → Int) (ys : Nat → Int) (ws : Nat → Int) (j : Nat) (z : Int) (e : Bool) (e2 : Bool) : ASt := mkSt [(0, AO.cells (rowI b) true), (1, AO.cells (rowI xs) true), (6, AO.cells (rowI b) true), (7, AO.cells (rowI ys) true), (12, AO.cells (rowI b) true)] 17
theorem vc7 (q : CallT) (s : Int) (at_ : Int) (by_ : Int) (b : Nat → Int) (c : Nat → Int) (xs : Nat → Int) (ys : Nat → Int) (ws : Nat → Int) (j : Nat) (z : Int) (e : Bool) (e2 : Bool) (Q : AV × ASt → Prop) :
  ((M E (drawA E) (sm q) 56).call 41 [AV.int IntKind.u64 s] (vc7_s0 s at_ by_ b c xs ys ws j z e e2) = some (AV.agg (rowI xs), vc7_s0 s at_ by_ b c xs ys ws j z e e2) ∧ Option.map (fun s => (undefA, s)) (aStore E 33 (AV.ptr (some (1, 0))) (AV.agg (rowI xs)) (vc7_s1 s at_ by_ b c xs ys ws j z e e2)) = some (AV.tuple [], vc7_s2 s at_ by_ b c xs ys ws j z e e2) ∧ (M E (drawA E) (sm q) 54).call 42 [AV.int IntKind.u64 s] (vc7_s3 s at_ by_ b c xs ys ws j z e e2) = some (AV.agg (rowI xs), vc7_s3 s at_ by_ b c xs ys ws j z e e2) ∧ still (vc7_s3 s at_ by_ b c xs ys ws j z e e2) (aBin E BinOp.neq 33 (Operand.tmp 16) (Operand.tmp 18) (AV.agg (rowI xs)) (AV.agg (rowI xs))) = some (AV.bool false, vc7_s3 s at_ by_ b c xs ys ws j z e e2) ∧ holdsO [(some (AV.agg (rowI xs)), AV.agg (rowI xs))] ∧ ifB (!ltF at_ (Int.ofNat 0)) (Option.map (fun s => (undefA, s)) (aStore E 33 (AV.ptr (some (0, 0))) (AV.agg (rowI xs)) (vc7_s3 s at_ by_ b c xs ys ws j z e e2)) = some (AV.tuple [], vc7_s4 s at_ by_ b c xs ys ws j z e e2) ∧ still (vc7_s4 s at_ by_ b c xs ys ws j z e e2) (aIndexAddr E 33 (AV.ptr (some (0, 0))) (AV.int IntKind.i64 (Int.tmod at_ (Int.ofNat 256)))) = some (AV.ptr (some (0, j)), vc7_s4 s at_ by_ b c xs ys ws j z e e2) ∧ aLoad E 5 (AV.ptr (some (0, j))) (vc7_s4 s at_ by_ b c xs ys ws j z e e2) = some (AV.int IntKind.u8 z, vc7_s4 s at_ by_ b c xs ys ws j z e e2) ∧ still (vc7_s4 s at_ by_ b c xs ys ws j z e e2) (aIndexAddr E 33 (AV.ptr (some (0, 0))) (AV.int IntKind.i64 (Int.tmod at_ (Int.ofNat 256)))) = some (AV.ptr (some (0, j)), vc7_s4 s at_ by_ b c xs ys ws j z e e2) ∧ Option.map (fun s => (undefA, s)) (aStore E 5 (AV.ptr (some (0, j))) (AV.int IntKind.u8 (wrapF IntKind.u8 (Int.ofNat (Nat.xor (modN z 256) (modN by_ 256))))) (vc7_s4 s at_ by_ b c xs ys ws j z e e2)) = some (AV.tuple [], vc7_s5 s at_ by_ b c xs ys ws j z e e2) ∧ (M E (drawA E) (sm q) 47).call 41 [AV.int IntKind.u64 (orV c)] (vc7_s6 s at_ by_ b c xs ys ws j z e e2) = some (AV.agg (rowI ys), vc7_s6 s at_ by_ b c xs ys ws j z e e2) ∧ (M E (drawA E) (sm q) 46).call 74 [AV.slice (some (7, 0)) 256 (Cap.known 256), AV.slice (some (6, 0)) 256 (Cap.known 256)] (vc7_s7 s at_ by_ b c xs ys ws j z e e2) = some (AV.bool e, vc7_s7 s at_ by_ b c xs ys ws j z e e2) ∧ ifB e (holdsO [] ∧ (M E (drawA E) (sm q) 46).call 42 [AV.int IntKind.u64 (adV c)] (vc7_s8 s at_ by_ b c xs ys ws j z e e2) = some (AV.agg (rowI ws), vc7_s8 s at_ by_ b c xs ys ws j z e e2) ∧ still (vc7_s8 s at_ by_ b c xs ys ws j z e e2) (aBin E BinOp.neq 33 (Operand.tmp 8) (Operand.tmp 9) (AV.agg (rowI ws)) (AV.agg (rowI c))) = some (AV.bool e2, vc7_s8 s at_ by_ b c xs ys ws j z e e2) ∧ ifB e2 (holdsO [(some (AV.agg (rowI c)), AV.agg (rowI c))] ∧ Q (AV.bool false, vc7_s9 s at_ by_ b c xs ys ws j z e e2)) (holdsO [(some (AV.agg (rowI c)), AV.agg (rowI c))] ∧ ifB (eqF (orV c) (adV c)) ((M E (drawA E) (sm q) 51).call 45 [] (vc7_s8 s at_ by_ b c xs ys ws j z e e2) = some (AV.bool true, vc7_s8 s at_ by_ b c xs ys ws j z e e2) ∧ Q (AV.bool true, vc7_s9 s at_ by_ b c xs ys ws j z e e2)) (Q (AV.bool false, vc7_s9 s at_ by_ b c xs ys ws j z e e2)))) (holdsO [] ∧ (M E (drawA E) (sm q) 46).call 42 [AV.int IntKind.u64 (adV c)] (vc7_s8 s at_ by_ b c xs ys ws j z e e2) = some (AV.agg (rowI ws), vc7_s8 s at_ by_ b c xs ys ws j z e e2) ∧ still (vc7_s8 s at_ by_ b c xs ys ws j z e e2) (aBin E BinOp.neq 33 (Operand.tmp 8) (Operand.tmp 9) (AV.agg (rowI ws)) (AV.agg (rowI c))) = some (AV.bool e2, vc7_s8 s at_ by_ b c xs ys ws j z e e2) ∧ ifB e2 (holdsO [(some (AV.agg (rowI c)), AV.agg (rowI c))] ∧ (M E (drawA E) (sm q) 51).call 45 [] (vc7_s8 s at_ by_ b c xs ys ws j z e e2) = some (AV.bool true, vc7_s8 s at_ by_ b c xs ys ws j z e e2) ∧ Q (AV.bool true, vc7_s9 s at_ by_ b c xs ys ws j z e e2)) (holdsO [(some (AV.agg (rowI c)), AV.agg (rowI c))] ∧ Q (AV.bool false, vc7_s9 s at_ by_ b c xs ys ws j z e e2)))) ((M E (drawA E) (sm q) 47).call 41 [AV.int IntKind.u64 (orV b)] (vc7_s10 s at_ by_ b c xs ys ws j z e e2) = some (AV.agg (rowI ys), vc7_s10 s at_ by_ b c xs ys ws j z e e2) ∧ (M E (drawA E) (sm q) 46).call 74 [AV.slice (some (7, 0)) 256 (Cap.known 256), AV.slice (some (6, 0)) 256 (Cap.known 256)] (vc7_s11 s at_ by_ b c xs ys ws j z e e2) = some (AV.bool e, vc7_s11 s at_ by_ b c xs ys ws j z e e2) ∧ ifB e (holdsO [] ∧ (M E (drawA E) (sm q) 46).call 42 [AV.int IntKind.u64 (adV b)] (vc7_s12 s at_ by_ b c xs ys ws j z e e2) = some (AV.agg (rowI ws), vc7_s12 s at_ by_ b c xs ys ws j z e e2) ∧ still (vc7_s12 s at_ by_ b c xs ys ws j z e e2) (aBin E BinOp.neq 33 (Operand.tmp 8) (Operand.tmp 9) (AV.agg (rowI ws)) (AV.agg (rowI b))) = some (AV.bool e2, vc7_s12 s at_ by_ b c xs ys ws j z e e2) ∧ ifB e2 (holdsO [(some (AV.agg (rowI b)), AV.agg (rowI b))] ∧ Q (AV.bool false, vc7_s9 s at_ by_ b c xs ys ws j z e e2)) (holdsO [(some (AV.agg (rowI b)), AV.agg (rowI b))] ∧ ifB (eqF (orV b) (adV b)) ((M E (drawA E) (sm q) 51).call 45 [] (vc7_s12 s at_ by_ b c xs ys ws j z e e2) = some (AV.bool true, vc7_s12 s at_ by_ b c xs ys ws j z e e2) ∧ Q (AV.bool true, vc7_s9 s at_ by_ b c xs ys ws j z e e2)) (Q (AV.bool false, vc7_s9 s at_ by_ b c xs ys ws j z e e2)))) (holdsO [] ∧ (M E (drawA E) (sm q) 46).call 42 [AV.int IntKind.u64 (adV b)] (vc7_s12 s at_ by_ b c xs ys ws j z e e2) = some (AV.agg (rowI ws), vc7_s12 s at_ by_ b c xs ys ws j z e e2) ∧ still (vc7_s12 s at_ by_ b c xs ys ws j z e e2) (aBin E BinOp.neq 33 (Operand.tmp 8) (Operand.tmp 9) (AV.agg (rowI ws)) (AV.agg (rowI b))) = some (AV.bool e2, vc7_s12 s at_ by_ b c xs ys ws j z e e2) ∧ ifB e2 (holdsO [(some (AV.agg (rowI b)), AV.agg (rowI b))] ∧ (M E (drawA E) (sm q) 51).call 45 [] (vc7_s12 s at_ by_ b c xs ys ws j z e e2) = some (AV.bool true, vc7_s12 s at_ by_ b c xs ys ws j z e e2) ∧ Q (AV.bool true, vc7_s9 s at_ by_ b c xs ys ws j z e e2)) (holdsO [(some (AV.agg (rowI b)), AV.agg (rowI b))] ∧ Q (AV.bool false, vc7_s9 s at_ by_ b c xs ys ws j z e e2))))) =
  (t7 q s at_ by_ b c xs ys ws j z e e2).allY (fun r => Q (r.1, canS [] r.2)) (An.v (AV.agg (rowI xs), vc7_s0 s at_ by_ b c xs ys ws j z e e2) (An.v (AV.tuple [], vc7_s2 s at_ by_ b c xs ys ws j z e e2) (An.v (AV.agg (rowI xs), vc7_s3 s at_ by_ b c xs ys ws j z e e2) (An.v (AV.bool false, vc7_s3 s at_ by_ b c xs ys ws j z e e2) (An.b An.nil (An.b (An.v (AV.tuple [], vc7_s4 s at_ by_ b c xs ys ws j z e e2) (An.v (AV.ptr (some (0, j)), vc7_s4 s at_ by_ b c xs ys ws j z e e2) (An.v (AV.int IntKind.u8 z, vc7_s4 s at_ by_ b c xs ys ws j z e e2) (An.v (AV.ptr (some (0, j)), vc7_s4 s at_ by_ b c xs ys ws j z e e2) (An.v (AV.tuple [], vc7_s5 s at_ by_ b c xs ys ws j z e e2) (An.v (AV.agg (rowI ys), vc7_s6 s at_ by_ b c xs ys ws j z e e2) (An.v (AV.bool e, vc7_s7 s at_ by_ b c xs ys ws j z e e2) (An.b (An.v (AV.agg (rowI ws), vc7_s8 s at_ by_ b c xs ys ws j z e e2) (An.v (AV.bool e2, vc7_s8 s at_ by_ b c xs ys ws j z e e2) (An.b An.nil (An.b (An.v (AV.bool true, vc7_s8 s at_ by_ b c xs ys ws j z e e2) An.nil) An.nil)))) (An.v (AV.agg (rowI ws), vc7_s8 s at_ by_ b c xs ys ws j z e e2) (An.v (AV.bool e2, vc7_s8 s at_ by_ b c xs ys ws j z e e2) (An.b (An.b (An.v (AV.bool true, vc7_s8 s at_ by_ b c xs ys ws j z e e2) An.nil) An.nil) An.nil))))))))))) (An.v (AV.agg (rowI ys), vc7_s10 s at_ by_ b c xs ys ws j z e e2) (An.v (AV.bool e, vc7_s11 s at_ by_ b c xs ys ws j z e e2) (An.b (An.v (AV.agg (rowI ws), vc7_s12 s at_ by_ b c xs ys ws j z e e2) (An.v (AV.bool e2, vc7_s12 s at_ by_ b c xs ys ws j z e e2) (An.b An.nil (An.b (An.v (AV.bool true, vc7_s12 s at_ by_ b c xs ys ws j z e e2) An.nil) An.nil)))) (An.v (AV.agg (rowI ws), vc7_s12 s at_ by_ b c xs ys ws j z e e2) (An.v (AV.bool e2, vc7_s12 s at_ by_ b c xs ys ws j z e e2) (An.b (An.b (An.v (AV.bool true, vc7_s12 s at_ by_ b c xs ys ws j z e e2) An.nil) An.nil) An.nil)))))))))))) := by kernel_rfl

end Go.Proofs.Ytmjmpmmonelmmaa.mpb
end

section
open Go Go.Ax Go.Proofs.Ytmjmpmmonelmmaa
namespace Go.Proofs.Ytmjmpmmonelmmaa.mpb
set_option linter.unusedVariables false
/-! ### Bytes -/
theorem ByW (z : Int) : By (wrapF .u8 z) := by
  have hb : modN z (big .u8) < 256 := by
    show modN z 256 < 256
    cases z with
    | ofNat m => exact Nat.mod_lt _ (by omega)
    | negSucc m => exact Nat.lt_of_le_of_lt (Nat.sub_le _ _) (by omega)
  refine ⟨modN z (big .u8), hb, ?_⟩
  unfold wrapF
  have hh : Nat.blt (modN z (big .u8)) (half .u8) = true := blt_t hb
  show (bif Nat.blt (modN z (big .u8)) (half .u8) then Int.ofNat (modN z (big .u8)) else _) = _
  rw [hh]; rfl
theorem ByN {n : Nat} (h : n < 256) : By (.ofNat n) := ⟨n, h, rfl⟩
def il (xs : Nat → Int) : List Int := (List.range 256).map xs
def bn (xs : Nat → Int) : List Nat := (il xs).map Int.toNat
theorem rowI_il (xs : Nat → Int) : rowI xs = (il xs).map (AV.int .u8) := by simp [rowI, il, Function.comp_def]
theorem cell_U {z : Int} (h : By z) : AV.int .u8 z = cellU z.toNat := by
  obtain ⟨m, hm, rfl⟩ := h
  rfl
theorem ints_U : ∀ {l : List Int}, (∀ z, z ∈ l → By z) → l.map (AV.int .u8) = (l.map Int.toNat).map cellU
  | [], _ => rfl
  | z :: l, h => by
    simp only [List.map_cons]
    rw [cell_U (h z List.mem_cons_self), ints_U fun y hy => h y (List.mem_cons_of_mem _ hy)]
theorem il_By {xs : Nat → Int} (h : ∀ i, i < 256 → By (xs i)) : ∀ z, z ∈ il xs → By z := fun z hz => by
  obtain ⟨i, hi, rfl⟩ := List.mem_map.1 hz
  exact h i (List.mem_range.1 hi)
theorem rowI_U {xs : Nat → Int} (h : ∀ i, i < 256 → By (xs i)) : rowI xs = (bn xs).map cellU := by
  rw [rowI_il, ints_U (il_By h)]; rfl
theorem toNat_inj : ∀ {a b : List Int}, (∀ z, z ∈ a → By z) → (∀ z, z ∈ b → By z) → a.map Int.toNat = b.map Int.toNat → a = b
  | [], [], _, _, _ => rfl
  | [], _ :: _, _, _, h => by simp at h
  | _ :: _, [], _, _, h => by simp at h
  | x :: a, y :: b, ha, hb, h => by
    simp only [List.map_cons, List.cons.injEq] at h
    obtain ⟨m, _, rfl⟩ := ha x List.mem_cons_self
    obtain ⟨n, _, rfl⟩ := hb y List.mem_cons_self
    have h1 : m = n := h.1
    rw [h1, toNat_inj (fun z hz => ha z (List.mem_cons_of_mem _ hz)) (fun z hz => hb z (List.mem_cons_of_mem _ hz)) h.2]
theorem bn_len (xs : Nat → Int) : (bn xs).length = 256 := by simp [bn, il]
theorem bn_by {xs : Nat → Int} (h : ∀ i, i < 256 → By (xs i)) : ∀ x, x ∈ bn xs → x < 256 := fun x hx => by
  obtain ⟨z, hz, rfl⟩ := List.mem_map.1 hx
  obtain ⟨m, hm, rfl⟩ := il_By h z hz
  exact hm
theorem row_at (xs : Nat → Int) {i : Nat} (h : i < 256) : (rowI xs)[i]? = some (.int .u8 (xs i)) := by
  simp [rowI, h]
/-! ### A set's block -/
def wl (w : Int) : List Int := [wrapF .u8 (shrF w 24), wrapF .u8 (shrF w 16), wrapF .u8 (shrF w 8), wrapF .u8 (shrF w 0)]
def outL (s : S8) : List Int := wl s.a ++ (wl s.b ++ (wl s.c ++ (wl s.d ++ (wl s.e ++ (wl s.f ++ (wl s.g ++ wl s.h))))))
def hx (s : S8) (i : Nat) : Int := (outL s).getD i 0
theorem outI_cl (s : S8) : outI s = .agg (cl (hx s)) := rfl
theorem hx_By (s : S8) : ∀ i, i < 8 → By (hx s i)
  | 0, _ => ByW _
  | 1, _ => ByW _
  | 2, _ => ByW _
  | 3, _ => ByW _
  | 4, _ => ByW _
  | 5, _ => ByW _
  | 6, _ => ByW _
  | 7, _ => ByW _
  | i + 8, h => by omega
noncomputable def hashS (s : Int) : Nat → Int := hx (sumZ 248 fun j => (hdI s).getD j 0)
noncomputable def blkI (s : Int) : List Int := hdI s ++ [hashS s 0, hashS s 1, hashS s 2, hashS s 3, hashS s 4, hashS s 5, hashS s 6, hashS s 7]
noncomputable def blkX (s : Int) (i : Nat) : Int := (blkI s).getD i 0
theorem hdI_len (s : Int) : (hdI s).length = 248 := by kernel_rfl
theorem blkI_len (s : Int) : (blkI s).length = 256 := by simp [blkI, hdI_len]
theorem il_blk (s : Int) : il (blkX s) = blkI s := by
  have := list_of_range (blkI s)
  rw [blkI_len] at this
  exact this.symm
theorem blk_row (s : Int) : blkC s (hashS s) = rowI (blkX s) := by
  rw [rowI_il, il_blk]; rfl
theorem hdI_By (s : Int) : ∀ z, z ∈ hdI s → By z := fun z hz => by
  have hz : z ∈ Int.ofNat 71 :: .ofNat 69 :: .ofNat 66 :: .ofNat 77 :: (wrapF .u8 (shrF s 56) :: wrapF .u8 (shrF s 48) :: wrapF .u8 (shrF s 40) :: wrapF .u8 (shrF s 32) :: wrapF .u8 (shrF s 24) :: wrapF .u8 (shrF s 16) :: wrapF .u8 (shrF s 8) :: wrapF .u8 (shrF s 0) :: zr) := hz
  simp only [List.mem_cons] at hz
  rcases hz with rfl | rfl | rfl | rfl | rfl | rfl | rfl | rfl | rfl | rfl | rfl | rfl | hz
  · exact ByN (by decide)
  · exact ByN (by decide)
  · exact ByN (by decide)
  · exact ByN (by decide)
  · exact ByW _
  · exact ByW _
  · exact ByW _
  · exact ByW _
  · exact ByW _
  · exact ByW _
  · exact ByW _
  · exact ByW _
  · rw [List.eq_of_mem_replicate hz]; exact ByN (by decide)
theorem hashS_By (s : Int) (i : Nat) (h : i < 8) : By (hashS s i) := hx_By (sumZ 248 fun j => (hdI s).getD j 0) i h
theorem blkI_By (s : Int) : ∀ z, z ∈ blkI s → By z := fun z hz => by
  rcases List.mem_append.1 hz with hz | hz
  · exact hdI_By s z hz
  · simp only [List.mem_cons, List.not_mem_nil, or_false] at hz
    rcases hz with h | h | h | h | h | h | h | h <;> rw [h] <;> exact hashS_By s _ (by omega)
theorem getD_at {l : List Int} {i : Nat} (h : i < l.length) : l[i]? = some (l.getD i 0) := by
  rw [List.getD_eq_getElem?_getD, List.getElem?_eq_getElem h]; rfl
theorem blkX_By (s : Int) : ∀ i, i < 256 → By (blkX s i) := fun i hi =>
  blkI_By s _ (List.mem_of_getElem? (getD_at (l := blkI s) (i := i) (by rw [blkI_len]; exact hi)))
/-! ### The two texts of a set's block -/
theorem fnsOk : AllFn Try.prog fns := ⟨⟨Try.func7, Try.call7⟩, ⟨Try.func41, Try.call41⟩, ⟨Try.func42, Try.call42⟩, ⟨Try.func43, Try.call43⟩, ⟨Try.func44, Try.call44⟩, ⟨Try.func73, Try.call73⟩, ⟨Try.func74, Try.call74⟩, ⟨Try.func75, Try.call75⟩, trivial⟩
theorem Eok : Env.Ok Try.prog E := envEx_ok (xs := []) fnsOk trivial (by kernel_rfl)
noncomputable def qH : CallT := orC (sumSumZ 72) rsm.sumRS
theorem smB_ok : CallsOK Try.prog (smB qH) := onlyC_ok (orC_ok sumPart.sum_ok rsm.sumRS_ok)
theorem bytesZ_of {zs : List Int} {row : List AV} (h : row = zs.map (AV.int .u8)) : bytesZ row = some zs := by rw [h]; exact bytesZ_map zs
theorem sum_own {S : ASt} {s : Int} {j i : Nat} {c : Cap} {cs : List AV} {rw : Bool} (hg : S.h.get i = some (.cells cs rw)) (ht : takeL cs 0 248 = some ((hdI s).map (AV.int .u8))) :
    (M E (drawA E) (smB qH) (j + 1)).call 72 [.slice (some (i, 0)) 248 c] S = some (.agg (cl (hashS s)), S) := by
  refine call_at (onlyC_at rfl (orC_l ?_))
  unfold hashS
  rw [← outI_cl]
  unfold sumSumZ
  simp only [Nat.beq_refl, cond_true, blt_t (show 0 < 248 by decide), blt_t (show 248 < 1099511627776 by decide), hg, ht, bytesZ_map]
theorem mapU_inj : ∀ {a b : List Int}, a.map (AV.int .u8) = b.map (AV.int .u8) → a = b
  | [], [], _ => rfl
  | [], _ :: _, h => by simp at h
  | _ :: _, [], h => by simp at h
  | x :: a, y :: b, h => by
    simp only [List.map_cons, List.cons.injEq, AV.int.injEq, true_and] at h
    rw [h.1, mapU_inj h.2]
theorem sum_ref {S : ASt} {s : Int} {j i : Nat} {c : Cap} {cs : List AV} {rw : Bool} (hg : S.h.get i = some (.cells cs rw)) (ht : takeL cs 0 248 = some ((hdI s).map (AV.int .u8))) :
    (M E (drawA E) (smB qH) (j + 1)).call 100 [.slice (some (i, 0)) 248 c] S = some (.agg (cl (hashS s)), S) := by
  refine call_at (onlyC_at rfl (orC_r rfl ?_))
  have hok : rsm.RefOk S i 0 248 (hdI s) := ⟨hdI_len s, by decide, by decide, hdI_By s, cs, rw, hg, ht⟩
  have hex : ∃ v, ∃ bs, rsm.RefOk S i 0 248 bs ∧ v = outI (sumZ 248 fun j => bs.getD j 0) := ⟨_, _, hok, rfl⟩
  have hv : hex.choose = .agg (cl (hashS s)) := by
    obtain ⟨bs, ⟨_, _, _, _, cs', rw', h5, h6⟩, h7⟩ := hex.choose_spec
    rw [h7]
    rw [hg] at h5
    cases h5
    rw [ht] at h6
    rw [mapU_inj (Option.some.inj h6).symm]
    exact outI_cl _
  unfold rsm.sumRS
  simp only [Nat.beq_refl, cond_true, dif_pos hex, hv]
theorem rowP (xs : Nat → Int) : refsV 0 (AV.agg (rowI xs)) := by
  simp only [refsV]
  intro c hc
  rw [rowI_il] at hc
  obtain ⟨z, _, rfl⟩ := List.mem_map.1 hc
  simp [refsV]
theorem blkOwn (s : Int) (S : ASt) : Call1 Try.prog 41 [.int .u64 s] S (.agg (rowI (blkX s)), S) := by
  have h : AtMem Try.prog 41 [.int .u64 s] (mkSt [] 1) (.agg (rowI (blkX s))) := by
    rw [← blk_row]
    exact AtMem.of_tm Eok smB_ok (Eq.mp (vc41 qH s (hashS s) (fun r => r.1 = .agg (blkC s (hashS s)))) ⟨sum_own (s := s) (cs := hdC s) (rw := true) (by kernel_rfl) (by kernel_rfl), rfl⟩)
  refine Call1.ro (os := [.dead]) h (rowP _) ⟨.pure (by simp [refsV]), trivial⟩ rfl fun j x hj => ?_
  · have : (mkSt [] 1).h.get j = none := T.get_e j
    rw [this] at hj; cases hj
theorem blkRef (s : Int) (S : ASt) : Call1 Try.prog 42 [.int .u64 s] S (.agg (rowI (blkX s)), S) := by
  have h : AtMem Try.prog 42 [.int .u64 s] (mkSt [] 1) (.agg (rowI (blkX s))) := by
    rw [← blk_row]
    exact AtMem.of_tm Eok smB_ok (Eq.mp (vc42 qH s (hashS s) (fun r => r.1 = .agg (blkC s (hashS s)))) ⟨sum_ref (s := s) (cs := hdC s) (rw := true) (by kernel_rfl) (by kernel_rfl), rfl⟩)
  refine Call1.ro (os := [.dead]) h (rowP _) ⟨.pure (by simp [refsV]), trivial⟩ rfl fun j x hj => ?_
  · have : (mkSt [] 1).h.get j = none := T.get_e j
    rw [this] at hj; cases hj
noncomputable def bC : CallT := fun f args st => bif (bif Nat.beq 41 f then true else Nat.beq 42 f) then (match args with | [.int .u64 s] => some (.agg (rowI (blkX s)), st) | _ => none) else none
theorem bC_ok : CallsOK Try.prog bC := by
  intro B w0 f args st r hr ι w args' hsr hv
  unfold bC at hr
  cases hf : Nat.beq 41 f
  · rw [hf, cond_false] at hr
    cases hf2 : Nat.beq 42 f
    · rw [hf2] at hr; cases hr
    · rw [hf2, cond_true] at hr
      have := nbeq hf2
      subst this
      split at hr
      · cases hr; exact blkRef _ st B w0 ι w args' hsr hv
      · cases hr
  · rw [hf, cond_true, cond_true] at hr
    have := nbeq hf
    subst this
    split at hr
    · cases hr; exact blkOwn _ st B w0 ι w args' hsr hv
    · cases hr
/-! ### bytes.Equal -/
section
variable {v w : AV} {o o1 : AO} {a b : List Nat}
theorem bytesL_U : ∀ {l : List Nat}, (∀ x, x ∈ l → x < 256) → bytesL (l.map cellU) = some l
  | [], _ => rfl
  | x :: t, h => by
    show (match bytesL (t.map cellU) with | some l => some (x % 256 :: l) | none => none) = _
    rw [bytesL_U fun y hy => h y (List.mem_cons_of_mem _ hy)]
    simp only [Nat.mod_eq_of_lt (h x List.mem_cons_self)]
theorem conv {S : ASt} {v : AV} {l : List Nat} (h : SlB S v l) (hb : ∀ x, x ∈ l → x < 256) : aConvert E 116 9 v S = some (.str l, S) := by
  cases h with
  | nil => kernel_rfl
  | zero => kernel_rfl
  | @row i o n c cs rw _ h1 h2 =>
    have e : aConvert E 116 9 (.slice (some (i, o)) n c) S = (match S.h.get i with
      | some (.cells cs _) => match takeL cs o n with | some l => (match bytesL l with | some b => some (.str b, S) | none => none) | none => none
      | _ => none) := by kernel_rfl
    rw [e]
    simp only [h1, h2, bytesL_U hb]
theorem eqMem (A0 : ArgB 0 v o a) (A1 : ArgB 1 w o1 b) (ha : ∀ x, x ∈ a → x < 256) (hb : ∀ x, x ∈ b → x < 256) : AtMem Try.prog 74 [v, w] (mkSt [(0, o), (1, o1)] 2) (.bool (a == b)) :=
  AtMem.of_tm Eok noSum_ok (Eq.mp (vc74 v w o o1 a b (fun r => r.1 = .bool (a == b))) ⟨conv (A0.toSl (by kernel_rfl)) ha, conv (A1.toSl (by kernel_rfl)) hb, (by show some (AV.bool (lEq a b), _) = _; rw [lEq_eq]), rfl⟩)
theorem bytesEq {S : ASt} {v w : AV} {a b : List Nat} (h0 : SlB S v a) (h1 : SlB S w b) (ha : ∀ x, x ∈ a → x < 256) (hb : ∀ x, x ∈ b → x < 256) : Call1 Try.prog 74 [v, w] S (.bool (a == b), S) := by
  obtain ⟨v1, o, r0, A0⟩ := h0.ro 0
  obtain ⟨w1, o1, r1, A1⟩ := h1.ro 1
  refine Call1.ro (os := [o, o1]) (eqMem A0 A1 ha hb) (by simp [refsV]) ⟨r0, r1, trivial⟩ rfl fun j x hj => ?_
  have hg : (mkSt [(0, o), (1, o1)] 2).h.get j = if j = 1 then some o1 else if j = 0 then some o else none := by
    show (((T.e : T AO).set D 0 _).set D 1 _).get j = _
    rw [T.get_set, T.get_set, T.get_e]
  rw [hg] at hj
  by_cases e1 : j = 1
  · subst e1; simpa using hj
  · by_cases e0 : j = 0
    · subst e0; simpa using hj
    · simp [e1, e0] at hj
end

/-! ### Numbers of bytes, two ways -/
theorem wrapU {m : Nat} (h : m < 18446744073709551616) : wrapF .u64 (.ofNat m) = .ofNat m := by
  have e : modN (.ofNat m) (big .u64) = m := Nat.mod_eq_of_lt h
  unfold wrapF
  have hb : Nat.blt (modN (.ofNat m) (big .u64)) (half .u64) = true := by rw [e]; exact blt_t h
  show (bif Nat.blt (modN (.ofNat m) (big .u64)) (half .u64) then Int.ofNat (modN (.ofNat m) (big .u64)) else _) = _
  rw [hb, e]; rfl
theorem or0 {b : Nat} (hb : b < 256) : wrapF .u64 (.ofNat (Nat.lor 0 (modN (wrapF .u64 (.ofNat b)) 18446744073709551616))) = .ofNat b := by
  rw [wrapU (m := b) (by omega)]
  have e4 : modN (.ofNat b) 18446744073709551616 = b := Nat.mod_eq_of_lt (by omega)
  rw [e4, show Nat.lor 0 b = b from Nat.zero_or b]
  exact wrapU (by omega)
theorem or1 {n b : Nat} (hn : n < 72057594037927936) (hb : b < 256) : wrapF .u64 (.ofNat (Nat.lor (modN (shlF .u64 (.ofNat n) 8) 18446744073709551616) (modN (wrapF .u64 (.ofNat b)) 18446744073709551616))) = .ofNat (n * 256 + b) := by
  have e1 : shlF .u64 (.ofNat n) 8 = .ofNat (n * 256) := by
    have e0 : shlF .u64 (.ofNat n) 8 = wrapF .u64 (.ofNat (n * 2 ^ 8)) := rfl
    rw [e0, show n * 2 ^ 8 = n * 256 by omega]
    exact wrapU (by omega)
  rw [e1, wrapU (m := b) (by omega)]
  have e3 : modN (.ofNat (n * 256)) 18446744073709551616 = n * 256 := Nat.mod_eq_of_lt (by omega)
  have e4 : modN (.ofNat b) 18446744073709551616 = b := Nat.mod_eq_of_lt (by omega)
  rw [e3, e4]
  have e5 : Nat.lor (n * 256) b = n * 256 + b := by
    have := Nat.two_pow_add_eq_or_of_lt (i := 8) (show b < 2 ^ 8 from hb) n
    rw [show (2 ^ 8 * n : Nat) = n * 256 by omega] at this
    exact this.symm
  rw [e5]
  exact wrapU (by omega)
theorem ad0 {b : Nat} (hb : b < 256) : wrapF .u64 (.ofNat 0 + wrapF .u64 (.ofNat b)) = .ofNat b := by
  rw [wrapU (m := b) (by omega)]
  have : (Int.ofNat 0 + Int.ofNat b : Int) = Int.ofNat (0 + b) := rfl
  rw [this, Nat.zero_add]; exact wrapU (by omega)
theorem ad1 {n b : Nat} (hn : n < 72057594037927936) (hb : b < 256) : wrapF .u64 (wrapF .u64 (.ofNat n * .ofNat 256) + wrapF .u64 (.ofNat b)) = .ofNat (n * 256 + b) := by
  have e : (Int.ofNat n * Int.ofNat 256 : Int) = Int.ofNat (n * 256) := rfl
  have ad : (Int.ofNat (n * 256) + Int.ofNat b : Int) = Int.ofNat (n * 256 + b) := rfl
  rw [e, wrapU (m := n * 256) (by omega), wrapU (m := b) (by omega), ad]
  exact wrapU (by omega)
theorem or_ad {c : Nat → Int} (h : ∀ i, i < 256 → By (c i)) : orV c = adV c := by
  obtain ⟨a4, h4, e4⟩ := h 4 (by omega)
  obtain ⟨a5, h5, e5⟩ := h 5 (by omega)
  obtain ⟨a6, h6, e6⟩ := h 6 (by omega)
  obtain ⟨a7, h7, e7⟩ := h 7 (by omega)
  obtain ⟨a8, h8, e8⟩ := h 8 (by omega)
  obtain ⟨a9, h9, e9⟩ := h 9 (by omega)
  obtain ⟨a10, h10, e10⟩ := h 10 (by omega)
  obtain ⟨a11, h11, e11⟩ := h 11 (by omega)
  delta orV adV
  simp only [e4, e5, e6, e7, e8, e9, e10, e11]
  rw [or0 h4, ad0 h4]
  rw [or1 (by omega) h5, ad1 (by omega) h5]
  rw [or1 (by omega) h6, ad1 (by omega) h6]
  rw [or1 (by omega) h7, ad1 (by omega) h7]
  rw [or1 (by omega) h8, ad1 (by omega) h8]
  rw [or1 (by omega) h9, ad1 (by omega) h9]
  rw [or1 (by omega) h10, ad1 (by omega) h10]
  rw [or1 (by omega) h11, ad1 (by omega) h11]
/-! ### Comparisons, stores -/
theorem avs_self : ∀ l : List Int, avsEq (l.map (AV.int .u8)) (l.map (AV.int .u8)) = true
  | [] => rfl
  | z :: l => by
    show (avEq (AV.int .u8 z) (AV.int .u8 z) && avsEq (l.map (AV.int .u8)) (l.map (AV.int .u8))) = true
    rw [avs_self l]
    simp [avEq]
theorem hold1 (xs : Nat → Int) : holdsO [(some (AV.agg (rowI xs)), AV.agg (rowI xs))] := by
  have : avEq (AV.agg (rowI xs)) (AV.agg (rowI xs)) = true := by
    show avsEq (rowI xs) (rowI xs) = true
    rw [rowI_il]; exact avs_self _
  exact ⟨⟨rfl, this⟩, trivial⟩
theorem eqLs_I : ∀ (xs ys : List Int), xs.length = ys.length → eqLs (fun _ x y => aEq0 (.int .u8) x y) 5 xs.length (xs.map (AV.int .u8)) (ys.map (AV.int .u8)) = some (decide (xs = ys))
  | [], [], _ => rfl
  | [], _ :: _, h => by simp at h
  | _ :: _, [], h => by simp at h
  | x :: xs, y :: ys, h => by
    have ih := eqLs_I xs ys (by simpa using h)
    show (match (some (eqF x y) : Option Bool) with | some true => eqLs (fun _ x y => aEq0 (.int .u8) x y) 5 xs.length (xs.map (AV.int .u8)) (ys.map (AV.int .u8)) | some false => some false | none => none) = _
    rw [ih, eqF_eq]
    by_cases e : x = y
    · subst e; simp
    · have : (x == y) = false := by simpa using e
      rw [this]
      simp [e]
theorem il_len (xs : Nat → Int) : (il xs).length = 256 := by simp [il]
theorem bin_ne {x y : Operand} (xs ys : Nat → Int) : aBin E .neq 33 x y (.agg (rowI xs)) (.agg (rowI ys)) = some (.bool (!decide (il xs = il ys))) := by
  have e : aBin E .neq 33 x y (.agg (rowI xs)) (.agg (rowI ys)) = (match eqLs (fun _ x y => aEq0 (.int .u8) x y) 5 256 (rowI xs) (rowI ys) with | some r => some (.bool (!r)) | none => none) := by kernel_rfl
  have h := eqLs_I (il xs) (il ys) (by rw [il_len, il_len])
  rw [← rowI_il, ← rowI_il, il_len] at h
  rw [e, h]
theorem over1 : ∀ {cs : List AV} {v : AV}, cs ≠ [] → over [v] cs = some (cs.set 0 v)
  | [], _, h => absurd rfl h
  | c :: cs, v, _ => rfl
theorem setL_one : ∀ {cs : List AV} {o : Nat} {v : AV}, o < cs.length → setL cs o [v] = some (cs.set o v) := by
  intro cs o v h
  rw [setL_eq]
  induction cs generalizing o with
  | nil => simp at h
  | cons c cs ih =>
    cases o with
    | zero => rfl
    | succ o =>
      show (match setL0 cs o [v] with | some r => some (c :: r) | none => none) = _
      rw [ih (by simpa using h)]; rfl
theorem rowI_len (xs : Nat → Int) : (rowI xs).length = 256 := by simp [rowI]
def updX (xs : Nat → Int) (j : Nat) (z : Int) (i : Nat) : Int := if i = j then z else xs i
theorem rowI_set (xs : Nat → Int) (j : Nat) (z : Int) (hj : j < 256) : (rowI xs).set j (.int .u8 z) = rowI (updX xs j z) := by
  apply List.ext_getElem?
  intro i
  rw [List.getElem?_set]
  by_cases hi : i < 256
  · rw [row_at xs hi, row_at (updX xs j z) hi, rowI_len]
    by_cases e : j = i
    · subst e; simp [hj, updX]
    · have e2 : ¬ i = j := fun h => e h.symm
      simp [e, updX, e2]
  · rw [List.getElem?_eq_none (by rw [rowI_len]; omega), List.getElem?_eq_none (by rw [rowI_len]; omega)]
    simp only [rowI_len]
    by_cases e : j = i
    · omega
    · simp [e]
/-! ### What the law calls -/
open Classical in
noncomputable def eB : CallT := fun g args st => bif Nat.beq 74 g then (match args with
  | [v, w] => if h : ∃ a b, SlB st v a ∧ SlB st w b ∧ (∀ x, x ∈ a → x < 256) ∧ (∀ x, x ∈ b → x < 256) then some (.bool (h.choose == h.choose_spec.choose), st) else none
  | _ => none) else none
theorem eB_ok : CallsOK Try.prog eB := by
  intro B w0 g args st r hr ι w args' hsr hv
  unfold eB at hr
  cases hf : Nat.beq 74 g
  · rw [hf] at hr; cases hr
  rw [hf, cond_true] at hr
  have := nbeq hf
  subst this
  split at hr
  · split at hr
    · rename_i hx
      simp only [Option.some.injEq] at hr
      subst hr
      obtain ⟨h1, h2, h3, h4⟩ := hx.choose_spec.choose_spec
      exact bytesEq h1 h2 h3 h4 B w0 ι w args' hsr hv
    · cases hr
  · cases hr
open Classical in
theorem eB_at {st : ASt} {v w : AV} {a b : List Nat} (h1 : SlB st v a) (h2 : SlB st w b) (h3 : ∀ x, x ∈ a → x < 256) (h4 : ∀ x, x ∈ b → x < 256) : eB 74 [v, w] st = some (.bool (a == b), st) := by
  have hx : ∃ a b, SlB st v a ∧ SlB st w b ∧ (∀ x, x ∈ a → x < 256) ∧ (∀ x, x ∈ b → x < 256) := ⟨a, b, h1, h2, h3, h4⟩
  obtain ⟨g1, g2, _, _⟩ := hx.choose_spec.choose_spec
  have e1 := g1.inj h1
  have e2 := g2.inj h2
  have e3 : (hx.choose == hx.choose_spec.choose) = (a == b) := by
    have : (hx.choose = hx.choose_spec.choose) = (a = b) := propext ⟨fun h => e1.symm.trans (h.trans e2), fun h => e1.trans (h.trans e2.symm)⟩
    rw [Bool.eq_iff_iff, beq_iff_eq, beq_iff_eq, this]
  show (if h : ∃ a b, SlB st v a ∧ SlB st w b ∧ (∀ x, x ∈ a → x < 256) ∧ (∀ x, x ∈ b → x < 256) then some (AV.bool (h.choose == h.choose_spec.choose), st) else none) = _
  rw [dif_pos hx, e3]
noncomputable def fnsK : List (Nat × Func) := [(45, Try.f45), (76, Try.f76), (77, Try.f77), (78, Try.f78), (79, Try.f79), (80, Try.f80), (101, Try.f101), (102, Try.f102), (125, Try.f125)]
noncomputable def EK : Env := envEx Try.prog (List.range 229) fnsK []
theorem EKok : Env.Ok Try.prog EK := envEx_ok (xs := []) ⟨⟨Try.func45, Try.call45⟩, ⟨Try.func76, Try.call76⟩, ⟨Try.func77, Try.call77⟩, ⟨Try.func78, Try.call78⟩, ⟨Try.func79, Try.call79⟩, ⟨Try.func80, Try.call80⟩, ⟨Try.func101, Try.call101⟩, ⟨Try.func102, Try.call102⟩, ⟨Try.func125, Try.call125⟩, trivial⟩ trivial (by kernel_rfl)
noncomputable def kC : CallT := sumC [⟨45, [], .bool true⟩]
theorem kC_ok : CallsOK Try.prog kC := sumC_ok (l := [⟨45, [], .bool true⟩]) ⟨memo_ok (n := 60) EKok noSum_ok Try.call45 (by kernel_rfl) (by kernel_rfl), trivial⟩
noncomputable def qL : CallT := orC bC (orC eB kC)
theorem qL_ok : CallsOK Try.prog (sm qL) := onlyC_ok (orC_ok bC_ok (orC_ok eB_ok kC_ok))
theorem b41 {s : Int} {S : ASt} {j : Nat} : (M E (drawA E) (sm qL) (j + 1)).call 41 [.int .u64 s] S = some (.agg (rowI (blkX s)), S) := call_at (onlyC_at rfl (orC_l rfl))
theorem b42 {s : Int} {S : ASt} {j : Nat} : (M E (drawA E) (sm qL) (j + 1)).call 42 [.int .u64 s] S = some (.agg (rowI (blkX s)), S) := call_at (onlyC_at rfl (orC_l rfl))
theorem k45 {S : ASt} {j : Nat} : (M E (drawA E) (sm qL) (j + 1)).call 45 [] S = some (.bool true, S) := call_at (onlyC_at rfl (orC_r rfl (orC_r rfl rfl)))
theorem take256 {xs : Nat → Int} (h : ∀ i, i < 256 → By (xs i)) : takeL (rowI xs) 0 256 = some ((bn xs).map cellU) := by
  rw [← rowI_U h]
  have e : (rowI xs).take 256 = rowI xs := List.take_of_length_le (Nat.le_of_eq (rowI_len xs))
  unfold takeL
  simp only [List.drop_zero, e, rowI_len, Nat.beq_refl, cond_true]
theorem e74 {xs ys : Nat → Int} (hx : ∀ i, i < 256 → By (xs i)) (hy : ∀ i, i < 256 → By (ys i)) {S : ASt} {i k j : Nat} {c d : Cap} (h1 : S.h.get i = some (.cells (rowI xs) true)) (h2 : S.h.get k = some (.cells (rowI ys) true)) :
    (M E (drawA E) (sm qL) (j + 1)).call 74 [.slice (some (i, 0)) 256 c, .slice (some (k, 0)) 256 d] S = some (.bool (bn xs == bn ys), S) :=
  call_at (onlyC_at rfl (orC_r rfl (orC_l (eB_at (.row h1 (take256 hx)) (.row h2 (take256 hy)) (bn_by hx) (bn_by hy)))))
theorem bn_il {xs ys : Nat → Int} (hx : ∀ i, i < 256 → By (xs i)) (hy : ∀ i, i < 256 → By (ys i)) : (bn xs == bn ys) = decide (il xs = il ys) := by
  by_cases e : il xs = il ys
  · simp [bn, e]
  · have : bn xs ≠ bn ys := fun h => e (toNat_inj (il_By hx) (il_By hy) h)
    simp [e, this]
theorem finP {b : Nat → Int} (hb : ∀ i, i < 256 → By (b i)) {S6 S7 S8 S9 : ASt} (g1 : S7.h.get 7 = some (.cells (rowI (blkX (orV b))) true)) (g2 : S7.h.get 6 = some (.cells (rowI b) true)) :
  (M E (drawA E) (sm qL) 47).call 41 [AV.int IntKind.u64 (orV b)] S6 = some (AV.agg (rowI (blkX (orV b))), S6) ∧ (M E (drawA E) (sm qL) 46).call 74 [AV.slice (some (7, 0)) 256 (Cap.known 256), AV.slice (some (6, 0)) 256 (Cap.known 256)] S7 = some (AV.bool (bn (blkX (orV b)) == bn b), S7) ∧ ifB (bn (blkX (orV b)) == bn b) (holdsO [] ∧ (M E (drawA E) (sm qL) 46).call 42 [AV.int IntKind.u64 (adV b)] S8 = some (AV.agg (rowI (blkX (adV b))), S8) ∧ still S8 (aBin E BinOp.neq 33 (Operand.tmp 8) (Operand.tmp 9) (AV.agg (rowI (blkX (adV b)))) (AV.agg (rowI b))) = some (AV.bool (!decide (il (blkX (adV b)) = il b)), S8) ∧ ifB (!decide (il (blkX (adV b)) = il b)) (holdsO [(some (AV.agg (rowI b)), AV.agg (rowI b))] ∧ (AV.bool false, S9).1 = AV.bool true) (holdsO [(some (AV.agg (rowI b)), AV.agg (rowI b))] ∧ ifB (eqF (orV b) (adV b)) ((M E (drawA E) (sm qL) 51).call 45 [] S8 = some (AV.bool true, S8) ∧ (AV.bool true, S9).1 = AV.bool true) ((AV.bool false, S9).1 = AV.bool true))) (holdsO [] ∧ (M E (drawA E) (sm qL) 46).call 42 [AV.int IntKind.u64 (adV b)] S8 = some (AV.agg (rowI (blkX (adV b))), S8) ∧ still S8 (aBin E BinOp.neq 33 (Operand.tmp 8) (Operand.tmp 9) (AV.agg (rowI (blkX (adV b)))) (AV.agg (rowI b))) = some (AV.bool (!decide (il (blkX (adV b)) = il b)), S8) ∧ ifB (!decide (il (blkX (adV b)) = il b)) (holdsO [(some (AV.agg (rowI b)), AV.agg (rowI b))] ∧ (M E (drawA E) (sm qL) 51).call 45 [] S8 = some (AV.bool true, S8) ∧ (AV.bool true, S9).1 = AV.bool true) (holdsO [(some (AV.agg (rowI b)), AV.agg (rowI b))] ∧ (AV.bool false, S9).1 = AV.bool true)) := by
  refine And.intro b41 (And.intro (e74 (blkX_By _) hb g1 g2) ?_)
  have e := bn_il (blkX_By (orV b)) hb
  rw [e, or_ad hb]
  refine ifB_mk (fun h => ?_) (fun h => ?_)
  · refine And.intro trivial (And.intro b42 (And.intro (still_of (bin_ne _ _)) ?_))
    refine ifB_mk (fun h2 => ?_) (fun h2 => ?_)
    · rw [h] at h2; cases h2
    · refine And.intro (hold1 _) ?_
      rw [eqF_self]
      exact And.intro k45 rfl
  · refine And.intro trivial (And.intro b42 (And.intro (still_of (bin_ne _ _)) ?_))
    refine ifB_mk (fun h2 => ?_) (fun h2 => ?_)
    · exact And.intro (hold1 _) (And.intro k45 rfl)
    · rw [h] at h2; cases h2
end Go.Proofs.Ytmjmpmmonelmmaa.mpb
end

section
open Go Go.Ax Go.Proofs.Ytmjmpmmonelmmaa
namespace Go.Proofs.Ytmjmpmmonelmmaa.mpb
set_option linter.unusedVariables false
/-! ### The law -/
theorem idx33 {k : Nat} (h : k < 256) (S : ASt) : still S (aIndexAddr E 33 (.ptr (some (0, 0))) (.int .i64 (.ofNat k))) = some (.ptr (some (0, 0 + k * 1)), S) := by
  have e : aIndexAddr E 33 (.ptr (some (0, 0))) (.int .i64 (.ofNat k)) = bif Nat.blt k 256 then some (.ptr (some (0, 0 + k * 1))) else none := by kernel_rfl
  rw [e, blt_t h]; rfl
theorem cell5 : cellT E 5 = true := by kernel_rfl
theorem store5 {S : ASt} {cs : List AV} {j : Nat} {Z : Int} (hS : S.h.get 0 = some (.cells cs true)) : aStore E 5 (.ptr (some (0, j))) (.int .u8 Z) S = (match setL cs j [.int .u8 Z] with | some cs' => some (S.put 0 (.cells cs' true)) | none => none) := by
  obtain ⟨ti, h1, h2⟩ : ∃ ti, E.ty.get 5 = some ti ∧ Nat.beq 1 ti.size = true := by
    obtain ⟨ti, h1⟩ : ∃ ti, E.ty.get 5 = some ti := Option.isSome_iff_exists.mp (by kernel_rfl)
    refine ⟨ti, h1, ?_⟩
    have h3 : (match E.ty.get 5 with | some ti => Nat.beq 1 ti.size | none => false) = true := by kernel_rfl
    rw [h1] at h3
    exact h3
  simp only [aStore, hS, h1, h2, cond_true]
  cases setL cs j [.int .u8 Z] <;> rfl
theorem law (s at_ by_ : Int) {b : Nat → Int} (hb : ∀ i, i < 256 → By (b i)) : AtMem Try.prog 7 [.int .u64 s, .agg (rowI b), .int .i64 at_, .int .u8 by_] (mkSt [] 0) (.bool true) := by
  have t19 : ∀ {x y : Operand} {S : ASt}, still S (aBin E .neq 33 x y (.agg (rowI (blkX s))) (.agg (rowI (blkX s)))) = some (.bool false, S) := fun {x y S} => by rw [bin_ne]; simp [still]
  cases at_ with
  | negSucc A =>
    refine AtMem.of_tm Eok qL_ok (Eq.mp (vc7 qL s (.negSucc A) by_ b b (blkX s) (blkX (orV b)) (blkX (adV b)) 0 0 (bn (blkX (orV b)) == bn b) (!decide (il (blkX (adV b)) = il b)) (fun r => r.1 = .bool true)) ?_)
    refine And.intro b41 (And.intro (by kernel_rfl) (And.intro b42 (And.intro t19 (And.intro (hold1 _) ?_))))
    refine ifB_mk (fun h => ?_) (fun _ => finP hb (by kernel_rfl) (by kernel_rfl))
    cases h
  | ofNat A =>
    have hA : A % 256 < 256 := Nat.mod_lt _ (by decide)
    obtain ⟨j, hj⟩ : ∃ j, j = 0 + A % 256 * 1 := ⟨_, rfl⟩
    have hj2 : j < 256 := by omega
    obtain ⟨z, hz⟩ : ∃ z, z = blkX s j := ⟨_, rfl⟩
    obtain ⟨Z, hZ⟩ : ∃ Z, Z = wrapF IntKind.u8 (Int.ofNat (Nat.xor (modN z 256) (modN by_ 256))) := ⟨_, rfl⟩
    have hc : ∀ i, i < 256 → By (updX (blkX s) j Z i) := fun i hi => by
      unfold updX
      by_cases e : i = j
      · rw [if_pos e, hZ]; exact ByW _
      · rw [if_neg e]; exact blkX_By s i hi
    obtain ⟨c, hcd⟩ : ∃ c, c = updX (blkX s) j Z := ⟨_, rfl⟩
    rw [← hcd] at hc
    refine AtMem.of_tm Eok qL_ok (Eq.mp (vc7 qL s (.ofNat A) by_ b c (blkX s) (blkX (orV c)) (blkX (adV c)) j z (bn (blkX (orV c)) == bn c) (!decide (il (blkX (adV c)) = il c)) (fun r => r.1 = .bool true)) ?_)
    refine And.intro b41 (And.intro (by kernel_rfl) (And.intro b42 (And.intro t19 (And.intro (hold1 _) ?_))))
    refine ifB_mk (fun _ => ?_) (fun h => by cases h)
    have idx : ∀ {S : ASt}, still S (aIndexAddr E 33 (.ptr (some (0, 0))) (.int .i64 (Int.tmod (.ofNat A) (.ofNat 256)))) = some (.ptr (some (0, j)), S) := fun {S} => by
      rw [hj]; exact idx33 hA S
    refine And.intro (by kernel_rfl) (And.intro idx (And.intro ?_ (And.intro idx (And.intro ?_ (finP hc (by kernel_rfl) (by kernel_rfl))))))
    · rw [hz]; exact load_at (rw := true) (cs := rowI (blkX s)) cell5 (by kernel_rfl) (row_at _ hj2)
    · rw [← hZ]
      rw [store5 (cs := rowI (blkX s)) (by kernel_rfl), setL_one (by rw [rowI_len]; exact hj2), rowI_set _ _ _ hj2, ← hcd]
      kernel_rfl
noncomputable section
open Go.ChangeShapes Go.WideShapes Go.ChangeAt Go.RowKit Go.Deep
section
variable {H : Type} {enc : TypeId × Value → H} {P : Program} {w : World} {base : Nat} {spare : Nat → Bool} {held : Bool} {fuel : Nat} {t : TypeId} {cs : List Value} {x : DataW H × List MemPlace}
theorem fieldOf {fs : Array Field} (ht : P.underlying t = some (.struct fs)) (h : DataW.trod enc P w base spare held fuel t cs = some x) {i : Nat} {f : Field} (hi : fs[i]? = some f) :
    ∃ n y, DataW.trod enc P w base spare held n f.type ((cs.drop f.offset).take (P.cellsOf f.type)) = some y := by
  obtain ⟨xs, n, _, _, _, hl, hf⟩ := DataW.trod_struct ht h
  have h1 := (Array.getElem?_eq_some_iff.1 hi).1
  exact ⟨n, xs[i]'(by omega), by rw [hf i f hi]; simp⟩
theorem elemOf {n : Nat} {e : TypeId} (ht : P.underlying t = some (.array n e)) (h : DataW.trod enc P w base spare held fuel t cs = some x) {i : Nat} (hi : i < n) :
    ∃ m y, DataW.trod enc P w base spare held m e ((cs.drop (i * P.cellsOf e)).take (P.cellsOf e)) = some y := by
  obtain ⟨xs, m, _, _, _, hl, hf⟩ := DataW.trod_array ht h
  exact ⟨m, xs[i]'(by omega), by rw [hf i hi]; simp⟩
theorem one_int {k : IntKind} {o : Nat} (ht : P.underlying t = some (.int k)) (h : DataW.trod enc P w base spare held fuel t ((cs.drop o).take 1) = some x) : ∃ z, cs[o]? = some (.int k z) ∧ (Lit.int k z).wf = true := by
  obtain ⟨z, e, _, hw⟩ := DataW.trod_int ht h
  refine ⟨z, ?_, hw⟩
  have : ((cs.drop o).take 1)[0]? = some (.int k z) := by rw [e]; rfl
  simpa using this
end
theorem own : ownKnob Try.prog.godebug = none := by kernel_rfl
theorem laidOut : laidOutB Try.prog = true := by kernel_rfl
theorem same_below {W W' : World} (h : Below W.heap.size W W') {p : MemPlace} (hp : p.block < W.heap.size) : W.sameAt W' p := by
  cases p with
  | cell b off => exact h.cell (p := ⟨b, off, none⟩) hp
  | map b => exact h.block b hp

/-- what the two slices are told as -/
def rows2 (r0 r1 : Option (Nat × Nat × List AV)) : Nat → Option (Nat × Nat × List AV)
  | 0 => r0
  | 1 => r1
  | _ => none


/-- a law that answers at its memory -/
theorem law_at {P : Program} {f : Nat} {args : List AV} {args' : Array Value} {B : Prot} (hB : ∀ i, ¬ B.rs i) {W : World} (hall : ∀ k, k < W.heap.size → B.all k) {ι : Ren} {st : ASt} (hsr : SR B W ι st W) (hv : VRs ι args args')
    (h : AtMem P f args st (.bool true)) : Calls P f args' W fun e w' => e = .returned (.bool true) ∧ Below W.heap.size W w' := by
  have := (h B W ι W args' hB hsr hv).2
  rw [callsIn_wide] at this
  refine this.mono ?_
  rintro e w' ⟨⟨v, st'⟩, hv, x, ι', rfl, _, h2, h3⟩
  simp only at hv h3
  subst hv
  cases h3
  exact ⟨rfl, h2.below.os, h2.below.tape, h2.below.output, h2.below.size, fun k hk => h2.below.block k (hall k hk)⟩
theorem byte_of {z : Int} (h : (Lit.int .u8 z).wf = true) : By z := by
  have h3 : 0 ≤ z ∧ z ≤ 255 := by
    simp only [Lit.wf, Bool.and_eq_true, decide_eq_true_eq] at h
    exact h
  exact ⟨z.toNat, by omega, (Int.toNat_of_nonneg h3.1).symm⟩
/-- the block's bytes -/
theorem bytes256 {H : Type} {enc : TypeId × Value → H} {W : World} {base fuel : Nat} {spare : Nat → Bool} {held : Bool} {cs : List Value} {x : DataW H × List MemPlace} (h : DataW.trod enc Try.prog W base spare held fuel 33 cs = some x) :
    cs.length = 256 ∧ ∃ b : Nat → Int, ∀ i, i < 256 → By (b i) ∧ cs[i]? = some (.int .u8 (b i)) := by
  have hlen : cs.length = 256 := by
    obtain ⟨_, _, _, _, hl, _⟩ := DataW.trod_array Try.underlying33 h
    rw [hl]
    kernel_rfl
  have c5 : Try.prog.cellsOf 5 = 1 := by kernel_rfl
  have each : ∀ i, i < 256 → ∃ z, cs[i]? = some (.int .u8 z) ∧ (Lit.int .u8 z).wf = true := fun i hi => by
    obtain ⟨m, y, hy⟩ := elemOf Try.underlying33 h (i := i) hi
    simp only [c5, Nat.mul_one] at hy
    exact one_int Try.underlying5 hy
  refine ⟨hlen, fun i => if h : i < 256 then (each i h).choose else 0, fun i hi => ?_⟩
  obtain ⟨h1, h2⟩ := (each i hi).choose_spec
  simp only [hi, dif_pos]
  refine ⟨?_, h1⟩
  exact byte_of h2
theorem okWide_arr {r : Reach} {b0 n : Nat} {e t : TypeId} {P : Program} {W : World} {v : Value} (hu : P.underlying t = some (.array n e)) (h : Value.okWide P W r b0 t v) : ∃ xs : Array Value, v = .agg xs ∧ xs.size = P.cellsOf t := by
  simp only [Value.okWide, hu] at h
  obtain ⟨cs, h1, h2, _⟩ := h
  exact ⟨cs, h1, h2⟩
theorem walk {W : World} {s at_ by_ : Int} {cs : Array Value} {b : Nat → Int} (hl : cs.toList.length = 256) (hb : ∀ i, i < 256 → By (b i) ∧ cs.toList[i]? = some (.int .u8 (b i))) :
    Calls Try.prog 7 #[.int .u64 s, .agg cs, .int .i64 at_, .int .u8 by_] W fun e w' => e = .returned (.bool true) ∧ Below W.heap.size W w' := by
  have hgl : GlobOK W := by intro _ _ h; cases h
  have hsr := rowsO_ok hgl (n := 0) (rows := fun _ => none) (fun i r h => by cases h) (st := mkSt [] 0) rfl (fun i a hi => by
    have h0 : (mkSt [] 0).h.get i = none := T.get_e i
    rw [h0] at hi
    cases hi)
  have hv : VRs (rowsRen W 0 (fun _ => none)) [.int .u64 s, .agg (rowI b), .int .i64 at_, .int .u8 by_] #[.int .u64 s, .agg cs, .int .i64 at_, .int .u8 by_] := ⟨rfl, fun i x x' hx hx' => by
    match i with
    | 0 => simp at hx hx'; subst hx; subst hx'; exact .int _ _
    | 1 =>
      simp at hx hx'; subst hx; subst hx'
      refine .agg _ _ (by rw [rowI_len]; simpa using hl.symm) (fun c hc => ?_) fun j y y' hy hy' => ?_
      · simp only [rowI, List.mem_map] at hc
        obtain ⟨_, _, rfl⟩ := hc
        rfl
      · have hj : j < 256 := by
          have := (List.getElem?_eq_some_iff.mp hy).1
          rw [rowI_len] at this
          exact this
        have h1 := row_at b hj
        rw [h1] at hy
        have h2 := (hb j hj).2
        rw [Array.getElem?_toList] at h2
        rw [h2] at hy'
        cases hy; cases hy'
        exact .int _ _
    | 2 => simp at hx hx'; subst hx; subst hx'; exact .int _ _
    | 3 => simp at hx hx'; subst hx; subst hx'; exact .int _ _
    | i + 4 => simp at hx⟩
  exact law_at (fun _ h => h) (fun k hk => .inr hk) hsr hv (law s at_ by_ fun i hi => (hb i hi).1)
noncomputable def wit : Value := .agg (Array.replicate 256 (.int .u8 0))
/-! ### The row's step -/
set_option maxRecDepth 100000 in
theorem lifted (os : Os) (started : os.Started) (H : Type) (enc : TypeId × Value → H) :
    ReturnsInHanded {} Try.checked os 7 .any (Rows.mapBlocksSpec.pre6 enc Try.prog Try.f7 Rows.mapBlocksRow.domain false) (Rows.mapBlocksSpec.post enc Try.prog Try.f7 false true false false) := by
  refine returnsInHanded_of_change (C := Try.checked) own started (by kernel_rfl) Try.func7
    (ChangeSpec.witness6 (enc := enc) (C := Try.checked) false ⟨#[], #[.int .u64 0, wit, .int .i64 0, .int .u8 0], []⟩ 8 (by kernel_rfl) (by kernel_rfl) (by kernel_rfl) (by kernel_rfl)) ?_
  intro W base args ds gs before hval0 hW hcnd _
  have hval : ∀ (j : Nat) t v, Try.f7.params[j]? = some t → args[j]? = some v → Value.okWide Try.prog W .any base t v := hval0
  have hW' := hW
  obtain ⟨p, q, hA0, hV, rfl, hfz, hnd⟩ := hW
  have hA : DataW.TrodAll enc Try.prog W 0 (fun _ => true) true Try.f7.params.toList args.toList ds p := hA0
  rw [Try.params7] at hA hval
  obtain ⟨v0, v1, v2, v3, d0, d1, d2, d3, p0, p1, p2, p3, rfl, rfl, rfl, h0, h1, h2, h3⟩ := trodAll_four hA
  obtain ⟨rfl, rfl⟩ := trodVars_none hV
  obtain ⟨s, rfl, rfl, rfl, w0⟩ := open_int Try.underlying54 (hval 0 54 v0 rfl rfl) h0
  obtain ⟨cs, rfl, hsz⟩ := okWide_arr Try.underlying33 (hval 1 33 v1 rfl rfl)
  obtain ⟨at_, rfl, rfl, rfl, w2⟩ := open_int Try.underlying3 (hval 2 3 v2 rfl rfl) h2
  obtain ⟨by_, rfl, rfl, rfl, w3⟩ := open_int Try.underlying5 (hval 3 5 v3 rfl rfl) h3
  have h1k := h1
  obtain ⟨fu1, hf1⟩ := h1
  clear hA0 hval0
  simp only [List.nil_append, List.append_nil] at hW' hfz hnd
  have hlt : ∀ x ∈ p1, x.block < W.heap.size := fun x hx => by simpa using hW'.lt x (by simpa using hx)
  have hf1' : DataW.trod enc Try.prog W 0 (fun _ => true) true fu1 33 cs.toList = some (d1, p1) := hf1
  obtain ⟨hl, b, hb⟩ := bytes256 hf1'
  refine (walk hl hb).mono fun e W' ⟨he, bel⟩ => ?_
  subst he
  have ARG1 : DataW.Trod enc Try.prog W' 0 (fun x => decide (x < W.heap.size)) true 33 (.agg cs) d1 p1 :=
    WideElems.Trod_stays laidOut (by kernel_rfl) (of_decide_eq_true (by kernel_rfl)) h1k (fun x hx => same_below bel (hlt x hx)) (fun x hx => by simpa using hlt x hx)
  exact ⟨_, rfl, _, _, _, [], _, [], hW', trodAll_mk1 (shut_bool Try.underlying4 _),
    trodAll_mk4 (shut_int Try.underlying54 w0) ARG1 (shut_int Try.underlying3 w2) (shut_int Try.underlying5 w3), rfl, bel.frame _, fun h => by cases h⟩
theorem over : Rows.mapBlocksRow.holds Try.pinned (OpenSpec.ofChange Rows.mapBlocksSpec) :=
  OpenClaim.holds_of_wide 7 Try.f7 rfl rfl rfl rfl rfl rfl rfl ⟨rfl, rfl, rfl, rfl, rfl⟩ rfl rfl rfl rfl rfl (by kernel_rfl) Try.func7 (by kernel_rfl)
    (of_decide_eq_true (by kernel_rfl)) (by unfold Func.isWrapper; first | (rw [if_pos (by decide +kernel)]; kernel_rfl) | (rw [if_neg (by decide +kernel)]; exact ⟨rfl, rfl⟩))
    (fun os started H enc _ => lifted os started H enc)
/-- THE STATEMENT -/
theorem proved : Rows.MapBlocksSaid := over
end
#print axioms proved
end Go.Proofs.Ytmjmpmmonelmmaa.mpb
end
