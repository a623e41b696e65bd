/-
PROVED HERE: 'Rows.PacketSizesSaid': for every datagram the call of the law's function returns true, and the datagram reads as it did. No condition.
  THE WALK is a run of the function's text in an abstract machine (the texts YtlnohbilfogheaaAxA to YtlnohbilfogheaaAxFm show that it is sound), with the datagram open; what it calls by contracts of their own (slices.Equal, packet.May, wire's Blob, packet.Bytes)
-/
import Derived.Test.YtlnohbilfogheaaAxFm
import Derived.Test.YtlnohbilfogheaaRows
import Derived.KernelRfl
import Derived.Test.YtlnohbilfogheaaSumM
import Derived.WalkKit
import Derived.ProofKit
import Derived.OpenShut
import Derived.ShutString
import Derived.ChangeOld
import Derived.ChangeSlices
import Derived.Below
import Derived.Deep.SlicePairs
import Derived.Deep.Grids
import Derived.WideKeyArgs
section
namespace Go.Ax
set_option linter.unusedVariables false
noncomputable section
open Go.RowKit

/-! ### What one call comes to at one memory -/
def Call1 (P : Program) (f : Nat) (args : List AV) (st : ASt) (r : AV × ASt) : Prop :=
  ∀ (B : Prot) w0 ι w args', SR B w0 ι st w → VRs ι args args' →
    (callFunc f args').run P w = .ok (.enter f args') w ∧ CallsIn Fence.wide 0 P f args' w (Post B w0 ι r)

theorem Call1.of {P : Program} {sum : CallT} (hs : CallsOK P sum) {f : Nat} {args : List AV} {st : ASt} {r : AV × ASt} (h : sum f args st = some r) : Call1 P f args st r :=
  fun B w0 ι w args' hsr hv => hs B w0 f args st r h ι w args' hsr hv

open Classical in
/-- calls that are told one by one -/
def tabC : List (Nat × List AV × ASt × (AV × ASt)) → CallT
  | [], _, _, _ => none
  | (g, a, s, r) :: t, f, args, st => if g = f ∧ a = args ∧ s = st then some r else tabC t f args st

theorem tabC_ok {P : Program} : ∀ {tab : List (Nat × List AV × ASt × (AV × ASt))}, (∀ e, e ∈ tab → Call1 P e.1 e.2.1 e.2.2.1 e.2.2.2) → CallsOK P (tabC tab)
  | [], _ => fun _ _ f args st r h => by cases h
  | (g, a, s, r) :: t, h => fun B w0 f args st r' hr ι w args' hsr hv => by
    unfold tabC at hr
    split at hr
    · rename_i e
      obtain ⟨rfl, rfl, rfl⟩ := e
      simp only [Option.some.injEq] at hr
      subst hr
      exact h _ List.mem_cons_self B w0 ι w args' hsr hv
    · exact tabC_ok (fun e he => h e (List.mem_cons_of_mem _ he)) B w0 f args st r' hr ι w args' hsr hv

theorem tabC_hd (f : Nat) (args : List AV) (st : ASt) (r : AV × ASt) (t : List (Nat × List AV × ASt × (AV × ASt))) : tabC ((f, args, st, r) :: t) f args st = some r := by
  simp [tabC]
theorem tabC_tl {g f : Nat} {a args : List AV} {s st : ASt} {r : AV × ASt} {t : List (Nat × List AV × ASt × (AV × ASt))} (h : ¬ (g = f ∧ a = args ∧ s = st)) : tabC ((g, a, s, r) :: t) f args st = tabC t f args st := by
  simp only [tabC, h, if_false]
theorem tabC_tlf {g f : Nat} {a args : List AV} {s st : ASt} {r : AV × ASt} {t : List (Nat × List AV × ASt × (AV × ASt))} (h : Nat.beq g f = false) : tabC ((g, a, s, r) :: t) f args st = tabC t f args st :=
  tabC_tl fun e => by rw [e.1, Nat.beq_refl] at h; cases h
theorem tabC_tln {g f : Nat} {a args : List AV} {s st : ASt} {r : AV × ASt} {t : List (Nat × List AV × ASt × (AV × ASt))} (h : Nat.beq s.next st.next = false) : tabC ((g, a, s, r) :: t) f args st = tabC t f args st :=
  tabC_tl fun e => by rw [e.2.2, Nat.beq_refl] at h; cases h
theorem tabC_tla {g f : Nat} {a args : List AV} {s st : ASt} {r : AV × ASt} {t : List (Nat × List AV × ASt × (AV × ASt))} (h : a ≠ args) : tabC ((g, a, s, r) :: t) f args st = tabC t f args st :=
  tabC_tl fun e => h e.2.1

/-- calls of these functions alone -/
def onlyC (fs : List Nat) (q : CallT) : CallT := fun f args st => bif memN f fs then q f args st else none
theorem onlyC_ok {P : Program} {fs : List Nat} {q : CallT} (h : CallsOK P q) : CallsOK P (onlyC fs q) := fun B w0 f args st r hr ι w args' hsr hv => by
  unfold onlyC at hr
  cases hm : memN f fs
  · rw [hm] at hr; cases hr
  · rw [hm] at hr; exact h B w0 f args st r hr ι w args' hsr hv

/-- a call that a summary tells -/
theorem call_at {E : Env} {draw : DrawT} {sum : CallT} {n f : Nat} {args : List AV} {st : ASt} {r : AV × ASt} (h : sum f args st = some r) : (M E draw sum (n + 1)).call f args st = some r := by
  show (match sum f args st with | some r => some r | none => callF E (M E draw sum n).ex f args st) = _
  rw [h]

/-! ### A frame: a contract at a small memory, used at any -/
/-- where the numbers of a small memory come from: a number, how far behind its first place, is it handed over -/
abbrev Src := List (Option (Nat × Nat × Bool))
def gS (src : Src) (nx : Nat) (j : Nat) : Nat := match src[j]? with | some (some (i, _, true)) => i | _ => nx + j
def Loc.sh (L : Loc) (o : Nat) : Loc := ⟨L.b, L.p + o, L.tot⟩
def renS (src : Src) (ι : Ren) : Ren := fun j => match src[j]? with | some (some (i, o, _)) => (match ι i with | some L => some (L.sh o) | none => none) | _ => none

def Through (g : Nat → Nat) (ι κ : Ren) : Prop := ∀ j L, ι j = some L → κ (g j) = some L

def BackV (g : Nat → Nat) (v v' : AV) : Prop := ∀ ι κ x, Through g ι κ → VR ι v x → VR κ v' x
def BackO (g : Nat → Nat) (a a' : AO) : Prop := a'.own = a.own ∧ ∀ ι κ L o, Through g ι κ → OR ι L a o → OR κ L a' o

mutual
def mapV (g : Nat → Nat) : AV → AV
  | .ptr (some (i, o)) => .ptr (some (g i, o))
  | .slice (some (i, o)) l c => .slice (some (g i, o)) l c
  | .clos f cs => .clos f (mapVs g cs)
  | .bound f fs cs => .bound f (mapVs g fs) (mapVs g cs)
  | .yield i => .yield (g i)
  | .iface t v => .iface t (mapV g v)
  | .agg cs => .agg (mapVs g cs)
  | .tuple cs => .tuple (mapVs g cs)
  | .map (some i) => .map (some (g i))
  | v => v
def mapVs (g : Nat → Nat) : List AV → List AV
  | [] => []
  | v :: vs => mapV g v :: mapVs g vs
end

theorem mapVs_map (g : Nat → Nat) : ∀ l : List AV, mapVs g l = l.map (mapV g)
  | [] => rfl
  | v :: vs => by rw [mapVs, mapVs_map g vs]; rfl

theorem mapV_cell {g : Nat → Nat} {v : AV} (h : v.isCell = true) : (mapV g v).isCell = true := by
  cases v with
  | ptr a => cases a with | none => rfl | some p => rfl
  | slice a l c => cases a with | none => rfl | some p => rfl
  | map a => cases a with | none => rfl | some p => rfl
  | agg _ => cases h
  | tuple _ => cases h
  | any => cases h
  | _ => rfl

theorem VR.through {g : Nat → Nat} {ι κ : Ren} (ht : Through g ι κ) {v : AV} {x : Value} (h : VR ι v x) : VR κ (mapV g v) x := by
  have rows : ∀ {cs : List AV} {cs' : Array Value}, cs.length = cs'.size → (∀ (i : Nat) v v', cs[i]? = some v → cs'[i]? = some v' → VR κ (mapV g v) v') →
      (mapVs g cs).length = cs'.size ∧ ∀ (i : Nat) v v', (mapVs g cs)[i]? = some v → cs'[i]? = some v' → VR κ v v' := fun {cs cs'} hs ih => by
    rw [mapVs_map]
    refine ⟨by rw [List.length_map]; exact hs, fun i v v' hv hv' => ?_⟩
    rw [List.getElem?_map, Option.map_eq_some_iff] at hv
    obtain ⟨a, h1, rfl⟩ := hv
    exact ih i a v' h1 hv'
  induction h with
  | bool b => exact .bool b
  | int k n => exact .int k n
  | str l s h => exact .str l s h
  | ptrN => exact .ptrN
  | ptr i o L h => exact .ptr _ o L (ht _ _ h)
  | sliceN => exact .sliceN
  | slice i o l c' L c h hc hl => exact .slice _ o l c' L c (ht _ _ h) hc hl
  | clos f cs cs' hs h ih => obtain ⟨a, b⟩ := rows hs ih; exact .clos f _ cs' a b
  | bound f fs cs fs' cs' hs hf h g' ih ig => obtain ⟨a, b⟩ := rows hs ih; obtain ⟨c, d⟩ := rows hf ig; exact .bound f _ _ fs' cs' a c b d
  | yield i L h => exact .yield _ L (ht _ _ h)
  | nilFunc => exact .nilFunc
  | iface t v v' h ih => exact .iface t _ v' ih
  | nilIface => exact .nilIface
  | agg cs cs' hs hc h ih =>
    obtain ⟨a, b⟩ := rows hs ih
    refine .agg _ cs' a (fun v hv => ?_) b
    rw [mapVs_map] at hv
    obtain ⟨y, hy, rfl⟩ := List.mem_map.1 hv
    exact mapV_cell (hc y hy)
  | tuple cs cs' hs h ih => obtain ⟨a, b⟩ := rows hs ih; exact .tuple _ cs' a b
  | mapN => exact .mapN
  | map i L h => exact .map _ L (ht _ _ h)
  | slice0 a c => exact .slice0 a c
  | gptr g o => exact .gptr g o
  | any v => exact .any v

theorem BackV.of (g : Nat → Nat) (v : AV) : BackV g v (mapV g v) := fun _ _ _ ht h => h.through ht
theorem BackV.eq {g : Nat → Nat} {v v' : AV} (h : mapV g v = v') : BackV g v v' := h ▸ BackV.of g v
theorem BackV.keep {g : Nat → Nat} {v : AV} (h : refsV 0 v) : BackV g v v := fun _ _ _ _ hv => hv.noRef h

theorem BackO.row {g : Nat → Nat} {cs : List AV} {rw : Bool} (h : ∀ c, c ∈ cs → refsV 0 c) : BackO g (.cells cs rw) (.cells cs rw) :=
  ⟨rfl, fun ι κ L o _ ⟨c, e, lo, hi, q1, q2, q3, q4, q5, q6⟩ => ⟨c, e, lo, hi, q1, q2, q3, q4, fun k v v' hv hv' => (q5 k v v' hv hv').noRef (h v (List.mem_of_getElem? hv)), q6⟩⟩
theorem BackO.cells {g : Nat → Nat} {cs cs' : List AV} {rw : Bool} (h : mapVs g cs = cs') : BackO g (.cells cs rw) (.cells cs' rw) := by
  subst h
  refine ⟨rfl, fun ι κ L o ht ⟨c, e, lo, hi, q1, q2, q3, q4, q5, q6⟩ => ⟨c, e, lo, hi, q1, q2, by rw [mapVs_map, List.length_map]; exact q3, fun v hv => ?_, fun k v v' hv hv' => ?_, q6⟩⟩
  · rw [mapVs_map] at hv
    obtain ⟨y, hy, rfl⟩ := List.mem_map.1 hv
    exact mapV_cell (q4 y hy)
  · rw [mapVs_map, List.getElem?_map, Option.map_eq_some_iff] at hv
    obtain ⟨a, h1, rfl⟩ := hv
    exact (q5 k a v' h1 hv').through ht
theorem BackO.map {g : Nat → Nat} {es es' : List (AV × AV × Nat)} {c : Nat} (h : es.map (fun x => (mapV g x.1, mapV g x.2.1, x.2.2)) = es') : BackO g (.map es c) (.map es' c) := by
  subst h
  refine ⟨rfl, fun ι κ L o ht ⟨e, q1, q2, q3⟩ => ⟨e, q1, by rw [List.length_map]; exact q2, fun i x y hx hy => ?_⟩⟩
  rw [List.getElem?_map, Option.map_eq_some_iff] at hx
  obtain ⟨a, h1, rfl⟩ := hx
  obtain ⟨h2, h3, h4⟩ := q3 i a y h1 hy
  exact ⟨h2.through ht, h3.through ht, h4⟩

/-- a small memory: objects of a great one, numbers told again by their places in 'src'; an own one may be told as one that is but read -/
structure View2 (src : Src) (S S1 : ASt) : Prop where
  next : S1.next = src.length
  live : ∀ (j : Nat) i o w, src[j]? = some (some (i, o, w)) → (w = true → o = 0) ∧ ∃ a, S.h.get i = some a ∧ a ≠ .dead
  dom : ∀ j x, S1.h.get j = some x → j < src.length
  obj : ∀ j x, S1.h.get j = some x → x ≠ .dead → ∃ i o w a, src[j]? = some (some (i, o, w)) ∧ S.h.get i = some a ∧ a ≠ .dead ∧ (x.own = true → a.own = true ∧ w = true) ∧ ∀ ι L ob, OR ι L a ob → OR (renS src ι) (L.sh o) x ob
  uniq : ∀ j j' x i o w o' w', S1.h.get j = some x → x.own = true → src[j]? = some (some (i, o, w)) → src[j']? = some (some (i, o', w')) → j' = j

/-- what is written, what is new, told back -/
def outS (g : Nat → Nat) (outs : List (Nat × AO)) (S : ASt) (n : Nat) : ASt := { h := outs.foldl (fun h p => h.set D (g p.1) p.2) S.h, next := n }

theorem outs_get {g : Nat → Nat} : ∀ (outs : List (Nat × AO)) (h : T AO) (i : Nat) (a : AO), (outs.foldl (fun h p => h.set D (g p.1) p.2) h).get i = some a →
    (∃ p, p ∈ outs ∧ g p.1 = i ∧ p.2 = a) ∨ (h.get i = some a ∧ ∀ p, p ∈ outs → g p.1 ≠ i)
  | [], h, i, a, hi => .inr ⟨hi, fun p hp => by cases hp⟩
  | p :: ps, h, i, a, hi => by
    rcases outs_get ps _ i a hi with ⟨q, h1, h2, h3⟩ | ⟨h1, h2⟩
    · exact .inl ⟨q, List.mem_cons_of_mem _ h1, h2, h3⟩
    · rw [T.get_set] at h1
      by_cases e : i = g p.1
      · simp only [e, if_true, Option.some.injEq] at h1
        exact .inl ⟨p, List.mem_cons_self, e.symm, h1⟩
      · simp only [e, if_false] at h1
        refine .inr ⟨h1, fun q hq => ?_⟩
        rcases List.mem_cons.1 hq with rfl | hq
        · exact fun h => e h.symm
        · exact h2 q hq

structure Back (src : Src) (S S1 : ASt) (outs : List (Nat × AO)) (n : Nat) (q : AV × ASt) (v : AV) : Prop where
  val : BackV (gS src S.next) q.1 v
  next : S.next + q.2.next ≤ n ∧ S.next + src.length ≤ n
  out : ∀ p, p ∈ outs → gS src S.next p.1 < n ∧ (p.1 < src.length → ∃ x, S1.h.get p.1 = some x ∧ x.own = true) ∧ (p.2 = .dead ∨ p.2.own = true ∧ ∃ a, q.2.h.get p.1 = some a ∧ BackO (gS src S.next) a p.2)
  all : ∀ j x, S1.h.get j = some x → x.own = true → ∃ p, p ∈ outs ∧ p.1 = j

theorem own_nd {x : AO} (h : x.own = true) : x ≠ .dead := by intro e; subst e; cases h

theorem Call1.frame {P : Program} {f : Nat} {args args1 : List AV} {S S1 : ASt} {Q1 : AV × ASt → Prop}
    (hrun : ∀ B w0 ι w args', (∀ i, ¬ B.rs i) → SR B w0 ι S1 w → VRs ι args1 args' → (callFunc f args').run P w = .ok (.enter f args') w ∧ CallsIn Fence.wide 0 P f args' w fun e w' => ∃ v, Q1 v ∧ Post B w0 ι v e w')
    {src : Src} (hview : View2 src S S1) (ha : ∀ ι args', VRs ι args args' → VRs (renS src ι) args1 args')
    {outs : List (Nat × AO)} {n : Nat} {v : AV} (hback : ∀ q, Q1 q → Back src S S1 outs n q v) : Call1 P f args S (v, outS (gS src S.next) outs S n) := by
  intro B w0 ι w args' hsr hv
  let own1 : Nat → Prop := fun b => ∃ j x i o w' L, S1.h.get j = some x ∧ x.own = true ∧ src[j]? = some (some (i, o, w')) ∧ ι i = some L ∧ L.b = b
  let B1 : Prot := ⟨fun k => k < w.heap.size ∧ ¬ own1 k, fun k => k < w.heap.size ∧ ¬ own1 k, fun _ => False⟩
  have hall : ∀ k, B1.all k ↔ k < w.heap.size ∧ ¬ own1 k := fun k => ⟨fun h => by rcases h with h | h <;> exact h, .inl⟩
  have hren : ∀ {j L}, renS src ι j = some L → ∃ i o w' L0, src[j]? = some (some (i, o, w')) ∧ ι i = some L0 ∧ L = L0.sh o := fun {j L} h => by
    unfold renS at h
    split at h
    · rename_i i o w' hs
      split at h
      · rename_i L0 h0
        cases h
        exact ⟨i, o, w', L0, hs, h0, rfl⟩
      · cases h
    · cases h
  have hat : ∀ {i : Nat} {a : AO}, S.h.get i = some a → a ≠ .dead → ∃ L, ι i = some L ∧ L.b < w.heap.size := fun {i a} hi hd => by
    obtain ⟨L, o, h1, h2, _⟩ := hsr.obj i a hi hd
    exact ⟨L, h1, (Array.getElem?_eq_some_iff.1 h2).1⟩
  -- no object of the great memory but the one that is handed over lies in its block
  have apart : ∀ {i : Nat} {a : AO} {L : Loc}, S.h.get i = some a → a ≠ .dead → ι i = some L → (∀ j x o w', S1.h.get j = some x → x.own = true → src[j]? ≠ some (some (i, o, w'))) → B1.all L.b := fun {i a L} hi hd hL hne => by
    obtain ⟨L', h1, h2⟩ := hat hi hd
    rw [hL] at h1; cases h1
    refine (hall _).2 ⟨h2, ?_⟩
    rintro ⟨j, x, i', o', w', L', g1, g2, g3, g4, g5⟩
    obtain ⟨i2, o2, w2, a2, k1, k2, k3, k4, k5⟩ := hview.obj j x g1 (own_nd g2)
    rw [g3] at k1; cases k1
    exact hne j x o' w' g1 g2 (((hsr.own i' a2 L' k2 (k4 g2).1 g4).2 i a L hi hd hL g5.symm) ▸ g3)
  have hB : ∀ k, B.all k → B1.all k := fun k hk => (hall k).2 ⟨hsr.base k hk, by
    rintro ⟨j, x, i', o', w', L', g1, g2, g3, g4, g5⟩
    obtain ⟨i2, o2, w2, a2, k1, k2, k3, k4, k5⟩ := hview.obj j x g1 (own_nd g2)
    rw [g3] at k1; cases k1
    exact (hsr.own i' a2 L' k2 (k4 g2).1 g4).1 (g5 ▸ hk)⟩
  have hsr1 : SR B1 w (renS src ι) S1 w := by
    refine ⟨Keeps.refl _ _, fun k hk => ((hall k).1 hk).1, fun j x hj hd => ?_, fun j x L hj ho hL => ?_, fun j L hL => ?_, fun j x hj => ?_, fun j x L hj hd ho hL => ?_, fun i hi => hi.elim, fun g cs hg => ⟨hB g (hsr.glob g cs hg).1, hsr.globw g cs hg⟩⟩
    · obtain ⟨i, o, w', a, k1, k2, k3, k4, k5⟩ := hview.obj j x hj hd
      obtain ⟨L, ob, q1, q2, q3⟩ := hsr.obj i a k2 k3
      exact ⟨L.sh o, ob, by simp only [renS, k1, q1], q2, k5 ι L ob q3⟩
    · obtain ⟨i, o, w', a, k1, k2, k3, k4, k5⟩ := hview.obj j x hj (own_nd ho)
      obtain ⟨i', o2, w2, L0, k1', hL', rfl⟩ := hren hL
      rw [k1] at k1'; cases k1'
      refine ⟨fun hk => ((hall _).1 hk).2 ⟨j, x, i, o, w', L0, hj, ho, k1, hL', rfl⟩, fun j' x' L' hj' hd' hL2 hb => ?_⟩
      obtain ⟨i2, o3, w3, a2, m1, m2, m3, m4, m5⟩ := hview.obj j' x' hj' hd'
      obtain ⟨i3, o4, w4, L3, m1', hL3, rfl⟩ := hren hL2
      rw [m1] at m1'; cases m1'
      have := (hsr.own i a L0 k2 (k4 ho).1 hL').2 i2 a2 L3 m2 m3 hL3 hb
      subst this
      exact hview.uniq j j' x _ _ _ _ _ hj ho k1 m1
    · obtain ⟨i, o, w', L0, h1, _⟩ := hren hL
      rw [hview.next]; exact (List.getElem?_eq_some_iff.1 h1).1
    · rw [hview.next]; exact hview.dom j x hj
    · obtain ⟨i, o, w', a, k1, k2, k3, k4, k5⟩ := hview.obj j x hj hd
      obtain ⟨i', o2, w2, L0, k1', hL', rfl⟩ := hren hL
      rw [k1] at k1'; cases k1'
      obtain ⟨L1, g1, g2⟩ := hat k2 k3
      rw [hL'] at g1; cases g1
      refine ⟨g2, ?_⟩
      rintro ⟨j2, x2, i2, o3, w3, L2, m1, m2, m3, m4, m5⟩
      obtain ⟨i3, o4, w4, a3, p1, p2, p3, p4, p5⟩ := hview.obj j2 x2 m1 (own_nd m2)
      rw [m3] at p1; cases p1
      have := (hsr.own i2 a3 L2 p2 (p4 m2).1 m4).2 i a L0 k2 k3 hL' m5.symm
      subst this
      have := hview.uniq j2 j x2 _ _ _ _ _ m1 m2 m3 k1
      subst this
      rw [hj] at m1; cases m1
      rw [ho] at m2; cases m2
  obtain ⟨k1, k2⟩ := hrun B1 w (renS src ι) w args' (fun _ h => h) hsr1 (ha ι args' hv)
  refine ⟨k1, k2.mono ?_⟩
  rintro e w' ⟨q, hq, x, ι1, rfl, hle, hs, hx⟩
  have hb := hback q hq
  obtain ⟨v1, T1⟩ := q
  simp only at hs hx
  have hn1 : S.next + T1.next ≤ n := hb.next.1
  let κ : Ren := fun i => if i < S.next then ι i else ι1 (i - S.next)
  have hκ : ι.le κ := fun i L h => by
    have := hsr.dom i L h
    show (if i < S.next then ι i else _) = some L
    rw [if_pos this]; exact h
  have through : Through (gS src S.next) ι1 κ := fun j L hL => by
    unfold gS
    split
    · rename_i i o hs2
      obtain ⟨h0, a, h1, h2⟩ := hview.live j i o true hs2
      obtain ⟨L', h3, _⟩ := hat h1 h2
      have h4 : renS src ι j = some (L'.sh o) := by simp only [renS, hs2, h3]
      have h5 := hle j _ h4
      rw [hL] at h5; cases h5
      rw [h0 rfl]
      exact hκ i L' h3
    · show (if S.next + j < S.next then _ else ι1 (S.next + j - S.next)) = some L
      rw [if_neg (by omega), Nat.add_sub_cancel_left]
      exact hL
  refine ⟨x, κ, rfl, hκ, ?_, hb.val ι1 κ x through hx⟩
  have hcase : ∀ i a, (outS (gS src S.next) outs S n).h.get i = some a → a ≠ .dead →
      (∃ j a1 L o, gS src S.next j = i ∧ T1.h.get j = some a1 ∧ a1 ≠ .dead ∧ a.own = true ∧ a1.own = true ∧ ι1 j = some L ∧ κ i = some L ∧ w'.heap[L.b]? = some o ∧ OR κ L a o) ∨
      (S.h.get i = some a ∧ ∃ L, ι i = some L ∧ κ i = some L ∧ B1.all L.b) := fun i a hi hd => by
    rcases outs_get outs S.h i a hi with ⟨p, p1, p2, p3⟩ | ⟨h1, h2⟩
    · subst p3
      obtain ⟨_, _, hh | ⟨g1, a1, g2, g3, g4⟩⟩ := hb.out p p1
      · exact absurd hh hd
      · have hd1 : a1 ≠ .dead := by intro e; subst e; rw [g1] at g3; cases g3
        obtain ⟨L, o, q1, q2, q3⟩ := hs.obj p.1 a1 g2 hd1
        exact .inl ⟨p.1, a1, L, o, p2, g2, hd1, g1, g3.symm.trans g1, q1, p2 ▸ through _ _ q1, q2, g4 ι1 κ L o through q3⟩
    · obtain ⟨L, q1, q2⟩ := hat h1 hd
      refine .inr ⟨h1, L, q1, hκ i L q1, apart h1 hd q1 fun j x o w' hj ho he => ?_⟩
      obtain ⟨p, p1, rfl⟩ := hb.all j x hj ho
      obtain ⟨i2, o2, w2, a2, m1, m2, m3, m4, m5⟩ := hview.obj p.1 x hj (own_nd ho)
      rw [he] at m1; cases m1
      have hw := (m4 ho).2
      subst hw
      exact h2 p p1 (by simp only [gS, he])
  refine ⟨?_, ?_, fun i a hi hd => ?_, fun i a L hi ho hL => ?_, fun i L hL => ?_, fun i a hi => ?_, fun i a L hi hd ho hL => ?_, fun i hi => ?_, hsr.glob⟩
  · exact hsr.below.trans ⟨hs.below.os, hs.below.tape, hs.below.output, hs.below.size, fun k hk => hs.below.block k (hB k hk)⟩
  · exact fun k hk => Nat.lt_of_lt_of_le (hsr.base k hk) hs.below.size
  · rcases hcase i a hi hd with ⟨j, a1, L, o, _, _, _, _, _, _, q1, q2, q3⟩ | ⟨h1, L, q1, q2, q3⟩
    · exact ⟨L, o, q1, q2, q3⟩
    · obtain ⟨L', o, m1, m2, m3⟩ := hsr.obj i a h1 hd
      rw [q1] at m1; cases m1
      exact ⟨L, o, q2, (hs.below.block _ q3).trans m2, m3.mono hκ⟩
  · have hd : a ≠ .dead := by intro e; subst e; cases ho
    rcases hcase i a hi hd with ⟨j, a1, L', o, e1, g1, g2, g3, g4, g5, g6, g7, g8⟩ | ⟨h1, L', q1, q2, q3⟩
    · rw [hL] at g6; cases g6
      obtain ⟨n1, n2⟩ := hs.own j a1 L g1 g4 g5
      refine ⟨fun hk => n1 (hB _ hk), fun i' a' L2 hi' hd' hL' hbb => ?_⟩
      rcases hcase i' a' hi' hd' with ⟨j', a1', L3, o', e1', g1', g2', g3', g4', g5', g6', g7', g8'⟩ | ⟨h1', L3, q1', q2', q3'⟩
      · rw [hL'] at g6'; cases g6'
        have := n2 j' a1' L2 g1' g2' g5' hbb
        subst this
        rw [← e1', ← e1]
      · rw [hL'] at q2'; cases q2'
        rw [hbb] at q3'
        exact absurd q3' n1
    · rw [hL] at q2; cases q2
      obtain ⟨n1, n2⟩ := hsr.own i a L h1 ho q1
      refine ⟨n1, fun i' a' L2 hi' hd' hL' hbb => ?_⟩
      rcases hcase i' a' hi' hd' with ⟨j', a1', L3, o', e1', g1', g2', g3', g4', g5', g6', g7', g8'⟩ | ⟨h1', L3, q1', q2', q3'⟩
      · rw [hL'] at g6'; cases g6'
        have := (hs.own j' a1' L2 g1' g4' g5').1
        rw [hbb] at this
        exact absurd q3 this
      · rw [hL'] at q2'; cases q2'
        exact n2 i' a' L2 h1' hd' q1' hbb
  · have hL : (if i < S.next then ι i else ι1 (i - S.next)) = some L := hL
    show i < n
    by_cases e : i < S.next
    · omega
    · rw [if_neg e] at hL
      have := hs.dom _ _ hL
      omega
  · show i < n
    rcases outs_get outs S.h i a hi with ⟨p, p1, p2, p3⟩ | ⟨h1, _⟩
    · have := (hb.out p p1).1
      omega
    · have := hsr.hdom i a h1
      omega
  · rcases hcase i a hi hd with ⟨j, a1, L', o, e1, g1, g2, g3, _⟩ | ⟨h1, L', q1, q2, q3⟩
    · rw [ho] at g3; cases g3
    · rw [hL] at q2; cases q2
      exact hsr.ro i a L h1 hd ho q1
  · obtain ⟨h1, h2⟩ := hsr.res i hi
    refine ⟨?_, ?_⟩
    · show i < n
      omega
    · show (if i < S.next then ι i else _) = none
      rw [if_pos h1]; exact h2

/-! ### Calls that but read: each argument told alone -/
inductive RoArg (S : ASt) (j : Nat) : AV → AV → AO → Prop
  | pure {v : AV} : refsV 0 v → RoArg S j v v .dead
  | empty {i o : Nat} {c : Cap} : RoArg S j (.slice (some (i, o)) 0 c) .slice0 .dead
  | row {i o n : Nat} {c : Cap} {cs cs' : List AV} {rw : Bool} : S.h.get i = some (.cells cs rw) → cs' ≠ [] → takeL cs o cs'.length = some cs' → (∀ c, c ∈ cs' → refsV 0 c) →
      RoArg S j (.slice (some (i, o)) n c) (.slice (some (j, 0)) n (.atl n)) (.cells cs' false)
  | agg {pre post : List AV} {v v1 : AV} {o : AO} : RoArg S j v v1 o → v.isCell = true → v1.isCell = true → (∀ c, c ∈ pre → refsV 0 c) → (∀ c, c ∈ post → refsV 0 c) →
      RoArg S j (.agg (pre ++ v :: post)) (.agg (pre ++ v1 :: post)) o

def firstSl : List AV → Option (Nat × Nat)
  | [] => none
  | .slice (some p) _ _ :: _ => some p
  | _ :: t => firstSl t
def slOf : AV → Option (Nat × Nat)
  | .slice (some p) _ _ => some p
  | .agg cs => firstSl cs
  | _ => none

theorem firstSl_pre {v : AV} {post : List AV} {p : Nat × Nat} {n : Nat} {c : Cap} (hv : v = .slice (some p) n c) : ∀ {pre : List AV}, (∀ c, c ∈ pre → refsV 0 c) → firstSl (pre ++ v :: post) = some p
  | [], _ => by subst hv; rfl
  | x :: xs, h => by
    have ih := firstSl_pre (v := v) (post := post) hv (pre := xs) fun c hc => h c (List.mem_cons_of_mem _ hc)
    have hx := h x List.mem_cons_self
    show firstSl (x :: (xs ++ v :: post)) = _
    cases x with
    | slice q _ _ => cases q with
      | none => exact ih
      | some q => obtain ⟨i, o⟩ := q; simp [refsV] at hx
    | _ => exact ih

/-- what such an argument's row is -/
theorem RoArg.obj {S : ASt} {j : Nat} {v v1 : AV} {ob : AO} (h : RoArg S j v v1 ob) (hd : ob ≠ .dead) : (∃ i o n c, v = .slice (some (i, o)) n c ∨ ∃ pre post, v = .agg (pre ++ .slice (some (i, o)) n c :: post)) ∧
    ∃ i o cs cs' rw, slOf v = some (i, o) ∧ ob = .cells cs' false ∧ S.h.get i = some (.cells cs rw) ∧ cs' ≠ [] ∧ takeL cs o cs'.length = some cs' ∧ ∀ c, c ∈ cs' → refsV 0 c := by
  induction h with
  | pure _ => exact absurd rfl hd
  | empty => exact absurd rfl hd
  | @row i o n c cs cs' rw g1 g0 g2 g3 => exact ⟨⟨i, o, n, c, .inl rfl⟩, i, o, cs, cs', rw, rfl, rfl, g1, g0, g2, g3⟩
  | @agg pre post v v1 o h hv0 hc h1 h2 ih =>
    obtain ⟨⟨i, o, n, c, hv⟩, i', o', cs, cs', rw, g1, g2, g3, g4, g5, g6⟩ := ih hd
    rcases hv with rfl | ⟨p, q, rfl⟩
    · simp only [slOf, Option.some.injEq, Prod.mk.injEq] at g1
      obtain ⟨rfl, rfl⟩ := g1
      exact ⟨⟨i, o, n, c, .inr ⟨pre, post, rfl⟩⟩, i, o, cs, cs', rw, firstSl_pre rfl h1, g2, g3, g4, g5, g6⟩
    · cases hv0

theorem RoArg.val {S : ASt} {j : Nat} {v v1 : AV} {ob : AO} (h : RoArg S j v v1 ob) : ∀ {ι κ : Ren} {x : Value}, VR ι v x → (ob ≠ .dead → ∀ i o L, slOf v = some (i, o) → ι i = some L → κ j = some ⟨L.b, L.p + o, L.tot⟩) → VR κ v1 x := by
  induction h with
  | pure hp => exact fun hv _ => hv.noRef hp
  | empty =>
    intro ι κ x hv _
    cases hv with
    | slice _ _ _ c' L _ hL hc hl => exact .slice0 _ _
  | @row i o n c cs cs' rw g1 g0 g2 g3 =>
    intro ι κ x hv hk
    cases hv with
    | slice _ _ _ c' L _ hL hc hl =>
      have := VR.slice (ι := κ) j 0 n c' ⟨L.b, L.p + o, L.tot⟩ (.atl n) (hk (by simp) i o L rfl hL) hl hl
      simpa using this
  | @agg pre post v v1 o h hv0 hc h1 h2 ih =>
    intro ι κ x hv hk
    cases hv with
    | agg _ cs' hs hcell hat =>
      have pur : ∀ {c : AV}, c ∈ pre ++ post → refsV 0 c := fun {c} hc => (List.mem_append.1 hc).elim (h1 c) (h2 c)
      refine .agg _ cs' (by simpa using hs) (fun c hc' => ?_) fun k y y' hy hy' => ?_
      · rcases List.mem_append.1 hc' with hm | hm
        · exact hcell c (List.mem_append_left _ hm)
        · rcases List.mem_cons.1 hm with rfl | hm
          · exact hc
          · exact hcell c (List.mem_append_right _ (List.mem_cons_of_mem _ hm))
      · by_cases e1 : k < pre.length
        · rw [List.getElem?_append_left e1] at hy
          have := hat k y y' (by rw [List.getElem?_append_left e1]; exact hy) hy'
          exact this.noRef (h1 y (List.mem_of_getElem? hy))
        · rw [List.getElem?_append_right (by omega)] at hy
          by_cases e2 : k = pre.length
          · subst e2
            simp at hy; subst hy
            have hv2 := hat pre.length v y' (by rw [List.getElem?_append_right (by omega)]; simp) hy'
            refine ih hv2 fun hd i o L hs hL => hk hd i o L ?_ hL
            cases h with
            | pure hp =>
              cases v with
              | slice q _ _ => cases q with
                | none => cases hs
                | some q => obtain ⟨a, b⟩ := q; simp [refsV] at hp
              | agg _ => cases hv0
              | _ => cases hs
            | empty => simp only [slOf, Option.some.injEq] at hs; rw [← hs]; exact firstSl_pre rfl h1
            | row _ _ _ _ => simp only [slOf, Option.some.injEq] at hs; rw [← hs]; exact firstSl_pre rfl h1
            | agg _ _ _ _ _ => cases hc
          · obtain ⟨m, hm⟩ : ∃ m, k - pre.length = m + 1 := ⟨k - pre.length - 1, by omega⟩
            rw [hm, List.getElem?_cons_succ] at hy
            have := hat k y y' (by rw [List.getElem?_append_right (by omega), hm, List.getElem?_cons_succ]; exact hy) hy'
            exact this.noRef (h2 y (List.mem_of_getElem? hy))

/-- the arguments, one by one: from number 'j' on -/
def RoArgs (S : ASt) : Nat → List AV → List AV → List AO → Prop
  | _, [], [], [] => True
  | j, v :: vs, v1 :: vs1, o :: os => RoArg S j v v1 o ∧ RoArgs S (j + 1) vs vs1 os
  | _, _, _, _ => False

theorem RoArgs.at_ {S : ASt} : ∀ {vs vs1 : List AV} {os : List AO} {j : Nat}, RoArgs S j vs vs1 os → vs1.length = vs.length ∧ os.length = vs.length ∧
    ∀ (k : Nat) v v1 o, vs[k]? = some v → vs1[k]? = some v1 → os[k]? = some o → RoArg S (j + k) v v1 o
  | [], [], [], _, _ => ⟨rfl, rfl, fun k v v1 o h => by simp at h⟩
  | v :: vs, v1 :: vs1, o :: os, j, h => by
    obtain ⟨h1, h2, h3⟩ := RoArgs.at_ h.2
    refine ⟨by simp [h1], by simp [h2], fun k a b c ha hb hc => ?_⟩
    cases k with
    | zero => simp at ha hb hc; subst ha; subst hb; subst hc; exact h.1
    | succ k =>
      have := h3 k a b c (by simpa using ha) (by simpa using hb) (by simpa using hc)
      rw [show j + (k + 1) = j + 1 + k by omega]; exact this
  | [], [], _ :: _, _, h => h.elim
  | [], _ :: _, _, _, h => h.elim
  | _ :: _, [], _, _, h => h.elim
  | _ :: _, _ :: _, [], _, h => h.elim

/-- where a row lies -/
def roRen (vs : List AV) (ι : Ren) : Ren := fun j => match vs[j]? with
  | some v => (match slOf v with | some p => (match ι p.1 with | some L => some ⟨L.b, L.p + p.2, L.tot⟩ | none => none) | none => none)
  | none => none

def srcOf (v : AV) : Option (Nat × Nat × Bool) := match slOf v with | some p => some (p.1, p.2, false) | none => none

theorem RoArg.src {S : ASt} {j : Nat} {v v1 : AV} {ob : AO} (h : RoArg S j v v1 ob) {i o : Nat} {w : Bool} (hs : srcOf v = some (i, o, w)) : w = false ∧ slOf v = some (i, o) := by
  unfold srcOf at hs
  split at hs
  · rename_i p hp
    simp only [Option.some.injEq, Prod.mk.injEq] at hs
    obtain ⟨rfl, rfl, rfl⟩ := hs
    exact ⟨rfl, hp⟩
  · cases hs

/-- a row that is told alone -/
theorem row_sub {ι κ : Ren} {L : Loc} {o : Nat} {cs cs' : List AV} {rw : Bool} {ob : Obj} (h : OR ι L (.cells cs rw) ob) (h0 : cs' ≠ []) (ht : takeL cs o cs'.length = some cs') (hp : ∀ c, c ∈ cs' → refsV 0 c) : OR κ (L.sh o) (.cells cs' false) ob := by
  have hget : ∀ {k : Nat} {y : AV}, cs'[k]? = some y → cs[o + k]? = some y := fun {k y} hy => by
    rw [← (takeL_ok ht).2 k (List.getElem?_eq_some_iff.1 hy).1]; exact hy
  obtain ⟨c, e, lo, hi, q1, q2, q3, q4, q5, q6⟩ := h
  refine ⟨c, e, lo, hi, q1, q2, ?_, fun v hv => ?_, fun k y y' hy hy' => ?_, fun h => by cases h⟩
  · have h1 : 0 < cs'.length := List.length_pos_iff.2 h0
    have := hget (k := cs'.length - 1) (y := cs'[cs'.length - 1]) (List.getElem?_eq_getElem (by omega))
    have := (List.getElem?_eq_some_iff.1 this).1
    show L.p + o + cs'.length ≤ c.size
    omega
  · obtain ⟨m, hm, em⟩ := List.getElem_of_mem hv
    exact q4 v (List.mem_of_getElem? (hget (k := m) (by simp [hm, em])))
  · have := q5 (o + k) y y' (hget hy) (by rw [← Nat.add_assoc]; exact hy')
    exact this.noRef (hp y (List.mem_of_getElem? hy))

/-- a small memory of what such arguments bear; what else stands in front of it, by 'pre' -/
theorem RoArg.view {S : ASt} {j : Nat} {v v1 : AV} {ob : AO} (h : RoArg S j v v1 ob) (hd : ob ≠ .dead) : ∃ i o a, srcOf v = some (i, o, false) ∧ S.h.get i = some a ∧ a ≠ .dead ∧ ob.own = false ∧ ∀ ι κ L x, OR ι L a x → OR κ (L.sh o) ob x := by
  obtain ⟨_, i, o, cs, cs', rw, h1, rfl, h2, h3, h4, h5⟩ := h.obj hd
  exact ⟨i, o, _, by simp only [srcOf, h1], h2, by simp, rfl, fun ι κ L x hx => row_sub hx h3 h4 h5⟩

theorem AtMem.of_tm {P : Program} {E : Env} (hE : E.Ok P) {sum : CallT} (hs : CallsOK P sum) {fls : List (Nat × Fl)} {rf : Fl} {n f : Nat} {args : List AV} {st : ASt} {v : AV} {y : An}
    (h : ((TM E sum fls rf n).call f args st).allY (fun r => r.1 = v) y) : AtMem P f args st v := by
  obtain ⟨r, h1, h2⟩ := TM_call (Tr.allY_all _ y h)
  intro B w0 ι w args' _ hsr hv
  obtain ⟨k1, k2⟩ := (M_ok hE (drawA_ok hE) hs n).call B w0 f args st r h1 ι w args' hsr hv
  exact ⟨k1, k2.mono fun e w' hp => ⟨r, h2, hp⟩⟩

/-- a run, as a contract at its memory -/
theorem run_of_tm {P : Program} {E : Env} (hE : E.Ok P) {sum : CallT} (hs : CallsOK P sum) {fls : List (Nat × Fl)} {rf : Fl} {n f : Nat} {args : List AV} {st : ASt} {Q1 : AV × ASt → Prop} {y : An} {ko : List Nat}
    (h : ((TM E sum fls rf n).call f args st).allY (fun r => Q1 (r.1, canS ko r.2)) y) (B : Prot) (w0 : World) (ι : Ren) (w : World) (args' : Array Value) (hsr : SR B w0 ι st w) (hv : VRs ι args args') :
    (callFunc f args').run P w = .ok (.enter f args') w ∧ CallsIn Fence.wide 0 P f args' w fun e w' => ∃ v, Q1 v ∧ Post B w0 ι v e w' := by
  obtain ⟨r, h1, h2⟩ := TM_call (Tr.allY_all _ y h)
  obtain ⟨k1, k2⟩ := (M_ok hE (drawA_ok hE) hs n).call B w0 f args st r h1 ι w args' hsr hv
  refine ⟨k1, k2.mono fun e w' hp => ⟨_, h2, ?_⟩⟩
  obtain ⟨x, ι', rfl, hle, g1, g2⟩ := hp
  exact ⟨x, ι', rfl, hle, (can_ok [] ko { m := .e, n := 0, defs := [] } r.2 g1 (a := { tmps := #[], defers := [] }) ⟨⟨rfl, fun t => by rw [T.get_e]; exact .undef _⟩, trivial⟩).1, g2⟩

/-- one argument that is but read; what is new told back -/
theorem Call1.frame1 {P : Program} {f : Nat} {v v1 : AV} {o : AO} {S : ASt} {Q1 : AV × ASt → Prop} (r : RoArg S 0 v v1 o)
    (hrun : ∀ B w0 ι w args', (∀ i, ¬ B.rs i) → SR B w0 ι (mkSt [(0, o)] 1) w → VRs ι [v1] args' → (callFunc f args').run P w = .ok (.enter f args') w ∧ CallsIn Fence.wide 0 P f args' w fun e w' => ∃ v, Q1 v ∧ Post B w0 ι v e w')
    {outs : List (Nat × AO)} {n : Nat} {val : AV} (hn : S.next < n) (hback : ∀ q, Q1 q → BackV (fun j => S.next + j) q.1 val ∧ S.next + q.2.next ≤ n ∧
      ∀ p, p ∈ outs → 1 ≤ p.1 ∧ S.next + p.1 < n ∧ (p.2 = .dead ∨ p.2.own = true ∧ ∃ a, q.2.h.get p.1 = some a ∧ BackO (fun j => S.next + j) a p.2)) :
    Call1 P f [v] S (val, outS (fun j => S.next + j) outs S n) := by
  have hg : ∀ j, (mkSt [(0, o)] 1).h.get j = if j = 0 then some o else none := fun j => by
    show ((T.e : T AO).set D 0 _).get j = _
    rw [T.get_set, T.get_e]
  have hg2 : ∀ {j x}, (mkSt [(0, o)] 1).h.get j = some x → j = 0 ∧ x = o := fun {j x} hj => by
    rw [hg] at hj
    by_cases e : j = 0
    · simp [e] at hj; exact ⟨e, hj.symm⟩
    · simp [e] at hj
  obtain ⟨src, hlen, hsrc, hlive, hvr, hob⟩ : ∃ src : Src, src.length = 1 ∧ (∀ (j : Nat) i q w, src[j]? = some (some (i, q, w)) → w = false) ∧
      (∀ (j : Nat) i q w, src[j]? = some (some (i, q, w)) → ∃ a, S.h.get i = some a ∧ a ≠ .dead) ∧ (∀ ι x, VR ι v x → VR (renS src ι) v1 x) ∧
      (o ≠ .dead → o.own = false ∧ ∃ i q a, src[0]? = some (some (i, q, false)) ∧ S.h.get i = some a ∧ a ≠ .dead ∧ ∀ ι κ L x, OR ι L a x → OR κ (L.sh q) o x) := by
    by_cases hd : o = .dead
    · refine ⟨[none], rfl, fun j i q w h => ?_, fun j i q w h => ?_, fun ι x hx => ?_, fun h => absurd hd h⟩
      · cases j <;> simp at h
      · cases j <;> simp at h
      · exact r.val hx fun h => absurd hd h
    · obtain ⟨i, q, a, h1, h2, h3, h4, h5⟩ := r.view hd
      refine ⟨[srcOf v], rfl, fun j i' q' w h => ?_, fun j i' q' w h => ?_, fun ι x hx => ?_, fun _ => ⟨h4, i, q, a, by simp [h1], h2, h3, h5⟩⟩
      · cases j with
        | zero => simp [h1] at h; exact h.2.2
        | succ j => simp at h
      · cases j with
        | zero => simp [h1] at h; obtain ⟨rfl, _⟩ := h; exact ⟨a, h2, h3⟩
        | succ j => simp at h
      · refine r.val hx fun _ i' q' L hs hL => ?_
        have h6 : srcOf v = some (i', q', false) := by simp only [srcOf, hs]
        simp [renS, h6, hL, Loc.sh]
  have hgs : gS src S.next = fun j => S.next + j := by
    funext j
    unfold gS
    split
    · rename_i i q hs
      have := hsrc j i q true hs
      cases this
    · rfl
  rw [← hgs]
  refine Call1.frame (S1 := mkSt [(0, o)] 1) (args1 := [v1]) hrun (src := src) ⟨hlen.symm, fun j i q w h => ⟨fun hw => (by rw [hsrc j i q w h] at hw; cases hw), hlive j i q w h⟩, fun j x hj => (by rw [(hg2 hj).1, hlen]; exact Nat.zero_lt_one), fun j x hj hd => ?_, fun j j' x i q w q' w' hj ho => ?_⟩ (fun ι args' hv => ?_) (fun q hq => ?_)
  · obtain ⟨rfl, rfl⟩ := hg2 hj
    obtain ⟨h4, i, q, a, h1, h2, h3, h5⟩ := hob hd
    exact ⟨i, q, false, a, h1, h2, h3, fun hx => (by rw [h4] at hx; cases hx), fun ι L ob hx => h5 ι _ L ob hx⟩
  · obtain ⟨rfl, rfl⟩ := hg2 hj
    have := (hob (own_nd ho)).1
    rw [ho] at this; cases this
  · refine ⟨hv.size, fun k y y' hy hy' => ?_⟩
    cases k with
    | zero => simp at hy; subst hy; exact hvr ι y' (hv.at_ 0 v y' rfl hy')
    | succ k => simp at hy
  · obtain ⟨b1, b2, b3⟩ := hback q hq
    refine ⟨by rw [hgs]; exact b1, ⟨b2, by omega⟩, fun p hp => ?_, fun j x hj ho => ?_⟩
    · obtain ⟨c1, c2, c3⟩ := b3 p hp
      rw [hgs]
      exact ⟨c2, fun h => absurd h (by omega), c3⟩
    · obtain ⟨rfl, rfl⟩ := hg2 hj
      have := (hob (own_nd ho)).1
      rw [ho] at this; cases this

theorem Call1.ro {P : Program} {f : Nat} {args args1 : List AV} {S S1 : ASt} {v : AV} (hrun : AtMem P f args1 S1 v) (hp : refsV 0 v) {os : List AO} (ha : RoArgs S 0 args args1 os)
    (hn : S1.next = args.length) (ho : ∀ j x, S1.h.get j = some x → os[j]? = some x) : Call1 P f args S (v, S) := by
  intro B w0 ι w args' hsr hargs
  obtain ⟨l1, l2, hat⟩ := ha.at_
  let B1 : Prot := ⟨fun k => k < w.heap.size, fun k => k < w.heap.size, fun _ => False⟩
  have hobj : ∀ {j x}, S1.h.get j = some x → x ≠ .dead → ∃ i o cs rw cs' L e lo hi arr, x = .cells cs' false ∧ ι i = some L ∧ roRen args ι j = some ⟨L.b, L.p + o, L.tot⟩ ∧
      w.heap[L.b]? = some (.cells arr e (lo, hi)) ∧ arr.size = L.tot ∧ S.h.get i = some (.cells cs rw) ∧ (cs' ≠ [] ∧ takeL cs o cs'.length = some cs') ∧ (∀ v, v ∈ cs → v.isCell = true) ∧ L.p + cs.length ≤ arr.size ∧
      (∀ (k : Nat) v v', cs[k]? = some v → arr[L.p + k]? = some v' → VR ι v v') ∧ (∀ c, c ∈ cs' → refsV 0 c) := fun {j x} hj hd => by
    have hoj := ho j x hj
    have hj2 : j < os.length := (List.getElem?_eq_some_iff.1 hoj).1
    have a1 : args[j]? = some args[j] := List.getElem?_eq_getElem (by omega)
    have a2 : args1[j]? = some args1[j] := List.getElem?_eq_getElem (by omega)
    have h := hat j _ _ _ a1 a2 hoj
    rw [Nat.zero_add] at h
    generalize args[j] = va at a1 h
    generalize args1[j] = vb at a2 h
    obtain ⟨_, i, o, cs, cs', rw, g0, g1, g2, g3, g4, g5⟩ := h.obj hd
    obtain ⟨L, ob, q1, q2, arr, e, lo, hi, q3, q4, q5, q6, q7, q8⟩ := hsr.obj i _ g2 (by simp)
    subst q3
    exact ⟨i, o, cs, rw, cs', L, e, lo, hi, arr, g1, q1, by simp only [roRen, a1, g0, q1], q2, q4, g2, ⟨g3, g4⟩, q6, q5, q7, g5⟩
  have hget : ∀ {cs cs' : List AV} {o k : Nat} {y : AV}, takeL cs o cs'.length = some cs' → cs'[k]? = some y → cs[o + k]? = some y := fun {cs cs' o k y} h hy => by
    rw [← (takeL_ok h).2 k (List.getElem?_eq_some_iff.1 hy).1]; exact hy
  have htake : ∀ {cs cs' : List AV} {o : Nat}, cs' ≠ [] → takeL cs o cs'.length = some cs' → o + cs'.length ≤ cs.length := fun {cs cs' o} e h => by
    have h0 : 0 < cs'.length := List.length_pos_iff.2 e
    have := hget h (k := cs'.length - 1) (y := cs'[cs'.length - 1]) (List.getElem?_eq_getElem (by omega))
    have := (List.getElem?_eq_some_iff.1 this).1
    omega
  have hsr1 : SR B1 w (roRen args ι) S1 w := by
    refine ⟨Keeps.refl _ _, ?_, fun j x hj hd => ?_, fun j x L hj ho' hL => ?_, fun j L hL => ?_, fun j x hj => ?_, fun j x L hj hd ho' hL => ?_, fun i hi => hi.elim, fun g cs hg => ⟨.inr (hsr.globw g cs hg).lt, hsr.globw g cs hg⟩⟩
    · rintro k (hk | hk) <;> exact hk
    · obtain ⟨i, o, cs, rw, cs', L, e, lo, hi, arr, rfl, k3, k4, k5, k6, k7, k8, k9, k10, k11, k12⟩ := hobj hj hd
      refine ⟨_, _, k4, k5, arr, e, lo, hi, rfl, k6, ?_, fun y hy => ?_, fun k y y' hy hy' => ?_, fun h => by cases h⟩
      · show L.p + o + cs'.length ≤ arr.size
        have := htake k8.1 k8.2
        omega
      · obtain ⟨m, hm, em⟩ := List.getElem_of_mem hy
        have := hget k8.2 (k := m) (y := y) (by simp [hm, em])
        exact k9 y (List.mem_of_getElem? this)
      · have h2 := hget k8.2 hy
        have := k11 (o + k) y y' h2 (by rw [← Nat.add_assoc]; exact hy')
        exact this.noRef (k12 y (List.mem_of_getElem? hy))
    · by_cases hd : x = .dead
      · subst hd; cases ho'
      · obtain ⟨i, o, cs, rw, cs', L', e, lo, hi, arr, rfl, _⟩ := hobj hj hd
        cases ho'
    · unfold roRen at hL
      rw [hn]
      split at hL
      · rename_i h; exact (List.getElem?_eq_some_iff.1 h).1
      · cases hL
    · have := (List.getElem?_eq_some_iff.1 (ho j x hj)).1
      rw [hn]; omega
    · obtain ⟨i, o, cs, rw, cs', L', e, lo, hi, arr, rfl, k3, k4, k5, _⟩ := hobj hj hd
      rw [k4] at hL; cases hL
      exact (Array.getElem?_eq_some_iff.1 k5).1
  have hv1 : VRs (roRen args ι) args1 args' := by
    refine ⟨l1.trans hargs.size, fun k y y' hy hy' => ?_⟩
    have hk : k < args.length := by rw [← l1]; exact (List.getElem?_eq_some_iff.1 hy).1
    have a1 : args[k]? = some args[k] := List.getElem?_eq_getElem hk
    have a3 : os[k]? = some os[k] := List.getElem?_eq_getElem (by omega)
    have h := hat k _ _ _ a1 hy a3
    rw [Nat.zero_add] at h
    exact h.val (hargs.at_ k _ y' a1 hy') fun _ i o L hs hL => by simp only [roRen, a1, hs, hL]
  obtain ⟨k1, k2⟩ := hrun B1 w (roRen args ι) w args' (fun _ h => h) hsr1 hv1
  refine ⟨k1, k2.mono ?_⟩
  rintro e w' ⟨r, rfl, x, ι', rfl, _, h9, h10⟩
  exact ⟨x, ι, rfl, ι.le_refl, hsr.later ⟨h9.below.os, h9.below.tape, h9.below.output, h9.below.size, fun k hk => h9.below.block k (.inl hk)⟩, h10.noRef hp⟩
end
end Go.Ax
end

section
namespace Go.Ax
set_option linter.unusedVariables false
noncomputable section
open Go.RowKit

/-! ### Rows of bytes -/
def cellU (n : Nat) : AV := .int .u8 (.ofNat n)

theorem refU (l : List Nat) : ∀ c, c ∈ l.map cellU → refsV 0 c := fun c hc => by obtain ⟨x, _, rfl⟩ := List.mem_map.1 hc; simp [cellU, refsV]

theorem takeU {l : List Nat} : takeL (l.map cellU) 0 l.length = some (l.map cellU) := by
  have : (l.map cellU).take l.length = l.map cellU := List.take_of_length_le (by simp)
  unfold takeL
  simp [this]

/-- a slice of bytes that came in -/
inductive ArgB (i : Nat) : AV → AO → List Nat → Prop
  | nil : ArgB i (.slice none 0 (.known 0)) .dead []
  | zero : ArgB i .slice0 .dead []
  | row {l} : l ≠ [] → ArgB i (.slice (some (i, 0)) l.length (.atl l.length)) (.cells (l.map cellU) false) l

theorem ArgB.sl {E : Env} {t i : Nat} {v : AV} {o : AO} {l : List Nat} (h : ArgB i v o l) (hT : sliceT E t = some 1) : SlArg E t 1 i l.length v o (l.map cellU) := by
  cases h with
  | nil => exact SlArg.none hT
  | zero => exact SlArg.zero hT
  | row _ => exact SlArg.row hT

/-- a slice of bytes in a memory -/
inductive SlB (S : ASt) : AV → List Nat → Prop
  | nil : SlB S (.slice none 0 (.known 0)) []
  | zero : SlB S .slice0 []
  | row {i o n c cs rw l} : S.h.get i = some (.cells cs rw) → takeL cs o n = some (l.map cellU) → SlB S (.slice (some (i, o)) n c) l

theorem SlB.ro {S : ASt} {v : AV} {l : List Nat} (h : SlB S v l) (j : Nat) : ∃ v1 o, RoArg S j v v1 o ∧ ArgB j v1 o l := by
  cases h with
  | nil => exact ⟨_, _, .pure (by simp [refsV]), .nil⟩
  | zero => exact ⟨_, _, .pure (by simp [refsV]), .zero⟩
  | @row i o n c cs rw l h1 h2 =>
    have hn := (takeL_ok h2).1
    simp only [List.length_map] at hn
    subst hn
    by_cases e : l = []
    · subst e
      exact ⟨_, _, .empty, .zero⟩
    · exact ⟨_, _, .row h1 (cs' := l.map cellU) (by simpa using e) (by rw [List.length_map]; exact h2) (refU l), .row e⟩

theorem ArgB.toSl {i : Nat} {v : AV} {o : AO} {l : List Nat} (h : ArgB i v o l) {S : ASt} (hg : S.h.get i = some o) : SlB S v l := by
  cases h with
  | nil => exact .nil
  | zero => exact .zero
  | row _ =>
    refine .row hg ?_
    exact takeU

/-- the k-th one is loaded -/
theorem SlArg.ld {E : Env} {t u i : Nat} {v : AV} {o : AO} {l : List Nat} {k x : Nat} {S : ASt} (h : SlArg E t 1 i l.length v o (l.map cellU)) (hu : cellT E u = true) (hg : S.h.get i = some o) (hk : l[k]? = some x) :
    aLoad E u (.ptr (some (i, 0 + k * 1))) S = some (cellU x, S) := by
  have hlt : k < l.length := (List.getElem?_eq_some_iff.1 hk).1
  rw [h.obj (by omega)] at hg
  refine load_at hu hg ?_
  rw [Nat.zero_add, Nat.mul_one, List.getElem?_map, hk]; rfl

theorem cellU_inj : ∀ {a b : List Nat}, a.map cellU = b.map cellU → a = b
  | [], [], _ => rfl
  | [], _ :: _, h => by simp at h
  | _ :: _, [], h => by simp at h
  | x :: a, y :: b, h => by
    simp only [List.map_cons, List.cons.injEq, cellU, AV.int.injEq, true_and] at h
    have h1 : x = y := Int.ofNat_inj.1 h.1
    rw [h1, cellU_inj h.2]
theorem SlB.inj {S : ASt} {v : AV} {a b : List Nat} (h : SlB S v a) (h' : SlB S v b) : a = b := by
  cases h with
  | nil => cases h'; rfl
  | zero => cases h'; rfl
  | row h1 h2 =>
    cases h' with
    | row h3 h4 =>
      rw [h1] at h3
      cases h3
      rw [h2] at h4
      exact cellU_inj (Option.some.inj h4)

/-! ### slices.Equal as a summary -/
open Classical in
def eqC (f : Nat) : CallT := fun g args st => bif Nat.beq f g then (match args with
  | [v, w] => if h : ∃ a b, SlB st v a ∧ SlB st w b ∧ a.length < 9223372036854775808 then some (.bool (decide (h.choose = h.choose_spec.choose)), st) else none
  | _ => none) else none
theorem eqC_ok {P : Program} {f : Nat} (h : ∀ {S : ASt} {v w : AV} {a b : List Nat}, SlB S v a → SlB S w b → a.length < 9223372036854775808 → Call1 P f [v, w] S (.bool (decide (a = b)), S)) : CallsOK P (eqC f) := by
  intro B w0 g args st r hr ι w args' hsr hv
  unfold eqC at hr
  cases hf : Nat.beq f g
  · rw [hf] at hr; cases hr
  rw [hf, cond_true] at hr
  have := nbeq hf
  subst this
  split at hr
  · split at hr
    · rename_i hx
      simp only [Option.some.injEq] at hr
      subst hr
      obtain ⟨h1, h2, h3⟩ := hx.choose_spec.choose_spec
      exact h h1 h2 h3 B w0 ι w args' hsr hv
    · cases hr
  · cases hr
theorem eqC_at {f : Nat} {st : ASt} {v w : AV} {a b : List Nat} (h1 : SlB st v a) (h2 : SlB st w b) (h3 : a.length < 9223372036854775808) : eqC f f [v, w] st = some (.bool (decide (a = b)), st) := by
  have hx : ∃ a b, SlB st v a ∧ SlB st w b ∧ a.length < 9223372036854775808 := ⟨a, b, h1, h2, h3⟩
  obtain ⟨g1, g2, g3⟩ := hx.choose_spec.choose_spec
  have e1 := g1.inj h1
  have e2 := g2.inj h2
  have e3 : decide (hx.choose = hx.choose_spec.choose) = decide (a = b) := decide_eq_decide.2 ⟨fun h => e1.symm.trans (h.trans e2), fun h => e1.trans (h.trans e2.symm)⟩
  unfold eqC
  simp only [Nat.beq_refl, cond_true, dif_pos hx, e3]

/-- several summaries, of the functions that are listed -/
theorem onlyC_at {fs : List Nat} {q : CallT} {f : Nat} {args : List AV} {st : ASt} {r : AV × ASt} (hm : memN f fs = true) (h : q f args st = some r) : onlyC fs q f args st = some r := by
  unfold onlyC
  rw [hm, cond_true, h]
theorem orC_l {q p : CallT} {f : Nat} {args : List AV} {st : ASt} {r : AV × ASt} (h : q f args st = some r) : orC q p f args st = some r := by
  unfold orC
  rw [h]
theorem orC_r {q p : CallT} {f : Nat} {args : List AV} {st : ASt} {r : AV × ASt} (h0 : q f args st = none) (h : p f args st = some r) : orC q p f args st = some r := by
  unfold orC
  rw [h0, h]
theorem eqF_self (x : Int) : eqF x x = true := by rw [eqF_eq]; simp
end
end Go.Ax
end

section
open Go Go.Ax Go.Proofs.Ytlnohbilfogheaa
namespace Go.Proofs.Ytlnohbilfogheaa.eqb
set_option linter.unusedVariables false
noncomputable def fns : List (Nat × Func) := [(65, Try.f65)]
noncomputable def E : Env := envEx Try.prog (List.range 190) fns []
def fl0 : Fl := ⟨[], [], [], []⟩
def nI (n : Nat) : AV := .int .i64 (.ofNat n)
noncomputable def c65 : Code := Option.getD Try.f65.body .skip
noncomputable def F0 (v w : AV) : AFr := { m := putArgs [v, w] 0 .e, n := 26, defs := [] }
noncomputable def S2 (o o1 : AO) : ASt := mkSt [(0, o), (1, o1)] 2
noncomputable def tP (v w : AV) (o o1 : AO) (n m : Nat) : Tr (Exit × AFr × ASt) := (TM E noSum [] fl0 40).ex ⟨[7, 9], [], [10], []⟩ none (preC 1 c65) (F0 v w) (S2 o o1)
noncomputable def frK (v w : AV) (n k : Nat) : AFr := xFr [(0, v), (1, w), (12, nI n), (13, nI k)] 26
noncomputable def tI (v w : AV) (o o1 : AO) (n : Nat) : Tr (Exit × AFr × ASt) := (TM E noSum [] fl0 40).ex ⟨[12], [], [], []⟩ none (seqL (seqL (dropC 1 c65))) (xFr [(0, v), (1, w)] 26) (S2 o o1)
noncomputable def L : Code := lopB (blkB (seqR (seqL (dropC 1 c65))))
noncomputable def tR (v w : AV) (o o1 : AO) (n k : Nat) (p q x y : AV) (b : Bool) : Tr (Exit × AFr × ASt) := (TM E noSum [] fl0 40).ex ⟨[18, 19, 22, 23, 24], [], [14, 24], []⟩ none L (frK v w n k) (S2 o o1)
noncomputable def tE (v w : AV) (o o1 : AO) (n k : Nat) : Tr (Exit × AFr × ASt) := (TM E noSum [] fl0 40).ex fl0 none (dropC 2 c65) (frK v w n k) (S2 o o1)
noncomputable def vcP_s0 (v : AV) (w : AV) (o : AO) (o1 : AO) (n : Nat) (m : Nat) : ASt := mkSt [(0, o), (1, o1)] 2
theorem vcP (v : AV) (w : AV) (o : AO) (o1 : AO) (n : Nat) (m : Nat) (Q : Exit × AFr × ASt → Prop) (Q2 : Exit × Option AV → Prop) :
  (aBuiltinM E Builtin.len [25] [v] (vcP_s0 v w o o1 n m) = some (AV.int IntKind.i64 (Int.ofNat n), vcP_s0 v w o o1 n m) ∧ aBuiltinM E Builtin.len [25] [w] (vcP_s0 v w o o1 n m) = some (AV.int IntKind.i64 (Int.ofNat m), vcP_s0 v w o o1 n m) ∧ ifB (!eqF (Int.ofNat n) (Int.ofNat m)) (Q2 (Exit.ret, some (AV.bool false))) (Q (Exit.normal, xFr [(0, v), (1, w)] 26, vcP_s0 v w o o1 n m))) =
  (tP v w o o1 n m).allY (mixQ E Try.f65 [0, 1] [0, 1] Q Q2) (An.v (AV.int IntKind.i64 (Int.ofNat n), vcP_s0 v w o o1 n m) (An.v (AV.int IntKind.i64 (Int.ofNat m), vcP_s0 v w o o1 n m) (An.b An.nil An.nil))) := by kernel_rfl
noncomputable def vcI_s0 (v : AV) (w : AV) (o : AO) (o1 : AO) (n : Nat) : ASt := mkSt [(0, o), (1, o1)] 2
theorem vcI (v : AV) (w : AV) (o : AO) (o1 : AO) (n : Nat) (Q : Exit × AFr × ASt → Prop) :
  (aBuiltinM E Builtin.len [25] [v] (vcI_s0 v w o o1 n) = some (AV.int IntKind.i64 (Int.ofNat n), vcI_s0 v w o o1 n) ∧ Q (Exit.normal, xFr [(0, v), (1, w), (12, AV.int IntKind.i64 (Int.ofNat n)), (13, AV.int IntKind.i64 (Int.ofNat 0))] 26, vcI_s0 v w o o1 n)) =
  (tI v w o o1 n).allY (fun r => Q (canR [0, 1, 12, 13] [0, 1] r)) (An.v (AV.int IntKind.i64 (Int.ofNat n), vcI_s0 v w o o1 n) An.nil) := by kernel_rfl
noncomputable def vcR_s0 (v : AV) (w : AV) (o : AO) (o1 : AO) (n : Nat) (k : Nat) (p : AV) (q : AV) (x : AV) (y : AV) (b : Bool) : ASt := mkSt [(0, o), (1, o1)] 11
noncomputable def vcR_s1 (v : AV) (w : AV) (o : AO) (o1 : AO) (n : Nat) (k : Nat) (p : AV) (q : AV) (x : AV) (y : AV) (b : Bool) : ASt := mkSt [(0, o), (1, o1)] 2
theorem vcR (v : AV) (w : AV) (o : AO) (o1 : AO) (n : Nat) (k : Nat) (p : AV) (q : AV) (x : AV) (y : AV) (b : Bool) (Q : Exit × AFr × ASt → Prop) (Q2 : Exit × Option AV → Prop) :
  (ifB (ltF (Int.ofNat k) (Int.ofNat n)) (still (vcR_s0 v w o o1 n k p q x y b) (aIndexAddr E 25 v (AV.int IntKind.i64 (Int.ofNat k))) = some (p, vcR_s0 v w o o1 n k p q x y b) ∧ aLoad E 5 p (vcR_s0 v w o o1 n k p q x y b) = some (x, vcR_s0 v w o o1 n k p q x y b) ∧ still (vcR_s0 v w o o1 n k p q x y b) (aIndexAddr E 25 w (AV.int IntKind.i64 (Int.ofNat k))) = some (q, vcR_s0 v w o o1 n k p q x y b) ∧ aLoad E 5 q (vcR_s0 v w o o1 n k p q x y b) = some (y, vcR_s0 v w o o1 n k p q x y b) ∧ still (vcR_s0 v w o o1 n k p q x y b) (aBin E BinOp.neq 5 (Operand.tmp 19) (Operand.tmp 23) x y) = some (AV.bool b, vcR_s0 v w o o1 n k p q x y b) ∧ ifB b (Q2 (Exit.ret, some (AV.bool false))) (Q (Exit.normal, xFr [(0, v), (1, w), (12, AV.int IntKind.i64 (Int.ofNat n)), (13, AV.int IntKind.i64 (wrapF IntKind.i64 (Int.ofNat k + Int.ofNat 1)))] 26, vcR_s0 v w o o1 n k p q x y b))) (Q (Exit.exit 0, xFr [(0, v), (1, w), (12, AV.int IntKind.i64 (Int.ofNat n)), (13, AV.int IntKind.i64 (Int.ofNat k))] 26, vcR_s1 v w o o1 n k p q x y b))) =
  (tR v w o o1 n k p q x y b).allY (mixQ E Try.f65 [0, 1, 12, 13] [0, 1] Q Q2) (An.b (An.v (p, vcR_s0 v w o o1 n k p q x y b) (An.v (x, vcR_s0 v w o o1 n k p q x y b) (An.v (q, vcR_s0 v w o o1 n k p q x y b) (An.v (y, vcR_s0 v w o o1 n k p q x y b) (An.v (AV.bool b, vcR_s0 v w o o1 n k p q x y b) (An.b An.nil An.nil)))))) An.nil) := by kernel_rfl
theorem vcE (v : AV) (w : AV) (o : AO) (o1 : AO) (n : Nat) (k : Nat) (Q : Exit × Option AV → Prop) :
  (Q (Exit.ret, some (AV.bool true))) =
  (tE v w o o1 n k).allY (fun r => Q (r.1, ans (leaveA E Try.f65 r.2.1 r.2.2))) (An.nil) := by kernel_rfl

section
variable {v w : AV} {o o1 : AO} {a b : List Nat}
def LawQ (a b : List Nat) (r : Exit × AFr × ASt) : Prop := (r.1 = .normal ∨ r.1 = .ret) ∧ ans (leaveA E Try.f65 r.2.1 r.2.2) = some (.bool (decide (a = b)))
theorem Eok : Env.Ok Try.prog E := envEx_ok (xs := []) ⟨⟨Try.func65, Try.call65⟩, trivial⟩ trivial (by kernel_rfl)
theorem sl25 : sliceT E 25 = some 1 := by kernel_rfl
theorem cell5 : cellT E 5 = true := by kernel_rfl
theorem objS {n : Nat} (C0 : Came o) (C1 : Came o1) : StP [0, 1] (mkSt [(0, o), (1, o1)] n) [(0, o), (1, o1)] := .came C0 rfl (by kernel_rfl) (.came C1 rfl (by kernel_rfl) .nil)
theorem came {j : Nat} {v : AV} {o : AO} {a : List Nat} (h : ArgB j v o a) : Came o := by
  cases h with
  | nil => exact .inl rfl
  | zero => exact .inl rfl
  | row _ => exact .inr ⟨_, _, rfl, refU _⟩
theorem kept {j k : Nat} {v : AV} {o : AO} {a : List Nat} (h : ArgB j v o a) (hj : j < k) : KeptV k v := by
  cases h with
  | nil => exact KeptV.none
  | zero => exact KeptV.zero
  | row _ => exact KeptV.row hj
theorem kf {n k : Nat} {N : Nat} (A0 : ArgB 0 v o a) (A1 : ArgB 1 w o1 b) : frE [0, 1] (xFr [(0, v), (1, w), (12, nI n), (13, nI k)] 26) [0, 1, 12, 13] = some [(0, v), (1, w), (12, nI n), (13, nI k)] :=
  frE_xFr (ks := [(0, v), (1, w), (12, nI n), (13, nI k)]) fun p hp => by
    simp only [List.mem_cons, List.not_mem_nil, or_false] at hp
    rcases hp with rfl | rfl | rfl | rfl
    · exact ⟨Nat.le_of_ble_eq_true rfl, rfl, kept A0 (k := 2) (by omega) [0, 1] rfl⟩
    · exact ⟨Nat.le_of_ble_eq_true rfl, rfl, kept A1 (k := 2) (by omega) [0, 1] rfl⟩
    · exact ⟨Nat.le_of_ble_eq_true rfl, rfl, rfl⟩
    · exact ⟨Nat.le_of_ble_eq_true rfl, rfl, rfl⟩
theorem toN {n k nx : Nat} (A0 : ArgB 0 v o a) (A1 : ArgB 1 w o1 b) : Wk 2 (frK v w n k) (mkSt [(0, o), (1, o1)] nx) (frK v w n k) (S2 o o1) :=
  Wk.heldX [0, 1] rfl rfl [0, 1, 12, 13] (kf (N := 0) A0 A1) (objS (came A0) (came A1))
def Inv (a b : List Nat) (k : Nat) : Prop := ∀ i, i < k → a[i]? = b[i]?
theorem inv_all (hl : a.length = b.length) (h : Inv a b a.length) : a = b := by
  apply List.ext_getElem?
  intro i
  by_cases e : i < a.length
  · exact h i e
  · rw [List.getElem?_eq_none (by omega), List.getElem?_eq_none (by omega)]
theorem round (A0 : ArgB 0 v o a) (A1 : ArgB 1 w o1 b) (hl : a.length = b.length) (hb : a.length < 9223372036854775808) {k : Nat} (hk : k ≤ a.length) (hI : Inv a b k) :
    Trip Try.prog 2 none L (frK v w a.length k) (S2 o o1) fun r => LawQ a b r ∧ r.1 = .ret ∨ (k < a.length ∧ Inv a b (k + 1) ∧ Stops 2 .normal (frK v w a.length (k + 1)) (S2 o o1) r) ∨ (k = a.length ∧ Stops 2 (.exit 0) (frK v w a.length k) (S2 o o1) r) := by
  have fin : ∀ {p q x y : AV} {bb : Bool} {ys} , (tR v w o o1 a.length k p q x y bb).allY (mixQ E Try.f65 [0, 1, 12, 13] [0, 1] (fun r => (k < a.length ∧ Inv a b (k + 1) ∧ Stops 2 .normal (frK v w a.length (k + 1)) (S2 o o1) r) ∨ (k = a.length ∧ Stops 2 (.exit 0) (frK v w a.length k) (S2 o o1) r)) (fun q => a ≠ b ∧ q.2 = some (.bool false))) ys → Trip Try.prog 2 none L (frK v w a.length k) (S2 o o1) fun r => LawQ a b r ∧ r.1 = .ret ∨ (k < a.length ∧ Inv a b (k + 1) ∧ Stops 2 .normal (frK v w a.length (k + 1)) (S2 o o1) r) ∨ (k = a.length ∧ Stops 2 (.exit 0) (frK v w a.length k) (S2 o o1) r) := fun h =>
    Trip.runM Eok noSum_ok h (fun r h1 h2 => .inl ⟨⟨.inr h1, by rw [show ans (leaveA E Try.f65 r.2.1 r.2.2) = some (.bool false) from h2.2, decide_eq_false h2.1]⟩, h1⟩) (fun r h1 h2 => .inr (h2.imp (fun h => ⟨h.1, h.2.1, h.2.2.can⟩) (fun h => ⟨h.1, h.2.can⟩)))
  by_cases e : k < a.length
  · have e1 : a[k]? = some a[k] := List.getElem?_eq_getElem e
    have e2 : b[k]? = some b[k] := List.getElem?_eq_getElem (by omega)
    have s0 := A0.sl (E := E) sl25
    have s1 := A1.sl (E := E) sl25
    refine fin (Eq.mp (vcR v w o o1 a.length k _ _ _ _ (!eqF (.ofNat a[k]) (.ofNat b[k])) _ _) (ifB_mk (fun _ => ⟨still_of (s0.idx k .i64 e), s0.ld cell5 (by kernel_rfl) e1, still_of (s1.idx k .i64 (by omega)), s1.ld cell5 (by kernel_rfl) e2, by rfl, ifB_mk (fun hb => ?_) fun hb => ?_⟩) fun h => ?_))
    · refine ⟨fun hab => ?_, rfl⟩
      subst hab
      exact neqF_t hb rfl
    · refine .inl ⟨e, fun i hi => ?_, rfl, ?_⟩
      · by_cases ei : i = k
        · subst ei
          rw [e1, e2]
          have := neqF_f hb
          simp only [Int.ofNat_eq_natCast, Int.ofNat_inj] at this
          rw [this]
        · exact hI i (by omega)
      · have := toN (n := a.length) (k := k + 1) (nx := 11) A0 A1
        rw [show (Int.ofNat k + Int.ofNat 1) = Int.ofNat (k + 1) from rfl, wrap_nat (by omega)]
        exact this
    · rw [ltF_nn] at h
      simp [e] at h
  · have ek : k = a.length := by omega
    refine fin (p := undefA) (q := undefA) (x := undefA) (y := undefA) (bb := false) (Eq.mp (vcR v w o o1 a.length k _ _ _ _ _ _ _) (ifB_mk (fun h => ?_) fun _ => .inr ⟨ek, rfl, Wk.refl _ _ _⟩))
    rw [ltF_nn] at h
    simp [e] at h
theorem loop (A0 : ArgB 0 v o a) (A1 : ArgB 1 w o1 b) (hl : a.length = b.length) (hb : a.length < 9223372036854775808) : Trip Try.prog 2 none (.block 0 (.loop L)) (frK v w a.length 0) (S2 o o1) fun r => LawQ a b r ∧ r.1 = .ret ∨ (a = b ∧ Stops 2 .normal (frK v w a.length a.length) (S2 o o1) r) := by
  refine Trip.block (Trip.loop (fun m fr st => ∃ k, k ≤ a.length ∧ m = a.length - k ∧ Inv a b k ∧ fr = frK v w a.length k ∧ st = S2 o o1) ?_ a.length ⟨0, by omega, by omega, fun i hi => absurd hi (by omega), rfl, rfl⟩)
  rintro m fr st ⟨k, hk, rfl, hI, rfl, rfl⟩
  refine (round A0 A1 hl hb hk hI).mono ?_
  rintro ⟨e, fr', st'⟩ (⟨h1, h2⟩ | ⟨h1, h2, h3, h4⟩ | ⟨h1, h3, h4⟩)
  · simp only at h2
    subst h2
    exact .inl ⟨h1, rfl⟩
  · simp only at h3
    subst h3
    exact ⟨a.length - (k + 1), _, _, by omega, h4, k + 1, by omega, rfl, h2, rfl, rfl⟩
  · simp only at h3
    subst h3
    subst h1
    exact ⟨fun _ => .inr ⟨inv_all hl hI, rfl, h4⟩, fun h => absurd rfl h⟩
theorem shape : dropC 1 c65 = .seq (.seq (seqL (seqL (dropC 1 c65))) (.block 0 (.loop L))) (dropC 2 c65) := by kernel_rfl
theorem body (A0 : ArgB 0 v o a) (A1 : ArgB 1 w o1 b) (hb : a.length < 9223372036854775808) : Trip Try.prog 2 none c65 (F0 v w) (S2 o o1) (LawQ a b) := by
  have s0 := A0.sl (E := E) sl25
  have s1 := A1.sl (E := E) sl25
  refine Trip.preM Eok noSum_ok (fn := Try.f65) (k := 1) (kf := [0, 1]) (ko := [0, 1]) (Q1 := fun r => a.length = b.length ∧ r = (.normal, xFr [(0, v), (1, w)] 26, S2 o o1)) (Q2 := fun q => a ≠ b ∧ q.2 = some (.bool false)) (by kernel_rfl) (Eq.mp (vcP v w o o1 a.length b.length _ _) ⟨s0.len _, s1.len _, ifB_mk (fun h => ?_) fun h => ?_⟩) ?_ ?_ ?_
  · refine ⟨fun hab => ?_, rfl⟩
    subst hab
    exact neqF_t h rfl
  · have := neqF_f h
    simp only [Int.ofNat_eq_natCast, Int.ofNat_inj] at this
    exact ⟨this, rfl⟩
  · rintro F S ⟨hl, h⟩
    cases h
    rw [shape]
    refine Trip.seq (R := fun r => LawQ a b r ∧ r.1 = .ret ∨ (a = b ∧ Stops 2 .normal (frK v w a.length a.length) (S2 o o1) r)) (Trip.seq (R := Stops 2 .normal (frK v w a.length 0) (S2 o o1)) ((Trip.runY Eok noSum_ok (Eq.mp (vcI v w o o1 a.length (Stops 2 .normal (frK v w a.length 0) (S2 o o1))) ⟨s0.len _, rfl, Wk.refl _ _ _⟩)).mono fun r hr => hr.can) (fun fr' st' hq => Trip.less hq.2 (loop A0 A1 hl hb)) (fun e fr' st' hne hq => absurd hq.1 hne)) (fun fr' st' hq => ?_) (fun e fr' st' hne hq => ?_)
    · rcases hq with ⟨_, h⟩ | ⟨hab, hq⟩
      · cases h
      · refine Trip.less hq.2 (Trip.runY Eok noSum_ok (Eq.mp (vcE v w o o1 a.length a.length (fun q => (q.1 = .normal ∨ q.1 = .ret) ∧ q.2 = some (.bool (decide (a = b))))) ⟨.inr rfl, by rw [decide_eq_true hab]⟩))
    · rcases hq with ⟨h, _⟩ | ⟨_, hq⟩
      · exact h
      · exact absurd hq.1 hne
  · exact fun r h1 h2 => ⟨.inr h1, by rw [show ans (leaveA E Try.f65 r.2.1 r.2.2) = some (.bool false) from h2.2, decide_eq_false h2.1]⟩
  · rintro r h1 h2 ⟨_, h3⟩
    exact absurd (congrArg Prod.fst h3) h1
theorem atMem (A0 : ArgB 0 v o a) (A1 : ArgB 1 w o1 b) (hb : a.length < 9223372036854775808) : AtMem Try.prog 65 [v, w] (S2 o o1) (.bool (decide (a = b))) := by
  refine AtMem.of_trip Eok (fn := Try.f65) (by kernel_rfl) (c := c65) (by kernel_rfl) (by kernel_rfl) ?_
  have hfr : ({ m := putArgs [v, w] 0 .e, n := Try.f65.ntmps, defs := [] } : AFr) = F0 v w := by kernel_rfl
  rw [hfr]
  exact body A0 A1 hb
end
/-- **slices.Equal of any two slices of bytes** -/
theorem equal {S : ASt} {v w : AV} {a b : List Nat} (h0 : SlB S v a) (h1 : SlB S w b) (hb : a.length < 9223372036854775808) : Call1 Try.prog 65 [v, w] S (.bool (decide (a = b)), S) := by
  obtain ⟨v1, o, r0, A0⟩ := h0.ro 0
  obtain ⟨w1, o1, r1, A1⟩ := h1.ro 1
  refine Call1.ro (os := [o, o1]) (atMem A0 A1 hb) (by simp [refsV]) ⟨r0, r1, trivial⟩ rfl fun j x hj => ?_
  have hg : (S2 o o1).h.get j = if j = 1 then some o1 else if j = 0 then some o else none := by
    show (((T.e : T AO).set D 0 _).set D 1 _).get j = _
    rw [T.get_set, T.get_set, T.get_e]
  rw [hg] at hj
  by_cases e1 : j = 1
  · subst e1; simpa using hj
  · by_cases e0 : j = 0
    · subst e0; simpa using hj
    · simp [e1, e0] at hj
end Go.Proofs.Ytlnohbilfogheaa.eqb
end

section
open Go Go.Ax Go.Proofs.Ytlnohbilfogheaa
namespace Go.Proofs.Ytlnohbilfogheaa.pkb
set_option linter.unusedVariables false
noncomputable def fns : List (Nat × Func) := [(22, Try.f22), (58, Try.f58), (90, Try.f90), (78, Try.f78), (79, Try.f79), (37, Try.f37), (44, Try.f44), (38, Try.f38), (14, Try.f14), (47, Try.f47)]
noncomputable def E : Env := envEx Try.prog [0, 3, 4, 5, 25, 28, 31, 33, 34, 61, 63, 89, 104] fns []
def fl0 : Fl := ⟨[], [], [], []⟩
noncomputable def sm (q : CallT) : CallT := onlyC [59, 65] q
def nI (n : Nat) : AV := .int .i64 (.ofNat n)
def cl (xs : Nat → Int) : List AV := (List.range 32).map fun i => .int .u8 (xs i)
noncomputable def c22 : Code := Option.getD Try.f22.body .skip
noncomputable def pV (k m t a s : Int) (v : AV) : AV := .agg [.int .i64 k, .int .u64 m, .int .u64 t, .int .u64 a, .int .u64 s, v]
noncomputable def fls : List (Nat × Fl) := [(22, ⟨[53, 56], [9, 46, 49], [], []⟩), (58, ⟨[37, 49, 55], [65], [14, 18, 22, 28, 30, 32, 33, 44, 50, 56], []⟩), (90, ⟨[43], [], [9, 15, 22, 29, 36, 43], []⟩), (38, ⟨[6, 12], [14, 16], [7], []⟩), (37, ⟨[], [], [20], []⟩), (44, ⟨[], [7], [], []⟩), (79, ⟨[31], [], [], []⟩), (14, ⟨[], [16], [], []⟩), (47, ⟨[7], [], [], []⟩)]
def v0 : AV := .slice none 0 (.known 0)
def v1 : AV := .slice0
def v2 (n : Nat) : AV := .slice (some (0, 0)) n (.atl n)
noncomputable def t580 (q : CallT) (k m t a s : Int) (o : AO) (n : Nat) (b : Bool) : Tr (AV × ASt) := (TM E (sm q) fls fl0 60).call 58 [pV k m t a s v0] (mkSt [(0, o)] 1)
noncomputable def t581 (q : CallT) (k m t a s : Int) (o : AO) (n : Nat) (b : Bool) : Tr (AV × ASt) := (TM E (sm q) fls fl0 60).call 58 [pV k m t a s v1] (mkSt [(0, o)] 1)
noncomputable def t582 (q : CallT) (k m t a s : Int) (o : AO) (n : Nat) (b : Bool) : Tr (AV × ASt) := (TM E (sm q) fls fl0 60).call 58 [pV k m t a s (v2 n)] (mkSt [(0, o)] 1)
noncomputable def vcM0_s0 (q : CallT) (k : Int) (m : Int) (t : Int) (a : Int) (s : Int) (o : AO) (n : Nat) (b : Bool) : ASt := mkSt [(0, o), (1, AO.cells [AV.int IntKind.i64 k, AV.int IntKind.u64 m, AV.int IntKind.u64 t, AV.int IntKind.u64 a, AV.int IntKind.u64 s, AV.slice none 0 (Cap.known 0)] true), (2, AO.cells [AV.int IntKind.i64 k, AV.int IntKind.u64 m, AV.int IntKind.u64 t, AV.int IntKind.u64 (Int.ofNat 0), AV.int IntKind.u64 (Int.ofNat 0), AV.slice none 0 (Cap.known 0)] true)] 11
noncomputable def vcM0_s1 (q : CallT) (k : Int) (m : Int) (t : Int) (a : Int) (s : Int) (o : AO) (n : Nat) (b : Bool) : ASt := mkSt [(0, o), (1, AO.cells [AV.int IntKind.i64 k, AV.int IntKind.u64 m, AV.int IntKind.u64 t, AV.int IntKind.u64 a, AV.int IntKind.u64 s, AV.slice none 0 (Cap.known 0)] true), (2, AO.cells [AV.int IntKind.i64 k, AV.int IntKind.u64 m, AV.int IntKind.u64 t, AV.int IntKind.u64 (Int.ofNat 0), AV.int IntKind.u64 s, AV.slice none 0 (Cap.known 0)] true)] 11
noncomputable def vcM0_s2 (q : CallT) (k : Int) (m : Int) (t : Int) (a : Int) (s : Int) (o : AO) (n : Nat) (b : Bool) : ASt := mkSt [] 11
noncomputable def vcM0_s3 (q : CallT) (k : Int) (m : Int) (t : Int) (a : Int) (s : Int) (o : AO) (n : Nat) (b : Bool) : ASt := mkSt [(0, o), (1, AO.cells [AV.int IntKind.i64 k, AV.int IntKind.u64 m, AV.int IntKind.u64 t, AV.int IntKind.u64 a, AV.int IntKind.u64 s, AV.slice none 0 (Cap.known 0)] true), (2, AO.cells [AV.int IntKind.i64 k, AV.int IntKind.u64 m, AV.int IntKind.u64 t, AV.int IntKind.u64 a, AV.int IntKind.u64 (Int.ofNat 0), AV.slice none 0 (Cap.known 0)] true), (3, AO.cells [AV.int IntKind.i64 k, AV.int IntKind.u64 m, AV.int IntKind.u64 t, AV.int IntKind.u64 a, AV.int IntKind.u64 s, AV.slice none 0 (Cap.known 0)] true), (4, AO.cells [AV.int IntKind.i64 k, AV.int IntKind.u64 m, AV.int IntKind.u64 t, AV.int IntKind.u64 a, AV.int IntKind.u64 (Int.ofNat 0), AV.slice none 0 (Cap.known 0)] true)] 5
noncomputable def vcM0_s4 (q : CallT) (k : Int) (m : Int) (t : Int) (a : Int) (s : Int) (o : AO) (n : Nat) (b : Bool) : ASt := mkSt [] 5
noncomputable def vcM0_s5 (q : CallT) (k : Int) (m : Int) (t : Int) (a : Int) (s : Int) (o : AO) (n : Nat) (b : Bool) : ASt := mkSt [(0, o), (1, AO.cells [AV.int IntKind.i64 k, AV.int IntKind.u64 m, AV.int IntKind.u64 t, AV.int IntKind.u64 a, AV.int IntKind.u64 s, AV.slice none 0 (Cap.known 0)] true), (2, AO.cells [AV.int IntKind.i64 k, AV.int IntKind.u64 m, AV.int IntKind.u64 t, AV.int IntKind.u64 (Int.ofNat 0), AV.int IntKind.u64 (Int.ofNat 0), AV.slice none 0 (Cap.known 0)] true), (3, AO.cells [AV.int IntKind.i64 k, AV.int IntKind.u64 m, AV.int IntKind.u64 t, AV.int IntKind.u64 a, AV.int IntKind.u64 s, AV.slice none 0 (Cap.known 0)] true), (4, AO.cells [AV.int IntKind.i64 k, AV.int IntKind.u64 m, AV.int IntKind.u64 t, AV.int IntKind.u64 (Int.ofNat 0), AV.int IntKind.u64 (Int.ofNat 0), AV.slice none 0 (Cap.known 0)] true)] 5
noncomputable def vcM0_s6 (q : CallT) (k : Int) (m : Int) (t : Int) (a : Int) (s : Int) (o : AO) (n : Nat) (b : Bool) : ASt := mkSt [] 3
theorem vcM0 (q : CallT) (k : Int) (m : Int) (t : Int) (a : Int) (s : Int) (o : AO) (n : Nat) (b : Bool) (Q : AV × ASt → Prop) :
  (ifB (!eqF m (Int.ofNat 0)) (ifB (!eqF t (Int.ofNat 0)) (ifB (eqF k (Int.ofNat 2)) (aLoad E 25 (AV.ptr (some (1, 5))) (vcM0_s0 q k m t a s o n b) = some (AV.slice none 0 (Cap.known 0), vcM0_s0 q k m t a s o n b) ∧ holdsO [(some (AV.slice none 0 (Cap.known 0)), AV.slice none 0 (Cap.known 0))] ∧ ifB (ltF (Int.ofNat 0) s) (aBuiltinM E Builtin.len [25] [AV.slice none 0 (Cap.known 0)] (vcM0_s1 q k m t a s o n b) = some (AV.int IntKind.i64 (Int.ofNat 0), vcM0_s1 q k m t a s o n b) ∧ Q (AV.bool false, vcM0_s2 q k m t a s o n b)) (Q (AV.bool false, vcM0_s2 q k m t a s o n b))) (ifB (eqF k (Int.ofNat 3)) (ifB (eqF k k) (ifB (eqF m m) (ifB (eqF t t) (ifB (eqF a a) (ifB (eqF s (Int.ofNat 0)) ((M E (drawA E) (sm q) 45).call 65 [AV.slice none 0 (Cap.known 0), AV.slice none 0 (Cap.known 0)] (vcM0_s3 q k m t a s o n b) = some (AV.bool b, vcM0_s3 q k m t a s o n b) ∧ ifB b (Q (AV.bool true, vcM0_s4 q k m t a s o n b)) (Q (AV.bool false, vcM0_s4 q k m t a s o n b))) (Q (AV.bool false, vcM0_s4 q k m t a s o n b))) (Q (AV.bool false, vcM0_s4 q k m t a s o n b))) (Q (AV.bool false, vcM0_s4 q k m t a s o n b))) (Q (AV.bool false, vcM0_s4 q k m t a s o n b))) (Q (AV.bool false, vcM0_s4 q k m t a s o n b))) (ifB (eqF k (Int.ofNat 1)) (ifB (eqF k k) (ifB (eqF m m) (ifB (eqF t t) (ifB (eqF a (Int.ofNat 0)) (ifB (eqF s (Int.ofNat 0)) ((M E (drawA E) (sm q) 45).call 65 [AV.slice none 0 (Cap.known 0), AV.slice none 0 (Cap.known 0)] (vcM0_s5 q k m t a s o n b) = some (AV.bool b, vcM0_s5 q k m t a s o n b) ∧ ifB b (Q (AV.bool true, vcM0_s4 q k m t a s o n b)) (Q (AV.bool false, vcM0_s4 q k m t a s o n b))) (Q (AV.bool false, vcM0_s4 q k m t a s o n b))) (Q (AV.bool false, vcM0_s4 q k m t a s o n b))) (Q (AV.bool false, vcM0_s4 q k m t a s o n b))) (Q (AV.bool false, vcM0_s4 q k m t a s o n b))) (Q (AV.bool false, vcM0_s4 q k m t a s o n b))) (ifB (eqF k (Int.ofNat 4)) (ifB (eqF k k) (ifB (eqF m m) (ifB (eqF t t) (ifB (eqF a (Int.ofNat 0)) (ifB (eqF s (Int.ofNat 0)) ((M E (drawA E) (sm q) 45).call 65 [AV.slice none 0 (Cap.known 0), AV.slice none 0 (Cap.known 0)] (vcM0_s5 q k m t a s o n b) = some (AV.bool b, vcM0_s5 q k m t a s o n b) ∧ ifB b (Q (AV.bool true, vcM0_s4 q k m t a s o n b)) (Q (AV.bool false, vcM0_s4 q k m t a s o n b))) (Q (AV.bool false, vcM0_s4 q k m t a s o n b))) (Q (AV.bool false, vcM0_s4 q k m t a s o n b))) (Q (AV.bool false, vcM0_s4 q k m t a s o n b))) (Q (AV.bool false, vcM0_s4 q k m t a s o n b))) (Q (AV.bool false, vcM0_s4 q k m t a s o n b))) (Q (AV.bool false, vcM0_s6 q k m t a s o n b)))))) (ifB (eqF k (Int.ofNat 1)) (ifB (eqF k (Int.ofNat 2)) (aLoad E 25 (AV.ptr (some (1, 5))) (vcM0_s0 q k m t a s o n b) = some (AV.slice none 0 (Cap.known 0), vcM0_s0 q k m t a s o n b) ∧ holdsO [(some (AV.slice none 0 (Cap.known 0)), AV.slice none 0 (Cap.known 0))] ∧ ifB (ltF (Int.ofNat 0) s) (aBuiltinM E Builtin.len [25] [AV.slice none 0 (Cap.known 0)] (vcM0_s1 q k m t a s o n b) = some (AV.int IntKind.i64 (Int.ofNat 0), vcM0_s1 q k m t a s o n b) ∧ Q (AV.bool false, vcM0_s2 q k m t a s o n b)) (Q (AV.bool false, vcM0_s2 q k m t a s o n b))) (ifB (eqF k (Int.ofNat 3)) (ifB (eqF k k) (ifB (eqF m m) (ifB (eqF t t) (ifB (eqF a a) (ifB (eqF s (Int.ofNat 0)) ((M E (drawA E) (sm q) 45).call 65 [AV.slice none 0 (Cap.known 0), AV.slice none 0 (Cap.known 0)] (vcM0_s3 q k m t a s o n b) = some (AV.bool b, vcM0_s3 q k m t a s o n b) ∧ ifB b (Q (AV.bool true, vcM0_s4 q k m t a s o n b)) (Q (AV.bool false, vcM0_s4 q k m t a s o n b))) (Q (AV.bool false, vcM0_s4 q k m t a s o n b))) (Q (AV.bool false, vcM0_s4 q k m t a s o n b))) (Q (AV.bool false, vcM0_s4 q k m t a s o n b))) (Q (AV.bool false, vcM0_s4 q k m t a s o n b))) (Q (AV.bool false, vcM0_s4 q k m t a s o n b))) (ifB (eqF k (Int.ofNat 1)) (ifB (eqF k k) (ifB (eqF m m) (ifB (eqF t t) (ifB (eqF a (Int.ofNat 0)) (ifB (eqF s (Int.ofNat 0)) ((M E (drawA E) (sm q) 45).call 65 [AV.slice none 0 (Cap.known 0), AV.slice none 0 (Cap.known 0)] (vcM0_s5 q k m t a s o n b) = some (AV.bool b, vcM0_s5 q k m t a s o n b) ∧ ifB b (Q (AV.bool true, vcM0_s4 q k m t a s o n b)) (Q (AV.bool false, vcM0_s4 q k m t a s o n b))) (Q (AV.bool false, vcM0_s4 q k m t a s o n b))) (Q (AV.bool false, vcM0_s4 q k m t a s o n b))) (Q (AV.bool false, vcM0_s4 q k m t a s o n b))) (Q (AV.bool false, vcM0_s4 q k m t a s o n b))) (Q (AV.bool false, vcM0_s4 q k m t a s o n b))) (ifB (eqF k (Int.ofNat 4)) (ifB (eqF k k) (ifB (eqF m m) (ifB (eqF t t) (ifB (eqF a (Int.ofNat 0)) (ifB (eqF s (Int.ofNat 0)) ((M E (drawA E) (sm q) 45).call 65 [AV.slice none 0 (Cap.known 0), AV.slice none 0 (Cap.known 0)] (vcM0_s5 q k m t a s o n b) = some (AV.bool b, vcM0_s5 q k m t a s o n b) ∧ ifB b (Q (AV.bool true, vcM0_s4 q k m t a s o n b)) (Q (AV.bool false, vcM0_s4 q k m t a s o n b))) (Q (AV.bool false, vcM0_s4 q k m t a s o n b))) (Q (AV.bool false, vcM0_s4 q k m t a s o n b))) (Q (AV.bool false, vcM0_s4 q k m t a s o n b))) (Q (AV.bool false, vcM0_s4 q k m t a s o n b))) (Q (AV.bool false, vcM0_s4 q k m t a s o n b))) (Q (AV.bool false, vcM0_s6 q k m t a s o n b)))))) (ifB (eqF k (Int.ofNat 2)) (aLoad E 25 (AV.ptr (some (1, 5))) (vcM0_s0 q k m t a s o n b) = some (AV.slice none 0 (Cap.known 0), vcM0_s0 q k m t a s o n b) ∧ holdsO [(some (AV.slice none 0 (Cap.known 0)), AV.slice none 0 (Cap.known 0))] ∧ Q (AV.bool false, vcM0_s2 q k m t a s o n b)) (ifB (eqF k (Int.ofNat 3)) (Q (AV.bool false, vcM0_s6 q k m t a s o n b)) (ifB (eqF k (Int.ofNat 1)) (Q (AV.bool false, vcM0_s6 q k m t a s o n b)) (ifB (eqF k (Int.ofNat 4)) (Q (AV.bool false, vcM0_s6 q k m t a s o n b)) (Q (AV.bool false, vcM0_s6 q k m t a s o n b)))))))) (ifB (eqF k (Int.ofNat 2)) (aLoad E 25 (AV.ptr (some (1, 5))) (vcM0_s0 q k m t a s o n b) = some (AV.slice none 0 (Cap.known 0), vcM0_s0 q k m t a s o n b) ∧ holdsO [(some (AV.slice none 0 (Cap.known 0)), AV.slice none 0 (Cap.known 0))] ∧ Q (AV.bool false, vcM0_s2 q k m t a s o n b)) (ifB (eqF k (Int.ofNat 3)) (Q (AV.bool false, vcM0_s6 q k m t a s o n b)) (ifB (eqF k (Int.ofNat 1)) (Q (AV.bool false, vcM0_s6 q k m t a s o n b)) (ifB (eqF k (Int.ofNat 4)) (Q (AV.bool false, vcM0_s6 q k m t a s o n b)) (Q (AV.bool false, vcM0_s6 q k m t a s o n b))))))) =
  (t580 q k m t a s o n b).allY (fun r => Q (r.1, canS [] r.2)) (An.b (An.b (An.b (An.v (AV.slice none 0 (Cap.known 0), vcM0_s0 q k m t a s o n b) (An.b (An.v (AV.int IntKind.i64 (Int.ofNat 0), vcM0_s1 q k m t a s o n b) (An.b An.nil An.nil)) An.nil)) (An.b (An.b (An.b (An.b (An.b (An.b (An.v (AV.bool b, vcM0_s3 q k m t a s o n b) (An.b An.nil An.nil)) An.nil) An.nil) An.nil) An.nil) An.nil) (An.b (An.b (An.b (An.b (An.b (An.b (An.v (AV.bool b, vcM0_s5 q k m t a s o n b) (An.b An.nil An.nil)) An.nil) An.nil) An.nil) An.nil) An.nil) (An.b (An.b (An.b (An.b (An.b (An.b (An.v (AV.bool b, vcM0_s5 q k m t a s o n b) (An.b An.nil An.nil)) An.nil) An.nil) An.nil) An.nil) An.nil) An.nil)))) (An.b (An.b (An.v (AV.slice none 0 (Cap.known 0), vcM0_s0 q k m t a s o n b) (An.b (An.v (AV.int IntKind.i64 (Int.ofNat 0), vcM0_s1 q k m t a s o n b) (An.b An.nil An.nil)) An.nil)) (An.b (An.b (An.b (An.b (An.b (An.b (An.v (AV.bool b, vcM0_s3 q k m t a s o n b) (An.b An.nil An.nil)) An.nil) An.nil) An.nil) An.nil) An.nil) (An.b (An.b (An.b (An.b (An.b (An.b (An.v (AV.bool b, vcM0_s5 q k m t a s o n b) (An.b An.nil An.nil)) An.nil) An.nil) An.nil) An.nil) An.nil) (An.b (An.b (An.b (An.b (An.b (An.b (An.v (AV.bool b, vcM0_s5 q k m t a s o n b) (An.b An.nil An.nil)) An.nil) An.nil) An.nil) An.nil) An.nil) An.nil)))) (An.b (An.v (AV.slice none 0 (Cap.known 0), vcM0_s0 q k m t a s o n b) An.nil) (An.b An.nil (An.b An.nil (An.b An.nil An.nil)))))) (An.b (An.v (AV.slice none 0 (Cap.known 0), vcM0_s0 q k m t a s o n b) An.nil) (An.b An.nil (An.b An.nil (An.b An.nil An.nil))))) := by kernel_rfl
noncomputable def vcM1_s0 (q : CallT) (k : Int) (m : Int) (t : Int) (a : Int) (s : Int) (o : AO) (n : Nat) (b : Bool) : ASt := mkSt [(0, o), (1, AO.cells [AV.int IntKind.i64 k, AV.int IntKind.u64 m, AV.int IntKind.u64 t, AV.int IntKind.u64 a, AV.int IntKind.u64 s, AV.slice0] true), (2, AO.cells [AV.int IntKind.i64 k, AV.int IntKind.u64 m, AV.int IntKind.u64 t, AV.int IntKind.u64 (Int.ofNat 0), AV.int IntKind.u64 (Int.ofNat 0), AV.slice none 0 (Cap.known 0)] true)] 11
noncomputable def vcM1_s1 (q : CallT) (k : Int) (m : Int) (t : Int) (a : Int) (s : Int) (o : AO) (n : Nat) (b : Bool) : ASt := mkSt [(0, o), (1, AO.cells [AV.int IntKind.i64 k, AV.int IntKind.u64 m, AV.int IntKind.u64 t, AV.int IntKind.u64 a, AV.int IntKind.u64 s, AV.slice0] true), (2, AO.cells [AV.int IntKind.i64 k, AV.int IntKind.u64 m, AV.int IntKind.u64 t, AV.int IntKind.u64 (Int.ofNat 0), AV.int IntKind.u64 s, AV.slice0] true)] 11
noncomputable def vcM1_s2 (q : CallT) (k : Int) (m : Int) (t : Int) (a : Int) (s : Int) (o : AO) (n : Nat) (b : Bool) : ASt := mkSt [] 11
noncomputable def vcM1_s3 (q : CallT) (k : Int) (m : Int) (t : Int) (a : Int) (s : Int) (o : AO) (n : Nat) (b : Bool) : ASt := mkSt [(0, o), (1, AO.cells [AV.int IntKind.i64 k, AV.int IntKind.u64 m, AV.int IntKind.u64 t, AV.int IntKind.u64 a, AV.int IntKind.u64 s, AV.slice0] true), (2, AO.cells [AV.int IntKind.i64 k, AV.int IntKind.u64 m, AV.int IntKind.u64 t, AV.int IntKind.u64 a, AV.int IntKind.u64 (Int.ofNat 0), AV.slice none 0 (Cap.known 0)] true), (3, AO.cells [AV.int IntKind.i64 k, AV.int IntKind.u64 m, AV.int IntKind.u64 t, AV.int IntKind.u64 a, AV.int IntKind.u64 s, AV.slice0] true), (4, AO.cells [AV.int IntKind.i64 k, AV.int IntKind.u64 m, AV.int IntKind.u64 t, AV.int IntKind.u64 a, AV.int IntKind.u64 (Int.ofNat 0), AV.slice none 0 (Cap.known 0)] true)] 5
noncomputable def vcM1_s4 (q : CallT) (k : Int) (m : Int) (t : Int) (a : Int) (s : Int) (o : AO) (n : Nat) (b : Bool) : ASt := mkSt [] 5
noncomputable def vcM1_s5 (q : CallT) (k : Int) (m : Int) (t : Int) (a : Int) (s : Int) (o : AO) (n : Nat) (b : Bool) : ASt := mkSt [(0, o), (1, AO.cells [AV.int IntKind.i64 k, AV.int IntKind.u64 m, AV.int IntKind.u64 t, AV.int IntKind.u64 a, AV.int IntKind.u64 s, AV.slice0] true), (2, AO.cells [AV.int IntKind.i64 k, AV.int IntKind.u64 m, AV.int IntKind.u64 t, AV.int IntKind.u64 (Int.ofNat 0), AV.int IntKind.u64 (Int.ofNat 0), AV.slice none 0 (Cap.known 0)] true), (3, AO.cells [AV.int IntKind.i64 k, AV.int IntKind.u64 m, AV.int IntKind.u64 t, AV.int IntKind.u64 a, AV.int IntKind.u64 s, AV.slice0] true), (4, AO.cells [AV.int IntKind.i64 k, AV.int IntKind.u64 m, AV.int IntKind.u64 t, AV.int IntKind.u64 (Int.ofNat 0), AV.int IntKind.u64 (Int.ofNat 0), AV.slice none 0 (Cap.known 0)] true)] 5
noncomputable def vcM1_s6 (q : CallT) (k : Int) (m : Int) (t : Int) (a : Int) (s : Int) (o : AO) (n : Nat) (b : Bool) : ASt := mkSt [] 3
theorem vcM1 (q : CallT) (k : Int) (m : Int) (t : Int) (a : Int) (s : Int) (o : AO) (n : Nat) (b : Bool) (Q : AV × ASt → Prop) :
  (ifB (!eqF m (Int.ofNat 0)) (ifB (!eqF t (Int.ofNat 0)) (ifB (eqF k (Int.ofNat 2)) (aLoad E 25 (AV.ptr (some (1, 5))) (vcM1_s0 q k m t a s o n b) = some (AV.slice0, vcM1_s0 q k m t a s o n b) ∧ holdsO [(some AV.slice0, AV.slice0)] ∧ ifB (ltF (Int.ofNat 0) s) (aBuiltinM E Builtin.len [25] [AV.slice0] (vcM1_s1 q k m t a s o n b) = some (AV.int IntKind.i64 (Int.ofNat 0), vcM1_s1 q k m t a s o n b) ∧ Q (AV.bool false, vcM1_s2 q k m t a s o n b)) (Q (AV.bool false, vcM1_s2 q k m t a s o n b))) (ifB (eqF k (Int.ofNat 3)) (ifB (eqF k k) (ifB (eqF m m) (ifB (eqF t t) (ifB (eqF a a) (ifB (eqF s (Int.ofNat 0)) ((M E (drawA E) (sm q) 45).call 65 [AV.slice0, AV.slice none 0 (Cap.known 0)] (vcM1_s3 q k m t a s o n b) = some (AV.bool b, vcM1_s3 q k m t a s o n b) ∧ ifB b (Q (AV.bool true, vcM1_s4 q k m t a s o n b)) (Q (AV.bool false, vcM1_s4 q k m t a s o n b))) (Q (AV.bool false, vcM1_s4 q k m t a s o n b))) (Q (AV.bool false, vcM1_s4 q k m t a s o n b))) (Q (AV.bool false, vcM1_s4 q k m t a s o n b))) (Q (AV.bool false, vcM1_s4 q k m t a s o n b))) (Q (AV.bool false, vcM1_s4 q k m t a s o n b))) (ifB (eqF k (Int.ofNat 1)) (ifB (eqF k k) (ifB (eqF m m) (ifB (eqF t t) (ifB (eqF a (Int.ofNat 0)) (ifB (eqF s (Int.ofNat 0)) ((M E (drawA E) (sm q) 45).call 65 [AV.slice0, AV.slice none 0 (Cap.known 0)] (vcM1_s5 q k m t a s o n b) = some (AV.bool b, vcM1_s5 q k m t a s o n b) ∧ ifB b (Q (AV.bool true, vcM1_s4 q k m t a s o n b)) (Q (AV.bool false, vcM1_s4 q k m t a s o n b))) (Q (AV.bool false, vcM1_s4 q k m t a s o n b))) (Q (AV.bool false, vcM1_s4 q k m t a s o n b))) (Q (AV.bool false, vcM1_s4 q k m t a s o n b))) (Q (AV.bool false, vcM1_s4 q k m t a s o n b))) (Q (AV.bool false, vcM1_s4 q k m t a s o n b))) (ifB (eqF k (Int.ofNat 4)) (ifB (eqF k k) (ifB (eqF m m) (ifB (eqF t t) (ifB (eqF a (Int.ofNat 0)) (ifB (eqF s (Int.ofNat 0)) ((M E (drawA E) (sm q) 45).call 65 [AV.slice0, AV.slice none 0 (Cap.known 0)] (vcM1_s5 q k m t a s o n b) = some (AV.bool b, vcM1_s5 q k m t a s o n b) ∧ ifB b (Q (AV.bool true, vcM1_s4 q k m t a s o n b)) (Q (AV.bool false, vcM1_s4 q k m t a s o n b))) (Q (AV.bool false, vcM1_s4 q k m t a s o n b))) (Q (AV.bool false, vcM1_s4 q k m t a s o n b))) (Q (AV.bool false, vcM1_s4 q k m t a s o n b))) (Q (AV.bool false, vcM1_s4 q k m t a s o n b))) (Q (AV.bool false, vcM1_s4 q k m t a s o n b))) (Q (AV.bool false, vcM1_s6 q k m t a s o n b)))))) (ifB (eqF k (Int.ofNat 1)) (ifB (eqF k (Int.ofNat 2)) (aLoad E 25 (AV.ptr (some (1, 5))) (vcM1_s0 q k m t a s o n b) = some (AV.slice0, vcM1_s0 q k m t a s o n b) ∧ holdsO [(some AV.slice0, AV.slice0)] ∧ ifB (ltF (Int.ofNat 0) s) (aBuiltinM E Builtin.len [25] [AV.slice0] (vcM1_s1 q k m t a s o n b) = some (AV.int IntKind.i64 (Int.ofNat 0), vcM1_s1 q k m t a s o n b) ∧ Q (AV.bool false, vcM1_s2 q k m t a s o n b)) (Q (AV.bool false, vcM1_s2 q k m t a s o n b))) (ifB (eqF k (Int.ofNat 3)) (ifB (eqF k k) (ifB (eqF m m) (ifB (eqF t t) (ifB (eqF a a) (ifB (eqF s (Int.ofNat 0)) ((M E (drawA E) (sm q) 45).call 65 [AV.slice0, AV.slice none 0 (Cap.known 0)] (vcM1_s3 q k m t a s o n b) = some (AV.bool b, vcM1_s3 q k m t a s o n b) ∧ ifB b (Q (AV.bool true, vcM1_s4 q k m t a s o n b)) (Q (AV.bool false, vcM1_s4 q k m t a s o n b))) (Q (AV.bool false, vcM1_s4 q k m t a s o n b))) (Q (AV.bool false, vcM1_s4 q k m t a s o n b))) (Q (AV.bool false, vcM1_s4 q k m t a s o n b))) (Q (AV.bool false, vcM1_s4 q k m t a s o n b))) (Q (AV.bool false, vcM1_s4 q k m t a s o n b))) (ifB (eqF k (Int.ofNat 1)) (ifB (eqF k k) (ifB (eqF m m) (ifB (eqF t t) (ifB (eqF a (Int.ofNat 0)) (ifB (eqF s (Int.ofNat 0)) ((M E (drawA E) (sm q) 45).call 65 [AV.slice0, AV.slice none 0 (Cap.known 0)] (vcM1_s5 q k m t a s o n b) = some (AV.bool b, vcM1_s5 q k m t a s o n b) ∧ ifB b (Q (AV.bool true, vcM1_s4 q k m t a s o n b)) (Q (AV.bool false, vcM1_s4 q k m t a s o n b))) (Q (AV.bool false, vcM1_s4 q k m t a s o n b))) (Q (AV.bool false, vcM1_s4 q k m t a s o n b))) (Q (AV.bool false, vcM1_s4 q k m t a s o n b))) (Q (AV.bool false, vcM1_s4 q k m t a s o n b))) (Q (AV.bool false, vcM1_s4 q k m t a s o n b))) (ifB (eqF k (Int.ofNat 4)) (ifB (eqF k k) (ifB (eqF m m) (ifB (eqF t t) (ifB (eqF a (Int.ofNat 0)) (ifB (eqF s (Int.ofNat 0)) ((M E (drawA E) (sm q) 45).call 65 [AV.slice0, AV.slice none 0 (Cap.known 0)] (vcM1_s5 q k m t a s o n b) = some (AV.bool b, vcM1_s5 q k m t a s o n b) ∧ ifB b (Q (AV.bool true, vcM1_s4 q k m t a s o n b)) (Q (AV.bool false, vcM1_s4 q k m t a s o n b))) (Q (AV.bool false, vcM1_s4 q k m t a s o n b))) (Q (AV.bool false, vcM1_s4 q k m t a s o n b))) (Q (AV.bool false, vcM1_s4 q k m t a s o n b))) (Q (AV.bool false, vcM1_s4 q k m t a s o n b))) (Q (AV.bool false, vcM1_s4 q k m t a s o n b))) (Q (AV.bool false, vcM1_s6 q k m t a s o n b)))))) (ifB (eqF k (Int.ofNat 2)) (aLoad E 25 (AV.ptr (some (1, 5))) (vcM1_s0 q k m t a s o n b) = some (AV.slice0, vcM1_s0 q k m t a s o n b) ∧ holdsO [(some AV.slice0, AV.slice0)] ∧ Q (AV.bool false, vcM1_s2 q k m t a s o n b)) (ifB (eqF k (Int.ofNat 3)) (Q (AV.bool false, vcM1_s6 q k m t a s o n b)) (ifB (eqF k (Int.ofNat 1)) (Q (AV.bool false, vcM1_s6 q k m t a s o n b)) (ifB (eqF k (Int.ofNat 4)) (Q (AV.bool false, vcM1_s6 q k m t a s o n b)) (Q (AV.bool false, vcM1_s6 q k m t a s o n b)))))))) (ifB (eqF k (Int.ofNat 2)) (aLoad E 25 (AV.ptr (some (1, 5))) (vcM1_s0 q k m t a s o n b) = some (AV.slice0, vcM1_s0 q k m t a s o n b) ∧ holdsO [(some AV.slice0, AV.slice0)] ∧ Q (AV.bool false, vcM1_s2 q k m t a s o n b)) (ifB (eqF k (Int.ofNat 3)) (Q (AV.bool false, vcM1_s6 q k m t a s o n b)) (ifB (eqF k (Int.ofNat 1)) (Q (AV.bool false, vcM1_s6 q k m t a s o n b)) (ifB (eqF k (Int.ofNat 4)) (Q (AV.bool false, vcM1_s6 q k m t a s o n b)) (Q (AV.bool false, vcM1_s6 q k m t a s o n b))))))) =
  (t581 q k m t a s o n b).allY (fun r => Q (r.1, canS [] r.2)) (An.b (An.b (An.b (An.v (AV.slice0, vcM1_s0 q k m t a s o n b) (An.b (An.v (AV.int IntKind.i64 (Int.ofNat 0), vcM1_s1 q k m t a s o n b) (An.b An.nil An.nil)) An.nil)) (An.b (An.b (An.b (An.b (An.b (An.b (An.v (AV.bool b, vcM1_s3 q k m t a s o n b) (An.b An.nil An.nil)) An.nil) An.nil) An.nil) An.nil) An.nil) (An.b (An.b (An.b (An.b (An.b (An.b (An.v (AV.bool b, vcM1_s5 q k m t a s o n b) (An.b An.nil An.nil)) An.nil) An.nil) An.nil) An.nil) An.nil) (An.b (An.b (An.b (An.b (An.b (An.b (An.v (AV.bool b, vcM1_s5 q k m t a s o n b) (An.b An.nil An.nil)) An.nil) An.nil) An.nil) An.nil) An.nil) An.nil)))) (An.b (An.b (An.v (AV.slice0, vcM1_s0 q k m t a s o n b) (An.b (An.v (AV.int IntKind.i64 (Int.ofNat 0), vcM1_s1 q k m t a s o n b) (An.b An.nil An.nil)) An.nil)) (An.b (An.b (An.b (An.b (An.b (An.b (An.v (AV.bool b, vcM1_s3 q k m t a s o n b) (An.b An.nil An.nil)) An.nil) An.nil) An.nil) An.nil) An.nil) (An.b (An.b (An.b (An.b (An.b (An.b (An.v (AV.bool b, vcM1_s5 q k m t a s o n b) (An.b An.nil An.nil)) An.nil) An.nil) An.nil) An.nil) An.nil) (An.b (An.b (An.b (An.b (An.b (An.b (An.v (AV.bool b, vcM1_s5 q k m t a s o n b) (An.b An.nil An.nil)) An.nil) An.nil) An.nil) An.nil) An.nil) An.nil)))) (An.b (An.v (AV.slice0, vcM1_s0 q k m t a s o n b) An.nil) (An.b An.nil (An.b An.nil (An.b An.nil An.nil)))))) (An.b (An.v (AV.slice0, vcM1_s0 q k m t a s o n b) An.nil) (An.b An.nil (An.b An.nil (An.b An.nil An.nil))))) := by kernel_rfl
noncomputable def vcM2_s0 (q : CallT) (k : Int) (m : Int) (t : Int) (a : Int) (s : Int) (o : AO) (n : Nat) (b : Bool) : ASt := mkSt [(0, o), (1, AO.cells [AV.int IntKind.i64 k, AV.int IntKind.u64 m, AV.int IntKind.u64 t, AV.int IntKind.u64 a, AV.int IntKind.u64 s, AV.slice (some (0, 0)) n (Cap.atl n)] true), (2, AO.cells [AV.int IntKind.i64 k, AV.int IntKind.u64 m, AV.int IntKind.u64 t, AV.int IntKind.u64 (Int.ofNat 0), AV.int IntKind.u64 (Int.ofNat 0), AV.slice none 0 (Cap.known 0)] true)] 11
noncomputable def vcM2_s1 (q : CallT) (k : Int) (m : Int) (t : Int) (a : Int) (s : Int) (o : AO) (n : Nat) (b : Bool) : ASt := mkSt [(0, o), (1, AO.cells [AV.int IntKind.i64 k, AV.int IntKind.u64 m, AV.int IntKind.u64 t, AV.int IntKind.u64 a, AV.int IntKind.u64 s, AV.slice (some (0, 0)) n (Cap.atl n)] true), (2, AO.cells [AV.int IntKind.i64 k, AV.int IntKind.u64 m, AV.int IntKind.u64 t, AV.int IntKind.u64 (Int.ofNat 0), AV.int IntKind.u64 s, AV.slice (some (0, 0)) n (Cap.atl n)] true)] 11
noncomputable def vcM2_s2 (q : CallT) (k : Int) (m : Int) (t : Int) (a : Int) (s : Int) (o : AO) (n : Nat) (b : Bool) : ASt := mkSt [(0, o), (1, AO.cells [AV.int IntKind.i64 k, AV.int IntKind.u64 m, AV.int IntKind.u64 t, AV.int IntKind.u64 a, AV.int IntKind.u64 s, AV.slice (some (0, 0)) n (Cap.atl n)] true), (2, AO.cells [AV.int IntKind.i64 k, AV.int IntKind.u64 m, AV.int IntKind.u64 t, AV.int IntKind.u64 a, AV.int IntKind.u64 s, AV.slice (some (0, 0)) n (Cap.atl n)] true), (11, AO.cells [AV.int IntKind.i64 k, AV.int IntKind.u64 m, AV.int IntKind.u64 t, AV.int IntKind.u64 a, AV.int IntKind.u64 s, AV.slice (some (0, 0)) n (Cap.atl n)] true), (12, AO.cells [AV.int IntKind.i64 k, AV.int IntKind.u64 m, AV.int IntKind.u64 t, AV.int IntKind.u64 a, AV.int IntKind.u64 s, AV.slice (some (0, 0)) n (Cap.atl n)] true)] 13
noncomputable def vcM2_s3 (q : CallT) (k : Int) (m : Int) (t : Int) (a : Int) (s : Int) (o : AO) (n : Nat) (b : Bool) : ASt := mkSt [] 13
noncomputable def vcM2_s4 (q : CallT) (k : Int) (m : Int) (t : Int) (a : Int) (s : Int) (o : AO) (n : Nat) (b : Bool) : ASt := mkSt [] 11
noncomputable def vcM2_s5 (q : CallT) (k : Int) (m : Int) (t : Int) (a : Int) (s : Int) (o : AO) (n : Nat) (b : Bool) : ASt := mkSt [(0, o), (1, AO.cells [AV.int IntKind.i64 k, AV.int IntKind.u64 m, AV.int IntKind.u64 t, AV.int IntKind.u64 a, AV.int IntKind.u64 s, AV.slice (some (0, 0)) n (Cap.atl n)] true), (2, AO.cells [AV.int IntKind.i64 k, AV.int IntKind.u64 m, AV.int IntKind.u64 t, AV.int IntKind.u64 a, AV.int IntKind.u64 (Int.ofNat 0), AV.slice none 0 (Cap.known 0)] true), (3, AO.cells [AV.int IntKind.i64 k, AV.int IntKind.u64 m, AV.int IntKind.u64 t, AV.int IntKind.u64 a, AV.int IntKind.u64 s, AV.slice (some (0, 0)) n (Cap.atl n)] true), (4, AO.cells [AV.int IntKind.i64 k, AV.int IntKind.u64 m, AV.int IntKind.u64 t, AV.int IntKind.u64 a, AV.int IntKind.u64 (Int.ofNat 0), AV.slice none 0 (Cap.known 0)] true)] 5
noncomputable def vcM2_s6 (q : CallT) (k : Int) (m : Int) (t : Int) (a : Int) (s : Int) (o : AO) (n : Nat) (b : Bool) : ASt := mkSt [] 5
noncomputable def vcM2_s7 (q : CallT) (k : Int) (m : Int) (t : Int) (a : Int) (s : Int) (o : AO) (n : Nat) (b : Bool) : ASt := mkSt [(0, o), (1, AO.cells [AV.int IntKind.i64 k, AV.int IntKind.u64 m, AV.int IntKind.u64 t, AV.int IntKind.u64 a, AV.int IntKind.u64 s, AV.slice (some (0, 0)) n (Cap.atl n)] true), (2, AO.cells [AV.int IntKind.i64 k, AV.int IntKind.u64 m, AV.int IntKind.u64 t, AV.int IntKind.u64 (Int.ofNat 0), AV.int IntKind.u64 (Int.ofNat 0), AV.slice none 0 (Cap.known 0)] true), (3, AO.cells [AV.int IntKind.i64 k, AV.int IntKind.u64 m, AV.int IntKind.u64 t, AV.int IntKind.u64 a, AV.int IntKind.u64 s, AV.slice (some (0, 0)) n (Cap.atl n)] true), (4, AO.cells [AV.int IntKind.i64 k, AV.int IntKind.u64 m, AV.int IntKind.u64 t, AV.int IntKind.u64 (Int.ofNat 0), AV.int IntKind.u64 (Int.ofNat 0), AV.slice none 0 (Cap.known 0)] true)] 5
noncomputable def vcM2_s8 (q : CallT) (k : Int) (m : Int) (t : Int) (a : Int) (s : Int) (o : AO) (n : Nat) (b : Bool) : ASt := mkSt [] 3
theorem vcM2 (q : CallT) (k : Int) (m : Int) (t : Int) (a : Int) (s : Int) (o : AO) (n : Nat) (b : Bool) (Q : AV × ASt → Prop) :
  (ifB (!eqF m (Int.ofNat 0)) (ifB (!eqF t (Int.ofNat 0)) (ifB (eqF k (Int.ofNat 2)) (aLoad E 25 (AV.ptr (some (1, 5))) (vcM2_s0 q k m t a s o n b) = some (AV.slice (some (0, 0)) n (Cap.atl n), vcM2_s0 q k m t a s o n b) ∧ holdsO [(some (AV.slice (some (0, 0)) n (Cap.atl n)), AV.slice (some (0, 0)) n (Cap.atl n))] ∧ ifB (ltF (Int.ofNat 0) s) (aBuiltinM E Builtin.len [25] [AV.slice (some (0, 0)) n (Cap.atl n)] (vcM2_s1 q k m t a s o n b) = some (AV.int IntKind.i64 (Int.ofNat n), vcM2_s1 q k m t a s o n b) ∧ ifB (!ltF (Int.ofNat n) (Int.ofNat 1)) (aBuiltinM E Builtin.len [25] [AV.slice (some (0, 0)) n (Cap.atl n)] (vcM2_s1 q k m t a s o n b) = some (AV.int IntKind.i64 (Int.ofNat n), vcM2_s1 q k m t a s o n b) ∧ ifB (!ltF (Int.ofNat 4000) (Int.ofNat n)) (ifB (eqF k k) (ifB (eqF m m) (ifB (eqF t t) (ifB (eqF a a) (ifB (eqF s s) ((M E (drawA E) (sm q) 45).call 65 [AV.slice (some (0, 0)) n (Cap.atl n), AV.slice (some (0, 0)) n (Cap.atl n)] (vcM2_s2 q k m t a s o n b) = some (AV.bool b, vcM2_s2 q k m t a s o n b) ∧ ifB b (Q (AV.bool true, vcM2_s3 q k m t a s o n b)) (Q (AV.bool false, vcM2_s3 q k m t a s o n b))) (Q (AV.bool false, vcM2_s3 q k m t a s o n b))) (Q (AV.bool false, vcM2_s3 q k m t a s o n b))) (Q (AV.bool false, vcM2_s3 q k m t a s o n b))) (Q (AV.bool false, vcM2_s3 q k m t a s o n b))) (Q (AV.bool false, vcM2_s3 q k m t a s o n b))) (Q (AV.bool false, vcM2_s4 q k m t a s o n b))) (Q (AV.bool false, vcM2_s4 q k m t a s o n b))) (Q (AV.bool false, vcM2_s4 q k m t a s o n b))) (ifB (eqF k (Int.ofNat 3)) (ifB (eqF k k) (ifB (eqF m m) (ifB (eqF t t) (ifB (eqF a a) (ifB (eqF s (Int.ofNat 0)) ((M E (drawA E) (sm q) 45).call 65 [AV.slice (some (0, 0)) n (Cap.atl n), AV.slice none 0 (Cap.known 0)] (vcM2_s5 q k m t a s o n b) = some (AV.bool b, vcM2_s5 q k m t a s o n b) ∧ ifB b (Q (AV.bool true, vcM2_s6 q k m t a s o n b)) (Q (AV.bool false, vcM2_s6 q k m t a s o n b))) (Q (AV.bool false, vcM2_s6 q k m t a s o n b))) (Q (AV.bool false, vcM2_s6 q k m t a s o n b))) (Q (AV.bool false, vcM2_s6 q k m t a s o n b))) (Q (AV.bool false, vcM2_s6 q k m t a s o n b))) (Q (AV.bool false, vcM2_s6 q k m t a s o n b))) (ifB (eqF k (Int.ofNat 1)) (ifB (eqF k k) (ifB (eqF m m) (ifB (eqF t t) (ifB (eqF a (Int.ofNat 0)) (ifB (eqF s (Int.ofNat 0)) ((M E (drawA E) (sm q) 45).call 65 [AV.slice (some (0, 0)) n (Cap.atl n), AV.slice none 0 (Cap.known 0)] (vcM2_s7 q k m t a s o n b) = some (AV.bool b, vcM2_s7 q k m t a s o n b) ∧ ifB b (Q (AV.bool true, vcM2_s6 q k m t a s o n b)) (Q (AV.bool false, vcM2_s6 q k m t a s o n b))) (Q (AV.bool false, vcM2_s6 q k m t a s o n b))) (Q (AV.bool false, vcM2_s6 q k m t a s o n b))) (Q (AV.bool false, vcM2_s6 q k m t a s o n b))) (Q (AV.bool false, vcM2_s6 q k m t a s o n b))) (Q (AV.bool false, vcM2_s6 q k m t a s o n b))) (ifB (eqF k (Int.ofNat 4)) (ifB (eqF k k) (ifB (eqF m m) (ifB (eqF t t) (ifB (eqF a (Int.ofNat 0)) (ifB (eqF s (Int.ofNat 0)) ((M E (drawA E) (sm q) 45).call 65 [AV.slice (some (0, 0)) n (Cap.atl n), AV.slice none 0 (Cap.known 0)] (vcM2_s7 q k m t a s o n b) = some (AV.bool b, vcM2_s7 q k m t a s o n b) ∧ ifB b (Q (AV.bool true, vcM2_s6 q k m t a s o n b)) (Q (AV.bool false, vcM2_s6 q k m t a s o n b))) (Q (AV.bool false, vcM2_s6 q k m t a s o n b))) (Q (AV.bool false, vcM2_s6 q k m t a s o n b))) (Q (AV.bool false, vcM2_s6 q k m t a s o n b))) (Q (AV.bool false, vcM2_s6 q k m t a s o n b))) (Q (AV.bool false, vcM2_s6 q k m t a s o n b))) (Q (AV.bool false, vcM2_s8 q k m t a s o n b)))))) (ifB (eqF k (Int.ofNat 1)) (ifB (eqF k (Int.ofNat 2)) (aLoad E 25 (AV.ptr (some (1, 5))) (vcM2_s0 q k m t a s o n b) = some (AV.slice (some (0, 0)) n (Cap.atl n), vcM2_s0 q k m t a s o n b) ∧ holdsO [(some (AV.slice (some (0, 0)) n (Cap.atl n)), AV.slice (some (0, 0)) n (Cap.atl n))] ∧ ifB (ltF (Int.ofNat 0) s) (aBuiltinM E Builtin.len [25] [AV.slice (some (0, 0)) n (Cap.atl n)] (vcM2_s1 q k m t a s o n b) = some (AV.int IntKind.i64 (Int.ofNat n), vcM2_s1 q k m t a s o n b) ∧ ifB (!ltF (Int.ofNat n) (Int.ofNat 1)) (aBuiltinM E Builtin.len [25] [AV.slice (some (0, 0)) n (Cap.atl n)] (vcM2_s1 q k m t a s o n b) = some (AV.int IntKind.i64 (Int.ofNat n), vcM2_s1 q k m t a s o n b) ∧ ifB (!ltF (Int.ofNat 4000) (Int.ofNat n)) (ifB (eqF k k) (ifB (eqF m m) (ifB (eqF t t) (ifB (eqF a a) (ifB (eqF s s) ((M E (drawA E) (sm q) 45).call 65 [AV.slice (some (0, 0)) n (Cap.atl n), AV.slice (some (0, 0)) n (Cap.atl n)] (vcM2_s2 q k m t a s o n b) = some (AV.bool b, vcM2_s2 q k m t a s o n b) ∧ ifB b (Q (AV.bool true, vcM2_s3 q k m t a s o n b)) (Q (AV.bool false, vcM2_s3 q k m t a s o n b))) (Q (AV.bool false, vcM2_s3 q k m t a s o n b))) (Q (AV.bool false, vcM2_s3 q k m t a s o n b))) (Q (AV.bool false, vcM2_s3 q k m t a s o n b))) (Q (AV.bool false, vcM2_s3 q k m t a s o n b))) (Q (AV.bool false, vcM2_s3 q k m t a s o n b))) (Q (AV.bool false, vcM2_s4 q k m t a s o n b))) (Q (AV.bool false, vcM2_s4 q k m t a s o n b))) (Q (AV.bool false, vcM2_s4 q k m t a s o n b))) (ifB (eqF k (Int.ofNat 3)) (ifB (eqF k k) (ifB (eqF m m) (ifB (eqF t t) (ifB (eqF a a) (ifB (eqF s (Int.ofNat 0)) ((M E (drawA E) (sm q) 45).call 65 [AV.slice (some (0, 0)) n (Cap.atl n), AV.slice none 0 (Cap.known 0)] (vcM2_s5 q k m t a s o n b) = some (AV.bool b, vcM2_s5 q k m t a s o n b) ∧ ifB b (Q (AV.bool true, vcM2_s6 q k m t a s o n b)) (Q (AV.bool false, vcM2_s6 q k m t a s o n b))) (Q (AV.bool false, vcM2_s6 q k m t a s o n b))) (Q (AV.bool false, vcM2_s6 q k m t a s o n b))) (Q (AV.bool false, vcM2_s6 q k m t a s o n b))) (Q (AV.bool false, vcM2_s6 q k m t a s o n b))) (Q (AV.bool false, vcM2_s6 q k m t a s o n b))) (ifB (eqF k (Int.ofNat 1)) (ifB (eqF k k) (ifB (eqF m m) (ifB (eqF t t) (ifB (eqF a (Int.ofNat 0)) (ifB (eqF s (Int.ofNat 0)) ((M E (drawA E) (sm q) 45).call 65 [AV.slice (some (0, 0)) n (Cap.atl n), AV.slice none 0 (Cap.known 0)] (vcM2_s7 q k m t a s o n b) = some (AV.bool b, vcM2_s7 q k m t a s o n b) ∧ ifB b (Q (AV.bool true, vcM2_s6 q k m t a s o n b)) (Q (AV.bool false, vcM2_s6 q k m t a s o n b))) (Q (AV.bool false, vcM2_s6 q k m t a s o n b))) (Q (AV.bool false, vcM2_s6 q k m t a s o n b))) (Q (AV.bool false, vcM2_s6 q k m t a s o n b))) (Q (AV.bool false, vcM2_s6 q k m t a s o n b))) (Q (AV.bool false, vcM2_s6 q k m t a s o n b))) (ifB (eqF k (Int.ofNat 4)) (ifB (eqF k k) (ifB (eqF m m) (ifB (eqF t t) (ifB (eqF a (Int.ofNat 0)) (ifB (eqF s (Int.ofNat 0)) ((M E (drawA E) (sm q) 45).call 65 [AV.slice (some (0, 0)) n (Cap.atl n), AV.slice none 0 (Cap.known 0)] (vcM2_s7 q k m t a s o n b) = some (AV.bool b, vcM2_s7 q k m t a s o n b) ∧ ifB b (Q (AV.bool true, vcM2_s6 q k m t a s o n b)) (Q (AV.bool false, vcM2_s6 q k m t a s o n b))) (Q (AV.bool false, vcM2_s6 q k m t a s o n b))) (Q (AV.bool false, vcM2_s6 q k m t a s o n b))) (Q (AV.bool false, vcM2_s6 q k m t a s o n b))) (Q (AV.bool false, vcM2_s6 q k m t a s o n b))) (Q (AV.bool false, vcM2_s6 q k m t a s o n b))) (Q (AV.bool false, vcM2_s8 q k m t a s o n b)))))) (ifB (eqF k (Int.ofNat 2)) (aLoad E 25 (AV.ptr (some (1, 5))) (vcM2_s0 q k m t a s o n b) = some (AV.slice (some (0, 0)) n (Cap.atl n), vcM2_s0 q k m t a s o n b) ∧ holdsO [(some (AV.slice (some (0, 0)) n (Cap.atl n)), AV.slice (some (0, 0)) n (Cap.atl n))] ∧ Q (AV.bool false, vcM2_s4 q k m t a s o n b)) (ifB (eqF k (Int.ofNat 3)) (Q (AV.bool false, vcM2_s8 q k m t a s o n b)) (ifB (eqF k (Int.ofNat 1)) (Q (AV.bool false, vcM2_s8 q k m t a s o n b)) (ifB (eqF k (Int.ofNat 4)) (Q (AV.bool false, vcM2_s8 q k m t a s o n b)) (Q (AV.bool false, vcM2_s8 q k m t a s o n b)))))))) (ifB (eqF k (Int.ofNat 2)) (aLoad E 25 (AV.ptr (some (1, 5))) (vcM2_s0 q k m t a s o n b) = some (AV.slice (some (0, 0)) n (Cap.atl n), vcM2_s0 q k m t a s o n b) ∧ holdsO [(some (AV.slice (some (0, 0)) n (Cap.atl n)), AV.slice (some (0, 0)) n (Cap.atl n))] ∧ Q (AV.bool false, vcM2_s4 q k m t a s o n b)) (ifB (eqF k (Int.ofNat 3)) (Q (AV.bool false, vcM2_s8 q k m t a s o n b)) (ifB (eqF k (Int.ofNat 1)) (Q (AV.bool false, vcM2_s8 q k m t a s o n b)) (ifB (eqF k (Int.ofNat 4)) (Q (AV.bool false, vcM2_s8 q k m t a s o n b)) (Q (AV.bool false, vcM2_s8 q k m t a s o n b))))))) =
  (t582 q k m t a s o n b).allY (fun r => Q (r.1, canS [] r.2)) (An.b (An.b (An.b (An.v (AV.slice (some (0, 0)) n (Cap.atl n), vcM2_s0 q k m t a s o n b) (An.b (An.v (AV.int IntKind.i64 (Int.ofNat n), vcM2_s1 q k m t a s o n b) (An.b (An.v (AV.int IntKind.i64 (Int.ofNat n), vcM2_s1 q k m t a s o n b) (An.b (An.b (An.b (An.b (An.b (An.b (An.v (AV.bool b, vcM2_s2 q k m t a s o n b) (An.b An.nil An.nil)) An.nil) An.nil) An.nil) An.nil) An.nil) An.nil)) An.nil)) An.nil)) (An.b (An.b (An.b (An.b (An.b (An.b (An.v (AV.bool b, vcM2_s5 q k m t a s o n b) (An.b An.nil An.nil)) An.nil) An.nil) An.nil) An.nil) An.nil) (An.b (An.b (An.b (An.b (An.b (An.b (An.v (AV.bool b, vcM2_s7 q k m t a s o n b) (An.b An.nil An.nil)) An.nil) An.nil) An.nil) An.nil) An.nil) (An.b (An.b (An.b (An.b (An.b (An.b (An.v (AV.bool b, vcM2_s7 q k m t a s o n b) (An.b An.nil An.nil)) An.nil) An.nil) An.nil) An.nil) An.nil) An.nil)))) (An.b (An.b (An.v (AV.slice (some (0, 0)) n (Cap.atl n), vcM2_s0 q k m t a s o n b) (An.b (An.v (AV.int IntKind.i64 (Int.ofNat n), vcM2_s1 q k m t a s o n b) (An.b (An.v (AV.int IntKind.i64 (Int.ofNat n), vcM2_s1 q k m t a s o n b) (An.b (An.b (An.b (An.b (An.b (An.b (An.v (AV.bool b, vcM2_s2 q k m t a s o n b) (An.b An.nil An.nil)) An.nil) An.nil) An.nil) An.nil) An.nil) An.nil)) An.nil)) An.nil)) (An.b (An.b (An.b (An.b (An.b (An.b (An.v (AV.bool b, vcM2_s5 q k m t a s o n b) (An.b An.nil An.nil)) An.nil) An.nil) An.nil) An.nil) An.nil) (An.b (An.b (An.b (An.b (An.b (An.b (An.v (AV.bool b, vcM2_s7 q k m t a s o n b) (An.b An.nil An.nil)) An.nil) An.nil) An.nil) An.nil) An.nil) (An.b (An.b (An.b (An.b (An.b (An.b (An.v (AV.bool b, vcM2_s7 q k m t a s o n b) (An.b An.nil An.nil)) An.nil) An.nil) An.nil) An.nil) An.nil) An.nil)))) (An.b (An.v (AV.slice (some (0, 0)) n (Cap.atl n), vcM2_s0 q k m t a s o n b) An.nil) (An.b An.nil (An.b An.nil (An.b An.nil An.nil)))))) (An.b (An.v (AV.slice (some (0, 0)) n (Cap.atl n), vcM2_s0 q k m t a s o n b) An.nil) (An.b An.nil (An.b An.nil (An.b An.nil An.nil))))) := by kernel_rfl

/-! ### packet.May -/
def mayB (k m t a s : Int) (n : Nat) : Bool :=
  bif eqF m (.ofNat 0) then false else bif (bif eqF t (.ofNat 0) then !eqF k (.ofNat 1) else false) then false else
  bif eqF k (.ofNat 2) then (bif ltF (.ofNat 0) s then (bif ltF (.ofNat n) (.ofNat 1) then false else !ltF (.ofNat 4000) (.ofNat n)) else false) else
  bif eqF k (.ofNat 3) then (bif eqF s (.ofNat 0) then Nat.beq n 0 else false) else
  bif eqF k (.ofNat 1) then (bif eqF a (.ofNat 0) then (bif eqF s (.ofNat 0) then Nat.beq n 0 else false) else false) else
  bif eqF k (.ofNat 4) then (bif eqF a (.ofNat 0) then (bif eqF s (.ofNat 0) then Nat.beq n 0 else false) else false) else false
theorem Eok : Env.Ok Try.prog E := envEx_ok (xs := []) ⟨⟨Try.func22, Try.call22⟩, ⟨Try.func58, Try.call58⟩, ⟨Try.func90, Try.call90⟩, ⟨Try.func78, Try.call78⟩, ⟨Try.func79, Try.call79⟩, ⟨Try.func37, Try.call37⟩, ⟨Try.func44, Try.call44⟩, ⟨Try.func38, Try.call38⟩, ⟨Try.func14, Try.call14⟩, ⟨Try.func47, Try.call47⟩, trivial⟩ trivial (by kernel_rfl)
theorem av2 (n : Nat) : avEq (v2 n) (v2 n) = true := by
  simp [avEq, v2, locEq, capEq]
theorem l01 : ltF (.ofNat 0) (.ofNat 1) = true := rfl
noncomputable def qE : CallT := eqC 65
theorem qE_ok : CallsOK Try.prog qE := eqC_ok fun h0 h1 hb => eqb.equal h0 h1 hb
theorem smE_ok : CallsOK Try.prog (sm qE) := onlyC_ok qE_ok
theorem sm_eq {S : ASt} {v w : AV} {a b : List Nat} {j : Nat} (h1 : SlB S v a) (h2 : SlB S w b) (h3 : a.length < 9223372036854775808) : (M E (drawA E) (sm qE) (j + 1)).call 65 [v, w] S = some (.bool (decide (a = b)), S) :=
  call_at (onlyC_at rfl (eqC_at h1 h2 h3))

theorem may0 (k m t a s : Int) : AtMem Try.prog 58 [pV k m t a s v0] (mkSt [(0, .dead)] 1) (.bool (mayB k m t a s 0)) := by
  have e : ∀ {S : ASt} {j : Nat}, (M E (drawA E) (sm qE) (j + 1)).call 65 [v0, v0] S = some (.bool true, S) := fun {S j} => sm_eq (a := []) (b := []) .nil .nil (by simp)
  refine AtMem.of_tm Eok smE_ok (Eq.mp (vcM0 qE k m t a s .dead 0 true (fun r => r.1 = .bool (mayB k m t a s 0))) ?_)
  repeat' (first | refine ifB_mk (fun h => ?_) (fun h => ?_) | refine And.intro ?_ ?_)
  all_goals first
    | exact e
    | (simp [holdsO]; done)
    | (refine congrArg AV.bool ?_; simp_all [mayB, eqF_self, l01]; done)
    | (show avEq _ _ = true; rfl)
    | (refine congrArg AV.bool ?_; simp_all (config := { decide := true }) [mayB, eqF_self]; done)
    | (show aLoad _ _ _ _ = _; kernel_rfl)
    | (show aBuiltinM _ _ _ _ _ = _; kernel_rfl)
    | skip

theorem may1 (k m t a s : Int) : AtMem Try.prog 58 [pV k m t a s v1] (mkSt [(0, .dead)] 1) (.bool (mayB k m t a s 0)) := by
  have e : ∀ {S : ASt} {j : Nat}, (M E (drawA E) (sm qE) (j + 1)).call 65 [v1, v0] S = some (.bool true, S) := fun {S j} => sm_eq (a := []) (b := []) .zero .nil (by simp)
  refine AtMem.of_tm Eok smE_ok (Eq.mp (vcM1 qE k m t a s .dead 0 true (fun r => r.1 = .bool (mayB k m t a s 0))) ?_)
  repeat' (first | refine ifB_mk (fun h => ?_) (fun h => ?_) | refine And.intro ?_ ?_)
  all_goals first
    | exact e
    | (simp [holdsO]; done)
    | (refine congrArg AV.bool ?_; simp_all [mayB, eqF_self, l01]; done)
    | (show avEq _ _ = true; rfl)
    | (refine congrArg AV.bool ?_; simp_all (config := { decide := true }) [mayB, eqF_self]; done)
    | (show aLoad _ _ _ _ = _; kernel_rfl)
    | (show aBuiltinM _ _ _ _ _ = _; kernel_rfl)
    | skip

theorem may2 (k m t a s : Int) {l : List Nat} (h0 : l ≠ []) (hb : l.length < 9223372036854775808) : AtMem Try.prog 58 [pV k m t a s (v2 l.length)] (mkSt [(0, .cells (l.map cellU) false)] 1) (.bool (mayB k m t a s l.length)) := by
  have n0 : Nat.beq l.length 0 = false := beq_f (by have := List.length_pos_iff.2 h0; omega)
  have n1 : ltF (.ofNat l.length) (.ofNat 1) = false := by rw [ltF_nn]; have := List.length_pos_iff.2 h0; simp; omega
  have sl : ∀ {S : ASt}, S.h.get 0 = some (.cells (l.map cellU) false) → SlB S (v2 l.length) l := fun {S} h => .row h takeU
  have e0 : ∀ {S : ASt} {j : Nat}, S.h.get 0 = some (.cells (l.map cellU) false) → (M E (drawA E) (sm qE) (j + 1)).call 65 [v2 l.length, v0] S = some (.bool false, S) := fun {S j} h => by
    exact (sm_eq (sl h) .nil hb).trans (by rw [decide_eq_false h0])
  have e2 : ∀ {S : ASt} {j : Nat}, S.h.get 0 = some (.cells (l.map cellU) false) → (M E (drawA E) (sm qE) (j + 1)).call 65 [v2 l.length, v2 l.length] S = some (.bool true, S) := fun {S j} h => by
    exact (sm_eq (sl h) (sl h) hb).trans (by rw [decide_eq_true rfl])
  by_cases hk : k = 2
  · have ek : eqF k (.ofNat 2) = true := by rw [eqF_eq]; simpa using hk
    have ek1 : eqF k (.ofNat 1) = false := by rw [eqF_eq]; simp; omega
    clear hk
    refine AtMem.of_tm Eok smE_ok (Eq.mp (vcM2 qE k m t a s (.cells (l.map cellU) false) l.length true (fun r => r.1 = .bool (mayB k m t a s l.length))) ?_)
    repeat' (first | refine ifB_mk (fun h => ?_) (fun h => ?_) | refine And.intro ?_ ?_)
    all_goals first
      | exact e2 (by kernel_rfl)
      | (exfalso; simp_all; done)
      | (simp [holdsO]; done)
      | (refine congrArg AV.bool ?_; simp_all [mayB, eqF_self]; done)
      | (show avEq _ _ = true; rfl)
      | exact av2 _
      | (show aLoad _ _ _ _ = _; kernel_rfl)
      | (show aBuiltinM _ _ _ _ _ = _; kernel_rfl)
      | skip
  · have ek : eqF k (.ofNat 2) = false := by rw [eqF_eq]; simpa using hk
    refine AtMem.of_tm Eok smE_ok (Eq.mp (vcM2 qE k m t a s (.cells (l.map cellU) false) l.length false (fun r => r.1 = .bool (mayB k m t a s l.length))) ?_)
    repeat' (first | refine ifB_mk (fun h => ?_) (fun h => ?_) | refine And.intro ?_ ?_)
    all_goals first
      | exact e0 (by kernel_rfl)
      | (exfalso; simp_all; done)
      | (simp [holdsO]; done)
      | (refine congrArg AV.bool ?_; simp_all [mayB, eqF_self]; done)
      | (show avEq _ _ = true; rfl)
      | exact av2 _
      | (show aLoad _ _ _ _ = _; kernel_rfl)
      | (show aBuiltinM _ _ _ _ _ = _; kernel_rfl)
      | skip
/-- **packet.May** -/
theorem may {S : ASt} {v : AV} {l : List Nat} (k m t a s : Int) (h : SlB S v l) (hb : l.length < 9223372036854775808) : Call1 Try.prog 58 [pV k m t a s v] S (.bool (mayB k m t a s l.length), S) := by
  obtain ⟨v1, o, r, A⟩ := h.ro 0
  have hc : v.isCell = true ∧ v1.isCell = true := by cases h <;> cases A <;> exact ⟨rfl, rfl⟩
  have hrun : AtMem Try.prog 58 [pV k m t a s v1] (mkSt [(0, o)] 1) (.bool (mayB k m t a s l.length)) := by
    cases A with
    | nil => exact may0 k m t a s
    | zero => exact may1 k m t a s
    | row h0 => exact may2 k m t a s h0 hb
  have ha : RoArg S 0 (pV k m t a s v) (pV k m t a s v1) o := RoArg.agg (pre := [.int .i64 k, .int .u64 m, .int .u64 t, .int .u64 a, .int .u64 s]) (post := []) r hc.1 hc.2 (fun c hc => by
    simp only [List.mem_cons, List.not_mem_nil, or_false] at hc
    rcases hc with rfl | rfl | rfl | rfl | rfl <;> simp [refsV]) (fun c hc => by cases hc)
  refine Call1.ro (os := [o]) hrun (by simp [refsV]) ⟨ha, trivial⟩ rfl fun j x hj => ?_
  have hg : (mkSt [(0, o)] 1).h.get j = if j = 0 then some o else none := by
    show ((T.e : T AO).set D 0 _).get j = _
    rw [T.get_set, T.get_e]
  rw [hg] at hj
  by_cases e0 : j = 0
  · subst e0; simpa using hj
  · simp [e0] at hj
end Go.Proofs.Ytlnohbilfogheaa.pkb
end

section
open Go Go.Ax Go.Proofs.Ytlnohbilfogheaa
namespace Go.Proofs.Ytlnohbilfogheaa.wri
set_option linter.unusedVariables false
noncomputable def fns : List (Nat × Func) := [(78, Try.f78), (79, Try.f79), (37, Try.f37), (44, Try.f44), (38, Try.f38), (14, Try.f14), (47, Try.f47)]
noncomputable def E : Env := envEx Try.prog [0, 3, 4, 5, 25, 28, 31, 33, 34, 61, 63, 89, 104] fns []
def fl0 : Fl := ⟨[], [], [], []⟩
def nI (n : Nat) : AV := .int .i64 (.ofNat n)
def sl0 (n : Nat) : AV := .slice (some (0, 0)) n (.atl n)
noncomputable def flsB : List (Nat × Fl) := [(38, ⟨[6, 12], [14, 16], [7], []⟩), (37, ⟨[], [46], [20], []⟩), (44, ⟨[], [7], [], []⟩), (79, ⟨[31], [], [], []⟩)]
noncomputable def tB (L n : Nat) (R r1 r2 : List AV) (o : AO) : Tr (AV × ASt) := (TM E noSum flsB fl0 60).call 38 [.ptr (some (1, 0)), sl0 n] (mkSt [(0, o), (1, .cells [.slice (some (2, 0)) L (.rest 1), .bool false] true), (2, .cells R true)] 3)
noncomputable def vcB_s0 (L : Nat) (n : Nat) (R : List AV) (r1 : List AV) (r2 : List AV) (o : AO) : ASt := mkSt [(0, o), (1, AO.cells [AV.slice (some (2, 0)) L (Cap.rest 1), AV.bool false] true), (2, AO.cells R true)] 3
noncomputable def vcB_s1 (L : Nat) (n : Nat) (R : List AV) (r1 : List AV) (r2 : List AV) (o : AO) : ASt := mkSt [(0, o), (1, AO.cells [AV.slice (some (2, 0)) L (Cap.rest 1), AV.bool true] true), (2, AO.cells R true)] 3
noncomputable def vcB_s2 (L : Nat) (n : Nat) (R : List AV) (r1 : List AV) (r2 : List AV) (o : AO) : ASt := mkSt [(0, o), (1, AO.cells [AV.slice (some (2, 0)) L (Cap.rest 1), AV.bool false] true), (2, AO.cells R true), (3, AO.cells [AV.int IntKind.u8 (wrapF IntKind.u8 (shrF (wrapF IntKind.u64 (Int.ofNat n)) 8)), AV.int IntKind.u8 (wrapF IntKind.u8 (shrF (wrapF IntKind.u64 (Int.ofNat n)) 0))] true)] 4
noncomputable def vcB_s3 (L : Nat) (n : Nat) (R : List AV) (r1 : List AV) (r2 : List AV) (o : AO) : ASt := mkSt [(0, o), (1, AO.cells [AV.slice (some (2, 0)) L (Cap.rest 1), AV.bool false] true), (2, AO.dead), (3, AO.cells [AV.int IntKind.u8 (wrapF IntKind.u8 (shrF (wrapF IntKind.u64 (Int.ofNat n)) 8)), AV.int IntKind.u8 (wrapF IntKind.u8 (shrF (wrapF IntKind.u64 (Int.ofNat n)) 0))] true), (4, AO.cells r1 true)] 5
noncomputable def vcB_s4 (L : Nat) (n : Nat) (R : List AV) (r1 : List AV) (r2 : List AV) (o : AO) : ASt := mkSt [(0, o), (1, AO.cells [AV.slice (some (4, 0)) (L + 2) (Cap.rest 1), AV.bool false] true), (2, AO.dead), (3, AO.cells [AV.int IntKind.u8 (wrapF IntKind.u8 (shrF (wrapF IntKind.u64 (Int.ofNat n)) 8)), AV.int IntKind.u8 (wrapF IntKind.u8 (shrF (wrapF IntKind.u64 (Int.ofNat n)) 0))] true), (4, AO.cells r1 true)] 5
noncomputable def vcB_s5 (L : Nat) (n : Nat) (R : List AV) (r1 : List AV) (r2 : List AV) (o : AO) : ASt := mkSt [(0, o), (1, AO.cells [AV.slice (some (4, 0)) (L + 2) (Cap.rest 1), AV.bool false] true), (2, AO.dead), (3, AO.cells [AV.int IntKind.u8 (wrapF IntKind.u8 (shrF (wrapF IntKind.u64 (Int.ofNat n)) 8)), AV.int IntKind.u8 (wrapF IntKind.u8 (shrF (wrapF IntKind.u64 (Int.ofNat n)) 0))] true), (4, AO.dead), (5, AO.cells r2 true)] 6
noncomputable def vcB_s6 (L : Nat) (n : Nat) (R : List AV) (r1 : List AV) (r2 : List AV) (o : AO) : ASt := mkSt [(0, o), (1, AO.cells [AV.slice (some (5, 0)) (L + 2 + n) (Cap.rest 1), AV.bool false] true), (2, AO.dead), (3, AO.cells [AV.int IntKind.u8 (wrapF IntKind.u8 (shrF (wrapF IntKind.u64 (Int.ofNat n)) 8)), AV.int IntKind.u8 (wrapF IntKind.u8 (shrF (wrapF IntKind.u64 (Int.ofNat n)) 0))] true), (4, AO.dead), (5, AO.cells r2 true)] 6
theorem vcB (L : Nat) (n : Nat) (R : List AV) (r1 : List AV) (r2 : List AV) (o : AO) (Q : AV × ASt → Prop) :
  (aBuiltinM E Builtin.len [25] [AV.slice (some (0, 0)) n (Cap.atl n)] (vcB_s0 L n R r1 r2 o) = some (AV.int IntKind.i64 (Int.ofNat n), vcB_s0 L n R r1 r2 o) ∧ ifB (ltF (Int.ofNat 65535) (Int.ofNat n)) (Q (AV.ptr (some (1, 0)), vcB_s1 L n R r1 r2 o)) (aBuiltinM E Builtin.len [25] [AV.slice (some (0, 0)) n (Cap.atl n)] (vcB_s0 L n R r1 r2 o) = some (AV.int IntKind.i64 (Int.ofNat n), vcB_s0 L n R r1 r2 o) ∧ ifB (!eqF (shrF (wrapF IntKind.u64 (Int.ofNat n)) 16) (Int.ofNat 0)) (Q (AV.ptr (some (1, 0)), vcB_s1 L n R r1 r2 o)) (aBuiltinM E Builtin.append [25, 25] [AV.slice (some (2, 0)) L (Cap.rest 1), AV.slice (some (3, 0)) 2 (Cap.known 2)] (vcB_s2 L n R r1 r2 o) = some (AV.slice (some (4, 0)) (L + 2) (Cap.rest 1), vcB_s3 L n R r1 r2 o) ∧ aBuiltinM E Builtin.append [25, 25] [AV.slice (some (4, 0)) (L + 2) (Cap.rest 1), AV.slice (some (0, 0)) n (Cap.atl n)] (vcB_s4 L n R r1 r2 o) = some (AV.slice (some (5, 0)) (L + 2 + n) (Cap.rest 1), vcB_s5 L n R r1 r2 o) ∧ Q (AV.ptr (some (1, 0)), vcB_s6 L n R r1 r2 o)))) =
  (tB L n R r1 r2 o).allY (fun r => Q (r.1, canS [0, 1, 2, 3, 4, 5] r.2)) (An.v (AV.int IntKind.i64 (Int.ofNat n), vcB_s0 L n R r1 r2 o) (An.b An.nil (An.v (AV.int IntKind.i64 (Int.ofNat n), vcB_s0 L n R r1 r2 o) (An.b An.nil (An.v (AV.slice (some (4, 0)) (L + 2) (Cap.rest 1), vcB_s3 L n R r1 r2 o) (An.v (AV.slice (some (5, 0)) (L + 2 + n) (Cap.rest 1), vcB_s5 L n R r1 r2 o) An.nil)))))) := by kernel_rfl

theorem Eok : Env.Ok Try.prog E := envEx_ok (xs := []) ⟨⟨Try.func78, Try.call78⟩, ⟨Try.func79, Try.call79⟩, ⟨Try.func37, Try.call37⟩, ⟨Try.func44, Try.call44⟩, ⟨Try.func38, Try.call38⟩, ⟨Try.func14, Try.call14⟩, ⟨Try.func47, Try.call47⟩, trivial⟩ trivial (by kernel_rfl)
theorem ap25 : appT E 25 25 = some (1, 1) := by kernel_rfl
theorem sl25 : sliceT E 25 = some 1 := by kernel_rfl
theorem wrapU64 {m : Nat} (h : m < 18446744073709551616) : wrapF .u64 (.ofNat m) = .ofNat m := by
  have e : modN (.ofNat m) (big .u64) = m := Nat.mod_eq_of_lt h
  unfold wrapF
  have hb : Nat.blt (modN (.ofNat m) (big .u64)) (half .u64) = true := by rw [e]; exact blt_t h
  show (bif Nat.blt (modN (.ofNat m) (big .u64)) (half .u64) then Int.ofNat (modN (.ofNat m) (big .u64)) else _) = _
  rw [hb, e]; rfl
/-- the two bytes of how many there are -/
def two (n : Nat) : List AV := [AV.int IntKind.u8 (wrapF IntKind.u8 (shrF (wrapF IntKind.u64 (Int.ofNat n)) 8)), AV.int IntKind.u8 (wrapF IntKind.u8 (shrF (wrapF IntKind.u64 (Int.ofNat n)) 0))]
theorem two_refs (n : Nat) : ∀ c, c ∈ two n → refsV 0 c := fun c hc => by
  simp only [two, List.mem_cons, List.not_mem_nil, or_false] at hc
  rcases hc with rfl | rfl <;> simp [refsV]
section
variable {R : List AV} {l : List Nat}
noncomputable def stB (o : AO) (L n : Nat) (r1 r2 : List AV) : ASt := mkSt [(0, o), (1, AO.cells [AV.slice (some (5, 0)) (L + 2 + n) (Cap.rest 1), AV.bool false] true), (2, AO.dead), (3, AO.cells (two n) true), (4, AO.dead), (5, AO.cells r2 true)] 6
theorem blobRun (h0 : l ≠ []) (hb : l.length ≤ 65535) (hR : R.length < 1099511627776) (B : Prot) (w0 : World) (ι : Ren) (w : World) (args' : Array Value)
    (hsr : SR B w0 ι (mkSt [(0, .cells (l.map cellU) false), (1, .cells [.slice (some (2, 0)) R.length (.rest 1), .bool false] true), (2, .cells R true)] 3) w) (hv : VRs ι [.ptr (some (1, 0)), sl0 l.length] args') :
    (callFunc 38 args').run Try.prog w = .ok (.enter 38 args') w ∧ CallsIn Fence.wide 0 Try.prog 38 args' w fun e w' => ∃ v, v = (AV.ptr (some (1, 0)), stB (.cells (l.map cellU) false) R.length l.length (R ++ two l.length) ((R ++ two l.length) ++ l.map cellU)) ∧ Post B w0 ι v e w' := by
  have hn : 0 < l.length := List.length_pos_iff.2 h0
  refine run_of_tm Eok noSum_ok (Eq.mp (vcB R.length l.length R (R ++ two l.length) ((R ++ two l.length) ++ l.map cellU) (.cells (l.map cellU) false) (fun v => v = (AV.ptr (some (1, 0)), stB (.cells (l.map cellU) false) R.length l.length (R ++ two l.length) ((R ++ two l.length) ++ l.map cellU)))) ⟨(SlArg.row sl25 (cs := l.map cellU)).len _, ifB_mk (fun h => ?_) fun _ => ⟨(SlArg.row sl25 (cs := l.map cellU)).len _, ifB_mk (fun h => ?_) fun _ => ⟨?_, ?_, rfl⟩⟩⟩) B w0 ι w args' hsr hv
  · rw [ltF_nn] at h; simp at h; omega
  · rw [wrapU64 (by omega)] at h
    have e : shrF (.ofNat l.length) 16 = .ofNat 0 := by
      show Int.ofNat (l.length / 2 ^ 16) = _
      rw [show l.length / 2 ^ 16 = 0 from Nat.div_eq_of_lt (by omega)]
    rw [e] at h
    cases h
  · exact (append_grow_at (cs := R) (new := two l.length) ap25 (n := 2) (by kernel_rfl) (by kernel_rfl) (by kernel_rfl) (by omega) (by omega) (by omega) (by omega) (by omega)).trans (by kernel_rfl)
  · refine (append_grow_at (l := R.length + 2) (cs := R ++ two l.length) (new := l.map cellU) ap25 (n := l.length) (by kernel_rfl) (first_at (cs := l.map cellU) (rw := false) (by kernel_rfl) (by rw [Nat.mul_one]; exact takeU)) (by kernel_rfl) (by simp [two]) (by omega) (by omega) (by omega) (by omega)).trans (by kernel_rfl)
/-- **(*wire.Writer).Blob** where the writer has a row -/
theorem blob {S : ASt} {i r i0 o0 : Nat} {c : Cap} {cs : List AV} {rw : Bool} (hi : S.h.get i = some (.cells [.slice (some (r, 0)) R.length (.rest 1), .bool false] true)) (hr : S.h.get r = some (.cells R true)) (hne : i ≠ r) (his : i < S.next) (hrs : r < S.next)
    (h2 : S.h.get i0 = some (.cells cs rw)) (h3 : takeL cs o0 l.length = some (l.map cellU)) (hni : i0 ≠ i) (hnr : i0 ≠ r) (hRp : ∀ x, x ∈ R → refsV 0 x)
    (h0 : l ≠ []) (hb : l.length ≤ 65535) (hR : R.length < 1099511627776) :
    Call1 Try.prog 38 [.ptr (some (i, 0)), .slice (some (i0, o0)) l.length c] S (.ptr (some (i, 0)), outS (gS [some (i0, o0, false), some (i, 0, true), some (r, 0, true)] S.next)
      [(1, .cells [.slice (some (S.next + 5, 0)) (R.length + 2 + l.length) (.rest 1), .bool false] true), (2, .dead), (5, .cells ((R ++ two l.length) ++ l.map cellU) true)] S (S.next + 6)) := by
  have hg : ∀ j, (mkSt [(0, AO.cells (l.map cellU) false), (1, .cells [.slice (some (2, 0)) R.length (.rest 1), .bool false] true), (2, .cells R true)] 3).h.get j =
      if j = 2 then some (.cells R true) else if j = 1 then some (.cells [.slice (some (2, 0)) R.length (.rest 1), .bool false] true) else if j = 0 then some (.cells (l.map cellU) false) else none := fun j => by
    show ((((T.e : T AO).set D 0 _).set D 1 _).set D 2 _).get j = _
    rw [T.get_set, T.get_set, T.get_set, T.get_e]
  have hg2 : ∀ {j x}, (mkSt [(0, AO.cells (l.map cellU) false), (1, .cells [.slice (some (2, 0)) R.length (.rest 1), .bool false] true), (2, .cells R true)] 3).h.get j = some x →
      (j = 0 ∧ x = .cells (l.map cellU) false) ∨ (j = 1 ∧ x = .cells [.slice (some (2, 0)) R.length (.rest 1), .bool false] true) ∨ (j = 2 ∧ x = .cells R true) := fun {j x} hj => by
    rw [hg] at hj
    by_cases e2 : j = 2
    · simp [e2] at hj; exact .inr (.inr ⟨e2, hj.symm⟩)
    · by_cases e1 : j = 1
      · simp [e1] at hj; exact .inr (.inl ⟨e1, hj.symm⟩)
      · by_cases e0 : j = 0
        · simp [e0] at hj; exact .inl ⟨e0, hj.symm⟩
        · simp [e2, e1, e0] at hj
  have slren : ∀ {ι : Ren} {x : Value}, VR ι (.slice (some (r, 0)) R.length (.rest 1)) x → VR (renS [some (i0, o0, false), some (i, 0, true), some (r, 0, true)] ι) (.slice (some (2, 0)) R.length (.rest 1)) x := fun {ι x} hx => by
    cases hx with
    | slice _ _ _ c' L _ hL hc hl => exact .slice 2 0 _ c' L _ (by simp [renS, hL, Loc.sh]) hc hl
  refine Call1.frame (fun B w0 ι w args' _ hsr hv => blobRun h0 hb hR B w0 ι w args' hsr hv) (src := [some (i0, o0, false), some (i, 0, true), some (r, 0, true)]) ⟨rfl, fun j i' o w hj => ?_, fun j x hj => ?_, fun j x hj hd => ?_, fun j j' x i1 o1 w1 o2 w2 hj ho s1 s2 => ?_⟩ (fun ι args' hv => ?_) (fun q hq => ?_)
  · match j, hj with
    | 0, hj => simp at hj; obtain ⟨rfl, rfl, rfl⟩ := hj; exact ⟨(fun h => by cases h), _, h2, by simp⟩
    | 1, hj => simp at hj; obtain ⟨rfl, rfl, rfl⟩ := hj; exact ⟨fun _ => rfl, _, hi, by simp⟩
    | 2, hj => simp at hj; obtain ⟨rfl, rfl, rfl⟩ := hj; exact ⟨fun _ => rfl, _, hr, by simp⟩
    | j + 3, hj => simp at hj
  · rcases hg2 hj with ⟨rfl, _⟩ | ⟨rfl, _⟩ | ⟨rfl, _⟩ <;> simp
  · rcases hg2 hj with ⟨rfl, rfl⟩ | ⟨rfl, rfl⟩ | ⟨rfl, rfl⟩
    · exact ⟨i0, o0, false, _, rfl, h2, by simp, (fun h => by cases h), fun ι L ob hx => row_sub hx (by simpa using h0) (by rw [List.length_map]; exact h3) (refU l)⟩
    · refine ⟨i, 0, true, _, rfl, hi, by simp, fun _ => ⟨rfl, rfl⟩, fun ι L ob ⟨c, e, lo, hi', q1, q2, q3, q4, q5, q6⟩ => ⟨c, e, lo, hi', q1, q2, q3, fun v hv => ?_, fun k y y' hy hy' => ?_, q6⟩⟩
      · simp at hv; rcases hv with rfl | rfl <;> rfl
      · match k, hy with
        | 0, hy => simp at hy; subst hy; exact slren (q5 0 _ y' rfl hy')
        | 1, hy => simp at hy; subst hy; exact (q5 1 _ y' rfl hy').noRef (by simp [refsV])
        | k + 2, hy => simp at hy
    · exact ⟨r, 0, true, _, rfl, hr, by simp, fun _ => ⟨rfl, rfl⟩, fun ι L ob ⟨c, e, lo, hi', q1, q2, q3, q4, q5, q6⟩ => ⟨c, e, lo, hi', q1, q2, q3, q4, fun k y y' hy hy' => (q5 k y y' hy hy').noRef (hRp y (List.mem_of_getElem? hy)), q6⟩⟩
  · rcases hg2 hj with ⟨rfl, rfl⟩ | ⟨rfl, rfl⟩ | ⟨rfl, rfl⟩
    · cases ho
    · simp at s1
      match j', s2 with
      | 0, s2 => simp at s2; exact absurd (s2.1.trans s1.1.symm) hni
      | 1, s2 => rfl
      | 2, s2 => simp at s2; exact absurd (s1.1.trans s2.1.symm) hne
      | j' + 3, s2 => simp at s2
    · simp at s1
      match j', s2 with
      | 0, s2 => simp at s2; exact absurd (s2.1.trans s1.1.symm) hnr
      | 1, s2 => simp at s2; exact absurd (s2.1.trans s1.1.symm) hne
      | 2, s2 => rfl
      | j' + 3, s2 => simp at s2
  · refine ⟨hv.size, fun k y y' hy hy' => ?_⟩
    match k, hy with
    | 0, hy =>
      simp at hy; subst hy
      cases hv.at_ 0 _ y' rfl hy' with
      | ptr _ _ L hL => exact .ptr 1 0 L (by simp [renS, hL, Loc.sh])
    | 1, hy =>
      simp at hy; subst hy
      cases hv.at_ 1 _ y' rfl hy' with
      | slice _ _ _ c' L _ hL hc hl =>
        have := VR.slice (ι := renS [some (i0, o0, false), some (i, 0, true), some (r, 0, true)] ι) 0 0 l.length c' (L.sh o0) (.atl l.length) (by simp [renS, hL]) hl hl
        simpa [Loc.sh, sl0] using this
    | k + 2, hy => simp at hy
  · subst hq
    refine ⟨BackV.eq (by simp [mapV, gS]), ⟨by show S.next + 6 ≤ S.next + 6; omega, by simp⟩, fun p hp => ?_, fun j x hj ho => ?_⟩
    · simp only [List.mem_cons, List.not_mem_nil, or_false] at hp
      rcases hp with rfl | rfl | rfl
      · refine ⟨by simp [gS]; omega, fun _ => ⟨_, by rw [hg]; simp; rfl, rfl⟩, .inr ⟨rfl, _, (by kernel_rfl : (stB (.cells (l.map cellU) false) R.length l.length (R ++ two l.length) ((R ++ two l.length) ++ l.map cellU)).h.get 1 = some (.cells [.slice (some (5, 0)) (R.length + 2 + l.length) (.rest 1), .bool false] true)), BackO.cells (by simp [mapVs, mapV, gS])⟩⟩
      · exact ⟨by simp [gS]; omega, fun _ => ⟨_, by rw [hg]; simp; rfl, rfl⟩, .inl rfl⟩
      · refine ⟨by simp [gS], fun h => absurd h (by simp), .inr ⟨rfl, _, (by kernel_rfl : (stB (.cells (l.map cellU) false) R.length l.length (R ++ two l.length) ((R ++ two l.length) ++ l.map cellU)).h.get 5 = some (.cells ((R ++ two l.length) ++ l.map cellU) true)), BackO.row fun c hc => ?_⟩⟩
        rcases List.mem_append.1 hc with hc | hc
        · rcases List.mem_append.1 hc with hc | hc
          · exact hRp c hc
          · exact two_refs _ c hc
        · exact refU l c hc
    · rcases hg2 hj with ⟨rfl, rfl⟩ | ⟨rfl, rfl⟩ | ⟨rfl, rfl⟩
      · cases ho
      · exact ⟨_, List.mem_cons_self, rfl⟩
      · exact ⟨_, List.mem_cons_of_mem _ List.mem_cons_self, rfl⟩
end
end Go.Proofs.Ytlnohbilfogheaa.wri
end

section
open Go Go.Ax Go.Proofs.Ytlnohbilfogheaa
namespace Go.Proofs.Ytlnohbilfogheaa.pky
set_option linter.unusedVariables false
noncomputable def fns : List (Nat × Func) := [(22, Try.f22), (58, Try.f58), (90, Try.f90), (78, Try.f78), (79, Try.f79), (37, Try.f37), (44, Try.f44), (38, Try.f38), (14, Try.f14), (47, Try.f47)]
noncomputable def E : Env := envEx Try.prog [0, 3, 4, 5, 25, 28, 31, 33, 34, 61, 63, 89, 104] fns []
def fl0 : Fl := ⟨[], [], [], []⟩
noncomputable def sm (q : CallT) : CallT := onlyC [38, 58, 59, 65] q
def nI (n : Nat) : AV := .int .i64 (.ofNat n)
def cl (xs : Nat → Int) : List AV := (List.range 32).map fun i => .int .u8 (xs i)
noncomputable def c22 : Code := Option.getD Try.f22.body .skip
noncomputable def pV (k m t a s : Int) (v : AV) : AV := .agg [.int .i64 k, .int .u64 m, .int .u64 t, .int .u64 a, .int .u64 s, v]
noncomputable def fls : List (Nat × Fl) := [(22, ⟨[9, 20, 46, 53, 56], [49], [], []⟩), (58, ⟨[37, 49, 55], [65], [14, 18, 22, 28, 30, 32, 33, 44, 50, 56], []⟩), (90, ⟨[43], [], [9, 15, 22, 29, 36, 43], []⟩), (38, ⟨[6, 12], [14, 16], [7], []⟩), (37, ⟨[], [], [20], []⟩), (44, ⟨[], [7], [], []⟩), (79, ⟨[31], [], [], []⟩), (14, ⟨[], [16], [], []⟩), (47, ⟨[7], [], [], []⟩)]
def v0 : AV := .slice none 0 (.known 0)
def v1 : AV := .slice0
def v2 (n : Nat) : AV := .slice (some (0, 0)) n (.atl n)

noncomputable def fls1 : List (Nat × Fl) := [(22, ⟨[9, 20, 53], [], [], []⟩)]
noncomputable def tF (q : CallT) (k m t a s : Int) (v : AV) (o : AO) (n : Nat) (xs : Nat → Int) (w1 w2 w3 : AV) (r1 r2 r3 : List AV) : Tr (AV × ASt) := (TM E (sm q) fls fl0 60).call 22 [pV k m t a s v] (mkSt [(0, o)] 1)
noncomputable def t1 (q : CallT) (k m t a s : Int) (v : AV) (o : AO) (n : Nat) (xs : Nat → Int) (w1 w2 w3 : AV) (r1 r2 r3 : List AV) : Tr (AV × ASt) := (TM E (sm q) fls1 fl0 60).call 22 [pV (.ofNat 1) m t a s v] (mkSt [(0, o)] 1)
noncomputable def t3 (q : CallT) (k m t a s : Int) (v : AV) (o : AO) (n : Nat) (xs : Nat → Int) (w1 w2 w3 : AV) (r1 r2 r3 : List AV) : Tr (AV × ASt) := (TM E (sm q) fls1 fl0 60).call 22 [pV (.ofNat 3) m t a s v] (mkSt [(0, o)] 1)
noncomputable def t4 (q : CallT) (k m t a s : Int) (v : AV) (o : AO) (n : Nat) (xs : Nat → Int) (w1 w2 w3 : AV) (r1 r2 r3 : List AV) : Tr (AV × ASt) := (TM E (sm q) fls1 fl0 60).call 22 [pV (.ofNat 4) m t a s v] (mkSt [(0, o)] 1)
noncomputable def t2 (q : CallT) (k m t a s : Int) (v : AV) (o : AO) (n : Nat) (xs : Nat → Int) (w1 w2 w3 : AV) (r1 r2 r3 : List AV) : Tr (AV × ASt) := (TM E (sm q) fls fl0 60).call 22 [pV (.ofNat 2) m t a s (v2 n)] (mkSt [(0, o)] 1)
noncomputable def vcF_s0 (q : CallT) (k : Int) (m : Int) (t : Int) (a : Int) (s : Int) (v : AV) (o : AO) (n : Nat) (xs : Nat → Int) (w1 : AV) (w2 : AV) (w3 : AV) (r1 : List AV) (r2 : List AV) (r3 : List AV) : ASt := mkSt [(0, o), (1, AO.cells [AV.int IntKind.i64 k, AV.int IntKind.u64 m, AV.int IntKind.u64 t, AV.int IntKind.u64 a, AV.int IntKind.u64 s, v] true)] 2
noncomputable def vcF_s1 (q : CallT) (k : Int) (m : Int) (t : Int) (a : Int) (s : Int) (v : AV) (o : AO) (n : Nat) (xs : Nat → Int) (w1 : AV) (w2 : AV) (w3 : AV) (r1 : List AV) (r2 : List AV) (r3 : List AV) : ASt := mkSt [] 2
theorem vcF (q : CallT) (k : Int) (m : Int) (t : Int) (a : Int) (s : Int) (v : AV) (o : AO) (n : Nat) (xs : Nat → Int) (w1 : AV) (w2 : AV) (w3 : AV) (r1 : List AV) (r2 : List AV) (r3 : List AV) (Q : AV × ASt → Prop) :
  ((M E (drawA E) (sm q) 55).call 58 [AV.agg [AV.int IntKind.i64 k, AV.int IntKind.u64 m, AV.int IntKind.u64 t, AV.int IntKind.u64 a, AV.int IntKind.u64 s, v]] (vcF_s0 q k m t a s v o n xs w1 w2 w3 r1 r2 r3) = some (AV.bool false, vcF_s0 q k m t a s v o n xs w1 w2 w3 r1 r2 r3) ∧ Q (AV.tuple [AV.slice none 0 (Cap.known 0), AV.int IntKind.i64 (Int.ofNat 2)], vcF_s1 q k m t a s v o n xs w1 w2 w3 r1 r2 r3)) =
  (tF q k m t a s v o n xs w1 w2 w3 r1 r2 r3).allY (fun r => Q (r.1, canS [] r.2)) (An.v (AV.bool false, vcF_s0 q k m t a s v o n xs w1 w2 w3 r1 r2 r3) An.nil) := by kernel_rfl
noncomputable def vc1_s0 (q : CallT) (k : Int) (m : Int) (t : Int) (a : Int) (s : Int) (v : AV) (o : AO) (n : Nat) (xs : Nat → Int) (w1 : AV) (w2 : AV) (w3 : AV) (r1 : List AV) (r2 : List AV) (r3 : List AV) : ASt := mkSt [(0, o), (1, AO.cells [AV.int IntKind.i64 (Int.ofNat 1), AV.int IntKind.u64 m, AV.int IntKind.u64 t, AV.int IntKind.u64 a, AV.int IntKind.u64 s, v] true)] 2
noncomputable def vc1_s1 (q : CallT) (k : Int) (m : Int) (t : Int) (a : Int) (s : Int) (v : AV) (o : AO) (n : Nat) (xs : Nat → Int) (w1 : AV) (w2 : AV) (w3 : AV) (r1 : List AV) (r2 : List AV) (r3 : List AV) : ASt := mkSt [(0, o), (1, AO.cells [AV.int IntKind.i64 (Int.ofNat 1), AV.int IntKind.u64 m, AV.int IntKind.u64 t, AV.int IntKind.u64 a, AV.int IntKind.u64 s, v] true), (2, AO.cells [AV.slice (some (19, 0)) 3 (Cap.rest 1), AV.bool false] true), (3, AO.cells [AV.int IntKind.u8 (Int.ofNat 71), AV.int IntKind.u8 (Int.ofNat 80)] true), (17, AO.dead), (18, AO.cells [AV.int IntKind.u8 (Int.ofNat 1)] true), (19, AO.cells [AV.int IntKind.u8 (Int.ofNat 71), AV.int IntKind.u8 (Int.ofNat 80), AV.int IntKind.u8 (Int.ofNat 1)] true)] 20
noncomputable def vc1_s2 (q : CallT) (k : Int) (m : Int) (t : Int) (a : Int) (s : Int) (v : AV) (o : AO) (n : Nat) (xs : Nat → Int) (w1 : AV) (w2 : AV) (w3 : AV) (r1 : List AV) (r2 : List AV) (r3 : List AV) : ASt := mkSt [(0, o), (1, AO.cells [AV.int IntKind.i64 (Int.ofNat 1), AV.int IntKind.u64 m, AV.int IntKind.u64 t, AV.int IntKind.u64 a, AV.int IntKind.u64 s, v] true), (2, AO.cells [AV.slice (some (23, 0)) 19 (Cap.rest 1), AV.bool false] true), (3, AO.cells [AV.int IntKind.u8 (Int.ofNat 71), AV.int IntKind.u8 (Int.ofNat 80)] true), (17, AO.dead), (18, AO.cells [AV.int IntKind.u8 (Int.ofNat 1)] true), (19, AO.dead), (20, AO.cells [AV.int IntKind.u8 (wrapF IntKind.u8 (shrF m 56)), AV.int IntKind.u8 (wrapF IntKind.u8 (shrF m 48)), AV.int IntKind.u8 (wrapF IntKind.u8 (shrF m 40)), AV.int IntKind.u8 (wrapF IntKind.u8 (shrF m 32)), AV.int IntKind.u8 (wrapF IntKind.u8 (shrF m 24)), AV.int IntKind.u8 (wrapF IntKind.u8 (shrF m 16)), AV.int IntKind.u8 (wrapF IntKind.u8 (shrF m 8)), AV.int IntKind.u8 (wrapF IntKind.u8 (shrF m 0))] true), (21, AO.dead), (22, AO.cells [AV.int IntKind.u8 (wrapF IntKind.u8 (shrF t 56)), AV.int IntKind.u8 (wrapF IntKind.u8 (shrF t 48)), AV.int IntKind.u8 (wrapF IntKind.u8 (shrF t 40)), AV.int IntKind.u8 (wrapF IntKind.u8 (shrF t 32)), AV.int IntKind.u8 (wrapF IntKind.u8 (shrF t 24)), AV.int IntKind.u8 (wrapF IntKind.u8 (shrF t 16)), AV.int IntKind.u8 (wrapF IntKind.u8 (shrF t 8)), AV.int IntKind.u8 (wrapF IntKind.u8 (shrF t 0))] true), (23, AO.cells [AV.int IntKind.u8 (Int.ofNat 71), AV.int IntKind.u8 (Int.ofNat 80), AV.int IntKind.u8 (Int.ofNat 1), AV.int IntKind.u8 (wrapF IntKind.u8 (shrF m 56)), AV.int IntKind.u8 (wrapF IntKind.u8 (shrF m 48)), AV.int IntKind.u8 (wrapF IntKind.u8 (shrF m 40)), AV.int IntKind.u8 (wrapF IntKind.u8 (shrF m 32)), AV.int IntKind.u8 (wrapF IntKind.u8 (shrF m 24)), AV.int IntKind.u8 (wrapF IntKind.u8 (shrF m 16)), AV.int IntKind.u8 (wrapF IntKind.u8 (shrF m 8)), AV.int IntKind.u8 (wrapF IntKind.u8 (shrF m 0)), AV.int IntKind.u8 (wrapF IntKind.u8 (shrF t 56)), AV.int IntKind.u8 (wrapF IntKind.u8 (shrF t 48)), AV.int IntKind.u8 (wrapF IntKind.u8 (shrF t 40)), AV.int IntKind.u8 (wrapF IntKind.u8 (shrF t 32)), AV.int IntKind.u8 (wrapF IntKind.u8 (shrF t 24)), AV.int IntKind.u8 (wrapF IntKind.u8 (shrF t 16)), AV.int IntKind.u8 (wrapF IntKind.u8 (shrF t 8)), AV.int IntKind.u8 (wrapF IntKind.u8 (shrF t 0))] true), (24, AO.cells [] true), (25, AO.cells [AV.int IntKind.u8 (Int.ofNat 71), AV.int IntKind.u8 (Int.ofNat 80), AV.int IntKind.u8 (Int.ofNat 1), AV.int IntKind.u8 (wrapF IntKind.u8 (shrF m 56)), AV.int IntKind.u8 (wrapF IntKind.u8 (shrF m 48)), AV.int IntKind.u8 (wrapF IntKind.u8 (shrF m 40)), AV.int IntKind.u8 (wrapF IntKind.u8 (shrF m 32)), AV.int IntKind.u8 (wrapF IntKind.u8 (shrF m 24)), AV.int IntKind.u8 (wrapF IntKind.u8 (shrF m 16)), AV.int IntKind.u8 (wrapF IntKind.u8 (shrF m 8)), AV.int IntKind.u8 (wrapF IntKind.u8 (shrF m 0)), AV.int IntKind.u8 (wrapF IntKind.u8 (shrF t 56)), AV.int IntKind.u8 (wrapF IntKind.u8 (shrF t 48)), AV.int IntKind.u8 (wrapF IntKind.u8 (shrF t 40)), AV.int IntKind.u8 (wrapF IntKind.u8 (shrF t 32)), AV.int IntKind.u8 (wrapF IntKind.u8 (shrF t 24)), AV.int IntKind.u8 (wrapF IntKind.u8 (shrF t 16)), AV.int IntKind.u8 (wrapF IntKind.u8 (shrF t 8)), AV.int IntKind.u8 (wrapF IntKind.u8 (shrF t 0))] true)] 26
noncomputable def vc1_s3 (q : CallT) (k : Int) (m : Int) (t : Int) (a : Int) (s : Int) (v : AV) (o : AO) (n : Nat) (xs : Nat → Int) (w1 : AV) (w2 : AV) (w3 : AV) (r1 : List AV) (r2 : List AV) (r3 : List AV) : ASt := mkSt [(27, AO.cells [AV.int IntKind.u8 (Int.ofNat 71), AV.int IntKind.u8 (Int.ofNat 80), AV.int IntKind.u8 (Int.ofNat 1), AV.int IntKind.u8 (wrapF IntKind.u8 (shrF m 56)), AV.int IntKind.u8 (wrapF IntKind.u8 (shrF m 48)), AV.int IntKind.u8 (wrapF IntKind.u8 (shrF m 40)), AV.int IntKind.u8 (wrapF IntKind.u8 (shrF m 32)), AV.int IntKind.u8 (wrapF IntKind.u8 (shrF m 24)), AV.int IntKind.u8 (wrapF IntKind.u8 (shrF m 16)), AV.int IntKind.u8 (wrapF IntKind.u8 (shrF m 8)), AV.int IntKind.u8 (wrapF IntKind.u8 (shrF m 0)), AV.int IntKind.u8 (wrapF IntKind.u8 (shrF t 56)), AV.int IntKind.u8 (wrapF IntKind.u8 (shrF t 48)), AV.int IntKind.u8 (wrapF IntKind.u8 (shrF t 40)), AV.int IntKind.u8 (wrapF IntKind.u8 (shrF t 32)), AV.int IntKind.u8 (wrapF IntKind.u8 (shrF t 24)), AV.int IntKind.u8 (wrapF IntKind.u8 (shrF t 16)), AV.int IntKind.u8 (wrapF IntKind.u8 (shrF t 8)), AV.int IntKind.u8 (wrapF IntKind.u8 (shrF t 0)), AV.int IntKind.u8 (xs 0), AV.int IntKind.u8 (xs 1), AV.int IntKind.u8 (xs 2), AV.int IntKind.u8 (xs 3)] true)] 28
theorem vc1 (q : CallT) (k : Int) (m : Int) (t : Int) (a : Int) (s : Int) (v : AV) (o : AO) (n : Nat) (xs : Nat → Int) (w1 : AV) (w2 : AV) (w3 : AV) (r1 : List AV) (r2 : List AV) (r3 : List AV) (Q : AV × ASt → Prop) :
  ((M E (drawA E) (sm q) 55).call 58 [AV.agg [AV.int IntKind.i64 (Int.ofNat 1), AV.int IntKind.u64 m, AV.int IntKind.u64 t, AV.int IntKind.u64 a, AV.int IntKind.u64 s, v]] (vc1_s0 q k m t a s v o n xs w1 w2 w3 r1 r2 r3) = some (AV.bool true, vc1_s0 q k m t a s v o n xs w1 w2 w3 r1 r2 r3) ∧ aLoad E 28 (AV.ptr (some (1, 1))) (vc1_s1 q k m t a s v o n xs w1 w2 w3 r1 r2 r3) = some (AV.int IntKind.u64 m, vc1_s1 q k m t a s v o n xs w1 w2 w3 r1 r2 r3) ∧ holdsO [(some (AV.int IntKind.i64 (Int.ofNat 1)), AV.int IntKind.i64 (Int.ofNat 1)), (some (AV.int IntKind.u64 m), AV.int IntKind.u64 m), (some (AV.int IntKind.u64 m), AV.int IntKind.u64 m), (some (AV.int IntKind.u64 t), AV.int IntKind.u64 t), (some (AV.int IntKind.u64 t), AV.int IntKind.u64 t), (some (AV.int IntKind.u64 t), AV.int IntKind.u64 t)] ∧ (M E (drawA E) (sm q) 51).call 59 [AV.slice (some (25, 0)) 19 (Cap.rest 1)] (vc1_s2 q k m t a s v o n xs w1 w2 w3 r1 r2 r3) = some (AV.agg (cl xs), vc1_s2 q k m t a s v o n xs w1 w2 w3 r1 r2 r3) ∧ Q (AV.tuple [AV.slice (some (27, 0)) 23 (Cap.rest 1), AV.int IntKind.i64 (Int.ofNat 0)], vc1_s3 q k m t a s v o n xs w1 w2 w3 r1 r2 r3)) =
  (t1 q k m t a s v o n xs w1 w2 w3 r1 r2 r3).allY (fun r => Q (r.1, canS [27] r.2)) (An.v (AV.bool true, vc1_s0 q k m t a s v o n xs w1 w2 w3 r1 r2 r3) (An.v (AV.int IntKind.u64 m, vc1_s1 q k m t a s v o n xs w1 w2 w3 r1 r2 r3) (An.v (AV.agg (cl xs), vc1_s2 q k m t a s v o n xs w1 w2 w3 r1 r2 r3) An.nil))) := by kernel_rfl
noncomputable def vc3_s0 (q : CallT) (k : Int) (m : Int) (t : Int) (a : Int) (s : Int) (v : AV) (o : AO) (n : Nat) (xs : Nat → Int) (w1 : AV) (w2 : AV) (w3 : AV) (r1 : List AV) (r2 : List AV) (r3 : List AV) : ASt := mkSt [(0, o), (1, AO.cells [AV.int IntKind.i64 (Int.ofNat 3), AV.int IntKind.u64 m, AV.int IntKind.u64 t, AV.int IntKind.u64 a, AV.int IntKind.u64 s, v] true)] 2
noncomputable def vc3_s1 (q : CallT) (k : Int) (m : Int) (t : Int) (a : Int) (s : Int) (v : AV) (o : AO) (n : Nat) (xs : Nat → Int) (w1 : AV) (w2 : AV) (w3 : AV) (r1 : List AV) (r2 : List AV) (r3 : List AV) : ASt := mkSt [(0, o), (1, AO.cells [AV.int IntKind.i64 (Int.ofNat 3), AV.int IntKind.u64 m, AV.int IntKind.u64 t, AV.int IntKind.u64 a, AV.int IntKind.u64 s, v] true), (2, AO.cells [AV.slice (some (19, 0)) 3 (Cap.rest 1), AV.bool false] true), (3, AO.cells [AV.int IntKind.u8 (Int.ofNat 71), AV.int IntKind.u8 (Int.ofNat 80)] true), (17, AO.dead), (18, AO.cells [AV.int IntKind.u8 (Int.ofNat 3)] true), (19, AO.cells [AV.int IntKind.u8 (Int.ofNat 71), AV.int IntKind.u8 (Int.ofNat 80), AV.int IntKind.u8 (Int.ofNat 3)] true)] 20
noncomputable def vc3_s2 (q : CallT) (k : Int) (m : Int) (t : Int) (a : Int) (s : Int) (v : AV) (o : AO) (n : Nat) (xs : Nat → Int) (w1 : AV) (w2 : AV) (w3 : AV) (r1 : List AV) (r2 : List AV) (r3 : List AV) : ASt := mkSt [(0, o), (1, AO.cells [AV.int IntKind.i64 (Int.ofNat 3), AV.int IntKind.u64 m, AV.int IntKind.u64 t, AV.int IntKind.u64 a, AV.int IntKind.u64 s, v] true), (2, AO.cells [AV.slice (some (25, 0)) 27 (Cap.rest 1), AV.bool false] true), (3, AO.cells [AV.int IntKind.u8 (Int.ofNat 71), AV.int IntKind.u8 (Int.ofNat 80)] true), (17, AO.dead), (18, AO.cells [AV.int IntKind.u8 (Int.ofNat 3)] true), (19, AO.dead), (20, AO.cells [AV.int IntKind.u8 (wrapF IntKind.u8 (shrF m 56)), AV.int IntKind.u8 (wrapF IntKind.u8 (shrF m 48)), AV.int IntKind.u8 (wrapF IntKind.u8 (shrF m 40)), AV.int IntKind.u8 (wrapF IntKind.u8 (shrF m 32)), AV.int IntKind.u8 (wrapF IntKind.u8 (shrF m 24)), AV.int IntKind.u8 (wrapF IntKind.u8 (shrF m 16)), AV.int IntKind.u8 (wrapF IntKind.u8 (shrF m 8)), AV.int IntKind.u8 (wrapF IntKind.u8 (shrF m 0))] true), (21, AO.dead), (22, AO.cells [AV.int IntKind.u8 (wrapF IntKind.u8 (shrF t 56)), AV.int IntKind.u8 (wrapF IntKind.u8 (shrF t 48)), AV.int IntKind.u8 (wrapF IntKind.u8 (shrF t 40)), AV.int IntKind.u8 (wrapF IntKind.u8 (shrF t 32)), AV.int IntKind.u8 (wrapF IntKind.u8 (shrF t 24)), AV.int IntKind.u8 (wrapF IntKind.u8 (shrF t 16)), AV.int IntKind.u8 (wrapF IntKind.u8 (shrF t 8)), AV.int IntKind.u8 (wrapF IntKind.u8 (shrF t 0))] true), (23, AO.dead), (24, AO.cells [AV.int IntKind.u8 (wrapF IntKind.u8 (shrF a 56)), AV.int IntKind.u8 (wrapF IntKind.u8 (shrF a 48)), AV.int IntKind.u8 (wrapF IntKind.u8 (shrF a 40)), AV.int IntKind.u8 (wrapF IntKind.u8 (shrF a 32)), AV.int IntKind.u8 (wrapF IntKind.u8 (shrF a 24)), AV.int IntKind.u8 (wrapF IntKind.u8 (shrF a 16)), AV.int IntKind.u8 (wrapF IntKind.u8 (shrF a 8)), AV.int IntKind.u8 (wrapF IntKind.u8 (shrF a 0))] true), (25, AO.cells [AV.int IntKind.u8 (Int.ofNat 71), AV.int IntKind.u8 (Int.ofNat 80), AV.int IntKind.u8 (Int.ofNat 3), AV.int IntKind.u8 (wrapF IntKind.u8 (shrF m 56)), AV.int IntKind.u8 (wrapF IntKind.u8 (shrF m 48)), AV.int IntKind.u8 (wrapF IntKind.u8 (shrF m 40)), AV.int IntKind.u8 (wrapF IntKind.u8 (shrF m 32)), AV.int IntKind.u8 (wrapF IntKind.u8 (shrF m 24)), AV.int IntKind.u8 (wrapF IntKind.u8 (shrF m 16)), AV.int IntKind.u8 (wrapF IntKind.u8 (shrF m 8)), AV.int IntKind.u8 (wrapF IntKind.u8 (shrF m 0)), AV.int IntKind.u8 (wrapF IntKind.u8 (shrF t 56)), AV.int IntKind.u8 (wrapF IntKind.u8 (shrF t 48)), AV.int IntKind.u8 (wrapF IntKind.u8 (shrF t 40)), AV.int IntKind.u8 (wrapF IntKind.u8 (shrF t 32)), AV.int IntKind.u8 (wrapF IntKind.u8 (shrF t 24)), AV.int IntKind.u8 (wrapF IntKind.u8 (shrF t 16)), AV.int IntKind.u8 (wrapF IntKind.u8 (shrF t 8)), AV.int IntKind.u8 (wrapF IntKind.u8 (shrF t 0)), AV.int IntKind.u8 (wrapF IntKind.u8 (shrF a 56)), AV.int IntKind.u8 (wrapF IntKind.u8 (shrF a 48)), AV.int IntKind.u8 (wrapF IntKind.u8 (shrF a 40)), AV.int IntKind.u8 (wrapF IntKind.u8 (shrF a 32)), AV.int IntKind.u8 (wrapF IntKind.u8 (shrF a 24)), AV.int IntKind.u8 (wrapF IntKind.u8 (shrF a 16)), AV.int IntKind.u8 (wrapF IntKind.u8 (shrF a 8)), AV.int IntKind.u8 (wrapF IntKind.u8 (shrF a 0))] true), (26, AO.cells [] true), (27, AO.cells [AV.int IntKind.u8 (Int.ofNat 71), AV.int IntKind.u8 (Int.ofNat 80), AV.int IntKind.u8 (Int.ofNat 3), AV.int IntKind.u8 (wrapF IntKind.u8 (shrF m 56)), AV.int IntKind.u8 (wrapF IntKind.u8 (shrF m 48)), AV.int IntKind.u8 (wrapF IntKind.u8 (shrF m 40)), AV.int IntKind.u8 (wrapF IntKind.u8 (shrF m 32)), AV.int IntKind.u8 (wrapF IntKind.u8 (shrF m 24)), AV.int IntKind.u8 (wrapF IntKind.u8 (shrF m 16)), AV.int IntKind.u8 (wrapF IntKind.u8 (shrF m 8)), AV.int IntKind.u8 (wrapF IntKind.u8 (shrF m 0)), AV.int IntKind.u8 (wrapF IntKind.u8 (shrF t 56)), AV.int IntKind.u8 (wrapF IntKind.u8 (shrF t 48)), AV.int IntKind.u8 (wrapF IntKind.u8 (shrF t 40)), AV.int IntKind.u8 (wrapF IntKind.u8 (shrF t 32)), AV.int IntKind.u8 (wrapF IntKind.u8 (shrF t 24)), AV.int IntKind.u8 (wrapF IntKind.u8 (shrF t 16)), AV.int IntKind.u8 (wrapF IntKind.u8 (shrF t 8)), AV.int IntKind.u8 (wrapF IntKind.u8 (shrF t 0)), AV.int IntKind.u8 (wrapF IntKind.u8 (shrF a 56)), AV.int IntKind.u8 (wrapF IntKind.u8 (shrF a 48)), AV.int IntKind.u8 (wrapF IntKind.u8 (shrF a 40)), AV.int IntKind.u8 (wrapF IntKind.u8 (shrF a 32)), AV.int IntKind.u8 (wrapF IntKind.u8 (shrF a 24)), AV.int IntKind.u8 (wrapF IntKind.u8 (shrF a 16)), AV.int IntKind.u8 (wrapF IntKind.u8 (shrF a 8)), AV.int IntKind.u8 (wrapF IntKind.u8 (shrF a 0))] true)] 28
noncomputable def vc3_s3 (q : CallT) (k : Int) (m : Int) (t : Int) (a : Int) (s : Int) (v : AV) (o : AO) (n : Nat) (xs : Nat → Int) (w1 : AV) (w2 : AV) (w3 : AV) (r1 : List AV) (r2 : List AV) (r3 : List AV) : ASt := mkSt [(29, AO.cells [AV.int IntKind.u8 (Int.ofNat 71), AV.int IntKind.u8 (Int.ofNat 80), AV.int IntKind.u8 (Int.ofNat 3), AV.int IntKind.u8 (wrapF IntKind.u8 (shrF m 56)), AV.int IntKind.u8 (wrapF IntKind.u8 (shrF m 48)), AV.int IntKind.u8 (wrapF IntKind.u8 (shrF m 40)), AV.int IntKind.u8 (wrapF IntKind.u8 (shrF m 32)), AV.int IntKind.u8 (wrapF IntKind.u8 (shrF m 24)), AV.int IntKind.u8 (wrapF IntKind.u8 (shrF m 16)), AV.int IntKind.u8 (wrapF IntKind.u8 (shrF m 8)), AV.int IntKind.u8 (wrapF IntKind.u8 (shrF m 0)), AV.int IntKind.u8 (wrapF IntKind.u8 (shrF t 56)), AV.int IntKind.u8 (wrapF IntKind.u8 (shrF t 48)), AV.int IntKind.u8 (wrapF IntKind.u8 (shrF t 40)), AV.int IntKind.u8 (wrapF IntKind.u8 (shrF t 32)), AV.int IntKind.u8 (wrapF IntKind.u8 (shrF t 24)), AV.int IntKind.u8 (wrapF IntKind.u8 (shrF t 16)), AV.int IntKind.u8 (wrapF IntKind.u8 (shrF t 8)), AV.int IntKind.u8 (wrapF IntKind.u8 (shrF t 0)), AV.int IntKind.u8 (wrapF IntKind.u8 (shrF a 56)), AV.int IntKind.u8 (wrapF IntKind.u8 (shrF a 48)), AV.int IntKind.u8 (wrapF IntKind.u8 (shrF a 40)), AV.int IntKind.u8 (wrapF IntKind.u8 (shrF a 32)), AV.int IntKind.u8 (wrapF IntKind.u8 (shrF a 24)), AV.int IntKind.u8 (wrapF IntKind.u8 (shrF a 16)), AV.int IntKind.u8 (wrapF IntKind.u8 (shrF a 8)), AV.int IntKind.u8 (wrapF IntKind.u8 (shrF a 0)), AV.int IntKind.u8 (xs 0), AV.int IntKind.u8 (xs 1), AV.int IntKind.u8 (xs 2), AV.int IntKind.u8 (xs 3)] true)] 30
theorem vc3 (q : CallT) (k : Int) (m : Int) (t : Int) (a : Int) (s : Int) (v : AV) (o : AO) (n : Nat) (xs : Nat → Int) (w1 : AV) (w2 : AV) (w3 : AV) (r1 : List AV) (r2 : List AV) (r3 : List AV) (Q : AV × ASt → Prop) :
  ((M E (drawA E) (sm q) 55).call 58 [AV.agg [AV.int IntKind.i64 (Int.ofNat 3), AV.int IntKind.u64 m, AV.int IntKind.u64 t, AV.int IntKind.u64 a, AV.int IntKind.u64 s, v]] (vc3_s0 q k m t a s v o n xs w1 w2 w3 r1 r2 r3) = some (AV.bool true, vc3_s0 q k m t a s v o n xs w1 w2 w3 r1 r2 r3) ∧ aLoad E 28 (AV.ptr (some (1, 1))) (vc3_s1 q k m t a s v o n xs w1 w2 w3 r1 r2 r3) = some (AV.int IntKind.u64 m, vc3_s1 q k m t a s v o n xs w1 w2 w3 r1 r2 r3) ∧ holdsO [(some (AV.int IntKind.i64 (Int.ofNat 3)), AV.int IntKind.i64 (Int.ofNat 3)), (some (AV.int IntKind.u64 m), AV.int IntKind.u64 m), (some (AV.int IntKind.u64 m), AV.int IntKind.u64 m), (some (AV.int IntKind.u64 t), AV.int IntKind.u64 t), (some (AV.int IntKind.u64 t), AV.int IntKind.u64 t), (some (AV.int IntKind.u64 t), AV.int IntKind.u64 t)] ∧ (M E (drawA E) (sm q) 51).call 59 [AV.slice (some (27, 0)) 27 (Cap.rest 1)] (vc3_s2 q k m t a s v o n xs w1 w2 w3 r1 r2 r3) = some (AV.agg (cl xs), vc3_s2 q k m t a s v o n xs w1 w2 w3 r1 r2 r3) ∧ Q (AV.tuple [AV.slice (some (29, 0)) 31 (Cap.rest 1), AV.int IntKind.i64 (Int.ofNat 0)], vc3_s3 q k m t a s v o n xs w1 w2 w3 r1 r2 r3)) =
  (t3 q k m t a s v o n xs w1 w2 w3 r1 r2 r3).allY (fun r => Q (r.1, canS [29] r.2)) (An.v (AV.bool true, vc3_s0 q k m t a s v o n xs w1 w2 w3 r1 r2 r3) (An.v (AV.int IntKind.u64 m, vc3_s1 q k m t a s v o n xs w1 w2 w3 r1 r2 r3) (An.v (AV.agg (cl xs), vc3_s2 q k m t a s v o n xs w1 w2 w3 r1 r2 r3) An.nil))) := by kernel_rfl
noncomputable def vc4_s0 (q : CallT) (k : Int) (m : Int) (t : Int) (a : Int) (s : Int) (v : AV) (o : AO) (n : Nat) (xs : Nat → Int) (w1 : AV) (w2 : AV) (w3 : AV) (r1 : List AV) (r2 : List AV) (r3 : List AV) : ASt := mkSt [(0, o), (1, AO.cells [AV.int IntKind.i64 (Int.ofNat 4), AV.int IntKind.u64 m, AV.int IntKind.u64 t, AV.int IntKind.u64 a, AV.int IntKind.u64 s, v] true)] 2
noncomputable def vc4_s1 (q : CallT) (k : Int) (m : Int) (t : Int) (a : Int) (s : Int) (v : AV) (o : AO) (n : Nat) (xs : Nat → Int) (w1 : AV) (w2 : AV) (w3 : AV) (r1 : List AV) (r2 : List AV) (r3 : List AV) : ASt := mkSt [(0, o), (1, AO.cells [AV.int IntKind.i64 (Int.ofNat 4), AV.int IntKind.u64 m, AV.int IntKind.u64 t, AV.int IntKind.u64 a, AV.int IntKind.u64 s, v] true), (2, AO.cells [AV.slice (some (19, 0)) 3 (Cap.rest 1), AV.bool false] true), (3, AO.cells [AV.int IntKind.u8 (Int.ofNat 71), AV.int IntKind.u8 (Int.ofNat 80)] true), (17, AO.dead), (18, AO.cells [AV.int IntKind.u8 (Int.ofNat 4)] true), (19, AO.cells [AV.int IntKind.u8 (Int.ofNat 71), AV.int IntKind.u8 (Int.ofNat 80), AV.int IntKind.u8 (Int.ofNat 4)] true)] 20
noncomputable def vc4_s2 (q : CallT) (k : Int) (m : Int) (t : Int) (a : Int) (s : Int) (v : AV) (o : AO) (n : Nat) (xs : Nat → Int) (w1 : AV) (w2 : AV) (w3 : AV) (r1 : List AV) (r2 : List AV) (r3 : List AV) : ASt := mkSt [(0, o), (1, AO.cells [AV.int IntKind.i64 (Int.ofNat 4), AV.int IntKind.u64 m, AV.int IntKind.u64 t, AV.int IntKind.u64 a, AV.int IntKind.u64 s, v] true), (2, AO.cells [AV.slice (some (23, 0)) 19 (Cap.rest 1), AV.bool false] true), (3, AO.cells [AV.int IntKind.u8 (Int.ofNat 71), AV.int IntKind.u8 (Int.ofNat 80)] true), (17, AO.dead), (18, AO.cells [AV.int IntKind.u8 (Int.ofNat 4)] true), (19, AO.dead), (20, AO.cells [AV.int IntKind.u8 (wrapF IntKind.u8 (shrF m 56)), AV.int IntKind.u8 (wrapF IntKind.u8 (shrF m 48)), AV.int IntKind.u8 (wrapF IntKind.u8 (shrF m 40)), AV.int IntKind.u8 (wrapF IntKind.u8 (shrF m 32)), AV.int IntKind.u8 (wrapF IntKind.u8 (shrF m 24)), AV.int IntKind.u8 (wrapF IntKind.u8 (shrF m 16)), AV.int IntKind.u8 (wrapF IntKind.u8 (shrF m 8)), AV.int IntKind.u8 (wrapF IntKind.u8 (shrF m 0))] true), (21, AO.dead), (22, AO.cells [AV.int IntKind.u8 (wrapF IntKind.u8 (shrF t 56)), AV.int IntKind.u8 (wrapF IntKind.u8 (shrF t 48)), AV.int IntKind.u8 (wrapF IntKind.u8 (shrF t 40)), AV.int IntKind.u8 (wrapF IntKind.u8 (shrF t 32)), AV.int IntKind.u8 (wrapF IntKind.u8 (shrF t 24)), AV.int IntKind.u8 (wrapF IntKind.u8 (shrF t 16)), AV.int IntKind.u8 (wrapF IntKind.u8 (shrF t 8)), AV.int IntKind.u8 (wrapF IntKind.u8 (shrF t 0))] true), (23, AO.cells [AV.int IntKind.u8 (Int.ofNat 71), AV.int IntKind.u8 (Int.ofNat 80), AV.int IntKind.u8 (Int.ofNat 4), AV.int IntKind.u8 (wrapF IntKind.u8 (shrF m 56)), AV.int IntKind.u8 (wrapF IntKind.u8 (shrF m 48)), AV.int IntKind.u8 (wrapF IntKind.u8 (shrF m 40)), AV.int IntKind.u8 (wrapF IntKind.u8 (shrF m 32)), AV.int IntKind.u8 (wrapF IntKind.u8 (shrF m 24)), AV.int IntKind.u8 (wrapF IntKind.u8 (shrF m 16)), AV.int IntKind.u8 (wrapF IntKind.u8 (shrF m 8)), AV.int IntKind.u8 (wrapF IntKind.u8 (shrF m 0)), AV.int IntKind.u8 (wrapF IntKind.u8 (shrF t 56)), AV.int IntKind.u8 (wrapF IntKind.u8 (shrF t 48)), AV.int IntKind.u8 (wrapF IntKind.u8 (shrF t 40)), AV.int IntKind.u8 (wrapF IntKind.u8 (shrF t 32)), AV.int IntKind.u8 (wrapF IntKind.u8 (shrF t 24)), AV.int IntKind.u8 (wrapF IntKind.u8 (shrF t 16)), AV.int IntKind.u8 (wrapF IntKind.u8 (shrF t 8)), AV.int IntKind.u8 (wrapF IntKind.u8 (shrF t 0))] true), (24, AO.cells [] true), (25, AO.cells [AV.int IntKind.u8 (Int.ofNat 71), AV.int IntKind.u8 (Int.ofNat 80), AV.int IntKind.u8 (Int.ofNat 4), AV.int IntKind.u8 (wrapF IntKind.u8 (shrF m 56)), AV.int IntKind.u8 (wrapF IntKind.u8 (shrF m 48)), AV.int IntKind.u8 (wrapF IntKind.u8 (shrF m 40)), AV.int IntKind.u8 (wrapF IntKind.u8 (shrF m 32)), AV.int IntKind.u8 (wrapF IntKind.u8 (shrF m 24)), AV.int IntKind.u8 (wrapF IntKind.u8 (shrF m 16)), AV.int IntKind.u8 (wrapF IntKind.u8 (shrF m 8)), AV.int IntKind.u8 (wrapF IntKind.u8 (shrF m 0)), AV.int IntKind.u8 (wrapF IntKind.u8 (shrF t 56)), AV.int IntKind.u8 (wrapF IntKind.u8 (shrF t 48)), AV.int IntKind.u8 (wrapF IntKind.u8 (shrF t 40)), AV.int IntKind.u8 (wrapF IntKind.u8 (shrF t 32)), AV.int IntKind.u8 (wrapF IntKind.u8 (shrF t 24)), AV.int IntKind.u8 (wrapF IntKind.u8 (shrF t 16)), AV.int IntKind.u8 (wrapF IntKind.u8 (shrF t 8)), AV.int IntKind.u8 (wrapF IntKind.u8 (shrF t 0))] true)] 26
noncomputable def vc4_s3 (q : CallT) (k : Int) (m : Int) (t : Int) (a : Int) (s : Int) (v : AV) (o : AO) (n : Nat) (xs : Nat → Int) (w1 : AV) (w2 : AV) (w3 : AV) (r1 : List AV) (r2 : List AV) (r3 : List AV) : ASt := mkSt [(27, AO.cells [AV.int IntKind.u8 (Int.ofNat 71), AV.int IntKind.u8 (Int.ofNat 80), AV.int IntKind.u8 (Int.ofNat 4), AV.int IntKind.u8 (wrapF IntKind.u8 (shrF m 56)), AV.int IntKind.u8 (wrapF IntKind.u8 (shrF m 48)), AV.int IntKind.u8 (wrapF IntKind.u8 (shrF m 40)), AV.int IntKind.u8 (wrapF IntKind.u8 (shrF m 32)), AV.int IntKind.u8 (wrapF IntKind.u8 (shrF m 24)), AV.int IntKind.u8 (wrapF IntKind.u8 (shrF m 16)), AV.int IntKind.u8 (wrapF IntKind.u8 (shrF m 8)), AV.int IntKind.u8 (wrapF IntKind.u8 (shrF m 0)), AV.int IntKind.u8 (wrapF IntKind.u8 (shrF t 56)), AV.int IntKind.u8 (wrapF IntKind.u8 (shrF t 48)), AV.int IntKind.u8 (wrapF IntKind.u8 (shrF t 40)), AV.int IntKind.u8 (wrapF IntKind.u8 (shrF t 32)), AV.int IntKind.u8 (wrapF IntKind.u8 (shrF t 24)), AV.int IntKind.u8 (wrapF IntKind.u8 (shrF t 16)), AV.int IntKind.u8 (wrapF IntKind.u8 (shrF t 8)), AV.int IntKind.u8 (wrapF IntKind.u8 (shrF t 0)), AV.int IntKind.u8 (xs 0), AV.int IntKind.u8 (xs 1), AV.int IntKind.u8 (xs 2), AV.int IntKind.u8 (xs 3)] true)] 28
theorem vc4 (q : CallT) (k : Int) (m : Int) (t : Int) (a : Int) (s : Int) (v : AV) (o : AO) (n : Nat) (xs : Nat → Int) (w1 : AV) (w2 : AV) (w3 : AV) (r1 : List AV) (r2 : List AV) (r3 : List AV) (Q : AV × ASt → Prop) :
  ((M E (drawA E) (sm q) 55).call 58 [AV.agg [AV.int IntKind.i64 (Int.ofNat 4), AV.int IntKind.u64 m, AV.int IntKind.u64 t, AV.int IntKind.u64 a, AV.int IntKind.u64 s, v]] (vc4_s0 q k m t a s v o n xs w1 w2 w3 r1 r2 r3) = some (AV.bool true, vc4_s0 q k m t a s v o n xs w1 w2 w3 r1 r2 r3) ∧ aLoad E 28 (AV.ptr (some (1, 1))) (vc4_s1 q k m t a s v o n xs w1 w2 w3 r1 r2 r3) = some (AV.int IntKind.u64 m, vc4_s1 q k m t a s v o n xs w1 w2 w3 r1 r2 r3) ∧ holdsO [(some (AV.int IntKind.i64 (Int.ofNat 4)), AV.int IntKind.i64 (Int.ofNat 4)), (some (AV.int IntKind.u64 m), AV.int IntKind.u64 m), (some (AV.int IntKind.u64 m), AV.int IntKind.u64 m), (some (AV.int IntKind.u64 t), AV.int IntKind.u64 t), (some (AV.int IntKind.u64 t), AV.int IntKind.u64 t), (some (AV.int IntKind.u64 t), AV.int IntKind.u64 t)] ∧ (M E (drawA E) (sm q) 51).call 59 [AV.slice (some (25, 0)) 19 (Cap.rest 1)] (vc4_s2 q k m t a s v o n xs w1 w2 w3 r1 r2 r3) = some (AV.agg (cl xs), vc4_s2 q k m t a s v o n xs w1 w2 w3 r1 r2 r3) ∧ Q (AV.tuple [AV.slice (some (27, 0)) 23 (Cap.rest 1), AV.int IntKind.i64 (Int.ofNat 0)], vc4_s3 q k m t a s v o n xs w1 w2 w3 r1 r2 r3)) =
  (t4 q k m t a s v o n xs w1 w2 w3 r1 r2 r3).allY (fun r => Q (r.1, canS [27] r.2)) (An.v (AV.bool true, vc4_s0 q k m t a s v o n xs w1 w2 w3 r1 r2 r3) (An.v (AV.int IntKind.u64 m, vc4_s1 q k m t a s v o n xs w1 w2 w3 r1 r2 r3) (An.v (AV.agg (cl xs), vc4_s2 q k m t a s v o n xs w1 w2 w3 r1 r2 r3) An.nil))) := by kernel_rfl
noncomputable def vc2_s0 (q : CallT) (k : Int) (m : Int) (t : Int) (a : Int) (s : Int) (v : AV) (o : AO) (n : Nat) (xs : Nat → Int) (w1 : AV) (w2 : AV) (w3 : AV) (r1 : List AV) (r2 : List AV) (r3 : List AV) : ASt := mkSt [(0, o), (1, AO.cells [AV.int IntKind.i64 (Int.ofNat 2), AV.int IntKind.u64 m, AV.int IntKind.u64 t, AV.int IntKind.u64 a, AV.int IntKind.u64 s, AV.slice (some (0, 0)) n (Cap.atl n)] true)] 2
noncomputable def vc2_s1 (q : CallT) (k : Int) (m : Int) (t : Int) (a : Int) (s : Int) (v : AV) (o : AO) (n : Nat) (xs : Nat → Int) (w1 : AV) (w2 : AV) (w3 : AV) (r1 : List AV) (r2 : List AV) (r3 : List AV) : ASt := mkSt [(0, o), (1, AO.cells [AV.int IntKind.i64 (Int.ofNat 2), AV.int IntKind.u64 m, AV.int IntKind.u64 t, AV.int IntKind.u64 a, AV.int IntKind.u64 s, AV.slice (some (0, 0)) n (Cap.atl n)] true), (2, AO.cells [AV.slice (some (19, 0)) 3 (Cap.rest 1), AV.bool false] true), (3, AO.cells [AV.int IntKind.u8 (Int.ofNat 71), AV.int IntKind.u8 (Int.ofNat 80)] true), (17, AO.dead), (18, AO.cells [AV.int IntKind.u8 (Int.ofNat 2)] true), (19, AO.cells [AV.int IntKind.u8 (Int.ofNat 71), AV.int IntKind.u8 (Int.ofNat 80), AV.int IntKind.u8 (Int.ofNat 2)] true)] 20
noncomputable def vc2_s2 (q : CallT) (k : Int) (m : Int) (t : Int) (a : Int) (s : Int) (v : AV) (o : AO) (n : Nat) (xs : Nat → Int) (w1 : AV) (w2 : AV) (w3 : AV) (r1 : List AV) (r2 : List AV) (r3 : List AV) : ASt := mkSt [(0, o), (1, AO.cells [AV.int IntKind.i64 (Int.ofNat 2), AV.int IntKind.u64 m, AV.int IntKind.u64 t, AV.int IntKind.u64 a, AV.int IntKind.u64 s, AV.slice (some (0, 0)) n (Cap.atl n)] true), (2, AO.cells [AV.slice (some (34, 0)) 35 (Cap.rest 1), AV.bool false] true), (3, AO.cells [AV.int IntKind.u8 (Int.ofNat 71), AV.int IntKind.u8 (Int.ofNat 80)] true), (17, AO.dead), (18, AO.cells [AV.int IntKind.u8 (Int.ofNat 2)] true), (19, AO.dead), (20, AO.cells [AV.int IntKind.u8 (wrapF IntKind.u8 (shrF m 56)), AV.int IntKind.u8 (wrapF IntKind.u8 (shrF m 48)), AV.int IntKind.u8 (wrapF IntKind.u8 (shrF m 40)), AV.int IntKind.u8 (wrapF IntKind.u8 (shrF m 32)), AV.int IntKind.u8 (wrapF IntKind.u8 (shrF m 24)), AV.int IntKind.u8 (wrapF IntKind.u8 (shrF m 16)), AV.int IntKind.u8 (wrapF IntKind.u8 (shrF m 8)), AV.int IntKind.u8 (wrapF IntKind.u8 (shrF m 0))] true), (21, AO.dead), (22, AO.cells [AV.int IntKind.u8 (wrapF IntKind.u8 (shrF t 56)), AV.int IntKind.u8 (wrapF IntKind.u8 (shrF t 48)), AV.int IntKind.u8 (wrapF IntKind.u8 (shrF t 40)), AV.int IntKind.u8 (wrapF IntKind.u8 (shrF t 32)), AV.int IntKind.u8 (wrapF IntKind.u8 (shrF t 24)), AV.int IntKind.u8 (wrapF IntKind.u8 (shrF t 16)), AV.int IntKind.u8 (wrapF IntKind.u8 (shrF t 8)), AV.int IntKind.u8 (wrapF IntKind.u8 (shrF t 0))] true), (23, AO.dead), (24, AO.cells [AV.int IntKind.u8 (wrapF IntKind.u8 (shrF a 56)), AV.int IntKind.u8 (wrapF IntKind.u8 (shrF a 48)), AV.int IntKind.u8 (wrapF IntKind.u8 (shrF a 40)), AV.int IntKind.u8 (wrapF IntKind.u8 (shrF a 32)), AV.int IntKind.u8 (wrapF IntKind.u8 (shrF a 24)), AV.int IntKind.u8 (wrapF IntKind.u8 (shrF a 16)), AV.int IntKind.u8 (wrapF IntKind.u8 (shrF a 8)), AV.int IntKind.u8 (wrapF IntKind.u8 (shrF a 0))] true), (25, AO.dead), (33, AO.cells [AV.int IntKind.u8 (wrapF IntKind.u8 (shrF s 56)), AV.int IntKind.u8 (wrapF IntKind.u8 (shrF s 48)), AV.int IntKind.u8 (wrapF IntKind.u8 (shrF s 40)), AV.int IntKind.u8 (wrapF IntKind.u8 (shrF s 32)), AV.int IntKind.u8 (wrapF IntKind.u8 (shrF s 24)), AV.int IntKind.u8 (wrapF IntKind.u8 (shrF s 16)), AV.int IntKind.u8 (wrapF IntKind.u8 (shrF s 8)), AV.int IntKind.u8 (wrapF IntKind.u8 (shrF s 0))] true), (34, AO.cells [AV.int IntKind.u8 (Int.ofNat 71), AV.int IntKind.u8 (Int.ofNat 80), AV.int IntKind.u8 (Int.ofNat 2), AV.int IntKind.u8 (wrapF IntKind.u8 (shrF m 56)), AV.int IntKind.u8 (wrapF IntKind.u8 (shrF m 48)), AV.int IntKind.u8 (wrapF IntKind.u8 (shrF m 40)), AV.int IntKind.u8 (wrapF IntKind.u8 (shrF m 32)), AV.int IntKind.u8 (wrapF IntKind.u8 (shrF m 24)), AV.int IntKind.u8 (wrapF IntKind.u8 (shrF m 16)), AV.int IntKind.u8 (wrapF IntKind.u8 (shrF m 8)), AV.int IntKind.u8 (wrapF IntKind.u8 (shrF m 0)), AV.int IntKind.u8 (wrapF IntKind.u8 (shrF t 56)), AV.int IntKind.u8 (wrapF IntKind.u8 (shrF t 48)), AV.int IntKind.u8 (wrapF IntKind.u8 (shrF t 40)), AV.int IntKind.u8 (wrapF IntKind.u8 (shrF t 32)), AV.int IntKind.u8 (wrapF IntKind.u8 (shrF t 24)), AV.int IntKind.u8 (wrapF IntKind.u8 (shrF t 16)), AV.int IntKind.u8 (wrapF IntKind.u8 (shrF t 8)), AV.int IntKind.u8 (wrapF IntKind.u8 (shrF t 0)), AV.int IntKind.u8 (wrapF IntKind.u8 (shrF a 56)), AV.int IntKind.u8 (wrapF IntKind.u8 (shrF a 48)), AV.int IntKind.u8 (wrapF IntKind.u8 (shrF a 40)), AV.int IntKind.u8 (wrapF IntKind.u8 (shrF a 32)), AV.int IntKind.u8 (wrapF IntKind.u8 (shrF a 24)), AV.int IntKind.u8 (wrapF IntKind.u8 (shrF a 16)), AV.int IntKind.u8 (wrapF IntKind.u8 (shrF a 8)), AV.int IntKind.u8 (wrapF IntKind.u8 (shrF a 0)), AV.int IntKind.u8 (wrapF IntKind.u8 (shrF s 56)), AV.int IntKind.u8 (wrapF IntKind.u8 (shrF s 48)), AV.int IntKind.u8 (wrapF IntKind.u8 (shrF s 40)), AV.int IntKind.u8 (wrapF IntKind.u8 (shrF s 32)), AV.int IntKind.u8 (wrapF IntKind.u8 (shrF s 24)), AV.int IntKind.u8 (wrapF IntKind.u8 (shrF s 16)), AV.int IntKind.u8 (wrapF IntKind.u8 (shrF s 8)), AV.int IntKind.u8 (wrapF IntKind.u8 (shrF s 0))] true)] 35
noncomputable def vc2_s3 (q : CallT) (k : Int) (m : Int) (t : Int) (a : Int) (s : Int) (v : AV) (o : AO) (n : Nat) (xs : Nat → Int) (w1 : AV) (w2 : AV) (w3 : AV) (r1 : List AV) (r2 : List AV) (r3 : List AV) : ASt := mkSt [(0, o), (1, AO.cells [AV.int IntKind.i64 (Int.ofNat 2), AV.int IntKind.u64 m, AV.int IntKind.u64 t, AV.int IntKind.u64 a, AV.int IntKind.u64 s, AV.slice (some (0, 0)) n (Cap.atl n)] true), (2, AO.cells [AV.slice (some (40, 0)) (37 + n) (Cap.rest 1), AV.bool false] true), (40, AO.cells r1 true)] 41
noncomputable def vc2_s4 (q : CallT) (k : Int) (m : Int) (t : Int) (a : Int) (s : Int) (v : AV) (o : AO) (n : Nat) (xs : Nat → Int) (w1 : AV) (w2 : AV) (w3 : AV) (r1 : List AV) (r2 : List AV) (r3 : List AV) : ASt := mkSt [(0, o), (1, AO.cells [AV.int IntKind.i64 (Int.ofNat 2), AV.int IntKind.u64 m, AV.int IntKind.u64 t, AV.int IntKind.u64 a, AV.int IntKind.u64 s, AV.slice (some (0, 0)) n (Cap.atl n)] true), (2, AO.cells [AV.slice (some (40, 0)) (37 + n) (Cap.rest 1), AV.bool false] true), (40, AO.cells r1 true), (41, AO.cells [] true)] 42
noncomputable def vc2_s5 (q : CallT) (k : Int) (m : Int) (t : Int) (a : Int) (s : Int) (v : AV) (o : AO) (n : Nat) (xs : Nat → Int) (w1 : AV) (w2 : AV) (w3 : AV) (r1 : List AV) (r2 : List AV) (r3 : List AV) : ASt := mkSt [(0, o), (1, AO.cells [AV.int IntKind.i64 (Int.ofNat 2), AV.int IntKind.u64 m, AV.int IntKind.u64 t, AV.int IntKind.u64 a, AV.int IntKind.u64 s, AV.slice (some (0, 0)) n (Cap.atl n)] true), (2, AO.cells [AV.slice (some (40, 0)) (37 + n) (Cap.rest 1), AV.bool false] true), (40, AO.cells r1 true), (41, AO.cells [] true), (42, AO.cells r1 true)] 43
noncomputable def vc2_s6 (q : CallT) (k : Int) (m : Int) (t : Int) (a : Int) (s : Int) (v : AV) (o : AO) (n : Nat) (xs : Nat → Int) (w1 : AV) (w2 : AV) (w3 : AV) (r1 : List AV) (r2 : List AV) (r3 : List AV) : ASt := mkSt [(0, o), (1, AO.cells [AV.int IntKind.i64 (Int.ofNat 2), AV.int IntKind.u64 m, AV.int IntKind.u64 t, AV.int IntKind.u64 a, AV.int IntKind.u64 s, AV.slice (some (0, 0)) n (Cap.atl n)] true), (2, AO.cells [AV.slice (some (40, 0)) (37 + n) (Cap.rest 1), AV.bool false] true), (40, AO.cells r1 true), (41, AO.cells [] true), (42, AO.cells r1 true), (43, AO.cells (cl xs) true)] 44
noncomputable def vc2_s7 (q : CallT) (k : Int) (m : Int) (t : Int) (a : Int) (s : Int) (v : AV) (o : AO) (n : Nat) (xs : Nat → Int) (w1 : AV) (w2 : AV) (w3 : AV) (r1 : List AV) (r2 : List AV) (r3 : List AV) : ASt := mkSt [(0, o), (1, AO.cells [AV.int IntKind.i64 (Int.ofNat 2), AV.int IntKind.u64 m, AV.int IntKind.u64 t, AV.int IntKind.u64 a, AV.int IntKind.u64 s, AV.slice (some (0, 0)) n (Cap.atl n)] true), (2, AO.cells [AV.slice (some (40, 0)) (37 + n) (Cap.rest 1), AV.bool false] true), (40, AO.cells r1 true), (41, AO.cells [] true), (42, AO.dead), (43, AO.cells (cl xs) true), (44, AO.cells r2 true)] 45
noncomputable def vc2_s8 (q : CallT) (k : Int) (m : Int) (t : Int) (a : Int) (s : Int) (v : AV) (o : AO) (n : Nat) (xs : Nat → Int) (w1 : AV) (w2 : AV) (w3 : AV) (r1 : List AV) (r2 : List AV) (r3 : List AV) : ASt := mkSt [(44, AO.cells r2 true)] 45
theorem vc2 (q : CallT) (k : Int) (m : Int) (t : Int) (a : Int) (s : Int) (v : AV) (o : AO) (n : Nat) (xs : Nat → Int) (w1 : AV) (w2 : AV) (w3 : AV) (r1 : List AV) (r2 : List AV) (r3 : List AV) (Q : AV × ASt → Prop) :
  ((M E (drawA E) (sm q) 55).call 58 [AV.agg [AV.int IntKind.i64 (Int.ofNat 2), AV.int IntKind.u64 m, AV.int IntKind.u64 t, AV.int IntKind.u64 a, AV.int IntKind.u64 s, AV.slice (some (0, 0)) n (Cap.atl n)]] (vc2_s0 q k m t a s v o n xs w1 w2 w3 r1 r2 r3) = some (AV.bool true, vc2_s0 q k m t a s v o n xs w1 w2 w3 r1 r2 r3) ∧ aLoad E 28 (AV.ptr (some (1, 1))) (vc2_s1 q k m t a s v o n xs w1 w2 w3 r1 r2 r3) = some (AV.int IntKind.u64 m, vc2_s1 q k m t a s v o n xs w1 w2 w3 r1 r2 r3) ∧ holdsO [(some (AV.int IntKind.i64 (Int.ofNat 2)), AV.int IntKind.i64 (Int.ofNat 2)), (some (AV.int IntKind.u64 m), AV.int IntKind.u64 m), (some (AV.int IntKind.u64 m), AV.int IntKind.u64 m), (some (AV.int IntKind.u64 t), AV.int IntKind.u64 t), (some (AV.int IntKind.u64 t), AV.int IntKind.u64 t), (some (AV.int IntKind.u64 t), AV.int IntKind.u64 t)] ∧ (M E (drawA E) (sm q) 51).call 38 [AV.ptr (some (2, 0)), AV.slice (some (0, 0)) n (Cap.atl n)] (vc2_s2 q k m t a s v o n xs w1 w2 w3 r1 r2 r3) = some (AV.ptr (some (2, 0)), vc2_s3 q k m t a s v o n xs w1 w2 w3 r1 r2 r3) ∧ holdsO [(some (AV.slice (some (0, 0)) n (Cap.atl n)), AV.slice (some (0, 0)) n (Cap.atl n))] ∧ aBuiltinM E Builtin.append [25, 25] [AV.slice (some (41, 0)) 0 (Cap.known 0), AV.slice (some (40, 0)) (37 + n) (Cap.rest 1)] (vc2_s4 q k m t a s v o n xs w1 w2 w3 r1 r2 r3) = some (AV.slice (some (42, 0)) (37 + n) (Cap.rest 1), vc2_s5 q k m t a s v o n xs w1 w2 w3 r1 r2 r3) ∧ (M E (drawA E) (sm q) 51).call 59 [AV.slice (some (42, 0)) (37 + n) (Cap.rest 1)] (vc2_s5 q k m t a s v o n xs w1 w2 w3 r1 r2 r3) = some (AV.agg (cl xs), vc2_s5 q k m t a s v o n xs w1 w2 w3 r1 r2 r3) ∧ aBuiltinM E Builtin.append [25, 25] [AV.slice (some (42, 0)) (37 + n) (Cap.rest 1), AV.slice (some (43, 0)) 4 (Cap.known 32)] (vc2_s6 q k m t a s v o n xs w1 w2 w3 r1 r2 r3) = some (AV.slice (some (44, 0)) (37 + n + 4) (Cap.rest 1), vc2_s7 q k m t a s v o n xs w1 w2 w3 r1 r2 r3) ∧ Q (AV.tuple [AV.slice (some (44, 0)) (37 + n + 4) (Cap.rest 1), AV.int IntKind.i64 (Int.ofNat 0)], vc2_s8 q k m t a s v o n xs w1 w2 w3 r1 r2 r3)) =
  (t2 q k m t a s v o n xs w1 w2 w3 r1 r2 r3).allY (fun r => Q (r.1, canS [44] r.2)) (An.v (AV.bool true, vc2_s0 q k m t a s v o n xs w1 w2 w3 r1 r2 r3) (An.v (AV.int IntKind.u64 m, vc2_s1 q k m t a s v o n xs w1 w2 w3 r1 r2 r3) (An.v (AV.ptr (some (2, 0)), vc2_s3 q k m t a s v o n xs w1 w2 w3 r1 r2 r3) (An.v (AV.slice (some (42, 0)) (37 + n) (Cap.rest 1), vc2_s5 q k m t a s v o n xs w1 w2 w3 r1 r2 r3) (An.v (AV.agg (cl xs), vc2_s5 q k m t a s v o n xs w1 w2 w3 r1 r2 r3) (An.v (AV.slice (some (44, 0)) (37 + n + 4) (Cap.rest 1), vc2_s7 q k m t a s v o n xs w1 w2 w3 r1 r2 r3) An.nil)))))) := by kernel_rfl

/-! ### packet.Bytes -/
theorem Eok : Env.Ok Try.prog E := envEx_ok (xs := []) ⟨⟨Try.func22, Try.call22⟩, ⟨Try.func58, Try.call58⟩, ⟨Try.func90, Try.call90⟩, ⟨Try.func78, Try.call78⟩, ⟨Try.func79, Try.call79⟩, ⟨Try.func37, Try.call37⟩, ⟨Try.func44, Try.call44⟩, ⟨Try.func38, Try.call38⟩, ⟨Try.func14, Try.call14⟩, ⟨Try.func47, Try.call47⟩, trivial⟩ trivial (by kernel_rfl)
def wl (w : Int) : List Int := [wrapF .u8 (shrF w 24), wrapF .u8 (shrF w 16), wrapF .u8 (shrF w 8), wrapF .u8 (shrF w 0)]
def outL (s : S8) : List Int := wl s.a ++ (wl s.b ++ (wl s.c ++ (wl s.d ++ (wl s.e ++ (wl s.f ++ (wl s.g ++ wl s.h))))))
def hx (s : S8) (i : Nat) : Int := (outL s).getD i 0
theorem outI_cl (s : S8) : outI s = .agg (cl (hx s)) := rfl
def intsOf (row : List AV) : List Int := (bytesZ row).getD []
noncomputable def hashX (row : List AV) : Nat → Int := hx (sumZ row.length fun j => (intsOf row).getD j 0)
def be8 (x : Int) : List AV := [.int .u8 (wrapF .u8 (shrF x 56)), .int .u8 (wrapF .u8 (shrF x 48)), .int .u8 (wrapF .u8 (shrF x 40)), .int .u8 (wrapF .u8 (shrF x 32)), .int .u8 (wrapF .u8 (shrF x 24)), .int .u8 (wrapF .u8 (shrF x 16)), .int .u8 (wrapF .u8 (shrF x 8)), .int .u8 (wrapF .u8 (shrF x 0))]
def hd (k : Nat) (m t : Int) : List AV := .int .u8 (.ofNat 71) :: .int .u8 (.ofNat 80) :: .int .u8 (.ofNat k) :: (be8 m ++ be8 t)
def tl4 (xs : Nat → Int) : List AV := [.int .u8 (xs 0), .int .u8 (xs 1), .int .u8 (xs 2), .int .u8 (xs 3)]
/-- the hash of a row that is not empty -/
theorem sum_at {S : ASt} {i o n : Nat} {c : Cap} {cs row : List AV} {rw : Bool} {zs : List Int} (hg : S.h.get i = some (.cells cs rw)) (ht : takeL cs o n = some row) (hz : bytesZ row = some zs) (h0 : 0 < n) (hn : n < 1099511627776) :
    sumSumZ 59 59 [.slice (some (i, o)) n c] S = some (.agg (cl (hashX row)), S) := by
  have hl := (takeL_ok ht).1
  subst hl
  have e : hashX row = hx (sumZ row.length fun j => zs.getD j 0) := by
    unfold hashX intsOf
    rw [hz]; rfl
  rw [e, ← outI_cl]
  unfold sumSumZ
  simp only [Nat.beq_refl, cond_true, blt_t h0, blt_t hn, hg, ht, hz]

open Classical in
noncomputable def mayC : CallT := fun g args st => bif Nat.beq 58 g then (match args with
  | [.agg [.int .i64 k, .int .u64 m, .int .u64 t, .int .u64 a, .int .u64 s, v]] => if h : ∃ l, SlB st v l ∧ l.length < 9223372036854775808 then some (.bool (pkb.mayB k m t a s h.choose.length), st) else none
  | _ => none) else none
theorem ap25 : appT E 25 25 = some (1, 1) := by kernel_rfl
theorem mayC_ok : CallsOK Try.prog mayC := by
  intro B w0 g args st r hr ι w args' hsr hv
  unfold mayC at hr
  cases hf : Nat.beq 58 g
  · rw [hf] at hr; cases hr
  rw [hf, cond_true] at hr
  have := nbeq hf
  subst this
  split at hr
  · split at hr
    · rename_i hx
      simp only [Option.some.injEq] at hr
      subst hr
      exact pkb.may _ _ _ _ _ hx.choose_spec.1 hx.choose_spec.2 B w0 ι w args' hsr hv
    · cases hr
  · cases hr
open Classical in
theorem mayC_at {st : ASt} {v : AV} {l : List Nat} {k m t a s : Int} (h : SlB st v l) (hb : l.length < 9223372036854775808) : mayC 58 [pV k m t a s v] st = some (.bool (pkb.mayB k m t a s l.length), st) := by
  have hx : ∃ l, SlB st v l ∧ l.length < 9223372036854775808 := ⟨l, h, hb⟩
  have e : hx.choose = l := hx.choose_spec.1.inj h
  show (if h : ∃ l, SlB st v l ∧ l.length < 9223372036854775808 then some (AV.bool (pkb.mayB k m t a s h.choose.length), st) else none) = _
  rw [dif_pos hx, e]
noncomputable def qB (tab : List (Nat × List AV × ASt × (AV × ASt))) : CallT := orC mayC (orC (sumSumZ 59) (tabC tab))
theorem qB_ok {tab : List (Nat × List AV × ASt × (AV × ASt))} (h : ∀ e, e ∈ tab → Call1 Try.prog e.1 e.2.1 e.2.2.1 e.2.2.2) : CallsOK Try.prog (sm (qB tab)) := onlyC_ok (orC_ok mayC_ok (orC_ok sumPart.sum_ok (tabC_ok h)))
theorem may_at {tab : List (Nat × List AV × ASt × (AV × ASt))} {S : ASt} {v : AV} {l : List Nat} {k m t a s : Int} {j : Nat} (h : SlB S v l) (hb : l.length < 9223372036854775808) :
    (M E (drawA E) (sm (qB tab)) (j + 1)).call 58 [pV k m t a s v] S = some (.bool (pkb.mayB k m t a s l.length), S) := call_at (onlyC_at rfl (orC_l (mayC_at h hb)))
theorem hash_at {tab : List (Nat × List AV × ASt × (AV × ASt))} {S : ASt} {i o n j : Nat} {c : Cap} {cs row : List AV} {rw : Bool} {zs : List Int} (hg : S.h.get i = some (.cells cs rw)) (ht : takeL cs o n = some row) (hz : bytesZ row = some zs) (h0 : 0 < n) (hn : n < 1099511627776) :
    (M E (drawA E) (sm (qB tab)) (j + 1)).call 59 [.slice (some (i, o)) n c] S = some (.agg (cl (hashX row)), S) := call_at (onlyC_at rfl (orC_r rfl (orC_l (sum_at hg ht hz h0 hn))))
section
variable {S : ASt} {v : AV} {l : List Nat} {m t a s : Int}
theorem pR {k : Int} {v1 : AV} {o : AO} (h : SlB S v l) (r : RoArg S 0 v v1 o) (A : ArgB 0 v1 o l) : RoArg S 0 (pV k m t a s v) (pV k m t a s v1) o := by
  have hc : v.isCell = true ∧ v1.isCell = true := by cases h <;> cases A <;> exact ⟨rfl, rfl⟩
  exact RoArg.agg (pre := [.int .i64 k, .int .u64 m, .int .u64 t, .int .u64 a, .int .u64 s]) (post := []) r hc.1 hc.2 (fun c hc => by
    simp only [List.mem_cons, List.not_mem_nil, or_false] at hc
    rcases hc with rfl | rfl | rfl | rfl | rfl <;> simp [refsV]) (fun c hc => by cases hc)
theorem hold6 {k : Int} : holdsO [(some (AV.int IntKind.i64 k), AV.int IntKind.i64 k), (some (AV.int IntKind.u64 m), AV.int IntKind.u64 m), (some (AV.int IntKind.u64 m), AV.int IntKind.u64 m), (some (AV.int IntKind.u64 t), AV.int IntKind.u64 t), (some (AV.int IntKind.u64 t), AV.int IntKind.u64 t), (some (AV.int IntKind.u64 t), AV.int IntKind.u64 t)] := by
  simp [holdsO, avEq]
theorem be8_refs (x : Int) : ∀ c, c ∈ be8 x → refsV 0 c := fun c hc => by
  simp only [be8, List.mem_cons, List.not_mem_nil, or_false] at hc
  rcases hc with rfl | rfl | rfl | rfl | rfl | rfl | rfl | rfl <;> simp [refsV]
theorem hd_refs (k : Nat) (m t : Int) : ∀ c, c ∈ hd k m t → refsV 0 c := fun c hc => by
  simp only [hd, List.mem_cons, List.mem_append] at hc
  rcases hc with rfl | rfl | rfl | hc | hc
  · simp [refsV]
  · simp [refsV]
  · simp [refsV]
  · exact be8_refs _ c hc
  · exact be8_refs _ c hc
theorem tl4_refs (xs : Nat → Int) : ∀ c, c ∈ tl4 xs → refsV 0 c := fun c hc => by
  simp only [tl4, List.mem_cons, List.not_mem_nil, or_false] at hc
  rcases hc with rfl | rfl | rfl | rfl <;> simp [refsV]
theorem app_refs {x y : List AV} (hx : ∀ c, c ∈ x → refsV 0 c) (hy : ∀ c, c ∈ y → refsV 0 c) : ∀ c, c ∈ x ++ y → refsV 0 c := fun c hc => (List.mem_append.1 hc).elim (hx c) (hy c)

theorem bytesF {k : Int} (h : SlB S v l) (hb : l.length < 9223372036854775808) (hm : pkb.mayB k m t a s l.length = false) :
    Call1 Try.prog 22 [pV k m t a s v] S (.tuple [.slice none 0 (.known 0), .int .i64 (.ofNat 2)], outS (fun j => S.next + j) [] S (S.next + 45)) := by
  obtain ⟨v1, o, r, A⟩ := h.ro 0
  refine Call1.frame1 (Q1 := fun q => q = (AV.tuple [.slice none 0 (.known 0), .int .i64 (.ofNat 2)], mkSt [] 2)) (pR h r A) (fun B w0 ι w args' _ hsr hv => run_of_tm Eok (qB_ok (tab := []) (fun e he => by cases he)) (Eq.mp (vcF (qB []) k m t a s v1 o 0 (fun _ => 0) undefA undefA undefA [] [] [] (fun q => q = (AV.tuple [.slice none 0 (.known 0), .int .i64 (.ofNat 2)], mkSt [] 2))) ⟨(may_at (A.toSl (by kernel_rfl)) hb).trans (by rw [hm]), rfl⟩) B w0 ι w args' hsr hv) (by omega) (fun q hq => ?_)
  · subst hq
    exact ⟨BackV.eq rfl, by show S.next + 2 ≤ S.next + 45; omega, fun p hp => by cases hp⟩

noncomputable def row1 (m t a : Int) : List AV := hd 1 m t
theorem bytes1 (h : SlB S v l) (hb : l.length < 9223372036854775808) (hm : pkb.mayB (.ofNat 1) m t a s l.length = true) :
    Call1 Try.prog 22 [pV (.ofNat 1) m t a s v] S (.tuple [.slice (some (S.next + 27, 0)) 23 (.rest 1), .int .i64 (.ofNat 0)], outS (fun j => S.next + j) [(27, .cells (row1 m t a ++ tl4 (hashX (row1 m t a))) true)] S (S.next + 45)) := by
  obtain ⟨v1, o, r, A⟩ := h.ro 0
  refine Call1.frame1 (Q1 := fun q => q = (AV.tuple [.slice (some (27, 0)) 23 (.rest 1), .int .i64 (.ofNat 0)], mkSt [(27, .cells (row1 m t a ++ tl4 (hashX (row1 m t a))) true)] 28)) (pR h r A)
    (fun B w0 ι w args' _ hsr hv => run_of_tm Eok (qB_ok (tab := []) (fun e he => by cases he)) (Eq.mp (vc1 (qB []) 0 m t a s v1 o 0 (hashX (row1 m t a)) undefA undefA undefA [] [] [] (fun q => q = (AV.tuple [.slice (some (27, 0)) 23 (.rest 1), .int .i64 (.ofNat 0)], mkSt [(27, .cells (row1 m t a ++ tl4 (hashX (row1 m t a))) true)] 28))) ⟨(may_at (A.toSl (by kernel_rfl)) hb).trans (by rw [hm]), by kernel_rfl, hold6, hash_at (cs := row1 m t a) (row := row1 m t a) (rw := true) (zs := intsOf (row1 m t a)) (by kernel_rfl) (by kernel_rfl) (by kernel_rfl) (by omega) (by omega), by kernel_rfl⟩) B w0 ι w args' hsr hv) (by omega) (fun q hq => ?_)
  · subst hq
    refine ⟨BackV.eq rfl, by show S.next + 28 ≤ S.next + 45; omega, fun p hp => ?_⟩
    simp only [List.mem_cons, List.not_mem_nil, or_false] at hp
    subst hp
    exact ⟨Nat.le_of_ble_eq_true rfl, by show S.next + 27 < S.next + 45; omega, .inr ⟨rfl, _, (by kernel_rfl : (mkSt [(27, AO.cells (row1 m t a ++ tl4 (hashX (row1 m t a))) true)] 28).h.get 27 = some (.cells (row1 m t a ++ tl4 (hashX (row1 m t a))) true)), BackO.row (app_refs (hd_refs _ _ _) (tl4_refs _))⟩⟩

noncomputable def row4 (m t a : Int) : List AV := hd 4 m t
theorem bytes4 (h : SlB S v l) (hb : l.length < 9223372036854775808) (hm : pkb.mayB (.ofNat 4) m t a s l.length = true) :
    Call1 Try.prog 22 [pV (.ofNat 4) m t a s v] S (.tuple [.slice (some (S.next + 27, 0)) 23 (.rest 1), .int .i64 (.ofNat 0)], outS (fun j => S.next + j) [(27, .cells (row4 m t a ++ tl4 (hashX (row4 m t a))) true)] S (S.next + 45)) := by
  obtain ⟨v1, o, r, A⟩ := h.ro 0
  refine Call1.frame1 (Q1 := fun q => q = (AV.tuple [.slice (some (27, 0)) 23 (.rest 1), .int .i64 (.ofNat 0)], mkSt [(27, .cells (row4 m t a ++ tl4 (hashX (row4 m t a))) true)] 28)) (pR h r A)
    (fun B w0 ι w args' _ hsr hv => run_of_tm Eok (qB_ok (tab := []) (fun e he => by cases he)) (Eq.mp (vc4 (qB []) 0 m t a s v1 o 0 (hashX (row4 m t a)) undefA undefA undefA [] [] [] (fun q => q = (AV.tuple [.slice (some (27, 0)) 23 (.rest 1), .int .i64 (.ofNat 0)], mkSt [(27, .cells (row4 m t a ++ tl4 (hashX (row4 m t a))) true)] 28))) ⟨(may_at (A.toSl (by kernel_rfl)) hb).trans (by rw [hm]), by kernel_rfl, hold6, hash_at (cs := row4 m t a) (row := row4 m t a) (rw := true) (zs := intsOf (row4 m t a)) (by kernel_rfl) (by kernel_rfl) (by kernel_rfl) (by omega) (by omega), by kernel_rfl⟩) B w0 ι w args' hsr hv) (by omega) (fun q hq => ?_)
  · subst hq
    refine ⟨BackV.eq rfl, by show S.next + 28 ≤ S.next + 45; omega, fun p hp => ?_⟩
    simp only [List.mem_cons, List.not_mem_nil, or_false] at hp
    subst hp
    exact ⟨Nat.le_of_ble_eq_true rfl, by show S.next + 27 < S.next + 45; omega, .inr ⟨rfl, _, (by kernel_rfl : (mkSt [(27, AO.cells (row4 m t a ++ tl4 (hashX (row4 m t a))) true)] 28).h.get 27 = some (.cells (row4 m t a ++ tl4 (hashX (row4 m t a))) true)), BackO.row (app_refs (hd_refs _ _ _) (tl4_refs _))⟩⟩

noncomputable def row3 (m t a : Int) : List AV := hd 3 m t ++ be8 a
theorem bytes3 (h : SlB S v l) (hb : l.length < 9223372036854775808) (hm : pkb.mayB (.ofNat 3) m t a s l.length = true) :
    Call1 Try.prog 22 [pV (.ofNat 3) m t a s v] S (.tuple [.slice (some (S.next + 29, 0)) 31 (.rest 1), .int .i64 (.ofNat 0)], outS (fun j => S.next + j) [(29, .cells (row3 m t a ++ tl4 (hashX (row3 m t a))) true)] S (S.next + 45)) := by
  obtain ⟨v1, o, r, A⟩ := h.ro 0
  refine Call1.frame1 (Q1 := fun q => q = (AV.tuple [.slice (some (29, 0)) 31 (.rest 1), .int .i64 (.ofNat 0)], mkSt [(29, .cells (row3 m t a ++ tl4 (hashX (row3 m t a))) true)] 30)) (pR h r A)
    (fun B w0 ι w args' _ hsr hv => run_of_tm Eok (qB_ok (tab := []) (fun e he => by cases he)) (Eq.mp (vc3 (qB []) 0 m t a s v1 o 0 (hashX (row3 m t a)) undefA undefA undefA [] [] [] (fun q => q = (AV.tuple [.slice (some (29, 0)) 31 (.rest 1), .int .i64 (.ofNat 0)], mkSt [(29, .cells (row3 m t a ++ tl4 (hashX (row3 m t a))) true)] 30))) ⟨(may_at (A.toSl (by kernel_rfl)) hb).trans (by rw [hm]), by kernel_rfl, hold6, hash_at (cs := row3 m t a) (row := row3 m t a) (rw := true) (zs := intsOf (row3 m t a)) (by kernel_rfl) (by kernel_rfl) (by kernel_rfl) (by omega) (by omega), by kernel_rfl⟩) B w0 ι w args' hsr hv) (by omega) (fun q hq => ?_)
  · subst hq
    refine ⟨BackV.eq rfl, by show S.next + 30 ≤ S.next + 45; omega, fun p hp => ?_⟩
    simp only [List.mem_cons, List.not_mem_nil, or_false] at hp
    subst hp
    exact ⟨Nat.le_of_ble_eq_true rfl, by show S.next + 29 < S.next + 45; omega, .inr ⟨rfl, _, (by kernel_rfl : (mkSt [(29, AO.cells (row3 m t a ++ tl4 (hashX (row3 m t a))) true)] 30).h.get 29 = some (.cells (row3 m t a ++ tl4 (hashX (row3 m t a))) true)), BackO.row (app_refs (app_refs (hd_refs _ _ _) (be8_refs _)) (tl4_refs _))⟩⟩

theorem Call1.pick {P : Program} {f : Nat} {args : List AV} {S R : ASt} {v : AV} {ls : List (Nat × AO)} {nx : Nat} (h : Call1 P f args S (v, R)) (hp : ∀ p, p ∈ ls → R.h.get p.1 = some p.2) (hn : R.next ≤ nx) : Call1 P f args S (v, mkSt ls nx) := by
  intro B w0 ι w args' hsr hv
  obtain ⟨k1, k2⟩ := h B w0 ι w args' hsr hv
  refine ⟨k1, k2.mono fun e w' ⟨x, ι', he, hle, g1, g2⟩ => ⟨x, ι', he, hle, SR.sub g1 (fun k y hy => ?_) hn, g2⟩⟩
  rcases foldl_get D ls .e k y hy with ⟨p, p1, p2, p3⟩ | hy
  · subst p2; subst p3; exact hp p p1
  · rw [T.get_e] at hy; cases hy
def headI (m t a s : Int) : List Int := .ofNat 71 :: .ofNat 80 :: .ofNat 2 :: ([wrapF .u8 (shrF m 56), wrapF .u8 (shrF m 48), wrapF .u8 (shrF m 40), wrapF .u8 (shrF m 32), wrapF .u8 (shrF m 24), wrapF .u8 (shrF m 16), wrapF .u8 (shrF m 8), wrapF .u8 (shrF m 0)] ++ ([wrapF .u8 (shrF t 56), wrapF .u8 (shrF t 48), wrapF .u8 (shrF t 40), wrapF .u8 (shrF t 32), wrapF .u8 (shrF t 24), wrapF .u8 (shrF t 16), wrapF .u8 (shrF t 8), wrapF .u8 (shrF t 0)] ++ ([wrapF .u8 (shrF a 56), wrapF .u8 (shrF a 48), wrapF .u8 (shrF a 40), wrapF .u8 (shrF a 32), wrapF .u8 (shrF a 24), wrapF .u8 (shrF a 16), wrapF .u8 (shrF a 8), wrapF .u8 (shrF a 0)] ++ [wrapF .u8 (shrF s 56), wrapF .u8 (shrF s 48), wrapF .u8 (shrF s 40), wrapF .u8 (shrF s 32), wrapF .u8 (shrF s 24), wrapF .u8 (shrF s 16), wrapF .u8 (shrF s 8), wrapF .u8 (shrF s 0)])))
def head2 (m t a s : Int) : List AV := hd 2 m t ++ (be8 a ++ be8 s)
def row2 (m t a s : Int) (l : List Nat) : List AV := (head2 m t a s ++ wri.two l.length) ++ l.map cellU
def row2I (m t a s : Int) (l : List Nat) : List Int := (headI m t a s ++ [wrapF .u8 (shrF (wrapF .u64 (.ofNat l.length)) 8), wrapF .u8 (shrF (wrapF .u64 (.ofNat l.length)) 0)]) ++ l.map Int.ofNat
theorem row2_ints (m t a s : Int) (l : List Nat) : row2 m t a s l = (row2I m t a s l).map (AV.int .u8) := by
  unfold row2 row2I
  rw [List.map_append, List.map_append, List.map_map]
  rfl
theorem row2_len (m t a s : Int) (l : List Nat) : (row2 m t a s l).length = 37 + l.length := by
  simp [row2, head2, hd, be8, wri.two]
  omega
theorem head2_refs (m t a s : Int) : ∀ c, c ∈ head2 m t a s → refsV 0 c := app_refs (hd_refs _ _ _) (app_refs (be8_refs _) (be8_refs _))
theorem row2_refs (m t a s : Int) (l : List Nat) : ∀ c, c ∈ row2 m t a s l → refsV 0 c := app_refs (app_refs (head2_refs _ _ _ _) (wri.two_refs _)) (refU l)
theorem may2_len (h : pkb.mayB (.ofNat 2) m t a s l.length = true) : l ≠ [] ∧ l.length ≤ 4000 := by
  have e2 : eqF (.ofNat 2) (.ofNat 2) = true := rfl
  have e1 : eqF (.ofNat 2) (.ofNat 1) = false := rfl
  unfold pkb.mayB at h
  rw [e2, e1] at h
  cases hm : eqF m (.ofNat 0) <;> rw [hm] at h <;> simp only [cond_true, cond_false, Bool.false_eq_true] at h
  cases ht : eqF t (.ofNat 0) <;> rw [ht] at h <;> simp only [cond_true, cond_false, Bool.false_eq_true, Bool.not_false] at h
  cases hs : ltF (.ofNat 0) s <;> rw [hs] at h <;> simp only [cond_true, cond_false, Bool.false_eq_true] at h
  cases hn : ltF (.ofNat l.length) (.ofNat 1) <;> rw [hn] at h <;> simp only [cond_true, cond_false, Bool.false_eq_true] at h
  rw [ltF_nn] at hn h
  simp at hn h
  exact ⟨hn, h⟩
noncomputable def st22 (m t a s : Int) (l : List Nat) : ASt := vc2_s2 noSum 0 m t a s undefA (.cells (l.map cellU) false) l.length (fun _ => 0) undefA undefA undefA (row2 m t a s l) [] []
noncomputable def st23 (m t a s : Int) (l : List Nat) : ASt := vc2_s3 noSum 0 m t a s undefA (.cells (l.map cellU) false) l.length (fun _ => 0) undefA undefA undefA (row2 m t a s l) [] []
noncomputable def tab2 (m t a s : Int) (l : List Nat) : List (Nat × List AV × ASt × (AV × ASt)) := [(38, [AV.ptr (some (2, 0)), v2 l.length], st22 m t a s l, (AV.ptr (some (2, 0)), st23 m t a s l))]
theorem tab2_ok (h0 : l ≠ []) (hl : l.length ≤ 4000) : ∀ e, e ∈ tab2 m t a s l → Call1 Try.prog e.1 e.2.1 e.2.2.1 e.2.2.2 := by
  intro e he
  simp only [tab2, List.mem_cons, List.not_mem_nil, or_false] at he
  subst he
  have := wri.blob (S := st22 m t a s l) (R := head2 m t a s) (l := l) (i := 2) (r := 34) (i0 := 0) (o0 := 0) (c := .atl l.length) (cs := l.map cellU) (rw := false) (by kernel_rfl) (by kernel_rfl) (by decide) (show 2 < 35 by decide) (show 34 < 35 by decide) (by kernel_rfl) takeU (by decide) (by decide) (head2_refs m t a s) h0 (by omega) (show 35 < 1099511627776 by decide)
  refine Call1.pick this (fun p hp => ?_) (show 41 ≤ 41 by decide)
  simp only [List.mem_cons, List.not_mem_nil, or_false] at hp
  rcases hp with rfl | rfl | rfl | rfl <;> kernel_rfl
theorem bytes2 (h : SlB S v l) (hb : l.length < 9223372036854775808) (hm : pkb.mayB (.ofNat 2) m t a s l.length = true) :
    Call1 Try.prog 22 [pV (.ofNat 2) m t a s v] S (.tuple [.slice (some (S.next + 44, 0)) (37 + l.length + 4) (.rest 1), .int .i64 (.ofNat 0)], outS (fun j => S.next + j) [(44, .cells (row2 m t a s l ++ tl4 (hashX (row2 m t a s l))) true)] S (S.next + 45)) := by
  obtain ⟨h0, hl⟩ := may2_len hm
  have hn0 : 0 < l.length := List.length_pos_iff.2 h0
  obtain ⟨v1, o, r, A⟩ := h.ro 0
  cases A with
  | nil => exact absurd rfl h0
  | zero => exact absurd rfl h0
  | row _ =>
  have A := ArgB.row (i := 0) h0
  have len := row2_len m t a s l
  have all : ∀ {n : Nat}, n = 37 + l.length → takeL (row2 m t a s l) 0 n = some (row2 m t a s l) := fun {n} hn => by
    subst hn
    have e : (row2 m t a s l).take (37 + l.length) = row2 m t a s l := List.take_of_length_le (Nat.le_of_eq len)
    unfold takeL
    simp only [List.drop_zero, e, len, Nat.beq_refl, cond_true]
  refine Call1.frame1 (Q1 := fun q => q = (AV.tuple [.slice (some (44, 0)) (37 + l.length + 4) (.rest 1), .int .i64 (.ofNat 0)], mkSt [(44, .cells (row2 m t a s l ++ tl4 (hashX (row2 m t a s l))) true)] 45)) (pR h r A)
    (fun B w0 ι w args' _ hsr hv => run_of_tm Eok (qB_ok (tab2_ok (m := m) (t := t) (a := a) (s := s) h0 hl)) (Eq.mp (vc2 (qB (tab2 m t a s l)) 0 m t a s undefA (.cells (l.map cellU) false) l.length (hashX (row2 m t a s l)) undefA undefA undefA (row2 m t a s l) (row2 m t a s l ++ tl4 (hashX (row2 m t a s l))) [] (fun q => q = (AV.tuple [.slice (some (44, 0)) (37 + l.length + 4) (.rest 1), .int .i64 (.ofNat 0)], mkSt [(44, .cells (row2 m t a s l ++ tl4 (hashX (row2 m t a s l))) true)] 45)))
      ⟨(may_at (A.toSl (by kernel_rfl)) hb).trans (by rw [hm]), by kernel_rfl, hold6, call_at (onlyC_at rfl (orC_r rfl (orC_r rfl (tabC_hd 38 _ _ _ _)))), ?_, ?_, ?_, ?_, rfl⟩) B w0 ι w args' hsr hv) (by omega) (fun q hq => ?_)
  · subst hq
    refine ⟨BackV.eq rfl, by show S.next + 45 ≤ S.next + 45; omega, fun p hp => ?_⟩
    simp only [List.mem_cons, List.not_mem_nil, or_false] at hp
    subst hp
    exact ⟨Nat.le_of_ble_eq_true rfl, by show S.next + 44 < S.next + 45; omega, .inr ⟨rfl, _, (by kernel_rfl : (mkSt [(44, AO.cells (row2 m t a s l ++ tl4 (hashX (row2 m t a s l))) true)] 45).h.get 44 = some (.cells (row2 m t a s l ++ tl4 (hashX (row2 m t a s l))) true)), BackO.row (app_refs (row2_refs _ _ _ _ _) (tl4_refs _))⟩⟩
  · simp [holdsO, avEq, locEq, capEq]
  · exact (append_zero_at ap25 (n := 37 + l.length) (k := 41) (cs := []) (rw := true) (by kernel_rfl) (first_at (cs := row2 m t a s l) (rw := true) (by kernel_rfl) (by rw [Nat.mul_one]; exact all rfl)) (by kernel_rfl) (by omega) (by omega) (by omega)).trans (by kernel_rfl)
  · exact hash_at (cs := row2 m t a s l) (row := row2 m t a s l) (rw := true) (zs := row2I m t a s l) (by kernel_rfl) (all rfl) (by rw [row2_ints]; exact bytesZ_map _) (by omega) (by omega)
  · exact (append_grow_at (l := 37 + l.length) (cs := row2 m t a s l) (new := tl4 (hashX (row2 m t a s l))) ap25 (n := 4) (by kernel_rfl) (by kernel_rfl) (by kernel_rfl) (by rw [len, Nat.mul_one]) (by omega) (by omega) (by omega) (by omega)).trans (by kernel_rfl)
end

end Go.Proofs.Ytlnohbilfogheaa.pky
end

section
open Go Go.Ax Go.Proofs.Ytlnohbilfogheaa
namespace Go.Proofs.Ytlnohbilfogheaa.psz
set_option linter.unusedVariables false
noncomputable def fns : List (Nat × Func) := [(6, Try.f6), (23, Try.f23), (24, Try.f24)]
noncomputable def E : Env := envEx Try.prog [0, 3, 4, 5, 25, 28, 31, 33, 34, 61, 63, 89, 104] fns []
def fl0 : Fl := ⟨[], [], [], []⟩
noncomputable def sm (q : CallT) : CallT := onlyC [22, 24] q
noncomputable def pV (k m t a s : Int) (v : AV) : AV := .agg [.int .i64 k, .int .u64 m, .int .u64 t, .int .u64 a, .int .u64 s, v]
def v2 (n : Nat) : AV := .slice (some (0, 0)) n (.atl n)
def be8 (x : Int) : List AV := [.int .u8 (wrapF .u8 (shrF x 56)), .int .u8 (wrapF .u8 (shrF x 48)), .int .u8 (wrapF .u8 (shrF x 40)), .int .u8 (wrapF .u8 (shrF x 32)), .int .u8 (wrapF .u8 (shrF x 24)), .int .u8 (wrapF .u8 (shrF x 16)), .int .u8 (wrapF .u8 (shrF x 8)), .int .u8 (wrapF .u8 (shrF x 0))]
def hd (k : Nat) (m t : Int) : List AV := .int .u8 (.ofNat 71) :: .int .u8 (.ofNat 80) :: .int .u8 (.ofNat k) :: (be8 m ++ be8 t)
noncomputable def fls : List (Nat × Fl) := [(6, ⟨[11, 17, 86], [], [31, 78, 83], []⟩), (24, ⟨[], [], [], []⟩)]
noncomputable def tF (q : CallT) (k m t a s : Int) (v : AV) (o : AO) (n : Nat) (r : List AV) : Tr (AV × ASt) := (TM E (sm q) fls fl0 60).call 6 [pV k m t a s v] (mkSt [(0, o)] 1)
noncomputable def t1 (q : CallT) (k m t a s : Int) (v : AV) (o : AO) (n : Nat) (r : List AV) : Tr (AV × ASt) := (TM E (sm q) fls fl0 60).call 6 [pV (.ofNat 1) m t a s v] (mkSt [(0, o)] 1)
noncomputable def t3 (q : CallT) (k m t a s : Int) (v : AV) (o : AO) (n : Nat) (r : List AV) : Tr (AV × ASt) := (TM E (sm q) fls fl0 60).call 6 [pV (.ofNat 3) m t a s v] (mkSt [(0, o)] 1)
noncomputable def t4 (q : CallT) (k m t a s : Int) (v : AV) (o : AO) (n : Nat) (r : List AV) : Tr (AV × ASt) := (TM E (sm q) fls fl0 60).call 6 [pV (.ofNat 4) m t a s v] (mkSt [(0, o)] 1)
noncomputable def t2 (q : CallT) (k m t a s : Int) (v : AV) (o : AO) (n : Nat) (r : List AV) : Tr (AV × ASt) := (TM E (sm q) fls fl0 60).call 6 [pV (.ofNat 2) m t a s (v2 n)] (mkSt [(0, o)] 1)
noncomputable def flsK : List (Nat × Fl) := [(24, ⟨[5], [], [], []⟩)]
noncomputable def tK (q : CallT) (r : List AV) : Tr (AV × ASt) := (TM E (onlyC [22] q) flsK fl0 60).call 24 [] (mkSt [] 0)

def adS (n x : Int) : Int := wrapF .u64 (wrapF .u64 (.ofNat 256 * n) + wrapF .u64 x)
def bX (m : Int) (i : Nat) : Int := wrapF .u8 (shrF m i)
def mX (m : Int) : Int := adS (adS (adS (adS (adS (adS (adS (wrapF .u64 (.ofNat 0 + wrapF .u64 (bX m 56))) (bX m 48)) (bX m 40)) (bX m 32)) (bX m 24)) (bX m 16)) (bX m 8)) (bX m 0)
attribute [irreducible] mX
noncomputable def vcK_s0 (r : List AV) : ASt := mkSt [] 0
noncomputable def vcK_s1 (r : List AV) : ASt := mkSt [(27, AO.cells r true)] 45
noncomputable def vcK_s2 (r : List AV) : ASt := mkSt [] 45
theorem vcK (q : CallT) (r : List AV) (Q : AV × ASt → Prop) :
  ((M E (drawA E) (onlyC [22] q) 56).call 22 [AV.agg [AV.int IntKind.i64 (Int.ofNat 1), AV.int IntKind.u64 (Int.ofNat 1), AV.int IntKind.u64 (Int.ofNat 0), AV.int IntKind.u64 (Int.ofNat 0), AV.int IntKind.u64 (Int.ofNat 0), AV.slice none 0 (Cap.known 0)]] (vcK_s0 r) = some (AV.tuple [AV.slice (some (27, 0)) 23 (Cap.rest 1), AV.int IntKind.i64 (Int.ofNat 0)], vcK_s1 r) ∧ Q (AV.bool true, vcK_s2 r)) =
  (tK q r).allY (fun r => Q (r.1, canS [] r.2)) (An.v (AV.tuple [AV.slice (some (27, 0)) 23 (Cap.rest 1), AV.int IntKind.i64 (Int.ofNat 0)], vcK_s1 r) An.nil) := by kernel_rfl
noncomputable def vcF_s0 (k : Int) (m : Int) (t : Int) (a : Int) (s : Int) (v : AV) (o : AO) (n : Nat) (r : List AV) : ASt := mkSt [(0, o), (1, AO.cells [AV.int IntKind.i64 k, AV.int IntKind.u64 m, AV.int IntKind.u64 t, AV.int IntKind.u64 a, AV.int IntKind.u64 s, v] true)] 2
noncomputable def vcF_s1 (k : Int) (m : Int) (t : Int) (a : Int) (s : Int) (v : AV) (o : AO) (n : Nat) (r : List AV) : ASt := mkSt [(0, o), (1, AO.cells [AV.int IntKind.i64 k, AV.int IntKind.u64 m, AV.int IntKind.u64 t, AV.int IntKind.u64 a, AV.int IntKind.u64 s, v] true)] 47
noncomputable def vcF_s2 (k : Int) (m : Int) (t : Int) (a : Int) (s : Int) (v : AV) (o : AO) (n : Nat) (r : List AV) : ASt := mkSt [] 47
theorem vcF (q : CallT) (k : Int) (m : Int) (t : Int) (a : Int) (s : Int) (v : AV) (o : AO) (n : Nat) (r : List AV) (Q : AV × ASt → Prop) :
  ((M E (drawA E) (sm q) 56).call 22 [AV.agg [AV.int IntKind.i64 k, AV.int IntKind.u64 m, AV.int IntKind.u64 t, AV.int IntKind.u64 a, AV.int IntKind.u64 s, v]] (vcF_s0 k m t a s v o n r) = some (AV.tuple [AV.slice none 0 (Cap.known 0), AV.int IntKind.i64 (Int.ofNat 2)], vcF_s1 k m t a s v o n r) ∧ (M E (drawA E) (sm q) 52).call 24 [] (vcF_s1 k m t a s v o n r) = some (AV.bool true, vcF_s1 k m t a s v o n r) ∧ Q (AV.bool true, vcF_s2 k m t a s v o n r)) =
  (tF q k m t a s v o n r).allY (fun r => Q (r.1, canS [] r.2)) (An.v (AV.tuple [AV.slice none 0 (Cap.known 0), AV.int IntKind.i64 (Int.ofNat 2)], vcF_s1 k m t a s v o n r) (An.v (AV.bool true, vcF_s1 k m t a s v o n r) An.nil)) := by kernel_rfl
noncomputable def vc1_s0 (k : Int) (m : Int) (t : Int) (a : Int) (s : Int) (v : AV) (o : AO) (n : Nat) (r : List AV) : ASt := mkSt [(0, o), (1, AO.cells [AV.int IntKind.i64 (Int.ofNat 1), AV.int IntKind.u64 m, AV.int IntKind.u64 t, AV.int IntKind.u64 a, AV.int IntKind.u64 s, v] true)] 2
noncomputable def vc1_s1 (k : Int) (m : Int) (t : Int) (a : Int) (s : Int) (v : AV) (o : AO) (n : Nat) (r : List AV) : ASt := mkSt [(0, o), (1, AO.cells [AV.int IntKind.i64 (Int.ofNat 1), AV.int IntKind.u64 m, AV.int IntKind.u64 t, AV.int IntKind.u64 a, AV.int IntKind.u64 s, v] true), (29, AO.cells (AV.int IntKind.u8 (Int.ofNat 71) :: AV.int IntKind.u8 (Int.ofNat 80) :: AV.int IntKind.u8 (Int.ofNat 1) :: AV.int IntKind.u8 (wrapF IntKind.u8 (shrF m 56)) :: AV.int IntKind.u8 (wrapF IntKind.u8 (shrF m 48)) :: AV.int IntKind.u8 (wrapF IntKind.u8 (shrF m 40)) :: AV.int IntKind.u8 (wrapF IntKind.u8 (shrF m 32)) :: AV.int IntKind.u8 (wrapF IntKind.u8 (shrF m 24)) :: AV.int IntKind.u8 (wrapF IntKind.u8 (shrF m 16)) :: AV.int IntKind.u8 (wrapF IntKind.u8 (shrF m 8)) :: AV.int IntKind.u8 (wrapF IntKind.u8 (shrF m 0)) :: AV.int IntKind.u8 (wrapF IntKind.u8 (shrF t 56)) :: AV.int IntKind.u8 (wrapF IntKind.u8 (shrF t 48)) :: AV.int IntKind.u8 (wrapF IntKind.u8 (shrF t 40)) :: AV.int IntKind.u8 (wrapF IntKind.u8 (shrF t 32)) :: AV.int IntKind.u8 (wrapF IntKind.u8 (shrF t 24)) :: AV.int IntKind.u8 (wrapF IntKind.u8 (shrF t 16)) :: AV.int IntKind.u8 (wrapF IntKind.u8 (shrF t 8)) :: AV.int IntKind.u8 (wrapF IntKind.u8 (shrF t 0)) :: r) true)] 47
noncomputable def vc1_s2 (k : Int) (m : Int) (t : Int) (a : Int) (s : Int) (v : AV) (o : AO) (n : Nat) (r : List AV) : ASt := mkSt [(0, o), (1, AO.cells [AV.int IntKind.i64 (Int.ofNat 1), AV.int IntKind.u64 m, AV.int IntKind.u64 t, AV.int IntKind.u64 a, AV.int IntKind.u64 s, v] true), (29, AO.cells (AV.int IntKind.u8 (Int.ofNat 71) :: AV.int IntKind.u8 (Int.ofNat 80) :: AV.int IntKind.u8 (Int.ofNat 1) :: AV.int IntKind.u8 (wrapF IntKind.u8 (shrF m 56)) :: AV.int IntKind.u8 (wrapF IntKind.u8 (shrF m 48)) :: AV.int IntKind.u8 (wrapF IntKind.u8 (shrF m 40)) :: AV.int IntKind.u8 (wrapF IntKind.u8 (shrF m 32)) :: AV.int IntKind.u8 (wrapF IntKind.u8 (shrF m 24)) :: AV.int IntKind.u8 (wrapF IntKind.u8 (shrF m 16)) :: AV.int IntKind.u8 (wrapF IntKind.u8 (shrF m 8)) :: AV.int IntKind.u8 (wrapF IntKind.u8 (shrF m 0)) :: AV.int IntKind.u8 (wrapF IntKind.u8 (shrF t 56)) :: AV.int IntKind.u8 (wrapF IntKind.u8 (shrF t 48)) :: AV.int IntKind.u8 (wrapF IntKind.u8 (shrF t 40)) :: AV.int IntKind.u8 (wrapF IntKind.u8 (shrF t 32)) :: AV.int IntKind.u8 (wrapF IntKind.u8 (shrF t 24)) :: AV.int IntKind.u8 (wrapF IntKind.u8 (shrF t 16)) :: AV.int IntKind.u8 (wrapF IntKind.u8 (shrF t 8)) :: AV.int IntKind.u8 (wrapF IntKind.u8 (shrF t 0)) :: r) true)] 232
noncomputable def vc1_s3 (k : Int) (m : Int) (t : Int) (a : Int) (s : Int) (v : AV) (o : AO) (n : Nat) (r : List AV) : ASt := mkSt [] 232
theorem vc1 (q : CallT) (k : Int) (m : Int) (t : Int) (a : Int) (s : Int) (v : AV) (o : AO) (n : Nat) (r : List AV) (Q : AV × ASt → Prop) :
  ((M E (drawA E) (sm q) 56).call 22 [AV.agg [AV.int IntKind.i64 (Int.ofNat 1), AV.int IntKind.u64 m, AV.int IntKind.u64 t, AV.int IntKind.u64 a, AV.int IntKind.u64 s, v]] (vc1_s0 k m t a s v o n r) = some (AV.tuple [AV.slice (some (29, 0)) 23 (Cap.rest 1), AV.int IntKind.i64 (Int.ofNat 0)], vc1_s1 k m t a s v o n r) ∧ ifB (eqF (mX m) m) (ifB (eqF (mX t) t) ((M E (drawA E) (sm q) 48).call 24 [] (vc1_s2 k m t a s v o n r) = some (AV.bool true, vc1_s2 k m t a s v o n r) ∧ Q (AV.bool true, vc1_s3 k m t a s v o n r)) (Q (AV.bool false, vc1_s3 k m t a s v o n r))) (Q (AV.bool false, vc1_s3 k m t a s v o n r))) =
  (t1 q k m t a s v o n r).allY (fun r => Q (r.1, canS [] r.2)) (An.v (AV.tuple [AV.slice (some (29, 0)) 23 (Cap.rest 1), AV.int IntKind.i64 (Int.ofNat 0)], vc1_s1 k m t a s v o n r) (An.b An.nil (An.b (An.b (An.v (AV.bool true, vc1_s2 k m t a s v o n r) An.nil) An.nil) An.nil))) := by kernel_rfl
noncomputable def vc3_s0 (k : Int) (m : Int) (t : Int) (a : Int) (s : Int) (v : AV) (o : AO) (n : Nat) (r : List AV) : ASt := mkSt [(0, o), (1, AO.cells [AV.int IntKind.i64 (Int.ofNat 3), AV.int IntKind.u64 m, AV.int IntKind.u64 t, AV.int IntKind.u64 a, AV.int IntKind.u64 s, v] true)] 2
noncomputable def vc3_s1 (k : Int) (m : Int) (t : Int) (a : Int) (s : Int) (v : AV) (o : AO) (n : Nat) (r : List AV) : ASt := mkSt [(0, o), (1, AO.cells [AV.int IntKind.i64 (Int.ofNat 3), AV.int IntKind.u64 m, AV.int IntKind.u64 t, AV.int IntKind.u64 a, AV.int IntKind.u64 s, v] true), (31, AO.cells (AV.int IntKind.u8 (Int.ofNat 71) :: AV.int IntKind.u8 (Int.ofNat 80) :: AV.int IntKind.u8 (Int.ofNat 3) :: AV.int IntKind.u8 (wrapF IntKind.u8 (shrF m 56)) :: AV.int IntKind.u8 (wrapF IntKind.u8 (shrF m 48)) :: AV.int IntKind.u8 (wrapF IntKind.u8 (shrF m 40)) :: AV.int IntKind.u8 (wrapF IntKind.u8 (shrF m 32)) :: AV.int IntKind.u8 (wrapF IntKind.u8 (shrF m 24)) :: AV.int IntKind.u8 (wrapF IntKind.u8 (shrF m 16)) :: AV.int IntKind.u8 (wrapF IntKind.u8 (shrF m 8)) :: AV.int IntKind.u8 (wrapF IntKind.u8 (shrF m 0)) :: AV.int IntKind.u8 (wrapF IntKind.u8 (shrF t 56)) :: AV.int IntKind.u8 (wrapF IntKind.u8 (shrF t 48)) :: AV.int IntKind.u8 (wrapF IntKind.u8 (shrF t 40)) :: AV.int IntKind.u8 (wrapF IntKind.u8 (shrF t 32)) :: AV.int IntKind.u8 (wrapF IntKind.u8 (shrF t 24)) :: AV.int IntKind.u8 (wrapF IntKind.u8 (shrF t 16)) :: AV.int IntKind.u8 (wrapF IntKind.u8 (shrF t 8)) :: AV.int IntKind.u8 (wrapF IntKind.u8 (shrF t 0)) :: r) true)] 47
noncomputable def vc3_s2 (k : Int) (m : Int) (t : Int) (a : Int) (s : Int) (v : AV) (o : AO) (n : Nat) (r : List AV) : ASt := mkSt [(0, o), (1, AO.cells [AV.int IntKind.i64 (Int.ofNat 3), AV.int IntKind.u64 m, AV.int IntKind.u64 t, AV.int IntKind.u64 a, AV.int IntKind.u64 s, v] true), (31, AO.cells (AV.int IntKind.u8 (Int.ofNat 71) :: AV.int IntKind.u8 (Int.ofNat 80) :: AV.int IntKind.u8 (Int.ofNat 3) :: AV.int IntKind.u8 (wrapF IntKind.u8 (shrF m 56)) :: AV.int IntKind.u8 (wrapF IntKind.u8 (shrF m 48)) :: AV.int IntKind.u8 (wrapF IntKind.u8 (shrF m 40)) :: AV.int IntKind.u8 (wrapF IntKind.u8 (shrF m 32)) :: AV.int IntKind.u8 (wrapF IntKind.u8 (shrF m 24)) :: AV.int IntKind.u8 (wrapF IntKind.u8 (shrF m 16)) :: AV.int IntKind.u8 (wrapF IntKind.u8 (shrF m 8)) :: AV.int IntKind.u8 (wrapF IntKind.u8 (shrF m 0)) :: AV.int IntKind.u8 (wrapF IntKind.u8 (shrF t 56)) :: AV.int IntKind.u8 (wrapF IntKind.u8 (shrF t 48)) :: AV.int IntKind.u8 (wrapF IntKind.u8 (shrF t 40)) :: AV.int IntKind.u8 (wrapF IntKind.u8 (shrF t 32)) :: AV.int IntKind.u8 (wrapF IntKind.u8 (shrF t 24)) :: AV.int IntKind.u8 (wrapF IntKind.u8 (shrF t 16)) :: AV.int IntKind.u8 (wrapF IntKind.u8 (shrF t 8)) :: AV.int IntKind.u8 (wrapF IntKind.u8 (shrF t 0)) :: r) true)] 232
noncomputable def vc3_s3 (k : Int) (m : Int) (t : Int) (a : Int) (s : Int) (v : AV) (o : AO) (n : Nat) (r : List AV) : ASt := mkSt [] 232
theorem vc3 (q : CallT) (k : Int) (m : Int) (t : Int) (a : Int) (s : Int) (v : AV) (o : AO) (n : Nat) (r : List AV) (Q : AV × ASt → Prop) :
  ((M E (drawA E) (sm q) 56).call 22 [AV.agg [AV.int IntKind.i64 (Int.ofNat 3), AV.int IntKind.u64 m, AV.int IntKind.u64 t, AV.int IntKind.u64 a, AV.int IntKind.u64 s, v]] (vc3_s0 k m t a s v o n r) = some (AV.tuple [AV.slice (some (31, 0)) 31 (Cap.rest 1), AV.int IntKind.i64 (Int.ofNat 0)], vc3_s1 k m t a s v o n r) ∧ ifB (eqF (mX m) m) (ifB (eqF (mX t) t) ((M E (drawA E) (sm q) 48).call 24 [] (vc3_s2 k m t a s v o n r) = some (AV.bool true, vc3_s2 k m t a s v o n r) ∧ Q (AV.bool true, vc3_s3 k m t a s v o n r)) (Q (AV.bool false, vc3_s3 k m t a s v o n r))) (Q (AV.bool false, vc3_s3 k m t a s v o n r))) =
  (t3 q k m t a s v o n r).allY (fun r => Q (r.1, canS [] r.2)) (An.v (AV.tuple [AV.slice (some (31, 0)) 31 (Cap.rest 1), AV.int IntKind.i64 (Int.ofNat 0)], vc3_s1 k m t a s v o n r) (An.b An.nil (An.b (An.b (An.v (AV.bool true, vc3_s2 k m t a s v o n r) An.nil) An.nil) An.nil))) := by kernel_rfl
noncomputable def vc4_s0 (k : Int) (m : Int) (t : Int) (a : Int) (s : Int) (v : AV) (o : AO) (n : Nat) (r : List AV) : ASt := mkSt [(0, o), (1, AO.cells [AV.int IntKind.i64 (Int.ofNat 4), AV.int IntKind.u64 m, AV.int IntKind.u64 t, AV.int IntKind.u64 a, AV.int IntKind.u64 s, v] true)] 2
noncomputable def vc4_s1 (k : Int) (m : Int) (t : Int) (a : Int) (s : Int) (v : AV) (o : AO) (n : Nat) (r : List AV) : ASt := mkSt [(0, o), (1, AO.cells [AV.int IntKind.i64 (Int.ofNat 4), AV.int IntKind.u64 m, AV.int IntKind.u64 t, AV.int IntKind.u64 a, AV.int IntKind.u64 s, v] true), (29, AO.cells (AV.int IntKind.u8 (Int.ofNat 71) :: AV.int IntKind.u8 (Int.ofNat 80) :: AV.int IntKind.u8 (Int.ofNat 4) :: AV.int IntKind.u8 (wrapF IntKind.u8 (shrF m 56)) :: AV.int IntKind.u8 (wrapF IntKind.u8 (shrF m 48)) :: AV.int IntKind.u8 (wrapF IntKind.u8 (shrF m 40)) :: AV.int IntKind.u8 (wrapF IntKind.u8 (shrF m 32)) :: AV.int IntKind.u8 (wrapF IntKind.u8 (shrF m 24)) :: AV.int IntKind.u8 (wrapF IntKind.u8 (shrF m 16)) :: AV.int IntKind.u8 (wrapF IntKind.u8 (shrF m 8)) :: AV.int IntKind.u8 (wrapF IntKind.u8 (shrF m 0)) :: AV.int IntKind.u8 (wrapF IntKind.u8 (shrF t 56)) :: AV.int IntKind.u8 (wrapF IntKind.u8 (shrF t 48)) :: AV.int IntKind.u8 (wrapF IntKind.u8 (shrF t 40)) :: AV.int IntKind.u8 (wrapF IntKind.u8 (shrF t 32)) :: AV.int IntKind.u8 (wrapF IntKind.u8 (shrF t 24)) :: AV.int IntKind.u8 (wrapF IntKind.u8 (shrF t 16)) :: AV.int IntKind.u8 (wrapF IntKind.u8 (shrF t 8)) :: AV.int IntKind.u8 (wrapF IntKind.u8 (shrF t 0)) :: r) true)] 47
noncomputable def vc4_s2 (k : Int) (m : Int) (t : Int) (a : Int) (s : Int) (v : AV) (o : AO) (n : Nat) (r : List AV) : ASt := mkSt [(0, o), (1, AO.cells [AV.int IntKind.i64 (Int.ofNat 4), AV.int IntKind.u64 m, AV.int IntKind.u64 t, AV.int IntKind.u64 a, AV.int IntKind.u64 s, v] true), (29, AO.cells (AV.int IntKind.u8 (Int.ofNat 71) :: AV.int IntKind.u8 (Int.ofNat 80) :: AV.int IntKind.u8 (Int.ofNat 4) :: AV.int IntKind.u8 (wrapF IntKind.u8 (shrF m 56)) :: AV.int IntKind.u8 (wrapF IntKind.u8 (shrF m 48)) :: AV.int IntKind.u8 (wrapF IntKind.u8 (shrF m 40)) :: AV.int IntKind.u8 (wrapF IntKind.u8 (shrF m 32)) :: AV.int IntKind.u8 (wrapF IntKind.u8 (shrF m 24)) :: AV.int IntKind.u8 (wrapF IntKind.u8 (shrF m 16)) :: AV.int IntKind.u8 (wrapF IntKind.u8 (shrF m 8)) :: AV.int IntKind.u8 (wrapF IntKind.u8 (shrF m 0)) :: AV.int IntKind.u8 (wrapF IntKind.u8 (shrF t 56)) :: AV.int IntKind.u8 (wrapF IntKind.u8 (shrF t 48)) :: AV.int IntKind.u8 (wrapF IntKind.u8 (shrF t 40)) :: AV.int IntKind.u8 (wrapF IntKind.u8 (shrF t 32)) :: AV.int IntKind.u8 (wrapF IntKind.u8 (shrF t 24)) :: AV.int IntKind.u8 (wrapF IntKind.u8 (shrF t 16)) :: AV.int IntKind.u8 (wrapF IntKind.u8 (shrF t 8)) :: AV.int IntKind.u8 (wrapF IntKind.u8 (shrF t 0)) :: r) true)] 232
noncomputable def vc4_s3 (k : Int) (m : Int) (t : Int) (a : Int) (s : Int) (v : AV) (o : AO) (n : Nat) (r : List AV) : ASt := mkSt [] 232
theorem vc4 (q : CallT) (k : Int) (m : Int) (t : Int) (a : Int) (s : Int) (v : AV) (o : AO) (n : Nat) (r : List AV) (Q : AV × ASt → Prop) :
  ((M E (drawA E) (sm q) 56).call 22 [AV.agg [AV.int IntKind.i64 (Int.ofNat 4), AV.int IntKind.u64 m, AV.int IntKind.u64 t, AV.int IntKind.u64 a, AV.int IntKind.u64 s, v]] (vc4_s0 k m t a s v o n r) = some (AV.tuple [AV.slice (some (29, 0)) 23 (Cap.rest 1), AV.int IntKind.i64 (Int.ofNat 0)], vc4_s1 k m t a s v o n r) ∧ ifB (eqF (mX m) m) (ifB (eqF (mX t) t) ((M E (drawA E) (sm q) 48).call 24 [] (vc4_s2 k m t a s v o n r) = some (AV.bool true, vc4_s2 k m t a s v o n r) ∧ Q (AV.bool true, vc4_s3 k m t a s v o n r)) (Q (AV.bool false, vc4_s3 k m t a s v o n r))) (Q (AV.bool false, vc4_s3 k m t a s v o n r))) =
  (t4 q k m t a s v o n r).allY (fun r => Q (r.1, canS [] r.2)) (An.v (AV.tuple [AV.slice (some (29, 0)) 23 (Cap.rest 1), AV.int IntKind.i64 (Int.ofNat 0)], vc4_s1 k m t a s v o n r) (An.b An.nil (An.b (An.b (An.v (AV.bool true, vc4_s2 k m t a s v o n r) An.nil) An.nil) An.nil))) := by kernel_rfl
noncomputable def vc2_s0 (k : Int) (m : Int) (t : Int) (a : Int) (s : Int) (v : AV) (o : AO) (n : Nat) (r : List AV) : ASt := mkSt [(0, o), (1, AO.cells [AV.int IntKind.i64 (Int.ofNat 2), AV.int IntKind.u64 m, AV.int IntKind.u64 t, AV.int IntKind.u64 a, AV.int IntKind.u64 s, AV.slice (some (0, 0)) n (Cap.atl n)] true)] 2
noncomputable def vc2_s1 (k : Int) (m : Int) (t : Int) (a : Int) (s : Int) (v : AV) (o : AO) (n : Nat) (r : List AV) : ASt := mkSt [(0, o), (1, AO.cells [AV.int IntKind.i64 (Int.ofNat 2), AV.int IntKind.u64 m, AV.int IntKind.u64 t, AV.int IntKind.u64 a, AV.int IntKind.u64 s, AV.slice (some (0, 0)) n (Cap.atl n)] true), (46, AO.cells (AV.int IntKind.u8 (Int.ofNat 71) :: AV.int IntKind.u8 (Int.ofNat 80) :: AV.int IntKind.u8 (Int.ofNat 2) :: AV.int IntKind.u8 (wrapF IntKind.u8 (shrF m 56)) :: AV.int IntKind.u8 (wrapF IntKind.u8 (shrF m 48)) :: AV.int IntKind.u8 (wrapF IntKind.u8 (shrF m 40)) :: AV.int IntKind.u8 (wrapF IntKind.u8 (shrF m 32)) :: AV.int IntKind.u8 (wrapF IntKind.u8 (shrF m 24)) :: AV.int IntKind.u8 (wrapF IntKind.u8 (shrF m 16)) :: AV.int IntKind.u8 (wrapF IntKind.u8 (shrF m 8)) :: AV.int IntKind.u8 (wrapF IntKind.u8 (shrF m 0)) :: AV.int IntKind.u8 (wrapF IntKind.u8 (shrF t 56)) :: AV.int IntKind.u8 (wrapF IntKind.u8 (shrF t 48)) :: AV.int IntKind.u8 (wrapF IntKind.u8 (shrF t 40)) :: AV.int IntKind.u8 (wrapF IntKind.u8 (shrF t 32)) :: AV.int IntKind.u8 (wrapF IntKind.u8 (shrF t 24)) :: AV.int IntKind.u8 (wrapF IntKind.u8 (shrF t 16)) :: AV.int IntKind.u8 (wrapF IntKind.u8 (shrF t 8)) :: AV.int IntKind.u8 (wrapF IntKind.u8 (shrF t 0)) :: r) true)] 47
noncomputable def vc2_s2 (k : Int) (m : Int) (t : Int) (a : Int) (s : Int) (v : AV) (o : AO) (n : Nat) (r : List AV) : ASt := mkSt [] 72
noncomputable def vc2_s3 (k : Int) (m : Int) (t : Int) (a : Int) (s : Int) (v : AV) (o : AO) (n : Nat) (r : List AV) : ASt := mkSt [(0, o), (1, AO.cells [AV.int IntKind.i64 (Int.ofNat 2), AV.int IntKind.u64 m, AV.int IntKind.u64 t, AV.int IntKind.u64 a, AV.int IntKind.u64 s, AV.slice (some (0, 0)) n (Cap.atl n)] true), (46, AO.cells (AV.int IntKind.u8 (Int.ofNat 71) :: AV.int IntKind.u8 (Int.ofNat 80) :: AV.int IntKind.u8 (Int.ofNat 2) :: AV.int IntKind.u8 (wrapF IntKind.u8 (shrF m 56)) :: AV.int IntKind.u8 (wrapF IntKind.u8 (shrF m 48)) :: AV.int IntKind.u8 (wrapF IntKind.u8 (shrF m 40)) :: AV.int IntKind.u8 (wrapF IntKind.u8 (shrF m 32)) :: AV.int IntKind.u8 (wrapF IntKind.u8 (shrF m 24)) :: AV.int IntKind.u8 (wrapF IntKind.u8 (shrF m 16)) :: AV.int IntKind.u8 (wrapF IntKind.u8 (shrF m 8)) :: AV.int IntKind.u8 (wrapF IntKind.u8 (shrF m 0)) :: AV.int IntKind.u8 (wrapF IntKind.u8 (shrF t 56)) :: AV.int IntKind.u8 (wrapF IntKind.u8 (shrF t 48)) :: AV.int IntKind.u8 (wrapF IntKind.u8 (shrF t 40)) :: AV.int IntKind.u8 (wrapF IntKind.u8 (shrF t 32)) :: AV.int IntKind.u8 (wrapF IntKind.u8 (shrF t 24)) :: AV.int IntKind.u8 (wrapF IntKind.u8 (shrF t 16)) :: AV.int IntKind.u8 (wrapF IntKind.u8 (shrF t 8)) :: AV.int IntKind.u8 (wrapF IntKind.u8 (shrF t 0)) :: r) true)] 232
noncomputable def vc2_s4 (k : Int) (m : Int) (t : Int) (a : Int) (s : Int) (v : AV) (o : AO) (n : Nat) (r : List AV) : ASt := mkSt [] 232
theorem vc2 (q : CallT) (k : Int) (m : Int) (t : Int) (a : Int) (s : Int) (v : AV) (o : AO) (n : Nat) (r : List AV) (Q : AV × ASt → Prop) :
  ((M E (drawA E) (sm q) 56).call 22 [AV.agg [AV.int IntKind.i64 (Int.ofNat 2), AV.int IntKind.u64 m, AV.int IntKind.u64 t, AV.int IntKind.u64 a, AV.int IntKind.u64 s, AV.slice (some (0, 0)) n (Cap.atl n)]] (vc2_s0 k m t a s v o n r) = some (AV.tuple [AV.slice (some (46, 0)) (n + 41) (Cap.rest 1), AV.int IntKind.i64 (Int.ofNat 0)], vc2_s1 k m t a s v o n r) ∧ ifB (!eqF (Int.ofNat (n + 41)) (wrapF IntKind.i64 (Int.ofNat 41 + Int.ofNat n))) (Q (AV.bool false, vc2_s2 k m t a s v o n r)) (ifB (eqF (mX m) m) (ifB (eqF (mX t) t) ((M E (drawA E) (sm q) 48).call 24 [] (vc2_s3 k m t a s v o n r) = some (AV.bool true, vc2_s3 k m t a s v o n r) ∧ Q (AV.bool true, vc2_s4 k m t a s v o n r)) (Q (AV.bool false, vc2_s4 k m t a s v o n r))) (Q (AV.bool false, vc2_s4 k m t a s v o n r)))) =
  (t2 q k m t a s v o n r).allY (fun r => Q (r.1, canS [] r.2)) (An.v (AV.tuple [AV.slice (some (46, 0)) (n + 41) (Cap.rest 1), AV.int IntKind.i64 (Int.ofNat 0)], vc2_s1 k m t a s v o n r) (An.b An.nil (An.b (An.b (An.v (AV.bool true, vc2_s3 k m t a s v o n r) An.nil) An.nil) An.nil))) := by kernel_rfl
/-! ### A number of its bytes -/
theorem wrapU {m : Nat} (h : m < 18446744073709551616) : wrapF .u64 (.ofNat m) = .ofNat m := wri.wrapU64 h
theorem adS_eq {n b : Nat} (hn : n < 72057594037927936) (hb : b < 256) : adS (.ofNat n) (.ofNat b) = .ofNat (n * 256 + b) := by
  unfold adS
  have e : (Int.ofNat 256 * Int.ofNat n : Int) = Int.ofNat (n * 256) := by
    show ((256 : Nat) : Int) * ((n : Nat) : Int) = ((n * 256 : Nat) : Int); omega
  have ad : (Int.ofNat (n * 256) + Int.ofNat b : Int) = Int.ofNat (n * 256 + b) := rfl
  rw [e, wrapU (m := n * 256) (by omega), wrapU (m := b) (by omega), ad]
  exact wrapU (by omega)
theorem bX_eq (M i : Nat) : bX (.ofNat M) i = .ofNat (M / 2 ^ i % 256) := by
  unfold bX
  show wrapF .u8 (Int.ofNat (M / 2 ^ i)) = _
  have e : modN (.ofNat (M / 2 ^ i)) (big .u8) = M / 2 ^ i % 256 := rfl
  unfold wrapF
  have hb : Nat.blt (modN (.ofNat (M / 2 ^ i)) (big .u8)) (half .u8) = true := by
    rw [e]; exact blt_t (Nat.mod_lt _ (by decide))
  show (bif Nat.blt (modN (.ofNat (M / 2 ^ i)) (big .u8)) (half .u8) then Int.ofNat (modN (.ofNat (M / 2 ^ i)) (big .u8)) else _) = _
  rw [hb, e]; rfl
theorem next8 (M i : Nat) : M / 2 ^ (i + 8) * 256 + M / 2 ^ i % 256 = M / 2 ^ i := by
  have h : M / 2 ^ (i + 8) = M / 2 ^ i / 256 := by rw [Nat.pow_add, Nat.div_div_eq_div_mul]
  rw [h, Nat.mul_comm]; exact Nat.div_add_mod _ _
theorem step8 {M i : Nat} (hM : M < 18446744073709551616) : adS (.ofNat (M / 2 ^ (i + 8))) (bX (.ofNat M) i) = .ofNat (M / 2 ^ i) := by
  have h1 : M / 2 ^ (i + 8) < 72057594037927936 := by
    have : M / 2 ^ (i + 8) ≤ M / 2 ^ 8 := Nat.div_le_div_left (Nat.pow_le_pow_right (by omega) (by omega)) (by decide)
    have : M / 2 ^ 8 < 72057594037927936 := by omega
    omega
  rw [bX_eq, adS_eq h1 (Nat.mod_lt _ (by omega)), next8]
theorem mX_eq {M : Nat} (hM : M < 18446744073709551616) : mX (.ofNat M) = .ofNat M := by
  have h0 : wrapF .u64 (.ofNat 0 + wrapF .u64 (bX (.ofNat M) 56)) = .ofNat (M / 2 ^ 56) := by
    have h1 : M / 2 ^ 56 < 256 := by omega
    rw [bX_eq, Nat.mod_eq_of_lt h1, wrapU (m := M / 2 ^ 56) (by omega)]
    have : (Int.ofNat 0 + Int.ofNat (M / 2 ^ 56) : Int) = Int.ofNat (0 + M / 2 ^ 56) := rfl
    rw [this, Nat.zero_add]; exact wrapU (by omega)
  delta mX
  rw [h0, step8 (i := 48) hM, step8 (i := 40) hM, step8 (i := 32) hM, step8 (i := 24) hM, step8 (i := 16) hM, step8 (i := 8) hM, step8 (i := 0) hM]
  simp
def U64 (m : Int) : Prop := ∃ M : Nat, M < 18446744073709551616 ∧ m = .ofNat M
theorem mX_ok {m : Int} (h : U64 m) : eqF (mX m) m = true := by
  obtain ⟨M, hM, rfl⟩ := h
  rw [mX_eq hM]; exact eqF_self _
/-! ### What it calls -/
theorem fn1 : AllFn Try.prog fns := ⟨⟨Try.func6, Try.call6⟩, ⟨Try.func23, Try.call23⟩, ⟨Try.func24, Try.call24⟩, trivial⟩
theorem Eok : Env.Ok Try.prog E := envEx_ok (xs := []) fn1 trivial (by kernel_rfl)
noncomputable def tabK : List (Nat × List AV × ASt × (AV × ASt)) := [(22, [pV (.ofNat 1) (.ofNat 1) (.ofNat 0) (.ofNat 0) (.ofNat 0) (.slice none 0 (.known 0))], mkSt [] 0, (.tuple [.slice (some (27, 0)) 23 (.rest 1), .int .i64 (.ofNat 0)], mkSt [(27, .cells (pky.row1 (.ofNat 1) (.ofNat 0) (.ofNat 0) ++ pky.tl4 (pky.hashX (pky.row1 (.ofNat 1) (.ofNat 0) (.ofNat 0)))) true)] 45))]
theorem tabK_ok : ∀ e, e ∈ tabK → Call1 Try.prog e.1 e.2.1 e.2.2.1 e.2.2.2 := by
  intro e he
  simp only [tabK, List.mem_cons, List.not_mem_nil, or_false] at he
  subst he
  exact pky.bytes1 (S := mkSt [] 0) (v := .slice none 0 (.known 0)) (l := []) (m := .ofNat 1) (t := .ofNat 0) (a := .ofNat 0) (s := .ofNat 0) .nil (by decide) (by kernel_rfl)
theorem known0 : AtMem Try.prog 24 [] (mkSt [] 0) (.bool true) :=
  AtMem.of_tm Eok (onlyC_ok (tabC_ok tabK_ok)) (Eq.mp (vcK (tabC tabK) (pky.row1 (.ofNat 1) (.ofNat 0) (.ofNat 0) ++ pky.tl4 (pky.hashX (pky.row1 (.ofNat 1) (.ofNat 0) (.ofNat 0)))) (fun r => r.1 = .bool true)) ⟨call_at (onlyC_at rfl (tabC_hd 22 _ _ _ _)), rfl⟩)
theorem known (S : ASt) : Call1 Try.prog 24 [] S (.bool true, S) := Call1.ro (os := []) known0 (by simp [refsV]) (args := []) trivial rfl fun j x hj => by
  have : (mkSt [] 0).h.get j = none := T.get_e j
  rw [this] at hj; cases hj
def kC : CallT := fun f args st => bif Nat.beq 24 f then (match args with | [] => some (.bool true, st) | _ => none) else none
theorem kC_ok : CallsOK Try.prog kC := by
  intro B w0 f args st r hr ι w args' hsr hv
  unfold kC at hr
  cases hf : Nat.beq 24 f
  · rw [hf] at hr; cases hr
  rw [hf, cond_true] at hr
  have := nbeq hf
  subst this
  split at hr
  · cases hr; exact known st B w0 ι w args' hsr hv
  · cases hr
noncomputable def qL (tab : List (Nat × List AV × ASt × (AV × ASt))) : CallT := orC kC (tabC tab)
theorem qL_ok {tab : List (Nat × List AV × ASt × (AV × ASt))} (h : ∀ e, e ∈ tab → Call1 Try.prog e.1 e.2.1 e.2.2.1 e.2.2.2) : CallsOK Try.prog (sm (qL tab)) := onlyC_ok (orC_ok kC_ok (tabC_ok h))
theorem kAt {tab : List (Nat × List AV × ASt × (AV × ASt))} {S : ASt} {j : Nat} : (M E (drawA E) (sm (qL tab)) (j + 1)).call 24 [] S = some (.bool true, S) := call_at (onlyC_at rfl (orC_l rfl))
theorem may_kind {k m t a s : Int} {n : Nat} (h : pkb.mayB k m t a s n = true) : k = .ofNat 1 ∨ k = .ofNat 2 ∨ k = .ofNat 3 ∨ k = .ofNat 4 := by
  by_cases h1 : k = .ofNat 1
  · exact .inl h1
  by_cases h2 : k = .ofNat 2
  · exact .inr (.inl h2)
  by_cases h3 : k = .ofNat 3
  · exact .inr (.inr (.inl h3))
  by_cases h4 : k = .ofNat 4
  · exact .inr (.inr (.inr h4))
  exfalso
  have f : ∀ {x : Int}, k ≠ x → eqF k x = false := fun {x} hx => by rw [eqF_eq]; simpa using hx
  unfold pkb.mayB at h
  rw [f h1, f h2, f h3, f h4] at h
  revert h
  cases eqF m (.ofNat 0) <;> cases eqF t (.ofNat 0) <;> intro h <;> cases h
section
variable {k m t a s : Int} {v : AV} {o : AO} {l : List Nat}
noncomputable def stP (k m t a s : Int) (v : AV) (o : AO) : ASt := mkSt [(0, o), (1, .cells [.int .i64 k, .int .u64 m, .int .u64 t, .int .u64 a, .int .u64 s, v] true)] 2
theorem Call1.to {P : Program} {f : Nat} {args : List AV} {S S' R R' : ASt} {v v' : AV} (h : Call1 P f args S (v, R)) (hs : S = S') (hv : v = v') (hr : R = R') : Call1 P f args S' (v', R') := by
  subst hs; subst hv; subst hr; exact h
noncomputable def tabF (k m t a s : Int) (v : AV) (o : AO) : List (Nat × List AV × ASt × (AV × ASt)) := [(22, [pV k m t a s v], vcF_s0 k m t a s v o 0 [], (.tuple [.slice none 0 (.known 0), .int .i64 (.ofNat 2)], vcF_s1 k m t a s v o 0 []))]
theorem lawF (A : ArgB 0 v o l) (hb : l.length < 9223372036854775808) (h : pkb.mayB k m t a s l.length = false) : AtMem Try.prog 6 [pV k m t a s v] (mkSt [(0, o)] 1) (.bool true) := by
  have c := pky.bytesF (S := stP k m t a s v o) (A.toSl (by kernel_rfl)) hb h
  have hq : CallsOK Try.prog (sm (qL (tabF k m t a s v o))) := qL_ok fun e he => by
    simp only [tabF, List.mem_cons, List.not_mem_nil, or_false] at he
    subst he
    exact Call1.to c (by kernel_rfl) (by kernel_rfl) (by kernel_rfl)
  have h22 : (M E (drawA E) (sm (qL (tabF k m t a s v o))) 56).call 22 [pV k m t a s v] (vcF_s0 k m t a s v o 0 []) = some (.tuple [.slice none 0 (.known 0), .int .i64 (.ofNat 2)], vcF_s1 k m t a s v o 0 []) := call_at (onlyC_at rfl (orC_r rfl (tabC_hd _ _ _ _ _)))
  exact AtMem.of_tm Eok hq (Eq.mp (vcF (qL (tabF k m t a s v o)) k m t a s v o 0 [] (fun r => r.1 = .bool true)) ⟨h22, kAt, rfl⟩)

end
end Go.Proofs.Ytlnohbilfogheaa.psz
end

section
open Go Go.Ax Go.Proofs.Ytlnohbilfogheaa
namespace Go.Proofs.Ytlnohbilfogheaa.psz
set_option linter.unusedVariables false
section
variable {k m t a s : Int} {v : AV} {o : AO} {l : List Nat}

noncomputable def rst1 (m t a : Int) : List AV := pky.tl4 (pky.hashX (pky.row1 m t a))
noncomputable def tab1 (m t a s : Int) (v : AV) (o : AO) : List (Nat × List AV × ASt × (AV × ASt)) := [(22, [pV (.ofNat 1) m t a s v], vc1_s0 0 m t a s v o 0 (rst1 m t a), (.tuple [.slice (some (29, 0)) 23 (.rest 1), .int .i64 (.ofNat 0)], vc1_s1 0 m t a s v o 0 (rst1 m t a)))]
theorem law1 (A : ArgB 0 v o l) (hb : l.length < 9223372036854775808) (hm : U64 m) (ht : U64 t) (h : pkb.mayB (.ofNat 1) m t a s l.length = true) : AtMem Try.prog 6 [pV (.ofNat 1) m t a s v] (mkSt [(0, o)] 1) (.bool true) := by
  have c := pky.bytes1 (S := stP (.ofNat 1) m t a s v o) (A.toSl (by kernel_rfl)) hb h
  have hq : CallsOK Try.prog (sm (qL (tab1 m t a s v o))) := qL_ok fun e he => by
    simp only [tab1, List.mem_cons, List.not_mem_nil, or_false] at he
    subst he
    exact Call1.to c (by kernel_rfl) (by kernel_rfl) (by kernel_rfl)
  have h22 : (M E (drawA E) (sm (qL (tab1 m t a s v o))) 56).call 22 [pV (.ofNat 1) m t a s v] (vc1_s0 0 m t a s v o 0 (rst1 m t a)) = some (.tuple [.slice (some (29, 0)) 23 (.rest 1), .int .i64 (.ofNat 0)], vc1_s1 0 m t a s v o 0 (rst1 m t a)) := call_at (onlyC_at rfl (orC_r rfl (tabC_hd _ _ _ _ _)))
  refine AtMem.of_tm Eok hq (Eq.mp (vc1 (qL (tab1 m t a s v o)) 0 m t a s v o 0 (rst1 m t a) (fun r => r.1 = .bool true)) ?_)
  refine And.intro h22 ?_
  refine ifB_mk (fun _ => ?_) fun h => absurd ((mX_ok hm).symm.trans h) (fun e => Bool.noConfusion e)
  refine ifB_mk (fun _ => ?_) fun h => absurd ((mX_ok ht).symm.trans h) (fun e => Bool.noConfusion e)
  exact And.intro kAt rfl

noncomputable def rst4 (m t a : Int) : List AV := pky.tl4 (pky.hashX (pky.row4 m t a))
noncomputable def tab4 (m t a s : Int) (v : AV) (o : AO) : List (Nat × List AV × ASt × (AV × ASt)) := [(22, [pV (.ofNat 4) m t a s v], vc4_s0 0 m t a s v o 0 (rst4 m t a), (.tuple [.slice (some (29, 0)) 23 (.rest 1), .int .i64 (.ofNat 0)], vc4_s1 0 m t a s v o 0 (rst4 m t a)))]
theorem law4 (A : ArgB 0 v o l) (hb : l.length < 9223372036854775808) (hm : U64 m) (ht : U64 t) (h : pkb.mayB (.ofNat 4) m t a s l.length = true) : AtMem Try.prog 6 [pV (.ofNat 4) m t a s v] (mkSt [(0, o)] 1) (.bool true) := by
  have c := pky.bytes4 (S := stP (.ofNat 4) m t a s v o) (A.toSl (by kernel_rfl)) hb h
  have hq : CallsOK Try.prog (sm (qL (tab4 m t a s v o))) := qL_ok fun e he => by
    simp only [tab4, List.mem_cons, List.not_mem_nil, or_false] at he
    subst he
    exact Call1.to c (by kernel_rfl) (by kernel_rfl) (by kernel_rfl)
  have h22 : (M E (drawA E) (sm (qL (tab4 m t a s v o))) 56).call 22 [pV (.ofNat 4) m t a s v] (vc4_s0 0 m t a s v o 0 (rst4 m t a)) = some (.tuple [.slice (some (29, 0)) 23 (.rest 1), .int .i64 (.ofNat 0)], vc4_s1 0 m t a s v o 0 (rst4 m t a)) := call_at (onlyC_at rfl (orC_r rfl (tabC_hd _ _ _ _ _)))
  refine AtMem.of_tm Eok hq (Eq.mp (vc4 (qL (tab4 m t a s v o)) 0 m t a s v o 0 (rst4 m t a) (fun r => r.1 = .bool true)) ?_)
  refine And.intro h22 ?_
  refine ifB_mk (fun _ => ?_) fun h => absurd ((mX_ok hm).symm.trans h) (fun e => Bool.noConfusion e)
  refine ifB_mk (fun _ => ?_) fun h => absurd ((mX_ok ht).symm.trans h) (fun e => Bool.noConfusion e)
  exact And.intro kAt rfl

noncomputable def rst3 (m t a : Int) : List AV := pky.be8 a ++ pky.tl4 (pky.hashX (pky.row3 m t a))
noncomputable def tab3 (m t a s : Int) (v : AV) (o : AO) : List (Nat × List AV × ASt × (AV × ASt)) := [(22, [pV (.ofNat 3) m t a s v], vc3_s0 0 m t a s v o 0 (rst3 m t a), (.tuple [.slice (some (31, 0)) 31 (.rest 1), .int .i64 (.ofNat 0)], vc3_s1 0 m t a s v o 0 (rst3 m t a)))]
theorem law3 (A : ArgB 0 v o l) (hb : l.length < 9223372036854775808) (hm : U64 m) (ht : U64 t) (h : pkb.mayB (.ofNat 3) m t a s l.length = true) : AtMem Try.prog 6 [pV (.ofNat 3) m t a s v] (mkSt [(0, o)] 1) (.bool true) := by
  have c := pky.bytes3 (S := stP (.ofNat 3) m t a s v o) (A.toSl (by kernel_rfl)) hb h
  have hq : CallsOK Try.prog (sm (qL (tab3 m t a s v o))) := qL_ok fun e he => by
    simp only [tab3, List.mem_cons, List.not_mem_nil, or_false] at he
    subst he
    exact Call1.to c (by kernel_rfl) (by kernel_rfl) (by kernel_rfl)
  have h22 : (M E (drawA E) (sm (qL (tab3 m t a s v o))) 56).call 22 [pV (.ofNat 3) m t a s v] (vc3_s0 0 m t a s v o 0 (rst3 m t a)) = some (.tuple [.slice (some (31, 0)) 31 (.rest 1), .int .i64 (.ofNat 0)], vc3_s1 0 m t a s v o 0 (rst3 m t a)) := call_at (onlyC_at rfl (orC_r rfl (tabC_hd _ _ _ _ _)))
  refine AtMem.of_tm Eok hq (Eq.mp (vc3 (qL (tab3 m t a s v o)) 0 m t a s v o 0 (rst3 m t a) (fun r => r.1 = .bool true)) ?_)
  refine And.intro h22 ?_
  refine ifB_mk (fun _ => ?_) fun h => absurd ((mX_ok hm).symm.trans h) (fun e => Bool.noConfusion e)
  refine ifB_mk (fun _ => ?_) fun h => absurd ((mX_ok ht).symm.trans h) (fun e => Bool.noConfusion e)
  exact And.intro kAt rfl

noncomputable def rst2 (m t a s : Int) (l : List Nat) : List AV := (((pky.be8 a ++ pky.be8 s) ++ wri.two l.length) ++ l.map cellU) ++ pky.tl4 (pky.hashX (pky.row2 m t a s l))
noncomputable def tab2 (m t a s : Int) (o : AO) (l : List Nat) : List (Nat × List AV × ASt × (AV × ASt)) := [(22, [pV (.ofNat 2) m t a s (v2 l.length)], vc2_s0 0 m t a s undefA o l.length (rst2 m t a s l), (.tuple [.slice (some (46, 0)) (l.length + 41) (.rest 1), .int .i64 (.ofNat 0)], vc2_s1 0 m t a s undefA o l.length (rst2 m t a s l)))]
theorem law2 (h0 : l ≠ []) (hb : l.length < 9223372036854775808) (hm : U64 m) (ht : U64 t) (h : pkb.mayB (.ofNat 2) m t a s l.length = true) : AtMem Try.prog 6 [pV (.ofNat 2) m t a s (v2 l.length)] (mkSt [(0, .cells (l.map cellU) false)] 1) (.bool true) := by
  have A := ArgB.row (i := 0) h0
  have hl := (pky.may2_len h).2
  have c := pky.bytes2 (S := stP (.ofNat 2) m t a s (v2 l.length) (.cells (l.map cellU) false)) (A.toSl (by kernel_rfl)) hb h
  have hq : CallsOK Try.prog (sm (qL (tab2 m t a s (.cells (l.map cellU) false) l))) := qL_ok fun e he => by
    simp only [tab2, List.mem_cons, List.not_mem_nil, or_false] at he
    subst he
    exact Call1.to c (by kernel_rfl) (by rw [show 37 + l.length + 4 = l.length + 41 by omega]; rfl) (by kernel_rfl)
  have h22 : (M E (drawA E) (sm (qL (tab2 m t a s (.cells (l.map cellU) false) l))) 56).call 22 [pV (.ofNat 2) m t a s (v2 l.length)] (vc2_s0 0 m t a s undefA (.cells (l.map cellU) false) l.length (rst2 m t a s l)) = some (.tuple [.slice (some (46, 0)) (l.length + 41) (.rest 1), .int .i64 (.ofNat 0)], vc2_s1 0 m t a s undefA (.cells (l.map cellU) false) l.length (rst2 m t a s l)) := call_at (onlyC_at rfl (orC_r rfl (tabC_hd _ _ _ _ _)))
  have hlen : (!eqF (Int.ofNat (l.length + 41)) (wrapF IntKind.i64 (Int.ofNat 41 + Int.ofNat l.length))) = false := by
    have e : (Int.ofNat 41 + Int.ofNat l.length) = Int.ofNat (41 + l.length) := rfl
    rw [e, wrap_nat (by omega), show 41 + l.length = l.length + 41 by omega, eqF_self]; rfl
  refine AtMem.of_tm Eok hq (Eq.mp (vc2 (qL (tab2 m t a s (.cells (l.map cellU) false) l)) 0 m t a s undefA (.cells (l.map cellU) false) l.length (rst2 m t a s l) (fun r => r.1 = .bool true)) ?_)
  refine And.intro h22 ?_
  refine ifB_mk (fun h => absurd (h.symm.trans hlen) (fun e => Bool.noConfusion e)) fun _ => ?_
  refine ifB_mk (fun _ => ?_) fun h => absurd ((mX_ok hm).symm.trans h) (fun e => Bool.noConfusion e)
  refine ifB_mk (fun _ => ?_) fun h => absurd ((mX_ok ht).symm.trans h) (fun e => Bool.noConfusion e)
  exact And.intro kAt rfl
theorem law (A : ArgB 0 v o l) (hb : l.length < 9223372036854775808) (hm : U64 m) (ht : U64 t) : AtMem Try.prog 6 [pV k m t a s v] (mkSt [(0, o)] 1) (.bool true) := by
  cases h : pkb.mayB k m t a s l.length
  · exact lawF A hb h
  · rcases may_kind h with rfl | rfl | rfl | rfl
    · exact law1 A hb hm ht h
    · cases A with
      | nil => exact absurd rfl (pky.may2_len h).1
      | zero => exact absurd rfl (pky.may2_len h).1
      | row h0 => exact law2 h0 hb hm ht h
    · exact law3 A hb hm ht h
    · exact law4 A hb hm ht h
end
end Go.Proofs.Ytlnohbilfogheaa.psz
end

section
open Go Go.Ax Go.Proofs.Ytlnohbilfogheaa
namespace Go.Proofs.Ytlnohbilfogheaa.psz
set_option linter.unusedVariables false
noncomputable section
open Go.ChangeShapes Go.WideShapes Go.ChangeAt Go.RowKit Go.Deep
section
variable {H : Type} {enc : TypeId × Value → H} {P : Program} {w : World} {base : Nat} {spare : Nat → Bool} {held : Bool} {fuel : Nat} {t : TypeId} {cs : List Value} {x : DataW H × List MemPlace}
theorem fieldOf {fs : Array Field} (ht : P.underlying t = some (.struct fs)) (h : DataW.trod enc P w base spare held fuel t cs = some x) {i : Nat} {f : Field} (hi : fs[i]? = some f) :
    ∃ n y, DataW.trod enc P w base spare held n f.type ((cs.drop f.offset).take (P.cellsOf f.type)) = some y := by
  obtain ⟨xs, n, _, _, _, hl, hf⟩ := DataW.trod_struct ht h
  have h1 := (Array.getElem?_eq_some_iff.1 hi).1
  exact ⟨n, xs[i]'(by omega), by rw [hf i f hi]; simp⟩
theorem elemOf {n : Nat} {e : TypeId} (ht : P.underlying t = some (.array n e)) (h : DataW.trod enc P w base spare held fuel t cs = some x) {i : Nat} (hi : i < n) :
    ∃ m y, DataW.trod enc P w base spare held m e ((cs.drop (i * P.cellsOf e)).take (P.cellsOf e)) = some y := by
  obtain ⟨xs, m, _, _, _, hl, hf⟩ := DataW.trod_array ht h
  exact ⟨m, xs[i]'(by omega), by rw [hf i hi]; simp⟩
theorem one_int {k : IntKind} {o : Nat} (ht : P.underlying t = some (.int k)) (h : DataW.trod enc P w base spare held fuel t ((cs.drop o).take 1) = some x) : ∃ z, cs[o]? = some (.int k z) ∧ (Lit.int k z).wf = true := by
  obtain ⟨z, e, _, hw⟩ := DataW.trod_int ht h
  refine ⟨z, ?_, hw⟩
  have : ((cs.drop o).take 1)[0]? = some (.int k z) := by rw [e]; rfl
  simpa using this
end
theorem own : ownKnob Try.prog.godebug = none := by kernel_rfl
theorem laidOut : laidOutB Try.prog = true := by kernel_rfl
theorem same_below {W W' : World} (h : Below W.heap.size W W') {p : MemPlace} (hp : p.block < W.heap.size) : W.sameAt W' p := by
  cases p with
  | cell b off => exact h.cell (p := ⟨b, off, none⟩) hp
  | map b => exact h.block b hp

theorem sl22 : sliceT E 25 = some 1 := by kernel_rfl
theorem spot_none {W : World} {a : Addr} {v : Value} (h : W.cell? (a.add 0) = some v) : a.spot = none := by
  obtain ⟨b, off, spot⟩ := a
  cases spot with
  | none => rfl
  | some s =>
    unfold World.cell? at h
    simp only [Addr.add, if_true] at h
    split at h
    · simp at h
    · cases h

theorem arg_nil {W : World} (i : Nat) : ∃ (l : List Nat) (vl : AV) (o : AO) (r : Option (Nat × Nat × List AV)), (∀ x, x ∈ l → x < 256) ∧ ArgB i vl o l ∧ ArgAt E W 25 1 i l.length (.slice none 0 0) (l.map cellU) vl o r :=
  ⟨[], _, _, _, (fun x h => by cases h), .nil, ArgAt.mk_nil sl22⟩

theorem arg_bytes {W : World} (j : Nat) {a : Addr} {len cap : Nat} {B : Nat → Nat} (hl : len ≤ cap) (hi : ∀ i, i < len → W.cell? (a.add i) = some (.int .u8 (.ofNat (B i))) ∧ B i < 256) :
    ∃ (l : List Nat) (vl : AV) (o : AO) (r : Option (Nat × Nat × List AV)), (∀ x, x ∈ l → x < 256) ∧ ArgB j vl o l ∧ ArgAt E W 25 1 j l.length (.slice (some a) len cap) (l.map cellU) vl o r := by
  by_cases h0 : len = 0
  · subst h0
    exact ⟨[], _, _, _, (fun x h => by cases h), .zero, ArgAt.mk_zero sl22⟩
  · have hsp := spot_none (hi 0 (by omega)).1
    obtain ⟨b, off, spot⟩ := a
    simp only at hsp
    subst hsp
    have hlen : ((List.range len).map B).length = len := by simp
    have hne : (List.range len).map B ≠ [] := fun e => by rw [e] at hlen; simp at hlen; omega
    have hB := ArgB.row (i := j) hne
    rw [hlen] at hB
    refine ⟨(List.range len).map B, .slice (some (j, 0)) len (.atl len), .cells (((List.range len).map B).map cellU) false, some (b, off, ((List.range len).map B).map cellU), fun x hx => ?_, hB, ?_⟩
    · obtain ⟨i, hi', rfl⟩ := List.mem_map.1 hx
      exact (hi i (by simpa using hi')).2
    rw [hlen]
    have := ArgAt.mk_row (E := E) (W := W) (t := 25) (z := 1) (i := j) (n := len) (b := b) (off := off) (cap := cap) (cs := ((List.range len).map B).map cellU) sl22
      (by intro e; have := congrArg List.length e; simp at this; omega) hl (fun k v hk => ?_)
    · exact this
    · have hk2 : k < len := by
        have := (List.getElem?_eq_some_iff.1 hk).1
        simpa using this
      have hv : v = cellU (B k) := by
        simp [hk2] at hk
        exact hk.symm
      subst hv
      exact ⟨rfl, _, by have := (hi k hk2).1; rw [add_none] at this; exact this, fun ι => .int _ _⟩


theorem bytes_arg {H : Type} {enc : TypeId × Value → H} {W : World} {base fuel : Nat} {spare : Nat → Bool} {held : Bool} (j : Nat) {cs : List Value} {x : DataW H × List MemPlace}
    (hf : DataW.trod enc Try.prog W base spare held fuel 25 cs = some x) :
    ∃ v, cs = [v] ∧ ∃ (l : List Nat) (vl : AV) (o : AO) (r : Option (Nat × Nat × List AV)), (∀ x, x ∈ l → x < 256) ∧ ArgB j vl o l ∧ ArgAt E W 25 1 j l.length v (l.map cellU) vl o r ∧ l.length < 9223372036854775808 := by
  rcases open_ints Try.underlying25 Try.underlying5 (by kernel_rfl) hf with ⟨hcs, _⟩ | ⟨a, len', cap', zs, hcs, _, hl, hmx, hm, _, hi, hw⟩
  · obtain ⟨l, vl, o, r, h1, h2, h3⟩ := arg_nil (W := W) j
    refine ⟨_, hcs, [], _, _, _, (fun x h => by cases h), .nil, ArgAt.mk_nil sl22, by decide⟩
  · refine ⟨_, hcs, ?_⟩
    obtain ⟨l, vl, o, r, h1, h2, h3⟩ := arg_bytes (W := W) j (a := a) (len := len') (cap := cap') (B := fun i => (zs.getD i 0).toNat) hl fun i hlt => by
      have hlz : i < zs.length := by rw [hm]; split <;> omega
      have h1 := hi i hlz
      have h2 := hw (zs.getD i 0) (by rw [List.getD_eq_getElem?_getD, List.getElem?_eq_getElem hlz]; exact List.getElem_mem hlz)
      have h3 : 0 ≤ zs.getD i 0 ∧ zs.getD i 0 ≤ 255 := by
        simp only [Lit.wf, Bool.and_eq_true, decide_eq_true_eq] at h2
        exact h2
      refine ⟨?_, by omega⟩
      rw [h1]
      congr 2
      show zs.getD i 0 = Int.ofNat (zs.getD i 0).toNat
      have := Int.toNat_of_nonneg h3.1
      exact this.symm
    have hlen : l.length ≤ len' := by
      have hv := h3.vr (fun _ => r.map fun q => ⟨q.1, q.2.1, 0⟩) (fun q hq => ⟨0, by simp [hq]⟩)
      cases h2 with
      | nil => exact Nat.zero_le _
      | zero => exact Nat.zero_le _
      | row _ => cases hv; exact Nat.le_refl _
    exact ⟨l, vl, o, r, h1, h2, h3, by have : maxLen = 9223372036854775807 := rfl; omega⟩

theorem u64_of {z : Int} (h : (Lit.int .u64 z).wf = true) : U64 z := by
  have h3 : 0 ≤ z ∧ z ≤ 18446744073709551615 := by
    simp only [Lit.wf, Bool.and_eq_true, decide_eq_true_eq] at h
    exact h
  exact ⟨z.toNat, by omega, by have := Int.toNat_of_nonneg h3.1; exact this.symm⟩
/-- a law that answers at its memory -/
theorem law_at {P : Program} {f : Nat} {args : List AV} {args' : Array Value} {B : Prot} (hB : ∀ i, ¬ B.rs i) {W : World} (hall : ∀ k, k < W.heap.size → B.all k) {ι : Ren} {st : ASt} (hsr : SR B W ι st W) (hv : VRs ι args args')
    (h : AtMem P f args st (.bool true)) : Calls P f args' W fun e w' => e = .returned (.bool true) ∧ Below W.heap.size W w' := by
  have := (h B W ι W args' hB hsr hv).2
  rw [callsIn_wide] at this
  refine this.mono ?_
  rintro e w' ⟨⟨v, st'⟩, hv, x, ι', rfl, _, h2, h3⟩
  simp only at hv h3
  subst hv
  cases h3
  exact ⟨rfl, h2.below.os, h2.below.tape, h2.below.output, h2.below.size, fun k hk => h2.below.block k (hall k hk)⟩
/-- the parts of the datagram -/
theorem parts {H : Type} {enc : TypeId × Value → H} {W : World} {base fuel : Nat} {spare : Nat → Bool} {held : Bool} {cs : List Value} {x : DataW H × List MemPlace} (h : DataW.trod enc Try.prog W base spare held fuel 63 cs = some x) :
    ∃ k m t a s v, cs = [.int .i64 k, .int .u64 m, .int .u64 t, .int .u64 a, .int .u64 s, v] ∧ U64 m ∧ U64 t ∧
      ∃ (l : List Nat) (vl : AV) (o : AO) (r : Option (Nat × Nat × List AV)), (∀ x, x ∈ l → x < 256) ∧ ArgB 0 vl o l ∧ ArgAt E W 25 1 0 l.length v (l.map cellU) vl o r ∧ l.length < 9223372036854775808 := by
  have hlen : cs.length = 6 := by
    obtain ⟨_, _, _, _, hl, _⟩ := DataW.trod_struct Try.underlying63 h
    rw [hl]; kernel_rfl
  have c61 : Try.prog.cellsOf 61 = 1 := by kernel_rfl
  have c28 : Try.prog.cellsOf 28 = 1 := by kernel_rfl
  have c25 : Try.prog.cellsOf 25 = 1 := by kernel_rfl
  obtain ⟨n0, g0, k0⟩ := fieldOf Try.underlying63 h (i := 0) rfl
  obtain ⟨n1, g1, k1⟩ := fieldOf Try.underlying63 h (i := 1) rfl
  obtain ⟨n2, g2, k2⟩ := fieldOf Try.underlying63 h (i := 2) rfl
  obtain ⟨n3, g3, k3⟩ := fieldOf Try.underlying63 h (i := 3) rfl
  obtain ⟨n4, g4, k4⟩ := fieldOf Try.underlying63 h (i := 4) rfl
  obtain ⟨n5, g5, k5⟩ := fieldOf Try.underlying63 h (i := 5) rfl
  replace k0 : DataW.trod enc Try.prog W base spare held n0 61 ((cs.drop 0).take (Try.prog.cellsOf 61)) = some g0 := k0
  replace k1 : DataW.trod enc Try.prog W base spare held n1 28 ((cs.drop 1).take (Try.prog.cellsOf 28)) = some g1 := k1
  replace k2 : DataW.trod enc Try.prog W base spare held n2 28 ((cs.drop 2).take (Try.prog.cellsOf 28)) = some g2 := k2
  replace k3 : DataW.trod enc Try.prog W base spare held n3 28 ((cs.drop 3).take (Try.prog.cellsOf 28)) = some g3 := k3
  replace k4 : DataW.trod enc Try.prog W base spare held n4 28 ((cs.drop 4).take (Try.prog.cellsOf 28)) = some g4 := k4
  replace k5 : DataW.trod enc Try.prog W base spare held n5 25 ((cs.drop 5).take (Try.prog.cellsOf 25)) = some g5 := k5
  rw [c61] at k0
  rw [c28] at k1 k2 k3 k4
  rw [c25] at k5
  obtain ⟨k, e0, _⟩ := one_int Try.underlying61 k0
  obtain ⟨m, e1, w1⟩ := one_int Try.underlying28 k1
  obtain ⟨t, e2, w2⟩ := one_int Try.underlying28 k2
  obtain ⟨a, e3, _⟩ := one_int Try.underlying28 k3
  obtain ⟨s, e4, _⟩ := one_int Try.underlying28 k4
  obtain ⟨v, e5, rest⟩ := bytes_arg 0 k5
  refine ⟨k, m, t, a, s, v, ?_, u64_of w1, u64_of w2, rest⟩
  match cs, hlen with
  | [c0, c1, c2, c3, c4, c5], _ =>
    simp at e0 e1 e2 e3 e4 e5
    rw [e0, e1, e2, e3, e4, e5]
def row1 (r0 : Option (Nat × Nat × List AV)) : Nat → Option (Nat × Nat × List AV) := fun i => if i = 0 then r0 else none
theorem walk {W : World} {k m t a s : Int} {v : Value} {l : List Nat} {vl : AV} {o0 : AO} {r0 : Option (Nat × Nat × List AV)} (B0 : ArgB 0 vl o0 l) (hb : l.length < 9223372036854775808) (hm : U64 m) (ht : U64 t)
    (A0 : ArgAt E W 25 1 0 l.length v (l.map cellU) vl o0 r0) :
    Calls Try.prog 6 #[.agg #[.int .i64 k, .int .u64 m, .int .u64 t, .int .u64 a, .int .u64 s, v]] W fun e w' => e = .returned (.bool true) ∧ Below W.heap.size W w' := by
  have hgl : GlobOK W := by intro _ _ h; cases h
  have hg : ∀ i, (mkSt [(0, o0)] 1).h.get i = if i = 0 then some o0 else none := fun i => by
    show ((T.e : T AO).set D 0 _).get i = _
    rw [T.get_set, T.get_e]
  have hrow : ∀ i r, row1 r0 i = some r → r.2.2 ≠ [] ∧ RowAt W r.1 r.2.1 r.2.2 := fun i r h => by
    match i, h with
    | 0, h => exact A0.row r h
  have hsr := rowsO_ok hgl (n := 1) (rows := row1 r0) hrow (st := mkSt [(0, o0)] 1) rfl (fun i a hi => by
    rw [hg] at hi
    by_cases e0 : i = 0
    · subst e0; simp at hi; subst hi; exact ⟨by omega, A0.obj⟩
    · simp [e0] at hi)
  have w0 : VR (rowsRen W 1 (row1 r0)) vl v := A0.vr _ fun q hq => rowsRen_at (i := 0) (by omega) hq (A0.row q hq).1 (A0.row q hq).2
  have hcell : vl.isCell = true := by cases B0 <;> rfl
  have hv : VRs (rowsRen W 1 (row1 r0)) [pV k m t a s vl] #[.agg #[.int .i64 k, .int .u64 m, .int .u64 t, .int .u64 a, .int .u64 s, v]] := ⟨rfl, fun i x x' hx hx' => by
    match i with
    | 0 =>
      simp at hx hx'; subst hx; subst hx'
      refine .agg _ _ rfl (fun c hc => ?_) fun j y y' hy hy' => ?_
      · simp only [List.mem_cons, List.not_mem_nil, or_false] at hc
        rcases hc with rfl | rfl | rfl | rfl | rfl | rfl <;> first | rfl | exact hcell
      · match j with
        | 0 => simp at hy hy'; subst hy; subst hy'; exact .int _ _
        | 1 => simp at hy hy'; subst hy; subst hy'; exact .int _ _
        | 2 => simp at hy hy'; subst hy; subst hy'; exact .int _ _
        | 3 => simp at hy hy'; subst hy; subst hy'; exact .int _ _
        | 4 => simp at hy hy'; subst hy; subst hy'; exact .int _ _
        | 5 => simp at hy hy'; subst hy; subst hy'; exact w0
        | j + 6 => simp at hy
    | i + 1 => simp at hx⟩
  exact law_at (fun _ h => h) (fun k hk => .inr hk) hsr hv (law B0 hb hm ht)
noncomputable def wit : Value := .agg #[.int .i64 0, .int .u64 0, .int .u64 0, .int .u64 0, .int .u64 0, .slice none 0 0]
/-! ### The row's step -/
set_option maxRecDepth 100000 in
theorem lifted (os : Os) (started : os.Started) (H : Type) (enc : TypeId × Value → H) :
    ReturnsInHanded {} Try.checked os 6 .any (Rows.packetSizesSpec.pre6 enc Try.prog Try.f6 Rows.packetSizesRow.domain false) (Rows.packetSizesSpec.post enc Try.prog Try.f6 false true false false) := by
  refine returnsInHanded_of_change (C := Try.checked) own started (by kernel_rfl) Try.func6
    (ChangeSpec.witness6 (enc := enc) (C := Try.checked) false ⟨#[], #[wit], []⟩ 8 (by kernel_rfl) (by kernel_rfl) (by kernel_rfl) (by kernel_rfl)) ?_
  intro W base args ds gs before hval0 hW hcnd _
  have hval : ∀ (j : Nat) t v, Try.f6.params[j]? = some t → args[j]? = some v → Value.okWide Try.prog W .any base t v := hval0
  have hW' := hW
  obtain ⟨p, q, hA0, hV, rfl, hfz, hnd⟩ := hW
  have hA : DataW.TrodAll enc Try.prog W 0 (fun _ => true) true Try.f6.params.toList args.toList ds p := hA0
  rw [Try.params6] at hA hval
  obtain ⟨v0, d0, rfl, rfl, h0⟩ := trodAll_one hA
  obtain ⟨rfl, rfl⟩ := trodVars_none hV
  obtain ⟨cs, rfl, hsz⟩ := okWide_struct Try.underlying63 (hval 0 63 v0 rfl rfl)
  have h0k := h0
  obtain ⟨fu0, hf0⟩ := h0
  clear hA0 hval0
  simp only [List.append_nil] at hW'
  have hlt : ∀ x ∈ p, x.block < W.heap.size := fun x hx => by simpa using hW'.lt x hx
  have hf1 : DataW.trod enc Try.prog W 0 (fun _ => true) true fu0 63 cs.toList = some (d0, p) := hf0
  obtain ⟨k, m, t, a, s, v, hcs, hm, ht, l, vl, o, r, L0, B0, A0, hb⟩ := parts hf1
  have hcs2 : cs = #[.int .i64 k, .int .u64 m, .int .u64 t, .int .u64 a, .int .u64 s, v] := by
    apply Array.ext'
    exact hcs
  subst hcs2
  refine (walk B0 hb hm ht A0).mono fun e W' ⟨he, bel⟩ => ?_
  subst he
  have ARG0 : DataW.Trod enc Try.prog W' 0 (fun x => decide (x < W.heap.size)) true 63 (.agg #[.int .i64 k, .int .u64 m, .int .u64 t, .int .u64 a, .int .u64 s, v]) d0 p :=
    WideElems.Trod_stays laidOut (by kernel_rfl) (of_decide_eq_true (by kernel_rfl)) h0k (fun x hx => same_below bel (hlt x hx)) (fun x hx => by simpa using hlt x hx)
  exact ⟨_, rfl, _, _, _, [], _, [], hW', trodAll_mk1 (shut_bool Try.underlying4 _), trodAll_mk1 ARG0, rfl, bel.frame _, fun h => by cases h⟩
theorem over : Rows.packetSizesRow.holds Try.pinned (OpenSpec.ofChange Rows.packetSizesSpec) :=
  OpenClaim.holds_of_wide 6 Try.f6 rfl rfl rfl rfl rfl rfl rfl ⟨rfl, rfl, rfl, rfl, rfl⟩ rfl rfl rfl rfl rfl (by kernel_rfl) Try.func6 (by kernel_rfl)
    (of_decide_eq_true (by kernel_rfl)) (by unfold Func.isWrapper; first | (rw [if_pos (by decide +kernel)]; kernel_rfl) | (rw [if_neg (by decide +kernel)]; exact ⟨rfl, rfl⟩))
    (fun os started H enc _ => lifted os started H enc)
/-- THE STATEMENT -/
theorem proved : Rows.PacketSizesSaid := over
end
#print axioms proved
end Go.Proofs.Ytlnohbilfogheaa.psz
end
