/-
  OWN WORK, A PART: an abstract machine for the program's text that the kernel can run, and the proof that it is sound: what it answers is what the program answers; contracts of functions by it. No condition.
-/
import Derived.Test.YtmjmpmmonelmmaaDmA
import Derived.KernelRfl
section
open Go Go.Ax Go.Proofs
namespace Go.Proofs.Ytmjmpmmonelmmaa.dsk
set_option linter.unusedVariables false
theorem filt_ents (p : Nat → Bool) : ∀ es : List En, filt p (ents es) = ents (es.filter fun e => p e.b)
  | [] => rfl
  | e :: es => by
    show (bif p e.b then entO e :: filt p (ents es) else filt p (ents es)) = _
    rw [filt_ents p es, List.filter_cons]
    cases p e.b <;> rfl
def leftE (es : List En) (seen : List Nat) : List En := es.filter fun e => !memN e.b seen
section
variable {S : ASt} {m it ck : Nat} {es : List En} {seen : List Nat}
theorem guard_no (hb : ∀ e, e ∈ es → e.b < ck) (hs : ∀ b, b ∈ seen → ∃ e, e ∈ es ∧ e.b = b) : (bif isNil seen then false else bif isNil (ents es) then false else allE (fun b => Nat.ble ck b) (ents es)) = false := by
  cases seen with
  | nil => rfl
  | cons b r =>
    obtain ⟨e, he, _⟩ := hs b List.mem_cons_self
    cases es with
    | nil => cases he
    | cons a tl =>
      have : Nat.ble ck a.b = false := ble_f (hb a List.mem_cons_self)
      show (bif Nat.ble ck a.b then _ else false) = false
      rw [this]; rfl
theorem late_none (hb : ∀ e, e ∈ es → e.b < ck) : filt (fun b => Nat.ble ck b) (ents (leftE es seen)) = [] := by
  rw [filt_ents]
  have : (leftE es seen).filter (fun e => Nat.ble ck e.b) = [] := by
    rw [List.filter_eq_nil_iff]
    intro a ha
    rw [ble_f (hb a (List.mem_filter.1 ha).1)]; simp
  rw [this]; rfl
theorem early_all (hb : ∀ e, e ∈ es → e.b < ck) : filt (fun b => Nat.blt b ck) (ents (leftE es seen)) = ents (leftE es seen) := by
  rw [filt_ents]
  congr 1
  rw [List.filter_eq_self]
  intro a ha
  exact blt_t (hb a (List.mem_filter.1 ha).1)
theorem cands_at (hi : S.h.get it = some (.miter (some m) ck seen ck)) (hm : S.h.get m = some (.map (ents es) ck)) (hb : ∀ e, e ∈ es → e.b < ck) (hs : ∀ b, b ∈ seen → ∃ e, e ∈ es ∧ e.b = b) :
    candsOf (pO it) S = some (it, m, ck, seen, ck, ents (leftE es seen)) := by
  have e : filt (fun b => Bool.not (memN b seen)) (ents es) = ents (leftE es seen) := filt_ents _ es
  unfold candsOf pO
  simp only [hi, hm]
  rw [guard_no hb hs]
  simp only [cond_false, e, late_none hb, early_all hb]
theorem next_over (hi : S.h.get it = some (.miter (some m) ck seen ck)) (hm : S.h.get m = some (.map (ents es) ck)) (hb : ∀ e, e ∈ es → e.b < ck) (hs : ∀ b, b ∈ seen → ∃ e, e ∈ es ∧ e.b = b) (hn : leftE es seen = []) :
    aNext (pO it) false S = some (.tuple [.bool false], S) := by
  have e : filt (fun b => Bool.not (memN b seen)) (ents es) = ents (leftE es seen) := filt_ents _ es
  unfold aNext pO
  simp only [hi, hm, cond_false]
  rw [guard_no hb hs]
  simp only [cond_false, e, hn]
  rfl
theorem findB_at {e : En} : ∀ {es : List En}, (es.map (·.b)).Nodup → e ∈ es → findB e.b (ents es) = some (nI e.k, sB e.r e.vs.length)
  | a :: tl, hn, he => by
    show (bif Nat.beq a.b e.b then some (nI a.k, sB a.r a.vs.length) else findB e.b (ents tl)) = _
    rw [List.map_cons, List.nodup_cons] at hn
    rcases List.mem_cons.1 he with rfl | he
    · rw [Nat.beq_refl]; rfl
    · have : a.b ≠ e.b := fun x => hn.1 (by rw [x]; exact List.mem_map_of_mem he)
      rw [beq_f this, cond_false]
      exact findB_at hn.2 he
theorem entry_at {e : En} (hi : S.h.get it = some (.miter (some m) ck (seen ++ [e.b]) ck)) (hm : S.h.get m = some (.map (ents es) ck)) (hn : (es.map (·.b)).Nodup) (he : e ∈ es) : still S (aEntry (pO it) S) = some (.tuple [nI e.k, sB e.r e.vs.length], S) := by
  refine still_of ?_
  unfold aEntry pO
  simp only [hi, hm, List.getLast?_append, List.getLast?_singleton, Option.some_or, Nat.beq_refl, cond_true, findB_at hn he]
end
theorem mem_left {es : List En} {seen : List Nat} {e : En} : e ∈ leftE es seen ↔ e ∈ es ∧ e.b ∉ seen := by
  unfold leftE
  rw [List.mem_filter, memN_eq]
  simp
theorem left_len {es : List En} {seen : List Nat} {e : En} (hn : (es.map (·.b)).Nodup) (he : e ∈ leftE es seen) : (leftE es (seen ++ [e.b])).length < (leftE es seen).length := by
  unfold leftE
  have h1 : es.filter (fun a => !memN a.b (seen ++ [e.b])) = (es.filter fun a => !memN a.b seen).filter fun a => !decide (a.b = e.b) := by
    rw [List.filter_filter]
    congr 1
    funext a
    rw [memN_eq, memN_eq]
    simp [Bool.and_comm]
  rw [h1]
  exact List.length_filter_lt_length_iff_exists.2 ⟨e, he, by simp⟩
noncomputable def r6o : Array Oper := match seqL LB with | .region _ o _ => o | _ => #[]
theorem r6s : seqL LB = .region 6 r6o false := by kernel_rfl
theorem LBs : LB = .seq (seqL LB) (seqR LB) := by kernel_rfl
theorem ne_of_isE {α : Type} {l : List α} (h : l.isEmpty = false) : l ≠ [] := by intro e; rw [e] at h; cases h
theorem r6n : r6o.toList ≠ [] := ne_of_isE (by kernel_rfl)
noncomputable def fr2 (d it : Nat) (u : AV) : AFr := { m := ((frF d it).m.set 11 18 u).set 11 19 (.bool true), n := 36, defs := [] }
theorem left6 {d it c : Nat} {S S1 : ASt} {k v : AV} {call round : CallT} {ex : ExecT} (h : aNextC c (pO it) S = some (.tuple [.bool true, k, v], S1)) : leftRun EK call round ex none c (seqL LB) (frF d it) S = some (.normal, fr2 d it (.tuple [.bool true, k, v]), S1) := by
  rw [r6s]
  exact left_next (o := r6o.toList.head r6n) (os := r6o.toList.tail) (List.cons_head_tail r6n).symm (x := .tmp 17) (isS := false) (by kernel_rfl) (by kernel_rfl) h (fr1 := { m := (frF d it).m.set 11 18 (.tuple [.bool true, k, v]), n := 36, defs := [] }) (by kernel_rfl) (by kernel_rfl)
theorem can6 {d it : Nat} {k v : AV} : canF [0, 3, 17, 19] (fr2 d it (.tuple [.bool true, k, v])) = xFr [(0, pO d), (3, nI 0), (17, pO it), (19, .bool true)] 36 := by kernel_rfl
noncomputable def flushed (las : List (List Nat)) (es : List En) : List (List Nat) := (List.range las.length).map (curB las es)
open Classical in
structure FI (S0 : ASt) (d l m it ck : Nat) (las : List (List Nat)) (es : List En) (seen : List Nat) (lasK : List (List Nat)) (S : ASt) : Prop where
  dk : Disk S d l m lasK es ck
  iti : S.h.get it = some (.miter (some m) ck seen ck)
  tid : Tidy S
  len : lasK.length = las.length
  val : ∀ j, j < las.length → lasK.getD j [] = if (∃ e, e ∈ es ∧ e.k = j ∧ e.b ∈ seen) then curB las es j else las.getD j []
  sub : ∀ b, b ∈ seen → ∃ e, e ∈ es ∧ e.b = b
  fr : ∀ k, k < S0.next → k ≠ l → S.h.get k = S0.h.get k
  nx : S.next ≤ S0.next + 40 * ((es.length - (leftE es seen).length) + 1)
  lo : S0.next ≤ it
section
variable {S0 : ASt} {d l m it ck : Nat} {las : List (List Nat)} {es : List En}
theorem shF3 : P3 = .seq (seqL P3) (.cond (.tmp 12) BG .skip) := by kernel_rfl
theorem shF2 : dropC 2 cF = .seq P3 (dropC 3 cF) := by kernel_rfl
theorem shBG : BG = .seq (.seq (seqL (seqL BG)) (.block 0 (.loop LB))) (seqR BG) := by kernel_rfl
open Classical in
theorem roundF (hE : ∀ e, e ∈ es → e.vs.length < 1000000) {seen : List Nat} {lasK : List (List Nat)} {S : ASt} (hI : FI S0 d l m it ck las es seen lasK S) :
    Trip Try.prog S0.next none LB (frF d it) S fun r => (∃ seen' lasK' S', (leftE es seen').length < (leftE es seen).length ∧ FI S0 d l m it ck las es seen' lasK' S' ∧ Stops S0.next .normal (frF d it) S' r) ∨ (leftE es seen = [] ∧ Stops S0.next (.exit 0) (frF d it) S r) := by
  have hb : ∀ e, e ∈ es → e.b < ck := fun e he => (hI.dk.row e he).2.2.2.1
  by_cases hn : leftE es seen = []
  · refine (Trip.runY EKok noSum_ok (Eq.mp (vcFx d it S (fun r => r = (.exit 0, frF d it, S))) ⟨next_over hI.iti hI.dk.hm hb hI.sub hn, rfl⟩)).mono fun r hr => .inr ⟨hn, Stops.rawE hr⟩
  · rw [LBs]
    refine Trip.seqAny EKok (sum := onlyC [56] (tabC [])) (onlyC_ok (tabC_ok fun e he => by cases he)) (n := 60) (x := .tmp 17) (v := pO it) (by kernel_rfl) (cands_at hI.iti hI.dk.hm hb hI.sub) (by
      intro e; exact hn (by unfold ents at e; exact List.map_eq_nil_iff.1 e)) (by rw [r6s]; kernel_rfl) fun c x hx => ?_
    unfold ents at hx
    rw [List.getElem?_map, Option.map_eq_some_iff] at hx
    obtain ⟨e, he, rfl⟩ := hx
    have heL := List.mem_of_getElem? he
    obtain ⟨hee, hes⟩ := mem_left.1 heL
    obtain ⟨S1, e1⟩ : ∃ X, X = S.put it (.miter (some m) ck (seen ++ [e.b]) ck) := ⟨_, rfl⟩
    have hnx : aNextC c (pO it) S = some (.tuple [.bool true, nI e.k, sB e.r e.vs.length], S1) := by
      unfold aNextC
      rw [cands_at hI.iti hI.dk.hm hb hI.sub]
      simp only [ents, List.getElem?_map, he, Option.map_some, entO, e1]
    refine ⟨fr2 d it (.tuple [.bool true, nI e.k, sB e.r e.vs.length]), S1, left6 hnx, ?_⟩
    refine Trip.less (Wk.canF S0.next [0, 3, 17, 19] _ S1) ?_
    rw [can6]
    have hil := hI.tid.lt hI.iti
    have g1 : ∀ k, k ≠ it → S1.h.get k = S.h.get k := fun k hk => by rw [e1, put_ne hk]
    have a1 : S1.h.get it = some (.miter (some m) ck (seen ++ [e.b]) ck) := by rw [e1]; exact put_at
    have t1 : Tidy S1 := by rw [e1]; exact hI.tid.put hil
    have n1 : S1.next = S.next := by rw [e1]; rfl
    have D1 : Disk S1 d l m lasK es ck := ⟨by rw [g1 _ (ne_get hI.dk.hd hI.iti (by simp [dK]))]; exact hI.dk.hd, by rw [g1 _ (ne_get hI.dk.hl hI.iti (by simp))]; exact hI.dk.hl, by rw [g1 _ (ne_get hI.dk.hm hI.iti (by simp))]; exact hI.dk.hm, fun a ha => by
      obtain ⟨p1, p2⟩ := hI.dk.row a ha
      exact ⟨by rw [g1 _ (ne_get p1 hI.iti (by simp))]; exact p1, p2⟩, hI.dk.keys, hI.dk.borns, hI.dk.most⟩
    obtain ⟨R, eR⟩ : ∃ X, X = ASt.mk S1.h (S1.next + 10) := ⟨_, rfl⟩
    have tR : Tidy R := by rw [eR]; exact t1.mk (by omega)
    have DR : Disk R d l m lasK es ck := by rw [eR]; exact D1.keep t1 fun k _ => rfl
    obtain ⟨p1, p2, p3, p4, p5⟩ := D1.row e hee
    obtain ⟨A, e', C, hsp, hek, hA, hC, hver⟩ := split_at D1.keys ⟨e, hee, rfl⟩
    have hee' : e' = e := by
      have : e ∈ A ++ e' :: C := by rw [← hsp]; exact hee
      rcases List.mem_append.1 this with h | h
      · exact absurd rfl (hA e h)
      · rcases List.mem_cons.1 h with h | h
        · exact h.symm
        · exact absurd rfl (hC e h)
    subst hee'
    obtain ⟨S2, hc, t2, n2, g2⟩ := now_at DR tR (i := e'.k) p3 (by rw [hver]; exact hE e' hee)
    have hcur : curB lasK es e'.k = curB las es e'.k := by
      unfold curB
      rw [hver, List.getLast?_eq_some_getLast p2]; rfl
    rw [hcur] at hc
    have D2 := DR.keep tR g2
    obtain ⟨U, W, hU, hUl⟩ : ∃ U W, lasK = U ++ lasK.getD e'.k [] :: W ∧ U.length = e'.k := by
      refine ⟨lasK.take e'.k, lasK.drop (e'.k + 1), ?_, by rw [List.length_take]; omega⟩
      have := List.take_append_drop e'.k lasK
      rw [List.drop_eq_getElem_cons p3] at this
      rw [List.getD_eq_getElem?_getD, List.getElem?_eq_getElem p3]
      exact this.symm
    have hrow : rowB lasK = rowB U ++ (bl (lasK.getD e'.k []) ++ rowB W) := by
      conv => lhs; rw [hU]
      rw [rowB_app]; rfl
    obtain ⟨S3, e3⟩ : ∃ X, X = S2.put l (.cells (rowB U ++ (bl (curB las es e'.k) ++ rowB W)) true) := ⟨_, rfl⟩
    have st : aStore EK 33 (.ptr (some (l, e'.k * 256))) (.agg (bl (curB las es e'.k))) S2 = some S3 := by
      rw [e3]
      refine storeA_at sz_b (bl_len _) (bl_len (lasK.getD e'.k [])) (by rw [rowB_len, hUl]) ?_
      rw [← hrow]; exact D2.hl
    have g3 : ∀ k, k ≠ l → S3.h.get k = S2.h.get k := fun k hk => by rw [e3, put_ne hk]
    have hset : ∀ j, (U ++ curB las es e'.k :: W).getD j [] = if j = e'.k then curB las es e'.k else lasK.getD j [] := fun j => by
      conv => rhs; rw [hU]
      simp only [List.getD_eq_getElem?_getD]
      by_cases h1 : j < e'.k
      · rw [if_neg (by omega), List.getElem?_append_left (by omega), List.getElem?_append_left (by omega)]
      · by_cases h2 : j = e'.k
        · subst h2
          rw [if_pos rfl, List.getElem?_append_right (by omega), hUl, Nat.sub_self]; rfl
        · rw [if_neg h2, List.getElem?_append_right (by omega), List.getElem?_append_right (by omega)]
          obtain ⟨x, hx⟩ : ∃ x, j - U.length = x + 1 := ⟨j - U.length - 1, by omega⟩
          rw [hx, List.getElem?_cons_succ, List.getElem?_cons_succ]
    have hlen : (U ++ curB las es e'.k :: W).length = lasK.length := by
      conv => rhs; rw [hU]
      simp
    refine (Trip.runY EKok (sum := onlyC [56] (tabC [(56, [pO d, nI e'.k], R, (.agg (bl (curB las es e'.k)), S2))])) (onlyC_ok (tabC_ok fun w hw => by
        simp only [List.mem_cons, List.not_mem_nil, or_false] at hw
        subst hw
        exact hc)) (Eq.mp (vcFr (tabC [(56, [pO d, nI e'.k], R, (.agg (bl (curB las es e'.k)), S2))]) d l lasK.length it e'.k (sB e'.r e'.vs.length) (curB las es e'.k) S1 S2 S3 (fun r => r = (.normal, frF d it, S3))) ?_)).mono fun r hr => .inl ⟨seen ++ [e'.b], U ++ curB las es e'.k :: W, S3, left_len hI.dk.borns heL, ?_, Stops.rawE hr⟩
    · rw [← eR]
      exact ⟨entry_at a1 D1.hm D1.borns hee, ld_s DR.hd, call_at (onlyC_at rfl (tabC_hd ..)), ix_s p3, okS_of st, holds_cons (fstO_of (ld_s D2.hd)) trivial, rfl⟩
    · have hlm : l ≠ m := ne_get D2.hl D2.hm (by simp)
      have hdl : d ≠ l := fun x => by
        have h1 := D2.hd
        have h2 := D2.hl
        rw [x, h2] at h1
        have := congrArg (fun o => match o with | some (AO.cells (AV.slice _ _ _ :: _) _) => true | _ => false) h1
        simp [dK] at this
        have hne : (rowB lasK)[0]? = some (cellU ((lasK.getD 0 []).getD 0 0)) := by
          cases hc0 : lasK with
          | nil => rw [hc0] at p3; simp at p3
          | cons x xs =>
            show (bl x ++ rowB xs)[0]? = _
            rw [List.getElem?_append_left (by rw [bl_len]; decide), bl_get (by decide)]; rfl
        injection h1 with h1
        injection h1 with h1
        rw [h1] at hne
        cases hne
      have hi2 : it < R.next := by rw [eR]; show it < S1.next + 10; omega
      have hitl : it ≠ l := fun x => ne_get (S := S1) D1.hl a1 (by simp) x.symm
      refine ⟨⟨by rw [g3 d hdl, hlen]; exact D2.hd, by rw [e3, put_at, rowB_app]; rfl, by rw [g3 m (fun x => hlm x.symm)]; exact D2.hm, fun a ha => ?_, D1.keys, D1.borns, by rw [hlen]; exact D1.most⟩, ?_, by rw [e3]; exact t2.put (t2.lt D2.hl), by rw [hlen]; exact hI.len, fun j hj => ?_, fun b hb' => ?_, fun k hk hkl => ?_, ?_, hI.lo⟩
      · obtain ⟨q1, q2, q3, q4, q5⟩ := D2.row a ha
        exact ⟨by rw [g3 _ q5]; exact q1, q2, by rw [hlen]; exact q3, q4, q5⟩
      · rw [g3 it hitl, g2 it hi2, eR]; exact a1
      · rw [hset j]
        by_cases hjk : j = e'.k
        · subst hjk
          rw [if_pos rfl, if_pos ⟨e', hee, rfl, by simp⟩]
        · rw [if_neg hjk, hI.val j hj]
          have : (∃ a, a ∈ es ∧ a.k = j ∧ a.b ∈ seen ++ [e'.b]) ↔ (∃ a, a ∈ es ∧ a.k = j ∧ a.b ∈ seen) := by
            constructor
            · rintro ⟨a, h1, h2, h3⟩
              rcases List.mem_append.1 h3 with h3 | h3
              · exact ⟨a, h1, h2, h3⟩
              · simp at h3
                have : a = e' := by
                  by_cases hae : a = e'
                  · exact hae
                  · exfalso
                    have hp := hI.dk.borns
                    rw [List.nodup_iff_pairwise_ne, List.pairwise_map] at hp
                    obtain ⟨i1, hi1, q1⟩ := List.getElem_of_mem h1
                    obtain ⟨i2, hi2', q2⟩ := List.getElem_of_mem hee
                    have hne : i1 ≠ i2 := fun x => hae (by subst x; rw [← q1, ← q2])
                    rcases Nat.lt_or_gt_of_ne hne with hlt | hlt
                    · exact List.pairwise_iff_getElem.1 hp i1 i2 hi1 hi2' hlt (by rw [q1, q2, h3])
                    · exact List.pairwise_iff_getElem.1 hp i2 i1 hi2' hi1 hlt (by rw [q1, q2, h3])
                exact absurd (by rw [← h2, this]) hjk
            · rintro ⟨a, h1, h2, h3⟩
              exact ⟨a, h1, h2, List.mem_append_left _ h3⟩
          simp only [this]
      · rcases List.mem_append.1 hb' with h | h
        · exact hI.sub b h
        · simp at h
          subst h
          exact ⟨e', hee, rfl⟩
      · have h1 : k < R.next := by rw [eR]; show k < S1.next + 10; have := hI.lo; omega
        rw [g3 k hkl, g2 k h1, eR]
        show S1.h.get k = _
        rw [g1 k (by have := hI.lo; omega)]
        exact hI.fr k hk hkl
      · have h1 := left_len (seen := seen) hI.dk.borns heL
        have h2 : (leftE es seen).length ≤ es.length := List.length_filter_le _ _
        have h3 := hI.nx
        rw [e3, put_next, n2, eR]
        show S1.next + 10 + 1 ≤ _
        omega
theorem evT {d : Nat} {b : Bool} : evA (xFr [(0, pO d), (3, nI 0), (12, .bool b)] 36) (.tmp 12) = some (.bool b) := by kernel_rfl
theorem curB_none {i : Nat} (h : ∀ e, e ∈ es → e.k ≠ i) : curB las es i = las.getD i [] := by unfold curB; rw [vers_nil h]; rfl
theorem flushed_len : (flushed las es).length = las.length := by unfold flushed; simp
theorem flushed_get {j : Nat} (hj : j < las.length) : (flushed las es).getD j [] = curB las es j := by
  unfold flushed
  rw [List.getD_eq_getElem?_getD, List.getElem?_map, List.getElem?_range hj]; rfl
theorem clear_at {S : ASt} {e : Ents} {m c : Nat} (h : S.h.get m = some (.map e c)) : aBuiltinM EK .clear [46] [.map (some m)] S = some (.tuple [], S.put m (.map [] c)) := by
  have e1 : aBuiltinM EK .clear [46] [.map (some m)] S = (match (match S.h.get m with | some (.map _ c) => some (S.put m (.map [] c)) | _ => none) with | some s => some (.tuple [], s) | none => none) := by kernel_rfl
  rw [e1, h]
theorem flush_at (hD : Disk S0 d l m las es ck) (ht : Tidy S0) (hn : 0 < las.length) (hE : ∀ e, e ∈ es → e.vs.length < 1000000) :
    ∃ S', Call1 Try.prog 20 [pO d] S0 (nI 0, S') ∧ Disk S' d l m (flushed las es) [] ck ∧ Tidy S' ∧ S0.next ≤ S'.next ∧ ∀ k, k < S0.next → k ≠ l → k ≠ m → S'.h.get k = S0.h.get k := by
  have hdl := ht.lt hD.hd
  have hll := ht.lt hD.hl
  have hml := ht.lt hD.hm
  have hdm : d ≠ m := ne_get hD.hd hD.hm (by simp [dK])
  have hlm : l ≠ m := ne_get hD.hl hD.hm (by simp)
  have hdle : d ≠ l := ne_get hD.hd hD.hl (fun h => by
    unfold dK at h
    injection h with h
    have hne : (rowB las)[0]? = some (cellU ((las.getD 0 []).getD 0 0)) := by
      cases hc0 : las with
      | nil => rw [hc0] at hn; simp at hn
      | cons x xs =>
        show (bl x ++ rowB xs)[0]? = _
        rw [List.getElem?_append_left (by rw [bl_len]; decide), bl_get (by decide)]; rfl
    rw [← h] at hne
    cases hne)
  obtain ⟨S2, e2⟩ : ∃ X, X = S0.put d (dK l m las.length) := ⟨_, rfl⟩
  have g2 : ∀ k, S2.h.get k = S0.h.get k := fun k => by
    by_cases e : k = d
    · subst e; rw [e2, put_at, hD.hd]
    · rw [e2, put_ne e]
  have n2 : S2.next = S0.next := by rw [e2]; rfl
  have t2 : Tidy S2 := by rw [e2]; exact ht.put hdl
  have D2 : Disk S2 d l m las es ck := hD.keep ht fun k _ => g2 k
  obtain ⟨S3, e3⟩ : ∃ X, X = S2.add (.miter (some m) ck [] ck) := ⟨_, rfl⟩
  have n3 : S3.next = S0.next + 1 := by rw [e3, add_next, n2]
  have g3 : ∀ k, k < S2.next → S3.h.get k = S2.h.get k := fun k hk => by rw [e3, add_ne (by omega)]
  have D3 : Disk S3 d l m las es ck := D2.keep t2 g3
  have rg : aRange EK 46 (.map (some m)) S2 = some (pO S2.next, S3) := by
    have e1 : aRange EK 46 (.map (some m)) S2 = (match S2.h.get m with | some (.map _ c) => some (pO S2.next, S2.add (.miter (some m) c [] c)) | _ => none) := by kernel_rfl
    rw [e1, D2.hm, e3]
  have I0 : FI S0 d l m S2.next ck las es [] las S3 := ⟨D3, by rw [e3]; exact add_at, by rw [e3]; exact t2.add, rfl, (fun j _ => by rw [if_neg (fun ⟨e, _, _, h⟩ => by cases h)]), (fun b h => by cases h), (fun k hk _ => by rw [g3 k (by omega), g2]), (by omega), (by omega)⟩
  obtain ⟨Sl, eL⟩ : ∃ X, X = ASt.mk (S0.put l (.cells (rowB (flushed las es)) true)).h (S0.next + 40 * (es.length + 1)) := ⟨_, rfl⟩
  have gL : ∀ k, k ≠ l → Sl.h.get k = S0.h.get k := fun k hk => by rw [eL]; exact put_ne hk
  have aL : Sl.h.get l = some (.cells (rowB (flushed las es)) true) := by rw [eL]; exact put_at
  have nL : Sl.next = S0.next + 40 * (es.length + 1) := by rw [eL]
  have tL : Tidy Sl := by rw [eL]; exact (ht.put hll).mk (by show S0.next ≤ _; omega)
  obtain ⟨Sf, eF⟩ : ∃ X, X = Sl.put m (.map [] ck) := ⟨_, rfl⟩
  have gF : ∀ k, k ≠ m → Sf.h.get k = Sl.h.get k := fun k hk => by rw [eF, put_ne hk]
  have nF : Sf.next = S0.next + 40 * (es.length + 1) := by rw [eF, put_next, nL]
  have tF : Tidy Sf := by rw [eF]; exact tL.put (by omega)
  have fr : ∀ k, k < S0.next → k ≠ l → k ≠ m → Sf.h.get k = S0.h.get k := fun k _ h1 h2 => by rw [gF k h2, gL k h1]
  refine ⟨Sf, ?_, ⟨by rw [fr d hdl hdle hdm, flushed_len]; exact hD.hd, by rw [gF l hlm]; exact aL, by rw [eF, put_at]; rfl, (fun e he => by cases he), List.nodup_nil, List.nodup_nil, by rw [flushed_len]; exact hD.most⟩, tF, by omega, fr⟩
  refine Call2.up ?_ (by omega) (fun i a hi hd => ?_) (by simp [nI, refsD])
  · refine Call2.of_trip EKok (fn := Try.f20) (c := cF) (by kernel_rfl) (by kernel_rfl) (by kernel_rfl) ?_
    refine Trip.preR EKok noSum_ok (k := 2) (kf := [0, 3]) (by kernel_rfl) (Q1 := fun q => q = (.normal, xFr [(0, pO d), (3, nI 0)] 36, S2)) (Eq.mp (vcF1 d l m las.length S0 S2 (fun q => q = (.normal, xFr [(0, pO d), (3, nI 0)] 36, S2)))
      ⟨ld_m hD.hd, lssN, ld_s hD.hd, geqN hn, ld_5 hD.hd, ld_4 hD.hd, ld_3 hD.hd, okS_of (by rw [e2]; exact st_4 hD.hd), ld_4 D2.hd, ld_3 D2.hd, rfl⟩) ?_ (fun q h1 h2 => absurd (congrArg Prod.fst h2) h1)
    rintro F' S' hq
    cases hq
    rw [shF2]
    refine Trip.seq (R := Stops S0.next .normal (xFr [(3, nI 0)] 36) Sf) ?_ (fun fr' st' hq => ?_) (fun e fr' st' hne hq => absurd hq.1 hne)
    · rw [shF3]
      refine Trip.seq (R := Stops S0.next .normal (xFr [(0, pO d), (3, nI 0), (12, .bool true)] 36) S2) ((Trip.runY EKok noSum_ok (Eq.mp (vcF2 d S2 (fun r => r = (.normal, xFr [(0, pO d), (3, nI 0), (12, .bool true)] 36, S2))) rfl)).mono fun r hr => Stops.rawE hr) (fun fr' st' hq => ?_) (fun e fr' st' hne hq => absurd hq.1 hne)
      refine Trip.less hq.2 (Trip.cond (b := true) evT ?_)
      show Trip _ _ _ BG _ _ _
      rw [shBG]
      refine Trip.seq (R := Stops S0.next .normal (frF d S2.next) Sl) (Trip.seq (R := Stops S0.next .normal (frF d S2.next) S3)
        ((Trip.runY EKok noSum_ok (Eq.mp (vcF3 d m S2 S3 (fun r => r = (.normal, frF d S2.next, S3))) ⟨ld_m D2.hd, rg, rfl⟩)).mono fun r hr => Stops.rawE hr) (fun fr' st' hq => Trip.less hq.2 ?_) (fun e fr' st' hne hq => absurd hq.1 hne)) (fun fr' st' hq => ?_) (fun e fr' st' hne hq => absurd hq.1 hne)
      · refine Trip.block (Trip.loop (fun μ fr st => ∃ seen lasK, μ = (leftE es seen).length ∧ fr = frF d S2.next ∧ FI S0 d l m S2.next ck las es seen lasK st) ?_ (leftE es []).length ⟨[], las, rfl, rfl, I0⟩)
        rintro μ F S ⟨seen, lasK, rfl, rfl, hI⟩
        refine (roundF hE hI).mono ?_
        rintro ⟨e, F', S'⟩ (⟨seen', lasK', S4, h1, h2, h3, h4⟩ | ⟨h1, h3, h4⟩)
        · simp only at h3
          subst h3
          exact ⟨_, _, _, h1, h4, seen', lasK', rfl, rfl, h2⟩
        · simp only at h3
          subst h3
          refine ⟨fun _ => ⟨rfl, Wk.trans h4 (Wk.mem (fun k x hx => ?_) ?_)⟩, fun h => absurd rfl h⟩
          · by_cases hk : k = l
            · subst hk
              rw [aL] at hx
              have : lasK = flushed las es := by
                apply List.ext_getElem
                · rw [flushed_len, hI.len]
                · intro j h5 h6
                  have hj : j < las.length := by rw [← hI.len]; exact h5
                  have v1 := hI.val j hj
                  have v2 := flushed_get (es := es) hj
                  rw [List.getD_eq_getElem?_getD, List.getElem?_eq_getElem h5] at v1
                  rw [List.getD_eq_getElem?_getD, List.getElem?_eq_getElem h6] at v2
                  simp only [Option.getD_some] at v1 v2
                  rw [v1, v2]
                  by_cases hex : ∃ a, a ∈ es ∧ a.k = j
                  · obtain ⟨a, ha, hak⟩ := hex
                    have : a.b ∈ seen := by
                      by_cases hb : a.b ∈ seen
                      · exact hb
                      · have := mem_left.2 ⟨ha, hb⟩
                        rw [h1] at this; cases this
                    rw [if_pos ⟨a, ha, hak, this⟩]
                  · rw [if_neg (fun ⟨a, ha, hak, _⟩ => hex ⟨a, ha, hak⟩), curB_none fun a ha hak => hex ⟨a, ha, hak⟩]
              rw [← this] at hx
              rw [hI.dk.hl]; exact hx
            · rw [gL k hk] at hx
              rw [hI.fr k (ht.lt hx) hk]; exact hx
          · have := hI.nx
            rw [nL]
            omega
      · refine Trip.less hq.2 ((Trip.runY EKok noSum_ok (Eq.mp (vcF9 d S2.next m Sl Sf (fun r => r = (.normal, xFr [(3, nI 0)] 36, Sf))) ⟨ld_m (l := l) (n := las.length) (by rw [gL d hdle]; exact hD.hd), by rw [eF]; exact clear_at (by rw [gL m (fun x => hlm x.symm)]; exact hD.hm), rfl⟩)).mono fun r hr => Stops.rawE hr)
    · refine Trip.less hq.2 ((Trip.runY EKok noSum_ok (Eq.mp (vcFz Sf (fun q => q = (.ret, some (nI 0, Sf)))) rfl)).mono fun r hr => ?_)
      exact ⟨.inr (congrArg Prod.fst hr), congrArg Prod.snd hr⟩
  · by_cases h1 : i = m
    · subst h1
      rw [eF, put_at] at hi
      cases hi
      exact .inr ⟨.inr ⟨_, hD.hm, by simp⟩, fun e he => by cases he⟩
    · by_cases h2 : i = l
      · subst h2
        rw [gF i h1, aL] at hi
        cases hi
        refine .inr ⟨.inr ⟨_, hD.hl, by simp⟩, refsDs_all.2 fun v hv => ?_⟩
        unfold rowB at hv
        obtain ⟨x, _, hx⟩ := List.mem_flatMap.1 hv
        unfold bl at hx
        obtain ⟨y, _, rfl⟩ := List.mem_map.1 hx
        trivial
      · rw [gF i h1, gL i h2] at hi
        exact .inl hi
end
end Go.Proofs.Ytmjmpmmonelmmaa.dsk
end

section
open Go Go.Ax Go.Proofs
namespace Go.Proofs.Ytmjmpmmonelmmaa.dsk
set_option linter.unusedVariables false
-- Crash
noncomputable def cC : Code := Option.getD Try.f15.body .skip
noncomputable def X3 : Code := seqL (dropC 1 cC)
noncomputable def LC : Code := lopB (blkB (seqR X3))
noncomputable def frC (d : Nat) (P W : AV) (n i : Nat) : AFr := xFr [(0, pO d), (1, P), (13, W), (14, nI n), (15, nI i)] 77
noncomputable def tC1 (d l m n : Nat) (P : AV) (S : ASt) : Tr (Exit × AFr × ASt) := (TM EK noSum flK fl0 60).ex ⟨[], [10], [], []⟩ none (preC 1 cC) { m := putArgs [pO d, P] 0 .e, n := 77, defs := [] } S
noncomputable def tC3 (q : CallT) (d n : Nat) (P W : AV) (S S1 : ASt) : Tr (Exit × AFr × ASt) := (TM EK (onlyC [16] q) flK fl0 60).ex ⟨[13, 14], [], [], []⟩ none (seqL X3) (xFr [(0, pO d), (1, P)] 77) S
noncomputable def tCx (d n i : Nat) (P W : AV) (S : ASt) : Tr (Exit × AFr × ASt) := (TM EK noSum flK fl0 60).ex ⟨[16], [], [], []⟩ none LC (frC d P W n i) S
noncomputable def flC : Fl := ⟨[16, 18, 19, 23, 25, 26, 31, 33, 34, 37, 38, 41, 42, 45, 48, 51, 55, 59, 60, 61, 65, 67, 4095, 4094], [], [], []⟩
noncomputable def tCn (d l m n s k nn i r x c np : Nat) (P W : AV) (B B2 : List Nat) (S S1 S2 S3 : ASt) : Tr (Exit × AFr × ASt) := (TM EK noSum flK fl0 60).ex flC none LC (frC d P (.slice (some (s, 0)) nn (.atl nn)) nn i) S
noncomputable def tCp (d l m n s k nn i r x c np p : Nat) (z z1 z2 : Int) (A P : AV) (B B2 : List Nat) (S S1 S2 S3 : ASt) : Tr (Exit × AFr × ASt) := (TM EK noSum flK fl0 60).ex flC none LC (frC d P (.slice (some (s, 0)) nn (.atl nn)) nn i) S
noncomputable def tC13 (d l m n : Nat) (S S1 S2 S3 : ASt) : Tr (Exit × AFr × ASt) := (TM EK noSum flK fl0 60).ex ⟨[4095], [], [], []⟩ none (preC 0 (dropC 2 cC)) (xFr [(0, pO d)] 77) S
noncomputable def tCz (S : ASt) : Tr (Exit × AFr × ASt) := (TM EK noSum flK fl0 60).ex fl0 none (dropC 3 cC) (xFr [(0, nI 0)] 77) S
-- Dead
noncomputable def tDe (d l m n : Nat) (S : ASt) : Tr (AV × ASt) := (TM EK noSum ((17, ⟨[9], [4], [], []⟩) :: flK) fl0 60).call 17 [pO d] S
theorem vcC1 (d : Nat) (l : Nat) (m : Nat) (n : Nat) (P : AV) (S : ASt) (Q : Exit × AFr × ASt → Prop) :
  (aLoad EK 46 (AV.ptr (some (d, 1))) S = some (AV.map (some m), S) ∧ Q (Exit.normal, xFr [(0, AV.ptr (some (d, 0))), (1, P)] 77, S)) =
  (tC1 d l m n P S).allY (fun r => Q (rawR [0, 1] r)) (An.v (AV.map (some m), S) An.nil) := by kernel_rfl
theorem vcC3 (q : CallT) (d : Nat) (n : Nat) (P : AV) (W : AV) (S : ASt) (S1 : ASt) (Q : Exit × AFr × ASt → Prop) :
  ((M EK (drawA EK) (onlyC [16] q) 59).call 16 [AV.ptr (some (d, 0))] S = some (W, S1) ∧ aBuiltinM EK Builtin.len [23] [W] S1 = some (AV.int IntKind.i64 (Int.ofNat n), S1) ∧ Q (Exit.normal, xFr [(0, AV.ptr (some (d, 0))), (1, P), (13, W), (14, AV.int IntKind.i64 (Int.ofNat n)), (15, AV.int IntKind.i64 (Int.ofNat 0))] 77, S1)) =
  (tC3 q d n P W S S1).allY (fun r => Q (rawR [0, 1, 13, 14, 15] r)) (An.v (W, S1) (An.v (AV.int IntKind.i64 (Int.ofNat n), S1) An.nil)) := by kernel_rfl
theorem vcCx (d : Nat) (n : Nat) (i : Nat) (P : AV) (W : AV) (S : ASt) (Q : Exit × AFr × ASt → Prop) :
  (still S (aBin EK BinOp.lss 3 (Operand.tmp 15) (Operand.tmp 14) (AV.int IntKind.i64 (Int.ofNat i)) (AV.int IntKind.i64 (Int.ofNat n))) = some (AV.bool false, S) ∧ Q (Exit.exit 0, xFr [(0, AV.ptr (some (d, 0))), (1, P), (13, W), (14, AV.int IntKind.i64 (Int.ofNat n)), (15, AV.int IntKind.i64 (Int.ofNat i))] 77, S)) =
  (tCx d n i P W S).allY (fun r => Q (rawR [0, 1, 13, 14, 15] r)) (An.v (AV.bool false, S) An.nil) := by kernel_rfl
theorem vcCn (d : Nat) (l : Nat) (m : Nat) (n : Nat) (s : Nat) (k : Nat) (nn : Nat) (i : Nat) (r : Nat) (x : Nat) (c : Nat) (np : Nat) (P : AV) (W : AV) (B : List Nat) (B2 : List Nat) (S : ASt) (S1 : ASt) (S2 : ASt) (S3 : ASt) (Q : Exit × AFr × ASt → Prop) :
  (still S (aBin EK BinOp.lss 3 (Operand.tmp 15) (Operand.tmp 14) (AV.int IntKind.i64 (Int.ofNat i)) (AV.int IntKind.i64 (Int.ofNat nn))) = some (AV.bool true, S) ∧ still S (aIndexAddr EK 23 (AV.slice (some (s, 0)) nn (Cap.atl nn)) (AV.int IntKind.i64 (Int.ofNat i))) = some (AV.ptr (some (s, i)), S) ∧ aLoad EK 3 (AV.ptr (some (s, i))) S = some (AV.int IntKind.i64 (Int.ofNat k), S) ∧ aLoad EK 30 (AV.ptr (some (d, 0))) (ASt.mk S.h (S.next + 16)) = some (AV.slice (some (l, 0)) n (Cap.known n), ASt.mk S.h (S.next + 16)) ∧ still (ASt.mk S.h (S.next + 16)) (aIndexAddr EK 30 (AV.slice (some (l, 0)) n (Cap.known n)) (AV.int IntKind.i64 (Int.ofNat k))) = some (AV.ptr (some (l, k * 256)), ASt.mk S.h (S.next + 16)) ∧ aLoad EK 33 (AV.ptr (some (l, k * 256))) (ASt.mk S.h (S.next + 16)) = some (AV.agg (bl B), ASt.mk S.h (S.next + 16)) ∧ aLoad EK 46 (AV.ptr (some (d, 1))) (ASt.mk S.h (S.next + 16)) = some (AV.map (some m), ASt.mk S.h (S.next + 16)) ∧ still (ASt.mk S.h (S.next + 16)) (aLookup EK 46 (AV.map (some m)) (AV.int IntKind.i64 (Int.ofNat k)) false (ASt.mk S.h (S.next + 16))) = some (AV.slice (some (r, 0)) c (Cap.rest 256), ASt.mk S.h (S.next + 16)) ∧ aBuiltinM EK Builtin.append [30, 30] [AV.slice (some (S.next + 7, 0)) 1 (Cap.known 1), AV.slice (some (r, 0)) c (Cap.rest 256)] (ASt.put (ASt.mk S.h (S.next + 16)) (S.next + 7) (AO.cells (bl B) true)) = some (AV.slice (some (x, 0)) (c + 1) (Cap.rest 256), S1) ∧ ((True ∧ True) ∧ True) ∧ holdsO [] ∧ aBuiltinM EK Builtin.len [23] [P] S1 = some (AV.int IntKind.i64 (Int.ofNat np), S1) ∧ still S1 (aBin EK BinOp.lss 3 (Operand.tmp 35) (Operand.tmp 37) (AV.int IntKind.i64 (Int.ofNat i)) (AV.int IntKind.i64 (Int.ofNat np))) = some (AV.bool false, S1) ∧ aLoad EK 30 (AV.ptr (some (d, 0))) (ASt.mk S1.h (S1.next + 11)) = some (AV.slice (some (l, 0)) n (Cap.known n), ASt.mk S1.h (S1.next + 11)) ∧ still (ASt.mk S1.h (S1.next + 11)) (aIndexAddr EK 30 (AV.slice (some (x, 0)) (c + 1) (Cap.rest 256)) (AV.int IntKind.i64 (Int.ofNat 0))) = some (AV.ptr (some (x, 0)), ASt.mk S1.h (S1.next + 11)) ∧ aLoad EK 33 (AV.ptr (some (x, 0))) (ASt.mk S1.h (S1.next + 11)) = some (AV.agg (bl B2), ASt.mk S1.h (S1.next + 11)) ∧ still (ASt.mk S1.h (S1.next + 11)) (aIndexAddr EK 30 (AV.slice (some (l, 0)) n (Cap.known n)) (AV.int IntKind.i64 (Int.ofNat k))) = some (AV.ptr (some (l, k * 256)), ASt.mk S1.h (S1.next + 11)) ∧ Option.map (fun s => (undefA, s)) (aStore EK 33 (AV.ptr (some (l, k * 256))) (AV.agg (bl B2)) (ASt.mk S1.h (S1.next + 11))) = some (AV.tuple [], S2) ∧ holdsO [] ∧ aLoad EK 46 (AV.ptr (some (d, 1))) S2 = some (AV.map (some m), S2) ∧ aBuiltinM EK Builtin.delete [46, 3] [AV.map (some m), AV.int IntKind.i64 (Int.ofNat k)] S2 = some (AV.tuple [], S3) ∧ still S3 (aBin EK BinOp.add 3 (Operand.tmp 15) (Operand.const (Value.int IntKind.i64 1)) (AV.int IntKind.i64 (Int.ofNat i)) (AV.int IntKind.i64 (Int.ofNat 1))) = some (AV.int IntKind.i64 (Int.ofNat (i + 1)), S3) ∧ Q (Exit.normal, xFr [(0, AV.ptr (some (d, 0))), (1, P), (13, AV.slice (some (s, 0)) nn (Cap.atl nn)), (14, AV.int IntKind.i64 (Int.ofNat nn)), (15, AV.int IntKind.i64 (Int.ofNat (i + 1)))] 77, S3)) =
  (tCn d l m n s k nn i r x c np P W B B2 S S1 S2 S3).allY (fun r => Q (rawR [0, 1, 13, 14, 15] r)) (An.v (AV.bool true, S) (An.v (AV.ptr (some (s, i)), S) (An.v (AV.int IntKind.i64 (Int.ofNat k), S) (An.v (AV.slice (some (l, 0)) n (Cap.known n), ASt.mk S.h (S.next + 16)) (An.v (AV.ptr (some (l, k * 256)), ASt.mk S.h (S.next + 16)) (An.v (AV.agg (bl B), ASt.mk S.h (S.next + 16)) (An.v (AV.map (some m), ASt.mk S.h (S.next + 16)) (An.v (AV.slice (some (r, 0)) c (Cap.rest 256), ASt.mk S.h (S.next + 16)) (An.v (AV.slice (some (x, 0)) (c + 1) (Cap.rest 256), S1) (An.v (AV.int IntKind.i64 (Int.ofNat np), S1) (An.v (AV.bool false, S1) (An.v (AV.slice (some (l, 0)) n (Cap.known n), ASt.mk S1.h (S1.next + 11)) (An.v (AV.ptr (some (x, 0)), ASt.mk S1.h (S1.next + 11)) (An.v (AV.agg (bl B2), ASt.mk S1.h (S1.next + 11)) (An.v (AV.ptr (some (l, k * 256)), ASt.mk S1.h (S1.next + 11)) (An.v (AV.tuple [], S2) (An.v (AV.map (some m), S2) (An.v (AV.tuple [], S3) (An.v (AV.int IntKind.i64 (Int.ofNat (i + 1)), S3) An.nil))))))))))))))))))) := by kernel_rfl
theorem vcCp (d : Nat) (l : Nat) (m : Nat) (n : Nat) (s : Nat) (k : Nat) (nn : Nat) (i : Nat) (r : Nat) (x : Nat) (c : Nat) (np : Nat) (p : Nat) (z : Int) (z1 : Int) (z2 : Int) (A : AV) (P : AV) (B : List Nat) (B2 : List Nat) (S : ASt) (S1 : ASt) (S2 : ASt) (S3 : ASt) (Q : Exit × AFr × ASt → Prop) :
  (still S (aBin EK BinOp.lss 3 (Operand.tmp 15) (Operand.tmp 14) (AV.int IntKind.i64 (Int.ofNat i)) (AV.int IntKind.i64 (Int.ofNat nn))) = some (AV.bool true, S) ∧ still S (aIndexAddr EK 23 (AV.slice (some (s, 0)) nn (Cap.atl nn)) (AV.int IntKind.i64 (Int.ofNat i))) = some (AV.ptr (some (s, i)), S) ∧ aLoad EK 3 (AV.ptr (some (s, i))) S = some (AV.int IntKind.i64 (Int.ofNat k), S) ∧ aLoad EK 30 (AV.ptr (some (d, 0))) (ASt.mk S.h (S.next + 16)) = some (AV.slice (some (l, 0)) n (Cap.known n), ASt.mk S.h (S.next + 16)) ∧ still (ASt.mk S.h (S.next + 16)) (aIndexAddr EK 30 (AV.slice (some (l, 0)) n (Cap.known n)) (AV.int IntKind.i64 (Int.ofNat k))) = some (AV.ptr (some (l, k * 256)), ASt.mk S.h (S.next + 16)) ∧ aLoad EK 33 (AV.ptr (some (l, k * 256))) (ASt.mk S.h (S.next + 16)) = some (AV.agg (bl B), ASt.mk S.h (S.next + 16)) ∧ aLoad EK 46 (AV.ptr (some (d, 1))) (ASt.mk S.h (S.next + 16)) = some (AV.map (some m), ASt.mk S.h (S.next + 16)) ∧ still (ASt.mk S.h (S.next + 16)) (aLookup EK 46 (AV.map (some m)) (AV.int IntKind.i64 (Int.ofNat k)) false (ASt.mk S.h (S.next + 16))) = some (AV.slice (some (r, 0)) c (Cap.rest 256), ASt.mk S.h (S.next + 16)) ∧ aBuiltinM EK Builtin.append [30, 30] [AV.slice (some (S.next + 7, 0)) 1 (Cap.known 1), AV.slice (some (r, 0)) c (Cap.rest 256)] (ASt.put (ASt.mk S.h (S.next + 16)) (S.next + 7) (AO.cells (bl B) true)) = some (AV.slice (some (x, 0)) (c + 1) (Cap.rest 256), S1) ∧ ((True ∧ True) ∧ True) ∧ holdsO [] ∧ aBuiltinM EK Builtin.len [23] [P] S1 = some (AV.int IntKind.i64 (Int.ofNat np), S1) ∧ still S1 (aBin EK BinOp.lss 3 (Operand.tmp 35) (Operand.tmp 37) (AV.int IntKind.i64 (Int.ofNat i)) (AV.int IntKind.i64 (Int.ofNat np))) = some (AV.bool true, S1) ∧ still S1 (aIndexAddr EK 23 P (AV.int IntKind.i64 (Int.ofNat i))) = some (A, S1) ∧ aLoad EK 3 A S1 = some (AV.int IntKind.i64 z, S1) ∧ still S1 (aBin EK BinOp.rem 3 (Operand.tmp 42) (Operand.tmp 44) (AV.int IntKind.i64 z) (AV.int IntKind.i64 (Int.ofNat (c + 1)))) = some (AV.int IntKind.i64 z1, S1) ∧ still S1 (aBin EK BinOp.add 3 (Operand.tmp 45) (Operand.tmp 47) (AV.int IntKind.i64 z1) (AV.int IntKind.i64 (Int.ofNat (c + 1)))) = some (AV.int IntKind.i64 z2, S1) ∧ still S1 (aBin EK BinOp.rem 3 (Operand.tmp 48) (Operand.tmp 50) (AV.int IntKind.i64 z2) (AV.int IntKind.i64 (Int.ofNat (c + 1)))) = some (AV.int IntKind.i64 (Int.ofNat p), S1) ∧ aLoad EK 30 (AV.ptr (some (d, 0))) (ASt.mk S1.h (S1.next + 11)) = some (AV.slice (some (l, 0)) n (Cap.known n), ASt.mk S1.h (S1.next + 11)) ∧ still (ASt.mk S1.h (S1.next + 11)) (aIndexAddr EK 30 (AV.slice (some (x, 0)) (c + 1) (Cap.rest 256)) (AV.int IntKind.i64 (Int.ofNat p))) = some (AV.ptr (some (x, p * 256)), ASt.mk S1.h (S1.next + 11)) ∧ aLoad EK 33 (AV.ptr (some (x, p * 256))) (ASt.mk S1.h (S1.next + 11)) = some (AV.agg (bl B2), ASt.mk S1.h (S1.next + 11)) ∧ still (ASt.mk S1.h (S1.next + 11)) (aIndexAddr EK 30 (AV.slice (some (l, 0)) n (Cap.known n)) (AV.int IntKind.i64 (Int.ofNat k))) = some (AV.ptr (some (l, k * 256)), ASt.mk S1.h (S1.next + 11)) ∧ Option.map (fun s => (undefA, s)) (aStore EK 33 (AV.ptr (some (l, k * 256))) (AV.agg (bl B2)) (ASt.mk S1.h (S1.next + 11))) = some (AV.tuple [], S2) ∧ holdsO [] ∧ aLoad EK 46 (AV.ptr (some (d, 1))) S2 = some (AV.map (some m), S2) ∧ aBuiltinM EK Builtin.delete [46, 3] [AV.map (some m), AV.int IntKind.i64 (Int.ofNat k)] S2 = some (AV.tuple [], S3) ∧ still S3 (aBin EK BinOp.add 3 (Operand.tmp 15) (Operand.const (Value.int IntKind.i64 1)) (AV.int IntKind.i64 (Int.ofNat i)) (AV.int IntKind.i64 (Int.ofNat 1))) = some (AV.int IntKind.i64 (Int.ofNat (i + 1)), S3) ∧ Q (Exit.normal, xFr [(0, AV.ptr (some (d, 0))), (1, P), (13, AV.slice (some (s, 0)) nn (Cap.atl nn)), (14, AV.int IntKind.i64 (Int.ofNat nn)), (15, AV.int IntKind.i64 (Int.ofNat (i + 1)))] 77, S3)) =
  (tCp d l m n s k nn i r x c np p z z1 z2 A P B B2 S S1 S2 S3).allY (fun r => Q (rawR [0, 1, 13, 14, 15] r)) (An.v (AV.bool true, S) (An.v (AV.ptr (some (s, i)), S) (An.v (AV.int IntKind.i64 (Int.ofNat k), S) (An.v (AV.slice (some (l, 0)) n (Cap.known n), ASt.mk S.h (S.next + 16)) (An.v (AV.ptr (some (l, k * 256)), ASt.mk S.h (S.next + 16)) (An.v (AV.agg (bl B), ASt.mk S.h (S.next + 16)) (An.v (AV.map (some m), ASt.mk S.h (S.next + 16)) (An.v (AV.slice (some (r, 0)) c (Cap.rest 256), ASt.mk S.h (S.next + 16)) (An.v (AV.slice (some (x, 0)) (c + 1) (Cap.rest 256), S1) (An.v (AV.int IntKind.i64 (Int.ofNat np), S1) (An.v (AV.bool true, S1) (An.v (A, S1) (An.v (AV.int IntKind.i64 z, S1) (An.v (AV.int IntKind.i64 z1, S1) (An.v (AV.int IntKind.i64 z2, S1) (An.v (AV.int IntKind.i64 (Int.ofNat p), S1) (An.v (AV.slice (some (l, 0)) n (Cap.known n), ASt.mk S1.h (S1.next + 11)) (An.v (AV.ptr (some (x, p * 256)), ASt.mk S1.h (S1.next + 11)) (An.v (AV.agg (bl B2), ASt.mk S1.h (S1.next + 11)) (An.v (AV.ptr (some (l, k * 256)), ASt.mk S1.h (S1.next + 11)) (An.v (AV.tuple [], S2) (An.v (AV.map (some m), S2) (An.v (AV.tuple [], S3) (An.v (AV.int IntKind.i64 (Int.ofNat (i + 1)), S3) An.nil)))))))))))))))))))))))) := by kernel_rfl
theorem vcC13 (d : Nat) (l : Nat) (m : Nat) (n : Nat) (S : ASt) (S1 : ASt) (S2 : ASt) (S3 : ASt) (Q : Exit × AFr × ASt → Prop) :
  (Option.map (fun s => (undefA, s)) (aStore EK 4 (AV.ptr (some (d, 3))) (AV.bool false) S) = some (AV.tuple [], S1) ∧ Option.map (fun s => (undefA, s)) (aStore EK 4 (AV.ptr (some (d, 4))) (AV.bool false) S1) = some (AV.tuple [], S2) ∧ Option.map (fun s => (undefA, s)) (aStore EK 3 (AV.ptr (some (d, 2))) (AV.int IntKind.i64 (Int.ofNat 0)) S2) = some (AV.tuple [], S3) ∧ Q (Exit.normal, xFr [(0, AV.ptr (some (d, 0)))] 77, S3)) =
  (tC13 d l m n S S1 S2 S3).allY (fun r => Q (rawR [0] r)) (An.v (AV.tuple [], S1) (An.v (AV.tuple [], S2) (An.v (AV.tuple [], S3) An.nil))) := by kernel_rfl
theorem vcCz (S : ASt) (Q : Exit × Option (AV × ASt) → Prop) :
  (Q (Exit.ret, some (AV.int IntKind.i64 (Int.ofNat 0), S))) =
  (tCz S).allY (fun r => Q (r.1, leaveA EK Try.f15 r.2.1 r.2.2)) (An.nil) := by kernel_rfl
theorem vcDe (d : Nat) (l : Nat) (m : Nat) (n : Nat) (S : ASt) (Q : AV × ASt → Prop) :
  (aLoad EK 46 (AV.ptr (some (d, 1))) S = some (AV.map (some m), S) ∧ aLoad EK 4 (AV.ptr (some (d, 4))) S = some (AV.bool false, S) ∧ Q (AV.bool false, S)) =
  (tDe d l m n S).allY (Q) (An.v (AV.map (some m), S) (An.v (AV.bool false, S) An.nil)) := by kernel_rfl
end Go.Proofs.Ytmjmpmmonelmmaa.dsk
end

section
open Go Go.Ax Go.Proofs
namespace Go.Proofs.Ytmjmpmmonelmmaa.dsk
set_option linter.unusedVariables false
theorem ce_i : cellT EK 3 = true := by kernel_rfl
theorem sl_i : sliceT EK 23 = some 1 := by kernel_rfl
def pkZ (z : Int) (c : Nat) : Int := Int.tmod (Int.tmod z (.ofNat c) + .ofNat c) (.ofNat c)
def pkF (zs : List Int) (c q : Nat) : Nat := match zs[q]? with
  | some z => (pkZ z c).toNat
  | none => 0
theorem pkZ_in {z : Int} {c : Nat} (h : 0 < c) : 0 ≤ pkZ z c ∧ pkZ z c < c := by
  have h1 := Int.lt_tmod_of_pos z (show (0 : Int) < (c : Int) by omega)
  have h2 := Int.tmod_lt_of_pos z (show (0 : Int) < (c : Int) by omega)
  unfold pkZ
  simp only [Int.ofNat_eq_natCast]
  exact ⟨Int.tmod_nonneg _ (by omega), Int.tmod_lt_of_pos _ (by omega)⟩
theorem pkF_lt {zs : List Int} {c q : Nat} (h : 0 < c) : pkF zs c q < c := by
  unfold pkF
  split
  · rename_i z _
    have := pkZ_in (z := z) h
    omega
  · exact h
def mayB (las : List (List Nat)) (es : List En) (j : Nat) : List (List Nat) := las.getD j [] :: vers es j
def crB (las : List (List Nat)) (es : List En) (ks : List Nat) (zs : List Int) (j : Nat) : List Nat := (mayB las es j).getD (pkF zs (mayB las es j).length (ks.idxOf j)) []
open Classical in
structure CI (S0 : ASt) (d l m ck : Nat) (las : List (List Nat)) (es : List En) (ks : List Nat) (zs : List Int) (W : AV) (i : Nat) (lasK : List (List Nat)) (esK : List En) (S : ASt) : Prop where
  dk : Disk S d l m lasK esK ck
  row : ∀ s, W = .slice (some (s, 0)) ks.length (.atl ks.length) → S0.next ≤ s ∧ ∃ rw, S.h.get s = some (.cells (ks.map nI) rw)
  tid : Tidy S
  len : lasK.length = las.length
  rest : ∀ e, e ∈ esK ↔ e ∈ es ∧ e.k ∈ ks.drop i
  val : ∀ j, j < las.length → lasK.getD j [] = if j ∈ ks.take i then crB las es ks zs j else las.getD j []
  fr : ∀ k, k < S0.next → k ≠ l → k ≠ m → S.h.get k = S0.h.get k
  nx : S.next ≤ S0.next + 60 * (i + es.length + 2)
section
variable {S0 : ASt} {d l m ck pi : Nat} {las : List (List Nat)} {es : List En} {ks : List Nat} {zs : List Int} {P W : AV} {o : AO}
theorem shC3 : X3 = .seq (seqL X3) (.block 0 (.loop LC)) := by kernel_rfl
theorem shC2 : dropC 1 cC = .seq X3 (dropC 2 cC) := by kernel_rfl
theorem shC4 : dropC 2 cC = .seq (preC 0 (dropC 2 cC)) (dropC 3 cC) := by kernel_rfl
theorem lssC {S : ASt} {i n : Nat} : still S (aBin EK .lss 3 (.tmp 15) (.tmp 14) (.int .i64 (.ofNat i)) (.int .i64 (.ofNat n))) = some (.bool (decide (i < n)), S) := by
  have e : aBin EK .lss 3 (.tmp 15) (.tmp 14) (.int .i64 (.ofNat i)) (.int .i64 (.ofNat n)) = some (.bool (ltF (.ofNat i) (.ofNat n))) := by kernel_rfl
  rw [ltF_nn] at e
  exact still_of e
theorem lssP {S : ASt} {i n : Nat} : still S (aBin EK .lss 3 (.tmp 35) (.tmp 37) (.int .i64 (.ofNat i)) (.int .i64 (.ofNat n))) = some (.bool (decide (i < n)), S) := by
  have e : aBin EK .lss 3 (.tmp 35) (.tmp 37) (.int .i64 (.ofNat i)) (.int .i64 (.ofNat n)) = some (.bool (ltF (.ofNat i) (.ofNat n))) := by kernel_rfl
  rw [ltF_nn] at e
  exact still_of e
theorem rem1 {S : ASt} {z : Int} {c : Nat} : still S (aBin EK .rem 3 (.tmp 42) (.tmp 44) (.int .i64 z) (.int .i64 (.ofNat (c + 1)))) = some (.int .i64 (Int.tmod z (.ofNat (c + 1))), S) := still_of (by kernel_rfl)
theorem add1 {S : ASt} {z : Int} {c : Nat} (h1 : -(4611686018427387904 : Int) < z + .ofNat (c + 1)) (h2 : z + .ofNat (c + 1) < (4611686018427387904 : Int)) : still S (aBin EK .add 3 (.tmp 45) (.tmp 47) (.int .i64 z) (.int .i64 (.ofNat (c + 1)))) = some (.int .i64 (z + .ofNat (c + 1)), S) := by
  have e : aBin EK .add 3 (.tmp 45) (.tmp 47) (.int .i64 z) (.int .i64 (.ofNat (c + 1))) = some (.int .i64 (wrapF .i64 (z + .ofNat (c + 1)))) := by kernel_rfl
  refine still_of ?_
  rw [e, wrapF_eq]
  congr 2
  generalize z + Int.ofNat (c + 1) = y at h1 h2
  simp only [IntKind.wrap, IntKind.bits, IntKind.signed]
  simp
  omega
theorem rem2 {S : ASt} {z : Int} {c p : Nat} (h : Int.tmod z (.ofNat (c + 1)) = .ofNat p) : still S (aBin EK .rem 3 (.tmp 48) (.tmp 50) (.int .i64 z) (.int .i64 (.ofNat (c + 1)))) = some (nI p, S) := by
  have e : aBin EK .rem 3 (.tmp 48) (.tmp 50) (.int .i64 z) (.int .i64 (.ofNat (c + 1))) = some (.int .i64 (Int.tmod z (.ofNat (c + 1)))) := by kernel_rfl
  rw [h] at e
  exact still_of e
theorem inc1 {S : ASt} {i : Nat} (h : i < 4611686018427387904) : still S (aBin EK .add 3 (.tmp 15) (.const (.int .i64 1)) (.int .i64 (.ofNat i)) (.int .i64 (.ofNat 1))) = some (nI (i + 1), S) := by
  have e : aBin EK .add 3 (.tmp 15) (.const (.int .i64 1)) (.int .i64 (.ofNat i)) (.int .i64 (.ofNat 1)) = some (.int .i64 (wrapF .i64 (.ofNat i + .ofNat 1))) := by kernel_rfl
  rw [wrap_succ h] at e
  exact still_of e
theorem ix_i {S : ASt} {s k n : Nat} {c : Cap} (h : k < n) : still S (aIndexAddr EK 23 (.slice (some (s, 0)) n c) (.int .i64 (.ofNat k))) = some (.ptr (some (s, k)), S) := by
  have := still_idx (st := S) (i := s) (o := 0) (c := c) (kd := .i64) sl_i h
  rw [Nat.zero_add, Nat.mul_one] at this; exact this
theorem erase_mid {α : Type} {x : α} {C : List α} : ∀ A : List α, (A ++ x :: C).eraseIdx A.length = A ++ C
  | [] => rfl
  | a :: A => by
    show a :: (A ++ x :: C).eraseIdx A.length = _
    rw [erase_mid A]; rfl
theorem del_at {S : ASt} {A C : List En} {e : En} {k : Nat} (hS : S.h.get m = some (.map (ents (A ++ e :: C)) ck)) (he : e.k = k) (h : ∀ e, e ∈ A → e.k ≠ k) : aBuiltinM EK .delete [46, 3] [.map (some m), nI k] S = some (.tuple [], S.put m (.map (ents (A ++ C)) ck)) := by
  obtain ⟨ti, key, elem, tk, kt, te, h1, h2, h3, h4, h5, h6⟩ := mapS_at mS
  have e1 : aDelete EK 46 (.map (some m)) (nI k) S = some (S.put m (.map (ents (A ++ C)) ck)) := by
    simp only [aDelete, h1, h2, h3, h4, plainKey, cond_true, hS, findM_some he h, Nat.zero_add]
    congr 3
    unfold ents
    rw [List.map_append, List.map_cons]
    have : A.length = (A.map entO).length := by simp
    rw [this, erase_mid, List.map_append]
  have e2 : aBuiltinM EK .delete [46, 3] [.map (some m), nI k] S = (match aDelete EK 46 (.map (some m)) (nI k) S with | some st' => some (.tuple [], st') | none => none) := by kernel_rfl
  rw [e2, e1]
theorem take_next {i k : Nat} (h : ks[i]? = some k) : ks.take (i + 1) = ks.take i ++ [k] := by
  rw [List.take_add_one, h]; rfl
theorem drop_next {i k : Nat} (h : ks[i]? = some k) : ks.drop i = k :: ks.drop (i + 1) := by
  obtain ⟨h1, h2⟩ := List.getElem?_eq_some_iff.1 h
  rw [List.drop_eq_getElem_cons h1, h2]
open Classical in
theorem roundC (hes : ∀ e, e ∈ es → e.vs.length < 1000000) (hkd : (es.map (·.k)).Nodup) (hks : ks.Nodup) (hin : ∀ j, j ∈ ks ↔ ∃ e, e ∈ es ∧ e.k = j) (hkl : ks.length < 1000000)
    (hP : SlArg EK 23 1 pi zs.length P o (zs.map (AV.int .i64 ·))) (hpo : 0 < zs.length → S0.h.get pi = some o ∧ pi < S0.next ∧ pi ≠ l ∧ pi ≠ m) (hW : W = .slice none 0 (.known 0) ∧ ks = [] ∨ ∃ s, W = .slice (some (s, 0)) ks.length (.atl ks.length))
    {i : Nat} {lasK : List (List Nat)} {esK : List En} {S : ASt} (hi : i ≤ ks.length) (hI : CI S0 d l m ck las es ks zs W i lasK esK S) :
    Trip Try.prog S0.next none LC (frC d P W ks.length i) S fun r => (∃ lasK' esK' S', i < ks.length ∧ CI S0 d l m ck las es ks zs W (i + 1) lasK' esK' S' ∧ Stops S0.next .normal (frC d P W ks.length (i + 1)) S' r) ∨ (i = ks.length ∧ Stops S0.next (.exit 0) (frC d P W ks.length i) S r) := by
  by_cases hlt : i < ks.length
  · obtain ⟨s, rfl⟩ : ∃ s, W = .slice (some (s, 0)) ks.length (.atl ks.length) := by
      rcases hW with ⟨_, h⟩ | h
      · rw [h] at hlt; simp at hlt
      · exact h
    obtain ⟨hs0, rw_, hrow⟩ := hI.row s rfl
    obtain ⟨k, hk⟩ : ∃ k, ks[i]? = some k := ⟨ks[i], List.getElem?_eq_getElem hlt⟩
    have hkm : k ∈ ks := List.mem_of_getElem? hk
    have hkdr : k ∈ ks.drop i := by rw [drop_next hk]; exact List.mem_cons_self
    obtain ⟨e, he, hek⟩ := (hin k).1 hkm
    have heK : e ∈ esK := (hI.rest e).2 ⟨he, by rw [hek]; exact hkdr⟩
    obtain ⟨A, e', C, hsp, hek', hA, hC, hver⟩ := split_at hI.dk.keys ⟨e, heK, hek⟩
    have hee : e' = e := by
      have h1 : e ∈ A ++ e' :: C := by rw [← hsp]; exact heK
      rcases List.mem_append.1 h1 with h | h
      · exact absurd hek (hA e h)
      · rcases List.mem_cons.1 h with h | h
        · exact h.symm
        · exact absurd hek (hC e h)
    subst hee
    clear hek'
    obtain ⟨_, e2, _, _, hek2, _, _, hver2⟩ := split_at hkd ⟨e', he, hek⟩
    have hv2 : vers es k = e'.vs := by
      obtain ⟨A2, e3, C2, hsp2, hek3, hA2, hC2, hver3⟩ := split_at hkd ⟨e', he, hek⟩
      have h1 : e' ∈ A2 ++ e3 :: C2 := by rw [← hsp2]; exact he
      rcases List.mem_append.1 h1 with h | h
      · exact absurd hek (hA2 e' h)
      · rcases List.mem_cons.1 h with h | h
        · rw [hver3, h]
        · exact absurd hek (hC2 e' h)
    obtain ⟨p1, p2, p3, p4, p5⟩ := hI.dk.row e' heK
    rw [hek] at p3
    have hkl2 : k < las.length := by rw [← hI.len]; exact p3
    have hnt : k ∉ ks.take i := fun h => by
      have h1 := hks
      rw [← List.take_append_drop i ks, List.nodup_append] at h1
      exact h1.2.2 k h k hkdr rfl
    have hlk : lasK.getD k [] = las.getD k [] := by rw [hI.val k hkl2, if_neg hnt]
    have hidx : ks.idxOf k = i := by
      obtain ⟨h1, h2⟩ := List.getElem?_eq_some_iff.1 hk
      rw [← h2]; exact hks.idxOf_getElem i h1
    have hml : (mayB las es k).length = e'.vs.length + 1 := by unfold mayB; rw [hv2]; rfl
    -- the versions
    obtain ⟨R, eR⟩ : ∃ X, X = ASt.mk S.h (S.next + 16) := ⟨_, rfl⟩
    have tR : Tidy R := by rw [eR]; exact hI.tid.mk (by omega)
    have DR : Disk R d l m lasK esK ck := by rw [eR]; exact hI.dk.keep hI.tid fun k _ => rfl
    obtain ⟨X, eX⟩ : ∃ X, X = R.put (S.next + 7) (.cells (bl (lasK.getD k [])) true) := ⟨_, rfl⟩
    have gX : ∀ j, j ≠ S.next + 7 → X.h.get j = S.h.get j := fun j hj => by rw [eX, put_ne hj, eR]
    have aX : X.h.get (S.next + 7) = some (.cells (bl (lasK.getD k [])) true) := by rw [eX]; exact put_at
    have nX : X.next = S.next + 16 := by rw [eX, put_next, eR]
    have tX : Tidy X := by rw [eX]; exact tR.put (by rw [eR]; show _ < S.next + 16; omega)
    have hrl := hI.tid.lt p1
    have hf : aFirst X 256 e'.vs.length (sB e'.r e'.vs.length) = some (rowB e'.vs) := first_at (by rw [gX _ (by omega)]; exact p1) (fm_all bl_len)
    have ho : aFirst X 256 1 (.slice (some (S.next + 7, 0)) 1 (.known 1)) = some (bl (lasK.getD k [])) := first_at aX takeL_bl
    have hvl := hes e' he
    have hv0 : 0 < e'.vs.length := List.length_pos_iff.2 p2
    have ap := append_full_at (sT := 30) (xT := 30) (l := 1) ap_s (x := sB e'.r e'.vs.length) rfl hf ho hv0 (by omega) (by omega)
    rw [Nat.add_comm 1 e'.vs.length] at ap
    obtain ⟨S1, e1⟩ : ∃ Y, Y = X.add (.cells (bl (lasK.getD k []) ++ rowB e'.vs) true) := ⟨_, rfl⟩
    rw [← e1] at ap
    have g1 : ∀ j, j ≠ S.next + 7 → j ≠ S.next + 16 → S1.h.get j = S.h.get j := fun j h1 h2 => by rw [e1, add_ne (by omega), gX j h1]
    have a1 : S1.h.get X.next = some (.cells (rowB (mayB las es k)) true) := by
      rw [e1, add_at]
      unfold mayB
      rw [hv2, hlk]; rfl
    have n1 : S1.next = S.next + 17 := by rw [e1, add_next]; omega
    have t1 : Tidy S1 := by rw [e1]; exact tX.add
    have q1 : ∀ j, j < S.next → S1.h.get j = S.h.get j := fun j hj => g1 j (by omega) (by omega)
    have D1 : Disk S1 d l m lasK esK ck := hI.dk.keep hI.tid q1
    -- the pick
    obtain ⟨p, hp, hpl⟩ : ∃ p, p = pkF zs (e'.vs.length + 1) i ∧ p < e'.vs.length + 1 := ⟨_, rfl, pkF_lt (by omega)⟩
    obtain ⟨B2, hB2⟩ : ∃ B2, (mayB las es k)[p]? = some B2 := ⟨(mayB las es k)[p]'(by rw [hml]; exact hpl), List.getElem?_eq_getElem _⟩
    have hcr : crB las es ks zs k = B2 := by
      unfold crB
      rw [hidx, hml, ← hp, List.getD_eq_getElem?_getD, hB2]; rfl
    obtain ⟨R2, eR2⟩ : ∃ X, X = ASt.mk S1.h (S1.next + 11) := ⟨_, rfl⟩
    have tR2 : Tidy R2 := by rw [eR2]; exact t1.mk (by omega)
    have DR2 : Disk R2 d l m lasK esK ck := by rw [eR2]; exact D1.keep t1 fun k _ => rfl
    have aR2 : R2.h.get X.next = some (.cells (rowB (mayB las es k)) true) := by rw [eR2]; exact a1
    obtain ⟨U, V, hU, hUl⟩ : ∃ U V, lasK = U ++ lasK.getD k [] :: V ∧ U.length = k := by
      refine ⟨lasK.take k, lasK.drop (k + 1), ?_, by rw [List.length_take]; omega⟩
      have := List.take_append_drop k lasK
      rw [List.drop_eq_getElem_cons p3] at this
      rw [List.getD_eq_getElem?_getD, List.getElem?_eq_getElem p3]
      exact this.symm
    have hrowB : rowB lasK = rowB U ++ (bl (lasK.getD k []) ++ rowB V) := by
      conv => lhs; rw [hU]
      rw [rowB_app]; rfl
    obtain ⟨S2, e2_⟩ : ∃ X, X = R2.put l (.cells (rowB U ++ (bl B2 ++ rowB V)) true) := ⟨_, rfl⟩
    have st : aStore EK 33 (.ptr (some (l, k * 256))) (.agg (bl B2)) R2 = some S2 := by
      rw [e2_]
      refine storeA_at sz_b (bl_len _) (bl_len (lasK.getD k [])) (by rw [rowB_len, hUl]) ?_
      rw [← hrowB]; exact DR2.hl
    have hlm : l ≠ m := ne_get DR2.hl DR2.hm (by simp)
    have hdl : d ≠ l := fun x => by
      have h1 := D1.hd
      rw [x, D1.hl] at h1
      injection h1 with h1
      injection h1 with h1
      have hne : (rowB lasK)[0]? = some (cellU ((lasK.getD 0 []).getD 0 0)) := by
        cases hc0 : lasK with
        | nil => rw [hc0] at p3; simp at p3
        | cons x xs =>
          show (bl x ++ rowB xs)[0]? = _
          rw [List.getElem?_append_left (by rw [bl_len]; decide), bl_get (by decide)]; rfl
      rw [h1] at hne
      cases hne
    have hdm : d ≠ m := ne_get D1.hd D1.hm (by simp [dK])
    have g2 : ∀ j, j ≠ l → S2.h.get j = S1.h.get j := fun j hj => by rw [e2_, put_ne hj, eR2]
    have hm2 : S2.h.get m = some (.map (ents (A ++ e' :: C)) ck) := by rw [g2 m (fun x => hlm x.symm), ← hsp]; exact D1.hm
    obtain ⟨S3, e3⟩ : ∃ X, X = S2.put m (.map (ents (A ++ C)) ck) := ⟨_, rfl⟩
    have g3 : ∀ j, j ≠ m → S3.h.get j = S2.h.get j := fun j hj => by rw [e3, put_ne hj]
    have hd2 : S2.h.get d = some (dK l m lasK.length) := by rw [g2 d hdl]; exact D1.hd
    have dl := del_at hm2 hek hA
    rw [← e3] at dl
    have hsl : s ≠ l := fun x => by
      have := hI.dk.hl
      rw [← x, hrow] at this
      injection this with this
      injection this with this
      have hne : (rowB lasK)[0]? = some (cellU ((lasK.getD 0 []).getD 0 0)) := by
        cases hc0 : lasK with
        | nil => rw [hc0] at p3; simp at p3
        | cons x xs =>
          show (bl x ++ rowB xs)[0]? = _
          rw [List.getElem?_append_left (by rw [bl_len]; decide), bl_get (by decide)]; rfl
      rw [← this, List.getElem?_map] at hne
      cases hks0 : ks with
      | nil => rw [hks0] at hlt; simp at hlt
      | cons a tl =>
        rw [hks0] at hne
        simp [nI, cellU] at hne
    have hsm : s ≠ m := ne_get hrow hI.dk.hm (by simp)
    have hset : ∀ j, (U ++ B2 :: V).getD j [] = if j = k then B2 else lasK.getD j [] := fun j => by
      conv => rhs; rw [hU]
      simp only [List.getD_eq_getElem?_getD]
      by_cases h1 : j < k
      · rw [if_neg (by omega), List.getElem?_append_left (by omega), List.getElem?_append_left (by omega)]
      · by_cases h2 : j = k
        · subst h2
          rw [if_pos rfl, List.getElem?_append_right (by omega), hUl, Nat.sub_self]; rfl
        · rw [if_neg h2, List.getElem?_append_right (by omega), List.getElem?_append_right (by omega)]
          obtain ⟨x, hx⟩ : ∃ x, j - U.length = x + 1 := ⟨j - U.length - 1, by omega⟩
          rw [hx, List.getElem?_cons_succ, List.getElem?_cons_succ]
    have hlen : (U ++ B2 :: V).length = lasK.length := by
      conv => rhs; rw [hU]
      simp
    have hnd := hI.dk.keys
    rw [hsp, List.map_append, List.map_cons, List.nodup_append] at hnd
    have hbd := hI.dk.borns
    rw [hsp, List.map_append, List.map_cons, List.nodup_append] at hbd
    have hmem : ∀ a, a ∈ A ++ C ↔ a ∈ esK ∧ a.k ≠ k := fun a => by
      rw [hsp]
      simp only [List.mem_append, List.mem_cons]
      constructor
      · rintro (h | h)
        · exact ⟨.inl h, hA a h⟩
        · exact ⟨.inr (.inr h), hC a h⟩
      · rintro ⟨h | h | h, h2⟩
        · exact .inl h
        · subst h; exact absurd hek h2
        · exact .inr h
    have fin : CI S0 d l m ck las es ks zs (.slice (some (s, 0)) ks.length (.atl ks.length)) (i + 1) (U ++ B2 :: V) (A ++ C) S3 := by
      refine ⟨⟨by rw [g3 d hdm, hd2, hlen], by rw [g3 l hlm, e2_, put_at, rowB_app]; rfl, by rw [e3, put_at], fun a ha => ?_, ?_, ?_, by rw [hlen]; exact hI.dk.most⟩, fun s' hs' => ?_, ?_, by rw [hlen]; exact hI.len, fun a => ?_, fun j hj => ?_, fun j hj h1 h2 => ?_, ?_⟩
      · obtain ⟨haK, hak⟩ := (hmem a).1 ha
        obtain ⟨r1, r2, r3, r4, r5⟩ := D1.row a haK
        exact ⟨by rw [g3 _ (ne_get r1 D1.hm (by simp)), g2 _ r5]; exact r1, r2, by rw [hlen]; exact r3, r4, r5⟩
      · rw [List.map_append, List.nodup_append]
        exact ⟨hnd.1, (List.nodup_cons.1 hnd.2.1).2, fun a ha b hb => hnd.2.2 a ha b (List.mem_cons_of_mem _ hb)⟩
      · rw [List.map_append, List.nodup_append]
        exact ⟨hbd.1, (List.nodup_cons.1 hbd.2.1).2, fun a ha b hb => hbd.2.2 a ha b (List.mem_cons_of_mem _ hb)⟩
      · injection hs' with hs'
        injection hs' with hs'
        injection hs' with hs' _
        subst hs'
        exact ⟨hs0, rw_, by rw [g3 s hsm, g2 s hsl, q1 s (hI.tid.lt hrow)]; exact hrow⟩
      · rw [e3]
        refine Tidy.put ?_ ?_
        · rw [e2_]; exact tR2.put (tR2.lt DR2.hl)
        · rw [e2_, put_next]; exact tR2.lt DR2.hm
      · rw [hmem, hI.rest, drop_next hk]
        simp only [List.mem_cons]
        constructor
        · rintro ⟨⟨h1, h2⟩, h3⟩
          exact ⟨h1, h2.resolve_left h3⟩
        · rintro ⟨h1, h2⟩
          refine ⟨⟨h1, .inr h2⟩, fun h3 => ?_⟩
          have h4 := hks
          rw [← List.take_append_drop i ks, drop_next hk, List.nodup_append] at h4
          rw [h3] at h2
          exact (List.nodup_cons.1 h4.2.1).1 h2
      · rw [hset j, take_next hk]
        by_cases hjk : j = k
        · subst hjk
          rw [if_pos rfl, if_pos (by simp), hcr]
        · rw [if_neg hjk, hI.val j hj]
          simp only [List.mem_append, List.mem_cons, List.not_mem_nil, or_false, hjk]
      · have h0 : j ≠ s := by omega
        rw [g3 j h2, g2 j h1, ← hI.fr j hj h1 h2]
        by_cases hjn : j < S.next
        · exact q1 j hjn
        · rw [hI.tid j (by omega)]
          have := hI.fr j hj h1 h2
          rw [hI.tid j (by omega)] at this
          rw [g1 j ?_ ?_]
          · exact hI.tid j (by omega)
          · have := hI.tid.lt hrow; omega
          · have := hI.tid.lt hrow; omega
      · rw [e3, put_next, e2_, put_next, eR2]
        show S1.next + 11 ≤ _
        have := hI.nx
        omega
    have hgetK : lasK[k]? = some (lasK.getD k []) := by rw [List.getD_eq_getElem?_getD, List.getElem?_eq_getElem p3]; rfl
    have hlook : still R (aLookup EK 46 (.map (some m)) (nI k) false R) = some (sB e'.r e'.vs.length, R) := look_old (A := A) (C := C) (by rw [← hsp]; exact DR.hm) hek hA
    by_cases hpz : i < zs.length
    · obtain ⟨z, hz⟩ : ∃ z, zs[i]? = some z := ⟨zs[i], List.getElem?_eq_getElem hpz⟩
      obtain ⟨ho1, ho2, ho3, ho4⟩ := hpo (by omega)
      have hoc := hP.obj (by omega)
      have hpi : S1.h.get pi = some (.cells (zs.map (AV.int .i64 ·)) false) := by
        have h1 := hI.fr pi ho2 ho3 ho4
        rw [ho1, hoc] at h1
        rw [q1 pi (hI.tid.lt h1)]; exact h1
      have hpk := pkZ_in (z := z) (c := e'.vs.length + 1) (by omega)
      have hpp : pkZ z (e'.vs.length + 1) = .ofNat p := by
        rw [hp]
        unfold pkF
        rw [hz]
        show _ = ((pkZ z (e'.vs.length + 1)).toNat : Int)
        omega
      have hb1 := Int.lt_tmod_of_pos z (show (0 : Int) < ((e'.vs.length + 1 : Nat) : Int) by omega)
      have hb2 := Int.tmod_lt_of_pos z (show (0 : Int) < ((e'.vs.length + 1 : Nat) : Int) by omega)
      refine (Trip.runY EKok noSum_ok (Eq.mp (vcCp d l m lasK.length s k ks.length i e'.r X.next e'.vs.length zs.length p z (Int.tmod z (.ofNat (e'.vs.length + 1))) (Int.tmod z (.ofNat (e'.vs.length + 1)) + .ofNat (e'.vs.length + 1)) (.ptr (some (pi, i))) P (lasK.getD k []) B2 S S1 S2 S3 (fun r => r = (.normal, frC d P (.slice (some (s, 0)) ks.length (.atl ks.length)) ks.length (i + 1), S3))) ?_)).mono fun r hr => .inl ⟨_, _, _, hlt, fin, Stops.rawE hr⟩
      rw [← eR, ← eX, ← eR2]
      exact ⟨by rw [lssC, decide_eq_true hlt], ix_i hlt, load_at ce_i hrow (by rw [List.getElem?_map, hk]; rfl), ld_s DR.hd, ix_s p3, ld_row DR.hl hgetK, ld_m DR.hd, hlook, ap, ⟨⟨trivial, trivial⟩, trivial⟩, trivial, hP.len S1, by rw [lssP, decide_eq_true hpz],
        by have := hP.idx i .i64 hpz
           rw [Nat.zero_add, Nat.mul_one] at this
           exact still_of this, load_at ce_i hpi (by rw [List.getElem?_map, hz]; rfl), rem1, add1 (by simp only [Int.ofNat_eq_natCast]; omega) (by simp only [Int.ofNat_eq_natCast]; omega), rem2 hpp, ld_s DR2.hd, ix_s hpl, ld_row aR2 hB2, ix_s p3, okS_of st, trivial, ld_m hd2, dl, inc1 (by omega), rfl⟩
    · have hp0 : p = 0 := by rw [hp]; unfold pkF; rw [List.getElem?_eq_none (by omega)]
      subst hp0
      refine (Trip.runY EKok noSum_ok (Eq.mp (vcCn d l m lasK.length s k ks.length i e'.r X.next e'.vs.length zs.length P .any (lasK.getD k []) B2 S S1 S2 S3 (fun r => r = (.normal, frC d P (.slice (some (s, 0)) ks.length (.atl ks.length)) ks.length (i + 1), S3))) ?_)).mono fun r hr => .inl ⟨_, _, _, hlt, fin, Stops.rawE hr⟩
      rw [← eR, ← eX, ← eR2]
      exact ⟨by rw [lssC, decide_eq_true hlt], ix_i hlt, load_at ce_i hrow (by rw [List.getElem?_map, hk]; rfl), ld_s DR.hd, ix_s p3, ld_row DR.hl hgetK, ld_m DR.hd, hlook, ap, ⟨⟨trivial, trivial⟩, trivial⟩, trivial, hP.len S1, by rw [lssP, decide_eq_false hpz],
        ld_s DR2.hd, (by have := ix_s (S := R2) (l := X.next) (c := .rest 256) hpl; rw [Nat.zero_mul] at this; exact this), (by have := ld_row aR2 hB2; rw [Nat.zero_mul] at this; exact this), ix_s p3, okS_of st, trivial, ld_m hd2, dl, inc1 (by omega), rfl⟩
  · have : i = ks.length := by omega
    exact (Trip.runY EKok noSum_ok (Eq.mp (vcCx d ks.length i P W S (fun r => r = (.exit 0, frC d P W ks.length i, S))) ⟨by rw [lssC, decide_eq_false hlt], rfl⟩)).mono fun r hr => .inr ⟨this, Stops.rawE hr⟩
end
end Go.Proofs.Ytmjmpmmonelmmaa.dsk
end
