/-
  OWN WORK, A PART: an abstract machine for the program's text that the kernel can run, and the proof that it is sound: what it answers is what the program answers; contracts of functions by it. No condition.
-/
import Derived.Shelf.SlIterI.Nil
import Derived.Shelf.SortM.Plain
import Derived.Shelf.SortM.SortNone
import Derived.Test.YtmjmpmmonelmmaaRows
import Derived.KernelRfl
import Derived.WalkSpells
import Derived.Test.YtmjmpmmonelmmaaDmB
section
open Go Go.Proofs Go.RowKit Go.Maps Go.Sort Go.Shelf
namespace Go.Proofs.Ytmjmpmmonelmmaa.dsk
set_option linter.unusedVariables false
set_option maxRecDepth 100000
def keysAR : Go.Shelf.Ren := { f := fun x => match x with | 7 => 54 | 10 => 92 | n => n, t := fun x => match x with | 23 => 46 | 26 => 3 | 3 => 30 | 28 => 98 | 0 => 0 | 27 => 97 | 33 => 72 | 4 => 4 | n => n, g := fun x => match x with | n => n }
theorem keysA : SlLaysZI.n7 Try.prog keysAR where
  mixed := by kernel_rfl
  f7 := ⟨"maps.Keys[map[int][]gemel/api.Block,int,[]gemel/api.Block]", of_decide_eq_true (by kernel_rfl), Try.func54.trans (congrArg some (by kernel_rfl))⟩
  f10 := ⟨"maps.Keys[map[int][]gemel/api.Block,int,[]gemel/api.Block]$1", of_decide_eq_true (by kernel_rfl), Try.func92.trans (congrArg some (by kernel_rfl))⟩
  t0 := Try.underlying0
  a0 := Try.isAgg0
  z0 := Try.sizeOf0
  v0 := Try.zeroValue0
  t4 := Try.underlying4
  a4 := Try.isAgg4
  z4 := Try.sizeOf4
  v4 := Try.zeroValue4
  t23 := Try.underlying46
  a23 := Try.isAgg46
  z23 := Try.sizeOf46
  v23 := Try.zeroValue46
  t26 := Try.underlying3
  a26 := Try.isAgg3
  z26 := Try.sizeOf3
  v26 := Try.zeroValue3
  t27 := Try.underlying97
  a27 := Try.isAgg97
  z27 := Try.sizeOf97
  v27 := Try.zeroValue97
  t28 := Try.underlying98
  a28 := Try.isAgg98
  z28 := Try.sizeOf98
  v28 := Try.zeroValue98
  t33 := Try.underlying72
  a33 := Try.isAgg72
  z33 := Try.sizeOf72
  v33 := Try.zeroValue72
def sortedAR : Go.Shelf.Ren := { f := fun x => match x with | 6 => 53 | 8 => 90 | 9 => 91 | 11 => 117 | 13 => 119 | 12 => 118 | 23 => 144 | 24 => 145 | 14 => 135 | 15 => 136 | 16 => 137 | 17 => 138 | 18 => 139 | 19 => 140 | 20 => 141 | 21 => 142 | 22 => 143 | 25 => 157 | 26 => 158 | 27 => 159 | 28 => 160 | 29 => 161 | 30 => 162 | 31 => 164 | n => n, t := fun x => match x with | 26 => 3 | 28 => 98 | 24 => 23 | 0 => 0 | 3 => 3 | 37 => 119 | 48 => 144 | 50 => 54 | 4 => 4 | 40 => 186 | 39 => 185 | 45 => 70 | 5 => 5 | 9 => 9 | 51 => 203 | 55 => 206 | 57 => 210 | 58 => 211 | 33 => 72 | n => n, g := fun x => match x with | n => n }
theorem sortedA : SlLaysZI.n6 Try.prog sortedAR where
  mixed := by kernel_rfl
  f6 := ⟨"slices.Sorted[int]", of_decide_eq_true (by kernel_rfl), Try.func53.trans (congrArg some (by kernel_rfl))⟩
  f8 := ⟨"slices.Collect[int]", of_decide_eq_true (by kernel_rfl), Try.func90.trans (congrArg some (by kernel_rfl))⟩
  f11 := ⟨"slices.AppendSeq[[]int,int]", of_decide_eq_true (by kernel_rfl), Try.func117.trans (congrArg some (by kernel_rfl))⟩
  i26 := by kernel_rfl
  t0 := Try.underlying0
  a0 := Try.isAgg0
  z0 := Try.sizeOf0
  v0 := Try.zeroValue0
  t24 := Try.underlying23
  a24 := Try.isAgg23
  z24 := Try.sizeOf23
  v24 := Try.zeroValue23
  t26 := Try.underlying3
  a26 := Try.isAgg3
  z26 := Try.sizeOf3
  v26 := Try.zeroValue3
  t28 := Try.underlying98
  a28 := Try.isAgg98
  z28 := Try.sizeOf98
  v28 := Try.zeroValue98
def sortAR : Go.Shelf.Ren := { f := fun x => match x with | 5 => 91 | 8 => 119 | 7 => 118 | 19 => 144 | 20 => 145 | 10 => 135 | 11 => 136 | 12 => 137 | 13 => 138 | 14 => 139 | 15 => 140 | 16 => 141 | 17 => 142 | 18 => 143 | 30 => 157 | 31 => 158 | 32 => 159 | 33 => 160 | 34 => 161 | 35 => 162 | 40 => 164 | n => n, t := fun x => match x with | 23 => 23 | 25 => 3 | 3 => 3 | 32 => 119 | 22 => 23 | 0 => 0 | 44 => 144 | 46 => 54 | 4 => 4 | 36 => 186 | 35 => 185 | 41 => 70 | 5 => 5 | 9 => 9 | 53 => 203 | 57 => 206 | 63 => 210 | 64 => 211 | n => n, g := fun x => match x with | n => n }
theorem sortA : SlLaysM.n5 Try.prog sortAR where
  mixed := by kernel_rfl
  f5 := ⟨"slices.Sort[[]int,int]", of_decide_eq_true (by kernel_rfl), Try.func91.trans (congrArg some (by kernel_rfl))⟩
  f7 := ⟨"slices.pdqsortOrdered[int]", of_decide_eq_true (by kernel_rfl), Try.func118.trans (congrArg some (by kernel_rfl))⟩
  f10 := ⟨"slices.insertionSortOrdered[int]", of_decide_eq_true (by kernel_rfl), Try.func135.trans (congrArg some (by kernel_rfl))⟩
  f11 := ⟨"slices.heapSortOrdered[int]", of_decide_eq_true (by kernel_rfl), Try.func136.trans (congrArg some (by kernel_rfl))⟩
  f12 := ⟨"slices.breakPatternsOrdered[int]", of_decide_eq_true (by kernel_rfl), Try.func137.trans (congrArg some (by kernel_rfl))⟩
  f13 := ⟨"slices.choosePivotOrdered[int]", of_decide_eq_true (by kernel_rfl), Try.func138.trans (congrArg some (by kernel_rfl))⟩
  f14 := ⟨"slices.reverseRangeOrdered[int]", of_decide_eq_true (by kernel_rfl), Try.func139.trans (congrArg some (by kernel_rfl))⟩
  f15 := ⟨"slices.partialInsertionSortOrdered[int]", of_decide_eq_true (by kernel_rfl), Try.func140.trans (congrArg some (by kernel_rfl))⟩
  f16 := ⟨"cmp.Less[int]", of_decide_eq_true (by kernel_rfl), Try.func141.trans (congrArg some (by kernel_rfl))⟩
  f17 := ⟨"slices.partitionEqualOrdered[int]", of_decide_eq_true (by kernel_rfl), Try.func142.trans (congrArg some (by kernel_rfl))⟩
  f18 := ⟨"slices.partitionOrdered[int]", of_decide_eq_true (by kernel_rfl), Try.func143.trans (congrArg some (by kernel_rfl))⟩
  f30 := ⟨"slices.siftDownOrdered[int]", of_decide_eq_true (by kernel_rfl), Try.func157.trans (congrArg some (by kernel_rfl))⟩
  f33 := ⟨"slices.medianAdjacentOrdered[int]", of_decide_eq_true (by kernel_rfl), Try.func160.trans (congrArg some (by kernel_rfl))⟩
  f34 := ⟨"slices.medianOrdered[int]", of_decide_eq_true (by kernel_rfl), Try.func161.trans (congrArg some (by kernel_rfl))⟩
  f35 := ⟨"cmp.isNaN[int]", of_decide_eq_true (by kernel_rfl), Try.func162.trans (congrArg some (by kernel_rfl))⟩
  f40 := ⟨"slices.order2Ordered[int]", of_decide_eq_true (by kernel_rfl), Try.func164.trans (congrArg some (by kernel_rfl))⟩
  f8 := Try.func119.trans (congrArg some (by kernel_rfl))
  f19 := Try.func144.trans (congrArg some (by kernel_rfl))
  f20 := Try.func145.trans (congrArg some (by kernel_rfl))
  f31 := Try.func158.trans (congrArg some (by kernel_rfl))
  f32 := Try.func159.trans (congrArg some (by kernel_rfl))
  t0 := Try.underlying0
  a0 := Try.isAgg0
  z0 := Try.sizeOf0
  v0 := Try.zeroValue0
  t3 := Try.underlying3
  a3 := Try.isAgg3
  z3 := Try.sizeOf3
  v3 := Try.zeroValue3
  t4 := Try.underlying4
  a4 := Try.isAgg4
  z4 := Try.sizeOf4
  v4 := Try.zeroValue4
  t5 := Try.underlying5
  a5 := Try.isAgg5
  z5 := Try.sizeOf5
  v5 := Try.zeroValue5
  t9 := Try.underlying9
  a9 := Try.isAgg9
  z9 := Try.sizeOf9
  v9 := Try.zeroValue9
  t22 := Try.underlying23
  a22 := Try.isAgg23
  z22 := Try.sizeOf23
  v22 := Try.zeroValue23
  t23 := Try.underlying23
  a23 := Try.isAgg23
  z23 := Try.sizeOf23
  v23 := Try.zeroValue23
  t25 := Try.underlying3
  a25 := Try.isAgg3
  z25 := Try.sizeOf3
  v25 := Try.zeroValue3
  t32 := Try.underlying119
  a32 := Try.isAgg119
  z32 := Try.sizeOf119
  v32 := Try.zeroValue119
  t35 := Try.underlying185
  a35 := Try.isAgg185
  z35 := Try.sizeOf185
  v35 := Try.zeroValue185
  t36 := Try.underlying186
  a36 := Try.isAgg186
  z36 := Try.sizeOf186
  v36 := Try.zeroValue186
  t41 := Try.underlying70
  a41 := Try.isAgg70
  z41 := Try.sizeOf70
  v41 := Try.zeroValue70
  t44 := Try.underlying144
  a44 := Try.isAgg144
  z44 := Try.sizeOf144
  v44 := Try.zeroValue144
  t46 := Try.underlying54
  a46 := Try.isAgg54
  z46 := Try.sizeOf54
  v46 := Try.zeroValue54
  t53 := Try.underlying203
  a53 := Try.isAgg203
  z53 := Try.sizeOf203
  v53 := Try.zeroValue203
  t57 := Try.underlying206
  a57 := Try.isAgg206
  z57 := Try.sizeOf206
  v57 := Try.zeroValue206
  t63 := Try.underlying210
  a63 := Try.isAgg210
  z63 := Try.sizeOf210
  v63 := Try.zeroValue210
  t64 := Try.underlying211
  a64 := Try.isAgg211
  z64 := Try.sizeOf211
  v64 := Try.zeroValue211
end Go.Proofs.Ytmjmpmmonelmmaa.dsk
end

section
open Go Go.Proofs Go.RowKit Go.Maps Go.Sort Go.Shelf
namespace Go.Proofs.Ytmjmpmmonelmmaa.dsk
set_option linter.unusedVariables false
theorem sortsA (m : Nat) : AnyZI.SortsIn Try.prog sortedAR Fence.wide m :=
  ⟨fun blk off cap ss W hH hblk hsz => callsIn_wide.2 (AnyM.slices_Sort_int sortA blk off cap ss W hH hblk hsz),
   fun p cap W => callsIn_wide.2 (AnyM.slices_Sort_int_none sortA p cap W)⟩
set_option maxRecDepth 100000 in
set_option maxHeartbeats 1000000 in
theorem there_k (n g o b : Nat) (w : World) (hc : w.cell? ⟨g, o + 1, none⟩ = some (.map (some b))) :
    CallsIn Fence.wide n Try.prog 52 #[.pointer (some ⟨g, o, none⟩)] w fun e w' => e = .returned (.bool true) ∧ w' = w := by
  have hb : Sem.run Try.prog (binOp BinOp.neq 46 (Value.map (some b)) (Value.map none)) w = .ok (.bool true) w := run_neq_map_nil w 46 _ _ (some b) Try.underlying46
  refine callsIn_of_wp Try.func52 rfl trivial ?_ rfl
  simp only [Try.ntmps52, List.size_toArray, List.length_cons, List.length_nil, Nat.reduceAdd, Nat.reduceSub, Array.replicate_succ, Array.replicate_zero, List.push_toArray, List.append_toArray, List.nil_append, List.cons_append]
  gi_wp2
  go_ret
  exact ⟨rfl, rfl⟩
set_option maxRecDepth 100000 in
set_option maxHeartbeats 1000000 in
theorem open_k {H : Type} (g o b nn : Nat) (D0 : DataW H) (R : Value → Option (DataW H × List MemPlace)) (w : World) (hc : w.cell? ⟨g, o + 1, none⟩ = some (.map (some b))) (hown : w.ownsMap Try.prog 3 R b nn D0) (hmax : Maps.size D0 ≤ maxLen) (hbytes : Maps.size D0 * 8 ≤ 140737488355328) :
    CallsIn Fence.wide 6 Try.prog 16 #[.pointer (some ⟨g, o, none⟩)] w fun e w' => ∃ (v : Value) (ss : List Int), e = .returned v ∧ ss.Perm (intKeys D0) ∧
      w'.ownsRow w.heap.size 3 1 v ss.length ((ss.mergeSort (fun x y => decide (x ≤ y))).map encZ) ∧ (v = .slice none 0 0 ↔ ss = []) ∧ Below w.heap.size w w' := by
  have hbl := hown.lt
  have hseq : SeqGives Fence.wide 2 Try.prog 92 #[.pointer (some ⟨w.heap.size, 0, none⟩)] encZ (fun ss => ss.Perm (intKeys D0)) (Maps.size D0) (w.alloc (.cells #[.map (some b)] 46)) :=
    AnyZI.keys_gives (ρ := keysAR) { keysA with } Fence.wide _ trivial rfl (by omega) w.heap.size b nn D0 _ (by simp) (by simp) (by
      obtain ⟨es, clock, hb, Ft, hs, hD⟩ := hown
      exact ⟨es, clock, (Below.heap_alloc _ _ b hbl).trans hb, Ft, hs, hD⟩)
  have cK : ∀ mb W, CallsIn Fence.wide 5 Try.prog 54 #[.map mb] W fun e w' => e = .returned (.func (.func 92) #[] #[.pointer (some ⟨W.heap.size, 0, none⟩)]) ∧ w' = W.alloc (.cells #[.map mb] 46) := fun mb W => AnyZI.keys_in keysA Fence.wide 5 trivial rfl mb W
  have cS := AnyZI.sorted_in sortedA Fence.wide 5 trivial trivial trivial trivial rfl (by omega) (sortsA _) (enters_of Try.func91 (by kernel_rfl) rfl) 92 #[.pointer (some ⟨w.heap.size, 0, none⟩)] trivial (enters_of Try.func92 (by kernel_rfl) rfl) _ _ hmax hbytes _ hseq
  change CallsIn _ _ Try.prog 53 _ _ _ at cS
  have cT := there_k 5 g o b w hc
  have hf1 : Fence.wide.fn 52 := trivial
  have hf2 : Fence.wide.fn 54 := trivial
  have hf3 : Fence.wide.fn 53 := trivial
  refine callsIn_of_wp Try.func16 rfl trivial ?_ rfl
  simp only [Try.ntmps16, List.size_toArray, List.length_cons, List.length_nil, Nat.reduceAdd, Nat.reduceSub, Array.replicate_succ, Array.replicate_zero, List.push_toArray, List.append_toArray, List.nil_append, List.cons_append]
  gi_wp2_with (first
    | (gi_at_call 52; refine cT.mono ?_; rintro e w' ⟨rfl, rfl⟩)
    | (gi_at_call 54; refine (cK _ _).mono ?_; rintro e w' ⟨rfl, rfl⟩)
    | (gi_at_call 53; refine cS.mono ?_; rintro e w' ⟨v, ss, rfl, hS, hrow, hnil, hb⟩))
  go_ret
  exact ⟨v, ss, rfl, hS, ownsRow_base_a hrow (by simp), hnil, ((Below.refl _ _).alloc (Nat.le_refl _) _).trans (hb.mono (by simp))⟩
end Go.Proofs.Ytmjmpmmonelmmaa.dsk
end

section
namespace Go.Ax
open Go.RowKit
theorem SR.adopt {B : Prot} {w0 : World} {ι : Ren} {st : ASt} {w w' : World} (h : SR B w0 ι st w) (hk : Keeps (fun k => k < w.heap.size) w w') (a : AO) (o : Obj) (g tot : Nat) (hg : w.heap.size ≤ g) (ho' : w'.heap[g]? = some o)
    (ho : OR ι ⟨g, 0, tot⟩ a o) (hown : a.own = true) : SR B w0 (ι.ext st.next ⟨g, 0, tot⟩) (st.add a) w' ∧ ι.le (ι.ext st.next ⟨g, 0, tot⟩) ∧ (ι.ext st.next ⟨g, 0, tot⟩) st.next = some ⟨g, 0, tot⟩ := by
  have hle := Ren.le_ext (L := ⟨g, 0, tot⟩) h.next_none
  have hat : (ι.ext st.next ⟨g, 0, tot⟩) st.next = some ⟨g, 0, tot⟩ := by simp [Ren.ext]
  have hget : ∀ i, (st.add a).h.get i = if i = st.next then some a else st.h.get i := fun i => T.get_set _ _ _ _ _
  have hL := h.later hk
  refine ⟨⟨hL.below, hL.base, ?_, ?_, ?_, ?_, ?_, fun i hi => ⟨Nat.lt_succ_of_lt (h.res i hi).1, (Ren.ext_other (Nat.ne_of_lt (h.res i hi).1)).trans (h.res i hi).2⟩, h.glob⟩, hle, hat⟩
  · intro i a' hi hd
    rw [hget] at hi
    by_cases e : i = st.next
    · subst e
      simp at hi; subst hi
      exact ⟨_, o, hat, ho', ho.mono hle⟩
    · simp only [e, if_false] at hi
      obtain ⟨L, o', h1, h2, h3⟩ := hL.obj i a' hi hd
      exact ⟨L, o', hle _ _ h1, h2, h3.mono hle⟩
  · intro i a' L hi ho' hL
    rw [hget] at hi
    by_cases e : i = st.next
    · subst e
      rw [hat] at hL; cases hL
      refine ⟨fun hk => Nat.lt_irrefl _ (Nat.lt_of_lt_of_le (h.base _ hk) hg), fun j a'' L' hj hd hL' hb => ?_⟩
      rw [hget] at hj
      by_cases e' : j = st.next
      · exact e'
      · simp only [e', if_false] at hj
        simp only [Ren.ext, e', if_false] at hL'
        have := obj_lt (h := h) hj hd hL'
        simp at hb; omega
    · simp only [e, if_false] at hi
      simp only [Ren.ext, e, if_false] at hL
      obtain ⟨h1, h2⟩ := h.own i a' L hi ho' hL
      have hnd : a' ≠ .dead := by intro e; subst e; simp [AO.own] at ho'
      refine ⟨h1, fun j a'' L' hj hd hL' hb => ?_⟩
      rw [hget] at hj
      by_cases e' : j = st.next
      · subst e'
        rw [hat] at hL'; cases hL'
        have := obj_lt (h := h) hi hnd hL
        simp at hb; omega
      · simp only [e', if_false] at hj
        simp only [Ren.ext, e', if_false] at hL'
        exact h2 j a'' L' hj hd hL' hb
  · intro i L hL
    show i < st.next + 1
    by_cases e : i = st.next
    · omega
    · simp only [Ren.ext, e, if_false] at hL
      have := h.dom i L hL; omega
  · intro i a' hi
    show i < st.next + 1
    rw [hget] at hi
    by_cases e : i = st.next
    · omega
    · simp only [e, if_false] at hi
      have := h.hdom i a' hi; omega
  · intro i a' L hi hd hno hL
    rw [hget] at hi
    by_cases e : i = st.next
    · subst e
      simp only [if_true, Option.some.injEq] at hi; subst hi
      rw [hown] at hno; cases hno
    · simp only [e, if_false] at hi
      simp only [Ren.ext, e, if_false] at hL
      exact h.ro i a' L hi hd hno hL
end Go.Ax
open Go Go.Ax Go.Proofs Go.RowKit Go.Maps Go.WideElems
namespace Go.Proofs.Ytmjmpmmonelmmaa.dsk
set_option linter.unusedVariables false
noncomputable def openZ (es : List En) : List Int := (es.map fun e => Int.ofNat e.k).mergeSort fun x y => decide (x ≤ y)
noncomputable def openK (es : List En) : List Nat := (openZ es).map Int.toNat
theorem openZ_perm (es : List En) : (openZ es).Perm (es.map fun e => Int.ofNat e.k) := List.mergeSort_perm _ _
theorem openK_perm (es : List En) : (openK es).Perm (es.map (·.k)) := by
  have := (openZ_perm es).map Int.toNat
  rw [List.map_map] at this
  exact this
theorem openZ_eq (es : List En) : openZ es = (openK es).map Int.ofNat := by
  unfold openK
  rw [List.map_map]
  refine (List.map_id _).symm.trans (List.map_congr_left fun x hx => ?_)
  obtain ⟨e, _, rfl⟩ := List.mem_map.1 ((openZ_perm es).mem_iff.1 hx)
  rfl
theorem openK_mem {es : List En} {j : Nat} : j ∈ openK es ↔ ∃ e, e ∈ es ∧ e.k = j := by rw [(openK_perm es).mem_iff, List.mem_map]
theorem openK_nodup {es : List En} (h : (es.map (·.k)).Nodup) : (openK es).Nodup := (openK_perm es).nodup_iff.2 h
theorem openK_len (es : List En) : (openK es).length = es.length := by rw [(openK_perm es).length_eq, List.length_map]
open Classical in
noncomputable def openV (S : ASt) (es : List En) : AV := if es = [] then .slice none 0 (.known 0) else .slice (some (S.next, 0)) (openK es).length (.atl (openK es).length)
open Classical in
noncomputable def openS (S : ASt) (es : List En) : ASt := if es = [] then S else S.add (.cells ((openK es).map nI) true)
theorem short_of : ∀ (n : Nat) (l : List Nat), l.Nodup → (∀ x, x ∈ l → x < n) → l.length ≤ n
  | 0, [], _, _ => Nat.le_refl _
  | 0, x :: _, _, h => absurd (h x List.mem_cons_self) (by omega)
  | n + 1, l, hn, h => by
    have h1 := short_of n (l.erase n) (hn.erase n) fun x hx => by
      have h2 := (hn.mem_erase_iff).1 hx
      have := h x h2.2
      have := h2.1
      omega
    have h3 : l.length ≤ (l.erase n).length + 1 := by
      rw [List.length_erase]
      split <;> omega
    omega
theorem ents_short {S : ASt} {d l m ck : Nat} {las : List (List Nat)} {es : List En} (hD : Disk S d l m las es ck) : es.length ≤ las.length := by
  have h1 := short_of las.length (es.map (·.k)) hD.keys fun j hj => by
    obtain ⟨e, he, rfl⟩ := List.mem_map.1 hj
    exact (hD.row e he).2.2.1
  simpa using h1
noncomputable def rdU (_ : Value) : Option (DataW Unit × List MemPlace) := some (.nil, [])
theorem open_at {S : ASt} {d l m ck : Nat} {las : List (List Nat)} {es : List En} (hD : Disk S d l m las es ck) : Call1 Try.prog 16 [pO d] S (openV S es, openS S es) := by
  intro B w0 ι w args' hsr hv
  refine ⟨(enters_of Try.func16 (by kernel_rfl) rfl : Enters Try.prog 16) _ _, ?_⟩
  have hsz := hv.size
  match args', hsz, hv with
  | ⟨[a0]⟩, _, hv =>
  have h0 : VR ι (pO d) a0 := hv.at_ 0 _ _ rfl rfl
  cases h0 with
  | ptr _ _ L hL =>
  obtain ⟨v1, c1, r1, _⟩ := hsr.cell (o := 1) (v := .map (some m)) hD.hd rfl hL
  cases r1 with
  | map _ L2 hL2 =>
  obtain ⟨L2', ob, g1, g2, g3⟩ := hsr.obj m _ hD.hm (by simp)
  rw [hL2] at g1; cases g1
  obtain ⟨es', rfl, hlen, hent⟩ := g3
  have hln : es.length < 100000 := Nat.lt_of_le_of_lt (ents_short hD) hD.most
  have hsize : es'.size = es.length := by rw [← hlen]; unfold ents; simp
  have hkey : ∀ (i : Nat) e x, es[i]? = some e → es'[i]? = some x → x.key = .int .i64 (Int.ofNat e.k) ∧ x.born = e.b := fun i e x h1 h2 => by
    obtain ⟨q1, _, q3⟩ := hent i (entO e) x (by unfold ents; rw [List.getElem?_map, h1]; rfl) h2
    refine ⟨?_, q3.symm⟩
    have q4 : VR ι (.int .i64 (.ofNat e.k)) x.key := q1
    generalize x.key = y at q4
    cases q4; rfl
  have hks : es'.toList.map (·.key) = es.map fun e => .int .i64 (Int.ofNat e.k) := by
    apply List.ext_getElem
    · simp [hsize]
    · intro i h1 h2
      simp at h1 h2
      simp only [List.getElem_map]
      exact (hkey i es[i] es'[i] (by simp [h2]) (by simp [h1])).1
  have hbs : es'.toList.map (·.born) = es.map (·.b) := by
    apply List.ext_getElem
    · simp [hsize]
    · intro i h1 h2
      simp at h1 h2
      simp only [List.getElem_map]
      exact (hkey i es[i] es'[i] (by simp [h2]) (by simp [h1])).2
  have hko : ∀ x, x ∈ es'.toList → ∃ e, e ∈ es ∧ x.key = .int .i64 (Int.ofNat e.k) := fun x hx => by
    have : x.key ∈ es'.toList.map (·.key) := List.mem_map_of_mem hx
    rw [hks] at this
    obtain ⟨e, he, h⟩ := List.mem_map.1 this
    exact ⟨e, he, h.symm⟩
  have hkO : ∀ e, e ∈ es → keyOf Try.prog 3 (.int .i64 (Int.ofNat e.k)) = some (.int .i64 (Int.ofNat e.k)) := fun e he => by
    have h1 := (hD.row e he).2.2.1
    have h2 := hD.most
    have : (Lit.int .i64 (Int.ofNat e.k)).wf = true := by
      unfold Lit.wf
      rw [Bool.and_eq_true, decide_eq_true_eq, decide_eq_true_eq]
      constructor
      · show (-9223372036854775808 : Int) ≤ _
        simp only [Int.ofNat_eq_natCast]
        omega
      · show _ ≤ (9223372036854775807 : Int)
        simp only [Int.ofNat_eq_natCast]
        omega
    unfold keyOf
    rw [Try.underlying3]
    simp only [mapKey, Try.underlying3, this, and_self, if_true]
  have hfit : Fit Try.prog 3 rdU es' ck := by
    refine ⟨by rw [hsize]; unfold maxLen; omega, ⟨fun x hx => ?_, ?_, ?_⟩, fun x hx => ?_⟩
    · have : x.born ∈ es'.toList.map (·.born) := List.mem_map_of_mem hx
      rw [hbs] at this
      obtain ⟨e, he, h⟩ := List.mem_map.1 this
      rw [← h]
      exact (hD.row e he).2.2.2.1
    · rw [hbs]; exact hD.borns
    · rw [hks]
      have := hD.keys
      rw [List.nodup_iff_pairwise_ne, List.pairwise_map] at this ⊢
      exact this.imp fun h e => h (by simp at e; omega)
    · obtain ⟨e, he, h⟩ := hko x hx
      exact ⟨_, by unfold rd rdU; rw [h, hkO e he]; rfl⟩
  have hown : w.ownsMap Try.prog 3 rdU L2.b es'.size (.map ((es'.toList.map (rg Try.prog 3 rdU)).foldr DataW.insert [])) := ⟨es', ck, g2, hfit, Nat.le_refl _, rfl⟩
  have hperm : (intKeys (.map ((es'.toList.map (rg Try.prog 3 rdU)).foldr DataW.insert []) : DataW Unit)).Perm (es.map fun e => Int.ofNat e.k) := by
    have h1 : (((es'.toList.map (rg Try.prog 3 rdU)).foldr DataW.insert []).map fun p => _root_.Go.intOf p.1).Perm ((es'.toList.map (rg Try.prog 3 rdU)).map fun p => _root_.Go.intOf p.1) := (WideShapes.sorted_perm _).map _
    refine h1.trans ?_
    rw [List.map_map]
    have h2 : es'.toList.map ((fun p => _root_.Go.intOf p.1) ∘ rg Try.prog 3 rdU) = (es'.toList.map (·.key)).map fun v => match v with | .int _ z => z | _ => 0 := by
      rw [List.map_map]
      refine List.map_congr_left fun x hx => ?_
      obtain ⟨e, he, h⟩ := hko x hx
      have hr : rg Try.prog 3 rdU x = (.int .i64 (Int.ofNat e.k), .nil) := by
        unfold rg rd rdU
        rw [h, hkO e he]
        simp only [Option.bind_some, Option.map_some, Option.getD_some]
      simp only [Function.comp_apply, hr, h, _root_.Go.intOf]
    rw [h2, hks, List.map_map]
    exact List.Perm.refl _
  have hms : Maps.size (.map ((es'.toList.map (rg Try.prog 3 rdU)).foldr DataW.insert []) : DataW Unit) = es.length := by
    have := (hperm).length_eq
    rw [List.length_map] at this
    unfold intKeys at this
    rw [List.length_map] at this
    exact this
  refine callsIn_wide.2 (callsIn_wide.1 ((open_k L.b (L.p + 0) L2.b es'.size _ rdU w (by simpa using c1) hown (by rw [hms]; unfold maxLen; omega) (by rw [hms]; omega)).mono ?_))
  rintro e w' ⟨v, ss, rfl, hp, hrow, hnil, hb⟩
  have hsort : (ss.mergeSort fun x y => decide (x ≤ y)) = openZ es := mergeSort_of_perm_i (hp.trans hperm)
  have hK : Keeps (fun k => k < w.heap.size) w w' := ⟨hb.os, hb.tape, hb.output, hb.size, hb.block⟩
  rw [hsort] at hrow
  have hslen : ss.length = (openK es).length := by rw [openK_len, (hp.trans hperm).length_eq, List.length_map]
  by_cases he : es = []
  · have hss : ss = [] := by
      have := (hp.trans hperm).length_eq
      rw [he] at this
      exact List.eq_nil_of_length_eq_zero this
    rw [hnil.2 hss]
    refine ⟨_, ι, rfl, ι.le_refl, ?_, ?_⟩
    · show SR B w0 ι (openS S es) w'
      unfold openS
      rw [if_pos he]; exact hsr.later hK
    · show VR ι (openV S es) _
      unfold openV
      rw [if_pos he]; exact .sliceN
  · obtain ⟨hxl, ⟨h1, h2⟩ | ⟨g, cap, cur, rfl, hge, hgo, hcap, hcm, hcs, htk⟩⟩ := hrow
    · exfalso
      rw [hslen, openK_len] at h2
      exact he (List.eq_nil_of_length_eq_zero h2)
    rw [Nat.mul_one] at htk hcs
    have hcl : (openK es).length ≤ cur.size := by omega
    have hcu : ∀ k, k < (openK es).length → cur[k]? = some (.int .i64 (Int.ofNat ((openK es).getD k 0))) := fun k hk => by
      have : (cur.toList.take ss.length)[k]? = ((openZ es).map encZ)[k]? := by rw [htk]
      rw [List.getElem?_take_of_lt (by omega), openZ_eq, List.map_map, List.getElem?_map] at this
      rw [← Array.getElem?_toList, this, List.getD_eq_getElem?_getD, List.getElem?_eq_getElem hk]; rfl
    obtain ⟨q1, q2, q3⟩ := hsr.adopt hK (.cells ((openK es).map nI) true) _ g cur.size hge hgo ⟨cur, _, 0, 0, rfl, rfl, by simpa using hcl, fun v hv => by
      obtain ⟨x, _, rfl⟩ := List.mem_map.1 hv
      rfl, fun k v v' h1 h2 => by
        rw [List.getElem?_map, Option.map_eq_some_iff] at h1
        obtain ⟨x, hx, rfl⟩ := h1
        have hk := (List.getElem?_eq_some_iff.1 hx).1
        rw [Nat.zero_add, hcu k hk, List.getD_eq_getElem?_getD, hx] at h2
        cases h2
        exact .int _ _, fun _ => .inl rfl⟩ rfl
    refine ⟨_, _, rfl, q2, ?_, ?_⟩
    · show SR B w0 _ (openS S es) w'
      unfold openS
      rw [if_neg he]; exact q1
    · show VR _ (openV S es) _
      unfold openV
      rw [if_neg he, ← hslen]
      exact .slice S.next 0 ss.length cap ⟨g, 0, cur.size⟩ _ q3 hcap hcap
end Go.Proofs.Ytmjmpmmonelmmaa.dsk
end

section
open Go Go.Ax Go.Proofs
namespace Go.Proofs.Ytmjmpmmonelmmaa.dsk
set_option linter.unusedVariables false
theorem st_3 {S : ASt} {d l m n : Nat} (h : S.h.get d = some (dK l m n)) : aStore EK 4 (.ptr (some (d, 3))) (.bool false) S = some (S.put d (dK l m n)) := store_at (j := 3) on_b h (by show 3 < 6; decide) rfl
theorem on_i : oneT EK 3 = true := by kernel_rfl
theorem st_2 {S : ASt} {d l m n : Nat} (h : S.h.get d = some (dK l m n)) : aStore EK 3 (.ptr (some (d, 2))) (nI 0) S = some (S.put d (dK l m n)) := store_at (j := 2) on_i h (by show 2 < 6; decide) rfl
theorem len_nil (S : ASt) : aBuiltinM EK .len [23] [.slice none 0 (.known 0)] S = some (.int .i64 (.ofNat 0), S) := by kernel_rfl
theorem canC {d n i : Nat} {P W : AV} : canF [0] (frC d P W n i) = xFr [(0, pO d)] 77 := by kernel_rfl
noncomputable def tCy (d : Nat) (S : ASt) : Tr (Exit × AFr × ASt) := (TM EK noSum flK fl0 60).ex fl0 none (dropC 3 cC) (xFr [(0, pO d)] 77) S
theorem vcCy (d : Nat) (S : ASt) (Q : Exit × Option (AV × ASt) → Prop) :
  (Q (Exit.ret, some (AV.int IntKind.i64 (Int.ofNat 0), S))) =
  (tCy d S).allY (fun r => Q (r.1, leaveA EK Try.f15 r.2.1 r.2.2)) (An.nil) := by kernel_rfl
open Classical in
noncomputable def crashed (las : List (List Nat)) (es : List En) (zs : List Int) : List (List Nat) := (List.range las.length).map fun j => if j ∈ openK es then crB las es (openK es) zs j else las.getD j []
theorem crashed_len {las : List (List Nat)} {es : List En} {zs : List Int} : (crashed las es zs).length = las.length := by unfold crashed; simp
open Classical in
theorem crashed_get {las : List (List Nat)} {es : List En} {zs : List Int} {j : Nat} (hj : j < las.length) : (crashed las es zs).getD j [] = if j ∈ openK es then crB las es (openK es) zs j else las.getD j [] := by
  unfold crashed
  rw [List.getD_eq_getElem?_getD, List.getElem?_map, List.getElem?_range hj]; rfl
theorem ne_dl {S : ASt} {d l m ck : Nat} {las : List (List Nat)} {es : List En} (hD : Disk S d l m las es ck) (hn : 0 < las.length) : d ≠ l := ne_get hD.hd hD.hl (fun h => by
    unfold dK at h
    injection h with h
    have hne : (rowB las)[0]? = some (cellU ((las.getD 0 []).getD 0 0)) := by
      cases hc0 : las with
      | nil => rw [hc0] at hn; simp at hn
      | cons x xs =>
        show (bl x ++ rowB xs)[0]? = _
        rw [List.getElem?_append_left (by rw [bl_len]; decide), bl_get (by decide)]; rfl
    rw [← h] at hne
    cases hne)
section
variable {S0 : ASt} {d l m ck pi : Nat} {las : List (List Nat)} {es : List En} {zs : List Int} {P : AV} {o : AO}
open Classical in
theorem crash_at (hD : Disk S0 d l m las es ck) (ht : Tidy S0) (hn : 0 < las.length) (hE : ∀ e, e ∈ es → e.vs.length < 1000000)
    (hP : SlArg EK 23 1 pi zs.length P o (zs.map (AV.int .i64 ·))) (hpo : 0 < zs.length → S0.h.get pi = some o ∧ pi < S0.next ∧ pi ≠ l ∧ pi ≠ m) :
    ∃ S', Call1 Try.prog 15 [pO d, P] S0 (nI 0, S') ∧ Disk S' d l m (crashed las es zs) [] ck ∧ Tidy S' ∧ S0.next ≤ S'.next ∧ ∀ k, k < S0.next → k ≠ l → k ≠ m → S'.h.get k = S0.h.get k := by
  have hdl := ht.lt hD.hd
  have hll := ht.lt hD.hl
  have hml := ht.lt hD.hm
  have hdm : d ≠ m := ne_get hD.hd hD.hm (by simp [dK])
  have hlm : l ≠ m := ne_get hD.hl hD.hm (by simp)
  have hdle : d ≠ l := ne_dl hD hn
  have hkl : (openK es).length < 1000000 := by
    rw [openK_len]
    have := ents_short hD
    have := hD.most
    omega
  obtain ⟨W, eW⟩ : ∃ X, X = openV S0 es := ⟨_, rfl⟩
  obtain ⟨S1, e1⟩ : ∃ X, X = openS S0 es := ⟨_, rfl⟩
  have cO : Call1 Try.prog 16 [pO d] S0 (W, S1) := by rw [eW, e1]; exact open_at hD
  have hW : W = .slice none 0 (.known 0) ∧ openK es = [] ∨ ∃ s, W = .slice (some (s, 0)) (openK es).length (.atl (openK es).length) := by
    rw [eW]
    unfold openV
    split
    · rename_i h
      exact .inl ⟨rfl, List.eq_nil_of_length_eq_zero (by rw [openK_len, h]; rfl)⟩
    · exact .inr ⟨_, rfl⟩
  have hlen : aBuiltinM EK .len [23] [W] S1 = some (.int .i64 (.ofNat (openK es).length), S1) := by
    rcases hW with ⟨h1, h2⟩ | ⟨s, h⟩
    · rw [h1, h2]; exact len_nil S1
    · rw [h]; exact (SlArg.row (i := s) (cs := []) sl_i).len S1
  have n1 : S0.next ≤ S1.next ∧ S1.next ≤ S0.next + 1 := by
    rw [e1]
    unfold openS
    split
    · omega
    · rw [add_next]; omega
  have t1 : Tidy S1 := by
    rw [e1]
    unfold openS
    split
    · exact ht
    · exact ht.add
  have g1 : ∀ k, k < S0.next → S1.h.get k = S0.h.get k := fun k hk => by
    rw [e1]
    unfold openS
    split
    · rfl
    · rw [add_ne (by omega)]
  have hrow : ∀ s, W = .slice (some (s, 0)) (openK es).length (.atl (openK es).length) → S0.next ≤ s ∧ ∃ rw, S1.h.get s = some (.cells ((openK es).map nI) rw) := fun s hs => by
    rw [eW] at hs
    rw [e1]
    unfold openV at hs
    unfold openS
    split at hs
    · cases hs
    · rename_i h
      cases hs
      rw [if_neg h]
      exact ⟨Nat.le_refl _, true, add_at⟩
  have I0 : CI S0 d l m ck las es (openK es) zs W 0 las es S1 := ⟨hD.keep ht g1, hrow, t1, rfl, fun e => ⟨fun h => ⟨h, by rw [List.drop_zero]; exact openK_mem.2 ⟨e, h, rfl⟩⟩, fun h => h.1⟩, (fun j _ => by rw [List.take_zero, if_neg (by simp)]), (fun k hk _ _ => g1 k hk), by omega⟩
  obtain ⟨Sl, eL⟩ : ∃ X, X = ASt.mk ((S0.put l (.cells (rowB (crashed las es zs)) true)).put m (.map [] ck)).h (S0.next + 60 * ((openK es).length + es.length + 2)) := ⟨_, rfl⟩
  have gL : ∀ k, k ≠ l → k ≠ m → Sl.h.get k = S0.h.get k := fun k hk hk2 => by
    rw [eL]
    show ((S0.put l _).put m _).h.get k = _
    rw [put_ne hk2, put_ne hk]
  have aL : Sl.h.get l = some (.cells (rowB (crashed las es zs)) true) := by
    rw [eL]
    show ((S0.put l _).put m _).h.get l = _
    rw [put_ne hlm, put_at]
  have aM : Sl.h.get m = some (.map [] ck) := by
    rw [eL]
    show ((S0.put l _).put m _).h.get m = _
    rw [put_at]
  have nL : Sl.next = S0.next + 60 * ((openK es).length + es.length + 2) := by rw [eL]
  have tL : Tidy Sl := by rw [eL]; exact ((ht.put hll).put (by rw [put_next]; omega)).mk (by rw [put_next, put_next]; omega)
  have dL : Sl.h.get d = some (dK l m las.length) := by rw [gL d hdle hdm]; exact hD.hd
  obtain ⟨Sa, ea⟩ : ∃ X, X = Sl.put d (dK l m las.length) := ⟨_, rfl⟩
  obtain ⟨Sb, eb⟩ : ∃ X, X = Sa.put d (dK l m las.length) := ⟨_, rfl⟩
  obtain ⟨Sf, ef⟩ : ∃ X, X = Sb.put d (dK l m las.length) := ⟨_, rfl⟩
  have aa : Sa.h.get d = some (dK l m las.length) := by rw [ea]; exact put_at
  have ab : Sb.h.get d = some (dK l m las.length) := by rw [eb]; exact put_at
  have gF : ∀ k, Sf.h.get k = Sl.h.get k := fun k => by
    by_cases e : k = d
    · subst e; rw [ef, put_at, dL]
    · rw [ef, put_ne e, eb, put_ne e, ea, put_ne e]
  have nF : Sf.next = Sl.next := by rw [ef, eb, ea]; rfl
  have tF : Tidy Sf := by
    rw [ef, eb, ea]
    exact ((tL.put (by omega)).put (by rw [put_next]; omega)).put (by rw [put_next, put_next]; omega)
  refine ⟨Sf, ?_, ⟨by rw [gF, dL, crashed_len], by rw [gF, aL], by rw [gF, aM]; rfl, (fun e he => by cases he), List.nodup_nil, List.nodup_nil, by rw [crashed_len]; exact hD.most⟩, tF, by omega, fun k _ h1 h2 => by rw [gF, gL k h1 h2]⟩
  refine Call2.up ?_ (by omega) (fun i a hi hd => ?_) (by simp [nI, refsD])
  · refine Call2.of_trip EKok (fn := Try.f15) (c := cC) (by kernel_rfl) (by kernel_rfl) (by kernel_rfl) ?_
    refine Trip.preR EKok noSum_ok (k := 1) (kf := [0, 1]) (by kernel_rfl) (Q1 := fun q => q = (.normal, xFr [(0, pO d), (1, P)] 77, S0)) (Eq.mp (vcC1 d l m las.length P S0 (fun q => q = (.normal, xFr [(0, pO d), (1, P)] 77, S0)))
      ⟨ld_m hD.hd, rfl⟩) ?_ (fun q h1 h2 => absurd (congrArg Prod.fst h2) h1)
    rintro F' S' hq
    cases hq
    rw [shC2]
    refine Trip.seq (R := Stops S0.next .normal (xFr [(0, pO d)] 77) Sl) ?_ (fun fr' st' hq => ?_) (fun e fr' st' hne hq => absurd hq.1 hne)
    · rw [shC3]
      refine Trip.seq (R := Stops S0.next .normal (frC d P W (openK es).length 0) S1) ((Trip.runY EKok (sum := onlyC [16] (tabC [(16, [pO d], S0, (W, S1))])) (onlyC_ok (tabC_ok fun w hw => by
        simp only [List.mem_cons, List.not_mem_nil, or_false] at hw
        subst hw
        exact cO)) (Eq.mp (vcC3 (tabC [(16, [pO d], S0, (W, S1))]) d (openK es).length P W S0 S1 (fun r => r = (.normal, frC d P W (openK es).length 0, S1))) ⟨call_at (onlyC_at rfl (tabC_hd ..)), hlen, rfl⟩)).mono fun r hr => Stops.rawE hr) (fun fr' st' hq => Trip.less hq.2 ?_) (fun e fr' st' hne hq => absurd hq.1 hne)
      refine Trip.block (Trip.loop (fun μ fr st => ∃ i lasK esK, i ≤ (openK es).length ∧ μ = (openK es).length - i ∧ fr = frC d P W (openK es).length i ∧ CI S0 d l m ck las es (openK es) zs W i lasK esK st) ?_ ((openK es).length - 0) ⟨0, las, es, Nat.zero_le _, rfl, rfl, I0⟩)
      rintro μ F S ⟨i, lasK, esK, hi, rfl, rfl, hI⟩
      refine (roundC hE hD.keys (openK_nodup hD.keys) (fun j => openK_mem) hkl hP hpo hW hi hI).mono ?_
      rintro ⟨e, F', S'⟩ (⟨lasK', esK', S4, h1, h2, h3, h4⟩ | ⟨h1, h3, h4⟩)
      · simp only at h3
        subst h3
        exact ⟨_, _, _, by omega, h4, i + 1, lasK', esK', by omega, rfl, rfl, h2⟩
      · simp only at h3
        subst h3
        subst h1
        refine ⟨fun _ => ⟨rfl, Wk.trans h4 (Wk.trans (Wk.mem (fun k x hx => ?_) ?_) (canC ▸ Wk.canF S0.next [0] (frC d P W (openK es).length (openK es).length) Sl))⟩, fun h => absurd rfl h⟩
        · by_cases hk : k = l
          · subst hk
            rw [aL] at hx
            have : lasK = crashed las es zs := by
              apply List.ext_getElem
              · rw [crashed_len, hI.len]
              · intro j h5 h6
                have hj : j < las.length := by rw [← hI.len]; exact h5
                have v1 := hI.val j hj
                have v2 := crashed_get (es := es) (zs := zs) hj
                rw [List.take_length] at v1
                rw [← v2] at v1
                rw [List.getD_eq_getElem?_getD, List.getElem?_eq_getElem h5, List.getD_eq_getElem?_getD, List.getElem?_eq_getElem h6] at v1
                exact v1
            rw [← this] at hx
            rw [hI.dk.hl]; exact hx
          · by_cases hk2 : k = m
            · subst hk2
              rw [aM] at hx
              have : esK = [] := by
                apply List.eq_nil_iff_forall_not_mem.2
                intro e he
                have := ((hI.rest e).1 he).2
                rw [List.drop_length] at this
                cases this
              rw [hI.dk.hm, this]; exact hx
            · rw [gL k hk hk2] at hx
              rw [hI.fr k (ht.lt hx) hk hk2]; exact hx
        · have := hI.nx
          rw [nL]
          omega
    · refine Trip.less hq.2 ?_
      rw [shC4]
      refine Trip.seq (R := Stops S0.next .normal (xFr [(0, pO d)] 77) Sf) ((Trip.runY EKok noSum_ok (Eq.mp (vcC13 d l m las.length Sl Sa Sb Sf (fun r => r = (.normal, xFr [(0, pO d)] 77, Sf))) ⟨okS_of (by rw [ea]; exact st_3 dL), okS_of (by rw [eb]; exact st_4 aa), okS_of (by rw [ef]; exact st_2 ab), rfl⟩)).mono fun r hr => Stops.rawE hr) (fun fr' st' hq => ?_) (fun e fr' st' hne hq => absurd hq.1 hne)
      refine Trip.less hq.2 ((Trip.runY EKok noSum_ok (Eq.mp (vcCy d Sf (fun q => q = (.ret, some (nI 0, Sf)))) rfl)).mono fun r hr => ?_)
      exact ⟨.inr (congrArg Prod.fst hr), congrArg Prod.snd hr⟩
  · rw [gF] at hi
    by_cases h1 : i = m
    · subst h1
      rw [aM] at hi
      cases hi
      exact .inr ⟨.inr ⟨_, hD.hm, by simp⟩, fun e he => by cases he⟩
    · by_cases h2 : i = l
      · subst h2
        rw [aL] at hi
        cases hi
        refine .inr ⟨.inr ⟨_, hD.hl, by simp⟩, refsDs_all.2 fun v hv => ?_⟩
        unfold rowB at hv
        obtain ⟨x, _, hx⟩ := List.mem_flatMap.1 hv
        unfold bl at hx
        obtain ⟨y, _, rfl⟩ := List.mem_map.1 hx
        trivial
      · rw [gL i h2 h1] at hi
        exact .inl hi
end
end Go.Proofs.Ytmjmpmmonelmmaa.dsk
end
