/-
  OWN WORK, A PART: an abstract machine for the program's text that the kernel can run, and the proof that it is sound: what it answers is what the program answers; contracts of functions by it. No condition.
-/
import Derived.Test.YtlnohbilfogheaaMsB
section
open Go Go.Ax Go.Proofs.Ytlnohbilfogheaa Go.Proofs.Ytlnohbilfogheaa.rdr Go.Proofs.Ytlnohbilfogheaa.rrq
namespace Go.Proofs.Ytlnohbilfogheaa.mrd
set_option linter.unusedVariables false
inductive Sl where
  | no
  | cut (o : Nat) (bad : Bool) (n : Nat)
def tW (l : List Nat) : Sl → AV
  | .no => nilS
  | .cut o b n => mv 3 (cutW l o b n)
def tQ (l : List Nat) : Sl → AV
  | .no => nilS
  | .cut o b n => mv 0 (cutQ l o b n)
structure Mg where
  k : Int
  nd : Int
  bl : Int
  ro : Int
  sa : Int
  cu : Int
  ba : Int
  h0 : Int
  h1 : Int
  cr : Bool
  se : Int
  tb : Sl
  nu : Int
  bk : Int
  d : Nat → Nat
  dg : Sl
  ys : Bool
def mW (l : List Nat) (m : Mg) : List AV := msgL m.k m.nd m.bl m.ro m.sa m.cu m.ba m.h0 m.h1 m.cr m.se (tW l m.tb) m.nu m.bk m.d (tW l m.dg) m.ys
def mQ (l : List Nat) (m : Mg) : List AV := msgL m.k m.nd m.bl m.ro m.sa m.cu m.ba m.h0 m.h1 m.cr m.se (tQ l m.tb) m.nu m.bk m.d (tQ l m.dg) m.ys
structure Sc where
  o : Nat
  bad : Bool
  m : Mg
def stepL (l : List Nat) (S : Sc) : Sc :=
  let o1 := toO l S.o S.bad 8
  let b1 := toB l S.o S.bad 8
  let o2 := toO l o1 b1 8
  let b2 := toB l o1 b1 8
  let o3 := toO l o2 b2 8
  let b3 := toB l o2 b2 8
  { S with o := toO l o3 b3 8, bad := toB l o3 b3 8, m := { S.m with cu := .ofNat (numV l S.o S.bad 8), ba := .ofNat (numV l o1 b1 8), h0 := .ofNat (numV l o2 b2 8), h1 := .ofNat (numV l o3 b3 8) } }
def step (l : List Nat) (c : Nat) (S : Sc) : Sc :=
  match c with
  | 110 => { S with o := toO l S.o S.bad 1, bad := toB l S.o S.bad 1, m := { S.m with nd := wrapF .i64 (.ofNat (numV l S.o S.bad 1)) } }
  | 98 => { S with o := toO l S.o S.bad 1, bad := toB l S.o S.bad 1, m := { S.m with bl := wrapF .i64 (.ofNat (numV l S.o S.bad 1)) } }
  | 114 => { S with o := toO l S.o S.bad 1, bad := toB l S.o S.bad 1, m := { S.m with ro := wrapF .i64 (.ofNat (numV l S.o S.bad 1)) } }
  | 115 => { S with o := toO l S.o S.bad 1, bad := toB l S.o S.bad 1, m := { S.m with sa := wrapF .i64 (.ofNat (numV l S.o S.bad 1)) } }
  | 107 => { S with o := toO l S.o S.bad 1, bad := toB l S.o S.bad 1, m := { S.m with bk := wrapF .i64 (.ofNat (numV l S.o S.bad 1)) } }
  | 116 => { S with o := toO l S.o S.bad 8, bad := toB l S.o S.bad 8, m := { S.m with se := .ofNat (numV l S.o S.bad 8) } }
  | 117 => { S with o := toO l S.o S.bad 8, bad := toB l S.o S.bad 8, m := { S.m with nu := .ofNat (numV l S.o S.bad 8) } }
  | 99 => { S with o := toO l S.o S.bad 1, bad := flB l S.o S.bad, m := { S.m with cr := flV l S.o S.bad } }
  | 121 => { S with o := toO l S.o S.bad 1, bad := flB l S.o S.bad, m := { S.m with ys := flV l S.o S.bad } }
  | 103 => { S with o := toO l (toO l S.o S.bad 2) (toB l S.o S.bad 2) (blobN l S.o S.bad), bad := toB l (toO l S.o S.bad 2) (toB l S.o S.bad 2) (blobN l S.o S.bad), m := { S.m with dg := .cut (toO l S.o S.bad 2) (toB l S.o S.bad 2) (blobN l S.o S.bad) } }
  | 97 => { S with o := toO l (toO l S.o S.bad 2) (toB l S.o S.bad 2) (blobN l S.o S.bad), bad := toB l (toO l S.o S.bad 2) (toB l S.o S.bad 2) (blobN l S.o S.bad), m := { S.m with tb := .cut (toO l S.o S.bad 2) (toB l S.o S.bad 2) (blobN l S.o S.bad) } }
  | 100 => { S with o := toO l S.o S.bad 256, bad := toB l S.o S.bad 256, m := { S.m with d := blkV l S.o S.bad } }
  | 108 => stepL l S
  | _ => S
def letters : List Nat := [110, 98, 114, 115, 107, 116, 117, 99, 121, 103, 97, 100, 108]
def runL (l : List Nat) (s : List Nat) (S : Sc) : Sc := s.foldl (fun S c => step l c S) S
theorem runL_snoc {l s : List Nat} {S : Sc} {p c : Nat} (h : s[p]? = some c) : runL l (s.take (p + 1)) S = step l c (runL l (s.take p) S) := by
  have e : s.take (p + 1) = s.take p ++ [c] := by rw [List.take_add_one, h]; rfl
  unfold runL
  rw [e, List.foldl_append]
  rfl
theorem runL_all {l s : List Nat} {S : Sc} : runL l (s.take s.length) S = runL l s S := by rw [List.take_length]
theorem step_le {l : List Nat} {c : Nat} {S : Sc} (h : S.o ≤ l.length) : (step l c S).o ≤ l.length := by
  unfold step
  split
  · exact toO_le h
  · exact toO_le h
  · exact toO_le h
  · exact toO_le h
  · exact toO_le h
  · exact toO_le h
  · exact toO_le h
  · exact toO_le h
  · exact toO_le h
  · exact toO_le (toO_le h)
  · exact toO_le (toO_le h)
  · exact toO_le h
  · exact toO_le (toO_le (toO_le (toO_le h)))
  · exact h
end Go.Proofs.Ytlnohbilfogheaa.mrd
end

section
open Go Go.Ax Go.Proofs.Ytlnohbilfogheaa Go.Proofs.Ytlnohbilfogheaa.rdr Go.Proofs.Ytlnohbilfogheaa.rrq
namespace Go.Proofs.Ytlnohbilfogheaa.mrd
set_option linter.unusedVariables false
theorem EPok : Env.Ok Try.prog EP := envEx_ok (xs := []) ⟨⟨Try.func33, Try.call33⟩, ⟨Try.func60, Try.call60⟩, ⟨Try.func47, Try.call47⟩, ⟨Try.func71, Try.call71⟩, ⟨Try.func96, Try.call96⟩, ⟨Try.func97, Try.call97⟩, ⟨Try.func98, Try.call98⟩, ⟨Try.func99, Try.call99⟩, ⟨Try.func100, Try.call100⟩, ⟨Try.func101, Try.call101⟩, ⟨Try.func102, Try.call102⟩, ⟨Try.func103, Try.call103⟩, ⟨Try.func104, Try.call104⟩, ⟨Try.func105, Try.call105⟩, ⟨Try.func106, Try.call106⟩, ⟨Try.func107, Try.call107⟩, ⟨Try.func108, Try.call108⟩, ⟨Try.func109, Try.call109⟩, ⟨Try.func110, Try.call110⟩, ⟨Try.func111, Try.call111⟩, ⟨Try.func112, Try.call112⟩, ⟨Try.func113, Try.call113⟩, ⟨Try.func114, Try.call114⟩, ⟨Try.func115, Try.call115⟩, ⟨Try.func116, Try.call116⟩, ⟨Try.func117, Try.call117⟩, ⟨Try.func127, Try.call127⟩, ⟨Try.func128, Try.call128⟩, ⟨Try.func129, Try.call129⟩, ⟨Try.func130, Try.call130⟩, ⟨Try.func131, Try.call131⟩, ⟨Try.func132, Try.call132⟩, ⟨Try.func133, Try.call133⟩, ⟨Try.func134, Try.call134⟩, ⟨Try.func135, Try.call135⟩, ⟨Try.func137, Try.call137⟩, ⟨Try.func138, Try.call138⟩, ⟨Try.func139, Try.call139⟩, ⟨Try.func141, Try.call141⟩, ⟨Try.func142, Try.call142⟩, ⟨Try.func143, Try.call143⟩, ⟨Try.func144, Try.call144⟩, ⟨Try.func145, Try.call145⟩, ⟨Try.func146, Try.call146⟩, trivial⟩ trivial (by kernel_rfl)
def R0 (l : List Nat) : AO := .cells (l.map cellU) false
def R2 (l : List Nat) : AO := .cells (l.map cellU) true
noncomputable def mX (l : List Nat) (Z : AO) (V : AV) (b : Bool) (m si : AO) (nx : Nat) : ASt := mkSt ([(0, R0 l), (1, Z), (3, R2 l), (4, rd V b)] ++ prtL ++ [(37, m), (38, si)]) nx
def Zo : AO := .cells zMsg true
section
variable {l : List Nat} {o o' p nx : Nat} {bad bad' : Bool} {s : List Nat} {S : Sc} {V : AV} {b : Bool} {m si : AO}
theorem nxt (c : Nat) {C R : CallT} (hs : s[p]? = some c) (hc : c < 128) : aOp EP C R { dst := some 20, op := .next (.tmp 19) true, type := 0, pos := "message.go:166", after := #[], guard := none } (ovF fH [] 39 []) (mX l Zo V b m (.siter s p) 39) =
    some (.tuple [.bool true, .int .i64 (.ofNat p), .int .i32 (.ofNat c)], mX l Zo V b m (.siter s (p + 1)) 39) := by
  have e : aOp EP C R { dst := some 20, op := .next (.tmp 19) true, type := 0, pos := "message.go:166", after := #[], guard := none } (ovF fH [] 39 []) (mX l Zo V b m (.siter s p) 39) =
    (bif Nat.blt p s.length then (match s[p]? with
      | some b' => bif Nat.blt b' 128 then some (.tuple [.bool true, .int .i64 (.ofNat p), .int .i32 (.ofNat b')], (mX l Zo V b m (.siter s p) 39).put 38 (.siter s (p + 1))) else none
      | none => none) else overA (mX l Zo V b m (.siter s p) 39)) := by kernel_rfl
  have hp : p < s.length := (List.getElem?_eq_some_iff.1 hs).1
  rw [e, blt_t hp, hs]
  simp only [cond_true, blt_t hc]
  show _ = _
  kernel_rfl
theorem nxt_end {C R : CallT} (hp : p = s.length) : aOp EP C R { dst := some 20, op := .next (.tmp 19) true, type := 0, pos := "message.go:166", after := #[], guard := none } (ovF fH [] 39 []) (mX l Zo V b m (.siter s p) 39) =
    some (.tuple [.bool false], mX l Zo V b m (.siter s p) 39) := by
  have e : aOp EP C R { dst := some 20, op := .next (.tmp 19) true, type := 0, pos := "message.go:166", after := #[], guard := none } (ovF fH [] 39 []) (mX l Zo V b m (.siter s p) 39) =
    (bif Nat.blt p s.length then (match s[p]? with
      | some b' => bif Nat.blt b' 128 then some (.tuple [.bool true, .int .i64 (.ofNat p), .int .i32 (.ofNat b')], (mX l Zo V b m (.siter s p) 39).put 38 (.siter s (p + 1))) else none
      | none => none) else overA (mX l Zo V b m (.siter s p) 39)) := by kernel_rfl
  rw [e, rrq.blt_f (show s.length ≤ p by omega)]
  rfl
theorem cW {f n : Nat} {ex : List AV} {v v' : AV} (h0 : l ≠ []) (ho : o ≤ l.length) (ho' : o' ≤ l.length) (hex : ∀ c, c ∈ ex → refsV 0 c) (h : AtS Try.prog f (.ptr (some (1, 0)) :: ex) (stL l o bad) (v, stLm l o' bad' n)) (h2 : 2 ≤ n)
    (hvm : ∀ g : Nat → Nat, g 0 = 3 → mapV g v = v') (hn : 39 ≤ nx) : Call1 Try.prog f (.ptr (some (4, 0)) :: ex) (mX l Zo (vIn 3 l o) bad m si nx) (v', mX l Zo (vIn 3 l o') bad' m si (nx + n)) :=
  to1 (atRowW (i := 4) (r := 3) (S := mX l Zo (vIn 3 l o) bad m si nx) h0 ho ho' hex h h2 hvm (by kernel_rfl) (by kernel_rfl) (by decide) (by show 4 < nx; omega) (by show 3 < nx; omega)) rfl (by kernel_rfl)
theorem Zo_refs : ∀ c, c ∈ zMsg → refsV 0 c := by
  intro c hc
  unfold zMsg msgL at hc
  simp only [List.mem_append, List.mem_cons, List.not_mem_nil, or_false] at hc
  rcases hc with h | h | h
  · rcases h with rfl | rfl | rfl | rfl | rfl | rfl | rfl | rfl | rfl | rfl | rfl | rfl | rfl | rfl <;> simp [refsV, nilS]
  · rw [ddL_map] at h
    obtain ⟨x, _, rfl⟩ := List.mem_map.1 h
    simp [refsV, cellU]
  · rcases h with rfl | rfl <;> simp [refsV, nilS]
def SlOk (l : List Nat) : Sl → Prop
  | .no => True
  | .cut o _ _ => o ≤ l.length
structure ScOk (l : List Nat) (S : Sc) : Prop where
  o : S.o ≤ l.length
  tb : SlOk l S.m.tb
  dg : SlOk l S.m.dg
theorem tW_refs {x : Sl} (h : SlOk l x) {k : Nat} (hk : 3 < k) : refsV k (tW l x) := by
  cases x with
  | no => simp [tW, nilS, refsV]
  | cut o b n =>
    have h : o ≤ l.length := h
    show refsV k (mv 3 (cutW l o b n))
    unfold cutW
    cases toB l o b n
    · simp only [cond_false]
      rcases forms h with ⟨_, _, _, e⟩ | ⟨_, _, _, e⟩ | ⟨_, _, _, e⟩ <;> rw [e] <;> simp [mv, mapV, refsV, nilV, hk]
    · simp [mv, mapV, refsV, nilV]
theorem msg_refs {k nd bl ro sa cu ba h0 h1 : Int} {cr : Bool} {se : Int} {tb : AV} {nu bk : Int} {d : Nat → Nat} {dg : AV} {ys : Bool} {K : Nat} (ht : refsV K tb) (hg : refsV K dg) : ∀ c, c ∈ msgL k nd bl ro sa cu ba h0 h1 cr se tb nu bk d dg ys → refsV K c := by
  intro c hc
  unfold msgL at hc
  simp only [List.mem_append, List.mem_cons, List.not_mem_nil, or_false] at hc
  rcases hc with h | h | h
  · rcases h with rfl | rfl | rfl | rfl | rfl | rfl | rfl | rfl | rfl | rfl | rfl | rfl | rfl | rfl <;> first | exact ht | simp [refsV]
  · rw [ddL_map] at h
    obtain ⟨x, _, rfl⟩ := List.mem_map.1 h
    simp [refsV, cellU]
  · rcases h with rfl | rfl
    · exact hg
    · simp [refsV]
theorem vIn_refs (ho : o ≤ l.length) {k : Nat} (hk : 3 < k) : refsV k (vIn 3 l o) := by
  rcases forms2 3 ho with ⟨_, _, _, e⟩ | ⟨_, _, _, e⟩ | ⟨_, _, _, e⟩ <;> rw [e] <;> simp [refsV, nilV, hk]
theorem rd_refs (ho : o ≤ l.length) : refsO2 39 (rd (vIn 3 l o) b) := by
  intro c hc
  simp only [List.mem_cons, List.not_mem_nil, or_false] at hc
  rcases hc with rfl | rfl | rfl
  · exact vIn_refs ho (by decide)
  · simp [refsV]
  · simp [refsV]
theorem heldW {m' : List AV} (ho : o ≤ l.length) (hm : ∀ c, c ∈ m' → refsV 39 c) : Wk 1 fH (mX l Zo (vIn 3 l o) b (.cells m' true) (.siter s p) nx) fH (mX l Zo (vIn 3 l o) b (.cells m' true) (.siter s p) 39) :=
  Wk.heldX (kb := 1) (List.range 39) (by kernel_rfl) (by kernel_rfl) [2, 4, 5, 6, 19] (by kernel_rfl)
    (.cons 0 (R0 l) rfl (by kernel_rfl) (.row (refU l)) <| .cons 1 Zo rfl (by kernel_rfl) (.row Zo_refs) <| .cons 3 (R2 l) rfl (by kernel_rfl) (.row (refU l)) <| .cons 4 (rd (vIn 3 l o) b) rfl (by kernel_rfl) (.keep (kb := 39) rfl (rd_refs ho)) <|
     .cons 7 mapP rfl (by kernel_rfl) (.of (by kernel_rfl)) <| .cons 8 (.cells [.clos 97 []] true) rfl (by kernel_rfl) (.of (by kernel_rfl)) <| .cons 9 (.cells [.clos 98 []] true) rfl (by kernel_rfl) (.of (by kernel_rfl)) <| .cons 11 (.cells [.clos 99 []] true) rfl (by kernel_rfl) (.of (by kernel_rfl)) <| .cons 12 (.cells [.clos 100 []] true) rfl (by kernel_rfl) (.of (by kernel_rfl)) <| .cons 14 (.cells [.clos 101 []] true) rfl (by kernel_rfl) (.of (by kernel_rfl)) <| .cons 15 (.cells [.clos 102 []] true) rfl (by kernel_rfl) (.of (by kernel_rfl)) <| .cons 17 (.cells [.clos 103 []] true) rfl (by kernel_rfl) (.of (by kernel_rfl)) <| .cons 18 (.cells [.clos 104 []] true) rfl (by kernel_rfl) (.of (by kernel_rfl)) <| .cons 20 (.cells [.clos 105 []] true) rfl (by kernel_rfl) (.of (by kernel_rfl)) <| .cons 21 (.cells [.clos 106 []] true) rfl (by kernel_rfl) (.of (by kernel_rfl)) <| .cons 25 (.cells [.clos 110 []] true) rfl (by kernel_rfl) (.of (by kernel_rfl)) <| .cons 27 (.cells [.clos 111 []] true) rfl (by kernel_rfl) (.of (by kernel_rfl)) <| .cons 29 (.cells [.clos 113 []] true) rfl (by kernel_rfl) (.of (by kernel_rfl)) <| .cons 31 (.cells [.clos 114 []] true) rfl (by kernel_rfl) (.of (by kernel_rfl)) <| .cons 33 (.cells [.clos 116 []] true) rfl (by kernel_rfl) (.of (by kernel_rfl)) <| .cons 35 (.cells [.clos 117 []] true) rfl (by kernel_rfl) (.of (by kernel_rfl)) <|
     .cons 37 (.cells m' true) rfl (by kernel_rfl) (.keep (kb := 39) rfl hm) <| .cons 38 (.siter s p) rfl (by kernel_rfl) (.keep (kb := 39) rfl trivial) .nil)
theorem scW (h : ScOk l S) : ∀ c, c ∈ mW l S.m → refsV 39 c := msg_refs (tW_refs h.tb (k := 39) (by decide)) (tW_refs h.dg (k := 39) (by decide))
theorem step_ok {c : Nat} (h : ScOk l S) : ScOk l (step l c S) := by
  refine ⟨step_le h.o, ?_, ?_⟩
  · unfold step
    split <;> first | exact h.tb | exact toO_le h.o
  · unfold step
    split <;> first | exact h.dg | exact toO_le h.o
def NextW (l s : List Nat) (p c : Nat) (S : Sc) (q : Exit × AFr × ASt) : Prop := Stops 1 .normal fH (mX l Zo (vIn 3 l (step l c S).o) (step l c S).bad (.cells (mW l (step l c S).m) true) (.siter s (p + 1)) 39) q
theorem endW {c : Nat} {F : AFr} {S' : ASt} (h : ScOk l S) (hF : F = fH) (hS : S' = mX l Zo (vIn 3 l (step l c S).o) (step l c S).bad (.cells (mW l (step l c S).m) true) (.siter s (p + 1)) nx) : NextW l s p c S (.normal, F, S') := by
  subst hF; subst hS
  exact ⟨rfl, heldW (step_ok h).o (scW (step_ok h))⟩
theorem smOk {tab : List (Nat × List AV × ASt × (AV × ASt))} (h : ∀ e, e ∈ tab → Call1 Try.prog e.1 e.2.1 e.2.2.1 e.2.2.2) : CallsOK Try.prog (smP (tabC tab)) := onlyC_ok (tabC_ok h)
theorem tab1 {P : Program} {f : Nat} {args : List AV} {S : ASt} {r : AV × ASt} (h : Call1 P f args S r) : ∀ e, e ∈ [(f, args, S, r)] → Call1 P e.1 e.2.1 e.2.2.1 e.2.2.2 := fun e he => by
  simp only [List.mem_cons, List.not_mem_nil, or_false] at he
  subst he
  exact h
theorem mapD (d : Nat → Nat) (g : Nat → Nat) (hg : g 0 = 3) : mapV g (.agg (ddL d)) = .agg (ddL d) := by kernel_rfl
theorem mvW_forms (ho : o ≤ l.length) {n : Nat} : mv 3 (cutW l o bad n) = nilS ∨ mv 3 (cutW l o bad n) = .slice0 ∨ ∃ j k c, mv 3 (cutW l o bad n) = .slice (some (3, j)) k c := by
  unfold cutW
  cases toB l o bad n
  · simp only [cond_false]
    rcases forms ho with ⟨_, _, _, e⟩ | ⟨_, _, _, e⟩ | ⟨_, _, _, e⟩ <;> rw [e]
    · exact .inl rfl
    · exact .inr (.inl rfl)
    · exact .inr (.inr ⟨o, n, .known n, rfl⟩)
  · exact .inl rfl
theorem stWg {k nd bl ro sa cu ba h0 h1 : Int} {cr : Bool} {se : Int} {tb : AV} {nu bk : Int} {d : Nat → Nat} {dg : AV} {ys : Bool} {n : Nat} {V : AV} {b : Bool} (ho : o ≤ l.length) : Option.map (fun s => (undefA, s)) (aStore EP 25 (.ptr (some (37, 270))) (mv 3 (cutW l o bad n)) (mX l Zo V b (.cells (msgL k nd bl ro sa cu ba h0 h1 cr se tb nu bk d dg ys) true) si nx)) = some (.tuple [], mX l Zo V b (.cells (msgL k nd bl ro sa cu ba h0 h1 cr se tb nu bk d (mv 3 (cutW l o bad n)) ys) true) si nx) := by
  rcases mvW_forms (bad := bad) ho (n := n) with e | e | ⟨j, k', c, e⟩ <;> rw [e] <;> kernel_rfl
theorem stWa {k nd bl ro sa cu ba h0 h1 : Int} {cr : Bool} {se : Int} {tb : AV} {nu bk : Int} {d : Nat → Nat} {dg : AV} {ys : Bool} {n : Nat} {V : AV} {b : Bool} (ho : o ≤ l.length) : Option.map (fun s => (undefA, s)) (aStore EP 25 (.ptr (some (37, 11))) (mv 3 (cutW l o bad n)) (mX l Zo V b (.cells (msgL k nd bl ro sa cu ba h0 h1 cr se tb nu bk d dg ys) true) si nx)) = some (.tuple [], mX l Zo V b (.cells (msgL k nd bl ro sa cu ba h0 h1 cr se (mv 3 (cutW l o bad n)) nu bk d dg ys) true) si nx) := by
  rcases mvW_forms (bad := bad) ho (n := n) with e | e | ⟨j, k', c, e⟩ <;> rw [e] <;> kernel_rfl
noncomputable abbrev HdW (l s : List Nat) (p : Nat) (S : Sc) : ASt := mX l Zo (vIn 3 l S.o) S.bad (.cells (mW l S.m) true) (.siter s p) 39
abbrev RndW (l s : List Nat) (p c : Nat) (S : Sc) : Prop := Trip Try.prog 1 none L33 fH (HdW l s p S) (NextW l s p c S)
theorem rWn (h0 : l ≠ []) (hB : ∀ x, x ∈ l → x < 256) (h : ScOk l S) (hs : s[p]? = some 110) : RndW l s p 110 S := by
  have c1 := cW (bad := S.bad) (m := .cells (mW l S.m) true) (si := .siter s (p + 1)) (nx := 45) h0 h.o (toO_le h.o) (refI 1) (rdr.num1 h.o hB) (Nat.le_refl 2) (fun _ _ => rfl) (by decide)
  exact (Trip.runY EPok (smOk (tab1 c1)) (Eq.mp (vcLn _ s p (R0 l) Zo (R2 l) (vIn 3 l S.o) S.bad S.m.k S.m.nd S.m.bl S.m.ro S.m.sa S.m.cu S.m.ba S.m.h0 S.m.h1 S.m.cr S.m.se (tW l S.m.tb) S.m.nu S.m.bk S.m.d (tW l S.m.dg) S.m.ys (numV l S.o S.bad 1) (vIn 3 l (toO l S.o S.bad 1)) (toB l S.o S.bad 1) (fun q => NextW l s p 110 S q)) ⟨nxt 110 hs (by decide), call_at (onlyC_at rfl (tabC_hd ..)), ⟨⟨rfl, rfl⟩, trivial⟩, endW (nx := 45 + 2) h rfl rfl⟩)).mono fun q hq => hq.can
theorem rWb (h0 : l ≠ []) (hB : ∀ x, x ∈ l → x < 256) (h : ScOk l S) (hs : s[p]? = some 98) : RndW l s p 98 S := by
  have c1 := cW (bad := S.bad) (m := .cells (mW l S.m) true) (si := .siter s (p + 1)) (nx := 45) h0 h.o (toO_le h.o) (refI 1) (rdr.num1 h.o hB) (Nat.le_refl 2) (fun _ _ => rfl) (by decide)
  exact (Trip.runY EPok (smOk (tab1 c1)) (Eq.mp (vcLb _ s p (R0 l) Zo (R2 l) (vIn 3 l S.o) S.bad S.m.k S.m.nd S.m.bl S.m.ro S.m.sa S.m.cu S.m.ba S.m.h0 S.m.h1 S.m.cr S.m.se (tW l S.m.tb) S.m.nu S.m.bk S.m.d (tW l S.m.dg) S.m.ys (numV l S.o S.bad 1) (vIn 3 l (toO l S.o S.bad 1)) (toB l S.o S.bad 1) (fun q => NextW l s p 98 S q)) ⟨nxt 98 hs (by decide), call_at (onlyC_at rfl (tabC_hd ..)), ⟨⟨rfl, rfl⟩, trivial⟩, endW (nx := 45 + 2) h rfl rfl⟩)).mono fun q hq => hq.can
theorem rWr (h0 : l ≠ []) (hB : ∀ x, x ∈ l → x < 256) (h : ScOk l S) (hs : s[p]? = some 114) : RndW l s p 114 S := by
  have c1 := cW (bad := S.bad) (m := .cells (mW l S.m) true) (si := .siter s (p + 1)) (nx := 45) h0 h.o (toO_le h.o) (refI 1) (rdr.num1 h.o hB) (Nat.le_refl 2) (fun _ _ => rfl) (by decide)
  exact (Trip.runY EPok (smOk (tab1 c1)) (Eq.mp (vcLr _ s p (R0 l) Zo (R2 l) (vIn 3 l S.o) S.bad S.m.k S.m.nd S.m.bl S.m.ro S.m.sa S.m.cu S.m.ba S.m.h0 S.m.h1 S.m.cr S.m.se (tW l S.m.tb) S.m.nu S.m.bk S.m.d (tW l S.m.dg) S.m.ys (numV l S.o S.bad 1) (vIn 3 l (toO l S.o S.bad 1)) (toB l S.o S.bad 1) (fun q => NextW l s p 114 S q)) ⟨nxt 114 hs (by decide), call_at (onlyC_at rfl (tabC_hd ..)), ⟨⟨rfl, rfl⟩, trivial⟩, endW (nx := 45 + 2) h rfl rfl⟩)).mono fun q hq => hq.can
theorem rWs (h0 : l ≠ []) (hB : ∀ x, x ∈ l → x < 256) (h : ScOk l S) (hs : s[p]? = some 115) : RndW l s p 115 S := by
  have c1 := cW (bad := S.bad) (m := .cells (mW l S.m) true) (si := .siter s (p + 1)) (nx := 45) h0 h.o (toO_le h.o) (refI 1) (rdr.num1 h.o hB) (Nat.le_refl 2) (fun _ _ => rfl) (by decide)
  exact (Trip.runY EPok (smOk (tab1 c1)) (Eq.mp (vcLs _ s p (R0 l) Zo (R2 l) (vIn 3 l S.o) S.bad S.m.k S.m.nd S.m.bl S.m.ro S.m.sa S.m.cu S.m.ba S.m.h0 S.m.h1 S.m.cr S.m.se (tW l S.m.tb) S.m.nu S.m.bk S.m.d (tW l S.m.dg) S.m.ys (numV l S.o S.bad 1) (vIn 3 l (toO l S.o S.bad 1)) (toB l S.o S.bad 1) (fun q => NextW l s p 115 S q)) ⟨nxt 115 hs (by decide), call_at (onlyC_at rfl (tabC_hd ..)), ⟨⟨rfl, rfl⟩, trivial⟩, endW (nx := 45 + 2) h rfl rfl⟩)).mono fun q hq => hq.can
theorem rWk (h0 : l ≠ []) (hB : ∀ x, x ∈ l → x < 256) (h : ScOk l S) (hs : s[p]? = some 107) : RndW l s p 107 S := by
  have c1 := cW (bad := S.bad) (m := .cells (mW l S.m) true) (si := .siter s (p + 1)) (nx := 45) h0 h.o (toO_le h.o) (refI 1) (rdr.num1 h.o hB) (Nat.le_refl 2) (fun _ _ => rfl) (by decide)
  exact (Trip.runY EPok (smOk (tab1 c1)) (Eq.mp (vcLk _ s p (R0 l) Zo (R2 l) (vIn 3 l S.o) S.bad S.m.k S.m.nd S.m.bl S.m.ro S.m.sa S.m.cu S.m.ba S.m.h0 S.m.h1 S.m.cr S.m.se (tW l S.m.tb) S.m.nu S.m.bk S.m.d (tW l S.m.dg) S.m.ys (numV l S.o S.bad 1) (vIn 3 l (toO l S.o S.bad 1)) (toB l S.o S.bad 1) (fun q => NextW l s p 107 S q)) ⟨nxt 107 hs (by decide), call_at (onlyC_at rfl (tabC_hd ..)), ⟨⟨rfl, rfl⟩, trivial⟩, endW (nx := 45 + 2) h rfl rfl⟩)).mono fun q hq => hq.can
theorem rWt (h0 : l ≠ []) (hB : ∀ x, x ∈ l → x < 256) (h : ScOk l S) (hs : s[p]? = some 116) : RndW l s p 116 S := by
  have c1 := cW (bad := S.bad) (m := .cells (mW l S.m) true) (si := .siter s (p + 1)) (nx := 39) h0 h.o (toO_le h.o) (refI 8) (rdr.num8 h.o hB) (Nat.le_refl 2) (fun _ _ => rfl) (by decide)
  exact (Trip.runY EPok (smOk (tab1 c1)) (Eq.mp (vcLt _ s p (R0 l) Zo (R2 l) (vIn 3 l S.o) S.bad S.m.k S.m.nd S.m.bl S.m.ro S.m.sa S.m.cu S.m.ba S.m.h0 S.m.h1 S.m.cr S.m.se (tW l S.m.tb) S.m.nu S.m.bk S.m.d (tW l S.m.dg) S.m.ys (numV l S.o S.bad 8) (vIn 3 l (toO l S.o S.bad 8)) (toB l S.o S.bad 8) (fun q => NextW l s p 116 S q)) ⟨nxt 116 hs (by decide), call_at (onlyC_at rfl (tabC_hd ..)), endW (nx := 39 + 2) h rfl rfl⟩)).mono fun q hq => hq.can
theorem rWu (h0 : l ≠ []) (hB : ∀ x, x ∈ l → x < 256) (h : ScOk l S) (hs : s[p]? = some 117) : RndW l s p 117 S := by
  have c1 := cW (bad := S.bad) (m := .cells (mW l S.m) true) (si := .siter s (p + 1)) (nx := 39) h0 h.o (toO_le h.o) (refI 8) (rdr.num8 h.o hB) (Nat.le_refl 2) (fun _ _ => rfl) (by decide)
  exact (Trip.runY EPok (smOk (tab1 c1)) (Eq.mp (vcLu _ s p (R0 l) Zo (R2 l) (vIn 3 l S.o) S.bad S.m.k S.m.nd S.m.bl S.m.ro S.m.sa S.m.cu S.m.ba S.m.h0 S.m.h1 S.m.cr S.m.se (tW l S.m.tb) S.m.nu S.m.bk S.m.d (tW l S.m.dg) S.m.ys (numV l S.o S.bad 8) (vIn 3 l (toO l S.o S.bad 8)) (toB l S.o S.bad 8) (fun q => NextW l s p 117 S q)) ⟨nxt 117 hs (by decide), call_at (onlyC_at rfl (tabC_hd ..)), endW (nx := 39 + 2) h rfl rfl⟩)).mono fun q hq => hq.can
theorem rWc (h0 : l ≠ []) (hB : ∀ x, x ∈ l → x < 256) (h : ScOk l S) (hs : s[p]? = some 99) : RndW l s p 99 S := by
  have c1 := cW (bad := S.bad) (m := .cells (mW l S.m) true) (si := .siter s (p + 1)) (nx := 39) h0 h.o (toO_le h.o) refN (flagW h.o hB) (Nat.le_refl 2) (fun _ _ => rfl) (by decide)
  exact (Trip.runY EPok (smOk (tab1 c1)) (Eq.mp (vcLc _ s p (R0 l) Zo (R2 l) (vIn 3 l S.o) S.bad S.m.k S.m.nd S.m.bl S.m.ro S.m.sa S.m.cu S.m.ba S.m.h0 S.m.h1 S.m.cr S.m.se (tW l S.m.tb) S.m.nu S.m.bk S.m.d (tW l S.m.dg) S.m.ys (flV l S.o S.bad) (vIn 3 l (toO l S.o S.bad 1)) (flB l S.o S.bad) (fun q => NextW l s p 99 S q)) ⟨nxt 99 hs (by decide), call_at (onlyC_at rfl (tabC_hd ..)), endW (nx := 39 + 2) h rfl rfl⟩)).mono fun q hq => hq.can
theorem rWy (h0 : l ≠ []) (hB : ∀ x, x ∈ l → x < 256) (h : ScOk l S) (hs : s[p]? = some 121) : RndW l s p 121 S := by
  have c1 := cW (bad := S.bad) (m := .cells (mW l S.m) true) (si := .siter s (p + 1)) (nx := 39) h0 h.o (toO_le h.o) refN (flagW h.o hB) (Nat.le_refl 2) (fun _ _ => rfl) (by decide)
  exact (Trip.runY EPok (smOk (tab1 c1)) (Eq.mp (vcLy _ s p (R0 l) Zo (R2 l) (vIn 3 l S.o) S.bad S.m.k S.m.nd S.m.bl S.m.ro S.m.sa S.m.cu S.m.ba S.m.h0 S.m.h1 S.m.cr S.m.se (tW l S.m.tb) S.m.nu S.m.bk S.m.d (tW l S.m.dg) S.m.ys (flV l S.o S.bad) (vIn 3 l (toO l S.o S.bad 1)) (flB l S.o S.bad) (fun q => NextW l s p 121 S q)) ⟨nxt 121 hs (by decide), call_at (onlyC_at rfl (tabC_hd ..)), endW (nx := 39 + 2) h rfl rfl⟩)).mono fun q hq => hq.can
theorem rWd (h0 : l ≠ []) (hB : ∀ x, x ∈ l → x < 256) (h : ScOk l S) (hs : s[p]? = some 100) : RndW l s p 100 S := by
  have c1 := cW (bad := S.bad) (m := .cells (mW l S.m) true) (si := .siter s (p + 1)) (nx := 39) h0 h.o (toO_le h.o) refN (blockW h0 h.o) (by decide) (mapD _) (by decide)
  exact (Trip.runY EPok (smOk (tab1 c1)) (Eq.mp (vcLd _ s p (R0 l) Zo (R2 l) (vIn 3 l S.o) S.bad S.m.k S.m.nd S.m.bl S.m.ro S.m.sa S.m.cu S.m.ba S.m.h0 S.m.h1 S.m.cr S.m.se (tW l S.m.tb) S.m.nu S.m.bk S.m.d (tW l S.m.dg) S.m.ys (blkV l S.o S.bad) (vIn 3 l (toO l S.o S.bad 256)) (toB l S.o S.bad 256) (fun q => NextW l s p 100 S q)) ⟨nxt 100 hs (by decide), call_at (onlyC_at rfl (tabC_hd ..)), endW (nx := 39 + 9) h rfl rfl⟩)).mono fun q hq => hq.can
theorem rWl (h0 : l ≠ []) (hB : ∀ x, x ∈ l → x < 256) (h : ScOk l S) (hs : s[p]? = some 108) : RndW l s p 108 S := by
  obtain ⟨o1, e1⟩ : ∃ x, x = toO l S.o S.bad 8 := ⟨_, rfl⟩
  obtain ⟨b1, f1⟩ : ∃ x, x = toB l S.o S.bad 8 := ⟨_, rfl⟩
  have l1 : o1 ≤ l.length := e1 ▸ toO_le h.o
  obtain ⟨o2, e2⟩ : ∃ x, x = toO l o1 b1 8 := ⟨_, rfl⟩
  obtain ⟨b2, f2⟩ : ∃ x, x = toB l o1 b1 8 := ⟨_, rfl⟩
  have l2 : o2 ≤ l.length := e2 ▸ toO_le l1
  obtain ⟨o3, e3⟩ : ∃ x, x = toO l o2 b2 8 := ⟨_, rfl⟩
  obtain ⟨b3, f3⟩ : ∃ x, x = toB l o2 b2 8 := ⟨_, rfl⟩
  have l3 : o3 ≤ l.length := e3 ▸ toO_le l2
  obtain ⟨o4, e4⟩ : ∃ x, x = toO l o3 b3 8 := ⟨_, rfl⟩
  obtain ⟨b4, f4⟩ : ∃ x, x = toB l o3 b3 8 := ⟨_, rfl⟩
  have l4 : o4 ≤ l.length := e4 ▸ toO_le l3
  have c1 : Call1 Try.prog 62 [.ptr (some (4, 0)), nI 8] (mX l Zo (vIn 3 l S.o) S.bad (.cells (mW l S.m) true) (.siter s (p + 1)) 39) (.int .u64 (.ofNat (numV l S.o S.bad 8)), mX l Zo (vIn 3 l o1) b1 (.cells (mW l S.m) true) (.siter s (p + 1)) 41) := by
    rw [e1, f1]; exact cW (bad := S.bad) h0 h.o (toO_le h.o) (refI 8) (rdr.num8 h.o hB) (Nat.le_refl 2) (fun _ _ => rfl) (by decide)
  have c2 : Call1 Try.prog 62 [.ptr (some (4, 0)), nI 8] (mX l Zo (vIn 3 l o1) b1 (.cells (mW l S.m) true) (.siter s (p + 1)) 41) (.int .u64 (.ofNat (numV l o1 b1 8)), mX l Zo (vIn 3 l o2) b2 (.cells (mW l S.m) true) (.siter s (p + 1)) 43) := by
    rw [e2, f2]; exact cW (bad := b1) h0 l1 (toO_le l1) (refI 8) (rdr.num8 l1 hB) (Nat.le_refl 2) (fun _ _ => rfl) (by decide)
  have c3 : Call1 Try.prog 62 [.ptr (some (4, 0)), nI 8] (mX l Zo (vIn 3 l o2) b2 (.cells (mW l S.m) true) (.siter s (p + 1)) 43) (.int .u64 (.ofNat (numV l o2 b2 8)), mX l Zo (vIn 3 l o3) b3 (.cells (mW l S.m) true) (.siter s (p + 1)) 45) := by
    rw [e3, f3]; exact cW (bad := b2) h0 l2 (toO_le l2) (refI 8) (rdr.num8 l2 hB) (Nat.le_refl 2) (fun _ _ => rfl) (by decide)
  have c4 : Call1 Try.prog 62 [.ptr (some (4, 0)), nI 8] (mX l Zo (vIn 3 l o3) b3 (.cells (mW l S.m) true) (.siter s (p + 1)) 45) (.int .u64 (.ofNat (numV l o3 b3 8)), mX l Zo (vIn 3 l o4) b4 (.cells (mW l S.m) true) (.siter s (p + 1)) 47) := by
    rw [e4, f4]; exact cW (bad := b3) h0 l3 (toO_le l3) (refI 8) (rdr.num8 l3 hB) (Nat.le_refl 2) (fun _ _ => rfl) (by decide)
  have hq := smOk (tab := [(62, [.ptr (some (4, 0)), nI 8], mX l Zo (vIn 3 l S.o) S.bad (.cells (mW l S.m) true) (.siter s (p + 1)) 39, (.int .u64 (.ofNat (numV l S.o S.bad 8)), mX l Zo (vIn 3 l o1) b1 (.cells (mW l S.m) true) (.siter s (p + 1)) 41)), (62, [.ptr (some (4, 0)), nI 8], mX l Zo (vIn 3 l o1) b1 (.cells (mW l S.m) true) (.siter s (p + 1)) 41, (.int .u64 (.ofNat (numV l o1 b1 8)), mX l Zo (vIn 3 l o2) b2 (.cells (mW l S.m) true) (.siter s (p + 1)) 43)), (62, [.ptr (some (4, 0)), nI 8], mX l Zo (vIn 3 l o2) b2 (.cells (mW l S.m) true) (.siter s (p + 1)) 43, (.int .u64 (.ofNat (numV l o2 b2 8)), mX l Zo (vIn 3 l o3) b3 (.cells (mW l S.m) true) (.siter s (p + 1)) 45)), (62, [.ptr (some (4, 0)), nI 8], mX l Zo (vIn 3 l o3) b3 (.cells (mW l S.m) true) (.siter s (p + 1)) 45, (.int .u64 (.ofNat (numV l o3 b3 8)), mX l Zo (vIn 3 l o4) b4 (.cells (mW l S.m) true) (.siter s (p + 1)) 47))]) (fun e he => by
    simp only [List.mem_cons, List.not_mem_nil, or_false] at he
    rcases he with rfl | rfl | rfl | rfl
    · exact c1
    · exact c2
    · exact c3
    · exact c4)
  exact (Trip.runY EPok hq (Eq.mp (vcLl _ s p (R0 l) Zo (R2 l) (vIn 3 l S.o) S.bad S.m.k S.m.nd S.m.bl S.m.ro S.m.sa S.m.cu S.m.ba S.m.h0 S.m.h1 S.m.cr S.m.se (tW l S.m.tb) S.m.nu S.m.bk S.m.d (tW l S.m.dg) S.m.ys (numV l S.o S.bad 8) (numV l o1 b1 8) (numV l o2 b2 8) (numV l o3 b3 8) (vIn 3 l o1) (vIn 3 l o2) (vIn 3 l o3) (vIn 3 l o4) b1 b2 b3 b4 (fun q => NextW l s p 108 S q)) ⟨nxt 108 hs (by decide), call_at (onlyC_at rfl (tabC_hd ..)), call_at (onlyC_at rfl ((tabC_tln (by rfl)).trans (tabC_hd ..))), call_at (onlyC_at rfl ((tabC_tln (by rfl)).trans ((tabC_tln (by rfl)).trans (tabC_hd ..)))), call_at (onlyC_at rfl ((tabC_tln (by rfl)).trans ((tabC_tln (by rfl)).trans ((tabC_tln (by rfl)).trans (tabC_hd ..))))), endW (nx := 47) h rfl (by subst e1; subst f1; subst e2; subst f2; subst e3; subst f3; subst e4; subst f4; rfl)⟩)).mono fun q hq => hq.can
theorem rWg (h0 : l ≠ []) (hB : ∀ x, x ∈ l → x < 256) (h : ScOk l S) (hs : s[p]? = some 103) : RndW l s p 103 S := by
  have c1 := cW (bad := S.bad) (m := .cells (mW l S.m) true) (si := .siter s (p + 1)) (nx := 39) h0 h.o (toO_le (toO_le h.o)) refN (rdr.blobRun h.o hB) (Nat.le_refl 2) (fun g hg => mv_eq hg (cutW_form (toO_le h.o))) (by decide)
  exact (Trip.runY EPok (smOk (tab1 c1)) (Eq.mp (vcLg _ s p (R0 l) Zo (R2 l) (vIn 3 l S.o) S.bad S.m.k S.m.nd S.m.bl S.m.ro S.m.sa S.m.cu S.m.ba S.m.h0 S.m.h1 S.m.cr S.m.se (tW l S.m.tb) S.m.nu S.m.bk S.m.d (tW l S.m.dg) S.m.ys (mv 3 (cutW l (toO l S.o S.bad 2) (toB l S.o S.bad 2) (blobN l S.o S.bad))) (vIn 3 l (toO l (toO l S.o S.bad 2) (toB l S.o S.bad 2) (blobN l S.o S.bad))) (toB l (toO l S.o S.bad 2) (toB l S.o S.bad 2) (blobN l S.o S.bad)) (fun q => NextW l s p 103 S q)) ⟨nxt 103 hs (by decide), call_at (onlyC_at rfl (tabC_hd ..)), stWg (toO_le h.o), endW (nx := 41) h rfl rfl⟩)).mono fun q hq => hq.can
theorem rWa (h0 : l ≠ []) (hB : ∀ x, x ∈ l → x < 256) (h : ScOk l S) (hs : s[p]? = some 97) : RndW l s p 97 S := by
  have c1 := cW (bad := S.bad) (m := .cells (mW l S.m) true) (si := .siter s (p + 1)) (nx := 39) h0 h.o (toO_le (toO_le h.o)) refN (rdr.blobRun h.o hB) (Nat.le_refl 2) (fun g hg => mv_eq hg (cutW_form (toO_le h.o))) (by decide)
  exact (Trip.runY EPok (smOk (tab1 c1)) (Eq.mp (vcLa _ s p (R0 l) Zo (R2 l) (vIn 3 l S.o) S.bad S.m.k S.m.nd S.m.bl S.m.ro S.m.sa S.m.cu S.m.ba S.m.h0 S.m.h1 S.m.cr S.m.se (tW l S.m.tb) S.m.nu S.m.bk S.m.d (tW l S.m.dg) S.m.ys (mv 3 (cutW l (toO l S.o S.bad 2) (toB l S.o S.bad 2) (blobN l S.o S.bad))) (vIn 3 l (toO l (toO l S.o S.bad 2) (toB l S.o S.bad 2) (blobN l S.o S.bad))) (toB l (toO l S.o S.bad 2) (toB l S.o S.bad 2) (blobN l S.o S.bad)) (fun q => NextW l s p 97 S q)) ⟨nxt 97 hs (by decide), call_at (onlyC_at rfl (tabC_hd ..)), stWa (toO_le h.o), endW (nx := 41) h rfl rfl⟩)).mono fun q hq => hq.can
end
end Go.Proofs.Ytlnohbilfogheaa.mrd
end

section
open Go Go.Ax Go.Proofs.Ytlnohbilfogheaa Go.Proofs.Ytlnohbilfogheaa.rdr Go.Proofs.Ytlnohbilfogheaa.rrq
namespace Go.Proofs.Ytlnohbilfogheaa.mrd
set_option linter.unusedVariables false
theorem AtMem.of_run {P : Program} {E : Env} {n : Nat} (hE : E.Ok P) {sum : CallT} (hs : CallsOK P sum) {f : Nat} {args : List AV} {st : ASt} {v : AV} (h : Option.map Prod.fst ((M E (drawA E) sum n).call f args st) = some v) : AtMem P f args st v := by
  cases h1 : (M E (drawA E) sum n).call f args st with
  | none => rw [h1] at h; cases h
  | some r =>
    rw [h1] at h
    simp only [Option.map_some, Option.some.injEq] at h
    intro B w0 ι w args' _ hsr hv
    obtain ⟨k1, k2⟩ := (M_ok hE (drawA_ok hE) hs n).call B w0 f args st r h1 ι w args' hsr hv
    refine ⟨k1, k2.mono ?_⟩
    rintro e w' hp
    exact ⟨r, h, hp⟩
theorem Call1.pure {f : Nat} {args : List AV} {v : AV} {S : ASt} (h : AtMem Try.prog f args (mkSt [] 0) v) (hp : refsV 0 v) (ha : ∀ a, a ∈ args → refsV 0 a) : Call1 Try.prog f args S (v, S) :=
  Call1.read h hp (l := []) rfl (fun j x hj => by rw [show (mkSt [] 0).h.get j = none from T.get_e j] at hj; cases hj) (fun j q hq => by simp at hq) fun ι args' hv => ⟨hv.size, fun i v v' h h' => (hv.at_ i v v' h h').noRef (ha v (List.mem_of_getElem? h))⟩
def names (x : Nat) : List Nat :=
  match x with
  | 1 => [110, 98, 114, 115, 108, 99, 116, 121, 97]
  | 2 => [117, 107, 100]
  | 3 => [117]
  | 4 => [117]
  | 5 => [117]
  | 6 => [117]
  | 7 => [107, 103]
  | 8 => [107, 121, 100]
  | 10 => [108]
  | 11 => [114, 115]
  | 13 => [121]
  | 14 => [117, 107]
  | 15 => [117, 121, 100]
  | 16 => [117, 97]
  | 17 => [117]
  | 18 => [107, 103]
  | 19 => [107, 121]
  | _ => []
noncomputable def EN : Env := envEx Try.prog [0, 3, 4, 9, 72, 116, 117] [(28, Try.f28), (29, Try.f29)] []
theorem ENok : Env.Ok Try.prog EN := envEx_ok (xs := []) ⟨⟨Try.func28, Try.call28⟩, ⟨Try.func29, Try.call29⟩, trivial⟩ trivial (by kernel_rfl)
theorem names28 (x : Nat) : AtMem Try.prog 28 [.int .i64 (.ofNat x)] (mkSt [] 0) (.str (names x)) := by
  match x with
  | 0 => exact AtMem.of_run ENok noSum_ok (n := 60) (by kernel_rfl)
  | 1 => exact AtMem.of_run ENok noSum_ok (n := 60) (by kernel_rfl)
  | 2 => exact AtMem.of_run ENok noSum_ok (n := 60) (by kernel_rfl)
  | 3 => exact AtMem.of_run ENok noSum_ok (n := 60) (by kernel_rfl)
  | 4 => exact AtMem.of_run ENok noSum_ok (n := 60) (by kernel_rfl)
  | 5 => exact AtMem.of_run ENok noSum_ok (n := 60) (by kernel_rfl)
  | 6 => exact AtMem.of_run ENok noSum_ok (n := 60) (by kernel_rfl)
  | 7 => exact AtMem.of_run ENok noSum_ok (n := 60) (by kernel_rfl)
  | 8 => exact AtMem.of_run ENok noSum_ok (n := 60) (by kernel_rfl)
  | 9 => exact AtMem.of_run ENok noSum_ok (n := 60) (by kernel_rfl)
  | 10 => exact AtMem.of_run ENok noSum_ok (n := 60) (by kernel_rfl)
  | 11 => exact AtMem.of_run ENok noSum_ok (n := 60) (by kernel_rfl)
  | 12 => exact AtMem.of_run ENok noSum_ok (n := 60) (by kernel_rfl)
  | 13 => exact AtMem.of_run ENok noSum_ok (n := 60) (by kernel_rfl)
  | 14 => exact AtMem.of_run ENok noSum_ok (n := 60) (by kernel_rfl)
  | 15 => exact AtMem.of_run ENok noSum_ok (n := 60) (by kernel_rfl)
  | 16 => exact AtMem.of_run ENok noSum_ok (n := 60) (by kernel_rfl)
  | 17 => exact AtMem.of_run ENok noSum_ok (n := 60) (by kernel_rfl)
  | 18 => exact AtMem.of_run ENok noSum_ok (n := 60) (by kernel_rfl)
  | 19 => exact AtMem.of_run ENok noSum_ok (n := 60) (by kernel_rfl)
  | n + 20 => exact AtMem.of_run ENok noSum_ok (n := 60) (by kernel_rfl)
theorem names29 (x : Nat) : AtMem Try.prog 29 [.int .i64 (.ofNat x)] (mkSt [] 0) (.str (names x)) := by
  match x with
  | 0 => exact AtMem.of_run ENok noSum_ok (n := 60) (by kernel_rfl)
  | 1 => exact AtMem.of_run ENok noSum_ok (n := 60) (by kernel_rfl)
  | 2 => exact AtMem.of_run ENok noSum_ok (n := 60) (by kernel_rfl)
  | 3 => exact AtMem.of_run ENok noSum_ok (n := 60) (by kernel_rfl)
  | 4 => exact AtMem.of_run ENok noSum_ok (n := 60) (by kernel_rfl)
  | 5 => exact AtMem.of_run ENok noSum_ok (n := 60) (by kernel_rfl)
  | 6 => exact AtMem.of_run ENok noSum_ok (n := 60) (by kernel_rfl)
  | 7 => exact AtMem.of_run ENok noSum_ok (n := 60) (by kernel_rfl)
  | 8 => exact AtMem.of_run ENok noSum_ok (n := 60) (by kernel_rfl)
  | 9 => exact AtMem.of_run ENok noSum_ok (n := 60) (by kernel_rfl)
  | 10 => exact AtMem.of_run ENok noSum_ok (n := 60) (by kernel_rfl)
  | 11 => exact AtMem.of_run ENok noSum_ok (n := 60) (by kernel_rfl)
  | 12 => exact AtMem.of_run ENok noSum_ok (n := 60) (by kernel_rfl)
  | 13 => exact AtMem.of_run ENok noSum_ok (n := 60) (by kernel_rfl)
  | 14 => exact AtMem.of_run ENok noSum_ok (n := 60) (by kernel_rfl)
  | 15 => exact AtMem.of_run ENok noSum_ok (n := 60) (by kernel_rfl)
  | 16 => exact AtMem.of_run ENok noSum_ok (n := 60) (by kernel_rfl)
  | 17 => exact AtMem.of_run ENok noSum_ok (n := 60) (by kernel_rfl)
  | 18 => exact AtMem.of_run ENok noSum_ok (n := 60) (by kernel_rfl)
  | 19 => exact AtMem.of_run ENok noSum_ok (n := 60) (by kernel_rfl)
  | n + 20 => exact AtMem.of_run ENok noSum_ok (n := 60) (by kernel_rfl)
theorem intRefs (x : Nat) : ∀ a, a ∈ [AV.int .i64 (.ofNat x)] → refsV 0 a := fun a ha => by
  simp only [List.mem_cons, List.not_mem_nil, or_false] at ha
  subst ha; simp [refsV]
theorem n28_at {S : ASt} (x : Nat) : Call1 Try.prog 28 [.int .i64 (.ofNat x)] S (.str (names x), S) := Call1.pure (names28 x) (by simp [refsV]) (intRefs x)
theorem n29_at {S : ASt} (x : Nat) : Call1 Try.prog 29 [.int .i64 (.ofNat x)] S (.str (names x), S) := Call1.pure (names29 x) (by simp [refsV]) (intRefs x)
theorem names_ok (x : Nat) : ∀ c, c ∈ names x → c ∈ letters := by
  intro c hc
  unfold names at hc
  split at hc <;> simp only [List.mem_cons, List.not_mem_nil, or_false] at hc <;> first | exact hc.elim | (rcases hc with rfl | rfl | rfl | rfl | rfl | rfl | rfl | rfl | rfl <;> decide) | (rcases hc with rfl | rfl | rfl <;> decide) | (rcases hc with rfl | rfl <;> decide) | (subst hc; decide)
section
variable {l : List Nat} {o o' p nx : Nat} {bad bad' : Bool} {s : List Nat} {S : Sc} {V : AV} {b : Bool} {m si : AO}
theorem rndW {c : Nat} (h0 : l ≠ []) (hB : ∀ x, x ∈ l → x < 256) (h : ScOk l S) (hs : s[p]? = some c) (hc : c ∈ letters) : RndW l s p c S := by
  simp only [letters, List.mem_cons, List.not_mem_nil, or_false] at hc
  rcases hc with rfl | rfl | rfl | rfl | rfl | rfl | rfl | rfl | rfl | rfl | rfl | rfl | rfl
  · exact rWn h0 hB h hs
  · exact rWb h0 hB h hs
  · exact rWr h0 hB h hs
  · exact rWs h0 hB h hs
  · exact rWk h0 hB h hs
  · exact rWt h0 hB h hs
  · exact rWu h0 hB h hs
  · exact rWc h0 hB h hs
  · exact rWy h0 hB h hs
  · exact rWg h0 hB h hs
  · exact rWa h0 hB h hs
  · exact rWd h0 hB h hs
  · exact rWl h0 hB h hs
theorem rWe (h : ScOk l S) (hp : p = s.length) : Trip Try.prog 1 none L33 fH (HdW l s p S) fun q => Stops 1 (.exit 0) fH (HdW l s p S) q :=
  (Trip.runY EPok (smOk (tab := []) fun e he => by cases he) (Eq.mp (vcLe _ s p (R0 l) Zo (R2 l) (vIn 3 l S.o) S.bad S.m.k S.m.nd S.m.bl S.m.ro S.m.sa S.m.cu S.m.ba S.m.h0 S.m.h1 S.m.cr S.m.se (tW l S.m.tb) S.m.nu S.m.bk S.m.d (tW l S.m.dg) S.m.ys (fun q => Stops 1 (.exit 0) fH (HdW l s p S) q)) ⟨nxt_end hp, rfl, Wk.refl _ _ _⟩)).mono fun q hq => hq.can
theorem runL_ok : ∀ {s : List Nat} {S : Sc}, ScOk l S → ScOk l (runL l s S)
  | [], S, h => h
  | c :: s, S, h => runL_ok (s := s) (S := step l c S) (step_ok h)
theorem loopW (h0 : l ≠ []) (hB : ∀ x, x ∈ l → x < 256) (h : ScOk l S) (hs : ∀ c, c ∈ s → c ∈ letters) :
    Trip Try.prog 1 none (.block 0 (.loop L33)) fH (HdW l s 0 S) fun q => Stops 1 .normal fH (HdW l s s.length (runL l s S)) q := by
  refine Trip.block (Trip.loop (fun μ fr st => ∃ i, i ≤ s.length ∧ μ = s.length - i ∧ fr = fH ∧ st = HdW l s i (runL l (s.take i) S)) ?_ s.length ⟨0, Nat.zero_le _, rfl, rfl, rfl⟩)
  rintro μ fr st ⟨i, hi, rfl, rfl, rfl⟩
  by_cases e : i < s.length
  · have hc : s[i]? = some s[i] := List.getElem?_eq_getElem e
    refine (rndW h0 hB (runL_ok h) hc (hs _ (List.getElem_mem e))).mono ?_
    rintro ⟨x, fr', st'⟩ ⟨h1, h2⟩
    simp only at h1
    subst h1
    exact ⟨s.length - (i + 1), _, _, by omega, h2, i + 1, by omega, rfl, rfl, by rw [runL_snoc hc]⟩
  · have ei : i = s.length := by omega
    refine (rWe (runL_ok h) ei).mono ?_
    rintro ⟨x, fr', st'⟩ ⟨h1, h2⟩
    simp only at h1
    subst h1
    subst ei
    exact ⟨fun _ => ⟨rfl, by rw [runL_all] at h2; exact h2⟩, fun h => absurd rfl h⟩
def kN (l : List Nat) : Nat := numV l 0 false 1
def S0 (l : List Nat) : Sc := ⟨toO l 0 false 1, toB l 0 false 1, ⟨.ofNat (kN l), .ofNat 0, .ofNat 0, .ofNat 0, .ofNat 0, .ofNat 0, .ofNat 0, .ofNat 0, .ofNat 0, false, .ofNat 0, .no, .ofNat 0, .ofNat 0, fun _ => 0, .no, false⟩⟩
def SE (l : List Nat) : Sc := runL l (names (kN l)) (S0 l)
theorem S0_ok : ScOk l (S0 l) := ⟨(toO_le (Nat.zero_le _) : toO l 0 false 1 ≤ l.length), trivial, trivial⟩
theorem SE_ok : ScOk l (SE l) := runL_ok S0_ok
theorem kN_lt (hB : ∀ x, x ∈ l → x < 256) : kN l < 256 := by
  exact numV_lt (o := 0) (bad := false) hB (k := 1) (by decide)
noncomputable def mP (l : List Nat) (V : AV) (b : Bool) (m : AO) : ASt := mkSt ([(0, R0 l), (1, Zo), (3, R2 l), (4, rd V b)] ++ prtL ++ [(37, m)]) 38
noncomputable def fP : AFr := xFr [(2, .ptr (some (1, 0))), (4, .ptr (some (4, 0))), (5, .ptr (some (37, 0))), (6, .map (some 7))] 39
noncomputable def mE (l : List Nat) (m : List AV) : ASt := mkSt [(0, R0 l), (1, .cells m true), (3, R2 l)] 41
noncomputable def fE (e : Nat) : AFr := xFr [(2, .ptr (some (1, 0))), (3, nI e)] 39
def goodE (l : List Nat) (my : Bool) : Bool := Nat.beq (endN l (SE l).o (SE l).bad) 0 && my
def mEnd (l : List Nat) (my : Bool) : List AV := bif goodE l my then mW l (SE l).m else zMsg
def eEnd (l : List Nat) (my : Bool) : Nat := bif goodE l my then 0 else 4
theorem app25 : appT EP 25 25 = some (1, 1) := by kernel_rfl
theorem dropW {si : AO} {m' : List AV} (ho : o ≤ l.length) (hm : ∀ c, c ∈ m' → refsV 39 c) : Wk 1 fH (mX l Zo (vIn 3 l o) b (.cells m' true) si 39) (xFr [(2, .ptr (some (1, 0))), (4, .ptr (some (4, 0))), (5, .ptr (some (37, 0)))] 39) (mX l Zo (vIn 3 l o) b (.cells m' true) .dead 39) :=
  Wk.heldX (kb := 1) (List.range 39) (by kernel_rfl) (by kernel_rfl) [2, 4, 5] (by kernel_rfl)
    (.cons 0 (R0 l) rfl (by kernel_rfl) (.row (refU l)) <| .cons 1 Zo rfl (by kernel_rfl) (.row Zo_refs) <| .cons 3 (R2 l) rfl (by kernel_rfl) (.row (refU l)) <| .cons 4 (rd (vIn 3 l o) b) rfl (by kernel_rfl) (.keep (kb := 39) rfl (rd_refs ho)) <|
     .cons 7 mapP rfl (by kernel_rfl) (.of (by kernel_rfl)) <| .cons 8 (.cells [.clos 97 []] true) rfl (by kernel_rfl) (.of (by kernel_rfl)) <| .cons 9 (.cells [.clos 98 []] true) rfl (by kernel_rfl) (.of (by kernel_rfl)) <| .cons 11 (.cells [.clos 99 []] true) rfl (by kernel_rfl) (.of (by kernel_rfl)) <| .cons 12 (.cells [.clos 100 []] true) rfl (by kernel_rfl) (.of (by kernel_rfl)) <| .cons 14 (.cells [.clos 101 []] true) rfl (by kernel_rfl) (.of (by kernel_rfl)) <| .cons 15 (.cells [.clos 102 []] true) rfl (by kernel_rfl) (.of (by kernel_rfl)) <| .cons 17 (.cells [.clos 103 []] true) rfl (by kernel_rfl) (.of (by kernel_rfl)) <| .cons 18 (.cells [.clos 104 []] true) rfl (by kernel_rfl) (.of (by kernel_rfl)) <| .cons 20 (.cells [.clos 105 []] true) rfl (by kernel_rfl) (.of (by kernel_rfl)) <| .cons 21 (.cells [.clos 106 []] true) rfl (by kernel_rfl) (.of (by kernel_rfl)) <| .cons 25 (.cells [.clos 110 []] true) rfl (by kernel_rfl) (.of (by kernel_rfl)) <| .cons 27 (.cells [.clos 111 []] true) rfl (by kernel_rfl) (.of (by kernel_rfl)) <| .cons 29 (.cells [.clos 113 []] true) rfl (by kernel_rfl) (.of (by kernel_rfl)) <| .cons 31 (.cells [.clos 114 []] true) rfl (by kernel_rfl) (.of (by kernel_rfl)) <| .cons 33 (.cells [.clos 116 []] true) rfl (by kernel_rfl) (.of (by kernel_rfl)) <| .cons 35 (.cells [.clos 117 []] true) rfl (by kernel_rfl) (.of (by kernel_rfl)) <|
     .cons 37 (.cells m' true) rfl (by kernel_rfl) (.keep (kb := 39) rfl hm) <| .dead (by decide) .nil)
theorem stMsg (h : ScOk l S) {b : Bool} : Option.map (fun s => (undefA, s)) (aStore EP 81 (.ptr (some (1, 0))) (.agg (mW l S.m)) (mX l Zo V b m si nx)) = some (.tuple [], mX l (.cells (mW l S.m) true) V b m si nx) := by
  kernel_rfl
theorem tailW (h : ScOk l S) {my : Bool} (hm : Call1 Try.prog 31 [.agg (mW l S.m)] (mX l Zo (vIn 3 l S.o) S.bad (.cells (mW l S.m) true) .dead 41) (.bool my, mX l Zo (vIn 3 l S.o) S.bad (.cells (mW l S.m) true) .dead 41)) (h0 : l ≠ []) :
    Trip Try.prog 1 none (dropC 3 c33) (xFr [(2, .ptr (some (1, 0))), (4, .ptr (some (4, 0))), (5, .ptr (some (37, 0)))] 39) (mX l Zo (vIn 3 l S.o) S.bad (.cells (mW l S.m) true) .dead 39)
      fun q => Stops 1 .ret (fE (bif Nat.beq (endN l S.o S.bad) 0 && my then 0 else 4)) (mE l (bif Nat.beq (endN l S.o S.bad) 0 && my then mW l S.m else zMsg)) q := by
  have c1 : Call1 Try.prog 64 [.ptr (some (4, 0))] (mX l Zo (vIn 3 l S.o) S.bad (.cells (mW l S.m) true) .dead 39) (nI (endN l S.o S.bad), mX l Zo (vIn 3 l S.o) S.bad (.cells (mW l S.m) true) .dead 41) :=
    cW (bad := S.bad) h0 h.o h.o refN (endRun h.o) (Nat.le_refl 2) (fun _ _ => rfl) (by decide)
  have he : endN l S.o S.bad = 0 ∨ endN l S.o S.bad = 4 := by
    unfold endN
    cases S.bad || Nat.blt 0 (l.length - S.o)
    · exact .inl rfl
    · exact .inr rfl
  rcases he with he | he
  · rw [he] at c1 ⊢
    have hq := smOk (tab := [(64, [.ptr (some (4, 0))], mX l Zo (vIn 3 l S.o) S.bad (.cells (mW l S.m) true) .dead 39, (nI 0, mX l Zo (vIn 3 l S.o) S.bad (.cells (mW l S.m) true) .dead 41)), (31, [.agg (mW l S.m)], mX l Zo (vIn 3 l S.o) S.bad (.cells (mW l S.m) true) .dead 41, (.bool my, mX l Zo (vIn 3 l S.o) S.bad (.cells (mW l S.m) true) .dead 41))]) (fun e he => by
      simp only [List.mem_cons, List.not_mem_nil, or_false] at he
      rcases he with rfl | rfl
      · exact c1
      · exact hm)
    refine (Trip.runY EPok hq (Eq.mp (vcE0 _ (R0 l) (R2 l) (vIn 3 l S.o) S.bad S.m.k S.m.nd S.m.bl S.m.ro S.m.sa S.m.cu S.m.ba S.m.h0 S.m.h1 S.m.cr S.m.se (tW l S.m.tb) S.m.nu S.m.bk S.m.d (tW l S.m.dg) S.m.ys my (fun q => Stops 1 .ret (fE (bif Nat.beq 0 0 && my then 0 else 4)) (mE l (bif Nat.beq 0 0 && my then mW l S.m else zMsg)) q)) ⟨call_at (onlyC_at rfl (tabC_hd ..)), call_at (onlyC_at rfl ((tabC_tlf rfl).trans (tabC_hd ..))), ifB_mk (fun g => ?_) fun g => ?_⟩)).mono fun q hq => hq.can
    · have : my = false := by cases my <;> simp_all
      subst this
      exact ⟨by kernel_rfl, rfl, Wk.refl _ _ _⟩
    · have : my = true := by cases my <;> simp_all
      subst this
      exact ⟨stMsg h, rfl, Wk.refl _ _ _⟩
  · rw [he] at c1 ⊢
    exact (Trip.runY EPok (smOk (tab1 c1)) (Eq.mp (vcE4 _ (R0 l) (R2 l) (vIn 3 l S.o) S.bad S.m.k S.m.nd S.m.bl S.m.ro S.m.sa S.m.cu S.m.ba S.m.h0 S.m.h1 S.m.cr S.m.se (tW l S.m.tb) S.m.nu S.m.bk S.m.d (tW l S.m.dg) S.m.ys (fun q => Stops 1 .ret (fE (bif Nat.beq 4 0 && my then 0 else 4)) (mE l (bif Nat.beq 4 0 && my then mW l S.m else zMsg)) q)) ⟨call_at (onlyC_at rfl (tabC_hd ..)), rfl, Wk.refl _ _ _⟩)).mono fun q hq => hq.can
theorem tripW (h0 : l ≠ []) (hB : ∀ x, x ∈ l → x < 256) (hl : l.length < 1099511627776) {my : Bool} (hm : Call1 Try.prog 31 [.agg (mW l (SE l).m)] (mX l Zo (vIn 3 l (SE l).o) (SE l).bad (.cells (mW l (SE l).m) true) .dead 41) (.bool my, mX l Zo (vIn 3 l (SE l).o) (SE l).bad (.cells (mW l (SE l).m) true) .dead 41)) :
    Trip Try.prog 1 none c33 (xFr [(0, .slice (some (0, 0)) l.length (.atl l.length))] 39) (mkSt [(0, R0 l)] 1) fun q => Stops 1 .ret (fE (eEnd l my)) (mE l (mEnd l my)) q := by
  have hp : 0 < l.length := List.length_pos_iff.2 h0
  have hwx : wrapF .i64 (.ofNat (kN l)) = .ofNat (kN l) := wrap_nat (by have := kN_lt hB; omega)
  have v0 : AV.slice (some (3, 0)) l.length (.rest 1) = vIn 3 l 0 := by
    rcases forms2 3 (Nat.zero_le l.length) with ⟨e, _, _, _⟩ | ⟨_, e, _, _⟩ | ⟨_, _, _, e⟩
    · exact absurd e h0
    · omega
    · rw [e, Nat.sub_zero]
  have c1 : Call1 Try.prog 62 [.ptr (some (4, 0)), nI 1] (mkSt [(0, R0 l), (1, Zo), (2, .cells [] true), (3, R2 l), (4, rd (.slice (some (3, 0)) l.length (.rest 1)) false)] 5) (.int .u64 (.ofNat (kN l)), mkSt [(0, R0 l), (1, Zo), (2, .cells [] true), (3, R2 l), (4, rd (vIn 3 l (S0 l).o) (S0 l).bad)] 7) :=
    to1 (atRowW (m := 2) (i := 4) (r := 3) (S := mkSt [(0, R0 l), (1, Zo), (2, .cells [] true), (3, R2 l), (4, rd (.slice (some (3, 0)) l.length (.rest 1)) false)] 5) h0 (Nat.zero_le _) (toO_le (Nat.zero_le _)) (refI 1) (rdr.num1 (Nat.zero_le _) hB) (Nat.le_refl 2) (fun _ _ => rfl) (by rw [← v0]; kernel_rfl) (by kernel_rfl) (by decide) (by show 4 < 5; decide) (by show 3 < 5; decide)) rfl (by kernel_rfl)
  refine Trip.preY (Q1 := fun q => q = (.normal, fP, mP l (vIn 3 l (S0 l).o) (S0 l).bad (.cells (mW l (S0 l).m) true))) (k := 2) EPok (smOk (tab1 c1)) (by kernel_rfl) (Eq.mp (vcP0 _ l.length (kN l) (R0 l) (R2 l) (vIn 3 l (S0 l).o) (S0 l).bad (fun q => q = (.normal, fP, mP l (vIn 3 l (S0 l).o) (S0 l).bad (.cells (mW l (S0 l).m) true)))) ⟨?_, ?_, ?_⟩) (fun F S e => ?_) (fun r hr e => ?_)
  · exact (append_zero_at app25 (n := l.length) (k := 2) (cs := []) (rw := true) (new := l.map cellU) (by kernel_rfl) (first_at (rw := false) (by kernel_rfl) (by rw [Nat.mul_one]; exact takeU)) (by kernel_rfl) hp (by omega) (by omega)).trans (by kernel_rfl)
  · exact call_at (onlyC_at rfl (tabC_hd ..))
  · unfold vcP0_s4
    rw [hwx]; rfl
  · cases e
    rw [show dropC 2 c33 = .seq (.seq (seqL A33) (.block 0 (.loop L33))) (dropC 3 c33) by kernel_rfl]
    refine Trip.seq (R := fun q => Stops 1 .normal fH (HdW l (names (kN l)) (names (kN l)).length (SE l)) q) ?_ (fun fr' st' hq => Trip.less hq.2 (Trip.less (dropW SE_ok.o (scW SE_ok)) (tailW SE_ok hm h0))) (fun e fr' st' hne hq => absurd hq.1 hne)
    refine Trip.seq (R := fun q => Stops 1 .normal fH (HdW l (names (kN l)) 0 (S0 l)) q) ?_ (fun fr' st' hq => Trip.less hq.2 (loopW h0 hB S0_ok (names_ok _))) (fun e fr' st' hne hq => absurd hq.1 hne)
    exact (Trip.runY EPok (smOk (tab1 (n28_at (kN l)))) (Eq.mp (vcP3 _ (names (kN l)) (R0 l) Zo (R2 l) (vIn 3 l (S0 l).o) (S0 l).bad (S0 l).m.k (S0 l).m.nd (S0 l).m.bl (S0 l).m.ro (S0 l).m.sa (S0 l).m.cu (S0 l).m.ba (S0 l).m.h0 (S0 l).m.h1 (S0 l).m.cr (S0 l).m.se (tW l (S0 l).m.tb) (S0 l).m.nu (S0 l).m.bk (S0 l).m.d (tW l (S0 l).m.dg) (S0 l).m.ys (fun q => Stops 1 .normal fH (HdW l (names (kN l)) 0 (S0 l)) q)) ⟨call_at (onlyC_at rfl (tabC_hd ..)), rfl, Wk.refl _ _ _⟩)).mono fun q hq => hq.can
  · exact absurd (congrArg Prod.fst e) hr
end
end Go.Proofs.Ytlnohbilfogheaa.mrd
end

section
open Go Go.Ax Go.Proofs.Ytlnohbilfogheaa Go.Proofs.Ytlnohbilfogheaa.rdr Go.Proofs.Ytlnohbilfogheaa.rrq
namespace Go.Proofs.Ytlnohbilfogheaa.mrd
set_option linter.unusedVariables false
theorem EGok : Env.Ok Try.prog EG := envEx_ok (xs := []) ⟨⟨Try.func34, Try.call34⟩, trivial⟩ trivial (by kernel_rfl)
noncomputable def mY (l : List Nat) (Z : AO) (V : AV) (b : Bool) (m : AO) (nx : Nat) : ASt := mkSt [(0, R0 l), (1, Z), (2, rq V b), (5, m)] nx
section
variable {l : List Nat} {o o' p nx : Nat} {bad bad' : Bool} {s : List Nat} {S : Sc} {V : AV} {b : Bool} {m : AO} {M : ASt}
theorem lessY (hp : p < s.length) : still M (aBin EG .lss 3 (.tmp 18) (.tmp 20) (.int .i64 (.ofNat p)) (.int .i64 (.ofNat s.length))) = some (.bool true, M) := by
  refine still_of ?_
  show some (AV.bool (ltF (.ofNat p) (.ofNat s.length))) = _
  rw [ltF_nn, decide_eq_true hp]
theorem lessN (hp : p = s.length) : still M (aBin EG .lss 3 (.tmp 18) (.tmp 20) (.int .i64 (.ofNat p)) (.int .i64 (.ofNat s.length))) = some (.bool false, M) := by
  refine still_of ?_
  show some (AV.bool (ltF (.ofNat p) (.ofNat s.length))) = _
  rw [ltF_nn, decide_eq_false (by omega)]
theorem atY {c : Nat} (hs : s[p]? = some c) : still M (aIndex EG 9 (.str s) (.int .i64 (.ofNat p))) = some (.int .u8 (.ofNat c), M) := by
  refine still_of ?_
  have e : aIndex EG 9 (.str s) (.int .i64 (.ofNat p)) = (match s[p]? with | some b => some (AV.int .u8 (.ofNat b)) | none => none) := by kernel_rfl
  rw [e, hs]
theorem cY {f n : Nat} {ex : List AV} {v v' : AV} (h0 : l ≠ []) (ho : o ≤ l.length) (ho' : o' ≤ l.length) (hex : ∀ c, c ∈ ex → refsV 0 c) (h : AtS Try.prog f (.ptr (some (1, 0)) :: ex) (stK l o bad) (v, stKm l o' bad' n)) (h2 : 2 ≤ n)
    (hvm : ∀ g : Nat → Nat, g 0 = 0 → mapV g v = v') (hn : 6 ≤ nx) : Call1 Try.prog f (.ptr (some (2, 0)) :: ex) (mY l Zo (mv 0 (vQ l o)) bad m nx) (v', mY l Zo (mv 0 (vQ l o')) bad' m (nx + n)) :=
  to1 (atRowQ (i := 2) (r := 0) (rw := false) (S := mY l Zo (mv 0 (vQ l o)) bad m nx) h0 ho ho' hex h h2 hvm (by kernel_rfl) (by kernel_rfl) (by decide) (by show 2 < nx; omega) (by show 0 < nx; omega)) rfl (by kernel_rfl)
theorem tQ_refs {x : Sl} (h : SlOk l x) {k : Nat} (hk : 0 < k) : refsV k (tQ l x) := by
  cases x with
  | no => simp [tQ, nilS, refsV]
  | cut o b n =>
    have h : o ≤ l.length := h
    show refsV k (mv 0 (cutQ l o b n))
    unfold cutQ
    cases toB l o b n
    · simp only [cond_false]
      rcases formsQ h with ⟨_, _, e⟩ | ⟨_, _, e⟩ <;> rw [e] <;> simp [mv, mapV, refsV, hk]
    · simp [mv, mapV, refsV, nilV]
theorem vQ_refs (ho : o ≤ l.length) {k : Nat} (hk : 0 < k) : refsV k (mv 0 (vQ l o)) := by
  rcases formsQ ho with ⟨_, e, _⟩ | ⟨_, e, _⟩ <;> rw [e] <;> simp [mv, mapV, refsV, hk]
theorem rq_refs (ho : o ≤ l.length) : refsO2 6 (rq (mv 0 (vQ l o)) b) := by
  intro c hc
  simp only [List.mem_cons, List.not_mem_nil, or_false] at hc
  rcases hc with rfl | rfl
  · exact vQ_refs ho (by decide)
  · simp [refsV]
theorem heldY {m' : List AV} (ho : o ≤ l.length) (hm : ∀ c, c ∈ m' → refsV 6 c) : Wk 1 (fG s p) (mY l Zo (mv 0 (vQ l o)) b (.cells m' true) nx) (fG s p) (mY l Zo (mv 0 (vQ l o)) b (.cells m' true) 6) :=
  Wk.heldX (kb := 1) (List.range 6) (by kernel_rfl) (by kernel_rfl) [2, 4, 5, 6, 7] (by kernel_rfl)
    (.cons 0 (R0 l) rfl (by kernel_rfl) (.row (refU l)) <| .cons 1 Zo rfl (by kernel_rfl) (.row Zo_refs) <| .cons 2 (rq (mv 0 (vQ l o)) b) rfl (by kernel_rfl) (.keep (kb := 6) rfl (rq_refs ho)) <| .cons 5 (.cells m' true) rfl (by kernel_rfl) (.keep (kb := 6) rfl hm) .nil)
theorem scQ (h : ScOk l S) : ∀ c, c ∈ mQ l S.m → refsV 6 c := msg_refs (tQ_refs h.tb (k := 6) (by decide)) (tQ_refs h.dg (k := 6) (by decide))
def NextY (l s : List Nat) (p c : Nat) (S : Sc) (q : Exit × AFr × ASt) : Prop := Stops 1 .normal (fG s (p + 1)) (mY l Zo (mv 0 (vQ l (step l c S).o)) (step l c S).bad (.cells (mQ l (step l c S).m) true) 6) q
theorem endY {c : Nat} {S' : ASt} (h : ScOk l S) (hp : p < 100) (hS : S' = mY l Zo (mv 0 (vQ l (step l c S).o)) (step l c S).bad (.cells (mQ l (step l c S).m) true) nx) : NextY l s p c S (.normal, xFr [(2, .ptr (some (1, 0))), (4, .ptr (some (2, 0))), (5, .ptr (some (5, 0))), (6, .str s), (7, .int .i64 (wrapF .i64 (Int.ofNat p + Int.ofNat 1)))] 122, S') := by
  have e : wrapF .i64 (Int.ofNat p + Int.ofNat 1) = .ofNat (p + 1) := wrap_nat (n := p + 1) (by omega)
  subst hS
  rw [e]
  exact ⟨rfl, heldY (step_ok h).o (scQ (step_ok h))⟩
theorem smOkG {tab : List (Nat × List AV × ASt × (AV × ASt))} (h : ∀ e, e ∈ tab → Call1 Try.prog e.1 e.2.1 e.2.2.1 e.2.2.2) : CallsOK Try.prog (smG (tabC tab)) := onlyC_ok (tabC_ok h)
noncomputable abbrev HdY (l : List Nat) (S : Sc) : ASt := mY l Zo (mv 0 (vQ l S.o)) S.bad (.cells (mQ l S.m) true) 6
abbrev RndY (l s : List Nat) (p c : Nat) (S : Sc) : Prop := Trip Try.prog 1 none L34 (fG s p) (HdY l S) (NextY l s p c S)
theorem mvQ_forms (ho : o ≤ l.length) {n : Nat} : mv 0 (cutQ l o bad n) = nilS ∨ mv 0 (cutQ l o bad n) = .slice0 ∨ ∃ j k c, mv 0 (cutQ l o bad n) = .slice (some (0, j)) k c := by
  unfold cutQ
  cases toB l o bad n
  · simp only [cond_false]
    rcases formsQ ho with ⟨_, _, e⟩ | ⟨_, _, e⟩ <;> rw [e]
    · exact .inr (.inl rfl)
    · exact .inr (.inr ⟨o, n, .atl (l.length - o), rfl⟩)
  · exact .inl rfl
theorem mapDY (d : Nat → Nat) (g : Nat → Nat) (hg : g 0 = 0) : mapV g (.agg (ddL d)) = .agg (ddL d) := by kernel_rfl
theorem stYg {k nd bl ro sa cu ba h0 h1 : Int} {cr : Bool} {se : Int} {tb : AV} {nu bk : Int} {d : Nat → Nat} {dg : AV} {ys : Bool} {n : Nat} (ho : o ≤ l.length) : Option.map (fun s => (undefA, s)) (aStore EG 25 (.ptr (some (5, 270))) (mv 0 (cutQ l o bad n)) (mY l Zo V b (.cells (msgL k nd bl ro sa cu ba h0 h1 cr se tb nu bk d dg ys) true) nx)) = some (.tuple [], mY l Zo V b (.cells (msgL k nd bl ro sa cu ba h0 h1 cr se tb nu bk d (mv 0 (cutQ l o bad n)) ys) true) nx) := by
  rcases mvQ_forms (bad := bad) ho (n := n) with e | e | ⟨j, k', c, e⟩ <;> rw [e] <;> kernel_rfl
theorem stYa {k nd bl ro sa cu ba h0 h1 : Int} {cr : Bool} {se : Int} {tb : AV} {nu bk : Int} {d : Nat → Nat} {dg : AV} {ys : Bool} {n : Nat} (ho : o ≤ l.length) : Option.map (fun s => (undefA, s)) (aStore EG 25 (.ptr (some (5, 11))) (mv 0 (cutQ l o bad n)) (mY l Zo V b (.cells (msgL k nd bl ro sa cu ba h0 h1 cr se tb nu bk d dg ys) true) nx)) = some (.tuple [], mY l Zo V b (.cells (msgL k nd bl ro sa cu ba h0 h1 cr se (mv 0 (cutQ l o bad n)) nu bk d dg ys) true) nx) := by
  rcases mvQ_forms (bad := bad) ho (n := n) with e | e | ⟨j, k', c, e⟩ <;> rw [e] <;> kernel_rfl
theorem rYn (h0 : l ≠ []) (hB : ∀ x, x ∈ l → x < 256) (hp : p < 100) (h : ScOk l S) (hs : s[p]? = some 110) : RndY l s p 110 S := by
  have c1 := cY (bad := S.bad) (m := .cells (mQ l S.m) true) (nx := 6) h0 h.o (toO_le h.o) (refI 1) (rrq.num1 h.o hB) (Nat.le_refl 2) (fun _ _ => rfl) (by decide)
  exact (Trip.runY EGok (smOkG (tab1 c1)) (Eq.mp (vcGn _ s p (R0 l) Zo (mv 0 (vQ l S.o)) S.bad S.m.k S.m.nd S.m.bl S.m.ro S.m.sa S.m.cu S.m.ba S.m.h0 S.m.h1 S.m.cr S.m.se (tQ l S.m.tb) S.m.nu S.m.bk S.m.d (tQ l S.m.dg) S.m.ys (numV l S.o S.bad 1) (mv 0 (vQ l (toO l S.o S.bad 1))) (toB l S.o S.bad 1) (fun q => NextY l s p 110 S q)) ⟨lessY (List.getElem?_eq_some_iff.1 hs).1, atY hs, call_at (onlyC_at rfl (tabC_hd ..)), endY (nx := 6 + 2) h hp rfl⟩)).mono fun q hq => hq.can
theorem rYb (h0 : l ≠ []) (hB : ∀ x, x ∈ l → x < 256) (hp : p < 100) (h : ScOk l S) (hs : s[p]? = some 98) : RndY l s p 98 S := by
  have c1 := cY (bad := S.bad) (m := .cells (mQ l S.m) true) (nx := 6) h0 h.o (toO_le h.o) (refI 1) (rrq.num1 h.o hB) (Nat.le_refl 2) (fun _ _ => rfl) (by decide)
  exact (Trip.runY EGok (smOkG (tab1 c1)) (Eq.mp (vcGb _ s p (R0 l) Zo (mv 0 (vQ l S.o)) S.bad S.m.k S.m.nd S.m.bl S.m.ro S.m.sa S.m.cu S.m.ba S.m.h0 S.m.h1 S.m.cr S.m.se (tQ l S.m.tb) S.m.nu S.m.bk S.m.d (tQ l S.m.dg) S.m.ys (numV l S.o S.bad 1) (mv 0 (vQ l (toO l S.o S.bad 1))) (toB l S.o S.bad 1) (fun q => NextY l s p 98 S q)) ⟨lessY (List.getElem?_eq_some_iff.1 hs).1, atY hs, call_at (onlyC_at rfl (tabC_hd ..)), endY (nx := 6 + 2) h hp rfl⟩)).mono fun q hq => hq.can
theorem rYr (h0 : l ≠ []) (hB : ∀ x, x ∈ l → x < 256) (hp : p < 100) (h : ScOk l S) (hs : s[p]? = some 114) : RndY l s p 114 S := by
  have c1 := cY (bad := S.bad) (m := .cells (mQ l S.m) true) (nx := 6) h0 h.o (toO_le h.o) (refI 1) (rrq.num1 h.o hB) (Nat.le_refl 2) (fun _ _ => rfl) (by decide)
  exact (Trip.runY EGok (smOkG (tab1 c1)) (Eq.mp (vcGr _ s p (R0 l) Zo (mv 0 (vQ l S.o)) S.bad S.m.k S.m.nd S.m.bl S.m.ro S.m.sa S.m.cu S.m.ba S.m.h0 S.m.h1 S.m.cr S.m.se (tQ l S.m.tb) S.m.nu S.m.bk S.m.d (tQ l S.m.dg) S.m.ys (numV l S.o S.bad 1) (mv 0 (vQ l (toO l S.o S.bad 1))) (toB l S.o S.bad 1) (fun q => NextY l s p 114 S q)) ⟨lessY (List.getElem?_eq_some_iff.1 hs).1, atY hs, call_at (onlyC_at rfl (tabC_hd ..)), endY (nx := 6 + 2) h hp rfl⟩)).mono fun q hq => hq.can
theorem rYs (h0 : l ≠ []) (hB : ∀ x, x ∈ l → x < 256) (hp : p < 100) (h : ScOk l S) (hs : s[p]? = some 115) : RndY l s p 115 S := by
  have c1 := cY (bad := S.bad) (m := .cells (mQ l S.m) true) (nx := 6) h0 h.o (toO_le h.o) (refI 1) (rrq.num1 h.o hB) (Nat.le_refl 2) (fun _ _ => rfl) (by decide)
  exact (Trip.runY EGok (smOkG (tab1 c1)) (Eq.mp (vcGs _ s p (R0 l) Zo (mv 0 (vQ l S.o)) S.bad S.m.k S.m.nd S.m.bl S.m.ro S.m.sa S.m.cu S.m.ba S.m.h0 S.m.h1 S.m.cr S.m.se (tQ l S.m.tb) S.m.nu S.m.bk S.m.d (tQ l S.m.dg) S.m.ys (numV l S.o S.bad 1) (mv 0 (vQ l (toO l S.o S.bad 1))) (toB l S.o S.bad 1) (fun q => NextY l s p 115 S q)) ⟨lessY (List.getElem?_eq_some_iff.1 hs).1, atY hs, call_at (onlyC_at rfl (tabC_hd ..)), endY (nx := 6 + 2) h hp rfl⟩)).mono fun q hq => hq.can
theorem rYk (h0 : l ≠ []) (hB : ∀ x, x ∈ l → x < 256) (hp : p < 100) (h : ScOk l S) (hs : s[p]? = some 107) : RndY l s p 107 S := by
  have c1 := cY (bad := S.bad) (m := .cells (mQ l S.m) true) (nx := 6) h0 h.o (toO_le h.o) (refI 1) (rrq.num1 h.o hB) (Nat.le_refl 2) (fun _ _ => rfl) (by decide)
  exact (Trip.runY EGok (smOkG (tab1 c1)) (Eq.mp (vcGk _ s p (R0 l) Zo (mv 0 (vQ l S.o)) S.bad S.m.k S.m.nd S.m.bl S.m.ro S.m.sa S.m.cu S.m.ba S.m.h0 S.m.h1 S.m.cr S.m.se (tQ l S.m.tb) S.m.nu S.m.bk S.m.d (tQ l S.m.dg) S.m.ys (numV l S.o S.bad 1) (mv 0 (vQ l (toO l S.o S.bad 1))) (toB l S.o S.bad 1) (fun q => NextY l s p 107 S q)) ⟨lessY (List.getElem?_eq_some_iff.1 hs).1, atY hs, call_at (onlyC_at rfl (tabC_hd ..)), endY (nx := 6 + 2) h hp rfl⟩)).mono fun q hq => hq.can
theorem rYt (h0 : l ≠ []) (hB : ∀ x, x ∈ l → x < 256) (hp : p < 100) (h : ScOk l S) (hs : s[p]? = some 116) : RndY l s p 116 S := by
  have c1 := cY (bad := S.bad) (m := .cells (mQ l S.m) true) (nx := 6) h0 h.o (toO_le h.o) (refI 8) (rrq.num8 h.o hB) (Nat.le_refl 2) (fun _ _ => rfl) (by decide)
  exact (Trip.runY EGok (smOkG (tab1 c1)) (Eq.mp (vcGt _ s p (R0 l) Zo (mv 0 (vQ l S.o)) S.bad S.m.k S.m.nd S.m.bl S.m.ro S.m.sa S.m.cu S.m.ba S.m.h0 S.m.h1 S.m.cr S.m.se (tQ l S.m.tb) S.m.nu S.m.bk S.m.d (tQ l S.m.dg) S.m.ys (numV l S.o S.bad 8) (mv 0 (vQ l (toO l S.o S.bad 8))) (toB l S.o S.bad 8) (fun q => NextY l s p 116 S q)) ⟨lessY (List.getElem?_eq_some_iff.1 hs).1, atY hs, call_at (onlyC_at rfl (tabC_hd ..)), endY (nx := 6 + 2) h hp rfl⟩)).mono fun q hq => hq.can
theorem rYu (h0 : l ≠ []) (hB : ∀ x, x ∈ l → x < 256) (hp : p < 100) (h : ScOk l S) (hs : s[p]? = some 117) : RndY l s p 117 S := by
  have c1 := cY (bad := S.bad) (m := .cells (mQ l S.m) true) (nx := 6) h0 h.o (toO_le h.o) (refI 8) (rrq.num8 h.o hB) (Nat.le_refl 2) (fun _ _ => rfl) (by decide)
  exact (Trip.runY EGok (smOkG (tab1 c1)) (Eq.mp (vcGu _ s p (R0 l) Zo (mv 0 (vQ l S.o)) S.bad S.m.k S.m.nd S.m.bl S.m.ro S.m.sa S.m.cu S.m.ba S.m.h0 S.m.h1 S.m.cr S.m.se (tQ l S.m.tb) S.m.nu S.m.bk S.m.d (tQ l S.m.dg) S.m.ys (numV l S.o S.bad 8) (mv 0 (vQ l (toO l S.o S.bad 8))) (toB l S.o S.bad 8) (fun q => NextY l s p 117 S q)) ⟨lessY (List.getElem?_eq_some_iff.1 hs).1, atY hs, call_at (onlyC_at rfl (tabC_hd ..)), endY (nx := 6 + 2) h hp rfl⟩)).mono fun q hq => hq.can
theorem rYc (h0 : l ≠ []) (hB : ∀ x, x ∈ l → x < 256) (hp : p < 100) (h : ScOk l S) (hs : s[p]? = some 99) : RndY l s p 99 S := by
  have c1 := cY (bad := S.bad) (m := .cells (mQ l S.m) true) (nx := 6) h0 h.o (toO_le h.o) refN (flagQ h.o hB) (Nat.le_refl 2) (fun _ _ => rfl) (by decide)
  exact (Trip.runY EGok (smOkG (tab1 c1)) (Eq.mp (vcGc _ s p (R0 l) Zo (mv 0 (vQ l S.o)) S.bad S.m.k S.m.nd S.m.bl S.m.ro S.m.sa S.m.cu S.m.ba S.m.h0 S.m.h1 S.m.cr S.m.se (tQ l S.m.tb) S.m.nu S.m.bk S.m.d (tQ l S.m.dg) S.m.ys (flV l S.o S.bad) (mv 0 (vQ l (toO l S.o S.bad 1))) (flB l S.o S.bad) (fun q => NextY l s p 99 S q)) ⟨lessY (List.getElem?_eq_some_iff.1 hs).1, atY hs, call_at (onlyC_at rfl (tabC_hd ..)), endY (nx := 6 + 2) h hp rfl⟩)).mono fun q hq => hq.can
theorem rYy (h0 : l ≠ []) (hB : ∀ x, x ∈ l → x < 256) (hp : p < 100) (h : ScOk l S) (hs : s[p]? = some 121) : RndY l s p 121 S := by
  have c1 := cY (bad := S.bad) (m := .cells (mQ l S.m) true) (nx := 6) h0 h.o (toO_le h.o) refN (flagQ h.o hB) (Nat.le_refl 2) (fun _ _ => rfl) (by decide)
  exact (Trip.runY EGok (smOkG (tab1 c1)) (Eq.mp (vcGy _ s p (R0 l) Zo (mv 0 (vQ l S.o)) S.bad S.m.k S.m.nd S.m.bl S.m.ro S.m.sa S.m.cu S.m.ba S.m.h0 S.m.h1 S.m.cr S.m.se (tQ l S.m.tb) S.m.nu S.m.bk S.m.d (tQ l S.m.dg) S.m.ys (flV l S.o S.bad) (mv 0 (vQ l (toO l S.o S.bad 1))) (flB l S.o S.bad) (fun q => NextY l s p 121 S q)) ⟨lessY (List.getElem?_eq_some_iff.1 hs).1, atY hs, call_at (onlyC_at rfl (tabC_hd ..)), endY (nx := 6 + 2) h hp rfl⟩)).mono fun q hq => hq.can
theorem rYd (h0 : l ≠ []) (hB : ∀ x, x ∈ l → x < 256) (hp : p < 100) (h : ScOk l S) (hs : s[p]? = some 100) : RndY l s p 100 S := by
  have c1 := cY (bad := S.bad) (m := .cells (mQ l S.m) true) (nx := 6) h0 h.o (toO_le h.o) refN (blockQ h0 h.o) (by decide) (mapDY _) (by decide)
  exact (Trip.runY EGok (smOkG (tab1 c1)) (Eq.mp (vcGd _ s p (R0 l) Zo (mv 0 (vQ l S.o)) S.bad S.m.k S.m.nd S.m.bl S.m.ro S.m.sa S.m.cu S.m.ba S.m.h0 S.m.h1 S.m.cr S.m.se (tQ l S.m.tb) S.m.nu S.m.bk S.m.d (tQ l S.m.dg) S.m.ys (blkV l S.o S.bad) (mv 0 (vQ l (toO l S.o S.bad 256))) (toB l S.o S.bad 256) (fun q => NextY l s p 100 S q)) ⟨lessY (List.getElem?_eq_some_iff.1 hs).1, atY hs, call_at (onlyC_at rfl (tabC_hd ..)), endY (nx := 6 + 10) h hp rfl⟩)).mono fun q hq => hq.can
theorem rYl (h0 : l ≠ []) (hB : ∀ x, x ∈ l → x < 256) (hp : p < 100) (h : ScOk l S) (hs : s[p]? = some 108) : RndY l s p 108 S := by
  obtain ⟨o1, e1⟩ : ∃ x, x = toO l S.o S.bad 8 := ⟨_, rfl⟩
  obtain ⟨b1, f1⟩ : ∃ x, x = toB l S.o S.bad 8 := ⟨_, rfl⟩
  have l1 : o1 ≤ l.length := e1 ▸ toO_le h.o
  obtain ⟨o2, e2⟩ : ∃ x, x = toO l o1 b1 8 := ⟨_, rfl⟩
  obtain ⟨b2, f2⟩ : ∃ x, x = toB l o1 b1 8 := ⟨_, rfl⟩
  have l2 : o2 ≤ l.length := e2 ▸ toO_le l1
  obtain ⟨o3, e3⟩ : ∃ x, x = toO l o2 b2 8 := ⟨_, rfl⟩
  obtain ⟨b3, f3⟩ : ∃ x, x = toB l o2 b2 8 := ⟨_, rfl⟩
  have l3 : o3 ≤ l.length := e3 ▸ toO_le l2
  obtain ⟨o4, e4⟩ : ∃ x, x = toO l o3 b3 8 := ⟨_, rfl⟩
  obtain ⟨b4, f4⟩ : ∃ x, x = toB l o3 b3 8 := ⟨_, rfl⟩
  have l4 : o4 ≤ l.length := e4 ▸ toO_le l3
  have c1 : Call1 Try.prog 66 [.ptr (some (2, 0)), nI 8] (mY l Zo (mv 0 (vQ l S.o)) S.bad (.cells (mQ l S.m) true) 6) (.int .u64 (.ofNat (numV l S.o S.bad 8)), mY l Zo (mv 0 (vQ l o1)) b1 (.cells (mQ l S.m) true) 8) := by
    rw [e1, f1]; exact cY (bad := S.bad) h0 h.o (toO_le h.o) (refI 8) (rrq.num8 h.o hB) (Nat.le_refl 2) (fun _ _ => rfl) (by decide)
  have c2 : Call1 Try.prog 66 [.ptr (some (2, 0)), nI 8] (mY l Zo (mv 0 (vQ l o1)) b1 (.cells (msgL S.m.k S.m.nd S.m.bl S.m.ro S.m.sa (.ofNat (numV l S.o S.bad 8)) S.m.ba S.m.h0 S.m.h1 S.m.cr S.m.se (tQ l S.m.tb) S.m.nu S.m.bk S.m.d (tQ l S.m.dg) S.m.ys) true) 8) (.int .u64 (.ofNat (numV l o1 b1 8)), mY l Zo (mv 0 (vQ l o2)) b2 (.cells (msgL S.m.k S.m.nd S.m.bl S.m.ro S.m.sa (.ofNat (numV l S.o S.bad 8)) S.m.ba S.m.h0 S.m.h1 S.m.cr S.m.se (tQ l S.m.tb) S.m.nu S.m.bk S.m.d (tQ l S.m.dg) S.m.ys) true) 10) := by
    rw [e2, f2]; exact cY (bad := b1) h0 l1 (toO_le l1) (refI 8) (rrq.num8 l1 hB) (Nat.le_refl 2) (fun _ _ => rfl) (by decide)
  have c3 : Call1 Try.prog 66 [.ptr (some (2, 0)), nI 8] (mY l Zo (mv 0 (vQ l o2)) b2 (.cells (msgL S.m.k S.m.nd S.m.bl S.m.ro S.m.sa (.ofNat (numV l S.o S.bad 8)) (.ofNat (numV l o1 b1 8)) S.m.h0 S.m.h1 S.m.cr S.m.se (tQ l S.m.tb) S.m.nu S.m.bk S.m.d (tQ l S.m.dg) S.m.ys) true) 10) (.int .u64 (.ofNat (numV l o2 b2 8)), mY l Zo (mv 0 (vQ l o3)) b3 (.cells (msgL S.m.k S.m.nd S.m.bl S.m.ro S.m.sa (.ofNat (numV l S.o S.bad 8)) (.ofNat (numV l o1 b1 8)) S.m.h0 S.m.h1 S.m.cr S.m.se (tQ l S.m.tb) S.m.nu S.m.bk S.m.d (tQ l S.m.dg) S.m.ys) true) 12) := by
    rw [e3, f3]; exact cY (bad := b2) h0 l2 (toO_le l2) (refI 8) (rrq.num8 l2 hB) (Nat.le_refl 2) (fun _ _ => rfl) (by decide)
  have c4 : Call1 Try.prog 66 [.ptr (some (2, 0)), nI 8] (mY l Zo (mv 0 (vQ l o3)) b3 (.cells (msgL S.m.k S.m.nd S.m.bl S.m.ro S.m.sa (.ofNat (numV l S.o S.bad 8)) (.ofNat (numV l o1 b1 8)) (.ofNat (numV l o2 b2 8)) S.m.h1 S.m.cr S.m.se (tQ l S.m.tb) S.m.nu S.m.bk S.m.d (tQ l S.m.dg) S.m.ys) true) 12) (.int .u64 (.ofNat (numV l o3 b3 8)), mY l Zo (mv 0 (vQ l o4)) b4 (.cells (msgL S.m.k S.m.nd S.m.bl S.m.ro S.m.sa (.ofNat (numV l S.o S.bad 8)) (.ofNat (numV l o1 b1 8)) (.ofNat (numV l o2 b2 8)) S.m.h1 S.m.cr S.m.se (tQ l S.m.tb) S.m.nu S.m.bk S.m.d (tQ l S.m.dg) S.m.ys) true) 14) := by
    rw [e4, f4]; exact cY (bad := b3) h0 l3 (toO_le l3) (refI 8) (rrq.num8 l3 hB) (Nat.le_refl 2) (fun _ _ => rfl) (by decide)
  have hq := smOkG (tab := [(66, [.ptr (some (2, 0)), nI 8], mY l Zo (mv 0 (vQ l S.o)) S.bad (.cells (mQ l S.m) true) 6, (.int .u64 (.ofNat (numV l S.o S.bad 8)), mY l Zo (mv 0 (vQ l o1)) b1 (.cells (mQ l S.m) true) 8)), (66, [.ptr (some (2, 0)), nI 8], mY l Zo (mv 0 (vQ l o1)) b1 (.cells (msgL S.m.k S.m.nd S.m.bl S.m.ro S.m.sa (.ofNat (numV l S.o S.bad 8)) S.m.ba S.m.h0 S.m.h1 S.m.cr S.m.se (tQ l S.m.tb) S.m.nu S.m.bk S.m.d (tQ l S.m.dg) S.m.ys) true) 8, (.int .u64 (.ofNat (numV l o1 b1 8)), mY l Zo (mv 0 (vQ l o2)) b2 (.cells (msgL S.m.k S.m.nd S.m.bl S.m.ro S.m.sa (.ofNat (numV l S.o S.bad 8)) S.m.ba S.m.h0 S.m.h1 S.m.cr S.m.se (tQ l S.m.tb) S.m.nu S.m.bk S.m.d (tQ l S.m.dg) S.m.ys) true) 10)), (66, [.ptr (some (2, 0)), nI 8], mY l Zo (mv 0 (vQ l o2)) b2 (.cells (msgL S.m.k S.m.nd S.m.bl S.m.ro S.m.sa (.ofNat (numV l S.o S.bad 8)) (.ofNat (numV l o1 b1 8)) S.m.h0 S.m.h1 S.m.cr S.m.se (tQ l S.m.tb) S.m.nu S.m.bk S.m.d (tQ l S.m.dg) S.m.ys) true) 10, (.int .u64 (.ofNat (numV l o2 b2 8)), mY l Zo (mv 0 (vQ l o3)) b3 (.cells (msgL S.m.k S.m.nd S.m.bl S.m.ro S.m.sa (.ofNat (numV l S.o S.bad 8)) (.ofNat (numV l o1 b1 8)) S.m.h0 S.m.h1 S.m.cr S.m.se (tQ l S.m.tb) S.m.nu S.m.bk S.m.d (tQ l S.m.dg) S.m.ys) true) 12)), (66, [.ptr (some (2, 0)), nI 8], mY l Zo (mv 0 (vQ l o3)) b3 (.cells (msgL S.m.k S.m.nd S.m.bl S.m.ro S.m.sa (.ofNat (numV l S.o S.bad 8)) (.ofNat (numV l o1 b1 8)) (.ofNat (numV l o2 b2 8)) S.m.h1 S.m.cr S.m.se (tQ l S.m.tb) S.m.nu S.m.bk S.m.d (tQ l S.m.dg) S.m.ys) true) 12, (.int .u64 (.ofNat (numV l o3 b3 8)), mY l Zo (mv 0 (vQ l o4)) b4 (.cells (msgL S.m.k S.m.nd S.m.bl S.m.ro S.m.sa (.ofNat (numV l S.o S.bad 8)) (.ofNat (numV l o1 b1 8)) (.ofNat (numV l o2 b2 8)) S.m.h1 S.m.cr S.m.se (tQ l S.m.tb) S.m.nu S.m.bk S.m.d (tQ l S.m.dg) S.m.ys) true) 14))]) (fun e he => by
    simp only [List.mem_cons, List.not_mem_nil, or_false] at he
    rcases he with rfl | rfl | rfl | rfl
    · exact c1
    · exact c2
    · exact c3
    · exact c4)
  exact (Trip.runY EGok hq (Eq.mp (vcGl _ s p (R0 l) Zo (mv 0 (vQ l S.o)) S.bad S.m.k S.m.nd S.m.bl S.m.ro S.m.sa S.m.cu S.m.ba S.m.h0 S.m.h1 S.m.cr S.m.se (tQ l S.m.tb) S.m.nu S.m.bk S.m.d (tQ l S.m.dg) S.m.ys (numV l S.o S.bad 8) (numV l o1 b1 8) (numV l o2 b2 8) (numV l o3 b3 8) (mv 0 (vQ l o1)) (mv 0 (vQ l o2)) (mv 0 (vQ l o3)) (mv 0 (vQ l o4)) b1 b2 b3 b4 (fun q => NextY l s p 108 S q)) ⟨lessY (List.getElem?_eq_some_iff.1 hs).1, atY hs, call_at (onlyC_at rfl (tabC_hd ..)), call_at (onlyC_at rfl ((tabC_tln (by rfl)).trans (tabC_hd ..))), call_at (onlyC_at rfl ((tabC_tln (by rfl)).trans ((tabC_tln (by rfl)).trans (tabC_hd ..)))), call_at (onlyC_at rfl ((tabC_tln (by rfl)).trans ((tabC_tln (by rfl)).trans ((tabC_tln (by rfl)).trans (tabC_hd ..))))), endY (nx := 14) h hp (by subst e1; subst f1; subst e2; subst f2; subst e3; subst f3; subst e4; subst f4; rfl)⟩)).mono fun q hq => hq.can
theorem rYg (h0 : l ≠ []) (hB : ∀ x, x ∈ l → x < 256) (hp : p < 100) (h : ScOk l S) (hs : s[p]? = some 103) : RndY l s p 103 S := by
  have c1 := cY (bad := S.bad) (m := .cells (mQ l S.m) true) (nx := 6) h0 h.o (toO_le (toO_le h.o)) refN (blobQ h.o hB) (Nat.le_refl 2) (fun g hg => mv_eq hg (cutQ_form (toO_le h.o))) (by decide)
  exact (Trip.runY EGok (smOkG (tab1 c1)) (Eq.mp (vcGg _ s p (R0 l) Zo (mv 0 (vQ l S.o)) S.bad S.m.k S.m.nd S.m.bl S.m.ro S.m.sa S.m.cu S.m.ba S.m.h0 S.m.h1 S.m.cr S.m.se (tQ l S.m.tb) S.m.nu S.m.bk S.m.d (tQ l S.m.dg) S.m.ys (mv 0 (cutQ l (toO l S.o S.bad 2) (toB l S.o S.bad 2) (blobN l S.o S.bad))) (mv 0 (vQ l (toO l (toO l S.o S.bad 2) (toB l S.o S.bad 2) (blobN l S.o S.bad)))) (toB l (toO l S.o S.bad 2) (toB l S.o S.bad 2) (blobN l S.o S.bad)) (fun q => NextY l s p 103 S q)) ⟨lessY (List.getElem?_eq_some_iff.1 hs).1, atY hs, call_at (onlyC_at rfl (tabC_hd ..)), stYg (toO_le h.o), endY (nx := 8) h hp rfl⟩)).mono fun q hq => hq.can
theorem rYa (h0 : l ≠ []) (hB : ∀ x, x ∈ l → x < 256) (hp : p < 100) (h : ScOk l S) (hs : s[p]? = some 97) : RndY l s p 97 S := by
  have c1 := cY (bad := S.bad) (m := .cells (mQ l S.m) true) (nx := 6) h0 h.o (toO_le (toO_le h.o)) refN (blobQ h.o hB) (Nat.le_refl 2) (fun g hg => mv_eq hg (cutQ_form (toO_le h.o))) (by decide)
  exact (Trip.runY EGok (smOkG (tab1 c1)) (Eq.mp (vcGa _ s p (R0 l) Zo (mv 0 (vQ l S.o)) S.bad S.m.k S.m.nd S.m.bl S.m.ro S.m.sa S.m.cu S.m.ba S.m.h0 S.m.h1 S.m.cr S.m.se (tQ l S.m.tb) S.m.nu S.m.bk S.m.d (tQ l S.m.dg) S.m.ys (mv 0 (cutQ l (toO l S.o S.bad 2) (toB l S.o S.bad 2) (blobN l S.o S.bad))) (mv 0 (vQ l (toO l (toO l S.o S.bad 2) (toB l S.o S.bad 2) (blobN l S.o S.bad)))) (toB l (toO l S.o S.bad 2) (toB l S.o S.bad 2) (blobN l S.o S.bad)) (fun q => NextY l s p 97 S q)) ⟨lessY (List.getElem?_eq_some_iff.1 hs).1, atY hs, call_at (onlyC_at rfl (tabC_hd ..)), stYa (toO_le h.o), endY (nx := 8) h hp rfl⟩)).mono fun q hq => hq.can
theorem rndY {c : Nat} (h0 : l ≠ []) (hB : ∀ x, x ∈ l → x < 256) (hp : p < 100) (h : ScOk l S) (hs : s[p]? = some c) (hc : c ∈ letters) : RndY l s p c S := by
  simp only [letters, List.mem_cons, List.not_mem_nil, or_false] at hc
  rcases hc with rfl | rfl | rfl | rfl | rfl | rfl | rfl | rfl | rfl | rfl | rfl | rfl | rfl
  · exact rYn h0 hB hp h hs
  · exact rYb h0 hB hp h hs
  · exact rYr h0 hB hp h hs
  · exact rYs h0 hB hp h hs
  · exact rYk h0 hB hp h hs
  · exact rYt h0 hB hp h hs
  · exact rYu h0 hB hp h hs
  · exact rYc h0 hB hp h hs
  · exact rYy h0 hB hp h hs
  · exact rYg h0 hB hp h hs
  · exact rYa h0 hB hp h hs
  · exact rYd h0 hB hp h hs
  · exact rYl h0 hB hp h hs
theorem rYe (h : ScOk l S) (hp : p = s.length) : Trip Try.prog 1 none L34 (fG s p) (HdY l S) fun q => Stops 1 (.exit 0) (fG s p) (HdY l S) q :=
  (Trip.runY EGok (smOkG (tab := []) fun e he => by cases he) (Eq.mp (vcGe _ s p (R0 l) Zo (mv 0 (vQ l S.o)) S.bad S.m.k S.m.nd S.m.bl S.m.ro S.m.sa S.m.cu S.m.ba S.m.h0 S.m.h1 S.m.cr S.m.se (tQ l S.m.tb) S.m.nu S.m.bk S.m.d (tQ l S.m.dg) S.m.ys (fun q => Stops 1 (.exit 0) (fG s p) (HdY l S) q)) ⟨lessN hp, rfl, Wk.refl _ _ _⟩)).mono fun q hq => hq.can
theorem loopY (h0 : l ≠ []) (hB : ∀ x, x ∈ l → x < 256) (h : ScOk l S) (hl : s.length < 100) (hs : ∀ c, c ∈ s → c ∈ letters) :
    Trip Try.prog 1 none (.block 0 (.loop L34)) (fG s 0) (HdY l S) fun q => Stops 1 .normal (fG s s.length) (HdY l (runL l s S)) q := by
  refine Trip.block (Trip.loop (fun μ fr st => ∃ i, i ≤ s.length ∧ μ = s.length - i ∧ fr = fG s i ∧ st = HdY l (runL l (s.take i) S)) ?_ s.length ⟨0, Nat.zero_le _, rfl, rfl, rfl⟩)
  rintro μ fr st ⟨i, hi, rfl, rfl, rfl⟩
  by_cases e : i < s.length
  · have hc : s[i]? = some s[i] := List.getElem?_eq_getElem e
    refine (rndY h0 hB (by omega) (runL_ok h) hc (hs _ (List.getElem_mem e))).mono ?_
    rintro ⟨x, fr', st'⟩ ⟨h1, h2⟩
    simp only at h1
    subst h1
    exact ⟨s.length - (i + 1), _, _, by omega, h2, i + 1, by omega, rfl, rfl, by rw [runL_snoc hc]⟩
  · have ei : i = s.length := by omega
    refine (rYe (runL_ok h) ei).mono ?_
    rintro ⟨x, fr', st'⟩ ⟨h1, h2⟩
    simp only at h1
    subst h1
    subst ei
    exact ⟨fun _ => ⟨rfl, by rw [runL_all] at h2; exact h2⟩, fun h => absurd rfl h⟩
noncomputable def mF (l : List Nat) (m : List AV) : ASt := mkSt [(0, R0 l), (1, .cells m true)] 8
noncomputable def fF (b : Bool) : AFr := xFr [(2, .ptr (some (1, 0))), (3, .bool b)] 122
def doneE (l : List Nat) (o : Nat) (bad : Bool) : Bool := !bad && eqF (.ofNat (l.length - o)) (.ofNat 0)
theorem tailY (h : ScOk l S) {my : Bool} (hm : Call1 Try.prog 77 [.agg (mQ l S.m)] (mY l Zo (mv 0 (vQ l S.o)) S.bad (.cells (mQ l S.m) true) 8) (.bool my, mY l Zo (mv 0 (vQ l S.o)) S.bad (.cells (mQ l S.m) true) 8)) (h0 : l ≠ []) :
    Trip Try.prog 1 none (dropC 4 c34) (fG s p) (HdY l S)
      fun q => Stops 1 .ret (fF (doneE l S.o S.bad && my)) (mF l (bif doneE l S.o S.bad && my then mQ l S.m else zMsg)) q := by
  have c1 : Call1 Try.prog 68 [.ptr (some (2, 0))] (HdY l S) (.bool (doneE l S.o S.bad), mY l Zo (mv 0 (vQ l S.o)) S.bad (.cells (mQ l S.m) true) 8) :=
    cY (bad := S.bad) h0 h.o h.o refN (doneQ h.o) (Nat.le_refl 2) (fun _ _ => rfl) (by decide)
  generalize doneE l S.o S.bad = dn at c1 ⊢
  cases dn with
  | true =>
    have hq := smOkG (tab := [(68, [.ptr (some (2, 0))], HdY l S, (.bool true, mY l Zo (mv 0 (vQ l S.o)) S.bad (.cells (mQ l S.m) true) 8)), (77, [.agg (mQ l S.m)], mY l Zo (mv 0 (vQ l S.o)) S.bad (.cells (mQ l S.m) true) 8, (.bool my, mY l Zo (mv 0 (vQ l S.o)) S.bad (.cells (mQ l S.m) true) 8))]) (fun e he => by
      simp only [List.mem_cons, List.not_mem_nil, or_false] at he
      rcases he with rfl | rfl
      · exact c1
      · exact hm)
    refine (Trip.runY EGok hq (Eq.mp (vcZ0 _ s p (R0 l) (mv 0 (vQ l S.o)) S.bad S.m.k S.m.nd S.m.bl S.m.ro S.m.sa S.m.cu S.m.ba S.m.h0 S.m.h1 S.m.cr S.m.se (tQ l S.m.tb) S.m.nu S.m.bk S.m.d (tQ l S.m.dg) S.m.ys my (fun q => Stops 1 .ret (fF (true && my)) (mF l (bif true && my then mQ l S.m else zMsg)) q)) ⟨call_at (onlyC_at rfl (tabC_hd ..)), call_at (onlyC_at rfl ((tabC_tlf rfl).trans (tabC_hd ..))), ifB_mk (fun g => ?_) fun g => ?_⟩)).mono fun q hq => hq.can
    · have : my = false := by cases my <;> simp_all
      subst this
      exact ⟨by kernel_rfl, rfl, Wk.refl _ _ _⟩
    · have : my = true := by cases my <;> simp_all
      subst this
      exact ⟨by kernel_rfl, rfl, Wk.refl _ _ _⟩
  | false =>
    exact (Trip.runY EGok (smOkG (tab1 c1)) (Eq.mp (vcZ4 _ s p (R0 l) (mv 0 (vQ l S.o)) S.bad S.m.k S.m.nd S.m.bl S.m.ro S.m.sa S.m.cu S.m.ba S.m.h0 S.m.h1 S.m.cr S.m.se (tQ l S.m.tb) S.m.nu S.m.bk S.m.d (tQ l S.m.dg) S.m.ys (fun q => Stops 1 .ret (fF (false && my)) (mF l (bif false && my then mQ l S.m else zMsg)) q)) ⟨call_at (onlyC_at rfl (tabC_hd ..)), rfl, Wk.refl _ _ _⟩)).mono fun q hq => hq.can
theorem names_len (x : Nat) : (names x).length < 100 := by
  unfold names
  split <;> simp
theorem tripY (h0 : l ≠ []) (hB : ∀ x, x ∈ l → x < 256) {my : Bool} (hm : Call1 Try.prog 77 [.agg (mQ l (SE l).m)] (mY l Zo (mv 0 (vQ l (SE l).o)) (SE l).bad (.cells (mQ l (SE l).m) true) 8) (.bool my, mY l Zo (mv 0 (vQ l (SE l).o)) (SE l).bad (.cells (mQ l (SE l).m) true) 8)) :
    Trip Try.prog 1 none c34 (xFr [(0, .slice (some (0, 0)) l.length (.atl l.length))] 122) (mkSt [(0, R0 l)] 1) fun q => Stops 1 .ret (fF (doneE l (SE l).o (SE l).bad && my)) (mF l (bif doneE l (SE l).o (SE l).bad && my then mQ l (SE l).m else zMsg)) q := by
  have hp : 0 < l.length := List.length_pos_iff.2 h0
  have hwx : wrapF .i64 (.ofNat (kN l)) = .ofNat (kN l) := wrap_nat (by have := kN_lt hB; omega)
  have v0 : AV.slice (some (0, 0)) l.length (.atl l.length) = mv 0 (vQ l 0) := by
    rcases formsQ (Nat.zero_le l.length) with ⟨e, _, _⟩ | ⟨_, e, _⟩
    · omega
    · rw [e, Nat.sub_zero]; rfl
  have c1 : Call1 Try.prog 66 [.ptr (some (2, 0)), nI 1] (mkSt [(0, R0 l), (1, Zo), (2, rq (.slice (some (0, 0)) l.length (.atl l.length)) false)] 3) (.int .u64 (.ofNat (kN l)), mkSt [(0, R0 l), (1, Zo), (2, rq (mv 0 (vQ l (S0 l).o)) (S0 l).bad)] 5) :=
    to1 (atRowQ (m := 2) (i := 2) (r := 0) (rw := false) (S := mkSt [(0, R0 l), (1, Zo), (2, rq (.slice (some (0, 0)) l.length (.atl l.length)) false)] 3) h0 (Nat.zero_le _) (toO_le (Nat.zero_le _)) (refI 1) (rrq.num1 (Nat.zero_le _) hB) (Nat.le_refl 2) (fun _ _ => rfl) (by unfold rqIn; rw [← v0]; kernel_rfl) (by kernel_rfl) (by decide) (by show 2 < 3; decide) (by show 0 < 3; decide)) rfl (by kernel_rfl)
  have c2 := n29_at (S := HdY l (S0 l)) (kN l)
  have hq := smOkG (tab := [(66, [.ptr (some (2, 0)), nI 1], mkSt [(0, R0 l), (1, Zo), (2, rq (.slice (some (0, 0)) l.length (.atl l.length)) false)] 3, (.int .u64 (.ofNat (kN l)), mkSt [(0, R0 l), (1, Zo), (2, rq (mv 0 (vQ l (S0 l).o)) (S0 l).bad)] 5)), (29, [.int .i64 (.ofNat (kN l))], HdY l (S0 l), (.str (names (kN l)), HdY l (S0 l)))]) (fun e he => by
      simp only [List.mem_cons, List.not_mem_nil, or_false] at he
      rcases he with rfl | rfl
      · exact c1
      · exact c2)
  refine Trip.preY (Q1 := fun q => q = (.normal, xFr [(2, .ptr (some (1, 0))), (4, .ptr (some (2, 0))), (5, .ptr (some (5, 0))), (6, .str (names (kN l)))] 122, HdY l (S0 l))) (k := 3) EGok hq (by kernel_rfl) (Eq.mp (vcQ0 _ l.length (kN l) (names (kN l)) (R0 l) (mv 0 (vQ l (S0 l).o)) (S0 l).bad (fun q => q = (.normal, xFr [(2, .ptr (some (1, 0))), (4, .ptr (some (2, 0))), (5, .ptr (some (5, 0))), (6, .str (names (kN l)))] 122, HdY l (S0 l)))) ⟨?_, ?_, ?_⟩) (fun F S e => ?_) (fun r hr e => ?_)
  · exact call_at (onlyC_at rfl (tabC_hd ..))
  · unfold vcQ0_s2
    rw [hwx]
    exact call_at (onlyC_at rfl ((tabC_tlf rfl).trans (tabC_hd ..)))
  · unfold vcQ0_s2
    rw [hwx]; rfl
  · cases e
    rw [show dropC 3 c34 = .seq (.seq (seqL A34) (.block 0 (.loop L34))) (dropC 4 c34) by kernel_rfl]
    refine Trip.seq (R := fun q => Stops 1 .normal (fG (names (kN l)) (names (kN l)).length) (HdY l (SE l)) q) ?_ (fun fr' st' hq => Trip.less hq.2 (tailY SE_ok hm h0)) (fun e fr' st' hne hq => absurd hq.1 hne)
    refine Trip.seq (R := fun q => Stops 1 .normal (fG (names (kN l)) 0) (HdY l (S0 l)) q) ?_ (fun fr' st' hq => Trip.less hq.2 (loopY h0 hB S0_ok (names_len _) (names_ok _))) (fun e fr' st' hne hq => absurd hq.1 hne)
    exact (Trip.runY EGok noSum_ok (Eq.mp (vcQ3 (names (kN l)) (R0 l) Zo (mv 0 (vQ l (S0 l).o)) (S0 l).bad (.cells (mQ l (S0 l).m) true) (fun q => Stops 1 .normal (fG (names (kN l)) 0) (HdY l (S0 l)) q)) ⟨rfl, Wk.refl _ _ _⟩)).mono fun q hq => hq.can
  · exact absurd (congrArg Prod.fst e) hr
end
end Go.Proofs.Ytlnohbilfogheaa.mrd
end
