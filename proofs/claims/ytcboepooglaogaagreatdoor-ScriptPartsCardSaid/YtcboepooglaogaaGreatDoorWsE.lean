/-
  OWN WORK, A PART: an abstract machine for the program's text that the kernel can run, and the proof that it is sound: what it answers is what the program answers; contracts of functions by it. No condition.
-/
import Derived.Test.YtcboepooglaogaaGreatDoorWsC
import Derived.Test.YtcboepooglaogaaGreatDoorWsD
section
open Go Go.Ax Go.Proofs
namespace Go.Proofs.YtcboepooglaogaaGreatDoor.spt
set_option linter.unusedVariables false
noncomputable def EC : Env := envEx Tryz.prog [0, 3, 4, 5, 9, 22, 23, 25, 26, 27, 29, 31, 32, 33, 62, 86, 110, 112, 217] [(3, Tryz.f3), (9, Tryz.f9), (12, Tryz.f12), (14, Tryz.f14), (16, Tryz.f16), (45, Tryz.f45), (48, Tryz.f48), (49, Tryz.f49), (51, Tryz.f51), (52, Tryz.f52), (105, Tryz.f105), (108, Tryz.f108), (109, Tryz.f109)] []
def wd : Nat → List Nat
  | 1 => [114, 101, 97, 100]
  | 2 => [119, 114, 105, 116, 101]
  | 3 => [102, 108, 117, 115, 104]
  | 4 => [116, 114, 105, 109]
  | 5 => [122, 101, 114, 111, 101, 115]
  | 6 => [116, 97, 98, 108, 101]
  | _ => [114, 101, 115, 101, 114, 118, 101]
def flC : List (Nat × Fl) := [(45, ⟨[7, 24, 32, 35, 45, 48, 51, 54, 58], [8], [], []⟩), (105, fl1), (52, fl1), (16, ⟨[7, 8, 15, 23, 26, 27, 31, 34, 35, 36, 39, 40, 46, 49, 50, 51, 54, 55, 56, 59, 60, 61, 64, 65], [9], [], []⟩), (51, ⟨[4, 5], [], [], []⟩), (9, ⟨[5, 8], [], [], []⟩), (3, ⟨[11, 15, 17, 20, 25, 29, 39, 43, 51], [35, 47], [18, 44], []⟩), (14, fl1), (12, fl1), (108, fl1)]
abbrev cmN (k num w b ak : Nat) (aw : Int) (key nw at_ : Nat) (d : Nat → Nat) : List AV := cmL (.ofNat num) (.ofNat w) (.ofNat k) (.ofNat b) (ddL d) (acL (.ofNat ak) aw (.ofNat key) (.ofNat nw) (.ofNat at_))
noncomputable def tC1 (q : CallT) (num w b ak : Nat) (aw : Int) (key nw at_ : Nat) (d : Nat → Nat) (s1 s2 s3 s4 s5 r : List Nat) : Tr (AV × ASt) := (TM EC (onlyC [10, 104, 106, 107] q) flC fl1 60).call 45 [.agg (cmN 1 num w b ak aw key nw at_ d)] M0
noncomputable def tD1 (q : CallT) (num w b ak : Nat) (aw : Int) (key nw at_ : Nat) (d : Nat → Nat) (s1 s2 s3 s4 s5 : List Nat) : Tr (AV × ASt) := (TM EC (onlyC [11, 51, 53] q) flC fl1 60).call 16 [.agg (cmN 1 num w b ak aw key nw at_ d)] M0
noncomputable def tC2 (q : CallT) (num w b ak : Nat) (aw : Int) (key nw at_ : Nat) (d : Nat → Nat) (s1 s2 s3 s4 s5 r : List Nat) : Tr (AV × ASt) := (TM EC (onlyC [10, 104, 106, 107] q) flC fl1 60).call 45 [.agg (cmN 2 num w b ak aw key nw at_ d)] M0
noncomputable def tD2 (q : CallT) (num w b ak : Nat) (aw : Int) (key nw at_ : Nat) (d : Nat → Nat) (s1 s2 s3 s4 s5 : List Nat) : Tr (AV × ASt) := (TM EC (onlyC [11, 51, 53] q) flC fl1 60).call 16 [.agg (cmN 2 num w b ak aw key nw at_ d)] M0
noncomputable def tC3 (q : CallT) (num w b ak : Nat) (aw : Int) (key nw at_ : Nat) (d : Nat → Nat) (s1 s2 s3 s4 s5 r : List Nat) : Tr (AV × ASt) := (TM EC (onlyC [10, 104, 106, 107] q) flC fl1 60).call 45 [.agg (cmN 3 num w b ak aw key nw at_ d)] M0
noncomputable def tD3 (q : CallT) (num w b ak : Nat) (aw : Int) (key nw at_ : Nat) (d : Nat → Nat) (s1 s2 s3 s4 s5 : List Nat) : Tr (AV × ASt) := (TM EC (onlyC [11, 51, 53] q) flC fl1 60).call 16 [.agg (cmN 3 num w b ak aw key nw at_ d)] M0
noncomputable def tC4 (q : CallT) (num w b ak : Nat) (aw : Int) (key nw at_ : Nat) (d : Nat → Nat) (s1 s2 s3 s4 s5 r : List Nat) : Tr (AV × ASt) := (TM EC (onlyC [10, 104, 106, 107] q) flC fl1 60).call 45 [.agg (cmN 4 num w b ak aw key nw at_ d)] M0
noncomputable def tD4 (q : CallT) (num w b ak : Nat) (aw : Int) (key nw at_ : Nat) (d : Nat → Nat) (s1 s2 s3 s4 s5 : List Nat) : Tr (AV × ASt) := (TM EC (onlyC [11, 51, 53] q) flC fl1 60).call 16 [.agg (cmN 4 num w b ak aw key nw at_ d)] M0
noncomputable def tC5 (q : CallT) (num w b ak : Nat) (aw : Int) (key nw at_ : Nat) (d : Nat → Nat) (s1 s2 s3 s4 s5 r : List Nat) : Tr (AV × ASt) := (TM EC (onlyC [10, 104, 106, 107] q) flC fl1 60).call 45 [.agg (cmN 5 num w b ak aw key nw at_ d)] M0
noncomputable def tD5 (q : CallT) (num w b ak : Nat) (aw : Int) (key nw at_ : Nat) (d : Nat → Nat) (s1 s2 s3 s4 s5 : List Nat) : Tr (AV × ASt) := (TM EC (onlyC [11, 51, 53] q) flC fl1 60).call 16 [.agg (cmN 5 num w b ak aw key nw at_ d)] M0
noncomputable def tC6 (q : CallT) (num w b ak : Nat) (aw : Int) (key nw at_ : Nat) (d : Nat → Nat) (s1 s2 s3 s4 s5 r : List Nat) : Tr (AV × ASt) := (TM EC (onlyC [10, 104, 106, 107] q) flC fl1 60).call 45 [.agg (cmN 6 num w b ak aw key nw at_ d)] M0
noncomputable def tD6 (q : CallT) (num w b ak : Nat) (aw : Int) (key nw at_ : Nat) (d : Nat → Nat) (s1 s2 s3 s4 s5 : List Nat) : Tr (AV × ASt) := (TM EC (onlyC [11, 51, 53] q) flC fl1 60).call 16 [.agg (cmN 6 num w b ak aw key nw at_ d)] M0
noncomputable def tC7 (q : CallT) (num w b ak : Nat) (aw : Int) (key nw at_ : Nat) (d : Nat → Nat) (s1 s2 s3 s4 s5 r : List Nat) : Tr (AV × ASt) := (TM EC (onlyC [10, 104, 106, 107] q) flC fl1 60).call 45 [.agg (cmN 7 num w b ak aw key nw at_ d)] M0
noncomputable def tD7 (q : CallT) (num w b ak : Nat) (aw : Int) (key nw at_ : Nat) (d : Nat → Nat) (s1 s2 s3 s4 s5 : List Nat) : Tr (AV × ASt) := (TM EC (onlyC [11, 51, 53] q) flC fl1 60).call 16 [.agg (cmN 7 num w b ak aw key nw at_ d)] M0
noncomputable def tT51 (q : CallT) (w : Nat) (s : List Nat) : Tr (AV × ASt) := (TM EC (onlyC [53] q) flC fl1 60).call 51 [nI w] M0
noncomputable def tG0 (q : CallT) (num who k blk ak aw key nw at_ : Int) (d : Nat → Nat) : Tr (AV × ASt) := (TM EC (onlyC [44, 45] q) flC fl1 60).call 9 [.agg (cmL num who k blk (ddL d) (acL ak aw key nw at_))] M0
noncomputable def tG1 (q : CallT) (num who k blk ak aw key nw at_ : Int) (d : Nat → Nat) (r : List Nat) : Tr (AV × ASt) := (TM EC (onlyC [44, 45] q) flC fl1 60).call 9 [.agg (cmL num who k blk (ddL d) (acL ak aw key nw at_))] M0
noncomputable def tL0 (q : CallT) (num who k blk ak aw key nw at_ : Int) (d : Nat → Nat) (e : Nat → Nat) (m : Int) (u u2 : List Nat) : Tr (AV × ASt) := (TM EC (onlyC [9, 10, 11, 12, 13, 15, 16] q) flC fl1 60).call 3 [.agg (cmL num who k blk (ddL d) (acL ak aw key nw at_)), .agg (ddL e), .int .i64 m] M0
noncomputable def tL1 (q : CallT) (num who k blk ak aw key nw at_ : Int) (d : Nat → Nat) (e : Nat → Nat) (m : Int) (u u2 r r2 : List Nat) : Tr (AV × ASt) := (TM EC (onlyC [9, 10, 11, 12, 13, 15, 16] q) flC fl1 60).call 3 [.agg (cmL num who k blk (ddL d) (acL ak aw key nw at_)), .agg (ddL e), .int .i64 m] M0
noncomputable def vcC1_s0 (num : Nat) (w : Nat) (b : Nat) (ak : Nat) (aw : Int) (key : Nat) (nw : Nat) (at_ : Nat) (d : Nat → Nat) : ASt := mkSt [(0, .cells ([.int .u64 (.ofNat num), .int .i64 (.ofNat w), .int .i64 (.ofNat 1), .int .i64 (.ofNat b)] ++ (ddL d ++ [.int .i64 (.ofNat ak), .int .i64 aw, .int .u64 (.ofNat key), .int .u64 (.ofNat nw), .int .i64 (.ofNat at_)])) true)] 12
noncomputable def vcC1_s1 (num : Nat) (w : Nat) (b : Nat) (ak : Nat) (aw : Int) (key : Nat) (nw : Nat) (at_ : Nat) (d : Nat → Nat) (s1 : List Nat) : ASt := mkSt [(0, .cells ([.int .u64 (.ofNat num), .int .i64 (.ofNat w), .int .i64 (.ofNat 1), .int .i64 (.ofNat b)] ++ (ddL d ++ [.int .i64 (.ofNat ak), .int .i64 aw, .int .u64 (.ofNat key), .int .u64 (.ofNat nw), .int .i64 (.ofNat at_)])) true), (10, .cells [.str s1, .str [114, 101, 97, 100]] true), (12, .cells [.str [114, 101, 97, 100], .str [119, 114, 105, 116, 101], .str [102, 108, 117, 115, 104], .str [116, 114, 105, 109], .str [122, 101, 114, 111, 101, 115], .str [116, 97, 98, 108, 101], .str [114, 101, 115, 101, 114, 118, 101]] true)] 13
noncomputable def vcC1_s2 (num : Nat) (w : Nat) (b : Nat) (ak : Nat) (aw : Int) (key : Nat) (nw : Nat) (at_ : Nat) (d : Nat → Nat) (s1 : List Nat) (s2 : List Nat) : ASt := mkSt [(0, .cells ([.int .u64 (.ofNat num), .int .i64 (.ofNat w), .int .i64 (.ofNat 1), .int .i64 (.ofNat b)] ++ (ddL d ++ [.int .i64 (.ofNat ak), .int .i64 aw, .int .u64 (.ofNat key), .int .u64 (.ofNat nw), .int .i64 (.ofNat at_)])) true), (10, .cells [.str s1, .str [114, 101, 97, 100]] true), (12, .cells [.str [114, 101, 97, 100], .str [119, 114, 105, 116, 101], .str [102, 108, 117, 115, 104], .str [116, 114, 105, 109], .str [122, 101, 114, 111, 101, 115], .str [116, 97, 98, 108, 101], .str [114, 101, 115, 101, 114, 118, 101]] true), (13, .cells [.str s2] true), (14, .cells [.str s1, .str [114, 101, 97, 100], .str s2] true)] 15
noncomputable def vcC1_s3 : ASt := mkSt [] 15
theorem vcC1 (q : CallT) (num : Nat) (w : Nat) (b : Nat) (ak : Nat) (aw : Int) (key : Nat) (nw : Nat) (at_ : Nat) (d : Nat → Nat) (s1 : List Nat) (s2 : List Nat) (s3 : List Nat) (s4 : List Nat) (s5 : List Nat) (r : List Nat) (Q : AV × ASt → Prop) :
  ((M EC (drawA EC) (onlyC [10, 104, 106, 107] q) 56).call 104 [.int .i64 (.ofNat w)] (vcC1_s0 num w b ak aw key nw at_ d) = some (.str s1, vcC1_s0 num w b ak aw key nw at_ d) ∧ holdsO [(some (.int .i64 (.ofNat 1)), .int .i64 (.ofNat 1)), (some (.int .i64 (.ofNat 1)), .int .i64 (.ofNat 1))] ∧ (M EC (drawA EC) (onlyC [10, 104, 106, 107] q) 51).call 104 [.int .i64 (.ofNat b)] (vcC1_s1 num w b ak aw key nw at_ d s1) = some (.str s2, vcC1_s1 num w b ak aw key nw at_ d s1) ∧ (M EC (drawA EC) (onlyC [10, 104, 106, 107] q) 54).call 107 [.slice (some (14, 0)) 3 (.rest 1), .str [32]] (vcC1_s2 num w b ak aw key nw at_ d s1 s2) = some (.str r, vcC1_s2 num w b ak aw key nw at_ d s1 s2) ∧ Q (.str r, vcC1_s3)) =
  (tC1 q num w b ak aw key nw at_ d s1 s2 s3 s4 s5 r).allY (fun r => Q (r.1, canS [] r.2)) (.v (.str s1, vcC1_s0 num w b ak aw key nw at_ d) (.v (.str s2, vcC1_s1 num w b ak aw key nw at_ d s1) (.v (.str r, vcC1_s2 num w b ak aw key nw at_ d s1 s2) .nil))) := by kernel_rfl
noncomputable def vcD1_s0 (num : Nat) (w : Nat) (b : Nat) (ak : Nat) (aw : Int) (key : Nat) (nw : Nat) (at_ : Nat) (d : Nat → Nat) : ASt := mkSt [(0, .cells ([.int .u64 (.ofNat num), .int .i64 (.ofNat w), .int .i64 (.ofNat 1), .int .i64 (.ofNat b)] ++ (ddL d ++ [.int .i64 (.ofNat ak), .int .i64 aw, .int .u64 (.ofNat key), .int .u64 (.ofNat nw), .int .i64 (.ofNat at_)])) true)] 13
noncomputable def vcD1_s1 (num : Nat) (w : Nat) (b : Nat) (ak : Nat) (aw : Int) (key : Nat) (nw : Nat) (at_ : Nat) (d : Nat → Nat) : ASt := mkSt [(0, .cells ([.int .u64 (.ofNat num), .int .i64 (.ofNat w), .int .i64 (.ofNat 1), .int .i64 (.ofNat b)] ++ (ddL d ++ [.int .i64 (.ofNat ak), .int .i64 aw, .int .u64 (.ofNat key), .int .u64 (.ofNat nw), .int .i64 (.ofNat at_)])) true), (13, .cells [.str [114, 101, 97, 100], .str [119, 114, 105, 116, 101], .str [102, 108, 117, 115, 104], .str [116, 114, 105, 109], .str [122, 101, 114, 111, 101, 115], .str [116, 97, 98, 108, 101], .str [114, 101, 115, 101, 114, 118, 101]] true)] 14
noncomputable def vcD1_s2 : ASt := mkSt [] 14
theorem vcD1 (q : CallT) (num : Nat) (w : Nat) (b : Nat) (ak : Nat) (aw : Int) (key : Nat) (nw : Nat) (at_ : Nat) (d : Nat → Nat) (s1 : List Nat) (s2 : List Nat) (s3 : List Nat) (s4 : List Nat) (s5 : List Nat) (Q : AV × ASt → Prop) :
  ((M EC (drawA EC) (onlyC [11, 51, 53] q) 56).call 51 [.int .i64 (.ofNat w)] (vcD1_s0 num w b ak aw key nw at_ d) = some (.str s1, vcD1_s0 num w b ak aw key nw at_ d) ∧ still (vcD1_s0 num w b ak aw key nw at_ d) (aBin EC .add 9 (.tmp 7) (.const (.string { data := #[32] })) (.str s1) (.str [32])) = some (.str (s1 ++ [32]), vcD1_s0 num w b ak aw key nw at_ d) ∧ still (vcD1_s1 num w b ak aw key nw at_ d) (aBin EC .add 9 (.tmp 8) (.tmp 14) (.str (s1 ++ [32])) (.str [114, 101, 97, 100])) = some (.str (s1 ++ [32] ++ wd 1), vcD1_s1 num w b ak aw key nw at_ d) ∧ holdsO [(some (.int .i64 (.ofNat 1)), .int .i64 (.ofNat 1)), (some (.int .i64 (.ofNat 1)), .int .i64 (.ofNat 1))] ∧ still (vcD1_s1 num w b ak aw key nw at_ d) (aBin EC .add 9 (.tmp 22) (.const (.string { data := #[32] })) (.str (s1 ++ [32] ++ wd 1)) (.str [32])) = some (.str (s1 ++ [32] ++ wd 1 ++ [32]), vcD1_s1 num w b ak aw key nw at_ d) ∧ (M EC (drawA EC) (onlyC [11, 51, 53] q) 50).call 51 [.int .i64 (.ofNat b)] (vcD1_s1 num w b ak aw key nw at_ d) = some (.str s2, vcD1_s1 num w b ak aw key nw at_ d) ∧ still (vcD1_s1 num w b ak aw key nw at_ d) (aBin EC .add 9 (.tmp 23) (.tmp 26) (.str (s1 ++ [32] ++ wd 1 ++ [32])) (.str s2)) = some (.str (s1 ++ [32] ++ wd 1 ++ [32] ++ s2), vcD1_s1 num w b ak aw key nw at_ d) ∧ Q (.str (s1 ++ [32] ++ wd 1 ++ [32] ++ s2), vcD1_s2)) =
  (tD1 q num w b ak aw key nw at_ d s1 s2 s3 s4 s5).allY (fun r => Q (r.1, canS [] r.2)) (.v (.str s1, vcD1_s0 num w b ak aw key nw at_ d) (.v (.str (s1 ++ [32]), vcD1_s0 num w b ak aw key nw at_ d) (.v (.str (s1 ++ [32] ++ wd 1), vcD1_s1 num w b ak aw key nw at_ d) (.v (.str (s1 ++ [32] ++ wd 1 ++ [32]), vcD1_s1 num w b ak aw key nw at_ d) (.v (.str s2, vcD1_s1 num w b ak aw key nw at_ d) (.v (.str (s1 ++ [32] ++ wd 1 ++ [32] ++ s2), vcD1_s1 num w b ak aw key nw at_ d) .nil)))))) := by kernel_rfl
noncomputable def vcC2_s0 (num : Nat) (w : Nat) (b : Nat) (ak : Nat) (aw : Int) (key : Nat) (nw : Nat) (at_ : Nat) (d : Nat → Nat) : ASt := mkSt [(0, .cells ([.int .u64 (.ofNat num), .int .i64 (.ofNat w), .int .i64 (.ofNat 2), .int .i64 (.ofNat b)] ++ (ddL d ++ [.int .i64 (.ofNat ak), .int .i64 aw, .int .u64 (.ofNat key), .int .u64 (.ofNat nw), .int .i64 (.ofNat at_)])) true)] 12
noncomputable def vcC2_s1 (num : Nat) (w : Nat) (b : Nat) (ak : Nat) (aw : Int) (key : Nat) (nw : Nat) (at_ : Nat) (d : Nat → Nat) (s1 : List Nat) : ASt := mkSt [(0, .cells ([.int .u64 (.ofNat num), .int .i64 (.ofNat w), .int .i64 (.ofNat 2), .int .i64 (.ofNat b)] ++ (ddL d ++ [.int .i64 (.ofNat ak), .int .i64 aw, .int .u64 (.ofNat key), .int .u64 (.ofNat nw), .int .i64 (.ofNat at_)])) true), (10, .cells [.str s1, .str [119, 114, 105, 116, 101]] true), (12, .cells [.str [114, 101, 97, 100], .str [119, 114, 105, 116, 101], .str [102, 108, 117, 115, 104], .str [116, 114, 105, 109], .str [122, 101, 114, 111, 101, 115], .str [116, 97, 98, 108, 101], .str [114, 101, 115, 101, 114, 118, 101]] true)] 23
noncomputable def vcC2_s2 (num : Nat) (w : Nat) (b : Nat) (ak : Nat) (aw : Int) (key : Nat) (nw : Nat) (at_ : Nat) (d : Nat → Nat) (s1 : List Nat) (s2 : List Nat) (s3 : List Nat) : ASt := mkSt [(0, .cells ([.int .u64 (.ofNat num), .int .i64 (.ofNat w), .int .i64 (.ofNat 2), .int .i64 (.ofNat b)] ++ (ddL d ++ [.int .i64 (.ofNat ak), .int .i64 aw, .int .u64 (.ofNat key), .int .u64 (.ofNat nw), .int .i64 (.ofNat at_)])) true), (10, .cells [.str s1, .str [119, 114, 105, 116, 101]] true), (12, .cells [.str [114, 101, 97, 100], .str [119, 114, 105, 116, 101], .str [102, 108, 117, 115, 104], .str [116, 114, 105, 109], .str [122, 101, 114, 111, 101, 115], .str [116, 97, 98, 108, 101], .str [114, 101, 115, 101, 114, 118, 101]] true), (20, .cells [.str s2, .str s3] true), (23, .cells [.str s1, .str [119, 114, 105, 116, 101], .str s2, .str s3] true)] 24
noncomputable def vcC2_s3 : ASt := mkSt [] 24
theorem vcC2 (q : CallT) (num : Nat) (w : Nat) (b : Nat) (ak : Nat) (aw : Int) (key : Nat) (nw : Nat) (at_ : Nat) (d : Nat → Nat) (s1 : List Nat) (s2 : List Nat) (s3 : List Nat) (s4 : List Nat) (s5 : List Nat) (r : List Nat) (Q : AV × ASt → Prop) :
  ((M EC (drawA EC) (onlyC [10, 104, 106, 107] q) 56).call 104 [.int .i64 (.ofNat w)] (vcC2_s0 num w b ak aw key nw at_ d) = some (.str s1, vcC2_s0 num w b ak aw key nw at_ d) ∧ holdsO [(some (.int .i64 (.ofNat 2)), .int .i64 (.ofNat 2)), (some (.int .i64 (.ofNat 2)), .int .i64 (.ofNat 2))] ∧ (M EC (drawA EC) (onlyC [10, 104, 106, 107] q) 49).call 104 [.int .i64 (.ofNat b)] (vcC2_s1 num w b ak aw key nw at_ d s1) = some (.str s2, vcC2_s1 num w b ak aw key nw at_ d s1) ∧ (M EC (drawA EC) (onlyC [10, 104, 106, 107] q) 49).call 10 [.agg (ddL d)] (vcC2_s1 num w b ak aw key nw at_ d s1) = some (.str s3, vcC2_s1 num w b ak aw key nw at_ d s1) ∧ holdsO [(some (.agg (ddL d)), .agg (ddL d))] ∧ (M EC (drawA EC) (onlyC [10, 104, 106, 107] q) 54).call 107 [.slice (some (23, 0)) 4 (.rest 1), .str [32]] (vcC2_s2 num w b ak aw key nw at_ d s1 s2 s3) = some (.str r, vcC2_s2 num w b ak aw key nw at_ d s1 s2 s3) ∧ Q (.str r, vcC2_s3)) =
  (tC2 q num w b ak aw key nw at_ d s1 s2 s3 s4 s5 r).allY (fun r => Q (r.1, canS [] r.2)) (.v (.str s1, vcC2_s0 num w b ak aw key nw at_ d) (.v (.str s2, vcC2_s1 num w b ak aw key nw at_ d s1) (.v (.str s3, vcC2_s1 num w b ak aw key nw at_ d s1) (.v (.str r, vcC2_s2 num w b ak aw key nw at_ d s1 s2 s3) .nil)))) := by kernel_rfl
noncomputable def vcD2_s0 (num : Nat) (w : Nat) (b : Nat) (ak : Nat) (aw : Int) (key : Nat) (nw : Nat) (at_ : Nat) (d : Nat → Nat) : ASt := mkSt [(0, .cells ([.int .u64 (.ofNat num), .int .i64 (.ofNat w), .int .i64 (.ofNat 2), .int .i64 (.ofNat b)] ++ (ddL d ++ [.int .i64 (.ofNat ak), .int .i64 aw, .int .u64 (.ofNat key), .int .u64 (.ofNat nw), .int .i64 (.ofNat at_)])) true)] 13
noncomputable def vcD2_s1 (num : Nat) (w : Nat) (b : Nat) (ak : Nat) (aw : Int) (key : Nat) (nw : Nat) (at_ : Nat) (d : Nat → Nat) : ASt := mkSt [(0, .cells ([.int .u64 (.ofNat num), .int .i64 (.ofNat w), .int .i64 (.ofNat 2), .int .i64 (.ofNat b)] ++ (ddL d ++ [.int .i64 (.ofNat ak), .int .i64 aw, .int .u64 (.ofNat key), .int .u64 (.ofNat nw), .int .i64 (.ofNat at_)])) true), (13, .cells [.str [114, 101, 97, 100], .str [119, 114, 105, 116, 101], .str [102, 108, 117, 115, 104], .str [116, 114, 105, 109], .str [122, 101, 114, 111, 101, 115], .str [116, 97, 98, 108, 101], .str [114, 101, 115, 101, 114, 118, 101]] true)] 14
noncomputable def vcD2_s2 (num : Nat) (w : Nat) (b : Nat) (ak : Nat) (aw : Int) (key : Nat) (nw : Nat) (at_ : Nat) (d : Nat → Nat) : ASt := mkSt [(0, .cells ([.int .u64 (.ofNat num), .int .i64 (.ofNat w), .int .i64 (.ofNat 2), .int .i64 (.ofNat b)] ++ (ddL d ++ [.int .i64 (.ofNat ak), .int .i64 aw, .int .u64 (.ofNat key), .int .u64 (.ofNat nw), .int .i64 (.ofNat at_)])) true), (13, .cells [.str [114, 101, 97, 100], .str [119, 114, 105, 116, 101], .str [102, 108, 117, 115, 104], .str [116, 114, 105, 109], .str [122, 101, 114, 111, 101, 115], .str [116, 97, 98, 108, 101], .str [114, 101, 115, 101, 114, 118, 101]] true)] 26
noncomputable def vcD2_s3 : ASt := mkSt [] 26
theorem vcD2 (q : CallT) (num : Nat) (w : Nat) (b : Nat) (ak : Nat) (aw : Int) (key : Nat) (nw : Nat) (at_ : Nat) (d : Nat → Nat) (s1 : List Nat) (s2 : List Nat) (s3 : List Nat) (s4 : List Nat) (s5 : List Nat) (Q : AV × ASt → Prop) :
  ((M EC (drawA EC) (onlyC [11, 51, 53] q) 56).call 51 [.int .i64 (.ofNat w)] (vcD2_s0 num w b ak aw key nw at_ d) = some (.str s1, vcD2_s0 num w b ak aw key nw at_ d) ∧ still (vcD2_s0 num w b ak aw key nw at_ d) (aBin EC .add 9 (.tmp 7) (.const (.string { data := #[32] })) (.str s1) (.str [32])) = some (.str (s1 ++ [32]), vcD2_s0 num w b ak aw key nw at_ d) ∧ still (vcD2_s1 num w b ak aw key nw at_ d) (aBin EC .add 9 (.tmp 8) (.tmp 14) (.str (s1 ++ [32])) (.str [119, 114, 105, 116, 101])) = some (.str (s1 ++ [32] ++ wd 2), vcD2_s1 num w b ak aw key nw at_ d) ∧ holdsO [(some (.int .i64 (.ofNat 2)), .int .i64 (.ofNat 2)), (some (.int .i64 (.ofNat 2)), .int .i64 (.ofNat 2))] ∧ still (vcD2_s2 num w b ak aw key nw at_ d) (aBin EC .add 9 (.tmp 30) (.const (.string { data := #[32] })) (.str (s1 ++ [32] ++ wd 2)) (.str [32])) = some (.str (s1 ++ [32] ++ wd 2 ++ [32]), vcD2_s2 num w b ak aw key nw at_ d) ∧ (M EC (drawA EC) (onlyC [11, 51, 53] q) 48).call 51 [.int .i64 (.ofNat b)] (vcD2_s2 num w b ak aw key nw at_ d) = some (.str s2, vcD2_s2 num w b ak aw key nw at_ d) ∧ still (vcD2_s2 num w b ak aw key nw at_ d) (aBin EC .add 9 (.tmp 31) (.tmp 34) (.str (s1 ++ [32] ++ wd 2 ++ [32])) (.str s2)) = some (.str (s1 ++ [32] ++ wd 2 ++ [32] ++ s2), vcD2_s2 num w b ak aw key nw at_ d) ∧ still (vcD2_s2 num w b ak aw key nw at_ d) (aBin EC .add 9 (.tmp 35) (.const (.string { data := #[32] })) (.str (s1 ++ [32] ++ wd 2 ++ [32] ++ s2)) (.str [32])) = some (.str (s1 ++ [32] ++ wd 2 ++ [32] ++ s2 ++ [32]), vcD2_s2 num w b ak aw key nw at_ d) ∧ (M EC (drawA EC) (onlyC [11, 51, 53] q) 48).call 11 [.agg (ddL d)] (vcD2_s2 num w b ak aw key nw at_ d) = some (.str s3, vcD2_s2 num w b ak aw key nw at_ d) ∧ still (vcD2_s2 num w b ak aw key nw at_ d) (aBin EC .add 9 (.tmp 36) (.tmp 39) (.str (s1 ++ [32] ++ wd 2 ++ [32] ++ s2 ++ [32])) (.str s3)) = some (.str (s1 ++ [32] ++ wd 2 ++ [32] ++ s2 ++ [32] ++ s3), vcD2_s2 num w b ak aw key nw at_ d) ∧ holdsO [(some (.agg (ddL d)), .agg (ddL d))] ∧ Q (.str (s1 ++ [32] ++ wd 2 ++ [32] ++ s2 ++ [32] ++ s3), vcD2_s3)) =
  (tD2 q num w b ak aw key nw at_ d s1 s2 s3 s4 s5).allY (fun r => Q (r.1, canS [] r.2)) (.v (.str s1, vcD2_s0 num w b ak aw key nw at_ d) (.v (.str (s1 ++ [32]), vcD2_s0 num w b ak aw key nw at_ d) (.v (.str (s1 ++ [32] ++ wd 2), vcD2_s1 num w b ak aw key nw at_ d) (.v (.str (s1 ++ [32] ++ wd 2 ++ [32]), vcD2_s2 num w b ak aw key nw at_ d) (.v (.str s2, vcD2_s2 num w b ak aw key nw at_ d) (.v (.str (s1 ++ [32] ++ wd 2 ++ [32] ++ s2), vcD2_s2 num w b ak aw key nw at_ d) (.v (.str (s1 ++ [32] ++ wd 2 ++ [32] ++ s2 ++ [32]), vcD2_s2 num w b ak aw key nw at_ d) (.v (.str s3, vcD2_s2 num w b ak aw key nw at_ d) (.v (.str (s1 ++ [32] ++ wd 2 ++ [32] ++ s2 ++ [32] ++ s3), vcD2_s2 num w b ak aw key nw at_ d) .nil))))))))) := by kernel_rfl
noncomputable def vcC3_s0 (num : Nat) (w : Nat) (b : Nat) (ak : Nat) (aw : Int) (key : Nat) (nw : Nat) (at_ : Nat) (d : Nat → Nat) : ASt := mkSt [(0, .cells ([.int .u64 (.ofNat num), .int .i64 (.ofNat w), .int .i64 (.ofNat 3), .int .i64 (.ofNat b)] ++ (ddL d ++ [.int .i64 (.ofNat ak), .int .i64 aw, .int .u64 (.ofNat key), .int .u64 (.ofNat nw), .int .i64 (.ofNat at_)])) true)] 12
noncomputable def vcC3_s1 (num : Nat) (w : Nat) (b : Nat) (ak : Nat) (aw : Int) (key : Nat) (nw : Nat) (at_ : Nat) (d : Nat → Nat) (s1 : List Nat) : ASt := mkSt [(0, .cells ([.int .u64 (.ofNat num), .int .i64 (.ofNat w), .int .i64 (.ofNat 3), .int .i64 (.ofNat b)] ++ (ddL d ++ [.int .i64 (.ofNat ak), .int .i64 aw, .int .u64 (.ofNat key), .int .u64 (.ofNat nw), .int .i64 (.ofNat at_)])) true), (10, .cells [.str s1, .str [102, 108, 117, 115, 104]] true), (12, .cells [.str [114, 101, 97, 100], .str [119, 114, 105, 116, 101], .str [102, 108, 117, 115, 104], .str [116, 114, 105, 109], .str [122, 101, 114, 111, 101, 115], .str [116, 97, 98, 108, 101], .str [114, 101, 115, 101, 114, 118, 101]] true)] 13
noncomputable def vcC3_s2 : ASt := mkSt [] 13
theorem vcC3 (q : CallT) (num : Nat) (w : Nat) (b : Nat) (ak : Nat) (aw : Int) (key : Nat) (nw : Nat) (at_ : Nat) (d : Nat → Nat) (s1 : List Nat) (s2 : List Nat) (s3 : List Nat) (s4 : List Nat) (s5 : List Nat) (r : List Nat) (Q : AV × ASt → Prop) :
  ((M EC (drawA EC) (onlyC [10, 104, 106, 107] q) 56).call 104 [.int .i64 (.ofNat w)] (vcC3_s0 num w b ak aw key nw at_ d) = some (.str s1, vcC3_s0 num w b ak aw key nw at_ d) ∧ holdsO [(some (.int .i64 (.ofNat 3)), .int .i64 (.ofNat 3)), (some (.int .i64 (.ofNat 3)), .int .i64 (.ofNat 3))] ∧ (M EC (drawA EC) (onlyC [10, 104, 106, 107] q) 54).call 107 [.slice (some (10, 0)) 2 (.known 2), .str [32]] (vcC3_s1 num w b ak aw key nw at_ d s1) = some (.str r, vcC3_s1 num w b ak aw key nw at_ d s1) ∧ Q (.str r, vcC3_s2)) =
  (tC3 q num w b ak aw key nw at_ d s1 s2 s3 s4 s5 r).allY (fun r => Q (r.1, canS [] r.2)) (.v (.str s1, vcC3_s0 num w b ak aw key nw at_ d) (.v (.str r, vcC3_s1 num w b ak aw key nw at_ d s1) .nil)) := by kernel_rfl
noncomputable def vcD3_s0 (num : Nat) (w : Nat) (b : Nat) (ak : Nat) (aw : Int) (key : Nat) (nw : Nat) (at_ : Nat) (d : Nat → Nat) : ASt := mkSt [(0, .cells ([.int .u64 (.ofNat num), .int .i64 (.ofNat w), .int .i64 (.ofNat 3), .int .i64 (.ofNat b)] ++ (ddL d ++ [.int .i64 (.ofNat ak), .int .i64 aw, .int .u64 (.ofNat key), .int .u64 (.ofNat nw), .int .i64 (.ofNat at_)])) true)] 13
noncomputable def vcD3_s1 (num : Nat) (w : Nat) (b : Nat) (ak : Nat) (aw : Int) (key : Nat) (nw : Nat) (at_ : Nat) (d : Nat → Nat) : ASt := mkSt [(0, .cells ([.int .u64 (.ofNat num), .int .i64 (.ofNat w), .int .i64 (.ofNat 3), .int .i64 (.ofNat b)] ++ (ddL d ++ [.int .i64 (.ofNat ak), .int .i64 aw, .int .u64 (.ofNat key), .int .u64 (.ofNat nw), .int .i64 (.ofNat at_)])) true), (13, .cells [.str [114, 101, 97, 100], .str [119, 114, 105, 116, 101], .str [102, 108, 117, 115, 104], .str [116, 114, 105, 109], .str [122, 101, 114, 111, 101, 115], .str [116, 97, 98, 108, 101], .str [114, 101, 115, 101, 114, 118, 101]] true)] 14
noncomputable def vcD3_s2 : ASt := mkSt [] 14
theorem vcD3 (q : CallT) (num : Nat) (w : Nat) (b : Nat) (ak : Nat) (aw : Int) (key : Nat) (nw : Nat) (at_ : Nat) (d : Nat → Nat) (s1 : List Nat) (s2 : List Nat) (s3 : List Nat) (s4 : List Nat) (s5 : List Nat) (Q : AV × ASt → Prop) :
  ((M EC (drawA EC) (onlyC [11, 51, 53] q) 56).call 51 [.int .i64 (.ofNat w)] (vcD3_s0 num w b ak aw key nw at_ d) = some (.str s1, vcD3_s0 num w b ak aw key nw at_ d) ∧ still (vcD3_s0 num w b ak aw key nw at_ d) (aBin EC .add 9 (.tmp 7) (.const (.string { data := #[32] })) (.str s1) (.str [32])) = some (.str (s1 ++ [32]), vcD3_s0 num w b ak aw key nw at_ d) ∧ still (vcD3_s1 num w b ak aw key nw at_ d) (aBin EC .add 9 (.tmp 8) (.tmp 14) (.str (s1 ++ [32])) (.str [102, 108, 117, 115, 104])) = some (.str (s1 ++ [32] ++ wd 3), vcD3_s1 num w b ak aw key nw at_ d) ∧ holdsO [(some (.int .i64 (.ofNat 3)), .int .i64 (.ofNat 3)), (some (.int .i64 (.ofNat 3)), .int .i64 (.ofNat 3))] ∧ Q (.str (s1 ++ [32] ++ wd 3), vcD3_s2)) =
  (tD3 q num w b ak aw key nw at_ d s1 s2 s3 s4 s5).allY (fun r => Q (r.1, canS [] r.2)) (.v (.str s1, vcD3_s0 num w b ak aw key nw at_ d) (.v (.str (s1 ++ [32]), vcD3_s0 num w b ak aw key nw at_ d) (.v (.str (s1 ++ [32] ++ wd 3), vcD3_s1 num w b ak aw key nw at_ d) .nil))) := by kernel_rfl
noncomputable def vcC4_s0 (num : Nat) (w : Nat) (b : Nat) (ak : Nat) (aw : Int) (key : Nat) (nw : Nat) (at_ : Nat) (d : Nat → Nat) : ASt := mkSt [(0, .cells ([.int .u64 (.ofNat num), .int .i64 (.ofNat w), .int .i64 (.ofNat 4), .int .i64 (.ofNat b)] ++ (ddL d ++ [.int .i64 (.ofNat ak), .int .i64 aw, .int .u64 (.ofNat key), .int .u64 (.ofNat nw), .int .i64 (.ofNat at_)])) true)] 12
noncomputable def vcC4_s1 (num : Nat) (w : Nat) (b : Nat) (ak : Nat) (aw : Int) (key : Nat) (nw : Nat) (at_ : Nat) (d : Nat → Nat) (s1 : List Nat) : ASt := mkSt [(0, .cells ([.int .u64 (.ofNat num), .int .i64 (.ofNat w), .int .i64 (.ofNat 4), .int .i64 (.ofNat b)] ++ (ddL d ++ [.int .i64 (.ofNat ak), .int .i64 aw, .int .u64 (.ofNat key), .int .u64 (.ofNat nw), .int .i64 (.ofNat at_)])) true), (10, .cells [.str s1, .str [116, 114, 105, 109]] true), (12, .cells [.str [114, 101, 97, 100], .str [119, 114, 105, 116, 101], .str [102, 108, 117, 115, 104], .str [116, 114, 105, 109], .str [122, 101, 114, 111, 101, 115], .str [116, 97, 98, 108, 101], .str [114, 101, 115, 101, 114, 118, 101]] true)] 13
noncomputable def vcC4_s2 (num : Nat) (w : Nat) (b : Nat) (ak : Nat) (aw : Int) (key : Nat) (nw : Nat) (at_ : Nat) (d : Nat → Nat) (s1 : List Nat) (s2 : List Nat) : ASt := mkSt [(0, .cells ([.int .u64 (.ofNat num), .int .i64 (.ofNat w), .int .i64 (.ofNat 4), .int .i64 (.ofNat b)] ++ (ddL d ++ [.int .i64 (.ofNat ak), .int .i64 aw, .int .u64 (.ofNat key), .int .u64 (.ofNat nw), .int .i64 (.ofNat at_)])) true), (10, .cells [.str s1, .str [116, 114, 105, 109]] true), (12, .cells [.str [114, 101, 97, 100], .str [119, 114, 105, 116, 101], .str [102, 108, 117, 115, 104], .str [116, 114, 105, 109], .str [122, 101, 114, 111, 101, 115], .str [116, 97, 98, 108, 101], .str [114, 101, 115, 101, 114, 118, 101]] true), (13, .cells [.str s2] true), (14, .cells [.str s1, .str [116, 114, 105, 109], .str s2] true)] 15
noncomputable def vcC4_s3 : ASt := mkSt [] 15
theorem vcC4 (q : CallT) (num : Nat) (w : Nat) (b : Nat) (ak : Nat) (aw : Int) (key : Nat) (nw : Nat) (at_ : Nat) (d : Nat → Nat) (s1 : List Nat) (s2 : List Nat) (s3 : List Nat) (s4 : List Nat) (s5 : List Nat) (r : List Nat) (Q : AV × ASt → Prop) :
  ((M EC (drawA EC) (onlyC [10, 104, 106, 107] q) 56).call 104 [.int .i64 (.ofNat w)] (vcC4_s0 num w b ak aw key nw at_ d) = some (.str s1, vcC4_s0 num w b ak aw key nw at_ d) ∧ holdsO [(some (.int .i64 (.ofNat 4)), .int .i64 (.ofNat 4)), (some (.int .i64 (.ofNat 4)), .int .i64 (.ofNat 4))] ∧ (M EC (drawA EC) (onlyC [10, 104, 106, 107] q) 51).call 104 [.int .i64 (.ofNat b)] (vcC4_s1 num w b ak aw key nw at_ d s1) = some (.str s2, vcC4_s1 num w b ak aw key nw at_ d s1) ∧ (M EC (drawA EC) (onlyC [10, 104, 106, 107] q) 54).call 107 [.slice (some (14, 0)) 3 (.rest 1), .str [32]] (vcC4_s2 num w b ak aw key nw at_ d s1 s2) = some (.str r, vcC4_s2 num w b ak aw key nw at_ d s1 s2) ∧ Q (.str r, vcC4_s3)) =
  (tC4 q num w b ak aw key nw at_ d s1 s2 s3 s4 s5 r).allY (fun r => Q (r.1, canS [] r.2)) (.v (.str s1, vcC4_s0 num w b ak aw key nw at_ d) (.v (.str s2, vcC4_s1 num w b ak aw key nw at_ d s1) (.v (.str r, vcC4_s2 num w b ak aw key nw at_ d s1 s2) .nil))) := by kernel_rfl
noncomputable def vcD4_s0 (num : Nat) (w : Nat) (b : Nat) (ak : Nat) (aw : Int) (key : Nat) (nw : Nat) (at_ : Nat) (d : Nat → Nat) : ASt := mkSt [(0, .cells ([.int .u64 (.ofNat num), .int .i64 (.ofNat w), .int .i64 (.ofNat 4), .int .i64 (.ofNat b)] ++ (ddL d ++ [.int .i64 (.ofNat ak), .int .i64 aw, .int .u64 (.ofNat key), .int .u64 (.ofNat nw), .int .i64 (.ofNat at_)])) true)] 13
noncomputable def vcD4_s1 (num : Nat) (w : Nat) (b : Nat) (ak : Nat) (aw : Int) (key : Nat) (nw : Nat) (at_ : Nat) (d : Nat → Nat) : ASt := mkSt [(0, .cells ([.int .u64 (.ofNat num), .int .i64 (.ofNat w), .int .i64 (.ofNat 4), .int .i64 (.ofNat b)] ++ (ddL d ++ [.int .i64 (.ofNat ak), .int .i64 aw, .int .u64 (.ofNat key), .int .u64 (.ofNat nw), .int .i64 (.ofNat at_)])) true), (13, .cells [.str [114, 101, 97, 100], .str [119, 114, 105, 116, 101], .str [102, 108, 117, 115, 104], .str [116, 114, 105, 109], .str [122, 101, 114, 111, 101, 115], .str [116, 97, 98, 108, 101], .str [114, 101, 115, 101, 114, 118, 101]] true)] 14
noncomputable def vcD4_s2 : ASt := mkSt [] 14
theorem vcD4 (q : CallT) (num : Nat) (w : Nat) (b : Nat) (ak : Nat) (aw : Int) (key : Nat) (nw : Nat) (at_ : Nat) (d : Nat → Nat) (s1 : List Nat) (s2 : List Nat) (s3 : List Nat) (s4 : List Nat) (s5 : List Nat) (Q : AV × ASt → Prop) :
  ((M EC (drawA EC) (onlyC [11, 51, 53] q) 56).call 51 [.int .i64 (.ofNat w)] (vcD4_s0 num w b ak aw key nw at_ d) = some (.str s1, vcD4_s0 num w b ak aw key nw at_ d) ∧ still (vcD4_s0 num w b ak aw key nw at_ d) (aBin EC .add 9 (.tmp 7) (.const (.string { data := #[32] })) (.str s1) (.str [32])) = some (.str (s1 ++ [32]), vcD4_s0 num w b ak aw key nw at_ d) ∧ still (vcD4_s1 num w b ak aw key nw at_ d) (aBin EC .add 9 (.tmp 8) (.tmp 14) (.str (s1 ++ [32])) (.str [116, 114, 105, 109])) = some (.str (s1 ++ [32] ++ wd 4), vcD4_s1 num w b ak aw key nw at_ d) ∧ holdsO [(some (.int .i64 (.ofNat 4)), .int .i64 (.ofNat 4)), (some (.int .i64 (.ofNat 4)), .int .i64 (.ofNat 4))] ∧ still (vcD4_s1 num w b ak aw key nw at_ d) (aBin EC .add 9 (.tmp 22) (.const (.string { data := #[32] })) (.str (s1 ++ [32] ++ wd 4)) (.str [32])) = some (.str (s1 ++ [32] ++ wd 4 ++ [32]), vcD4_s1 num w b ak aw key nw at_ d) ∧ (M EC (drawA EC) (onlyC [11, 51, 53] q) 50).call 51 [.int .i64 (.ofNat b)] (vcD4_s1 num w b ak aw key nw at_ d) = some (.str s2, vcD4_s1 num w b ak aw key nw at_ d) ∧ still (vcD4_s1 num w b ak aw key nw at_ d) (aBin EC .add 9 (.tmp 23) (.tmp 26) (.str (s1 ++ [32] ++ wd 4 ++ [32])) (.str s2)) = some (.str (s1 ++ [32] ++ wd 4 ++ [32] ++ s2), vcD4_s1 num w b ak aw key nw at_ d) ∧ Q (.str (s1 ++ [32] ++ wd 4 ++ [32] ++ s2), vcD4_s2)) =
  (tD4 q num w b ak aw key nw at_ d s1 s2 s3 s4 s5).allY (fun r => Q (r.1, canS [] r.2)) (.v (.str s1, vcD4_s0 num w b ak aw key nw at_ d) (.v (.str (s1 ++ [32]), vcD4_s0 num w b ak aw key nw at_ d) (.v (.str (s1 ++ [32] ++ wd 4), vcD4_s1 num w b ak aw key nw at_ d) (.v (.str (s1 ++ [32] ++ wd 4 ++ [32]), vcD4_s1 num w b ak aw key nw at_ d) (.v (.str s2, vcD4_s1 num w b ak aw key nw at_ d) (.v (.str (s1 ++ [32] ++ wd 4 ++ [32] ++ s2), vcD4_s1 num w b ak aw key nw at_ d) .nil)))))) := by kernel_rfl
noncomputable def vcC5_s0 (num : Nat) (w : Nat) (b : Nat) (ak : Nat) (aw : Int) (key : Nat) (nw : Nat) (at_ : Nat) (d : Nat → Nat) : ASt := mkSt [(0, .cells ([.int .u64 (.ofNat num), .int .i64 (.ofNat w), .int .i64 (.ofNat 5), .int .i64 (.ofNat b)] ++ (ddL d ++ [.int .i64 (.ofNat ak), .int .i64 aw, .int .u64 (.ofNat key), .int .u64 (.ofNat nw), .int .i64 (.ofNat at_)])) true)] 12
noncomputable def vcC5_s1 (num : Nat) (w : Nat) (b : Nat) (ak : Nat) (aw : Int) (key : Nat) (nw : Nat) (at_ : Nat) (d : Nat → Nat) (s1 : List Nat) : ASt := mkSt [(0, .cells ([.int .u64 (.ofNat num), .int .i64 (.ofNat w), .int .i64 (.ofNat 5), .int .i64 (.ofNat b)] ++ (ddL d ++ [.int .i64 (.ofNat ak), .int .i64 aw, .int .u64 (.ofNat key), .int .u64 (.ofNat nw), .int .i64 (.ofNat at_)])) true), (10, .cells [.str s1, .str [122, 101, 114, 111, 101, 115]] true), (12, .cells [.str [114, 101, 97, 100], .str [119, 114, 105, 116, 101], .str [102, 108, 117, 115, 104], .str [116, 114, 105, 109], .str [122, 101, 114, 111, 101, 115], .str [116, 97, 98, 108, 101], .str [114, 101, 115, 101, 114, 118, 101]] true)] 13
noncomputable def vcC5_s2 (num : Nat) (w : Nat) (b : Nat) (ak : Nat) (aw : Int) (key : Nat) (nw : Nat) (at_ : Nat) (d : Nat → Nat) (s1 : List Nat) (s2 : List Nat) : ASt := mkSt [(0, .cells ([.int .u64 (.ofNat num), .int .i64 (.ofNat w), .int .i64 (.ofNat 5), .int .i64 (.ofNat b)] ++ (ddL d ++ [.int .i64 (.ofNat ak), .int .i64 aw, .int .u64 (.ofNat key), .int .u64 (.ofNat nw), .int .i64 (.ofNat at_)])) true), (10, .cells [.str s1, .str [122, 101, 114, 111, 101, 115]] true), (12, .cells [.str [114, 101, 97, 100], .str [119, 114, 105, 116, 101], .str [102, 108, 117, 115, 104], .str [116, 114, 105, 109], .str [122, 101, 114, 111, 101, 115], .str [116, 97, 98, 108, 101], .str [114, 101, 115, 101, 114, 118, 101]] true), (13, .cells [.str s2] true), (14, .cells [.str s1, .str [122, 101, 114, 111, 101, 115], .str s2] true)] 15
noncomputable def vcC5_s3 : ASt := mkSt [] 15
theorem vcC5 (q : CallT) (num : Nat) (w : Nat) (b : Nat) (ak : Nat) (aw : Int) (key : Nat) (nw : Nat) (at_ : Nat) (d : Nat → Nat) (s1 : List Nat) (s2 : List Nat) (s3 : List Nat) (s4 : List Nat) (s5 : List Nat) (r : List Nat) (Q : AV × ASt → Prop) :
  ((M EC (drawA EC) (onlyC [10, 104, 106, 107] q) 56).call 104 [.int .i64 (.ofNat w)] (vcC5_s0 num w b ak aw key nw at_ d) = some (.str s1, vcC5_s0 num w b ak aw key nw at_ d) ∧ holdsO [(some (.int .i64 (.ofNat 5)), .int .i64 (.ofNat 5)), (some (.int .i64 (.ofNat 5)), .int .i64 (.ofNat 5))] ∧ (M EC (drawA EC) (onlyC [10, 104, 106, 107] q) 51).call 104 [.int .i64 (.ofNat b)] (vcC5_s1 num w b ak aw key nw at_ d s1) = some (.str s2, vcC5_s1 num w b ak aw key nw at_ d s1) ∧ (M EC (drawA EC) (onlyC [10, 104, 106, 107] q) 54).call 107 [.slice (some (14, 0)) 3 (.rest 1), .str [32]] (vcC5_s2 num w b ak aw key nw at_ d s1 s2) = some (.str r, vcC5_s2 num w b ak aw key nw at_ d s1 s2) ∧ Q (.str r, vcC5_s3)) =
  (tC5 q num w b ak aw key nw at_ d s1 s2 s3 s4 s5 r).allY (fun r => Q (r.1, canS [] r.2)) (.v (.str s1, vcC5_s0 num w b ak aw key nw at_ d) (.v (.str s2, vcC5_s1 num w b ak aw key nw at_ d s1) (.v (.str r, vcC5_s2 num w b ak aw key nw at_ d s1 s2) .nil))) := by kernel_rfl
noncomputable def vcD5_s0 (num : Nat) (w : Nat) (b : Nat) (ak : Nat) (aw : Int) (key : Nat) (nw : Nat) (at_ : Nat) (d : Nat → Nat) : ASt := mkSt [(0, .cells ([.int .u64 (.ofNat num), .int .i64 (.ofNat w), .int .i64 (.ofNat 5), .int .i64 (.ofNat b)] ++ (ddL d ++ [.int .i64 (.ofNat ak), .int .i64 aw, .int .u64 (.ofNat key), .int .u64 (.ofNat nw), .int .i64 (.ofNat at_)])) true)] 13
noncomputable def vcD5_s1 (num : Nat) (w : Nat) (b : Nat) (ak : Nat) (aw : Int) (key : Nat) (nw : Nat) (at_ : Nat) (d : Nat → Nat) : ASt := mkSt [(0, .cells ([.int .u64 (.ofNat num), .int .i64 (.ofNat w), .int .i64 (.ofNat 5), .int .i64 (.ofNat b)] ++ (ddL d ++ [.int .i64 (.ofNat ak), .int .i64 aw, .int .u64 (.ofNat key), .int .u64 (.ofNat nw), .int .i64 (.ofNat at_)])) true), (13, .cells [.str [114, 101, 97, 100], .str [119, 114, 105, 116, 101], .str [102, 108, 117, 115, 104], .str [116, 114, 105, 109], .str [122, 101, 114, 111, 101, 115], .str [116, 97, 98, 108, 101], .str [114, 101, 115, 101, 114, 118, 101]] true)] 14
noncomputable def vcD5_s2 : ASt := mkSt [] 14
theorem vcD5 (q : CallT) (num : Nat) (w : Nat) (b : Nat) (ak : Nat) (aw : Int) (key : Nat) (nw : Nat) (at_ : Nat) (d : Nat → Nat) (s1 : List Nat) (s2 : List Nat) (s3 : List Nat) (s4 : List Nat) (s5 : List Nat) (Q : AV × ASt → Prop) :
  ((M EC (drawA EC) (onlyC [11, 51, 53] q) 56).call 51 [.int .i64 (.ofNat w)] (vcD5_s0 num w b ak aw key nw at_ d) = some (.str s1, vcD5_s0 num w b ak aw key nw at_ d) ∧ still (vcD5_s0 num w b ak aw key nw at_ d) (aBin EC .add 9 (.tmp 7) (.const (.string { data := #[32] })) (.str s1) (.str [32])) = some (.str (s1 ++ [32]), vcD5_s0 num w b ak aw key nw at_ d) ∧ still (vcD5_s1 num w b ak aw key nw at_ d) (aBin EC .add 9 (.tmp 8) (.tmp 14) (.str (s1 ++ [32])) (.str [122, 101, 114, 111, 101, 115])) = some (.str (s1 ++ [32] ++ wd 5), vcD5_s1 num w b ak aw key nw at_ d) ∧ holdsO [(some (.int .i64 (.ofNat 5)), .int .i64 (.ofNat 5)), (some (.int .i64 (.ofNat 5)), .int .i64 (.ofNat 5))] ∧ still (vcD5_s1 num w b ak aw key nw at_ d) (aBin EC .add 9 (.tmp 22) (.const (.string { data := #[32] })) (.str (s1 ++ [32] ++ wd 5)) (.str [32])) = some (.str (s1 ++ [32] ++ wd 5 ++ [32]), vcD5_s1 num w b ak aw key nw at_ d) ∧ (M EC (drawA EC) (onlyC [11, 51, 53] q) 50).call 51 [.int .i64 (.ofNat b)] (vcD5_s1 num w b ak aw key nw at_ d) = some (.str s2, vcD5_s1 num w b ak aw key nw at_ d) ∧ still (vcD5_s1 num w b ak aw key nw at_ d) (aBin EC .add 9 (.tmp 23) (.tmp 26) (.str (s1 ++ [32] ++ wd 5 ++ [32])) (.str s2)) = some (.str (s1 ++ [32] ++ wd 5 ++ [32] ++ s2), vcD5_s1 num w b ak aw key nw at_ d) ∧ Q (.str (s1 ++ [32] ++ wd 5 ++ [32] ++ s2), vcD5_s2)) =
  (tD5 q num w b ak aw key nw at_ d s1 s2 s3 s4 s5).allY (fun r => Q (r.1, canS [] r.2)) (.v (.str s1, vcD5_s0 num w b ak aw key nw at_ d) (.v (.str (s1 ++ [32]), vcD5_s0 num w b ak aw key nw at_ d) (.v (.str (s1 ++ [32] ++ wd 5), vcD5_s1 num w b ak aw key nw at_ d) (.v (.str (s1 ++ [32] ++ wd 5 ++ [32]), vcD5_s1 num w b ak aw key nw at_ d) (.v (.str s2, vcD5_s1 num w b ak aw key nw at_ d) (.v (.str (s1 ++ [32] ++ wd 5 ++ [32] ++ s2), vcD5_s1 num w b ak aw key nw at_ d) .nil)))))) := by kernel_rfl
noncomputable def vcC6_s0 (num : Nat) (w : Nat) (b : Nat) (ak : Nat) (aw : Int) (key : Nat) (nw : Nat) (at_ : Nat) (d : Nat → Nat) : ASt := mkSt [(0, .cells ([.int .u64 (.ofNat num), .int .i64 (.ofNat w), .int .i64 (.ofNat 6), .int .i64 (.ofNat b)] ++ (ddL d ++ [.int .i64 (.ofNat ak), .int .i64 aw, .int .u64 (.ofNat key), .int .u64 (.ofNat nw), .int .i64 (.ofNat at_)])) true)] 12
noncomputable def vcC6_s1 (num : Nat) (w : Nat) (b : Nat) (ak : Nat) (aw : Int) (key : Nat) (nw : Nat) (at_ : Nat) (d : Nat → Nat) (s1 : List Nat) : ASt := mkSt [(0, .cells ([.int .u64 (.ofNat num), .int .i64 (.ofNat w), .int .i64 (.ofNat 6), .int .i64 (.ofNat b)] ++ (ddL d ++ [.int .i64 (.ofNat ak), .int .i64 aw, .int .u64 (.ofNat key), .int .u64 (.ofNat nw), .int .i64 (.ofNat at_)])) true), (10, .cells [.str s1, .str [116, 97, 98, 108, 101]] true), (12, .cells [.str [114, 101, 97, 100], .str [119, 114, 105, 116, 101], .str [102, 108, 117, 115, 104], .str [116, 114, 105, 109], .str [122, 101, 114, 111, 101, 115], .str [116, 97, 98, 108, 101], .str [114, 101, 115, 101, 114, 118, 101]] true)] 13
noncomputable def vcC6_s2 : ASt := mkSt [] 13
theorem vcC6 (q : CallT) (num : Nat) (w : Nat) (b : Nat) (ak : Nat) (aw : Int) (key : Nat) (nw : Nat) (at_ : Nat) (d : Nat → Nat) (s1 : List Nat) (s2 : List Nat) (s3 : List Nat) (s4 : List Nat) (s5 : List Nat) (r : List Nat) (Q : AV × ASt → Prop) :
  ((M EC (drawA EC) (onlyC [10, 104, 106, 107] q) 56).call 104 [.int .i64 (.ofNat w)] (vcC6_s0 num w b ak aw key nw at_ d) = some (.str s1, vcC6_s0 num w b ak aw key nw at_ d) ∧ holdsO [(some (.int .i64 (.ofNat 6)), .int .i64 (.ofNat 6)), (some (.int .i64 (.ofNat 6)), .int .i64 (.ofNat 6))] ∧ (M EC (drawA EC) (onlyC [10, 104, 106, 107] q) 54).call 107 [.slice (some (10, 0)) 2 (.known 2), .str [32]] (vcC6_s1 num w b ak aw key nw at_ d s1) = some (.str r, vcC6_s1 num w b ak aw key nw at_ d s1) ∧ Q (.str r, vcC6_s2)) =
  (tC6 q num w b ak aw key nw at_ d s1 s2 s3 s4 s5 r).allY (fun r => Q (r.1, canS [] r.2)) (.v (.str s1, vcC6_s0 num w b ak aw key nw at_ d) (.v (.str r, vcC6_s1 num w b ak aw key nw at_ d s1) .nil)) := by kernel_rfl
noncomputable def vcD6_s0 (num : Nat) (w : Nat) (b : Nat) (ak : Nat) (aw : Int) (key : Nat) (nw : Nat) (at_ : Nat) (d : Nat → Nat) : ASt := mkSt [(0, .cells ([.int .u64 (.ofNat num), .int .i64 (.ofNat w), .int .i64 (.ofNat 6), .int .i64 (.ofNat b)] ++ (ddL d ++ [.int .i64 (.ofNat ak), .int .i64 aw, .int .u64 (.ofNat key), .int .u64 (.ofNat nw), .int .i64 (.ofNat at_)])) true)] 13
noncomputable def vcD6_s1 (num : Nat) (w : Nat) (b : Nat) (ak : Nat) (aw : Int) (key : Nat) (nw : Nat) (at_ : Nat) (d : Nat → Nat) : ASt := mkSt [(0, .cells ([.int .u64 (.ofNat num), .int .i64 (.ofNat w), .int .i64 (.ofNat 6), .int .i64 (.ofNat b)] ++ (ddL d ++ [.int .i64 (.ofNat ak), .int .i64 aw, .int .u64 (.ofNat key), .int .u64 (.ofNat nw), .int .i64 (.ofNat at_)])) true), (13, .cells [.str [114, 101, 97, 100], .str [119, 114, 105, 116, 101], .str [102, 108, 117, 115, 104], .str [116, 114, 105, 109], .str [122, 101, 114, 111, 101, 115], .str [116, 97, 98, 108, 101], .str [114, 101, 115, 101, 114, 118, 101]] true)] 14
noncomputable def vcD6_s2 : ASt := mkSt [] 14
theorem vcD6 (q : CallT) (num : Nat) (w : Nat) (b : Nat) (ak : Nat) (aw : Int) (key : Nat) (nw : Nat) (at_ : Nat) (d : Nat → Nat) (s1 : List Nat) (s2 : List Nat) (s3 : List Nat) (s4 : List Nat) (s5 : List Nat) (Q : AV × ASt → Prop) :
  ((M EC (drawA EC) (onlyC [11, 51, 53] q) 56).call 51 [.int .i64 (.ofNat w)] (vcD6_s0 num w b ak aw key nw at_ d) = some (.str s1, vcD6_s0 num w b ak aw key nw at_ d) ∧ still (vcD6_s0 num w b ak aw key nw at_ d) (aBin EC .add 9 (.tmp 7) (.const (.string { data := #[32] })) (.str s1) (.str [32])) = some (.str (s1 ++ [32]), vcD6_s0 num w b ak aw key nw at_ d) ∧ still (vcD6_s1 num w b ak aw key nw at_ d) (aBin EC .add 9 (.tmp 8) (.tmp 14) (.str (s1 ++ [32])) (.str [116, 97, 98, 108, 101])) = some (.str (s1 ++ [32] ++ wd 6), vcD6_s1 num w b ak aw key nw at_ d) ∧ holdsO [(some (.int .i64 (.ofNat 6)), .int .i64 (.ofNat 6)), (some (.int .i64 (.ofNat 6)), .int .i64 (.ofNat 6))] ∧ Q (.str (s1 ++ [32] ++ wd 6), vcD6_s2)) =
  (tD6 q num w b ak aw key nw at_ d s1 s2 s3 s4 s5).allY (fun r => Q (r.1, canS [] r.2)) (.v (.str s1, vcD6_s0 num w b ak aw key nw at_ d) (.v (.str (s1 ++ [32]), vcD6_s0 num w b ak aw key nw at_ d) (.v (.str (s1 ++ [32] ++ wd 6), vcD6_s1 num w b ak aw key nw at_ d) .nil))) := by kernel_rfl
noncomputable def vcC7_s0 (num : Nat) (w : Nat) (b : Nat) (ak : Nat) (aw : Int) (key : Nat) (nw : Nat) (at_ : Nat) (d : Nat → Nat) : ASt := mkSt [(0, .cells ([.int .u64 (.ofNat num), .int .i64 (.ofNat w), .int .i64 (.ofNat 7), .int .i64 (.ofNat b)] ++ (ddL d ++ [.int .i64 (.ofNat ak), .int .i64 aw, .int .u64 (.ofNat key), .int .u64 (.ofNat nw), .int .i64 (.ofNat at_)])) true)] 12
noncomputable def vcC7_s1 (num : Nat) (w : Nat) (b : Nat) (ak : Nat) (aw : Int) (key : Nat) (nw : Nat) (at_ : Nat) (d : Nat → Nat) (s1 : List Nat) : ASt := mkSt [(0, .cells ([.int .u64 (.ofNat num), .int .i64 (.ofNat w), .int .i64 (.ofNat 7), .int .i64 (.ofNat b)] ++ (ddL d ++ [.int .i64 (.ofNat ak), .int .i64 aw, .int .u64 (.ofNat key), .int .u64 (.ofNat nw), .int .i64 (.ofNat at_)])) true), (10, .cells [.str s1, .str [114, 101, 115, 101, 114, 118, 101]] true), (12, .cells [.str [114, 101, 97, 100], .str [119, 114, 105, 116, 101], .str [102, 108, 117, 115, 104], .str [116, 114, 105, 109], .str [122, 101, 114, 111, 101, 115], .str [116, 97, 98, 108, 101], .str [114, 101, 115, 101, 114, 118, 101]] true), (13, .cells [.int .i64 (.ofNat ak), .int .i64 aw, .int .u64 (.ofNat key), .int .u64 (.ofNat nw), .int .i64 (.ofNat at_)] true)] 30
noncomputable def vcC7_s2 (num : Nat) (w : Nat) (b : Nat) (ak : Nat) (aw : Int) (key : Nat) (nw : Nat) (at_ : Nat) (d : Nat → Nat) (s1 : List Nat) (s2 : List Nat) (s3 : List Nat) (s4 : List Nat) (s5 : List Nat) : ASt := mkSt [(0, .cells ([.int .u64 (.ofNat num), .int .i64 (.ofNat w), .int .i64 (.ofNat 7), .int .i64 (.ofNat b)] ++ (ddL d ++ [.int .i64 (.ofNat ak), .int .i64 aw, .int .u64 (.ofNat key), .int .u64 (.ofNat nw), .int .i64 (.ofNat at_)])) true), (10, .cells [.str s1, .str [114, 101, 115, 101, 114, 118, 101]] true), (12, .cells [.str [114, 101, 97, 100], .str [119, 114, 105, 116, 101], .str [102, 108, 117, 115, 104], .str [116, 114, 105, 109], .str [122, 101, 114, 111, 101, 115], .str [116, 97, 98, 108, 101], .str [114, 101, 115, 101, 114, 118, 101]] true), (13, .cells [.int .i64 (.ofNat ak), .int .i64 aw, .int .u64 (.ofNat key), .int .u64 (.ofNat nw), .int .i64 (.ofNat at_)] true), (27, .cells [.str s2, .str s3, .str s4, .str s5] true), (30, .cells [.str s1, .str [114, 101, 115, 101, 114, 118, 101], .str s2, .str s3, .str s4, .str s5] true)] 31
noncomputable def vcC7_s3 : ASt := mkSt [] 31
theorem vcC7 (q : CallT) (num : Nat) (w : Nat) (b : Nat) (ak : Nat) (aw : Int) (key : Nat) (nw : Nat) (at_ : Nat) (d : Nat → Nat) (s1 : List Nat) (s2 : List Nat) (s3 : List Nat) (s4 : List Nat) (s5 : List Nat) (r : List Nat) (Q : AV × ASt → Prop) :
  ((M EC (drawA EC) (onlyC [10, 104, 106, 107] q) 56).call 104 [.int .i64 (.ofNat w)] (vcC7_s0 num w b ak aw key nw at_ d) = some (.str s1, vcC7_s0 num w b ak aw key nw at_ d) ∧ holdsO [(some (.int .i64 (.ofNat 7)), .int .i64 (.ofNat 7)), (some (.int .i64 (.ofNat 7)), .int .i64 (.ofNat 7))] ∧ (M EC (drawA EC) (onlyC [10, 104, 106, 107] q) 46).call 104 [.int .i64 (.ofNat ak)] (vcC7_s1 num w b ak aw key nw at_ d s1) = some (.str s2, vcC7_s1 num w b ak aw key nw at_ d s1) ∧ (M EC (drawA EC) (onlyC [10, 104, 106, 107] q) 46).call 106 [.int .u64 (.ofNat key), .int .i64 (.ofNat 10)] (vcC7_s1 num w b ak aw key nw at_ d s1) = some (.str s3, vcC7_s1 num w b ak aw key nw at_ d s1) ∧ (M EC (drawA EC) (onlyC [10, 104, 106, 107] q) 46).call 106 [.int .u64 (.ofNat nw), .int .i64 (.ofNat 10)] (vcC7_s1 num w b ak aw key nw at_ d s1) = some (.str s4, vcC7_s1 num w b ak aw key nw at_ d s1) ∧ (M EC (drawA EC) (onlyC [10, 104, 106, 107] q) 46).call 104 [.int .i64 (.ofNat at_)] (vcC7_s1 num w b ak aw key nw at_ d s1) = some (.str s5, vcC7_s1 num w b ak aw key nw at_ d s1) ∧ holdsO [(some (.int .u64 (.ofNat key)), .int .u64 (.ofNat key)), (some (.int .u64 (.ofNat nw)), .int .u64 (.ofNat nw)), (some (.int .u64 (.ofNat nw)), .int .u64 (.ofNat nw)), (some (.int .i64 (.ofNat at_)), .int .i64 (.ofNat at_)), (some (.int .i64 (.ofNat at_)), .int .i64 (.ofNat at_)), (some (.int .i64 (.ofNat at_)), .int .i64 (.ofNat at_))] ∧ (M EC (drawA EC) (onlyC [10, 104, 106, 107] q) 54).call 107 [.slice (some (30, 0)) 6 (.rest 1), .str [32]] (vcC7_s2 num w b ak aw key nw at_ d s1 s2 s3 s4 s5) = some (.str r, vcC7_s2 num w b ak aw key nw at_ d s1 s2 s3 s4 s5) ∧ Q (.str r, vcC7_s3)) =
  (tC7 q num w b ak aw key nw at_ d s1 s2 s3 s4 s5 r).allY (fun r => Q (r.1, canS [] r.2)) (.v (.str s1, vcC7_s0 num w b ak aw key nw at_ d) (.v (.str s2, vcC7_s1 num w b ak aw key nw at_ d s1) (.v (.str s3, vcC7_s1 num w b ak aw key nw at_ d s1) (.v (.str s4, vcC7_s1 num w b ak aw key nw at_ d s1) (.v (.str s5, vcC7_s1 num w b ak aw key nw at_ d s1) (.v (.str r, vcC7_s2 num w b ak aw key nw at_ d s1 s2 s3 s4 s5) .nil)))))) := by kernel_rfl
noncomputable def vcD7_s0 (num : Nat) (w : Nat) (b : Nat) (ak : Nat) (aw : Int) (key : Nat) (nw : Nat) (at_ : Nat) (d : Nat → Nat) : ASt := mkSt [(0, .cells ([.int .u64 (.ofNat num), .int .i64 (.ofNat w), .int .i64 (.ofNat 7), .int .i64 (.ofNat b)] ++ (ddL d ++ [.int .i64 (.ofNat ak), .int .i64 aw, .int .u64 (.ofNat key), .int .u64 (.ofNat nw), .int .i64 (.ofNat at_)])) true)] 13
noncomputable def vcD7_s1 (num : Nat) (w : Nat) (b : Nat) (ak : Nat) (aw : Int) (key : Nat) (nw : Nat) (at_ : Nat) (d : Nat → Nat) : ASt := mkSt [(0, .cells ([.int .u64 (.ofNat num), .int .i64 (.ofNat w), .int .i64 (.ofNat 7), .int .i64 (.ofNat b)] ++ (ddL d ++ [.int .i64 (.ofNat ak), .int .i64 aw, .int .u64 (.ofNat key), .int .u64 (.ofNat nw), .int .i64 (.ofNat at_)])) true), (13, .cells [.str [114, 101, 97, 100], .str [119, 114, 105, 116, 101], .str [102, 108, 117, 115, 104], .str [116, 114, 105, 109], .str [122, 101, 114, 111, 101, 115], .str [116, 97, 98, 108, 101], .str [114, 101, 115, 101, 114, 118, 101]] true)] 14
noncomputable def vcD7_s2 (num : Nat) (w : Nat) (b : Nat) (ak : Nat) (aw : Int) (key : Nat) (nw : Nat) (at_ : Nat) (d : Nat → Nat) : ASt := mkSt [(0, .cells ([.int .u64 (.ofNat num), .int .i64 (.ofNat w), .int .i64 (.ofNat 7), .int .i64 (.ofNat b)] ++ (ddL d ++ [.int .i64 (.ofNat ak), .int .i64 aw, .int .u64 (.ofNat key), .int .u64 (.ofNat nw), .int .i64 (.ofNat at_)])) true), (13, .cells [.str [114, 101, 97, 100], .str [119, 114, 105, 116, 101], .str [102, 108, 117, 115, 104], .str [116, 114, 105, 109], .str [122, 101, 114, 111, 101, 115], .str [116, 97, 98, 108, 101], .str [114, 101, 115, 101, 114, 118, 101]] true), (14, .cells [.int .i64 (.ofNat ak), .int .i64 aw, .int .u64 (.ofNat key), .int .u64 (.ofNat nw), .int .i64 (.ofNat at_)] true)] 37
noncomputable def vcD7_s3 : ASt := mkSt [] 37
theorem vcD7 (q : CallT) (num : Nat) (w : Nat) (b : Nat) (ak : Nat) (aw : Int) (key : Nat) (nw : Nat) (at_ : Nat) (d : Nat → Nat) (s1 : List Nat) (s2 : List Nat) (s3 : List Nat) (s4 : List Nat) (s5 : List Nat) (Q : AV × ASt → Prop) :
  ((M EC (drawA EC) (onlyC [11, 51, 53] q) 56).call 51 [.int .i64 (.ofNat w)] (vcD7_s0 num w b ak aw key nw at_ d) = some (.str s1, vcD7_s0 num w b ak aw key nw at_ d) ∧ still (vcD7_s0 num w b ak aw key nw at_ d) (aBin EC .add 9 (.tmp 7) (.const (.string { data := #[32] })) (.str s1) (.str [32])) = some (.str (s1 ++ [32]), vcD7_s0 num w b ak aw key nw at_ d) ∧ still (vcD7_s1 num w b ak aw key nw at_ d) (aBin EC .add 9 (.tmp 8) (.tmp 14) (.str (s1 ++ [32])) (.str [114, 101, 115, 101, 114, 118, 101])) = some (.str (s1 ++ [32] ++ wd 7), vcD7_s1 num w b ak aw key nw at_ d) ∧ holdsO [(some (.int .i64 (.ofNat 7)), .int .i64 (.ofNat 7)), (some (.int .i64 (.ofNat 7)), .int .i64 (.ofNat 7))] ∧ still (vcD7_s2 num w b ak aw key nw at_ d) (aBin EC .add 9 (.tmp 45) (.const (.string { data := #[32] })) (.str (s1 ++ [32] ++ wd 7)) (.str [32])) = some (.str (s1 ++ [32] ++ wd 7 ++ [32]), vcD7_s2 num w b ak aw key nw at_ d) ∧ (M EC (drawA EC) (onlyC [11, 51, 53] q) 45).call 51 [.int .i64 (.ofNat ak)] (vcD7_s2 num w b ak aw key nw at_ d) = some (.str s2, vcD7_s2 num w b ak aw key nw at_ d) ∧ still (vcD7_s2 num w b ak aw key nw at_ d) (aBin EC .add 9 (.tmp 46) (.tmp 49) (.str (s1 ++ [32] ++ wd 7 ++ [32])) (.str s2)) = some (.str (s1 ++ [32] ++ wd 7 ++ [32] ++ s2), vcD7_s2 num w b ak aw key nw at_ d) ∧ still (vcD7_s2 num w b ak aw key nw at_ d) (aBin EC .add 9 (.tmp 50) (.const (.string { data := #[32] })) (.str (s1 ++ [32] ++ wd 7 ++ [32] ++ s2)) (.str [32])) = some (.str (s1 ++ [32] ++ wd 7 ++ [32] ++ s2 ++ [32]), vcD7_s2 num w b ak aw key nw at_ d) ∧ (M EC (drawA EC) (onlyC [11, 51, 53] q) 45).call 53 [.int .u64 (.ofNat key)] (vcD7_s2 num w b ak aw key nw at_ d) = some (.str s3, vcD7_s2 num w b ak aw key nw at_ d) ∧ still (vcD7_s2 num w b ak aw key nw at_ d) (aBin EC .add 9 (.tmp 51) (.tmp 54) (.str (s1 ++ [32] ++ wd 7 ++ [32] ++ s2 ++ [32])) (.str s3)) = some (.str (s1 ++ [32] ++ wd 7 ++ [32] ++ s2 ++ [32] ++ s3), vcD7_s2 num w b ak aw key nw at_ d) ∧ still (vcD7_s2 num w b ak aw key nw at_ d) (aBin EC .add 9 (.tmp 55) (.const (.string { data := #[32] })) (.str (s1 ++ [32] ++ wd 7 ++ [32] ++ s2 ++ [32] ++ s3)) (.str [32])) = some (.str (s1 ++ [32] ++ wd 7 ++ [32] ++ s2 ++ [32] ++ s3 ++ [32]), vcD7_s2 num w b ak aw key nw at_ d) ∧ (M EC (drawA EC) (onlyC [11, 51, 53] q) 45).call 53 [.int .u64 (.ofNat nw)] (vcD7_s2 num w b ak aw key nw at_ d) = some (.str s4, vcD7_s2 num w b ak aw key nw at_ d) ∧ still (vcD7_s2 num w b ak aw key nw at_ d) (aBin EC .add 9 (.tmp 56) (.tmp 59) (.str (s1 ++ [32] ++ wd 7 ++ [32] ++ s2 ++ [32] ++ s3 ++ [32])) (.str s4)) = some (.str (s1 ++ [32] ++ wd 7 ++ [32] ++ s2 ++ [32] ++ s3 ++ [32] ++ s4), vcD7_s2 num w b ak aw key nw at_ d) ∧ still (vcD7_s2 num w b ak aw key nw at_ d) (aBin EC .add 9 (.tmp 60) (.const (.string { data := #[32] })) (.str (s1 ++ [32] ++ wd 7 ++ [32] ++ s2 ++ [32] ++ s3 ++ [32] ++ s4)) (.str [32])) = some (.str (s1 ++ [32] ++ wd 7 ++ [32] ++ s2 ++ [32] ++ s3 ++ [32] ++ s4 ++ [32]), vcD7_s2 num w b ak aw key nw at_ d) ∧ (M EC (drawA EC) (onlyC [11, 51, 53] q) 45).call 51 [.int .i64 (.ofNat at_)] (vcD7_s2 num w b ak aw key nw at_ d) = some (.str s5, vcD7_s2 num w b ak aw key nw at_ d) ∧ still (vcD7_s2 num w b ak aw key nw at_ d) (aBin EC .add 9 (.tmp 61) (.tmp 64) (.str (s1 ++ [32] ++ wd 7 ++ [32] ++ s2 ++ [32] ++ s3 ++ [32] ++ s4 ++ [32])) (.str s5)) = some (.str (s1 ++ [32] ++ wd 7 ++ [32] ++ s2 ++ [32] ++ s3 ++ [32] ++ s4 ++ [32] ++ s5), vcD7_s2 num w b ak aw key nw at_ d) ∧ holdsO [(some (.int .u64 (.ofNat key)), .int .u64 (.ofNat key)), (some (.int .u64 (.ofNat nw)), .int .u64 (.ofNat nw)), (some (.int .u64 (.ofNat nw)), .int .u64 (.ofNat nw)), (some (.int .i64 (.ofNat at_)), .int .i64 (.ofNat at_)), (some (.int .i64 (.ofNat at_)), .int .i64 (.ofNat at_)), (some (.int .i64 (.ofNat at_)), .int .i64 (.ofNat at_))] ∧ Q (.str (s1 ++ [32] ++ wd 7 ++ [32] ++ s2 ++ [32] ++ s3 ++ [32] ++ s4 ++ [32] ++ s5), vcD7_s3)) =
  (tD7 q num w b ak aw key nw at_ d s1 s2 s3 s4 s5).allY (fun r => Q (r.1, canS [] r.2)) (.v (.str s1, vcD7_s0 num w b ak aw key nw at_ d) (.v (.str (s1 ++ [32]), vcD7_s0 num w b ak aw key nw at_ d) (.v (.str (s1 ++ [32] ++ wd 7), vcD7_s1 num w b ak aw key nw at_ d) (.v (.str (s1 ++ [32] ++ wd 7 ++ [32]), vcD7_s2 num w b ak aw key nw at_ d) (.v (.str s2, vcD7_s2 num w b ak aw key nw at_ d) (.v (.str (s1 ++ [32] ++ wd 7 ++ [32] ++ s2), vcD7_s2 num w b ak aw key nw at_ d) (.v (.str (s1 ++ [32] ++ wd 7 ++ [32] ++ s2 ++ [32]), vcD7_s2 num w b ak aw key nw at_ d) (.v (.str s3, vcD7_s2 num w b ak aw key nw at_ d) (.v (.str (s1 ++ [32] ++ wd 7 ++ [32] ++ s2 ++ [32] ++ s3), vcD7_s2 num w b ak aw key nw at_ d) (.v (.str (s1 ++ [32] ++ wd 7 ++ [32] ++ s2 ++ [32] ++ s3 ++ [32]), vcD7_s2 num w b ak aw key nw at_ d) (.v (.str s4, vcD7_s2 num w b ak aw key nw at_ d) (.v (.str (s1 ++ [32] ++ wd 7 ++ [32] ++ s2 ++ [32] ++ s3 ++ [32] ++ s4), vcD7_s2 num w b ak aw key nw at_ d) (.v (.str (s1 ++ [32] ++ wd 7 ++ [32] ++ s2 ++ [32] ++ s3 ++ [32] ++ s4 ++ [32]), vcD7_s2 num w b ak aw key nw at_ d) (.v (.str s5, vcD7_s2 num w b ak aw key nw at_ d) (.v (.str (s1 ++ [32] ++ wd 7 ++ [32] ++ s2 ++ [32] ++ s3 ++ [32] ++ s4 ++ [32] ++ s5), vcD7_s2 num w b ak aw key nw at_ d) .nil))))))))))))))) := by kernel_rfl
noncomputable def vcT51_s0 : ASt := mkSt [] 0
theorem vcT51 (q : CallT) (w : Nat) (s : List Nat) (Q : AV × ASt → Prop) :
  (aConvert EC 3 22 (.int .i64 (.ofNat w)) (vcT51_s0) = some (.int .u64 (.ofNat w), vcT51_s0) ∧ (M EC (drawA EC) (onlyC [53] q) 56).call 53 [.int .u64 (.ofNat w)] (vcT51_s0) = some (.str s, vcT51_s0) ∧ Q (.str s, vcT51_s0)) =
  (tT51 q w s).allY (fun r => Q (r.1, canS [] r.2)) (.v (.int .u64 (.ofNat w), vcT51_s0) (.v (.str s, vcT51_s0) .nil)) := by kernel_rfl
noncomputable def vcG0_s0 (num : Int) (who : Int) (k : Int) (blk : Int) (ak : Int) (aw : Int) (key : Int) (nw : Int) (at_ : Int) (d : Nat → Nat) : ASt := mkSt [(0, .cells ([.int .u64 num, .int .i64 who, .int .i64 k, .int .i64 blk] ++ (ddL d ++ [.int .i64 ak, .int .i64 aw, .int .u64 key, .int .u64 nw, .int .i64 at_])) true)] 1
noncomputable def vcG0_s1 : ASt := mkSt [] 1
theorem vcG0 (q : CallT) (num : Int) (who : Int) (k : Int) (blk : Int) (ak : Int) (aw : Int) (key : Int) (nw : Int) (at_ : Int) (d : Nat → Nat) (Q : AV × ASt → Prop) :
  ((M EC (drawA EC) (onlyC [44, 45] q) 55).call 44 [.agg ([.int .u64 num, .int .i64 who, .int .i64 k, .int .i64 blk] ++ (ddL d ++ [.int .i64 ak, .int .i64 aw, .int .u64 key, .int .u64 nw, .int .i64 at_])), .int .i64 (.ofNat 64)] (vcG0_s0 num who k blk ak aw key nw at_ d) = some (.bool false, vcG0_s0 num who k blk ak aw key nw at_ d) ∧ Q (.tuple [.str [], .int .i64 (.ofNat 2)], vcG0_s1)) =
  (tG0 q num who k blk ak aw key nw at_ d).allY (fun r => Q (r.1, canS [] r.2)) (.v (.bool false, vcG0_s0 num who k blk ak aw key nw at_ d) .nil) := by kernel_rfl
noncomputable def vcG1_s0 (num : Int) (who : Int) (k : Int) (blk : Int) (ak : Int) (aw : Int) (key : Int) (nw : Int) (at_ : Int) (d : Nat → Nat) : ASt := mkSt [(0, .cells ([.int .u64 num, .int .i64 who, .int .i64 k, .int .i64 blk] ++ (ddL d ++ [.int .i64 ak, .int .i64 aw, .int .u64 key, .int .u64 nw, .int .i64 at_])) true)] 1
noncomputable def vcG1_s1 : ASt := mkSt [] 1
theorem vcG1 (q : CallT) (num : Int) (who : Int) (k : Int) (blk : Int) (ak : Int) (aw : Int) (key : Int) (nw : Int) (at_ : Int) (d : Nat → Nat) (r : List Nat) (Q : AV × ASt → Prop) :
  ((M EC (drawA EC) (onlyC [44, 45] q) 55).call 44 [.agg ([.int .u64 num, .int .i64 who, .int .i64 k, .int .i64 blk] ++ (ddL d ++ [.int .i64 ak, .int .i64 aw, .int .u64 key, .int .u64 nw, .int .i64 at_])), .int .i64 (.ofNat 64)] (vcG1_s0 num who k blk ak aw key nw at_ d) = some (.bool true, vcG1_s0 num who k blk ak aw key nw at_ d) ∧ (M EC (drawA EC) (onlyC [44, 45] q) 55).call 45 [.agg ([.int .u64 num, .int .i64 who, .int .i64 k, .int .i64 blk] ++ (ddL d ++ [.int .i64 ak, .int .i64 aw, .int .u64 key, .int .u64 nw, .int .i64 at_]))] (vcG1_s0 num who k blk ak aw key nw at_ d) = some (.str r, vcG1_s0 num who k blk ak aw key nw at_ d) ∧ Q (.tuple [.str r, .int .i64 (.ofNat 0)], vcG1_s1)) =
  (tG1 q num who k blk ak aw key nw at_ d r).allY (fun r => Q (r.1, canS [] r.2)) (.v (.bool true, vcG1_s0 num who k blk ak aw key nw at_ d) (.v (.str r, vcG1_s0 num who k blk ak aw key nw at_ d) .nil)) := by kernel_rfl
noncomputable def vcL0_s0 (num : Int) (who : Int) (k : Int) (blk : Int) (ak : Int) (aw : Int) (key : Int) (nw : Int) (at_ : Int) (d : Nat → Nat) (e : Nat → Nat) : ASt := mkSt [(0, .cells ([.int .u64 num, .int .i64 who, .int .i64 k, .int .i64 blk] ++ (ddL d ++ [.int .i64 ak, .int .i64 aw, .int .u64 key, .int .u64 nw, .int .i64 at_])) true), (1, .cells (ddL e) true)] 2
noncomputable def vcL0_s1 (num : Int) (who : Int) (k : Int) (blk : Int) (ak : Int) (aw : Int) (key : Int) (nw : Int) (at_ : Int) (d : Nat → Nat) (e : Nat → Nat) : ASt := mkSt [(0, .cells ([.int .u64 num, .int .i64 who, .int .i64 k, .int .i64 blk] ++ (ddL d ++ [.int .i64 ak, .int .i64 aw, .int .u64 key, .int .u64 nw, .int .i64 at_])) true), (1, .cells (ddL e) true)] 16
noncomputable def vcL0_s2 : ASt := mkSt [] 16
theorem vcL0 (q : CallT) (num : Int) (who : Int) (k : Int) (blk : Int) (ak : Int) (aw : Int) (key : Int) (nw : Int) (at_ : Int) (d : Nat → Nat) (e : Nat → Nat) (m : Int) (u : List Nat) (u2 : List Nat) (Q : AV × ASt → Prop) :
  ((M EC (drawA EC) (onlyC [9, 10, 11, 12, 13, 15, 16] q) 56).call 9 [.agg ([.int .u64 num, .int .i64 who, .int .i64 k, .int .i64 blk] ++ (ddL d ++ [.int .i64 ak, .int .i64 aw, .int .u64 key, .int .u64 nw, .int .i64 at_]))] (vcL0_s0 num who k blk ak aw key nw at_ d e) = some (.tuple [.str [], .int .i64 (.ofNat 2)], vcL0_s0 num who k blk ak aw key nw at_ d e) ∧ (M EC (drawA EC) (onlyC [9, 10, 11, 12, 13, 15, 16] q) 54).call 10 [.agg (ddL e)] (vcL0_s1 num who k blk ak aw key nw at_ d e) = some (.str u, vcL0_s1 num who k blk ak aw key nw at_ d e) ∧ (M EC (drawA EC) (onlyC [9, 10, 11, 12, 13, 15, 16] q) 54).call 11 [.agg (ddL e)] (vcL0_s1 num who k blk ak aw key nw at_ d e) = some (.str u2, vcL0_s1 num who k blk ak aw key nw at_ d e) ∧ ifB (!lEq u u2) (holdsO [(some (.agg (ddL e)), .agg (ddL e))] ∧ Q (.bool false, vcL0_s2)) ((M EC (drawA EC) (onlyC [9, 10, 11, 12, 13, 15, 16] q) 54).call 12 [.int .i64 (.ofNat 0)] (vcL0_s1 num who k blk ak aw key nw at_ d e) = some (.bool true, vcL0_s1 num who k blk ak aw key nw at_ d e) ∧ (M EC (drawA EC) (onlyC [9, 10, 11, 12, 13, 15, 16] q) 54).call 12 [.int .i64 m] (vcL0_s1 num who k blk ak aw key nw at_ d e) = some (.bool true, vcL0_s1 num who k blk ak aw key nw at_ d e) ∧ holdsO [(some (.agg (ddL e)), .agg (ddL e))] ∧ (M EC (drawA EC) (onlyC [9, 10, 11, 12, 13, 15, 16] q) 53).call 13 [.agg ([.int .u64 num, .int .i64 who, .int .i64 k, .int .i64 blk] ++ (ddL d ++ [.int .i64 ak, .int .i64 aw, .int .u64 key, .int .u64 nw, .int .i64 at_])), .int .i64 (.ofNat 64)] (vcL0_s1 num who k blk ak aw key nw at_ d e) = some (.bool false, vcL0_s1 num who k blk ak aw key nw at_ d e) ∧ (M EC (drawA EC) (onlyC [9, 10, 11, 12, 13, 15, 16] q) 51).call 15 [] (vcL0_s1 num who k blk ak aw key nw at_ d e) = some (.bool true, vcL0_s1 num who k blk ak aw key nw at_ d e) ∧ Q (.bool true, vcL0_s2))) =
  (tL0 q num who k blk ak aw key nw at_ d e m u u2).allY (fun r => Q (r.1, canS [] r.2)) (.v (.tuple [.str [], .int .i64 (.ofNat 2)], vcL0_s0 num who k blk ak aw key nw at_ d e) (.v (.str u, vcL0_s1 num who k blk ak aw key nw at_ d e) (.v (.str u2, vcL0_s1 num who k blk ak aw key nw at_ d e) (.b .nil (.v (.bool true, vcL0_s1 num who k blk ak aw key nw at_ d e) (.v (.bool true, vcL0_s1 num who k blk ak aw key nw at_ d e) (.v (.bool false, vcL0_s1 num who k blk ak aw key nw at_ d e) (.v (.bool true, vcL0_s1 num who k blk ak aw key nw at_ d e) .nil)))))))) := by kernel_rfl
noncomputable def vcL1_s0 (num : Int) (who : Int) (k : Int) (blk : Int) (ak : Int) (aw : Int) (key : Int) (nw : Int) (at_ : Int) (d : Nat → Nat) (e : Nat → Nat) : ASt := mkSt [(0, .cells ([.int .u64 num, .int .i64 who, .int .i64 k, .int .i64 blk] ++ (ddL d ++ [.int .i64 ak, .int .i64 aw, .int .u64 key, .int .u64 nw, .int .i64 at_])) true), (1, .cells (ddL e) true)] 2
noncomputable def vcL1_s1 (num : Int) (who : Int) (k : Int) (blk : Int) (ak : Int) (aw : Int) (key : Int) (nw : Int) (at_ : Int) (d : Nat → Nat) (e : Nat → Nat) : ASt := mkSt [(0, .cells ([.int .u64 num, .int .i64 who, .int .i64 k, .int .i64 blk] ++ (ddL d ++ [.int .i64 ak, .int .i64 aw, .int .u64 key, .int .u64 nw, .int .i64 at_])) true), (1, .cells (ddL e) true)] 16
noncomputable def vcL1_s2 : ASt := mkSt [] 16
theorem vcL1 (q : CallT) (num : Int) (who : Int) (k : Int) (blk : Int) (ak : Int) (aw : Int) (key : Int) (nw : Int) (at_ : Int) (d : Nat → Nat) (e : Nat → Nat) (m : Int) (u : List Nat) (u2 : List Nat) (r : List Nat) (r2 : List Nat) (Q : AV × ASt → Prop) :
  ((M EC (drawA EC) (onlyC [9, 10, 11, 12, 13, 15, 16] q) 56).call 9 [.agg ([.int .u64 num, .int .i64 who, .int .i64 k, .int .i64 blk] ++ (ddL d ++ [.int .i64 ak, .int .i64 aw, .int .u64 key, .int .u64 nw, .int .i64 at_]))] (vcL1_s0 num who k blk ak aw key nw at_ d e) = some (.tuple [.str r, .int .i64 (.ofNat 0)], vcL1_s0 num who k blk ak aw key nw at_ d e) ∧ (M EC (drawA EC) (onlyC [9, 10, 11, 12, 13, 15, 16] q) 54).call 10 [.agg (ddL e)] (vcL1_s1 num who k blk ak aw key nw at_ d e) = some (.str u, vcL1_s1 num who k blk ak aw key nw at_ d e) ∧ (M EC (drawA EC) (onlyC [9, 10, 11, 12, 13, 15, 16] q) 54).call 11 [.agg (ddL e)] (vcL1_s1 num who k blk ak aw key nw at_ d e) = some (.str u2, vcL1_s1 num who k blk ak aw key nw at_ d e) ∧ ifB (!lEq u u2) (holdsO [(some (.agg (ddL e)), .agg (ddL e))] ∧ Q (.bool false, vcL1_s2)) ((M EC (drawA EC) (onlyC [9, 10, 11, 12, 13, 15, 16] q) 54).call 12 [.int .i64 (.ofNat 0)] (vcL1_s1 num who k blk ak aw key nw at_ d e) = some (.bool true, vcL1_s1 num who k blk ak aw key nw at_ d e) ∧ (M EC (drawA EC) (onlyC [9, 10, 11, 12, 13, 15, 16] q) 54).call 12 [.int .i64 m] (vcL1_s1 num who k blk ak aw key nw at_ d e) = some (.bool true, vcL1_s1 num who k blk ak aw key nw at_ d e) ∧ holdsO [(some (.agg (ddL e)), .agg (ddL e))] ∧ (M EC (drawA EC) (onlyC [9, 10, 11, 12, 13, 15, 16] q) 53).call 13 [.agg ([.int .u64 num, .int .i64 who, .int .i64 k, .int .i64 blk] ++ (ddL d ++ [.int .i64 ak, .int .i64 aw, .int .u64 key, .int .u64 nw, .int .i64 at_])), .int .i64 (.ofNat 64)] (vcL1_s1 num who k blk ak aw key nw at_ d e) = some (.bool true, vcL1_s1 num who k blk ak aw key nw at_ d e) ∧ (M EC (drawA EC) (onlyC [9, 10, 11, 12, 13, 15, 16] q) 53).call 16 [.agg ([.int .u64 num, .int .i64 who, .int .i64 k, .int .i64 blk] ++ (ddL d ++ [.int .i64 ak, .int .i64 aw, .int .u64 key, .int .u64 nw, .int .i64 at_]))] (vcL1_s1 num who k blk ak aw key nw at_ d e) = some (.str r2, vcL1_s1 num who k blk ak aw key nw at_ d e) ∧ ifB (lEq r r2) ((M EC (drawA EC) (onlyC [9, 10, 11, 12, 13, 15, 16] q) 53).call 15 [] (vcL1_s1 num who k blk ak aw key nw at_ d e) = some (.bool true, vcL1_s1 num who k blk ak aw key nw at_ d e) ∧ Q (.bool true, vcL1_s2)) (Q (.bool false, vcL1_s2)))) =
  (tL1 q num who k blk ak aw key nw at_ d e m u u2 r r2).allY (fun r => Q (r.1, canS [] r.2)) (.v (.tuple [.str r, .int .i64 (.ofNat 0)], vcL1_s0 num who k blk ak aw key nw at_ d e) (.v (.str u, vcL1_s1 num who k blk ak aw key nw at_ d e) (.v (.str u2, vcL1_s1 num who k blk ak aw key nw at_ d e) (.b .nil (.v (.bool true, vcL1_s1 num who k blk ak aw key nw at_ d e) (.v (.bool true, vcL1_s1 num who k blk ak aw key nw at_ d e) (.v (.bool true, vcL1_s1 num who k blk ak aw key nw at_ d e) (.v (.str r2, vcL1_s1 num who k blk ak aw key nw at_ d e) (.b (.v (.bool true, vcL1_s1 num who k blk ak aw key nw at_ d e) .nil) .nil))))))))) := by kernel_rfl
end Go.Proofs.YtcboepooglaogaaGreatDoor.spt
end

section
open Go Go.Ax Go.Proofs
namespace Go.Proofs.YtcboepooglaogaaGreatDoor.spt
set_option linter.unusedVariables false
theorem ECok : Env.Ok Tryz.prog EC := envEx_ok (xs := []) ⟨⟨Tryz.func3, Tryz.call3⟩, ⟨Tryz.func9, Tryz.call9⟩, ⟨Tryz.func12, Tryz.call12⟩, ⟨Tryz.func14, Tryz.call14⟩, ⟨Tryz.func16, Tryz.call16⟩, ⟨Tryz.func45, Tryz.call45⟩, ⟨Tryz.func48, Tryz.call48⟩, ⟨Tryz.func49, Tryz.call49⟩, ⟨Tryz.func51, Tryz.call51⟩, ⟨Tryz.func52, Tryz.call52⟩, ⟨Tryz.func105, Tryz.call105⟩, ⟨Tryz.func108, Tryz.call108⟩, ⟨Tryz.func109, Tryz.call109⟩, trivial⟩ trivial (by kernel_rfl)
open Classical in
noncomputable def tabF (F : Nat → List AV → AV) (keys : List (Nat × List AV)) : CallT := fun f args st => if (f, args) ∈ keys then some (F f args, st) else none
theorem tabF_ok {F : Nat → List AV → AV} {keys : List (Nat × List AV)} (h : ∀ k, k ∈ keys → ∀ S, Call1 Tryz.prog k.1 k.2 S (F k.1 k.2, S)) : CallsOK Tryz.prog (tabF F keys) := fun B w0 f args st r hr ι w args' hsr hv => by
  unfold tabF at hr
  split at hr
  · rename_i hm
    simp only [Option.some.injEq] at hr
    subst hr
    exact h _ hm st B w0 ι w args' hsr hv
  · cases hr
theorem tabF_at {F : Nat → List AV → AV} {keys : List (Nat × List AV)} {f : Nat} {args : List AV} {st : ASt} {v : AV} (h : (f, args) ∈ keys) (hv : F f args = v) : tabF F keys f args st = some (v, st) := by
  unfold tabF
  rw [if_pos h, hv]
theorem tabF_no {F : Nat → List AV → AV} {keys : List (Nat × List AV)} {f : Nat} {args : List AV} {st : ASt} (h : ∀ k, k ∈ keys → k.1 ≠ f) : tabF F keys f args st = none := by
  unfold tabF
  rw [if_neg fun hm => h _ hm rfl]
def unU : AV → Nat
  | .int _ (.ofNat n) => n
  | _ => 0
def Fv (f : Nat) (args : List AV) : AV :=
  match args with
  | [.agg l] => .str (blkT (l.map unU))
  | .int _ (.ofNat n) :: _ => .str (decL n)
  | _ => .nilFunc
theorem Fv_l {f : Nat} {l : List AV} : Fv f [.agg l] = .str (blkT (l.map unU)) := rfl
theorem Fv_blk {f : Nat} {d : Nat → Nat} : Fv f [.agg (ddL d)] = .str (blkT (il d)) := by
  have e : unU ∘ cellU = id := by funext n; rfl
  rw [Fv_l, ddL_il, List.map_map, e, List.map_id]
theorem avs_U : ∀ l : List Nat, avsEq (l.map cellU) (l.map cellU) = true
  | [] => rfl
  | x :: l => by
    show (avEq (cellU x) (cellU x) && avsEq (l.map cellU) (l.map cellU)) = true
    rw [avs_U l]
    simp [cellU, avEq]
theorem avD {d : Nat → Nat} : avEq (.agg (ddL d)) (.agg (ddL d)) = true := by
  show avsEq (ddL d) (ddL d) = true
  rw [ddL_il]
  exact avs_U _
theorem sj_at {S : ASt} {k o : Nat} {c : Cap} {cs : List AV} {rw : Bool} {xs : List (List Nat)} {sep : List Nat} (hS : S.h.get k = some (.cells cs rw)) (ht : takeL cs o xs.length = some (xs.map AV.str)) (hl : (joinL sep xs).length < 140737488355328) (hn : xs.length < 140737488355328) : sumJoin 107 107 [.slice (some (k, o)) xs.length c, .str sep] S = some (.str (joinL sep xs), S) := by
  unfold sumJoin
  simp only [Nat.beq_refl, cond_true, hS, ht, strsA_map]
  rw [blt_t hl, blt_t hn]
  rfl
theorem addC {S : ASt} {x y : Operand} {a b c : List Nat} (h : a.length + b.length < 4294967296) (hc : c = a ++ b) : still S (aBin EC .add 9 x y (.str a) (.str b)) = some (.str c, S) := by
  subst hc
  have e : aBin EC .add 9 x y (.str a) (.str b) = bif Nat.blt (a.length + b.length) 4294967296 then some (.str (a ++ b)) else none := rfl
  refine still_of ?_
  rw [e, blt_t h]; rfl
theorem decL_le {n : Nat} (h : n < 18446744073709551616) : (decL n).length ≤ 20 := by rw [decL_len]; exact nd20 h
theorem blkT_le {d : Nat → Nat} : (blkT (il d)).length ≤ 512 := by
  unfold blkT
  split
  · simp
  · rw [digL_len, List.length_take, il_len]; omega
def cmdT (k w b ak key nw at_ : Nat) (d : Nat → Nat) : List Nat :=
  match k with
  | 1 | 4 | 5 => decL w ++ [32] ++ wd k ++ [32] ++ decL b
  | 2 => decL w ++ [32] ++ wd k ++ [32] ++ decL b ++ [32] ++ blkT (il d)
  | 7 => decL w ++ [32] ++ wd k ++ [32] ++ decL ak ++ [32] ++ decL key ++ [32] ++ decL nw ++ [32] ++ decL at_
  | _ => decL w ++ [32] ++ wd k
section
variable {num w b ak : Nat} {aw : Int} {key nw at_ : Nat} {d : Nat → Nat} {S : ASt}
theorem conv51 (h : w < 9223372036854775808) : aConvert EC 3 22 (.int .i64 (.ofNat w)) S = some (.int .u64 (.ofNat w), S) := by
  have e : aConvert EC 3 22 (.int .i64 (.ofNat w)) S = some (.int .u64 (wrapF .u64 (.ofNat w)), S) := by kernel_rfl
  rw [e, wrapU (by omega)]
theorem t51_at (h : w < 9223372036854775808) : Call1 Tryz.prog 51 [nI w] S (.str (decL w), S) :=
  Call1.pure (AtMem.of_tm ECok (sum := onlyC [53] (tabF Fv [(53, [gN w])])) (onlyC_ok (tabF_ok fun k hk S => by
    simp only [List.mem_cons, List.not_mem_nil, or_false] at hk
    subst hk
    exact text_at (by omega))) (Eq.mp (vcT51 _ w (decL w) (fun r => r.1 = .str (decL w))) ⟨conv51 h, call_at (onlyC_at rfl (tabF_at (by simp [gN]) rfl)), rfl⟩)) (by simp [refsV]) fun a ha => by
    simp only [List.mem_cons, List.not_mem_nil, or_false] at ha
    subst ha; simp [refsV, nI]
structure Small (w b ak key nw at_ : Nat) (d : Nat → Nat) : Prop where
  w : w < 9223372036854775808
  b : b < 9223372036854775808
  ak : ak < 9223372036854775808
  key : key < 18446744073709551616
  nw : nw < 18446744073709551616
  at_ : at_ < 9223372036854775808
  d : ∀ i, d i < 256
theorem blkD10 (h : ∀ i, d i < 256) : Call1 Tryz.prog 10 [.agg (ddL d)] S (.str (blkT (il d)), S) := by
  rw [ddL_il]
  exact blk10_at (il_len d) fun y hy => by
    obtain ⟨i, _, rfl⟩ := List.mem_map.1 hy
    exact h i
theorem blkD11 (h : ∀ i, d i < 256) : Call1 Tryz.prog 11 [.agg (ddL d)] S (.str (blkT (il d)), S) := by
  rw [ddL_il]
  exact blk11_at (il_len d) fun y hy => by
    obtain ⟨i, _, rfl⟩ := List.mem_map.1 hy
    exact h i
noncomputable def keysC (w b ak key nw at_ : Nat) (d : Nat → Nat) : List (Nat × List AV) := [(104, [nI w]), (104, [nI b]), (104, [nI ak]), (104, [nI at_]), (106, [gN key, nI 10]), (106, [gN nw, nI 10]), (10, [.agg (ddL d)])]
noncomputable def keysD (w b ak key nw at_ : Nat) (d : Nat → Nat) : List (Nat × List AV) := [(51, [nI w]), (51, [nI b]), (51, [nI ak]), (51, [nI at_]), (53, [gN key]), (53, [gN nw]), (11, [.agg (ddL d)])]
noncomputable def smC (w b ak key nw at_ : Nat) (d : Nat → Nat) : CallT := orC (tabF Fv (keysC w b ak key nw at_ d)) (sumJoin 107)
theorem smC_ok (h : Small w b ak key nw at_ d) : CallsOK Tryz.prog (onlyC [10, 104, 106, 107] (smC w b ak key nw at_ d)) := onlyC_ok (orC_ok (tabF_ok fun k hk S => by
  simp only [keysC, List.mem_cons, List.not_mem_nil, or_false] at hk
  rcases hk with rfl | rfl | rfl | rfl | rfl | rfl | rfl
  · exact itoa_at h.w
  · exact itoa_at h.b
  · exact itoa_at h.ak
  · exact itoa_at h.at_
  · exact fmt_at h.key
  · exact fmt_at h.nw
  · show Call1 Tryz.prog 10 [.agg (ddL d)] S (Fv 10 [.agg (ddL d)], S)
    rw [Fv_blk]
    exact blkD10 h.d) join_ok)
theorem smD_ok (h : Small w b ak key nw at_ d) : CallsOK Tryz.prog (onlyC [11, 51, 53] (tabF Fv (keysD w b ak key nw at_ d))) := onlyC_ok (tabF_ok fun k hk S => by
  simp only [keysD, List.mem_cons, List.not_mem_nil, or_false] at hk
  rcases hk with rfl | rfl | rfl | rfl | rfl | rfl | rfl
  · exact t51_at h.w
  · exact t51_at h.b
  · exact t51_at h.ak
  · exact t51_at h.at_
  · exact text_at h.key
  · exact text_at h.nw
  · show Call1 Tryz.prog 11 [.agg (ddL d)] S (Fv 11 [.agg (ddL d)], S)
    rw [Fv_blk]
    exact blkD11 h.d)
theorem cC {f j : Nat} {args : List AV} {v : AV} (hm : memN f [10, 104, 106, 107] = true) (hk : (f, args) ∈ keysC w b ak key nw at_ d) (hv : Fv f args = v) : (M EC (drawA EC) (onlyC [10, 104, 106, 107] (smC w b ak key nw at_ d)) (j + 1)).call f args S = some (v, S) :=
  call_at (onlyC_at hm (orC_l (tabF_at hk hv)))
theorem cJ {j k o : Nat} {c : Cap} {cs : List AV} {rw : Bool} {xs : List (List Nat)} {sep : List Nat} (hS : S.h.get k = some (.cells cs rw)) (ht : takeL cs o xs.length = some (xs.map AV.str)) (hl : (joinL sep xs).length < 140737488355328) (hn : xs.length < 140737488355328) : (M EC (drawA EC) (onlyC [10, 104, 106, 107] (smC w b ak key nw at_ d)) (j + 1)).call 107 [.slice (some (k, o)) xs.length c, .str sep] S = some (.str (joinL sep xs), S) :=
  call_at (onlyC_at rfl (orC_r (tabF_no fun q hq => by
    simp only [keysC, List.mem_cons, List.not_mem_nil, or_false] at hq
    rcases hq with rfl | rfl | rfl | rfl | rfl | rfl | rfl <;> simp) (sj_at hS ht hl hn)))
theorem cD {f j : Nat} {args : List AV} {v : AV} (hm : memN f [11, 51, 53] = true) (hk : (f, args) ∈ keysD w b ak key nw at_ d) (hv : Fv f args = v) : (M EC (drawA EC) (onlyC [11, 51, 53] (tabF Fv (keysD w b ak key nw at_ d))) (j + 1)).call f args S = some (v, S) :=
  call_at (onlyC_at hm (tabF_at hk hv))
theorem cmd1_mem (h : Small w b ak key nw at_ d) : AtMem Tryz.prog 45 [.agg (cmN 1 num w b ak aw key nw at_ d)] M0 (.str (cmdT 1 w b ak key nw at_ d)) := by
  have l1 := decL_le (n := w) (by have := h.w; omega)
  have l2 := decL_le (n := b) (by have := h.b; omega)
  have l3 := decL_le (n := ak) (by have := h.ak; omega)
  have l4 := decL_le h.key
  have l5 := decL_le h.nw
  have l6 := decL_le (n := at_) (by have := h.at_; omega)
  have l7 := blkT_le (d := d)
  have e : joinL [32] [decL w, wd 1, decL b] = cmdT 1 w b ak key nw at_ d := by simp [joinL, jnTail, cmdT]
  refine AtMem.of_tm ECok (smC_ok h) (Eq.mp (vcC1 (smC w b ak key nw at_ d) num w b ak aw key nw at_ d (decL w) (decL b) ([]) ([]) ([]) (joinL [32] [decL w, wd 1, decL b]) (fun r => r.1 = .str (cmdT 1 w b ak key nw at_ d))) ⟨cC rfl (by simp [keysC, nI, gN]) rfl, ⟨⟨rfl, avI⟩, ⟨rfl, avI⟩, trivial⟩, cC rfl (by simp [keysC, nI, gN]) rfl, cJ (cs := List.map AV.str [decL w, wd 1, decL b]) (rw := true) (xs := [decL w, wd 1, decL b]) (by kernel_rfl) (by kernel_rfl) (by simp only [joinL, jnTail, List.length_append, List.length_cons, List.length_nil, wd]; omega) (by simp), ?_⟩)
  rw [e]
theorem ref1_txt (h : Small w b ak key nw at_ d) : AtMem Tryz.prog 16 [.agg (cmN 1 num w b ak aw key nw at_ d)] M0 (.str (cmdT 1 w b ak key nw at_ d)) := by
  have l1 := decL_le (n := w) (by have := h.w; omega)
  have l2 := decL_le (n := b) (by have := h.b; omega)
  have l3 := decL_le (n := ak) (by have := h.ak; omega)
  have l4 := decL_le h.key
  have l5 := decL_le h.nw
  have l6 := decL_le (n := at_) (by have := h.at_; omega)
  have l7 := blkT_le (d := d)
  exact AtMem.of_tm ECok (smD_ok h) (Eq.mp (vcD1 (tabF Fv (keysD w b ak key nw at_ d)) num w b ak aw key nw at_ d (decL w) (decL b) ([]) ([]) ([]) (fun r => r.1 = .str (cmdT 1 w b ak key nw at_ d))) ⟨cD rfl (by simp [keysD, nI, gN]) rfl, addC (by simp only [List.length_cons, List.length_nil]; omega) rfl, addC (by simp only [List.length_append, List.length_cons, List.length_nil]; omega) rfl, ⟨⟨rfl, avI⟩, ⟨rfl, avI⟩, trivial⟩, addC (by simp only [List.length_append, List.length_cons, List.length_nil, wd]; omega) rfl, cD rfl (by simp [keysD, nI, gN]) rfl, addC (by simp only [List.length_append, List.length_cons, List.length_nil, wd]; omega) rfl, rfl⟩)
theorem cmd2_mem (h : Small w b ak key nw at_ d) : AtMem Tryz.prog 45 [.agg (cmN 2 num w b ak aw key nw at_ d)] M0 (.str (cmdT 2 w b ak key nw at_ d)) := by
  have l1 := decL_le (n := w) (by have := h.w; omega)
  have l2 := decL_le (n := b) (by have := h.b; omega)
  have l3 := decL_le (n := ak) (by have := h.ak; omega)
  have l4 := decL_le h.key
  have l5 := decL_le h.nw
  have l6 := decL_le (n := at_) (by have := h.at_; omega)
  have l7 := blkT_le (d := d)
  have e : joinL [32] [decL w, wd 2, decL b, blkT (il d)] = cmdT 2 w b ak key nw at_ d := by simp [joinL, jnTail, cmdT]
  refine AtMem.of_tm ECok (smC_ok h) (Eq.mp (vcC2 (smC w b ak key nw at_ d) num w b ak aw key nw at_ d (decL w) (decL b) (blkT (il d)) ([]) ([]) (joinL [32] [decL w, wd 2, decL b, blkT (il d)]) (fun r => r.1 = .str (cmdT 2 w b ak key nw at_ d))) ⟨cC rfl (by simp [keysC, nI, gN]) rfl, ⟨⟨rfl, avI⟩, ⟨rfl, avI⟩, trivial⟩, cC rfl (by simp [keysC, nI, gN]) rfl, cC rfl (by simp [keysC, nI, gN]) Fv_blk, ⟨⟨rfl, avD⟩, trivial⟩, cJ (cs := List.map AV.str [decL w, wd 2, decL b, blkT (il d)]) (rw := true) (xs := [decL w, wd 2, decL b, blkT (il d)]) (by kernel_rfl) (by kernel_rfl) (by simp only [joinL, jnTail, List.length_append, List.length_cons, List.length_nil, wd]; omega) (by simp), ?_⟩)
  rw [e]
theorem ref2_txt (h : Small w b ak key nw at_ d) : AtMem Tryz.prog 16 [.agg (cmN 2 num w b ak aw key nw at_ d)] M0 (.str (cmdT 2 w b ak key nw at_ d)) := by
  have l1 := decL_le (n := w) (by have := h.w; omega)
  have l2 := decL_le (n := b) (by have := h.b; omega)
  have l3 := decL_le (n := ak) (by have := h.ak; omega)
  have l4 := decL_le h.key
  have l5 := decL_le h.nw
  have l6 := decL_le (n := at_) (by have := h.at_; omega)
  have l7 := blkT_le (d := d)
  exact AtMem.of_tm ECok (smD_ok h) (Eq.mp (vcD2 (tabF Fv (keysD w b ak key nw at_ d)) num w b ak aw key nw at_ d (decL w) (decL b) (blkT (il d)) ([]) ([]) (fun r => r.1 = .str (cmdT 2 w b ak key nw at_ d))) ⟨cD rfl (by simp [keysD, nI, gN]) rfl, addC (by simp only [List.length_cons, List.length_nil]; omega) rfl, addC (by simp only [List.length_append, List.length_cons, List.length_nil]; omega) rfl, ⟨⟨rfl, avI⟩, ⟨rfl, avI⟩, trivial⟩, addC (by simp only [List.length_append, List.length_cons, List.length_nil, wd]; omega) rfl, cD rfl (by simp [keysD, nI, gN]) rfl, addC (by simp only [List.length_append, List.length_cons, List.length_nil, wd]; omega) rfl, addC (by simp only [List.length_append, List.length_cons, List.length_nil, wd]; omega) rfl, cD rfl (by simp [keysD, nI, gN]) Fv_blk, addC (by simp only [List.length_append, List.length_cons, List.length_nil, wd]; omega) rfl, ⟨⟨rfl, avD⟩, trivial⟩, rfl⟩)
theorem cmd3_mem (h : Small w b ak key nw at_ d) : AtMem Tryz.prog 45 [.agg (cmN 3 num w b ak aw key nw at_ d)] M0 (.str (cmdT 3 w b ak key nw at_ d)) := by
  have l1 := decL_le (n := w) (by have := h.w; omega)
  have l2 := decL_le (n := b) (by have := h.b; omega)
  have l3 := decL_le (n := ak) (by have := h.ak; omega)
  have l4 := decL_le h.key
  have l5 := decL_le h.nw
  have l6 := decL_le (n := at_) (by have := h.at_; omega)
  have l7 := blkT_le (d := d)
  have e : joinL [32] [decL w, wd 3] = cmdT 3 w b ak key nw at_ d := by simp [joinL, jnTail, cmdT]
  refine AtMem.of_tm ECok (smC_ok h) (Eq.mp (vcC3 (smC w b ak key nw at_ d) num w b ak aw key nw at_ d (decL w) ([]) ([]) ([]) ([]) (joinL [32] [decL w, wd 3]) (fun r => r.1 = .str (cmdT 3 w b ak key nw at_ d))) ⟨cC rfl (by simp [keysC, nI, gN]) rfl, ⟨⟨rfl, avI⟩, ⟨rfl, avI⟩, trivial⟩, cJ (cs := List.map AV.str [decL w, wd 3]) (rw := true) (xs := [decL w, wd 3]) (by kernel_rfl) (by kernel_rfl) (by simp only [joinL, jnTail, List.length_append, List.length_cons, List.length_nil, wd]; omega) (by simp), ?_⟩)
  rw [e]
theorem ref3_txt (h : Small w b ak key nw at_ d) : AtMem Tryz.prog 16 [.agg (cmN 3 num w b ak aw key nw at_ d)] M0 (.str (cmdT 3 w b ak key nw at_ d)) := by
  have l1 := decL_le (n := w) (by have := h.w; omega)
  have l2 := decL_le (n := b) (by have := h.b; omega)
  have l3 := decL_le (n := ak) (by have := h.ak; omega)
  have l4 := decL_le h.key
  have l5 := decL_le h.nw
  have l6 := decL_le (n := at_) (by have := h.at_; omega)
  have l7 := blkT_le (d := d)
  exact AtMem.of_tm ECok (smD_ok h) (Eq.mp (vcD3 (tabF Fv (keysD w b ak key nw at_ d)) num w b ak aw key nw at_ d (decL w) ([]) ([]) ([]) ([]) (fun r => r.1 = .str (cmdT 3 w b ak key nw at_ d))) ⟨cD rfl (by simp [keysD, nI, gN]) rfl, addC (by simp only [List.length_cons, List.length_nil]; omega) rfl, addC (by simp only [List.length_append, List.length_cons, List.length_nil]; omega) rfl, ⟨⟨rfl, avI⟩, ⟨rfl, avI⟩, trivial⟩, rfl⟩)
theorem cmd4_mem (h : Small w b ak key nw at_ d) : AtMem Tryz.prog 45 [.agg (cmN 4 num w b ak aw key nw at_ d)] M0 (.str (cmdT 4 w b ak key nw at_ d)) := by
  have l1 := decL_le (n := w) (by have := h.w; omega)
  have l2 := decL_le (n := b) (by have := h.b; omega)
  have l3 := decL_le (n := ak) (by have := h.ak; omega)
  have l4 := decL_le h.key
  have l5 := decL_le h.nw
  have l6 := decL_le (n := at_) (by have := h.at_; omega)
  have l7 := blkT_le (d := d)
  have e : joinL [32] [decL w, wd 4, decL b] = cmdT 4 w b ak key nw at_ d := by simp [joinL, jnTail, cmdT]
  refine AtMem.of_tm ECok (smC_ok h) (Eq.mp (vcC4 (smC w b ak key nw at_ d) num w b ak aw key nw at_ d (decL w) (decL b) ([]) ([]) ([]) (joinL [32] [decL w, wd 4, decL b]) (fun r => r.1 = .str (cmdT 4 w b ak key nw at_ d))) ⟨cC rfl (by simp [keysC, nI, gN]) rfl, ⟨⟨rfl, avI⟩, ⟨rfl, avI⟩, trivial⟩, cC rfl (by simp [keysC, nI, gN]) rfl, cJ (cs := List.map AV.str [decL w, wd 4, decL b]) (rw := true) (xs := [decL w, wd 4, decL b]) (by kernel_rfl) (by kernel_rfl) (by simp only [joinL, jnTail, List.length_append, List.length_cons, List.length_nil, wd]; omega) (by simp), ?_⟩)
  rw [e]
theorem ref4_txt (h : Small w b ak key nw at_ d) : AtMem Tryz.prog 16 [.agg (cmN 4 num w b ak aw key nw at_ d)] M0 (.str (cmdT 4 w b ak key nw at_ d)) := by
  have l1 := decL_le (n := w) (by have := h.w; omega)
  have l2 := decL_le (n := b) (by have := h.b; omega)
  have l3 := decL_le (n := ak) (by have := h.ak; omega)
  have l4 := decL_le h.key
  have l5 := decL_le h.nw
  have l6 := decL_le (n := at_) (by have := h.at_; omega)
  have l7 := blkT_le (d := d)
  exact AtMem.of_tm ECok (smD_ok h) (Eq.mp (vcD4 (tabF Fv (keysD w b ak key nw at_ d)) num w b ak aw key nw at_ d (decL w) (decL b) ([]) ([]) ([]) (fun r => r.1 = .str (cmdT 4 w b ak key nw at_ d))) ⟨cD rfl (by simp [keysD, nI, gN]) rfl, addC (by simp only [List.length_cons, List.length_nil]; omega) rfl, addC (by simp only [List.length_append, List.length_cons, List.length_nil]; omega) rfl, ⟨⟨rfl, avI⟩, ⟨rfl, avI⟩, trivial⟩, addC (by simp only [List.length_append, List.length_cons, List.length_nil, wd]; omega) rfl, cD rfl (by simp [keysD, nI, gN]) rfl, addC (by simp only [List.length_append, List.length_cons, List.length_nil, wd]; omega) rfl, rfl⟩)
theorem cmd5_mem (h : Small w b ak key nw at_ d) : AtMem Tryz.prog 45 [.agg (cmN 5 num w b ak aw key nw at_ d)] M0 (.str (cmdT 5 w b ak key nw at_ d)) := by
  have l1 := decL_le (n := w) (by have := h.w; omega)
  have l2 := decL_le (n := b) (by have := h.b; omega)
  have l3 := decL_le (n := ak) (by have := h.ak; omega)
  have l4 := decL_le h.key
  have l5 := decL_le h.nw
  have l6 := decL_le (n := at_) (by have := h.at_; omega)
  have l7 := blkT_le (d := d)
  have e : joinL [32] [decL w, wd 5, decL b] = cmdT 5 w b ak key nw at_ d := by simp [joinL, jnTail, cmdT]
  refine AtMem.of_tm ECok (smC_ok h) (Eq.mp (vcC5 (smC w b ak key nw at_ d) num w b ak aw key nw at_ d (decL w) (decL b) ([]) ([]) ([]) (joinL [32] [decL w, wd 5, decL b]) (fun r => r.1 = .str (cmdT 5 w b ak key nw at_ d))) ⟨cC rfl (by simp [keysC, nI, gN]) rfl, ⟨⟨rfl, avI⟩, ⟨rfl, avI⟩, trivial⟩, cC rfl (by simp [keysC, nI, gN]) rfl, cJ (cs := List.map AV.str [decL w, wd 5, decL b]) (rw := true) (xs := [decL w, wd 5, decL b]) (by kernel_rfl) (by kernel_rfl) (by simp only [joinL, jnTail, List.length_append, List.length_cons, List.length_nil, wd]; omega) (by simp), ?_⟩)
  rw [e]
theorem ref5_txt (h : Small w b ak key nw at_ d) : AtMem Tryz.prog 16 [.agg (cmN 5 num w b ak aw key nw at_ d)] M0 (.str (cmdT 5 w b ak key nw at_ d)) := by
  have l1 := decL_le (n := w) (by have := h.w; omega)
  have l2 := decL_le (n := b) (by have := h.b; omega)
  have l3 := decL_le (n := ak) (by have := h.ak; omega)
  have l4 := decL_le h.key
  have l5 := decL_le h.nw
  have l6 := decL_le (n := at_) (by have := h.at_; omega)
  have l7 := blkT_le (d := d)
  exact AtMem.of_tm ECok (smD_ok h) (Eq.mp (vcD5 (tabF Fv (keysD w b ak key nw at_ d)) num w b ak aw key nw at_ d (decL w) (decL b) ([]) ([]) ([]) (fun r => r.1 = .str (cmdT 5 w b ak key nw at_ d))) ⟨cD rfl (by simp [keysD, nI, gN]) rfl, addC (by simp only [List.length_cons, List.length_nil]; omega) rfl, addC (by simp only [List.length_append, List.length_cons, List.length_nil]; omega) rfl, ⟨⟨rfl, avI⟩, ⟨rfl, avI⟩, trivial⟩, addC (by simp only [List.length_append, List.length_cons, List.length_nil, wd]; omega) rfl, cD rfl (by simp [keysD, nI, gN]) rfl, addC (by simp only [List.length_append, List.length_cons, List.length_nil, wd]; omega) rfl, rfl⟩)
theorem cmd6_mem (h : Small w b ak key nw at_ d) : AtMem Tryz.prog 45 [.agg (cmN 6 num w b ak aw key nw at_ d)] M0 (.str (cmdT 6 w b ak key nw at_ d)) := by
  have l1 := decL_le (n := w) (by have := h.w; omega)
  have l2 := decL_le (n := b) (by have := h.b; omega)
  have l3 := decL_le (n := ak) (by have := h.ak; omega)
  have l4 := decL_le h.key
  have l5 := decL_le h.nw
  have l6 := decL_le (n := at_) (by have := h.at_; omega)
  have l7 := blkT_le (d := d)
  have e : joinL [32] [decL w, wd 6] = cmdT 6 w b ak key nw at_ d := by simp [joinL, jnTail, cmdT]
  refine AtMem.of_tm ECok (smC_ok h) (Eq.mp (vcC6 (smC w b ak key nw at_ d) num w b ak aw key nw at_ d (decL w) ([]) ([]) ([]) ([]) (joinL [32] [decL w, wd 6]) (fun r => r.1 = .str (cmdT 6 w b ak key nw at_ d))) ⟨cC rfl (by simp [keysC, nI, gN]) rfl, ⟨⟨rfl, avI⟩, ⟨rfl, avI⟩, trivial⟩, cJ (cs := List.map AV.str [decL w, wd 6]) (rw := true) (xs := [decL w, wd 6]) (by kernel_rfl) (by kernel_rfl) (by simp only [joinL, jnTail, List.length_append, List.length_cons, List.length_nil, wd]; omega) (by simp), ?_⟩)
  rw [e]
theorem ref6_txt (h : Small w b ak key nw at_ d) : AtMem Tryz.prog 16 [.agg (cmN 6 num w b ak aw key nw at_ d)] M0 (.str (cmdT 6 w b ak key nw at_ d)) := by
  have l1 := decL_le (n := w) (by have := h.w; omega)
  have l2 := decL_le (n := b) (by have := h.b; omega)
  have l3 := decL_le (n := ak) (by have := h.ak; omega)
  have l4 := decL_le h.key
  have l5 := decL_le h.nw
  have l6 := decL_le (n := at_) (by have := h.at_; omega)
  have l7 := blkT_le (d := d)
  exact AtMem.of_tm ECok (smD_ok h) (Eq.mp (vcD6 (tabF Fv (keysD w b ak key nw at_ d)) num w b ak aw key nw at_ d (decL w) ([]) ([]) ([]) ([]) (fun r => r.1 = .str (cmdT 6 w b ak key nw at_ d))) ⟨cD rfl (by simp [keysD, nI, gN]) rfl, addC (by simp only [List.length_cons, List.length_nil]; omega) rfl, addC (by simp only [List.length_append, List.length_cons, List.length_nil]; omega) rfl, ⟨⟨rfl, avI⟩, ⟨rfl, avI⟩, trivial⟩, rfl⟩)
theorem cmd7_mem (h : Small w b ak key nw at_ d) : AtMem Tryz.prog 45 [.agg (cmN 7 num w b ak aw key nw at_ d)] M0 (.str (cmdT 7 w b ak key nw at_ d)) := by
  have l1 := decL_le (n := w) (by have := h.w; omega)
  have l2 := decL_le (n := b) (by have := h.b; omega)
  have l3 := decL_le (n := ak) (by have := h.ak; omega)
  have l4 := decL_le h.key
  have l5 := decL_le h.nw
  have l6 := decL_le (n := at_) (by have := h.at_; omega)
  have l7 := blkT_le (d := d)
  have e : joinL [32] [decL w, wd 7, decL ak, decL key, decL nw, decL at_] = cmdT 7 w b ak key nw at_ d := by simp [joinL, jnTail, cmdT]
  refine AtMem.of_tm ECok (smC_ok h) (Eq.mp (vcC7 (smC w b ak key nw at_ d) num w b ak aw key nw at_ d (decL w) (decL ak) (decL key) (decL nw) (decL at_) (joinL [32] [decL w, wd 7, decL ak, decL key, decL nw, decL at_]) (fun r => r.1 = .str (cmdT 7 w b ak key nw at_ d))) ⟨cC rfl (by simp [keysC, nI, gN]) rfl, ⟨⟨rfl, avI⟩, ⟨rfl, avI⟩, trivial⟩, cC rfl (by simp [keysC, nI, gN]) rfl, cC rfl (by simp [keysC, nI, gN]) rfl, cC rfl (by simp [keysC, nI, gN]) rfl, cC rfl (by simp [keysC, nI, gN]) rfl, ⟨⟨rfl, avI⟩, ⟨rfl, avI⟩, ⟨rfl, avI⟩, ⟨rfl, avI⟩, ⟨rfl, avI⟩, ⟨rfl, avI⟩, trivial⟩, cJ (cs := List.map AV.str [decL w, wd 7, decL ak, decL key, decL nw, decL at_]) (rw := true) (xs := [decL w, wd 7, decL ak, decL key, decL nw, decL at_]) (by kernel_rfl) (by kernel_rfl) (by simp only [joinL, jnTail, List.length_append, List.length_cons, List.length_nil, wd]; omega) (by simp), ?_⟩)
  rw [e]
theorem ref7_txt (h : Small w b ak key nw at_ d) : AtMem Tryz.prog 16 [.agg (cmN 7 num w b ak aw key nw at_ d)] M0 (.str (cmdT 7 w b ak key nw at_ d)) := by
  have l1 := decL_le (n := w) (by have := h.w; omega)
  have l2 := decL_le (n := b) (by have := h.b; omega)
  have l3 := decL_le (n := ak) (by have := h.ak; omega)
  have l4 := decL_le h.key
  have l5 := decL_le h.nw
  have l6 := decL_le (n := at_) (by have := h.at_; omega)
  have l7 := blkT_le (d := d)
  exact AtMem.of_tm ECok (smD_ok h) (Eq.mp (vcD7 (tabF Fv (keysD w b ak key nw at_ d)) num w b ak aw key nw at_ d (decL w) (decL ak) (decL key) (decL nw) (decL at_) (fun r => r.1 = .str (cmdT 7 w b ak key nw at_ d))) ⟨cD rfl (by simp [keysD, nI, gN]) rfl, addC (by simp only [List.length_cons, List.length_nil]; omega) rfl, addC (by simp only [List.length_append, List.length_cons, List.length_nil]; omega) rfl, ⟨⟨rfl, avI⟩, ⟨rfl, avI⟩, trivial⟩, addC (by simp only [List.length_append, List.length_cons, List.length_nil, wd]; omega) rfl, cD rfl (by simp [keysD, nI, gN]) rfl, addC (by simp only [List.length_append, List.length_cons, List.length_nil, wd]; omega) rfl, addC (by simp only [List.length_append, List.length_cons, List.length_nil, wd]; omega) rfl, cD rfl (by simp [keysD, nI, gN]) rfl, addC (by simp only [List.length_append, List.length_cons, List.length_nil, wd]; omega) rfl, addC (by simp only [List.length_append, List.length_cons, List.length_nil, wd]; omega) rfl, cD rfl (by simp [keysD, nI, gN]) rfl, addC (by simp only [List.length_append, List.length_cons, List.length_nil, wd]; omega) rfl, addC (by simp only [List.length_append, List.length_cons, List.length_nil, wd]; omega) rfl, cD rfl (by simp [keysD, nI, gN]) rfl, addC (by simp only [List.length_append, List.length_cons, List.length_nil, wd]; omega) rfl, ⟨⟨rfl, avI⟩, ⟨rfl, avI⟩, ⟨rfl, avI⟩, ⟨rfl, avI⟩, ⟨rfl, avI⟩, ⟨rfl, avI⟩, trivial⟩, rfl⟩)
end
end Go.Proofs.YtcboepooglaogaaGreatDoor.spt
end

section
open Go Go.Ax Go.Proofs
namespace Go.Proofs.YtcboepooglaogaaGreatDoor.spt
set_option linter.unusedVariables false
section
variable {num key nw : Nat} {who blk ak aw at_ k m : Int} {d e : Nat → Nat} {S : ASt}
theorem inW_t {z : Int} (h : inW z = true) : ∃ w : Nat, z = .ofNat w ∧ w < 16 := by
  unfold inW at h
  simp only [Bool.and_eq_true] at h
  cases z with
  | negSucc n => exact absurd h.1 (by simp [ltF])
  | ofNat w =>
    refine ⟨w, rfl, ?_⟩
    have := h.2
    rw [ltF_nn] at this
    exact of_decide_eq_true this
theorem inB_t {z : Int} (h : inB z = true) : ∃ w : Nat, z = .ofNat w ∧ w < 64 := by
  unfold inB at h
  simp only [Bool.and_eq_true] at h
  cases z with
  | negSucc n => exact absurd h.1 (by simp [ltF])
  | ofNat w =>
    refine ⟨w, rfl, ?_⟩
    have := h.2
    rw [ltF_nn] at this
    exact of_decide_eq_true this
theorem in255_t {z : Int} (h : in255 z = true) : ∃ w : Nat, z = .ofNat w ∧ w < 256 := by
  unfold in255 at h
  simp only [Bool.and_eq_true] at h
  cases z with
  | negSucc n => exact absurd h.1 (by simp [ltF])
  | ofNat w =>
    refine ⟨w, rfl, ?_⟩
    have := h.2
    rw [ltF_nn] at this
    have : ¬ 255 < w := of_decide_eq_false (by simpa using this)
    omega
theorem texts (hkey : key < 18446744073709551616) (hnw : nw < 18446744073709551616) (hd : ∀ i, d i < 256) (hm : mayC k (.ofNat num) who blk ak aw (.ofNat key) (.ofNat nw) at_ d = true) :
    ∃ r, AtMem Tryz.prog 45 [.agg (cmK k (.ofNat num) who blk ak aw (.ofNat key) (.ofNat nw) at_ d)] M0 (.str r) ∧ AtMem Tryz.prog 16 [.agg (cmK k (.ofNat num) who blk ak aw (.ofNat key) (.ofNat nw) at_ d)] M0 (.str r) := by
  cases k with
  | negSucc n => cases hm
  | ofNat n =>
    match n, hm with
    | 0, hm => cases hm
    | 1, hm =>
      have hm : mayK 1 (.ofNat num) who blk ak aw (.ofNat key) (.ofNat nw) at_ d = true := hm
      simp only [mayK, Bool.and_eq_true] at hm
      obtain ⟨⟨⟨q1, q2⟩, q3⟩, q4⟩ := hm
      obtain ⟨w, rfl, hw⟩ := inW_t q1
      obtain ⟨b, rfl, hb⟩ := inB_t q2
      obtain ⟨r1, r2, r3, r4, r5⟩ := zA_t q4
      subst r1; subst r2; subst r5
      exact ⟨_, cmd1_mem (ak := 0) (aw := 0) (at_ := 0) ⟨by omega, by omega, by omega, hkey, hnw, by omega, hd⟩, ref1_txt (ak := 0) (aw := 0) (at_ := 0) ⟨by omega, by omega, by omega, hkey, hnw, by omega, hd⟩⟩
    | 2, hm =>
      have hm : mayK 2 (.ofNat num) who blk ak aw (.ofNat key) (.ofNat nw) at_ d = true := hm
      simp only [mayK, Bool.and_eq_true] at hm
      obtain ⟨⟨q1, q2⟩, q4⟩ := hm
      obtain ⟨w, rfl, hw⟩ := inW_t q1
      obtain ⟨b, rfl, hb⟩ := inB_t q2
      obtain ⟨r1, r2, r3, r4, r5⟩ := zA_t q4
      subst r1; subst r2; subst r5
      exact ⟨_, cmd2_mem (ak := 0) (aw := 0) (at_ := 0) ⟨by omega, by omega, by omega, hkey, hnw, by omega, hd⟩, ref2_txt (ak := 0) (aw := 0) (at_ := 0) ⟨by omega, by omega, by omega, hkey, hnw, by omega, hd⟩⟩
    | 3, hm =>
      have hm : mayK 3 (.ofNat num) who blk ak aw (.ofNat key) (.ofNat nw) at_ d = true := hm
      simp only [mayK, Bool.and_eq_true] at hm
      obtain ⟨⟨⟨q1, q2⟩, q3⟩, q4⟩ := hm
      obtain ⟨w, rfl, hw⟩ := inW_t q1
      have q5 : blk = .ofNat 0 := eqF_t q2
      subst q5
      obtain ⟨r1, r2, r3, r4, r5⟩ := zA_t q4
      subst r1; subst r2; subst r5
      exact ⟨_, cmd3_mem (b := 0) (ak := 0) (aw := 0) (at_ := 0) ⟨by omega, by omega, by omega, hkey, hnw, by omega, hd⟩, ref3_txt (b := 0) (ak := 0) (aw := 0) (at_ := 0) ⟨by omega, by omega, by omega, hkey, hnw, by omega, hd⟩⟩
    | 4, hm =>
      have hm : mayK 4 (.ofNat num) who blk ak aw (.ofNat key) (.ofNat nw) at_ d = true := hm
      simp only [mayK, Bool.and_eq_true] at hm
      obtain ⟨⟨⟨q1, q2⟩, q3⟩, q4⟩ := hm
      obtain ⟨w, rfl, hw⟩ := inW_t q1
      obtain ⟨b, rfl, hb⟩ := inB_t q2
      obtain ⟨r1, r2, r3, r4, r5⟩ := zA_t q4
      subst r1; subst r2; subst r5
      exact ⟨_, cmd4_mem (ak := 0) (aw := 0) (at_ := 0) ⟨by omega, by omega, by omega, hkey, hnw, by omega, hd⟩, ref4_txt (ak := 0) (aw := 0) (at_ := 0) ⟨by omega, by omega, by omega, hkey, hnw, by omega, hd⟩⟩
    | 5, hm =>
      have hm : mayK 5 (.ofNat num) who blk ak aw (.ofNat key) (.ofNat nw) at_ d = true := hm
      simp only [mayK, Bool.and_eq_true] at hm
      obtain ⟨⟨⟨q1, q2⟩, q3⟩, q4⟩ := hm
      obtain ⟨w, rfl, hw⟩ := inW_t q1
      obtain ⟨b, rfl, hb⟩ := inB_t q2
      obtain ⟨r1, r2, r3, r4, r5⟩ := zA_t q4
      subst r1; subst r2; subst r5
      exact ⟨_, cmd5_mem (ak := 0) (aw := 0) (at_ := 0) ⟨by omega, by omega, by omega, hkey, hnw, by omega, hd⟩, ref5_txt (ak := 0) (aw := 0) (at_ := 0) ⟨by omega, by omega, by omega, hkey, hnw, by omega, hd⟩⟩
    | 6, hm =>
      have hm : mayK 6 (.ofNat num) who blk ak aw (.ofNat key) (.ofNat nw) at_ d = true := hm
      simp only [mayK, Bool.and_eq_true] at hm
      obtain ⟨⟨⟨q1, q2⟩, q3⟩, q4⟩ := hm
      obtain ⟨w, rfl, hw⟩ := inW_t q1
      have q5 : blk = .ofNat 0 := eqF_t q2
      subst q5
      obtain ⟨r1, r2, r3, r4, r5⟩ := zA_t q4
      subst r1; subst r2; subst r5
      exact ⟨_, cmd6_mem (b := 0) (ak := 0) (aw := 0) (at_ := 0) ⟨by omega, by omega, by omega, hkey, hnw, by omega, hd⟩, ref6_txt (b := 0) (ak := 0) (aw := 0) (at_ := 0) ⟨by omega, by omega, by omega, hkey, hnw, by omega, hd⟩⟩
    | 7, hm =>
      have hm : mayK 7 (.ofNat num) who blk ak aw (.ofNat key) (.ofNat nw) at_ d = true := hm
      simp only [mayK, Bool.and_eq_true] at hm
      obtain ⟨⟨⟨⟨⟨q1, q2⟩, q3⟩, q4⟩, q6⟩, q7⟩ := hm
      obtain ⟨w, rfl, hw⟩ := inW_t q1
      have q5 : blk = .ofNat 0 := eqF_t q2
      subst q5
      obtain ⟨x, rfl, hx⟩ := in255_t q6
      obtain ⟨y, rfl, hy⟩ := in255_t q7
      exact ⟨_, cmd7_mem (b := 0) ⟨by omega, by omega, by omega, hkey, hnw, by omega, hd⟩, ref7_txt (b := 0) ⟨by omega, by omega, by omega, hkey, hnw, by omega, hd⟩⟩
    | n + 8, hm => cases hm
theorem ct0_at (hm : mayC k (.ofNat num) who blk ak aw (.ofNat key) (.ofNat nw) at_ d = false) : Call1 Tryz.prog 9 [.agg (cmK k (.ofNat num) who blk ak aw (.ofNat key) (.ofNat nw) at_ d)] S (.tuple [.str [], nI 2], S) :=
  Call1.pure (AtMem.of_tm ECok (sum := onlyC [44, 45] (tabF (fun _ _ => .bool false) [(44, [.agg (cmK k (.ofNat num) who blk ak aw (.ofNat key) (.ofNat nw) at_ d), nI 64])])) (onlyC_ok (tabF_ok fun q hq S => by
    simp only [List.mem_cons, List.not_mem_nil, or_false] at hq
    subst hq
    rw [← hm]
    exact may_at k)) (Eq.mp (vcG0 _ (.ofNat num) who k blk ak aw (.ofNat key) (.ofNat nw) at_ d (fun r => r.1 = .tuple [.str [], nI 2])) ⟨call_at (onlyC_at rfl (tabF_at (List.mem_singleton.2 rfl) rfl)), rfl⟩)) (by simp [refsV, nI]) fun a ha => by
    simp only [List.mem_cons, List.not_mem_nil, or_false] at ha
    subst ha
    exact cmK_refs
def Fm (r : List Nat) : Nat → List AV → AV := fun f _ => if f = 44 then .bool true else .str r
theorem ct1_at {r : List Nat} (hm : mayC k (.ofNat num) who blk ak aw (.ofNat key) (.ofNat nw) at_ d = true) (hr : AtMem Tryz.prog 45 [.agg (cmK k (.ofNat num) who blk ak aw (.ofNat key) (.ofNat nw) at_ d)] M0 (.str r)) : Call1 Tryz.prog 9 [.agg (cmK k (.ofNat num) who blk ak aw (.ofNat key) (.ofNat nw) at_ d)] S (.tuple [.str r, nI 0], S) :=
  Call1.pure (AtMem.of_tm ECok (sum := onlyC [44, 45] (tabF (Fm r) [(44, [.agg (cmK k (.ofNat num) who blk ak aw (.ofNat key) (.ofNat nw) at_ d), nI 64]), (45, [.agg (cmK k (.ofNat num) who blk ak aw (.ofNat key) (.ofNat nw) at_ d)])])) (onlyC_ok (tabF_ok fun q hq S => by
    simp only [List.mem_cons, List.not_mem_nil, or_false] at hq
    rcases hq with rfl | rfl
    · show Call1 Tryz.prog 44 [.agg (cmK k (.ofNat num) who blk ak aw (.ofNat key) (.ofNat nw) at_ d), nI 64] S (.bool true, S)
      rw [← hm]
      exact may_at k
    · exact Call1.pure hr (by simp [refsV, Fm]) fun a ha => by
        simp only [List.mem_cons, List.not_mem_nil, or_false] at ha
        subst ha
        exact cmK_refs)) (Eq.mp (vcG1 _ (.ofNat num) who k blk ak aw (.ofNat key) (.ofNat nw) at_ d r (fun q => q.1 = .tuple [.str r, nI 0])) ⟨call_at (onlyC_at rfl (tabF_at (List.mem_cons_self ..) rfl)), call_at (onlyC_at rfl (tabF_at (List.mem_cons_of_mem _ (List.mem_singleton.2 rfl)) rfl)), rfl⟩)) (by simp [refsV, nI]) fun a ha => by
    simp only [List.mem_cons, List.not_mem_nil, or_false] at ha
    subst ha
    exact cmK_refs
def Fl (v9 : AV) (mb : Bool) (r : List Nat) (u : List Nat) : Nat → List AV → AV := fun f _ =>
  match f with
  | 9 => v9
  | 12 => .bool true
  | 13 => .bool mb
  | 15 => .bool true
  | 16 => .str r
  | _ => .str u
noncomputable def kL (C D : List AV) (m : Int) : List (Nat × List AV) := [(9, [.agg C]), (10, [.agg D]), (11, [.agg D]), (12, [nI 0]), (12, [.int .i64 m]), (13, [.agg C, nI 64]), (15, [])]
theorem lEq_self {u : List Nat} : lEq u u = true := by rw [lEq_eq]; simp
theorem cL {v9 : AV} {mb : Bool} {r u : List Nat} {ks : List (Nat × List AV)} {f j : Nat} {args : List AV} {v : AV} (hm : memN f [9, 10, 11, 12, 13, 15, 16] = true) (hk : (f, args) ∈ ks) (hv : Fl v9 mb r u f args = v) : (M EC (drawA EC) (onlyC [9, 10, 11, 12, 13, 15, 16] (tabF (Fl v9 mb r u) ks)) (j + 1)).call f args S = some (v, S) :=
  call_at (onlyC_at hm (tabF_at hk hv))
theorem hk0 {α : Type} {l : List α} {x : α} (j : Nat) (h : l[j]? = some x) : x ∈ l := List.mem_of_getElem? h
theorem law_mem (hkey : key < 18446744073709551616) (hnw : nw < 18446744073709551616) (hd : ∀ i, d i < 256) (he : ∀ i, e i < 256) : AtMem Tryz.prog 3 [.agg (cmK k (.ofNat num) who blk ak aw (.ofNat key) (.ofNat nw) at_ d), .agg (ddL e), .int .i64 m] M0 (.bool true) := by
  cases hm : mayC k (.ofNat num) who blk ak aw (.ofNat key) (.ofNat nw) at_ d with
  | false =>
    refine AtMem.of_tm ECok (sum := onlyC [9, 10, 11, 12, 13, 15, 16] (tabF (Fl (.tuple [.str [], nI 2]) false [] (blkT (il e))) (kL (cmK k (.ofNat num) who blk ak aw (.ofNat key) (.ofNat nw) at_ d) (ddL e) m))) (onlyC_ok (tabF_ok fun q hq S => by
      simp only [kL, List.mem_cons, List.not_mem_nil, or_false] at hq
      rcases hq with rfl | rfl | rfl | rfl | rfl | rfl | rfl
      · exact ct0_at hm
      · exact blkD10 he
      · exact blkD11 he
      · exact once_at 0
      · exact once_at m
      · show Call1 Tryz.prog 13 [.agg (cmK k (.ofNat num) who blk ak aw (.ofNat key) (.ofNat nw) at_ d), nI 64] S (.bool false, S)
        rw [← hm]
        exact ref_at k
      · exact known_at)) (Eq.mp (vcL0 _ (.ofNat num) who k blk ak aw (.ofNat key) (.ofNat nw) at_ d e m (blkT (il e)) (blkT (il e)) (fun q => q.1 = .bool true)) ⟨cL rfl (hk0 0 rfl) rfl, cL rfl (hk0 1 rfl) rfl, cL rfl (hk0 2 rfl) rfl, ifB_mk (fun h => by rw [lEq_self] at h; cases h) fun _ => ⟨cL rfl (hk0 3 rfl) rfl, cL rfl (hk0 4 rfl) rfl, ⟨⟨rfl, avD⟩, trivial⟩, cL rfl (hk0 5 rfl) rfl, cL rfl (hk0 6 rfl) rfl, rfl⟩⟩)
  | true =>
    obtain ⟨r, h1, h2⟩ := texts hkey hnw hd hm
    refine AtMem.of_tm ECok (sum := onlyC [9, 10, 11, 12, 13, 15, 16] (tabF (Fl (.tuple [.str r, nI 0]) true r (blkT (il e))) (kL (cmK k (.ofNat num) who blk ak aw (.ofNat key) (.ofNat nw) at_ d) (ddL e) m ++ [(16, [.agg (cmK k (.ofNat num) who blk ak aw (.ofNat key) (.ofNat nw) at_ d)])]))) (onlyC_ok (tabF_ok fun q hq S => by
      simp only [kL, List.cons_append, List.nil_append, List.mem_cons, List.not_mem_nil, or_false] at hq
      rcases hq with rfl | rfl | rfl | rfl | rfl | rfl | rfl | rfl
      · exact ct1_at hm h1
      · exact blkD10 he
      · exact blkD11 he
      · exact once_at 0
      · exact once_at m
      · show Call1 Tryz.prog 13 [.agg (cmK k (.ofNat num) who blk ak aw (.ofNat key) (.ofNat nw) at_ d), nI 64] S (.bool true, S)
        rw [← hm]
        exact ref_at k
      · exact known_at
      · exact Call1.pure h2 (by simp [refsV, Fl]) fun a ha => by
          simp only [List.mem_cons, List.not_mem_nil, or_false] at ha
          subst ha
          exact cmK_refs)) (Eq.mp (vcL1 _ (.ofNat num) who k blk ak aw (.ofNat key) (.ofNat nw) at_ d e m (blkT (il e)) (blkT (il e)) r r (fun q => q.1 = .bool true)) ⟨cL rfl (hk0 0 rfl) rfl, cL rfl (hk0 1 rfl) rfl, cL rfl (hk0 2 rfl) rfl, ifB_mk (fun h => by rw [lEq_self] at h; cases h) fun _ => ⟨cL rfl (hk0 3 rfl) rfl, cL rfl (hk0 4 rfl) rfl, ⟨⟨rfl, avD⟩, trivial⟩, cL rfl (hk0 5 rfl) rfl, cL rfl (hk0 7 rfl) rfl, ifB_mk (fun _ => ⟨cL rfl (hk0 6 rfl) rfl, rfl⟩) fun h => by rw [lEq_self] at h; cases h⟩⟩)
end
end Go.Proofs.YtcboepooglaogaaGreatDoor.spt
end
