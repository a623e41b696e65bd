/-
  OWN WORK, A PART: an abstract machine for the program's text that the kernel can run, and the proof that it is sound: what it answers is what the program answers; contracts of functions by it. No condition.
-/
import Derived.Test.YtlnohbilfogheaaMsD
import Derived.KernelRfl
section
open Go Go.Ax Go.Proofs.Ytlnohbilfogheaa Go.Proofs.Ytlnohbilfogheaa.rdr Go.Proofs.Ytlnohbilfogheaa.rrq
namespace Go.Proofs.Ytlnohbilfogheaa.mrd
set_option linter.unusedVariables false
noncomputable def EH : Env := envEx Try.prog [0, 3, 4, 5, 9, 25, 28, 39, 72, 75, 76, 77, 79, 81, 141] [(77, Try.f77), (119, Try.f119), (120, Try.f120), (29, Try.f29)] []
noncomputable def c77 : Code := Option.getD Try.f77.body .skip
noncomputable def smH (q : CallT) : CallT := onlyC [119, 120] q
noncomputable def A77 : Code := seqL (dropC 4 c77)
noncomputable def L77 : Code := lopB (blkB (seqR A77))
noncomputable def fU (x : List (Nat × AV)) : AFr := xFr x 193
noncomputable def mU (R m : AO) : ASt := mkSt [(0, R), (1, m)] 40
noncomputable def tN0 (q : CallT) (R : AO) (k nd bl ro sa cu ba h0 h1 : Int) (cr : Bool) (se : Int) (tb : AV) (nu bk : Int) (d : Nat → Nat) (dg : AV) (ys : Bool) (hn ib hb ir hr is hs ik hk inn : Bool) : Tr (Exit × AFr × ASt) := (TM EH (smH q) [] fl0 60).ex ⟨[15, 18, 22, 25, 30, 33, 38, 41, 46, 49], [], [9, 13, 18, 25, 33, 41, 49], []⟩ none (preC 3 c77) (fU [(0, .agg (msgL k nd bl ro sa cu ba h0 h1 cr se tb nu bk d dg ys))]) (mkSt [(0, R)] 1)
noncomputable def tN1 (q : CallT) (R : AO) (k nd bl ro sa cu ba h0 h1 : Int) (cr : Bool) (se : Int) (tb : AV) (nu bk : Int) (d : Nat → Nat) (dg : AV) (ys : Bool) (hl zl hc hu hy : Bool) : Tr (Exit × AFr × ASt) := (TM EH (smH q) [] fl0 60).ex ⟨[53, 59, 78, 87, 97], [], [53, 59, 65, 73, 78, 82, 87, 92, 97, 101], []⟩ none (seqL (dropC 3 c77)) (fU [(1, .ptr (some (1, 0))), (3, .int .i64 k)]) (mU R (.cells (msgL k nd bl ro sa cu ba h0 h1 cr se tb nu bk d dg ys) true))
noncomputable def tN2 (q : CallT) (R : AO) (k nd bl ro sa cu ba h0 h1 : Int) (cr : Bool) (se : Int) (tb : AV) (nu bk : Int) (d : Nat → Nat) (dg : AV) (ys : Bool)  : Tr (Exit × AFr × ASt) := (TM EH (smH q) [] fl0 60).ex ⟨[], [], [], []⟩ none (seqL A77) (fU [(1, .ptr (some (1, 0))), (3, .int .i64 k)]) (mU R (.cells (msgL k nd bl ro sa cu ba h0 h1 cr se tb nu bk d dg ys) true))
noncomputable def tN3 (q : CallT) (R : AO) (k nd bl ro sa cu ba h0 h1 : Int) (cr : Bool) (se : Int) (tb : AV) (nu bk : Int) (d : Nat → Nat) (dg : AV) (ys : Bool) (i : Nat) (sh rm : Int) (ht : Bool) : Tr (Exit × AFr × ASt) := (TM EH (smH q) [] fl0 60).ex ⟨[111, 112, 113, 117, 107], [], [105, 115, 117, 123], []⟩ none (L77) (fU [(1, .ptr (some (1, 0))), (3, .int .i64 k), (4, .int .i64 (.ofNat i))]) (mU R (.cells (msgL k nd bl ro sa cu ba h0 h1 cr se tb nu bk d dg ys) true))
noncomputable def tN4 (q : CallT) (R : AO) (k nd bl ro sa cu ba h0 h1 : Int) (cr : Bool) (se : Int) (tb : AV) (nu bk : Int) (d : Nat → Nat) (dg : AV) (ys : Bool) (hd : Bool) : Tr (Exit × AFr × ASt) := (TM EH (smH q) [] fl0 60).ex ⟨[127], [], [127, 131, 134, 139, 142], []⟩ none (seqL (dropC 5 c77)) (fU [(1, .ptr (some (1, 0))), (3, .int .i64 k)]) (mU R (.cells (msgL k nd bl ro sa cu ba h0 h1 cr se tb nu bk d dg ys) true))
noncomputable def tN5 (q : CallT) (R : AO) (k nd bl ro sa cu ba h0 h1 : Int) (cr : Bool) (se : Int) (tb : AV) (nu bk : Int) (d : Nat → Nat) (dg : AV) (ys : Bool) (no zd ha : Bool) (n : Nat) : Tr (Exit × AFr × ASt) := (TM EH (smH q) [] fl0 60).ex ⟨[151, 156, 161, 166], [], [147, 151, 157, 161, 167], []⟩ none (seqL (dropC 6 c77)) (fU [(1, .ptr (some (1, 0))), (3, .int .i64 k), (5, .bool no)]) (mU R (.cells (msgL k nd bl ro sa cu ba h0 h1 cr se tb nu bk d dg ys) true))
noncomputable def tN6 (q : CallT) (R : AO) (k nd bl ro sa cu ba h0 h1 : Int) (cr : Bool) (se : Int) (tb : AV) (nu bk : Int) (d : Nat → Nat) (dg : AV) (ys : Bool) (n : Nat) : Tr (Exit × AFr × ASt) := (TM EH (smH q) [] fl0 60).ex ⟨[175, 180, 187, 191], [], [171, 172, 176, 183, 184], []⟩ none (dropC 7 c77) (fU [(1, .ptr (some (1, 0))), (3, .int .i64 k)]) (mU R (.cells (msgL k nd bl ro sa cu ba h0 h1 cr se tb nu bk d dg ys) true))
noncomputable def tNi (h : Bool) (lo x hi : Int) : Tr (AV × ASt) := (TM EH noSum [(119, ⟨[], [], [10, 15], []⟩)] fl0 60).call 119 [.bool h, .int .i64 lo, .int .i64 x, .int .i64 hi] (mkSt [] 0)
noncomputable def vcN0_s0 (R : AO) (k : Int) (nd : Int) (bl : Int) (ro : Int) (sa : Int) (cu : Int) (ba : Int) (h0 : Int) (h1 : Int) (cr : Bool) (se : Int) (tb : AV) (nu : Int) (bk : Int) (d : Nat → Nat) (dg : AV) (ys : Bool) (hn : Bool) (ib : Bool) (hb : Bool) (ir : Bool) (hr : Bool) (is : Bool) (hs : Bool) (ik : Bool) (hk : Bool) (inn : Bool) : ASt := mkSt [(0, R), (1, AO.cells (msgL k nd bl ro sa cu ba h0 h1 cr se tb nu bk d dg ys) true)] 40
theorem vcN0 (q : CallT) (R : AO) (k : Int) (nd : Int) (bl : Int) (ro : Int) (sa : Int) (cu : Int) (ba : Int) (h0 : Int) (h1 : Int) (cr : Bool) (se : Int) (tb : AV) (nu : Int) (bk : Int) (d : Nat → Nat) (dg : AV) (ys : Bool) (hn : Bool) (ib : Bool) (hb : Bool) (ir : Bool) (hr : Bool) (is : Bool) (hs : Bool) (ik : Bool) (hk : Bool) (inn : Bool) (Q : Exit × AFr × ASt → Prop) (Q2 : Exit × Option AV → Prop) :
  (ifB (ltF k (Int.ofNat 1)) (Q2 (Exit.ret, some (AV.bool false))) (ifB (ltF (Int.ofNat 19) k) (Q2 (Exit.ret, some (AV.bool false))) ((M EH (drawA EH) (smH q) 55).call 120 [AV.int IntKind.i64 k, AV.int IntKind.u8 (Int.ofNat 110)] (vcN0_s0 R k nd bl ro sa cu ba h0 h1 cr se tb nu bk d dg ys hn ib hb ir hr is hs ik hk inn) = some (AV.bool hn, vcN0_s0 R k nd bl ro sa cu ba h0 h1 cr se tb nu bk d dg ys hn ib hb ir hr is hs ik hk inn) ∧ (M EH (drawA EH) (smH q) 55).call 119 [AV.bool hn, AV.int IntKind.i64 (Int.ofNat 0), AV.int IntKind.i64 nd, AV.int IntKind.i64 (Int.ofNat 1)] (vcN0_s0 R k nd bl ro sa cu ba h0 h1 cr se tb nu bk d dg ys hn ib hb ir hr is hs ik hk inn) = some (AV.bool inn, vcN0_s0 R k nd bl ro sa cu ba h0 h1 cr se tb nu bk d dg ys hn ib hb ir hr is hs ik hk inn) ∧ ifB inn ((M EH (drawA EH) (smH q) 55).call 120 [AV.int IntKind.i64 k, AV.int IntKind.u8 (Int.ofNat 98)] (vcN0_s0 R k nd bl ro sa cu ba h0 h1 cr se tb nu bk d dg ys hn ib hb ir hr is hs ik hk inn) = some (AV.bool hb, vcN0_s0 R k nd bl ro sa cu ba h0 h1 cr se tb nu bk d dg ys hn ib hb ir hr is hs ik hk inn) ∧ (M EH (drawA EH) (smH q) 55).call 119 [AV.bool hb, AV.int IntKind.i64 (Int.ofNat 1), AV.int IntKind.i64 bl, AV.int IntKind.i64 (Int.ofNat 64)] (vcN0_s0 R k nd bl ro sa cu ba h0 h1 cr se tb nu bk d dg ys hn ib hb ir hr is hs ik hk inn) = some (AV.bool ib, vcN0_s0 R k nd bl ro sa cu ba h0 h1 cr se tb nu bk d dg ys hn ib hb ir hr is hs ik hk inn) ∧ ifB ib ((M EH (drawA EH) (smH q) 55).call 120 [AV.int IntKind.i64 k, AV.int IntKind.u8 (Int.ofNat 114)] (vcN0_s0 R k nd bl ro sa cu ba h0 h1 cr se tb nu bk d dg ys hn ib hb ir hr is hs ik hk inn) = some (AV.bool hr, vcN0_s0 R k nd bl ro sa cu ba h0 h1 cr se tb nu bk d dg ys hn ib hb ir hr is hs ik hk inn) ∧ (M EH (drawA EH) (smH q) 55).call 119 [AV.bool hr, AV.int IntKind.i64 (Int.ofNat 1), AV.int IntKind.i64 ro, AV.int IntKind.i64 (Int.ofNat 2)] (vcN0_s0 R k nd bl ro sa cu ba h0 h1 cr se tb nu bk d dg ys hn ib hb ir hr is hs ik hk inn) = some (AV.bool ir, vcN0_s0 R k nd bl ro sa cu ba h0 h1 cr se tb nu bk d dg ys hn ib hb ir hr is hs ik hk inn) ∧ ifB ir ((M EH (drawA EH) (smH q) 55).call 120 [AV.int IntKind.i64 k, AV.int IntKind.u8 (Int.ofNat 115)] (vcN0_s0 R k nd bl ro sa cu ba h0 h1 cr se tb nu bk d dg ys hn ib hb ir hr is hs ik hk inn) = some (AV.bool hs, vcN0_s0 R k nd bl ro sa cu ba h0 h1 cr se tb nu bk d dg ys hn ib hb ir hr is hs ik hk inn) ∧ (M EH (drawA EH) (smH q) 55).call 119 [AV.bool hs, AV.int IntKind.i64 (Int.ofNat 1), AV.int IntKind.i64 sa, AV.int IntKind.i64 (Int.ofNat 4)] (vcN0_s0 R k nd bl ro sa cu ba h0 h1 cr se tb nu bk d dg ys hn ib hb ir hr is hs ik hk inn) = some (AV.bool is, vcN0_s0 R k nd bl ro sa cu ba h0 h1 cr se tb nu bk d dg ys hn ib hb ir hr is hs ik hk inn) ∧ ifB is ((M EH (drawA EH) (smH q) 55).call 120 [AV.int IntKind.i64 k, AV.int IntKind.u8 (Int.ofNat 107)] (vcN0_s0 R k nd bl ro sa cu ba h0 h1 cr se tb nu bk d dg ys hn ib hb ir hr is hs ik hk inn) = some (AV.bool hk, vcN0_s0 R k nd bl ro sa cu ba h0 h1 cr se tb nu bk d dg ys hn ib hb ir hr is hs ik hk inn) ∧ (M EH (drawA EH) (smH q) 55).call 119 [AV.bool hk, AV.int IntKind.i64 (Int.ofNat 0), AV.int IntKind.i64 bk, AV.int IntKind.i64 (Int.ofNat 63)] (vcN0_s0 R k nd bl ro sa cu ba h0 h1 cr se tb nu bk d dg ys hn ib hb ir hr is hs ik hk inn) = some (AV.bool ik, vcN0_s0 R k nd bl ro sa cu ba h0 h1 cr se tb nu bk d dg ys hn ib hb ir hr is hs ik hk inn) ∧ ifB ik (holdsO [(some (AV.int IntKind.i64 nd), AV.int IntKind.i64 nd), (some (AV.int IntKind.i64 bl), AV.int IntKind.i64 bl), (some (AV.int IntKind.i64 ro), AV.int IntKind.i64 ro), (some (AV.int IntKind.i64 sa), AV.int IntKind.i64 sa), (some (AV.int IntKind.i64 bk), AV.int IntKind.i64 bk)] ∧ Q (Exit.normal, xFr [(1, AV.ptr (some (1, 0))), (3, AV.int IntKind.i64 k)] 193, vcN0_s0 R k nd bl ro sa cu ba h0 h1 cr se tb nu bk d dg ys hn ib hb ir hr is hs ik hk inn)) (holdsO [(some (AV.int IntKind.i64 nd), AV.int IntKind.i64 nd), (some (AV.int IntKind.i64 bl), AV.int IntKind.i64 bl), (some (AV.int IntKind.i64 ro), AV.int IntKind.i64 ro), (some (AV.int IntKind.i64 sa), AV.int IntKind.i64 sa), (some (AV.int IntKind.i64 bk), AV.int IntKind.i64 bk)] ∧ Q2 (Exit.ret, some (AV.bool false)))) (holdsO [(some (AV.int IntKind.i64 nd), AV.int IntKind.i64 nd), (some (AV.int IntKind.i64 bl), AV.int IntKind.i64 bl), (some (AV.int IntKind.i64 ro), AV.int IntKind.i64 ro), (some (AV.int IntKind.i64 sa), AV.int IntKind.i64 sa), (some (AV.tuple []), AV.tuple [])] ∧ Q2 (Exit.ret, some (AV.bool false)))) (holdsO [(some (AV.int IntKind.i64 nd), AV.int IntKind.i64 nd), (some (AV.int IntKind.i64 bl), AV.int IntKind.i64 bl), (some (AV.int IntKind.i64 ro), AV.int IntKind.i64 ro), (some (AV.tuple []), AV.tuple []), (some (AV.tuple []), AV.tuple [])] ∧ Q2 (Exit.ret, some (AV.bool false)))) (holdsO [(some (AV.int IntKind.i64 nd), AV.int IntKind.i64 nd), (some (AV.int IntKind.i64 bl), AV.int IntKind.i64 bl), (some (AV.tuple []), AV.tuple []), (some (AV.tuple []), AV.tuple []), (some (AV.tuple []), AV.tuple [])] ∧ Q2 (Exit.ret, some (AV.bool false)))) (holdsO [(some (AV.int IntKind.i64 nd), AV.int IntKind.i64 nd), (some (AV.tuple []), AV.tuple []), (some (AV.tuple []), AV.tuple []), (some (AV.tuple []), AV.tuple []), (some (AV.tuple []), AV.tuple [])] ∧ Q2 (Exit.ret, some (AV.bool false)))))) =
  (tN0 q R k nd bl ro sa cu ba h0 h1 cr se tb nu bk d dg ys hn ib hb ir hr is hs ik hk inn).allY (mixQ EH Try.f77 [1, 3] [0, 1] Q Q2) (An.b (An.b An.nil An.nil) (An.b An.nil (An.v (AV.bool hn, vcN0_s0 R k nd bl ro sa cu ba h0 h1 cr se tb nu bk d dg ys hn ib hb ir hr is hs ik hk inn) (An.v (AV.bool inn, vcN0_s0 R k nd bl ro sa cu ba h0 h1 cr se tb nu bk d dg ys hn ib hb ir hr is hs ik hk inn) (An.b (An.v (AV.bool hb, vcN0_s0 R k nd bl ro sa cu ba h0 h1 cr se tb nu bk d dg ys hn ib hb ir hr is hs ik hk inn) (An.v (AV.bool ib, vcN0_s0 R k nd bl ro sa cu ba h0 h1 cr se tb nu bk d dg ys hn ib hb ir hr is hs ik hk inn) (An.b (An.v (AV.bool hr, vcN0_s0 R k nd bl ro sa cu ba h0 h1 cr se tb nu bk d dg ys hn ib hb ir hr is hs ik hk inn) (An.v (AV.bool ir, vcN0_s0 R k nd bl ro sa cu ba h0 h1 cr se tb nu bk d dg ys hn ib hb ir hr is hs ik hk inn) (An.b (An.v (AV.bool hs, vcN0_s0 R k nd bl ro sa cu ba h0 h1 cr se tb nu bk d dg ys hn ib hb ir hr is hs ik hk inn) (An.v (AV.bool is, vcN0_s0 R k nd bl ro sa cu ba h0 h1 cr se tb nu bk d dg ys hn ib hb ir hr is hs ik hk inn) (An.b (An.v (AV.bool hk, vcN0_s0 R k nd bl ro sa cu ba h0 h1 cr se tb nu bk d dg ys hn ib hb ir hr is hs ik hk inn) (An.v (AV.bool ik, vcN0_s0 R k nd bl ro sa cu ba h0 h1 cr se tb nu bk d dg ys hn ib hb ir hr is hs ik hk inn) (An.b An.nil An.nil))) An.nil))) An.nil))) An.nil))) An.nil))))) := by kernel_rfl
noncomputable def vcN1_s0 (R : AO) (k : Int) (nd : Int) (bl : Int) (ro : Int) (sa : Int) (cu : Int) (ba : Int) (h0 : Int) (h1 : Int) (cr : Bool) (se : Int) (tb : AV) (nu : Int) (bk : Int) (d : Nat → Nat) (dg : AV) (ys : Bool) (hl : Bool) (zl : Bool) (hc : Bool) (hu : Bool) (hy : Bool) : ASt := mkSt [(0, R), (1, AO.cells (msgL k nd bl ro sa cu ba h0 h1 cr se tb nu bk d dg ys) true)] 40
theorem vcN1 (q : CallT) (R : AO) (k : Int) (nd : Int) (bl : Int) (ro : Int) (sa : Int) (cu : Int) (ba : Int) (h0 : Int) (h1 : Int) (cr : Bool) (se : Int) (tb : AV) (nu : Int) (bk : Int) (d : Nat → Nat) (dg : AV) (ys : Bool) (hl : Bool) (zl : Bool) (hc : Bool) (hu : Bool) (hy : Bool) (Q : Exit × AFr × ASt → Prop) (Q2 : Exit × Option AV → Prop) :
  ((M EH (drawA EH) (smH q) 58).call 120 [AV.int IntKind.i64 k, AV.int IntKind.u8 (Int.ofNat 108)] (vcN1_s0 R k nd bl ro sa cu ba h0 h1 cr se tb nu bk d dg ys hl zl hc hu hy) = some (AV.bool hl, vcN1_s0 R k nd bl ro sa cu ba h0 h1 cr se tb nu bk d dg ys hl zl hc hu hy) ∧ ifB hl (ifB (!eqF ba (Int.ofNat 0)) (ifB (eqF ba cu) (Q2 (Exit.ret, some (AV.bool false))) ((M EH (drawA EH) (smH q) 58).call 120 [AV.int IntKind.i64 k, AV.int IntKind.u8 (Int.ofNat 99)] (vcN1_s0 R k nd bl ro sa cu ba h0 h1 cr se tb nu bk d dg ys hl zl hc hu hy) = some (AV.bool hc, vcN1_s0 R k nd bl ro sa cu ba h0 h1 cr se tb nu bk d dg ys hl zl hc hu hy) ∧ ifB hc ((M EH (drawA EH) (smH q) 58).call 120 [AV.int IntKind.i64 k, AV.int IntKind.u8 (Int.ofNat 117)] (vcN1_s0 R k nd bl ro sa cu ba h0 h1 cr se tb nu bk d dg ys hl zl hc hu hy) = some (AV.bool hu, vcN1_s0 R k nd bl ro sa cu ba h0 h1 cr se tb nu bk d dg ys hl zl hc hu hy) ∧ ifB hu ((M EH (drawA EH) (smH q) 58).call 120 [AV.int IntKind.i64 k, AV.int IntKind.u8 (Int.ofNat 121)] (vcN1_s0 R k nd bl ro sa cu ba h0 h1 cr se tb nu bk d dg ys hl zl hc hu hy) = some (AV.bool hy, vcN1_s0 R k nd bl ro sa cu ba h0 h1 cr se tb nu bk d dg ys hl zl hc hu hy) ∧ ifB hy (Q (Exit.normal, xFr [(1, AV.ptr (some (1, 0))), (3, AV.int IntKind.i64 k)] 193, vcN1_s0 R k nd bl ro sa cu ba h0 h1 cr se tb nu bk d dg ys hl zl hc hu hy)) (ifB ys (Q2 (Exit.ret, some (AV.bool false))) (Q (Exit.normal, xFr [(1, AV.ptr (some (1, 0))), (3, AV.int IntKind.i64 k)] 193, vcN1_s0 R k nd bl ro sa cu ba h0 h1 cr se tb nu bk d dg ys hl zl hc hu hy)))) (ifB (!eqF nu (Int.ofNat 0)) (Q2 (Exit.ret, some (AV.bool false))) ((M EH (drawA EH) (smH q) 58).call 120 [AV.int IntKind.i64 k, AV.int IntKind.u8 (Int.ofNat 121)] (vcN1_s0 R k nd bl ro sa cu ba h0 h1 cr se tb nu bk d dg ys hl zl hc hu hy) = some (AV.bool hy, vcN1_s0 R k nd bl ro sa cu ba h0 h1 cr se tb nu bk d dg ys hl zl hc hu hy) ∧ ifB hy (Q (Exit.normal, xFr [(1, AV.ptr (some (1, 0))), (3, AV.int IntKind.i64 k)] 193, vcN1_s0 R k nd bl ro sa cu ba h0 h1 cr se tb nu bk d dg ys hl zl hc hu hy)) (ifB ys (Q2 (Exit.ret, some (AV.bool false))) (Q (Exit.normal, xFr [(1, AV.ptr (some (1, 0))), (3, AV.int IntKind.i64 k)] 193, vcN1_s0 R k nd bl ro sa cu ba h0 h1 cr se tb nu bk d dg ys hl zl hc hu hy)))))) (ifB cr (Q2 (Exit.ret, some (AV.bool false))) ((M EH (drawA EH) (smH q) 58).call 120 [AV.int IntKind.i64 k, AV.int IntKind.u8 (Int.ofNat 117)] (vcN1_s0 R k nd bl ro sa cu ba h0 h1 cr se tb nu bk d dg ys hl zl hc hu hy) = some (AV.bool hu, vcN1_s0 R k nd bl ro sa cu ba h0 h1 cr se tb nu bk d dg ys hl zl hc hu hy) ∧ ifB hu ((M EH (drawA EH) (smH q) 58).call 120 [AV.int IntKind.i64 k, AV.int IntKind.u8 (Int.ofNat 121)] (vcN1_s0 R k nd bl ro sa cu ba h0 h1 cr se tb nu bk d dg ys hl zl hc hu hy) = some (AV.bool hy, vcN1_s0 R k nd bl ro sa cu ba h0 h1 cr se tb nu bk d dg ys hl zl hc hu hy) ∧ ifB hy (Q (Exit.normal, xFr [(1, AV.ptr (some (1, 0))), (3, AV.int IntKind.i64 k)] 193, vcN1_s0 R k nd bl ro sa cu ba h0 h1 cr se tb nu bk d dg ys hl zl hc hu hy)) (ifB ys (Q2 (Exit.ret, some (AV.bool false))) (Q (Exit.normal, xFr [(1, AV.ptr (some (1, 0))), (3, AV.int IntKind.i64 k)] 193, vcN1_s0 R k nd bl ro sa cu ba h0 h1 cr se tb nu bk d dg ys hl zl hc hu hy)))) (ifB (!eqF nu (Int.ofNat 0)) (Q2 (Exit.ret, some (AV.bool false))) ((M EH (drawA EH) (smH q) 58).call 120 [AV.int IntKind.i64 k, AV.int IntKind.u8 (Int.ofNat 121)] (vcN1_s0 R k nd bl ro sa cu ba h0 h1 cr se tb nu bk d dg ys hl zl hc hu hy) = some (AV.bool hy, vcN1_s0 R k nd bl ro sa cu ba h0 h1 cr se tb nu bk d dg ys hl zl hc hu hy) ∧ ifB hy (Q (Exit.normal, xFr [(1, AV.ptr (some (1, 0))), (3, AV.int IntKind.i64 k)] 193, vcN1_s0 R k nd bl ro sa cu ba h0 h1 cr se tb nu bk d dg ys hl zl hc hu hy)) (ifB ys (Q2 (Exit.ret, some (AV.bool false))) (Q (Exit.normal, xFr [(1, AV.ptr (some (1, 0))), (3, AV.int IntKind.i64 k)] 193, vcN1_s0 R k nd bl ro sa cu ba h0 h1 cr se tb nu bk d dg ys hl zl hc hu hy))))))))) ((M EH (drawA EH) (smH q) 58).call 120 [AV.int IntKind.i64 k, AV.int IntKind.u8 (Int.ofNat 99)] (vcN1_s0 R k nd bl ro sa cu ba h0 h1 cr se tb nu bk d dg ys hl zl hc hu hy) = some (AV.bool hc, vcN1_s0 R k nd bl ro sa cu ba h0 h1 cr se tb nu bk d dg ys hl zl hc hu hy) ∧ ifB hc ((M EH (drawA EH) (smH q) 58).call 120 [AV.int IntKind.i64 k, AV.int IntKind.u8 (Int.ofNat 117)] (vcN1_s0 R k nd bl ro sa cu ba h0 h1 cr se tb nu bk d dg ys hl zl hc hu hy) = some (AV.bool hu, vcN1_s0 R k nd bl ro sa cu ba h0 h1 cr se tb nu bk d dg ys hl zl hc hu hy) ∧ ifB hu ((M EH (drawA EH) (smH q) 58).call 120 [AV.int IntKind.i64 k, AV.int IntKind.u8 (Int.ofNat 121)] (vcN1_s0 R k nd bl ro sa cu ba h0 h1 cr se tb nu bk d dg ys hl zl hc hu hy) = some (AV.bool hy, vcN1_s0 R k nd bl ro sa cu ba h0 h1 cr se tb nu bk d dg ys hl zl hc hu hy) ∧ ifB hy (Q (Exit.normal, xFr [(1, AV.ptr (some (1, 0))), (3, AV.int IntKind.i64 k)] 193, vcN1_s0 R k nd bl ro sa cu ba h0 h1 cr se tb nu bk d dg ys hl zl hc hu hy)) (ifB ys (Q2 (Exit.ret, some (AV.bool false))) (Q (Exit.normal, xFr [(1, AV.ptr (some (1, 0))), (3, AV.int IntKind.i64 k)] 193, vcN1_s0 R k nd bl ro sa cu ba h0 h1 cr se tb nu bk d dg ys hl zl hc hu hy)))) (ifB (!eqF nu (Int.ofNat 0)) (Q2 (Exit.ret, some (AV.bool false))) ((M EH (drawA EH) (smH q) 58).call 120 [AV.int IntKind.i64 k, AV.int IntKind.u8 (Int.ofNat 121)] (vcN1_s0 R k nd bl ro sa cu ba h0 h1 cr se tb nu bk d dg ys hl zl hc hu hy) = some (AV.bool hy, vcN1_s0 R k nd bl ro sa cu ba h0 h1 cr se tb nu bk d dg ys hl zl hc hu hy) ∧ ifB hy (Q (Exit.normal, xFr [(1, AV.ptr (some (1, 0))), (3, AV.int IntKind.i64 k)] 193, vcN1_s0 R k nd bl ro sa cu ba h0 h1 cr se tb nu bk d dg ys hl zl hc hu hy)) (ifB ys (Q2 (Exit.ret, some (AV.bool false))) (Q (Exit.normal, xFr [(1, AV.ptr (some (1, 0))), (3, AV.int IntKind.i64 k)] 193, vcN1_s0 R k nd bl ro sa cu ba h0 h1 cr se tb nu bk d dg ys hl zl hc hu hy)))))) (ifB cr (Q2 (Exit.ret, some (AV.bool false))) ((M EH (drawA EH) (smH q) 58).call 120 [AV.int IntKind.i64 k, AV.int IntKind.u8 (Int.ofNat 117)] (vcN1_s0 R k nd bl ro sa cu ba h0 h1 cr se tb nu bk d dg ys hl zl hc hu hy) = some (AV.bool hu, vcN1_s0 R k nd bl ro sa cu ba h0 h1 cr se tb nu bk d dg ys hl zl hc hu hy) ∧ ifB hu ((M EH (drawA EH) (smH q) 58).call 120 [AV.int IntKind.i64 k, AV.int IntKind.u8 (Int.ofNat 121)] (vcN1_s0 R k nd bl ro sa cu ba h0 h1 cr se tb nu bk d dg ys hl zl hc hu hy) = some (AV.bool hy, vcN1_s0 R k nd bl ro sa cu ba h0 h1 cr se tb nu bk d dg ys hl zl hc hu hy) ∧ ifB hy (Q (Exit.normal, xFr [(1, AV.ptr (some (1, 0))), (3, AV.int IntKind.i64 k)] 193, vcN1_s0 R k nd bl ro sa cu ba h0 h1 cr se tb nu bk d dg ys hl zl hc hu hy)) (ifB ys (Q2 (Exit.ret, some (AV.bool false))) (Q (Exit.normal, xFr [(1, AV.ptr (some (1, 0))), (3, AV.int IntKind.i64 k)] 193, vcN1_s0 R k nd bl ro sa cu ba h0 h1 cr se tb nu bk d dg ys hl zl hc hu hy)))) (ifB (!eqF nu (Int.ofNat 0)) (Q2 (Exit.ret, some (AV.bool false))) ((M EH (drawA EH) (smH q) 58).call 120 [AV.int IntKind.i64 k, AV.int IntKind.u8 (Int.ofNat 121)] (vcN1_s0 R k nd bl ro sa cu ba h0 h1 cr se tb nu bk d dg ys hl zl hc hu hy) = some (AV.bool hy, vcN1_s0 R k nd bl ro sa cu ba h0 h1 cr se tb nu bk d dg ys hl zl hc hu hy) ∧ ifB hy (Q (Exit.normal, xFr [(1, AV.ptr (some (1, 0))), (3, AV.int IntKind.i64 k)] 193, vcN1_s0 R k nd bl ro sa cu ba h0 h1 cr se tb nu bk d dg ys hl zl hc hu hy)) (ifB ys (Q2 (Exit.ret, some (AV.bool false))) (Q (Exit.normal, xFr [(1, AV.ptr (some (1, 0))), (3, AV.int IntKind.i64 k)] 193, vcN1_s0 R k nd bl ro sa cu ba h0 h1 cr se tb nu bk d dg ys hl zl hc hu hy))))))))) (still (vcN1_s0 R k nd bl ro sa cu ba h0 h1 cr se tb nu bk d dg ys hl zl hc hu hy) (aBin EH BinOp.neq 79 (Operand.tmp 57) (Operand.tmp 58) (AV.agg [AV.int IntKind.u64 cu, AV.int IntKind.u64 ba, AV.int IntKind.u64 h0, AV.int IntKind.u64 h1]) (AV.agg [AV.int IntKind.u64 (Int.ofNat 0), AV.int IntKind.u64 (Int.ofNat 0), AV.int IntKind.u64 (Int.ofNat 0), AV.int IntKind.u64 (Int.ofNat 0)])) = some (AV.bool zl, vcN1_s0 R k nd bl ro sa cu ba h0 h1 cr se tb nu bk d dg ys hl zl hc hu hy) ∧ ifB zl (Q2 (Exit.ret, some (AV.bool false))) (ifB (!eqF ba (Int.ofNat 0)) (ifB (eqF ba cu) (Q2 (Exit.ret, some (AV.bool false))) ((M EH (drawA EH) (smH q) 58).call 120 [AV.int IntKind.i64 k, AV.int IntKind.u8 (Int.ofNat 99)] (vcN1_s0 R k nd bl ro sa cu ba h0 h1 cr se tb nu bk d dg ys hl zl hc hu hy) = some (AV.bool hc, vcN1_s0 R k nd bl ro sa cu ba h0 h1 cr se tb nu bk d dg ys hl zl hc hu hy) ∧ ifB hc ((M EH (drawA EH) (smH q) 58).call 120 [AV.int IntKind.i64 k, AV.int IntKind.u8 (Int.ofNat 117)] (vcN1_s0 R k nd bl ro sa cu ba h0 h1 cr se tb nu bk d dg ys hl zl hc hu hy) = some (AV.bool hu, vcN1_s0 R k nd bl ro sa cu ba h0 h1 cr se tb nu bk d dg ys hl zl hc hu hy) ∧ ifB hu ((M EH (drawA EH) (smH q) 58).call 120 [AV.int IntKind.i64 k, AV.int IntKind.u8 (Int.ofNat 121)] (vcN1_s0 R k nd bl ro sa cu ba h0 h1 cr se tb nu bk d dg ys hl zl hc hu hy) = some (AV.bool hy, vcN1_s0 R k nd bl ro sa cu ba h0 h1 cr se tb nu bk d dg ys hl zl hc hu hy) ∧ ifB hy (Q (Exit.normal, xFr [(1, AV.ptr (some (1, 0))), (3, AV.int IntKind.i64 k)] 193, vcN1_s0 R k nd bl ro sa cu ba h0 h1 cr se tb nu bk d dg ys hl zl hc hu hy)) (ifB ys (Q2 (Exit.ret, some (AV.bool false))) (Q (Exit.normal, xFr [(1, AV.ptr (some (1, 0))), (3, AV.int IntKind.i64 k)] 193, vcN1_s0 R k nd bl ro sa cu ba h0 h1 cr se tb nu bk d dg ys hl zl hc hu hy)))) (ifB (!eqF nu (Int.ofNat 0)) (Q2 (Exit.ret, some (AV.bool false))) ((M EH (drawA EH) (smH q) 58).call 120 [AV.int IntKind.i64 k, AV.int IntKind.u8 (Int.ofNat 121)] (vcN1_s0 R k nd bl ro sa cu ba h0 h1 cr se tb nu bk d dg ys hl zl hc hu hy) = some (AV.bool hy, vcN1_s0 R k nd bl ro sa cu ba h0 h1 cr se tb nu bk d dg ys hl zl hc hu hy) ∧ ifB hy (Q (Exit.normal, xFr [(1, AV.ptr (some (1, 0))), (3, AV.int IntKind.i64 k)] 193, vcN1_s0 R k nd bl ro sa cu ba h0 h1 cr se tb nu bk d dg ys hl zl hc hu hy)) (ifB ys (Q2 (Exit.ret, some (AV.bool false))) (Q (Exit.normal, xFr [(1, AV.ptr (some (1, 0))), (3, AV.int IntKind.i64 k)] 193, vcN1_s0 R k nd bl ro sa cu ba h0 h1 cr se tb nu bk d dg ys hl zl hc hu hy)))))) (ifB cr (Q2 (Exit.ret, some (AV.bool false))) ((M EH (drawA EH) (smH q) 58).call 120 [AV.int IntKind.i64 k, AV.int IntKind.u8 (Int.ofNat 117)] (vcN1_s0 R k nd bl ro sa cu ba h0 h1 cr se tb nu bk d dg ys hl zl hc hu hy) = some (AV.bool hu, vcN1_s0 R k nd bl ro sa cu ba h0 h1 cr se tb nu bk d dg ys hl zl hc hu hy) ∧ ifB hu ((M EH (drawA EH) (smH q) 58).call 120 [AV.int IntKind.i64 k, AV.int IntKind.u8 (Int.ofNat 121)] (vcN1_s0 R k nd bl ro sa cu ba h0 h1 cr se tb nu bk d dg ys hl zl hc hu hy) = some (AV.bool hy, vcN1_s0 R k nd bl ro sa cu ba h0 h1 cr se tb nu bk d dg ys hl zl hc hu hy) ∧ ifB hy (Q (Exit.normal, xFr [(1, AV.ptr (some (1, 0))), (3, AV.int IntKind.i64 k)] 193, vcN1_s0 R k nd bl ro sa cu ba h0 h1 cr se tb nu bk d dg ys hl zl hc hu hy)) (ifB ys (Q2 (Exit.ret, some (AV.bool false))) (Q (Exit.normal, xFr [(1, AV.ptr (some (1, 0))), (3, AV.int IntKind.i64 k)] 193, vcN1_s0 R k nd bl ro sa cu ba h0 h1 cr se tb nu bk d dg ys hl zl hc hu hy)))) (ifB (!eqF nu (Int.ofNat 0)) (Q2 (Exit.ret, some (AV.bool false))) ((M EH (drawA EH) (smH q) 58).call 120 [AV.int IntKind.i64 k, AV.int IntKind.u8 (Int.ofNat 121)] (vcN1_s0 R k nd bl ro sa cu ba h0 h1 cr se tb nu bk d dg ys hl zl hc hu hy) = some (AV.bool hy, vcN1_s0 R k nd bl ro sa cu ba h0 h1 cr se tb nu bk d dg ys hl zl hc hu hy) ∧ ifB hy (Q (Exit.normal, xFr [(1, AV.ptr (some (1, 0))), (3, AV.int IntKind.i64 k)] 193, vcN1_s0 R k nd bl ro sa cu ba h0 h1 cr se tb nu bk d dg ys hl zl hc hu hy)) (ifB ys (Q2 (Exit.ret, some (AV.bool false))) (Q (Exit.normal, xFr [(1, AV.ptr (some (1, 0))), (3, AV.int IntKind.i64 k)] 193, vcN1_s0 R k nd bl ro sa cu ba h0 h1 cr se tb nu bk d dg ys hl zl hc hu hy))))))))) ((M EH (drawA EH) (smH q) 58).call 120 [AV.int IntKind.i64 k, AV.int IntKind.u8 (Int.ofNat 99)] (vcN1_s0 R k nd bl ro sa cu ba h0 h1 cr se tb nu bk d dg ys hl zl hc hu hy) = some (AV.bool hc, vcN1_s0 R k nd bl ro sa cu ba h0 h1 cr se tb nu bk d dg ys hl zl hc hu hy) ∧ ifB hc ((M EH (drawA EH) (smH q) 58).call 120 [AV.int IntKind.i64 k, AV.int IntKind.u8 (Int.ofNat 117)] (vcN1_s0 R k nd bl ro sa cu ba h0 h1 cr se tb nu bk d dg ys hl zl hc hu hy) = some (AV.bool hu, vcN1_s0 R k nd bl ro sa cu ba h0 h1 cr se tb nu bk d dg ys hl zl hc hu hy) ∧ ifB hu ((M EH (drawA EH) (smH q) 58).call 120 [AV.int IntKind.i64 k, AV.int IntKind.u8 (Int.ofNat 121)] (vcN1_s0 R k nd bl ro sa cu ba h0 h1 cr se tb nu bk d dg ys hl zl hc hu hy) = some (AV.bool hy, vcN1_s0 R k nd bl ro sa cu ba h0 h1 cr se tb nu bk d dg ys hl zl hc hu hy) ∧ ifB hy (Q (Exit.normal, xFr [(1, AV.ptr (some (1, 0))), (3, AV.int IntKind.i64 k)] 193, vcN1_s0 R k nd bl ro sa cu ba h0 h1 cr se tb nu bk d dg ys hl zl hc hu hy)) (ifB ys (Q2 (Exit.ret, some (AV.bool false))) (Q (Exit.normal, xFr [(1, AV.ptr (some (1, 0))), (3, AV.int IntKind.i64 k)] 193, vcN1_s0 R k nd bl ro sa cu ba h0 h1 cr se tb nu bk d dg ys hl zl hc hu hy)))) (ifB (!eqF nu (Int.ofNat 0)) (Q2 (Exit.ret, some (AV.bool false))) ((M EH (drawA EH) (smH q) 58).call 120 [AV.int IntKind.i64 k, AV.int IntKind.u8 (Int.ofNat 121)] (vcN1_s0 R k nd bl ro sa cu ba h0 h1 cr se tb nu bk d dg ys hl zl hc hu hy) = some (AV.bool hy, vcN1_s0 R k nd bl ro sa cu ba h0 h1 cr se tb nu bk d dg ys hl zl hc hu hy) ∧ ifB hy (Q (Exit.normal, xFr [(1, AV.ptr (some (1, 0))), (3, AV.int IntKind.i64 k)] 193, vcN1_s0 R k nd bl ro sa cu ba h0 h1 cr se tb nu bk d dg ys hl zl hc hu hy)) (ifB ys (Q2 (Exit.ret, some (AV.bool false))) (Q (Exit.normal, xFr [(1, AV.ptr (some (1, 0))), (3, AV.int IntKind.i64 k)] 193, vcN1_s0 R k nd bl ro sa cu ba h0 h1 cr se tb nu bk d dg ys hl zl hc hu hy)))))) (ifB cr (Q2 (Exit.ret, some (AV.bool false))) ((M EH (drawA EH) (smH q) 58).call 120 [AV.int IntKind.i64 k, AV.int IntKind.u8 (Int.ofNat 117)] (vcN1_s0 R k nd bl ro sa cu ba h0 h1 cr se tb nu bk d dg ys hl zl hc hu hy) = some (AV.bool hu, vcN1_s0 R k nd bl ro sa cu ba h0 h1 cr se tb nu bk d dg ys hl zl hc hu hy) ∧ ifB hu ((M EH (drawA EH) (smH q) 58).call 120 [AV.int IntKind.i64 k, AV.int IntKind.u8 (Int.ofNat 121)] (vcN1_s0 R k nd bl ro sa cu ba h0 h1 cr se tb nu bk d dg ys hl zl hc hu hy) = some (AV.bool hy, vcN1_s0 R k nd bl ro sa cu ba h0 h1 cr se tb nu bk d dg ys hl zl hc hu hy) ∧ ifB hy (Q (Exit.normal, xFr [(1, AV.ptr (some (1, 0))), (3, AV.int IntKind.i64 k)] 193, vcN1_s0 R k nd bl ro sa cu ba h0 h1 cr se tb nu bk d dg ys hl zl hc hu hy)) (ifB ys (Q2 (Exit.ret, some (AV.bool false))) (Q (Exit.normal, xFr [(1, AV.ptr (some (1, 0))), (3, AV.int IntKind.i64 k)] 193, vcN1_s0 R k nd bl ro sa cu ba h0 h1 cr se tb nu bk d dg ys hl zl hc hu hy)))) (ifB (!eqF nu (Int.ofNat 0)) (Q2 (Exit.ret, some (AV.bool false))) ((M EH (drawA EH) (smH q) 58).call 120 [AV.int IntKind.i64 k, AV.int IntKind.u8 (Int.ofNat 121)] (vcN1_s0 R k nd bl ro sa cu ba h0 h1 cr se tb nu bk d dg ys hl zl hc hu hy) = some (AV.bool hy, vcN1_s0 R k nd bl ro sa cu ba h0 h1 cr se tb nu bk d dg ys hl zl hc hu hy) ∧ ifB hy (Q (Exit.normal, xFr [(1, AV.ptr (some (1, 0))), (3, AV.int IntKind.i64 k)] 193, vcN1_s0 R k nd bl ro sa cu ba h0 h1 cr se tb nu bk d dg ys hl zl hc hu hy)) (ifB ys (Q2 (Exit.ret, some (AV.bool false))) (Q (Exit.normal, xFr [(1, AV.ptr (some (1, 0))), (3, AV.int IntKind.i64 k)] 193, vcN1_s0 R k nd bl ro sa cu ba h0 h1 cr se tb nu bk d dg ys hl zl hc hu hy))))))))))) =
  (tN1 q R k nd bl ro sa cu ba h0 h1 cr se tb nu bk d dg ys hl zl hc hu hy).allY (mixQ EH Try.f77 [1, 3] [0, 1] Q Q2) (An.v (AV.bool hl, vcN1_s0 R k nd bl ro sa cu ba h0 h1 cr se tb nu bk d dg ys hl zl hc hu hy) (An.b (An.b (An.b An.nil (An.v (AV.bool hc, vcN1_s0 R k nd bl ro sa cu ba h0 h1 cr se tb nu bk d dg ys hl zl hc hu hy) (An.b (An.v (AV.bool hu, vcN1_s0 R k nd bl ro sa cu ba h0 h1 cr se tb nu bk d dg ys hl zl hc hu hy) (An.b (An.v (AV.bool hy, vcN1_s0 R k nd bl ro sa cu ba h0 h1 cr se tb nu bk d dg ys hl zl hc hu hy) (An.b An.nil (An.b An.nil An.nil))) (An.b An.nil (An.v (AV.bool hy, vcN1_s0 R k nd bl ro sa cu ba h0 h1 cr se tb nu bk d dg ys hl zl hc hu hy) (An.b An.nil (An.b An.nil An.nil)))))) (An.b An.nil (An.v (AV.bool hu, vcN1_s0 R k nd bl ro sa cu ba h0 h1 cr se tb nu bk d dg ys hl zl hc hu hy) (An.b (An.v (AV.bool hy, vcN1_s0 R k nd bl ro sa cu ba h0 h1 cr se tb nu bk d dg ys hl zl hc hu hy) (An.b An.nil (An.b An.nil An.nil))) (An.b An.nil (An.v (AV.bool hy, vcN1_s0 R k nd bl ro sa cu ba h0 h1 cr se tb nu bk d dg ys hl zl hc hu hy) (An.b An.nil (An.b An.nil An.nil)))))))))) (An.v (AV.bool hc, vcN1_s0 R k nd bl ro sa cu ba h0 h1 cr se tb nu bk d dg ys hl zl hc hu hy) (An.b (An.v (AV.bool hu, vcN1_s0 R k nd bl ro sa cu ba h0 h1 cr se tb nu bk d dg ys hl zl hc hu hy) (An.b (An.v (AV.bool hy, vcN1_s0 R k nd bl ro sa cu ba h0 h1 cr se tb nu bk d dg ys hl zl hc hu hy) (An.b An.nil (An.b An.nil An.nil))) (An.b An.nil (An.v (AV.bool hy, vcN1_s0 R k nd bl ro sa cu ba h0 h1 cr se tb nu bk d dg ys hl zl hc hu hy) (An.b An.nil (An.b An.nil An.nil)))))) (An.b An.nil (An.v (AV.bool hu, vcN1_s0 R k nd bl ro sa cu ba h0 h1 cr se tb nu bk d dg ys hl zl hc hu hy) (An.b (An.v (AV.bool hy, vcN1_s0 R k nd bl ro sa cu ba h0 h1 cr se tb nu bk d dg ys hl zl hc hu hy) (An.b An.nil (An.b An.nil An.nil))) (An.b An.nil (An.v (AV.bool hy, vcN1_s0 R k nd bl ro sa cu ba h0 h1 cr se tb nu bk d dg ys hl zl hc hu hy) (An.b An.nil (An.b An.nil An.nil)))))))))) (An.v (AV.bool zl, vcN1_s0 R k nd bl ro sa cu ba h0 h1 cr se tb nu bk d dg ys hl zl hc hu hy) (An.b An.nil (An.b (An.b An.nil (An.v (AV.bool hc, vcN1_s0 R k nd bl ro sa cu ba h0 h1 cr se tb nu bk d dg ys hl zl hc hu hy) (An.b (An.v (AV.bool hu, vcN1_s0 R k nd bl ro sa cu ba h0 h1 cr se tb nu bk d dg ys hl zl hc hu hy) (An.b (An.v (AV.bool hy, vcN1_s0 R k nd bl ro sa cu ba h0 h1 cr se tb nu bk d dg ys hl zl hc hu hy) (An.b An.nil (An.b An.nil An.nil))) (An.b An.nil (An.v (AV.bool hy, vcN1_s0 R k nd bl ro sa cu ba h0 h1 cr se tb nu bk d dg ys hl zl hc hu hy) (An.b An.nil (An.b An.nil An.nil)))))) (An.b An.nil (An.v (AV.bool hu, vcN1_s0 R k nd bl ro sa cu ba h0 h1 cr se tb nu bk d dg ys hl zl hc hu hy) (An.b (An.v (AV.bool hy, vcN1_s0 R k nd bl ro sa cu ba h0 h1 cr se tb nu bk d dg ys hl zl hc hu hy) (An.b An.nil (An.b An.nil An.nil))) (An.b An.nil (An.v (AV.bool hy, vcN1_s0 R k nd bl ro sa cu ba h0 h1 cr se tb nu bk d dg ys hl zl hc hu hy) (An.b An.nil (An.b An.nil An.nil)))))))))) (An.v (AV.bool hc, vcN1_s0 R k nd bl ro sa cu ba h0 h1 cr se tb nu bk d dg ys hl zl hc hu hy) (An.b (An.v (AV.bool hu, vcN1_s0 R k nd bl ro sa cu ba h0 h1 cr se tb nu bk d dg ys hl zl hc hu hy) (An.b (An.v (AV.bool hy, vcN1_s0 R k nd bl ro sa cu ba h0 h1 cr se tb nu bk d dg ys hl zl hc hu hy) (An.b An.nil (An.b An.nil An.nil))) (An.b An.nil (An.v (AV.bool hy, vcN1_s0 R k nd bl ro sa cu ba h0 h1 cr se tb nu bk d dg ys hl zl hc hu hy) (An.b An.nil (An.b An.nil An.nil)))))) (An.b An.nil (An.v (AV.bool hu, vcN1_s0 R k nd bl ro sa cu ba h0 h1 cr se tb nu bk d dg ys hl zl hc hu hy) (An.b (An.v (AV.bool hy, vcN1_s0 R k nd bl ro sa cu ba h0 h1 cr se tb nu bk d dg ys hl zl hc hu hy) (An.b An.nil (An.b An.nil An.nil))) (An.b An.nil (An.v (AV.bool hy, vcN1_s0 R k nd bl ro sa cu ba h0 h1 cr se tb nu bk d dg ys hl zl hc hu hy) (An.b An.nil (An.b An.nil An.nil)))))))))))))) := by kernel_rfl
noncomputable def vcN2_s0 (R : AO) (k : Int) (nd : Int) (bl : Int) (ro : Int) (sa : Int) (cu : Int) (ba : Int) (h0 : Int) (h1 : Int) (cr : Bool) (se : Int) (tb : AV) (nu : Int) (bk : Int) (d : Nat → Nat) (dg : AV) (ys : Bool) : ASt := mkSt [(0, R), (1, AO.cells (msgL k nd bl ro sa cu ba h0 h1 cr se tb nu bk d dg ys) true)] 40
theorem vcN2 (q : CallT) (R : AO) (k : Int) (nd : Int) (bl : Int) (ro : Int) (sa : Int) (cu : Int) (ba : Int) (h0 : Int) (h1 : Int) (cr : Bool) (se : Int) (tb : AV) (nu : Int) (bk : Int) (d : Nat → Nat) (dg : AV) (ys : Bool) (Q : Exit × AFr × ASt → Prop) (Q2 : Exit × Option AV → Prop) :
  (Q (Exit.normal, xFr [(1, AV.ptr (some (1, 0))), (3, AV.int IntKind.i64 k), (4, AV.int IntKind.i64 (Int.ofNat 0))] 193, vcN2_s0 R k nd bl ro sa cu ba h0 h1 cr se tb nu bk d dg ys)) =
  (tN2 q R k nd bl ro sa cu ba h0 h1 cr se tb nu bk d dg ys).allY (mixQ EH Try.f77 [1, 3, 4] [0, 1] Q Q2) (An.nil) := by kernel_rfl
noncomputable def vcN3_s0 (R : AO) (k : Int) (nd : Int) (bl : Int) (ro : Int) (sa : Int) (cu : Int) (ba : Int) (h0 : Int) (h1 : Int) (cr : Bool) (se : Int) (tb : AV) (nu : Int) (bk : Int) (d : Nat → Nat) (dg : AV) (ys : Bool) (i : Nat) (sh : Int) (rm : Int) (ht : Bool) : ASt := mkSt [(0, R), (1, AO.cells (msgL k nd bl ro sa cu ba h0 h1 cr se tb nu bk d dg ys) true)] 40
theorem vcN3 (q : CallT) (R : AO) (k : Int) (nd : Int) (bl : Int) (ro : Int) (sa : Int) (cu : Int) (ba : Int) (h0 : Int) (h1 : Int) (cr : Bool) (se : Int) (tb : AV) (nu : Int) (bk : Int) (d : Nat → Nat) (dg : AV) (ys : Bool) (i : Nat) (sh : Int) (rm : Int) (ht : Bool) (Q : Exit × AFr × ASt → Prop) (Q2 : Exit × Option AV → Prop) :
  (ifB (ltF (Int.ofNat i) (Int.ofNat 64)) (aConvert EH 3 141 (AV.int IntKind.i64 (Int.ofNat i)) (vcN3_s0 R k nd bl ro sa cu ba h0 h1 cr se tb nu bk d dg ys i sh rm ht) = some (AV.int IntKind.u64 (Int.ofNat i), vcN3_s0 R k nd bl ro sa cu ba h0 h1 cr se tb nu bk d dg ys i sh rm ht) ∧ still (vcN3_s0 R k nd bl ro sa cu ba h0 h1 cr se tb nu bk d dg ys i sh rm ht) (aBin EH BinOp.shr 28 (Operand.tmp 109) (Operand.tmp 111) (AV.int IntKind.u64 se) (AV.int IntKind.u64 (Int.ofNat i))) = some (AV.int IntKind.u64 sh, vcN3_s0 R k nd bl ro sa cu ba h0 h1 cr se tb nu bk d dg ys i sh rm ht) ∧ still (vcN3_s0 R k nd bl ro sa cu ba h0 h1 cr se tb nu bk d dg ys i sh rm ht) (aBin EH BinOp.rem 28 (Operand.tmp 112) (Operand.const (Value.int IntKind.u64 2)) (AV.int IntKind.u64 sh) (AV.int IntKind.u64 (Int.ofNat 2))) = some (AV.int IntKind.u64 rm, vcN3_s0 R k nd bl ro sa cu ba h0 h1 cr se tb nu bk d dg ys i sh rm ht) ∧ ifB (eqF rm (Int.ofNat 1)) ((M EH (drawA EH) (smH q) 55).call 120 [AV.int IntKind.i64 k, AV.int IntKind.u8 (Int.ofNat 116)] (vcN3_s0 R k nd bl ro sa cu ba h0 h1 cr se tb nu bk d dg ys i sh rm ht) = some (AV.bool ht, vcN3_s0 R k nd bl ro sa cu ba h0 h1 cr se tb nu bk d dg ys i sh rm ht) ∧ ifB ht (ifB (!ltF (Int.ofNat i) bl) (Q2 (Exit.ret, some (AV.bool false))) (still (vcN3_s0 R k nd bl ro sa cu ba h0 h1 cr se tb nu bk d dg ys i sh rm ht) (aBin EH BinOp.add 3 (Operand.tmp 106) (Operand.const (Value.int IntKind.i64 1)) (AV.int IntKind.i64 (Int.ofNat i)) (AV.int IntKind.i64 (Int.ofNat 1))) = some (AV.int IntKind.i64 (Int.ofNat (i + 1)), vcN3_s0 R k nd bl ro sa cu ba h0 h1 cr se tb nu bk d dg ys i sh rm ht) ∧ Q (Exit.normal, xFr [(1, AV.ptr (some (1, 0))), (3, AV.int IntKind.i64 k), (4, AV.int IntKind.i64 (Int.ofNat (i + 1)))] 193, vcN3_s0 R k nd bl ro sa cu ba h0 h1 cr se tb nu bk d dg ys i sh rm ht))) (Q2 (Exit.ret, some (AV.bool false)))) (still (vcN3_s0 R k nd bl ro sa cu ba h0 h1 cr se tb nu bk d dg ys i sh rm ht) (aBin EH BinOp.add 3 (Operand.tmp 106) (Operand.const (Value.int IntKind.i64 1)) (AV.int IntKind.i64 (Int.ofNat i)) (AV.int IntKind.i64 (Int.ofNat 1))) = some (AV.int IntKind.i64 (Int.ofNat (i + 1)), vcN3_s0 R k nd bl ro sa cu ba h0 h1 cr se tb nu bk d dg ys i sh rm ht) ∧ Q (Exit.normal, xFr [(1, AV.ptr (some (1, 0))), (3, AV.int IntKind.i64 k), (4, AV.int IntKind.i64 (Int.ofNat (i + 1)))] 193, vcN3_s0 R k nd bl ro sa cu ba h0 h1 cr se tb nu bk d dg ys i sh rm ht))) (Q (Exit.exit 0, xFr [(1, AV.ptr (some (1, 0))), (3, AV.int IntKind.i64 k), (4, AV.int IntKind.i64 (Int.ofNat i))] 193, vcN3_s0 R k nd bl ro sa cu ba h0 h1 cr se tb nu bk d dg ys i sh rm ht))) =
  (tN3 q R k nd bl ro sa cu ba h0 h1 cr se tb nu bk d dg ys i sh rm ht).allY (mixQ EH Try.f77 [1, 3, 4] [0, 1] Q Q2) (An.b (An.v (AV.int IntKind.u64 (Int.ofNat i), vcN3_s0 R k nd bl ro sa cu ba h0 h1 cr se tb nu bk d dg ys i sh rm ht) (An.v (AV.int IntKind.u64 sh, vcN3_s0 R k nd bl ro sa cu ba h0 h1 cr se tb nu bk d dg ys i sh rm ht) (An.v (AV.int IntKind.u64 rm, vcN3_s0 R k nd bl ro sa cu ba h0 h1 cr se tb nu bk d dg ys i sh rm ht) (An.b (An.v (AV.bool ht, vcN3_s0 R k nd bl ro sa cu ba h0 h1 cr se tb nu bk d dg ys i sh rm ht) (An.b (An.b An.nil (An.v (AV.int IntKind.i64 (Int.ofNat (i + 1)), vcN3_s0 R k nd bl ro sa cu ba h0 h1 cr se tb nu bk d dg ys i sh rm ht) An.nil)) An.nil)) (An.v (AV.int IntKind.i64 (Int.ofNat (i + 1)), vcN3_s0 R k nd bl ro sa cu ba h0 h1 cr se tb nu bk d dg ys i sh rm ht) An.nil))))) An.nil) := by kernel_rfl
noncomputable def vcN4_s0 (R : AO) (k : Int) (nd : Int) (bl : Int) (ro : Int) (sa : Int) (cu : Int) (ba : Int) (h0 : Int) (h1 : Int) (cr : Bool) (se : Int) (tb : AV) (nu : Int) (bk : Int) (d : Nat → Nat) (dg : AV) (ys : Bool) (hd : Bool) : ASt := mkSt [(0, R), (1, AO.cells (msgL k nd bl ro sa cu ba h0 h1 cr se tb nu bk d dg ys) true)] 40
theorem vcN4 (q : CallT) (R : AO) (k : Int) (nd : Int) (bl : Int) (ro : Int) (sa : Int) (cu : Int) (ba : Int) (h0 : Int) (h1 : Int) (cr : Bool) (se : Int) (tb : AV) (nu : Int) (bk : Int) (d : Nat → Nat) (dg : AV) (ys : Bool) (hd : Bool) (Q : Exit × AFr × ASt → Prop) (Q2 : Exit × Option AV → Prop) :
  ((M EH (drawA EH) (smH q) 59).call 120 [AV.int IntKind.i64 k, AV.int IntKind.u8 (Int.ofNat 100)] (vcN4_s0 R k nd bl ro sa cu ba h0 h1 cr se tb nu bk d dg ys hd) = some (AV.bool hd, vcN4_s0 R k nd bl ro sa cu ba h0 h1 cr se tb nu bk d dg ys hd) ∧ ifB hd (ifB (eqF k (Int.ofNat 8)) (ifB ys (Q (Exit.normal, xFr [(1, AV.ptr (some (1, 0))), (3, AV.int IntKind.i64 k), (5, AV.bool true)] 193, vcN4_s0 R k nd bl ro sa cu ba h0 h1 cr se tb nu bk d dg ys hd)) (ifB (eqF k (Int.ofNat 15)) (ifB ys (Q (Exit.normal, xFr [(1, AV.ptr (some (1, 0))), (3, AV.int IntKind.i64 k), (5, AV.bool false)] 193, vcN4_s0 R k nd bl ro sa cu ba h0 h1 cr se tb nu bk d dg ys hd)) (Q (Exit.normal, xFr [(1, AV.ptr (some (1, 0))), (3, AV.int IntKind.i64 k), (5, AV.bool true)] 193, vcN4_s0 R k nd bl ro sa cu ba h0 h1 cr se tb nu bk d dg ys hd))) (Q (Exit.normal, xFr [(1, AV.ptr (some (1, 0))), (3, AV.int IntKind.i64 k), (5, AV.bool false)] 193, vcN4_s0 R k nd bl ro sa cu ba h0 h1 cr se tb nu bk d dg ys hd)))) (ifB (eqF k (Int.ofNat 15)) (ifB ys (Q (Exit.normal, xFr [(1, AV.ptr (some (1, 0))), (3, AV.int IntKind.i64 k), (5, AV.bool false)] 193, vcN4_s0 R k nd bl ro sa cu ba h0 h1 cr se tb nu bk d dg ys hd)) (Q (Exit.normal, xFr [(1, AV.ptr (some (1, 0))), (3, AV.int IntKind.i64 k), (5, AV.bool true)] 193, vcN4_s0 R k nd bl ro sa cu ba h0 h1 cr se tb nu bk d dg ys hd))) (Q (Exit.normal, xFr [(1, AV.ptr (some (1, 0))), (3, AV.int IntKind.i64 k), (5, AV.bool false)] 193, vcN4_s0 R k nd bl ro sa cu ba h0 h1 cr se tb nu bk d dg ys hd)))) (Q (Exit.normal, xFr [(1, AV.ptr (some (1, 0))), (3, AV.int IntKind.i64 k), (5, AV.bool true)] 193, vcN4_s0 R k nd bl ro sa cu ba h0 h1 cr se tb nu bk d dg ys hd))) =
  (tN4 q R k nd bl ro sa cu ba h0 h1 cr se tb nu bk d dg ys hd).allY (mixQ EH Try.f77 [1, 3, 5] [0, 1] Q Q2) (An.v (AV.bool hd, vcN4_s0 R k nd bl ro sa cu ba h0 h1 cr se tb nu bk d dg ys hd) (An.b (An.b (An.b An.nil (An.b (An.b An.nil An.nil) An.nil)) (An.b (An.b An.nil An.nil) An.nil)) An.nil)) := by kernel_rfl
noncomputable def vcN5_s0 (R : AO) (k : Int) (nd : Int) (bl : Int) (ro : Int) (sa : Int) (cu : Int) (ba : Int) (h0 : Int) (h1 : Int) (cr : Bool) (se : Int) (tb : AV) (nu : Int) (bk : Int) (d : Nat → Nat) (dg : AV) (ys : Bool) (no : Bool) (zd : Bool) (ha : Bool) (n : Nat) : ASt := mkSt [(0, R), (1, AO.cells (msgL k nd bl ro sa cu ba h0 h1 cr se tb nu bk d dg ys) true)] 40
theorem vcN5 (q : CallT) (R : AO) (k : Int) (nd : Int) (bl : Int) (ro : Int) (sa : Int) (cu : Int) (ba : Int) (h0 : Int) (h1 : Int) (cr : Bool) (se : Int) (tb : AV) (nu : Int) (bk : Int) (d : Nat → Nat) (dg : AV) (ys : Bool) (no : Bool) (zd : Bool) (ha : Bool) (n : Nat) (Q : Exit × AFr × ASt → Prop) (Q2 : Exit × Option AV → Prop) :
  (ifB no (still (vcN5_s0 R k nd bl ro sa cu ba h0 h1 cr se tb nu bk d dg ys no zd ha n) (aBin EH BinOp.neq 39 (Operand.tmp 149) (Operand.tmp 150) (AV.agg (ddL d)) (AV.agg zzL)) = some (AV.bool zd, vcN5_s0 R k nd bl ro sa cu ba h0 h1 cr se tb nu bk d dg ys no zd ha n) ∧ ifB zd (Q2 (Exit.ret, some (AV.bool false))) (aBuiltinM EH Builtin.len [25] [tb] (vcN5_s0 R k nd bl ro sa cu ba h0 h1 cr se tb nu bk d dg ys no zd ha n) = some (AV.int IntKind.i64 (Int.ofNat n), vcN5_s0 R k nd bl ro sa cu ba h0 h1 cr se tb nu bk d dg ys no zd ha n) ∧ ifB (ltF (Int.ofNat 3000) (Int.ofNat n)) (Q2 (Exit.ret, some (AV.bool false))) ((M EH (drawA EH) (smH q) 58).call 120 [AV.int IntKind.i64 k, AV.int IntKind.u8 (Int.ofNat 97)] (vcN5_s0 R k nd bl ro sa cu ba h0 h1 cr se tb nu bk d dg ys no zd ha n) = some (AV.bool ha, vcN5_s0 R k nd bl ro sa cu ba h0 h1 cr se tb nu bk d dg ys no zd ha n) ∧ ifB ha (Q (Exit.normal, xFr [(1, AV.ptr (some (1, 0))), (3, AV.int IntKind.i64 k)] 193, vcN5_s0 R k nd bl ro sa cu ba h0 h1 cr se tb nu bk d dg ys no zd ha n)) (aBuiltinM EH Builtin.len [25] [tb] (vcN5_s0 R k nd bl ro sa cu ba h0 h1 cr se tb nu bk d dg ys no zd ha n) = some (AV.int IntKind.i64 (Int.ofNat n), vcN5_s0 R k nd bl ro sa cu ba h0 h1 cr se tb nu bk d dg ys no zd ha n) ∧ ifB (ltF (Int.ofNat 0) (Int.ofNat n)) (Q2 (Exit.ret, some (AV.bool false))) (Q (Exit.normal, xFr [(1, AV.ptr (some (1, 0))), (3, AV.int IntKind.i64 k)] 193, vcN5_s0 R k nd bl ro sa cu ba h0 h1 cr se tb nu bk d dg ys no zd ha n)))))) (aBuiltinM EH Builtin.len [25] [tb] (vcN5_s0 R k nd bl ro sa cu ba h0 h1 cr se tb nu bk d dg ys no zd ha n) = some (AV.int IntKind.i64 (Int.ofNat n), vcN5_s0 R k nd bl ro sa cu ba h0 h1 cr se tb nu bk d dg ys no zd ha n) ∧ ifB (ltF (Int.ofNat 3000) (Int.ofNat n)) (Q2 (Exit.ret, some (AV.bool false))) ((M EH (drawA EH) (smH q) 58).call 120 [AV.int IntKind.i64 k, AV.int IntKind.u8 (Int.ofNat 97)] (vcN5_s0 R k nd bl ro sa cu ba h0 h1 cr se tb nu bk d dg ys no zd ha n) = some (AV.bool ha, vcN5_s0 R k nd bl ro sa cu ba h0 h1 cr se tb nu bk d dg ys no zd ha n) ∧ ifB ha (Q (Exit.normal, xFr [(1, AV.ptr (some (1, 0))), (3, AV.int IntKind.i64 k)] 193, vcN5_s0 R k nd bl ro sa cu ba h0 h1 cr se tb nu bk d dg ys no zd ha n)) (aBuiltinM EH Builtin.len [25] [tb] (vcN5_s0 R k nd bl ro sa cu ba h0 h1 cr se tb nu bk d dg ys no zd ha n) = some (AV.int IntKind.i64 (Int.ofNat n), vcN5_s0 R k nd bl ro sa cu ba h0 h1 cr se tb nu bk d dg ys no zd ha n) ∧ ifB (ltF (Int.ofNat 0) (Int.ofNat n)) (Q2 (Exit.ret, some (AV.bool false))) (Q (Exit.normal, xFr [(1, AV.ptr (some (1, 0))), (3, AV.int IntKind.i64 k)] 193, vcN5_s0 R k nd bl ro sa cu ba h0 h1 cr se tb nu bk d dg ys no zd ha n)))))) =
  (tN5 q R k nd bl ro sa cu ba h0 h1 cr se tb nu bk d dg ys no zd ha n).allY (mixQ EH Try.f77 [1, 3] [0, 1] Q Q2) (An.b (An.v (AV.bool zd, vcN5_s0 R k nd bl ro sa cu ba h0 h1 cr se tb nu bk d dg ys no zd ha n) (An.b An.nil (An.v (AV.int IntKind.i64 (Int.ofNat n), vcN5_s0 R k nd bl ro sa cu ba h0 h1 cr se tb nu bk d dg ys no zd ha n) (An.b An.nil (An.v (AV.bool ha, vcN5_s0 R k nd bl ro sa cu ba h0 h1 cr se tb nu bk d dg ys no zd ha n) (An.b An.nil (An.v (AV.int IntKind.i64 (Int.ofNat n), vcN5_s0 R k nd bl ro sa cu ba h0 h1 cr se tb nu bk d dg ys no zd ha n) (An.b An.nil An.nil)))))))) (An.v (AV.int IntKind.i64 (Int.ofNat n), vcN5_s0 R k nd bl ro sa cu ba h0 h1 cr se tb nu bk d dg ys no zd ha n) (An.b An.nil (An.v (AV.bool ha, vcN5_s0 R k nd bl ro sa cu ba h0 h1 cr se tb nu bk d dg ys no zd ha n) (An.b An.nil (An.v (AV.int IntKind.i64 (Int.ofNat n), vcN5_s0 R k nd bl ro sa cu ba h0 h1 cr se tb nu bk d dg ys no zd ha n) (An.b An.nil An.nil))))))) := by kernel_rfl
noncomputable def vcN6_s0 (R : AO) (k : Int) (nd : Int) (bl : Int) (ro : Int) (sa : Int) (cu : Int) (ba : Int) (h0 : Int) (h1 : Int) (cr : Bool) (se : Int) (tb : AV) (nu : Int) (bk : Int) (d : Nat → Nat) (dg : AV) (ys : Bool) (n : Nat) : ASt := mkSt [(0, R), (1, AO.cells (msgL k nd bl ro sa cu ba h0 h1 cr se tb nu bk d dg ys) true)] 40
theorem vcN6 (q : CallT) (R : AO) (k : Int) (nd : Int) (bl : Int) (ro : Int) (sa : Int) (cu : Int) (ba : Int) (h0 : Int) (h1 : Int) (cr : Bool) (se : Int) (tb : AV) (nu : Int) (bk : Int) (d : Nat → Nat) (dg : AV) (ys : Bool) (n : Nat) (Q : Exit × Option AV → Prop) :
  (ifB (eqF k (Int.ofNat 7)) (aBuiltinM EH Builtin.len [25] [dg] (vcN6_s0 R k nd bl ro sa cu ba h0 h1 cr se tb nu bk d dg ys n) = some (AV.int IntKind.i64 (Int.ofNat n), vcN6_s0 R k nd bl ro sa cu ba h0 h1 cr se tb nu bk d dg ys n) ∧ ifB (eqF (Int.ofNat n) (Int.ofNat 0)) (Q (Exit.ret, some (AV.bool true))) (aBuiltinM EH Builtin.len [25] [dg] (vcN6_s0 R k nd bl ro sa cu ba h0 h1 cr se tb nu bk d dg ys n) = some (AV.int IntKind.i64 (Int.ofNat n), vcN6_s0 R k nd bl ro sa cu ba h0 h1 cr se tb nu bk d dg ys n) ∧ Q (Exit.ret, some (AV.bool (eqF (Int.ofNat n) (Int.ofNat 32)))))) (ifB (eqF k (Int.ofNat 18)) (aBuiltinM EH Builtin.len [25] [dg] (vcN6_s0 R k nd bl ro sa cu ba h0 h1 cr se tb nu bk d dg ys n) = some (AV.int IntKind.i64 (Int.ofNat n), vcN6_s0 R k nd bl ro sa cu ba h0 h1 cr se tb nu bk d dg ys n) ∧ Q (Exit.ret, some (AV.bool (eqF (Int.ofNat n) (Int.ofNat 32))))) (aBuiltinM EH Builtin.len [25] [dg] (vcN6_s0 R k nd bl ro sa cu ba h0 h1 cr se tb nu bk d dg ys n) = some (AV.int IntKind.i64 (Int.ofNat n), vcN6_s0 R k nd bl ro sa cu ba h0 h1 cr se tb nu bk d dg ys n) ∧ Q (Exit.ret, some (AV.bool (eqF (Int.ofNat n) (Int.ofNat 0))))))) =
  (tN6 q R k nd bl ro sa cu ba h0 h1 cr se tb nu bk d dg ys n).allY (fun r => Q (r.1, ans (leaveA EH Try.f77 r.2.1 r.2.2))) (An.b (An.b (An.v (AV.int IntKind.i64 (Int.ofNat n), vcN6_s0 R k nd bl ro sa cu ba h0 h1 cr se tb nu bk d dg ys n) (An.b An.nil (An.v (AV.int IntKind.i64 (Int.ofNat n), vcN6_s0 R k nd bl ro sa cu ba h0 h1 cr se tb nu bk d dg ys n) An.nil))) An.nil) (An.b An.nil (An.b (An.b (An.v (AV.int IntKind.i64 (Int.ofNat n), vcN6_s0 R k nd bl ro sa cu ba h0 h1 cr se tb nu bk d dg ys n) An.nil) An.nil) (An.b An.nil (An.v (AV.int IntKind.i64 (Int.ofNat n), vcN6_s0 R k nd bl ro sa cu ba h0 h1 cr se tb nu bk d dg ys n) An.nil))))) := by kernel_rfl
noncomputable def vcNi_s0 (h : Bool) (lo : Int) (x : Int) (hi : Int) : ASt := mkSt [] 0
theorem vcNi (h : Bool) (lo : Int) (x : Int) (hi : Int) (Q : AV × ASt → Prop) :
  (ifB (!h) (Q (AV.bool (eqF x (Int.ofNat 0)), vcNi_s0 h lo x hi)) (ifB (!ltF x lo) (Q (AV.bool !ltF hi x, vcNi_s0 h lo x hi)) (Q (AV.bool false, vcNi_s0 h lo x hi)))) =
  (tNi h lo x hi).allY (fun r => Q (r.1, canS [0, 1] r.2)) (An.b An.nil (An.b An.nil An.nil)) := by kernel_rfl
end Go.Proofs.Ytlnohbilfogheaa.mrd
end

section
open Go Go.Ax Go.Proofs.Ytlnohbilfogheaa Go.Proofs.Ytlnohbilfogheaa.rdr Go.Proofs.Ytlnohbilfogheaa.rrq
namespace Go.Proofs.Ytlnohbilfogheaa.mrd
set_option linter.unusedVariables false
theorem EHok : Env.Ok Try.prog EH := envEx_ok (xs := []) ⟨⟨Try.func77, Try.call77⟩, ⟨Try.func119, Try.call119⟩, ⟨Try.func120, Try.call120⟩, ⟨Try.func29, Try.call29⟩, trivial⟩ trivial (by kernel_rfl)
def hasL (s : List Nat) (c : Nat) : Bool := memN c s
def inF (h : Bool) (lo x hi : Int) : Bool := bif !h then eqF x (.ofNat 0) else bif !ltF x lo then !ltF hi x else false
theorem in_mem (h : Bool) (lo x hi : Int) : AtMem Try.prog 119 [.bool h, .int .i64 lo, .int .i64 x, .int .i64 hi] (mkSt [] 0) (.bool (inF h lo x hi)) :=
  AtMem.of_tm EHok noSum_ok (Eq.mp (vcNi h lo x hi (fun r => r.1 = .bool (inF h lo x hi))) (ifB_mk (fun g => by show AV.bool _ = AV.bool (inF h lo x hi); unfold inF; rw [g]; rfl) fun g => ifB_mk (fun g2 => by show AV.bool _ = AV.bool (inF h lo x hi); unfold inF; rw [g, g2]; rfl) fun g2 => by show AV.bool _ = AV.bool (inF h lo x hi); unfold inF; rw [g, g2]; rfl))
theorem in_at {S : ASt} (h : Bool) (lo x hi : Int) : Call1 Try.prog 119 [.bool h, .int .i64 lo, .int .i64 x, .int .i64 hi] S (.bool (inF h lo x hi), S) := Call1.pure (in_mem h lo x hi) (by simp [refsV]) fun a ha => by
  simp only [List.mem_cons, List.not_mem_nil, or_false] at ha
  rcases ha with rfl | rfl | rfl | rfl <;> simp [refsV]
theorem has_mem {K c : Nat} (h1 : 1 ≤ K) (h2 : K ≤ 19) (hc : c ∈ letters) : AtMem Try.prog 120 [.int .i64 (.ofNat K), .int .u8 (.ofNat c)] (mkSt [] 0) (.bool (hasL (names K) c)) := by
  simp only [letters, List.mem_cons, List.not_mem_nil, or_false] at hc
  match K, h1, h2 with
  | 1, _, _ => rcases hc with rfl | rfl | rfl | rfl | rfl | rfl | rfl | rfl | rfl | rfl | rfl | rfl | rfl <;> exact AtMem.of_run EHok noSum_ok (n := 60) (by kernel_rfl)
  | 2, _, _ => rcases hc with rfl | rfl | rfl | rfl | rfl | rfl | rfl | rfl | rfl | rfl | rfl | rfl | rfl <;> exact AtMem.of_run EHok noSum_ok (n := 60) (by kernel_rfl)
  | 3, _, _ => rcases hc with rfl | rfl | rfl | rfl | rfl | rfl | rfl | rfl | rfl | rfl | rfl | rfl | rfl <;> exact AtMem.of_run EHok noSum_ok (n := 60) (by kernel_rfl)
  | 4, _, _ => rcases hc with rfl | rfl | rfl | rfl | rfl | rfl | rfl | rfl | rfl | rfl | rfl | rfl | rfl <;> exact AtMem.of_run EHok noSum_ok (n := 60) (by kernel_rfl)
  | 5, _, _ => rcases hc with rfl | rfl | rfl | rfl | rfl | rfl | rfl | rfl | rfl | rfl | rfl | rfl | rfl <;> exact AtMem.of_run EHok noSum_ok (n := 60) (by kernel_rfl)
  | 6, _, _ => rcases hc with rfl | rfl | rfl | rfl | rfl | rfl | rfl | rfl | rfl | rfl | rfl | rfl | rfl <;> exact AtMem.of_run EHok noSum_ok (n := 60) (by kernel_rfl)
  | 7, _, _ => rcases hc with rfl | rfl | rfl | rfl | rfl | rfl | rfl | rfl | rfl | rfl | rfl | rfl | rfl <;> exact AtMem.of_run EHok noSum_ok (n := 60) (by kernel_rfl)
  | 8, _, _ => rcases hc with rfl | rfl | rfl | rfl | rfl | rfl | rfl | rfl | rfl | rfl | rfl | rfl | rfl <;> exact AtMem.of_run EHok noSum_ok (n := 60) (by kernel_rfl)
  | 9, _, _ => rcases hc with rfl | rfl | rfl | rfl | rfl | rfl | rfl | rfl | rfl | rfl | rfl | rfl | rfl <;> exact AtMem.of_run EHok noSum_ok (n := 60) (by kernel_rfl)
  | 10, _, _ => rcases hc with rfl | rfl | rfl | rfl | rfl | rfl | rfl | rfl | rfl | rfl | rfl | rfl | rfl <;> exact AtMem.of_run EHok noSum_ok (n := 60) (by kernel_rfl)
  | 11, _, _ => rcases hc with rfl | rfl | rfl | rfl | rfl | rfl | rfl | rfl | rfl | rfl | rfl | rfl | rfl <;> exact AtMem.of_run EHok noSum_ok (n := 60) (by kernel_rfl)
  | 12, _, _ => rcases hc with rfl | rfl | rfl | rfl | rfl | rfl | rfl | rfl | rfl | rfl | rfl | rfl | rfl <;> exact AtMem.of_run EHok noSum_ok (n := 60) (by kernel_rfl)
  | 13, _, _ => rcases hc with rfl | rfl | rfl | rfl | rfl | rfl | rfl | rfl | rfl | rfl | rfl | rfl | rfl <;> exact AtMem.of_run EHok noSum_ok (n := 60) (by kernel_rfl)
  | 14, _, _ => rcases hc with rfl | rfl | rfl | rfl | rfl | rfl | rfl | rfl | rfl | rfl | rfl | rfl | rfl <;> exact AtMem.of_run EHok noSum_ok (n := 60) (by kernel_rfl)
  | 15, _, _ => rcases hc with rfl | rfl | rfl | rfl | rfl | rfl | rfl | rfl | rfl | rfl | rfl | rfl | rfl <;> exact AtMem.of_run EHok noSum_ok (n := 60) (by kernel_rfl)
  | 16, _, _ => rcases hc with rfl | rfl | rfl | rfl | rfl | rfl | rfl | rfl | rfl | rfl | rfl | rfl | rfl <;> exact AtMem.of_run EHok noSum_ok (n := 60) (by kernel_rfl)
  | 17, _, _ => rcases hc with rfl | rfl | rfl | rfl | rfl | rfl | rfl | rfl | rfl | rfl | rfl | rfl | rfl <;> exact AtMem.of_run EHok noSum_ok (n := 60) (by kernel_rfl)
  | 18, _, _ => rcases hc with rfl | rfl | rfl | rfl | rfl | rfl | rfl | rfl | rfl | rfl | rfl | rfl | rfl <;> exact AtMem.of_run EHok noSum_ok (n := 60) (by kernel_rfl)
  | 19, _, _ => rcases hc with rfl | rfl | rfl | rfl | rfl | rfl | rfl | rfl | rfl | rfl | rfl | rfl | rfl <;> exact AtMem.of_run EHok noSum_ok (n := 60) (by kernel_rfl)
  | n + 20, _, h2 => exact absurd h2 (by omega)
theorem has_at {S : ASt} {K c : Nat} (h1 : 1 ≤ K) (h2 : K ≤ 19) (hc : c ∈ letters) : Call1 Try.prog 120 [.int .i64 (.ofNat K), .int .u8 (.ofNat c)] S (.bool (hasL (names K) c), S) := Call1.pure (has_mem h1 h2 hc) (by simp [refsV]) fun a ha => by
  simp only [List.mem_cons, List.not_mem_nil, or_false] at ha
  rcases ha with rfl | rfl <;> simp [refsV]
open Classical in
noncomputable def mayC : CallT := fun f args st => match f, args with
  | 119, [.bool h, .int .i64 lo, .int .i64 x, .int .i64 hi] => some (.bool (inF h lo x hi), st)
  | 120, [.int .i64 (.ofNat K), .int .u8 (.ofNat c)] => if 1 ≤ K ∧ K ≤ 19 ∧ c ∈ letters then some (.bool (hasL (names K) c), st) else none
  | _, _ => none
theorem mayC_ok : CallsOK Try.prog mayC := by
  intro B w0 f args st r hr ι w args' hsr hv
  unfold mayC at hr
  split at hr
  · simp only [Option.some.injEq] at hr
    subst hr
    exact in_at _ _ _ _ B w0 ι w args' hsr hv
  · split at hr
    · rename_i h
      simp only [Option.some.injEq] at hr
      subst hr
      exact has_at h.1 h.2.1 h.2.2 B w0 ι w args' hsr hv
    · cases hr
  · cases hr
theorem mayC_has {S : ASt} {k : Int} {K c : Nat} (hk : k = .ofNat K) (h1 : 1 ≤ K) (h2 : K ≤ 19) (hc : c ∈ letters) : mayC 120 [.int .i64 k, .int .u8 (.ofNat c)] S = some (.bool (hasL (names K) c), S) := by
  subst hk
  show (if 1 ≤ K ∧ K ≤ 19 ∧ c ∈ letters then some (AV.bool (hasL (names K) c), S) else none) = _
  rw [if_pos ⟨h1, h2, hc⟩]
theorem smH_ok : CallsOK Try.prog (smH mayC) := onlyC_ok mayC_ok
def p4 (m : Mg) (s : List Nat) : Bool := bif inF (hasL s 110) (.ofNat 0) m.nd (.ofNat 1) then bif inF (hasL s 98) (.ofNat 1) m.bl (.ofNat 64) then bif inF (hasL s 114) (.ofNat 1) m.ro (.ofNat 2) then bif inF (hasL s 115) (.ofNat 1) m.sa (.ofNat 4) then inF (hasL s 107) (.ofNat 0) m.bk (.ofNat 63) else false else false else false else false
def zL (m : Mg) : Bool := eqF m.cu (.ofNat 0) && (eqF m.ba (.ofNat 0) && (eqF m.h0 (.ofNat 0) && eqF m.h1 (.ofNat 0)))
def p6 (m : Mg) (s : List Nat) : Bool := bif (bif hasL s 108 then false else !zL m) then false else bif (bif !eqF m.ba (.ofNat 0) then eqF m.ba m.cu else false) then false else bif (bif hasL s 99 then false else m.cr) then false else bif (bif hasL s 117 then false else !eqF m.nu (.ofNat 0)) then false else bif (bif hasL s 121 then false else m.ys) then false else true
def shI (m : Mg) (i : Nat) : Int := shrF m.se (bif Nat.ble i 64 then i else 64)
def bitK (m : Mg) (s : List Nat) (i : Nat) : Bool := bif eqF ((shI m i).tmod (.ofNat 2)) (.ofNat 1) then bif hasL s 116 then bif !ltF (.ofNat i) m.bl then false else true else false else true
def pT (m : Mg) (s : List Nat) (n : Nat) : Bool := (List.range n).all (bitK m s)
def nn (m : Mg) (s : List Nat) : Bool := bif hasL s 100 then bif eqF m.k (.ofNat 8) then bif m.ys then true else bif eqF m.k (.ofNat 15) then bif m.ys then false else true else false else bif eqF m.k (.ofNat 15) then bif m.ys then false else true else false else true
def p14 (l : List Nat) (m : Mg) (s : List Nat) : Bool := bif (bif nn m s then !zD m.d else false) then false else bif ltF (.ofNat 3000) (.ofNat (slen l m.tb)) then false else bif hasL s 97 then true else bif ltF (.ofNat 0) (.ofNat (slen l m.tb)) then false else true
def p16 (l : List Nat) (m : Mg) : Bool := bif eqF m.k (.ofNat 7) then bif eqF (.ofNat (slen l m.dg)) (.ofNat 0) then true else eqF (.ofNat (slen l m.dg)) (.ofNat 32) else bif eqF m.k (.ofNat 18) then eqF (.ofNat (slen l m.dg)) (.ofNat 32) else eqF (.ofNat (slen l m.dg)) (.ofNat 0)
def mayR (l : List Nat) (m : Mg) (s : List Nat) : Bool := bif ltF m.k (.ofNat 1) then false else bif ltF (.ofNat 19) m.k then false else p4 m s && (p6 m s && (pT m s 64 && (p14 l m s && p16 l m)))
section
variable {l : List Nat} {m : Mg} {S : ASt} {K : Nat}
theorem tQ_forms (h0 : l ≠ []) {x : Sl} (h : SlOk l x) : (tQ l x = nilS ∧ slen l x = 0) ∨ (tQ l x = .slice0 ∧ slen l x = 0) ∨ ∃ j c, tQ l x = .slice (some (0, j)) (slen l x) c := by
  cases x with
  | no => exact .inl ⟨rfl, rfl⟩
  | cut o b n =>
    have h : o ≤ l.length := h
    have es : slen l (.cut o b n) = bif toB l o b n then 0 else n := rfl
    have et : tQ l (.cut o b n) = mv 0 (cutQ l o b n) := rfl
    have ec : cutQ l o b n = bif toB l o b n then nilV else wQ l o n := rfl
    rw [es, et, mv0Q h, ec]
    cases hb : toB l o b n with
    | true => exact .inl ⟨rfl, rfl⟩
    | false =>
      simp only [cond_false]
      obtain ⟨_, hn⟩ := toB_inv hb
      rcases formsQ h with ⟨e1, _, e⟩ | ⟨_, _, e⟩
      · exact .inr (.inl ⟨e n, by omega⟩)
      · exact .inr (.inr ⟨o, _, e n⟩)
theorem lenU (h0 : l ≠ []) {x : Sl} (h : SlOk l x) : aBuiltinM EH .len [25] [tQ l x] S = some (.int .i64 (.ofNat (slen l x)), S) := by
  rcases tQ_forms h0 h with ⟨e, e2⟩ | ⟨e, e2⟩ | ⟨j, c, e⟩
  · rw [e, e2]; kernel_rfl
  · rw [e, e2]; kernel_rfl
  · rw [e]; kernel_rfl
theorem tU_refs (h0 : l ≠ []) {x : Sl} (h : SlOk l x) {k : Nat} (hk : 0 < k) : refsV k (tQ l x) := by
  rcases tQ_forms h0 h with ⟨e, e2⟩ | ⟨e, e2⟩ | ⟨j, c, e⟩ <;> rw [e] <;> simp [refsV, nilS, hk]
def QP (ok : Bool) (F : AFr) (S : ASt) (q : Exit × AFr × ASt) : Prop := (q.1 = .ret ∧ ok = false ∧ ans (leaveA EH Try.f77 q.2.1 q.2.2) = some (.bool false)) ∨ (ok = true ∧ Stops 1 .normal F S q)
def Q1P (ok : Bool) (F : AFr) (S : ASt) (q : Exit × AFr × ASt) : Prop := ok = true ∧ Stops 1 .normal F S q
def Q2P (ok : Bool) (q : Exit × Option AV) : Prop := ok = false ∧ q.2 = some (.bool false)
theorem finP {kf ko : List Nat} {ok : Bool} {F : AFr} : ∀ q : Exit × AFr × ASt, q.1 ≠ .ret → Q1P ok F S (canR kf ko q) → QP ok F S q := fun q _ h => .inr ⟨h.1, h.2.can⟩
theorem finP2 {ok : Bool} {F : AFr} : ∀ q : Exit × AFr × ASt, q.1 = .ret → Q2P ok (.ret, ans (leaveA EH Try.f77 q.2.1 q.2.2)) → QP ok F S q := fun q h1 h => .inl ⟨h1, h.1, h.2⟩
noncomputable def F1 (m : Mg) : AFr := fU [(1, .ptr (some (1, 0))), (3, .int .i64 m.k)]
noncomputable def FI (m : Mg) (i : Nat) : AFr := fU [(1, .ptr (some (1, 0))), (3, .int .i64 m.k), (4, .int .i64 (.ofNat i))]
noncomputable def FN (m : Mg) (b : Bool) : AFr := fU [(1, .ptr (some (1, 0))), (3, .int .i64 m.k), (5, .bool b)]
noncomputable def MU (l : List Nat) (m : Mg) : ASt := mU (R0 l) (.cells (mQ l m) true)
theorem hasc {n : Nat} {c : Nat} (hk : m.k = .ofNat K) (h1 : 1 ≤ K) (h2 : K ≤ 19) (hc : c ∈ letters) : (M EH (drawA EH) (smH mayC) (n + 1)).call 120 [.int .i64 m.k, .int .u8 (.ofNat c)] S = some (.bool (hasL (names K) c), S) := call_at (onlyC_at rfl (mayC_has hk h1 h2 hc))
theorem inc {n : Nat} {h : Bool} {lo x hi : Int} : (M EH (drawA EH) (smH mayC) (n + 1)).call 119 [.bool h, .int .i64 lo, .int .i64 x, .int .i64 hi] S = some (.bool (inF h lo x hi), S) := call_at (onlyC_at rfl rfl)
def obN (x : Option Bool) : Option AV := match x with | some r => some (.bool (!r)) | none => none
theorem neqL {x y : Operand} (a b c d a' b' c' d' : Int) : aBin EH .neq 79 x y (.agg [.int .u64 a, .int .u64 b, .int .u64 c, .int .u64 d]) (.agg [.int .u64 a', .int .u64 b', .int .u64 c', .int .u64 d']) = some (.bool (!(eqF a a' && (eqF b b' && (eqF c c' && eqF d d'))))) := by
  have h : aBin EH .neq 79 x y (.agg [.int .u64 a, .int .u64 b, .int .u64 c, .int .u64 d]) (.agg [.int .u64 a', .int .u64 b', .int .u64 c', .int .u64 d']) = obN (an2 (eqF a a') (an2 (eqF b b') (an3 (an2 (eqF c c') (an2 (eqF d d') (some true))) (some true)))) := by kernel_rfl
  rw [h, an2_some, an2_some, an3_some, an2_some, an2_some]
  simp only [Bool.and_true]
  rfl
theorem neqD {x y : Operand} (d e : Nat → Nat) : aBin EH .neq 39 x y (.agg (ddL d)) (.agg (ddL e)) = some (.bool (!decide (il d = il e))) := by
  have h : aBin EH .neq 39 x y (.agg (ddL d)) (.agg (ddL e)) = obN (eqLs (fun _ x y => aEq0 (.int .u8) x y) 5 256 (ddL d) (ddL e)) := by kernel_rfl
  rw [h, eqLs_D]; rfl
theorem neqZ {x y : Operand} (d : Nat → Nat) : aBin EH .neq 39 x y (.agg (ddL d)) (.agg zzL) = some (.bool (!zD d)) := by
  rw [zzL_dd]; exact neqD ..
theorem piece1 (hk : m.k = .ofNat K) (h1 : 1 ≤ K) (h2 : K ≤ 19) : Trip Try.prog 1 none (seqL (dropC 3 c77)) (F1 m) (MU l m) (QP (p6 m (names K)) (F1 m) (MU l m)) :=
  Trip.runM EHok smH_ok (Eq.mp (vcN1 mayC (R0 l) m.k m.nd m.bl m.ro m.sa m.cu m.ba m.h0 m.h1 m.cr m.se (tQ l m.tb) m.nu m.bk m.d (tQ l m.dg) m.ys (hasL (names K) 108) (!zL m) (hasL (names K) 99) (hasL (names K) 117) (hasL (names K) 121) (Q1P (p6 m (names K)) (F1 m) (MU l m)) (Q2P (p6 m (names K)))) ⟨hasc hk h1 h2 (by decide), ifB_mk (fun gl => ifB_mk (fun gb => ifB_mk (fun gq => ⟨by unfold p6; rw [gl, gb, gq]; rfl, rfl⟩) fun gq => ⟨hasc hk h1 h2 (by decide), ifB_mk (fun gc => ⟨hasc hk h1 h2 (by decide), ifB_mk (fun gu => ⟨hasc hk h1 h2 (by decide), ifB_mk (fun gy => ⟨by unfold p6; rw [gl, gb, gq, gc, gu, gy]; rfl, rfl, Wk.refl _ _ _⟩) fun gy => ifB_mk (fun ge => ⟨by unfold p6; rw [gl, gb, gq, gc, gu, gy, ge]; rfl, rfl⟩) fun ge => ⟨by unfold p6; rw [gl, gb, gq, gc, gu, gy, ge]; rfl, rfl, Wk.refl _ _ _⟩⟩) fun gu => ifB_mk (fun gn => ⟨by unfold p6; rw [gl, gb, gq, gc, gu, gn]; rfl, rfl⟩) fun gn => ⟨hasc hk h1 h2 (by decide), ifB_mk (fun gy => ⟨by unfold p6; rw [gl, gb, gq, gc, gu, gn, gy]; rfl, rfl, Wk.refl _ _ _⟩) fun gy => ifB_mk (fun ge => ⟨by unfold p6; rw [gl, gb, gq, gc, gu, gn, gy, ge]; rfl, rfl⟩) fun ge => ⟨by unfold p6; rw [gl, gb, gq, gc, gu, gn, gy, ge]; rfl, rfl, Wk.refl _ _ _⟩⟩⟩) fun gc => ifB_mk (fun gr => ⟨by unfold p6; rw [gl, gb, gq, gc, gr]; rfl, rfl⟩) fun gr => ⟨hasc hk h1 h2 (by decide), ifB_mk (fun gu => ⟨hasc hk h1 h2 (by decide), ifB_mk (fun gy => ⟨by unfold p6; rw [gl, gb, gq, gc, gr, gu, gy]; rfl, rfl, Wk.refl _ _ _⟩) fun gy => ifB_mk (fun ge => ⟨by unfold p6; rw [gl, gb, gq, gc, gr, gu, gy, ge]; rfl, rfl⟩) fun ge => ⟨by unfold p6; rw [gl, gb, gq, gc, gr, gu, gy, ge]; rfl, rfl, Wk.refl _ _ _⟩⟩) fun gu => ifB_mk (fun gn => ⟨by unfold p6; rw [gl, gb, gq, gc, gr, gu, gn]; rfl, rfl⟩) fun gn => ⟨hasc hk h1 h2 (by decide), ifB_mk (fun gy => ⟨by unfold p6; rw [gl, gb, gq, gc, gr, gu, gn, gy]; rfl, rfl, Wk.refl _ _ _⟩) fun gy => ifB_mk (fun ge => ⟨by unfold p6; rw [gl, gb, gq, gc, gr, gu, gn, gy, ge]; rfl, rfl⟩) fun ge => ⟨by unfold p6; rw [gl, gb, gq, gc, gr, gu, gn, gy, ge]; rfl, rfl, Wk.refl _ _ _⟩⟩⟩⟩) fun gb => ⟨hasc hk h1 h2 (by decide), ifB_mk (fun gc => ⟨hasc hk h1 h2 (by decide), ifB_mk (fun gu => ⟨hasc hk h1 h2 (by decide), ifB_mk (fun gy => ⟨by unfold p6; rw [gl, gb, gc, gu, gy]; rfl, rfl, Wk.refl _ _ _⟩) fun gy => ifB_mk (fun ge => ⟨by unfold p6; rw [gl, gb, gc, gu, gy, ge]; rfl, rfl⟩) fun ge => ⟨by unfold p6; rw [gl, gb, gc, gu, gy, ge]; rfl, rfl, Wk.refl _ _ _⟩⟩) fun gu => ifB_mk (fun gn => ⟨by unfold p6; rw [gl, gb, gc, gu, gn]; rfl, rfl⟩) fun gn => ⟨hasc hk h1 h2 (by decide), ifB_mk (fun gy => ⟨by unfold p6; rw [gl, gb, gc, gu, gn, gy]; rfl, rfl, Wk.refl _ _ _⟩) fun gy => ifB_mk (fun ge => ⟨by unfold p6; rw [gl, gb, gc, gu, gn, gy, ge]; rfl, rfl⟩) fun ge => ⟨by unfold p6; rw [gl, gb, gc, gu, gn, gy, ge]; rfl, rfl, Wk.refl _ _ _⟩⟩⟩) fun gc => ifB_mk (fun gr => ⟨by unfold p6; rw [gl, gb, gc, gr]; rfl, rfl⟩) fun gr => ⟨hasc hk h1 h2 (by decide), ifB_mk (fun gu => ⟨hasc hk h1 h2 (by decide), ifB_mk (fun gy => ⟨by unfold p6; rw [gl, gb, gc, gr, gu, gy]; rfl, rfl, Wk.refl _ _ _⟩) fun gy => ifB_mk (fun ge => ⟨by unfold p6; rw [gl, gb, gc, gr, gu, gy, ge]; rfl, rfl⟩) fun ge => ⟨by unfold p6; rw [gl, gb, gc, gr, gu, gy, ge]; rfl, rfl, Wk.refl _ _ _⟩⟩) fun gu => ifB_mk (fun gn => ⟨by unfold p6; rw [gl, gb, gc, gr, gu, gn]; rfl, rfl⟩) fun gn => ⟨hasc hk h1 h2 (by decide), ifB_mk (fun gy => ⟨by unfold p6; rw [gl, gb, gc, gr, gu, gn, gy]; rfl, rfl, Wk.refl _ _ _⟩) fun gy => ifB_mk (fun ge => ⟨by unfold p6; rw [gl, gb, gc, gr, gu, gn, gy, ge]; rfl, rfl⟩) fun ge => ⟨by unfold p6; rw [gl, gb, gc, gr, gu, gn, gy, ge]; rfl, rfl, Wk.refl _ _ _⟩⟩⟩⟩) fun gl => ⟨still_of (neqL ..), ifB_mk (fun gz => ⟨by unfold p6; rw [gl, gz]; rfl, rfl⟩) fun gz => ifB_mk (fun gb => ifB_mk (fun gq => ⟨by unfold p6; rw [gl, gz, gb, gq]; rfl, rfl⟩) fun gq => ⟨hasc hk h1 h2 (by decide), ifB_mk (fun gc => ⟨hasc hk h1 h2 (by decide), ifB_mk (fun gu => ⟨hasc hk h1 h2 (by decide), ifB_mk (fun gy => ⟨by unfold p6; rw [gl, gz, gb, gq, gc, gu, gy]; rfl, rfl, Wk.refl _ _ _⟩) fun gy => ifB_mk (fun ge => ⟨by unfold p6; rw [gl, gz, gb, gq, gc, gu, gy, ge]; rfl, rfl⟩) fun ge => ⟨by unfold p6; rw [gl, gz, gb, gq, gc, gu, gy, ge]; rfl, rfl, Wk.refl _ _ _⟩⟩) fun gu => ifB_mk (fun gn => ⟨by unfold p6; rw [gl, gz, gb, gq, gc, gu, gn]; rfl, rfl⟩) fun gn => ⟨hasc hk h1 h2 (by decide), ifB_mk (fun gy => ⟨by unfold p6; rw [gl, gz, gb, gq, gc, gu, gn, gy]; rfl, rfl, Wk.refl _ _ _⟩) fun gy => ifB_mk (fun ge => ⟨by unfold p6; rw [gl, gz, gb, gq, gc, gu, gn, gy, ge]; rfl, rfl⟩) fun ge => ⟨by unfold p6; rw [gl, gz, gb, gq, gc, gu, gn, gy, ge]; rfl, rfl, Wk.refl _ _ _⟩⟩⟩) fun gc => ifB_mk (fun gr => ⟨by unfold p6; rw [gl, gz, gb, gq, gc, gr]; rfl, rfl⟩) fun gr => ⟨hasc hk h1 h2 (by decide), ifB_mk (fun gu => ⟨hasc hk h1 h2 (by decide), ifB_mk (fun gy => ⟨by unfold p6; rw [gl, gz, gb, gq, gc, gr, gu, gy]; rfl, rfl, Wk.refl _ _ _⟩) fun gy => ifB_mk (fun ge => ⟨by unfold p6; rw [gl, gz, gb, gq, gc, gr, gu, gy, ge]; rfl, rfl⟩) fun ge => ⟨by unfold p6; rw [gl, gz, gb, gq, gc, gr, gu, gy, ge]; rfl, rfl, Wk.refl _ _ _⟩⟩) fun gu => ifB_mk (fun gn => ⟨by unfold p6; rw [gl, gz, gb, gq, gc, gr, gu, gn]; rfl, rfl⟩) fun gn => ⟨hasc hk h1 h2 (by decide), ifB_mk (fun gy => ⟨by unfold p6; rw [gl, gz, gb, gq, gc, gr, gu, gn, gy]; rfl, rfl, Wk.refl _ _ _⟩) fun gy => ifB_mk (fun ge => ⟨by unfold p6; rw [gl, gz, gb, gq, gc, gr, gu, gn, gy, ge]; rfl, rfl⟩) fun ge => ⟨by unfold p6; rw [gl, gz, gb, gq, gc, gr, gu, gn, gy, ge]; rfl, rfl, Wk.refl _ _ _⟩⟩⟩⟩) fun gb => ⟨hasc hk h1 h2 (by decide), ifB_mk (fun gc => ⟨hasc hk h1 h2 (by decide), ifB_mk (fun gu => ⟨hasc hk h1 h2 (by decide), ifB_mk (fun gy => ⟨by unfold p6; rw [gl, gz, gb, gc, gu, gy]; rfl, rfl, Wk.refl _ _ _⟩) fun gy => ifB_mk (fun ge => ⟨by unfold p6; rw [gl, gz, gb, gc, gu, gy, ge]; rfl, rfl⟩) fun ge => ⟨by unfold p6; rw [gl, gz, gb, gc, gu, gy, ge]; rfl, rfl, Wk.refl _ _ _⟩⟩) fun gu => ifB_mk (fun gn => ⟨by unfold p6; rw [gl, gz, gb, gc, gu, gn]; rfl, rfl⟩) fun gn => ⟨hasc hk h1 h2 (by decide), ifB_mk (fun gy => ⟨by unfold p6; rw [gl, gz, gb, gc, gu, gn, gy]; rfl, rfl, Wk.refl _ _ _⟩) fun gy => ifB_mk (fun ge => ⟨by unfold p6; rw [gl, gz, gb, gc, gu, gn, gy, ge]; rfl, rfl⟩) fun ge => ⟨by unfold p6; rw [gl, gz, gb, gc, gu, gn, gy, ge]; rfl, rfl, Wk.refl _ _ _⟩⟩⟩) fun gc => ifB_mk (fun gr => ⟨by unfold p6; rw [gl, gz, gb, gc, gr]; rfl, rfl⟩) fun gr => ⟨hasc hk h1 h2 (by decide), ifB_mk (fun gu => ⟨hasc hk h1 h2 (by decide), ifB_mk (fun gy => ⟨by unfold p6; rw [gl, gz, gb, gc, gr, gu, gy]; rfl, rfl, Wk.refl _ _ _⟩) fun gy => ifB_mk (fun ge => ⟨by unfold p6; rw [gl, gz, gb, gc, gr, gu, gy, ge]; rfl, rfl⟩) fun ge => ⟨by unfold p6; rw [gl, gz, gb, gc, gr, gu, gy, ge]; rfl, rfl, Wk.refl _ _ _⟩⟩) fun gu => ifB_mk (fun gn => ⟨by unfold p6; rw [gl, gz, gb, gc, gr, gu, gn]; rfl, rfl⟩) fun gn => ⟨hasc hk h1 h2 (by decide), ifB_mk (fun gy => ⟨by unfold p6; rw [gl, gz, gb, gc, gr, gu, gn, gy]; rfl, rfl, Wk.refl _ _ _⟩) fun gy => ifB_mk (fun ge => ⟨by unfold p6; rw [gl, gz, gb, gc, gr, gu, gn, gy, ge]; rfl, rfl⟩) fun ge => ⟨by unfold p6; rw [gl, gz, gb, gc, gr, gu, gn, gy, ge]; rfl, rfl, Wk.refl _ _ _⟩⟩⟩⟩⟩⟩) finP2 finP
theorem piece2 : Trip Try.prog 1 none (seqL A77) (F1 m) (MU l m) (QP true (FI m 0) (MU l m)) :=
  Trip.runM EHok smH_ok (Eq.mp (vcN2 mayC (R0 l) m.k m.nd m.bl m.ro m.sa m.cu m.ba m.h0 m.h1 m.cr m.se (tQ l m.tb) m.nu m.bk m.d (tQ l m.dg) m.ys (Q1P true (FI m 0) (MU l m)) (Q2P true)) ⟨rfl, rfl, Wk.refl _ _ _⟩) finP2 finP
theorem shU {x : Int} {n : Nat} : still S (aBin EH .shr 28 (.tmp 109) (.tmp 111) (.int .u64 x) (.int .u64 (.ofNat n))) = some (.int .u64 (shrF x (bif Nat.ble n 64 then n else 64)), S) := still_of (by kernel_rfl)
theorem rmU {x : Int} : still S (aBin EH .rem 28 (.tmp 112) (.const (.int .u64 2)) (.int .u64 x) (.int .u64 (.ofNat 2))) = some (.int .u64 (x.tmod (.ofNat 2)), S) := still_of (by kernel_rfl)
theorem cvU {i : Nat} (hi : i < 9223372036854775808) : aConvert EH 3 141 (.int .i64 (.ofNat i)) S = some (.int .u64 (.ofNat i), S) := by
  have e : aConvert EH 3 141 (.int .i64 (.ofNat i)) S = some (.int .u64 (wrapF .u64 (.ofNat i)), S) := by kernel_rfl
  rw [e, wrapF_eq]
  have : IntKind.u64.wrap (.ofNat i) = .ofNat i := by
    simp only [IntKind.wrap, IntKind.bits, IntKind.signed, Int.ofNat_eq_natCast]
    simp
    omega
  rw [this]
theorem addU {i : Nat} (hi : i < 64) : still S (aBin EH .add 3 (.tmp 106) (.const (.int .i64 1)) (.int .i64 (.ofNat i)) (.int .i64 (.ofNat 1))) = some (.int .i64 (.ofNat (i + 1)), S) := by
  refine still_of ?_
  have e : aBin EH .add 3 (.tmp 106) (.const (.int .i64 1)) (.int .i64 (.ofNat i)) (.int .i64 (.ofNat 1)) = some (.int .i64 (wrapF .i64 (.ofNat i + .ofNat 1))) := by kernel_rfl
  rw [e, wrap_succ (by omega)]
theorem round (hk : m.k = .ofNat K) (h1 : 1 ≤ K) (h2 : K ≤ 19) {i : Nat} (hi : i < 64) : Trip Try.prog 1 none L77 (FI m i) (MU l m) (QP (bitK m (names K) i) (FI m (i + 1)) (MU l m)) :=
  Trip.runM EHok smH_ok (Eq.mp (vcN3 mayC (R0 l) m.k m.nd m.bl m.ro m.sa m.cu m.ba m.h0 m.h1 m.cr m.se (tQ l m.tb) m.nu m.bk m.d (tQ l m.dg) m.ys i (shI m i) ((shI m i).tmod (.ofNat 2)) (hasL (names K) 116) (Q1P (bitK m (names K) i) (FI m (i + 1)) (MU l m)) (Q2P (bitK m (names K) i))) (ifB_mk (fun _ => ⟨cvU (by omega), shU, rmU, ifB_mk (fun g => ⟨hasc hk h1 h2 (by decide), ifB_mk (fun gt => ifB_mk (fun gb => ⟨by unfold bitK; rw [g, gt, gb]; rfl, rfl⟩) fun gb => ⟨addU hi, by unfold bitK; rw [g, gt, gb]; rfl, rfl, Wk.refl _ _ _⟩) fun gt => ⟨by unfold bitK; rw [g, gt]; rfl, rfl⟩⟩) fun g => ⟨addU hi, by unfold bitK; rw [g]; rfl, rfl, Wk.refl _ _ _⟩⟩) fun g => absurd (ltF_f g) (by simp only [Int.ofNat_eq_natCast]; omega))) finP2 finP
theorem roundE : Trip Try.prog 1 none L77 (FI m 64) (MU l m) (Stops 1 (.exit 0) (FI m 64) (MU l m)) :=
  Trip.runM EHok smH_ok (fn := Try.f77) (Eq.mp (vcN3 mayC (R0 l) m.k m.nd m.bl m.ro m.sa m.cu m.ba m.h0 m.h1 m.cr m.se (tQ l m.tb) m.nu m.bk m.d (tQ l m.dg) m.ys 64 (shI m 64) ((shI m 64).tmod (.ofNat 2)) false (Stops 1 (.exit 0) (FI m 64) (MU l m)) (fun _ => False)) (ifB_mk (fun g => absurd (ltF_t g) (by decide)) fun _ => ⟨rfl, Wk.refl _ _ _⟩)) (fun _ _ h => h.elim) fun q _ h => h.can
theorem loopU (hk : m.k = .ofNat K) (h1 : 1 ≤ K) (h2 : K ≤ 19) : Trip Try.prog 1 none (.block 0 (.loop L77)) (FI m 0) (MU l m) (QP (pT m (names K) 64) (FI m 64) (MU l m)) := by
  have all1 : ∀ i, pT m (names K) (i + 1) = (pT m (names K) i && bitK m (names K) i) := fun i => by unfold pT; rw [List.range_succ, List.all_append]; simp
  have allF : ∀ n i, pT m (names K) i = false → pT m (names K) (i + n) = false := fun n => by
    induction n with
    | zero => exact fun i h => h
    | succ n ih => exact fun i h => by rw [← Nat.add_assoc, all1, ih i h]; rfl
  refine Trip.block (Trip.loop (fun μ fr st => ∃ i, i ≤ 64 ∧ μ = 64 - i ∧ pT m (names K) i = true ∧ fr = FI m i ∧ st = MU l m) ?_ 64 ⟨0, Nat.zero_le _, rfl, rfl, rfl, rfl⟩)
  rintro μ fr st ⟨i, hi, rfl, hw, rfl, rfl⟩
  by_cases e : i < 64
  · refine (round hk h1 h2 e).mono ?_
    rintro ⟨x, fr', st'⟩ (⟨h1, h2, h3⟩ | ⟨h1, h2, h3⟩)
    · simp only at h1
      subst h1
      refine .inl ⟨rfl, ?_, h3⟩
      have := allF (64 - (i + 1)) (i + 1) (by rw [all1, hw, h2]; rfl)
      rwa [show i + 1 + (64 - (i + 1)) = 64 by omega] at this
    · simp only at h2
      subst h2
      exact ⟨64 - (i + 1), _, _, by omega, h3, i + 1, by omega, rfl, by rw [all1, hw, h1]; rfl, rfl, rfl⟩
  · have ei : i = 64 := by omega
    subst ei
    refine roundE.mono ?_
    rintro ⟨x, fr', st'⟩ ⟨h1, h2⟩
    simp only at h1
    subst h1
    exact ⟨fun _ => .inr ⟨hw, rfl, h2⟩, fun h => absurd rfl h⟩
theorem piece4 (hk : m.k = .ofNat K) (h1 : 1 ≤ K) (h2 : K ≤ 19) : Trip Try.prog 1 none (seqL (dropC 5 c77)) (F1 m) (MU l m) (QP true (FN m (nn m (names K))) (MU l m)) :=
  Trip.runM EHok smH_ok (Eq.mp (vcN4 mayC (R0 l) m.k m.nd m.bl m.ro m.sa m.cu m.ba m.h0 m.h1 m.cr m.se (tQ l m.tb) m.nu m.bk m.d (tQ l m.dg) m.ys (hasL (names K) 100) (Q1P true (FN m (nn m (names K))) (MU l m)) (Q2P true)) ⟨hasc hk h1 h2 (by decide), ifB_mk (fun gd => ifB_mk (fun g8 => ifB_mk (fun gy => ⟨rfl, rfl, by rw [show nn m (names K) = true by unfold nn; rw [gd, g8, gy]; rfl]; exact Wk.refl _ _ _⟩) fun gy => ifB_mk (fun g15 => ifB_mk (fun gy2 => absurd (gy.symm.trans gy2) (by decide)) fun gy2 => ⟨rfl, rfl, by rw [show nn m (names K) = true by unfold nn; rw [gd, g8, gy, g15]; rfl]; exact Wk.refl _ _ _⟩) fun g15 => ⟨rfl, rfl, by rw [show nn m (names K) = false by unfold nn; rw [gd, g8, gy, g15]; rfl]; exact Wk.refl _ _ _⟩) fun g8 => ifB_mk (fun g15 => ifB_mk (fun gy => ⟨rfl, rfl, by rw [show nn m (names K) = false by unfold nn; rw [gd, g8, g15, gy]; rfl]; exact Wk.refl _ _ _⟩) fun gy => ⟨rfl, rfl, by rw [show nn m (names K) = true by unfold nn; rw [gd, g8, g15, gy]; rfl]; exact Wk.refl _ _ _⟩) fun g15 => ⟨rfl, rfl, by rw [show nn m (names K) = false by unfold nn; rw [gd, g8, g15]; rfl]; exact Wk.refl _ _ _⟩) fun gd => ⟨rfl, rfl, by rw [show nn m (names K) = true by unfold nn; rw [gd]; rfl]; exact Wk.refl _ _ _⟩⟩) finP2 finP
theorem piece5 (h0 : l ≠ []) (hm : MgOk l m) (hk : m.k = .ofNat K) (h1 : 1 ≤ K) (h2 : K ≤ 19) : Trip Try.prog 1 none (seqL (dropC 6 c77)) (FN m (nn m (names K))) (MU l m) (QP (p14 l m (names K)) (F1 m) (MU l m)) :=
  Trip.runM EHok smH_ok (Eq.mp (vcN5 mayC (R0 l) m.k m.nd m.bl m.ro m.sa m.cu m.ba m.h0 m.h1 m.cr m.se (tQ l m.tb) m.nu m.bk m.d (tQ l m.dg) m.ys (nn m (names K)) (!zD m.d) (hasL (names K) 97) (slen l m.tb) (Q1P (p14 l m (names K)) (F1 m) (MU l m)) (Q2P (p14 l m (names K)))) (ifB_mk (fun gn => ⟨still_of (neqZ ..), ifB_mk (fun gz => ⟨by unfold p14; rw [gn, gz]; rfl, rfl⟩) fun gz => ⟨lenU h0 hm.1, ifB_mk (fun g3 => ⟨by unfold p14; rw [gn, gz, g3]; rfl, rfl⟩) fun g3 => ⟨hasc hk h1 h2 (by decide), ifB_mk (fun ga => ⟨by unfold p14; rw [gn, gz, g3, ga]; rfl, rfl, Wk.refl _ _ _⟩) fun ga => ⟨lenU h0 hm.1, ifB_mk (fun gl => ⟨by unfold p14; rw [gn, gz, g3, ga, gl]; rfl, rfl⟩) fun gl => ⟨by unfold p14; rw [gn, gz, g3, ga, gl]; rfl, rfl, Wk.refl _ _ _⟩⟩⟩⟩⟩) fun gn => ⟨lenU h0 hm.1, ifB_mk (fun g3 => ⟨by unfold p14; rw [gn, g3]; rfl, rfl⟩) fun g3 => ⟨hasc hk h1 h2 (by decide), ifB_mk (fun ga => ⟨by unfold p14; rw [gn, g3, ga]; rfl, rfl, Wk.refl _ _ _⟩) fun ga => ⟨lenU h0 hm.1, ifB_mk (fun gl => ⟨by unfold p14; rw [gn, g3, ga, gl]; rfl, rfl⟩) fun gl => ⟨by unfold p14; rw [gn, g3, ga, gl]; rfl, rfl, Wk.refl _ _ _⟩⟩⟩⟩)) finP2 finP
theorem piece6 (h0 : l ≠ []) (hm : MgOk l m) : Trip Try.prog 1 none (dropC 7 c77) (F1 m) (MU l m) (fun q => (q.1 = .normal ∨ q.1 = .ret) ∧ ans (leaveA EH Try.f77 q.2.1 q.2.2) = some (.bool (p16 l m))) :=
  (Trip.runY EHok smH_ok (Eq.mp (vcN6 mayC (R0 l) m.k m.nd m.bl m.ro m.sa m.cu m.ba m.h0 m.h1 m.cr m.se (tQ l m.tb) m.nu m.bk m.d (tQ l m.dg) m.ys (slen l m.dg) (fun q => q.1 = .ret ∧ q.2 = some (.bool (p16 l m)))) (ifB_mk (fun g7 => ⟨lenU h0 hm.2, ifB_mk (fun gz => ⟨rfl, by show some (AV.bool _) = some (AV.bool (p16 l m)); unfold p16; rw [g7, gz]; rfl⟩) fun gz => ⟨lenU h0 hm.2, ⟨rfl, by show some (AV.bool _) = some (AV.bool (p16 l m)); unfold p16; rw [g7, gz]; rfl⟩⟩⟩) fun g7 => ifB_mk (fun g18 => ⟨lenU h0 hm.2, ⟨rfl, by show some (AV.bool _) = some (AV.bool (p16 l m)); unfold p16; rw [g7, g18]; rfl⟩⟩) fun g18 => ⟨lenU h0 hm.2, ⟨rfl, by show some (AV.bool _) = some (AV.bool (p16 l m)); unfold p16; rw [g7, g18]; rfl⟩⟩))).mono fun q hq => ⟨.inr hq.1, hq.2⟩
def QZ (ok : Bool) (q : Exit × AFr × ASt) : Prop := (q.1 = .normal ∨ q.1 = .ret) ∧ ans (leaveA EH Try.f77 q.2.1 q.2.2) = some (.bool ok)
theorem QP_fail {ok : Bool} {F : AFr} {e : Exit} {fr : AFr} {st : ASt} (hne : e ≠ .normal) (hq : QP ok F S (e, fr, st)) : ok = false ∧ QZ false (e, fr, st) := by
  rcases hq with ⟨h1, h2, h3⟩ | ⟨_, h2, _⟩
  · exact ⟨h2, .inr h1, h3⟩
  · exact absurd h2 hne
theorem QP_norm {ok : Bool} {F fr : AFr} {st : ASt} (hq : QP ok F S (.normal, fr, st)) : ok = true ∧ Wk 1 fr st F S := by
  rcases hq with ⟨h1, _⟩ | ⟨h1, _, h3⟩
  · cases h1
  · exact ⟨h1, h3⟩
theorem Trip.part {ok r : Bool} {x y : Code} {fr F : AFr} {st : ASt} (h : Trip Try.prog 1 none x fr st (QP ok F S)) (hn : Trip Try.prog 1 none y F S (QZ r)) : Trip Try.prog 1 none (.seq x y) fr st (QZ (ok && r)) :=
  Trip.seq h (fun fr' st' hq => by
    obtain ⟨h1, h2⟩ := QP_norm hq
    rw [h1, Bool.true_and]
    exact Trip.less h2 hn) fun e fr' st' hne hq => by
    obtain ⟨h1, h2⟩ := QP_fail hne hq
    rw [h1, Bool.false_and]
    exact h2
theorem Trip.pair {ok : Bool} {x y : Code} {fr F F2 : AFr} {st : ASt} (h : Trip Try.prog 1 none x fr st (QP true F S)) (hn : Trip Try.prog 1 none y F S (QP ok F2 S)) : Trip Try.prog 1 none (.seq x y) fr st (QP ok F2 S) :=
  Trip.seq h (fun fr' st' hq => Trip.less (QP_norm hq).2 hn) fun e fr' st' hne hq => by
    obtain ⟨h1, h2⟩ := QP_fail hne hq
    cases h1
theorem shape77 : dropC 3 c77 = .seq (seqL (dropC 3 c77)) (.seq (.seq (seqL A77) (.block 0 (.loop L77))) (.seq (seqL (dropC 5 c77)) (.seq (seqL (dropC 6 c77)) (dropC 7 c77)))) := by kernel_rfl
theorem dropI {i : Nat} (h0 : l ≠ []) (hm : MgOk l m) : Wk 1 (FI m i) (MU l m) (F1 m) (MU l m) :=
  Wk.heldX (kb := 1) (List.range 40) (by kernel_rfl) (by kernel_rfl) [1, 3] (by kernel_rfl)
    (.cons 0 (R0 l) rfl (by kernel_rfl) (.row (refU l)) <| .cons 1 (.cells (mQ l m) true) rfl (by kernel_rfl) (.keep (kb := 40) rfl (msg_refs (tU_refs h0 hm.1 (k := 40) (by decide)) (tU_refs h0 hm.2 (k := 40) (by decide)))) .nil)
theorem QP_less {ok : Bool} {F F2 : AFr} {q : Exit × AFr × ASt} (h : QP ok F S q) (w : Wk 1 F S F2 S) : QP ok F2 S q := by
  rcases h with h | ⟨h1, h2, h3⟩
  · exact .inl h
  · exact .inr ⟨h1, h2, h3.trans w⟩
theorem mayTripU (h0 : l ≠ []) (hm : MgOk l m) (hk : m.k = .ofNat K) : Trip Try.prog 1 none c77 (fU [(0, .agg (mQ l m))]) (mkSt [(0, R0 l)] 1) (QZ (mayR l m (names K))) := by
  refine Trip.preM EHok smH_ok (k := 3) (fn := Try.f77) (Q1 := fun q => (ltF m.k (.ofNat 1) = false ∧ ltF (.ofNat 19) m.k = false ∧ p4 m (names K) = true) ∧ q = (.normal, F1 m, MU l m)) (Q2 := fun q => mayR l m (names K) = false ∧ q.2 = some (.bool false)) (by kernel_rfl)
    (Eq.mp (vcN0 mayC (R0 l) m.k m.nd m.bl m.ro m.sa m.cu m.ba m.h0 m.h1 m.cr m.se (tQ l m.tb) m.nu m.bk m.d (tQ l m.dg) m.ys (hasL (names K) 110) (inF (hasL (names K) 98) (.ofNat 1) m.bl (.ofNat 64)) (hasL (names K) 98) (inF (hasL (names K) 114) (.ofNat 1) m.ro (.ofNat 2)) (hasL (names K) 114) (inF (hasL (names K) 115) (.ofNat 1) m.sa (.ofNat 4)) (hasL (names K) 115) (inF (hasL (names K) 107) (.ofNat 0) m.bk (.ofNat 63)) (hasL (names K) 107) (inF (hasL (names K) 110) (.ofNat 0) m.nd (.ofNat 1)) _ _) (ifB_mk (fun g => ⟨by unfold mayR; rw [g]; rfl, rfl⟩) fun g => ifB_mk (fun g2 => ⟨by unfold mayR; rw [g, g2]; rfl, rfl⟩) fun g2 => ?_)) (fun F S e => ?_) (fun r hr h2 => ⟨.inr hr, by rw [h2.1]; exact h2.2⟩) (fun r h1 h2 h3 => absurd (congrArg Prod.fst h3.2) h1)
  · have h1 : 1 ≤ K := by have := ltF_f g; rw [hk] at this; simp only [Int.ofNat_eq_natCast] at this; omega
    have h2 : K ≤ 19 := by have := ltF_f g2; rw [hk] at this; simp only [Int.ofNat_eq_natCast] at this; omega
    have hf : p4 m (names K) = false → mayR l m (names K) = false := fun h => by unfold mayR; rw [g, g2, h]; rfl
    have hA : ∀ k : Int, (some (AV.int .i64 k) : Option AV) = some (.int .i64 k) ∧ avEq (.int .i64 k) (.int .i64 k) = true := fun k => ⟨rfl, hAvI⟩
    have hU : (some (AV.tuple []) : Option AV) = some (.tuple []) ∧ avEq (.tuple []) (.tuple []) = true := ⟨rfl, rfl⟩
    exact ⟨hasc hk h1 h2 (by decide), inc, ifB_mk (fun g10 => ⟨hasc hk h1 h2 (by decide), inc, ifB_mk (fun g11 => ⟨hasc hk h1 h2 (by decide), inc, ifB_mk (fun g12 => ⟨hasc hk h1 h2 (by decide), inc, ifB_mk (fun g13 => ⟨hasc hk h1 h2 (by decide), inc, ifB_mk (fun g14 => ⟨⟨hA m.nd, hA m.bl, hA m.ro, hA m.sa, hA m.bk, trivial⟩, ⟨g, g2, by unfold p4; rw [g10, g11, g12, g13, g14]; rfl⟩, rfl⟩) fun g14 => ⟨⟨hA m.nd, hA m.bl, hA m.ro, hA m.sa, hA m.bk, trivial⟩, hf (by unfold p4; rw [g10, g11, g12, g13, g14]; rfl), rfl⟩⟩) fun g13 => ⟨⟨hA m.nd, hA m.bl, hA m.ro, hA m.sa, hU, trivial⟩, hf (by unfold p4; rw [g10, g11, g12, g13]; rfl), rfl⟩⟩) fun g12 => ⟨⟨hA m.nd, hA m.bl, hA m.ro, hU, hU, trivial⟩, hf (by unfold p4; rw [g10, g11, g12]; rfl), rfl⟩⟩) fun g11 => ⟨⟨hA m.nd, hA m.bl, hU, hU, hU, trivial⟩, hf (by unfold p4; rw [g10, g11]; rfl), rfl⟩⟩) fun g10 => ⟨⟨hA m.nd, hU, hU, hU, hU, trivial⟩, hf (by unfold p4; rw [g10]; rfl), rfl⟩⟩
  · obtain ⟨⟨g1, g2, g4⟩, e⟩ := e
    cases e
    have h1 : 1 ≤ K := by have := ltF_f g1; rw [hk] at this; simp only [Int.ofNat_eq_natCast] at this; omega
    have h2 : K ≤ 19 := by have := ltF_f g2; rw [hk] at this; simp only [Int.ofNat_eq_natCast] at this; omega
    have e : mayR l m (names K) = (p6 m (names K) && (pT m (names K) 64 && (true && (p14 l m (names K) && p16 l m)))) := by unfold mayR; rw [g1, g2, g4]; simp
    rw [shape77, e]
    exact Trip.part (piece1 hk h1 h2) (Trip.part (Trip.pair piece2 ((loopU hk h1 h2).mono fun q hq => QP_less hq (dropI h0 hm))) (Trip.part (piece4 hk h1 h2) (Trip.part (piece5 h0 hm hk h1 h2) (piece6 h0 hm))))
theorem mQ_r1 (h0 : l ≠ []) (h : MgOk l m) : refsV 1 (.agg (mQ l m)) := by
  have := msg_refs (tU_refs h0 h.1 (k := 1) (by decide)) (tU_refs h0 h.2 (k := 1) (by decide)) (k := m.k) (nd := m.nd) (bl := m.bl) (ro := m.ro) (sa := m.sa) (cu := m.cu) (ba := m.ba) (h0 := m.h0) (h1 := m.h1) (cr := m.cr) (se := m.se) (nu := m.nu) (bk := m.bk) (d := m.d) (ys := m.ys)
  simpa [refsV, mQ] using this
theorem mayU_mem (h0 : l ≠ []) (hm : MgOk l m) (hk : m.k = .ofNat K) : AtMem Try.prog 77 [.agg (mQ l m)] (mkSt [(0, R0 l)] 1) (.bool (mayR l m (names K))) := by
  refine AtMem.of_trip EHok (fn := Try.f77) (by kernel_rfl) (c := c77) (by kernel_rfl) (by kernel_rfl) ?_
  have e3 : canF [0] ({ m := putArgs [.agg (mQ l m)] 0 .e, n := Try.f77.ntmps, defs := [] } : AFr) = fU [(0, .agg (mQ l m))] := by kernel_rfl
  have e4 : canS [0] (mkSt [(0, R0 l)] 1) = mkSt [(0, R0 l)] 1 := by kernel_rfl
  have w := Wk.can 1 [0] [0] ({ m := putArgs [.agg (mQ l m)] 0 .e, n := Try.f77.ntmps, defs := [] } : AFr) (mkSt [(0, R0 l)] 1)
  rw [e3, e4] at w
  exact Trip.less w (mayTripU h0 hm hk)
theorem mayU_at (h0 : l ≠ []) (hm : MgOk l m) (hk : m.k = .ofNat K) {rw : Bool} (hS : S.h.get 0 = some (.cells (l.map cellU) rw)) : Call1 Try.prog 77 [.agg (mQ l m)] S (.bool (mayR l m (names K)), S) :=
  Call1.row0 h0 (mayU_mem h0 hm hk) (by simp [refsV]) (fun a ha => by
    simp only [List.mem_cons, List.not_mem_nil, or_false] at ha
    subst ha
    exact mQ_r1 h0 hm) hS
end
end Go.Proofs.Ytlnohbilfogheaa.mrd
end

section
open Go Go.Ax Go.Proofs.Ytlnohbilfogheaa Go.Proofs.Ytlnohbilfogheaa.rdr Go.Proofs.Ytlnohbilfogheaa.rrq
namespace Go.Proofs.Ytlnohbilfogheaa.mrd
set_option linter.unusedVariables false
section
variable {l : List Nat} {m : Mg} {s : List Nat} {K o : Nat} {bad : Bool} {k : Int}
theorem sameM_self : sameM l m m = true := by
  have hb : ∀ b : Bool, boolEq b b = true := fun b => by cases b <;> rfl
  unfold sameM lineM
  simp only [eqF_self, hb, decide_true, Bool.and_self]
theorem kept (K : Nat) : keepAll (runL l (names K) ⟨o, bad, z0 k⟩).m (names K) (z0 (runL l (names K) ⟨o, bad, z0 k⟩).m.k) = (runL l (names K) ⟨o, bad, z0 k⟩).m := by
  match K with
  | 0 => rfl
  | 1 => rfl
  | 2 => rfl
  | 3 => rfl
  | 4 => rfl
  | 5 => rfl
  | 6 => rfl
  | 7 => rfl
  | 8 => rfl
  | 9 => rfl
  | 10 => rfl
  | 11 => rfl
  | 12 => rfl
  | 13 => rfl
  | 14 => rfl
  | 15 => rfl
  | 16 => rfl
  | 17 => rfl
  | 18 => rfl
  | 19 => rfl
  | n + 20 => rfl
theorem keptK (K : Nat) : (runL l (names K) ⟨o, bad, z0 k⟩).m.k = k := by
  match K with
  | 0 => rfl
  | 1 => rfl
  | 2 => rfl
  | 3 => rfl
  | 4 => rfl
  | 5 => rfl
  | 6 => rfl
  | 7 => rfl
  | 8 => rfl
  | 9 => rfl
  | 10 => rfl
  | 11 => rfl
  | 12 => rfl
  | 13 => rfl
  | 14 => rfl
  | 15 => rfl
  | 16 => rfl
  | 17 => rfl
  | 18 => rfl
  | 19 => rfl
  | n + 20 => rfl
theorem keptS (hB : ∀ x, x ∈ l → x < 256) (K : Nat) : ∃ n, n < 2 ^ 64 ∧ (runL l (names K) ⟨o, bad, z0 k⟩).m.se = .ofNat n := by
  match K with
  | 0 => exact ⟨0, by decide, by kernel_rfl⟩
  | 1 => exact ⟨_, numV_lt (k := 8) hB (by decide), rfl⟩
  | 2 => exact ⟨0, by decide, by kernel_rfl⟩
  | 3 => exact ⟨0, by decide, by kernel_rfl⟩
  | 4 => exact ⟨0, by decide, by kernel_rfl⟩
  | 5 => exact ⟨0, by decide, by kernel_rfl⟩
  | 6 => exact ⟨0, by decide, by kernel_rfl⟩
  | 7 => exact ⟨0, by decide, by kernel_rfl⟩
  | 8 => exact ⟨0, by decide, by kernel_rfl⟩
  | 9 => exact ⟨0, by decide, by kernel_rfl⟩
  | 10 => exact ⟨0, by decide, by kernel_rfl⟩
  | 11 => exact ⟨0, by decide, by kernel_rfl⟩
  | 12 => exact ⟨0, by decide, by kernel_rfl⟩
  | 13 => exact ⟨0, by decide, by kernel_rfl⟩
  | 14 => exact ⟨0, by decide, by kernel_rfl⟩
  | 15 => exact ⟨0, by decide, by kernel_rfl⟩
  | 16 => exact ⟨0, by decide, by kernel_rfl⟩
  | 17 => exact ⟨0, by decide, by kernel_rfl⟩
  | 18 => exact ⟨0, by decide, by kernel_rfl⟩
  | 19 => exact ⟨0, by decide, by kernel_rfl⟩
  | n + 20 => exact ⟨0, by decide, by kernel_rfl⟩
theorem inF_t {lo x hi : Int} : inF true lo x hi = in3 lo x hi := by
  unfold inF in3
  cases ltF x lo <;> rfl
theorem inF_f {lo x hi : Int} (h : x = .ofNat 0) : inF false lo x hi = true := by subst h; rfl
theorem p4_eq : p4 m s = (inF (hasL s 110) (.ofNat 0) m.nd (.ofNat 1) && (inF (hasL s 98) (.ofNat 1) m.bl (.ofNat 64) && (inF (hasL s 114) (.ofNat 1) m.ro (.ofNat 2) && (inF (hasL s 115) (.ofNat 1) m.sa (.ofNat 4) && inF (hasL s 107) (.ofNat 0) m.bk (.ofNat 63))))) := by
  unfold p4
  generalize inF (hasL s 110) (.ofNat 0) m.nd (.ofNat 1) = a
  generalize inF (hasL s 98) (.ofNat 1) m.bl (.ofNat 64) = b
  generalize inF (hasL s 114) (.ofNat 1) m.ro (.ofNat 2) = c
  generalize inF (hasL s 115) (.ofNat 1) m.sa (.ofNat 4) = d
  cases a <;> cases b <;> cases c <;> cases d <;> rfl
theorem orF {a b : Bool} (h : a = true ∨ b = false) : (bif a then false else b) = false := by
  rcases h with h | h <;> subst h
  · rfl
  · cases a <;> rfl
theorem p6_eq (h1 : hasL s 108 = true ∨ (!zL m) = false) (h2 : hasL s 99 = true ∨ m.cr = false) (h3 : hasL s 117 = true ∨ (!eqF m.nu (.ofNat 0)) = false) (h4 : hasL s 121 = true ∨ m.ys = false) : p6 m s = (eqF m.ba (.ofNat 0) || !eqF m.ba m.cu) := by
  unfold p6
  rw [orF h1, orF h2, orF h3, orF h4]
  generalize eqF m.ba (.ofNat 0) = a
  generalize eqF m.ba m.cu = b
  cases a <;> cases b <;> rfl
theorem p14_eq (h1 : hasL s 100 = true ∨ zD m.d = true) (h2 : hasL s 97 = true ∨ slen l m.tb = 0) : p14 l m s = ((!noneD m || zD m.d) && !ltF (.ofNat 3000) (.ofNat (slen l m.tb))) := by
  have e1 : (bif nn m s then !zD m.d else false) = !(!noneD m || zD m.d) := by
    rcases h1 with h | h
    · unfold nn noneD
      rw [h]
      generalize eqF m.k (.ofNat 8) = a
      generalize eqF m.k (.ofNat 15) = b
      generalize m.ys = c
      generalize zD m.d = d
      cases a <;> cases b <;> cases c <;> cases d <;> rfl
    · rw [h]
      cases nn m s <;> cases noneD m <;> rfl
  unfold p14
  rw [e1]
  generalize (!noneD m || zD m.d) = a
  rcases h2 with h | h
  · rw [h]
    generalize ltF (.ofNat 3000) (.ofNat (slen l m.tb)) = b
    cases a <;> cases b <;> rfl
  · rw [h]
    cases a <;> cases hasL s 97 <;> rfl
theorem pT_zero (h : m.se = .ofNat 0) : pT m s 64 = true := by
  unfold pT
  rw [List.all_eq_true]
  intro i _
  unfold bitK shI
  rw [h]
  show cond (eqF ((Int.ofNat (0 / 2 ^ _)).tmod (.ofNat 2)) (.ofNat 1)) _ _ = true
  rw [Nat.zero_div]
  rfl
theorem bit_eq {n b i : Nat} (hse : m.se = .ofNat n) (hb : m.bl = .ofNat b) (hs : hasL s 116 = true) (hi : i < 64) : bitK m s i = decide (n / 2 ^ i % 2 = 1 → i < b) := by
  unfold bitK shI
  rw [hse, hb, hs, show Nat.ble i 64 = true by rw [Nat.ble_eq]; omega]
  simp only [cond_true]
  have e : eqF ((shrF (.ofNat n) i).tmod (.ofNat 2)) (.ofNat 1) = decide (n / 2 ^ i % 2 = 1) := by
    show eqF (Int.ofNat (n / 2 ^ i % 2)) (.ofNat 1) = _
    rw [eqF_eq]
    by_cases h : n / 2 ^ i % 2 = 1
    · rw [h]; rfl
    · rw [decide_eq_false h]
      exact decide_eq_false fun hh => h (Int.ofNat.inj hh)
  rw [e, ltF_nn]
  by_cases h : n / 2 ^ i % 2 = 1
  · by_cases h2 : i < b
    · simp [h, h2]
    · simp [h, h2]
  · simp [h]
theorem pT_eq {n : Nat} (hse : m.se = .ofNat n) (hn : n < 2 ^ 64) (hs : hasL s 116 = true) (hb : in3 (.ofNat 1) m.bl (.ofNat 64) = true) : pT m s 64 = (!ltF m.bl (.ofNat 64) || eqF (shv m) (.ofNat 0)) := by
  obtain ⟨b, hb1, h1, h2⟩ : ∃ b : Nat, m.bl = .ofNat b ∧ 1 ≤ b ∧ b ≤ 64 := by
    unfold in3 at hb
    rw [Bool.and_eq_true, Bool.not_eq_true', Bool.not_eq_true'] at hb
    have g1 := ltF_f hb.1
    have g2 := ltF_f hb.2
    refine ⟨m.bl.toNat, ?_, ?_, ?_⟩ <;> simp only [Int.ofNat_eq_natCast] at g1 g2 ⊢ <;> omega
  have e2 : shv m = .ofNat (n / 2 ^ b) := by
    unfold shv
    rw [hb1, hse]
    show shrF (.ofNat n) (bif Nat.ble b 64 then b else 64) = _
    rw [show Nat.ble b 64 = true by rw [Nat.ble_eq]; exact h2]
    rfl
  rw [e2, hb1, ltF_nn, Bool.eq_iff_iff]
  have e3 : eqF (.ofNat (n / 2 ^ b)) (.ofNat 0) = decide (n / 2 ^ b = 0) := by
    rw [eqF_eq]
    by_cases h : n / 2 ^ b = 0
    · rw [h]; rfl
    · rw [decide_eq_false h]
      exact decide_eq_false fun hh => h (Int.ofNat.inj hh)
  rw [e3]
  unfold pT
  rw [List.all_eq_true]
  simp only [List.mem_range, Bool.or_eq_true, Bool.not_eq_true', decide_eq_false_iff_not, decide_eq_true_eq]
  constructor
  · intro h
    by_cases hb64 : b < 64
    · refine .inr ?_
      by_cases hz : n / 2 ^ b = 0
      · exact hz
      · obtain ⟨i, hi⟩ := Nat.exists_testBit_of_ne_zero hz
        have hi2 : n.testBit (b + i) = true := by
          have : (n / 2 ^ b).testBit i = n.testBit (b + i) := by rw [Nat.testBit_div_two_pow, Nat.add_comm]
          rw [← this]; exact hi
        have hlt : b + i < 64 := by
          have g := Nat.ge_two_pow_of_testBit hi2
          exact (Nat.pow_lt_pow_iff_right (by decide)).1 (Nat.lt_of_le_of_lt g hn)
        have hk := h (b + i) hlt
        rw [bit_eq hse hb1 hs hlt, decide_eq_true_eq] at hk
        rw [Nat.testBit_eq_decide_div_mod_eq, decide_eq_true_eq] at hi2
        exact absurd (hk hi2) (by omega)
    · exact .inl hb64
  · intro h i hi
    rw [bit_eq hse hb1 hs hi, decide_eq_true_eq]
    intro hbit
    rcases h with h | h
    · omega
    · have hlt : n < 2 ^ b := by
        rcases Nat.div_eq_zero_iff.1 h with h | h
        · exact absurd h (Nat.ne_of_gt (Nat.two_pow_pos b))
        · exact h
      have g : n.testBit i = true := by rw [Nat.testBit_eq_decide_div_mod_eq, decide_eq_true_eq]; exact hbit
      exact (Nat.pow_lt_pow_iff_right (by decide)).1 (Nat.lt_of_le_of_lt (Nat.ge_two_pow_of_testBit g) hlt)
theorem mayR_1 (hk : m.k = .ofNat 1) (hkp : keepAll m (names 1) (z0 m.k) = m) {n : Nat} (hse : m.se = .ofNat n) (hn : n < 2 ^ 64) : mayR l m (names 1) = withinAll l m (names 1) := by
    unfold mayR
    have k1 : ltF m.k (.ofNat 1) = false := by rw [hk]; rfl
    have k2 : ltF (.ofNat 19) m.k = false := by rw [hk]; rfl
    have en : inF (hasL (names 1) 110) (.ofNat 0) m.nd (.ofNat 1) = in3 (.ofNat 0) m.nd (.ofNat 1) := inF_t
    have eb : inF (hasL (names 1) 98) (.ofNat 1) m.bl (.ofNat 64) = in3 (.ofNat 1) m.bl (.ofNat 64) := inF_t
    have er : inF (hasL (names 1) 114) (.ofNat 1) m.ro (.ofNat 2) = in3 (.ofNat 1) m.ro (.ofNat 2) := inF_t
    have es : inF (hasL (names 1) 115) (.ofNat 1) m.sa (.ofNat 4) = in3 (.ofNat 1) m.sa (.ofNat 4) := inF_t
    have ek : inF (hasL (names 1) 107) (.ofNat 0) m.bk (.ofNat 63) = true := inF_f (congrArg Mg.bk hkp).symm
    have e6 := p6_eq (m := m) (s := names 1) (.inl rfl) (.inl rfl) (.inr (by rw [show m.nu = .ofNat 0 from (congrArg Mg.nu hkp).symm]; rfl)) (.inl rfl)
    have e14 := p14_eq (l := l) (m := m) (s := names 1) (.inr (by rw [show m.d = (fun _ => 0) from (congrArg Mg.d hkp).symm]; exact decide_eq_true rfl)) (.inl rfl)
    have eD : (!noneD m || zD m.d) = true := by rw [show zD m.d = true by rw [show m.d = (fun _ => 0) from (congrArg Mg.d hkp).symm]; exact decide_eq_true rfl, Bool.or_true]
    have e16 : p16 l m = true := by unfold p16; rw [hk, show m.dg = .no from (congrArg Mg.dg hkp).symm]; rfl
    have ew : withinAll l m (names 1) = ((in3 (.ofNat 0) m.nd (.ofNat 1)) && ((in3 (.ofNat 1) m.bl (.ofNat 64)) && ((in3 (.ofNat 1) m.ro (.ofNat 2)) && ((in3 (.ofNat 1) m.sa (.ofNat 4)) && ((eqF m.ba (.ofNat 0) || !eqF m.ba m.cu) && ((true) && ((!ltF m.bl (.ofNat 64) || eqF (shv m) (.ofNat 0)) && ((true) && ((!ltF (.ofNat 3000) (.ofNat (slen l m.tb))) && true))))))))) := rfl
    rw [ew, k1, k2, p4_eq, en, eb, er, es, ek, e6, e14, e16, eD]
    cases hb : in3 (.ofNat 1) m.bl (.ofNat 64) with
    | false =>
        generalize in3 (.ofNat 0) m.nd (.ofNat 1) = a
        cases a <;> rfl
    | true =>
        rw [pT_eq hse hn rfl hb]
        generalize in3 (.ofNat 0) m.nd (.ofNat 1) = x1
        generalize in3 (.ofNat 1) m.ro (.ofNat 2) = x2
        generalize in3 (.ofNat 1) m.sa (.ofNat 4) = x3
        generalize (eqF m.ba (.ofNat 0) || !eqF m.ba m.cu) = x4
        generalize (!ltF m.bl (.ofNat 64) || eqF (shv m) (.ofNat 0)) = x5
        generalize (!ltF (.ofNat 3000) (.ofNat (slen l m.tb))) = x6
        cases x1 <;> cases x2 <;> cases x3 <;> cases x4 <;> cases x5 <;> cases x6 <;> rfl
theorem mayR_2 (hk : m.k = .ofNat 2) (hkp : keepAll m (names 2) (z0 m.k) = m) {n : Nat} (hse : m.se = .ofNat n) (hn : n < 2 ^ 64) : mayR l m (names 2) = withinAll l m (names 2) := by
    unfold mayR
    have k1 : ltF m.k (.ofNat 1) = false := by rw [hk]; rfl
    have k2 : ltF (.ofNat 19) m.k = false := by rw [hk]; rfl
    have en : inF (hasL (names 2) 110) (.ofNat 0) m.nd (.ofNat 1) = true := inF_f (congrArg Mg.nd hkp).symm
    have eb : inF (hasL (names 2) 98) (.ofNat 1) m.bl (.ofNat 64) = true := inF_f (congrArg Mg.bl hkp).symm
    have er : inF (hasL (names 2) 114) (.ofNat 1) m.ro (.ofNat 2) = true := inF_f (congrArg Mg.ro hkp).symm
    have es : inF (hasL (names 2) 115) (.ofNat 1) m.sa (.ofNat 4) = true := inF_f (congrArg Mg.sa hkp).symm
    have ek : inF (hasL (names 2) 107) (.ofNat 0) m.bk (.ofNat 63) = in3 (.ofNat 0) m.bk (.ofNat 63) := inF_t
    have zcu : m.cu = .ofNat 0 := (congrArg Mg.cu hkp).symm
    have zba : m.ba = .ofNat 0 := (congrArg Mg.ba hkp).symm
    have zh0 : m.h0 = .ofNat 0 := (congrArg Mg.h0 hkp).symm
    have zh1 : m.h1 = .ofNat 0 := (congrArg Mg.h1 hkp).symm
    have e6 := p6_eq (m := m) (s := names 2) (.inr (by unfold zL; rw [zcu, zba, zh0, zh1]; rfl)) (.inr (congrArg Mg.cr hkp).symm) (.inl rfl) (.inr (congrArg Mg.ys hkp).symm)
    have e14 := p14_eq (l := l) (m := m) (s := names 2) (.inl rfl) (.inr (by rw [show m.tb = .no from (congrArg Mg.tb hkp).symm]; rfl))
    have eT := pT_zero (s := names 2) (show m.se = .ofNat 0 from (congrArg Mg.se hkp).symm)
    have eL : (eqF m.ba (.ofNat 0) || !eqF m.ba m.cu) = true := by rw [zba]; rfl
    have eA : (!ltF (.ofNat 3000) (.ofNat (slen l m.tb))) = true := by rw [show m.tb = .no from (congrArg Mg.tb hkp).symm]; rfl
    have e16 : p16 l m = true := by unfold p16; rw [hk, show m.dg = .no from (congrArg Mg.dg hkp).symm]; rfl
    have ew : withinAll l m (names 2) = ((true) && ((in3 (.ofNat 0) m.bk (.ofNat 63)) && ((!noneD m || zD m.d) && true))) := rfl
    rw [ew, k1, k2, p4_eq, en, eb, er, es, ek, e6, e14, e16, eT, eL, eA]
    generalize (in3 (.ofNat 0) m.bk (.ofNat 63)) = x0
    generalize (!noneD m || zD m.d) = x1
    cases x0 <;> cases x1 <;> rfl
theorem mayR_3 (hk : m.k = .ofNat 3) (hkp : keepAll m (names 3) (z0 m.k) = m) {n : Nat} (hse : m.se = .ofNat n) (hn : n < 2 ^ 64) : mayR l m (names 3) = withinAll l m (names 3) := by
    unfold mayR
    have k1 : ltF m.k (.ofNat 1) = false := by rw [hk]; rfl
    have k2 : ltF (.ofNat 19) m.k = false := by rw [hk]; rfl
    have en : inF (hasL (names 3) 110) (.ofNat 0) m.nd (.ofNat 1) = true := inF_f (congrArg Mg.nd hkp).symm
    have eb : inF (hasL (names 3) 98) (.ofNat 1) m.bl (.ofNat 64) = true := inF_f (congrArg Mg.bl hkp).symm
    have er : inF (hasL (names 3) 114) (.ofNat 1) m.ro (.ofNat 2) = true := inF_f (congrArg Mg.ro hkp).symm
    have es : inF (hasL (names 3) 115) (.ofNat 1) m.sa (.ofNat 4) = true := inF_f (congrArg Mg.sa hkp).symm
    have ek : inF (hasL (names 3) 107) (.ofNat 0) m.bk (.ofNat 63) = true := inF_f (congrArg Mg.bk hkp).symm
    have zcu : m.cu = .ofNat 0 := (congrArg Mg.cu hkp).symm
    have zba : m.ba = .ofNat 0 := (congrArg Mg.ba hkp).symm
    have zh0 : m.h0 = .ofNat 0 := (congrArg Mg.h0 hkp).symm
    have zh1 : m.h1 = .ofNat 0 := (congrArg Mg.h1 hkp).symm
    have e6 := p6_eq (m := m) (s := names 3) (.inr (by unfold zL; rw [zcu, zba, zh0, zh1]; rfl)) (.inr (congrArg Mg.cr hkp).symm) (.inl rfl) (.inr (congrArg Mg.ys hkp).symm)
    have e14 := p14_eq (l := l) (m := m) (s := names 3) (.inr (by rw [show m.d = (fun _ => 0) from (congrArg Mg.d hkp).symm]; exact decide_eq_true rfl)) (.inr (by rw [show m.tb = .no from (congrArg Mg.tb hkp).symm]; rfl))
    have eT := pT_zero (s := names 3) (show m.se = .ofNat 0 from (congrArg Mg.se hkp).symm)
    have eL : (eqF m.ba (.ofNat 0) || !eqF m.ba m.cu) = true := by rw [zba]; rfl
    have eD : (!noneD m || zD m.d) = true := by rw [show zD m.d = true by rw [show m.d = (fun _ => 0) from (congrArg Mg.d hkp).symm]; exact decide_eq_true rfl, Bool.or_true]
    have eA : (!ltF (.ofNat 3000) (.ofNat (slen l m.tb))) = true := by rw [show m.tb = .no from (congrArg Mg.tb hkp).symm]; rfl
    have e16 : p16 l m = true := by unfold p16; rw [hk, show m.dg = .no from (congrArg Mg.dg hkp).symm]; rfl
    have ew : withinAll l m (names 3) = ((true) && true) := rfl
    rw [ew, k1, k2, p4_eq, en, eb, er, es, ek, e6, e14, e16, eT, eL, eD, eA]
    rfl
theorem mayR_4 (hk : m.k = .ofNat 4) (hkp : keepAll m (names 4) (z0 m.k) = m) {n : Nat} (hse : m.se = .ofNat n) (hn : n < 2 ^ 64) : mayR l m (names 4) = withinAll l m (names 4) := by
    unfold mayR
    have k1 : ltF m.k (.ofNat 1) = false := by rw [hk]; rfl
    have k2 : ltF (.ofNat 19) m.k = false := by rw [hk]; rfl
    have en : inF (hasL (names 4) 110) (.ofNat 0) m.nd (.ofNat 1) = true := inF_f (congrArg Mg.nd hkp).symm
    have eb : inF (hasL (names 4) 98) (.ofNat 1) m.bl (.ofNat 64) = true := inF_f (congrArg Mg.bl hkp).symm
    have er : inF (hasL (names 4) 114) (.ofNat 1) m.ro (.ofNat 2) = true := inF_f (congrArg Mg.ro hkp).symm
    have es : inF (hasL (names 4) 115) (.ofNat 1) m.sa (.ofNat 4) = true := inF_f (congrArg Mg.sa hkp).symm
    have ek : inF (hasL (names 4) 107) (.ofNat 0) m.bk (.ofNat 63) = true := inF_f (congrArg Mg.bk hkp).symm
    have zcu : m.cu = .ofNat 0 := (congrArg Mg.cu hkp).symm
    have zba : m.ba = .ofNat 0 := (congrArg Mg.ba hkp).symm
    have zh0 : m.h0 = .ofNat 0 := (congrArg Mg.h0 hkp).symm
    have zh1 : m.h1 = .ofNat 0 := (congrArg Mg.h1 hkp).symm
    have e6 := p6_eq (m := m) (s := names 4) (.inr (by unfold zL; rw [zcu, zba, zh0, zh1]; rfl)) (.inr (congrArg Mg.cr hkp).symm) (.inl rfl) (.inr (congrArg Mg.ys hkp).symm)
    have e14 := p14_eq (l := l) (m := m) (s := names 4) (.inr (by rw [show m.d = (fun _ => 0) from (congrArg Mg.d hkp).symm]; exact decide_eq_true rfl)) (.inr (by rw [show m.tb = .no from (congrArg Mg.tb hkp).symm]; rfl))
    have eT := pT_zero (s := names 4) (show m.se = .ofNat 0 from (congrArg Mg.se hkp).symm)
    have eL : (eqF m.ba (.ofNat 0) || !eqF m.ba m.cu) = true := by rw [zba]; rfl
    have eD : (!noneD m || zD m.d) = true := by rw [show zD m.d = true by rw [show m.d = (fun _ => 0) from (congrArg Mg.d hkp).symm]; exact decide_eq_true rfl, Bool.or_true]
    have eA : (!ltF (.ofNat 3000) (.ofNat (slen l m.tb))) = true := by rw [show m.tb = .no from (congrArg Mg.tb hkp).symm]; rfl
    have e16 : p16 l m = true := by unfold p16; rw [hk, show m.dg = .no from (congrArg Mg.dg hkp).symm]; rfl
    have ew : withinAll l m (names 4) = ((true) && true) := rfl
    rw [ew, k1, k2, p4_eq, en, eb, er, es, ek, e6, e14, e16, eT, eL, eD, eA]
    rfl
theorem mayR_5 (hk : m.k = .ofNat 5) (hkp : keepAll m (names 5) (z0 m.k) = m) {n : Nat} (hse : m.se = .ofNat n) (hn : n < 2 ^ 64) : mayR l m (names 5) = withinAll l m (names 5) := by
    unfold mayR
    have k1 : ltF m.k (.ofNat 1) = false := by rw [hk]; rfl
    have k2 : ltF (.ofNat 19) m.k = false := by rw [hk]; rfl
    have en : inF (hasL (names 5) 110) (.ofNat 0) m.nd (.ofNat 1) = true := inF_f (congrArg Mg.nd hkp).symm
    have eb : inF (hasL (names 5) 98) (.ofNat 1) m.bl (.ofNat 64) = true := inF_f (congrArg Mg.bl hkp).symm
    have er : inF (hasL (names 5) 114) (.ofNat 1) m.ro (.ofNat 2) = true := inF_f (congrArg Mg.ro hkp).symm
    have es : inF (hasL (names 5) 115) (.ofNat 1) m.sa (.ofNat 4) = true := inF_f (congrArg Mg.sa hkp).symm
    have ek : inF (hasL (names 5) 107) (.ofNat 0) m.bk (.ofNat 63) = true := inF_f (congrArg Mg.bk hkp).symm
    have zcu : m.cu = .ofNat 0 := (congrArg Mg.cu hkp).symm
    have zba : m.ba = .ofNat 0 := (congrArg Mg.ba hkp).symm
    have zh0 : m.h0 = .ofNat 0 := (congrArg Mg.h0 hkp).symm
    have zh1 : m.h1 = .ofNat 0 := (congrArg Mg.h1 hkp).symm
    have e6 := p6_eq (m := m) (s := names 5) (.inr (by unfold zL; rw [zcu, zba, zh0, zh1]; rfl)) (.inr (congrArg Mg.cr hkp).symm) (.inl rfl) (.inr (congrArg Mg.ys hkp).symm)
    have e14 := p14_eq (l := l) (m := m) (s := names 5) (.inr (by rw [show m.d = (fun _ => 0) from (congrArg Mg.d hkp).symm]; exact decide_eq_true rfl)) (.inr (by rw [show m.tb = .no from (congrArg Mg.tb hkp).symm]; rfl))
    have eT := pT_zero (s := names 5) (show m.se = .ofNat 0 from (congrArg Mg.se hkp).symm)
    have eL : (eqF m.ba (.ofNat 0) || !eqF m.ba m.cu) = true := by rw [zba]; rfl
    have eD : (!noneD m || zD m.d) = true := by rw [show zD m.d = true by rw [show m.d = (fun _ => 0) from (congrArg Mg.d hkp).symm]; exact decide_eq_true rfl, Bool.or_true]
    have eA : (!ltF (.ofNat 3000) (.ofNat (slen l m.tb))) = true := by rw [show m.tb = .no from (congrArg Mg.tb hkp).symm]; rfl
    have e16 : p16 l m = true := by unfold p16; rw [hk, show m.dg = .no from (congrArg Mg.dg hkp).symm]; rfl
    have ew : withinAll l m (names 5) = ((true) && true) := rfl
    rw [ew, k1, k2, p4_eq, en, eb, er, es, ek, e6, e14, e16, eT, eL, eD, eA]
    rfl
theorem mayR_6 (hk : m.k = .ofNat 6) (hkp : keepAll m (names 6) (z0 m.k) = m) {n : Nat} (hse : m.se = .ofNat n) (hn : n < 2 ^ 64) : mayR l m (names 6) = withinAll l m (names 6) := by
    unfold mayR
    have k1 : ltF m.k (.ofNat 1) = false := by rw [hk]; rfl
    have k2 : ltF (.ofNat 19) m.k = false := by rw [hk]; rfl
    have en : inF (hasL (names 6) 110) (.ofNat 0) m.nd (.ofNat 1) = true := inF_f (congrArg Mg.nd hkp).symm
    have eb : inF (hasL (names 6) 98) (.ofNat 1) m.bl (.ofNat 64) = true := inF_f (congrArg Mg.bl hkp).symm
    have er : inF (hasL (names 6) 114) (.ofNat 1) m.ro (.ofNat 2) = true := inF_f (congrArg Mg.ro hkp).symm
    have es : inF (hasL (names 6) 115) (.ofNat 1) m.sa (.ofNat 4) = true := inF_f (congrArg Mg.sa hkp).symm
    have ek : inF (hasL (names 6) 107) (.ofNat 0) m.bk (.ofNat 63) = true := inF_f (congrArg Mg.bk hkp).symm
    have zcu : m.cu = .ofNat 0 := (congrArg Mg.cu hkp).symm
    have zba : m.ba = .ofNat 0 := (congrArg Mg.ba hkp).symm
    have zh0 : m.h0 = .ofNat 0 := (congrArg Mg.h0 hkp).symm
    have zh1 : m.h1 = .ofNat 0 := (congrArg Mg.h1 hkp).symm
    have e6 := p6_eq (m := m) (s := names 6) (.inr (by unfold zL; rw [zcu, zba, zh0, zh1]; rfl)) (.inr (congrArg Mg.cr hkp).symm) (.inl rfl) (.inr (congrArg Mg.ys hkp).symm)
    have e14 := p14_eq (l := l) (m := m) (s := names 6) (.inr (by rw [show m.d = (fun _ => 0) from (congrArg Mg.d hkp).symm]; exact decide_eq_true rfl)) (.inr (by rw [show m.tb = .no from (congrArg Mg.tb hkp).symm]; rfl))
    have eT := pT_zero (s := names 6) (show m.se = .ofNat 0 from (congrArg Mg.se hkp).symm)
    have eL : (eqF m.ba (.ofNat 0) || !eqF m.ba m.cu) = true := by rw [zba]; rfl
    have eD : (!noneD m || zD m.d) = true := by rw [show zD m.d = true by rw [show m.d = (fun _ => 0) from (congrArg Mg.d hkp).symm]; exact decide_eq_true rfl, Bool.or_true]
    have eA : (!ltF (.ofNat 3000) (.ofNat (slen l m.tb))) = true := by rw [show m.tb = .no from (congrArg Mg.tb hkp).symm]; rfl
    have e16 : p16 l m = true := by unfold p16; rw [hk, show m.dg = .no from (congrArg Mg.dg hkp).symm]; rfl
    have ew : withinAll l m (names 6) = ((true) && true) := rfl
    rw [ew, k1, k2, p4_eq, en, eb, er, es, ek, e6, e14, e16, eT, eL, eD, eA]
    rfl
theorem mayR_7 (hk : m.k = .ofNat 7) (hkp : keepAll m (names 7) (z0 m.k) = m) {n : Nat} (hse : m.se = .ofNat n) (hn : n < 2 ^ 64) : mayR l m (names 7) = withinAll l m (names 7) := by
    unfold mayR
    have k1 : ltF m.k (.ofNat 1) = false := by rw [hk]; rfl
    have k2 : ltF (.ofNat 19) m.k = false := by rw [hk]; rfl
    have en : inF (hasL (names 7) 110) (.ofNat 0) m.nd (.ofNat 1) = true := inF_f (congrArg Mg.nd hkp).symm
    have eb : inF (hasL (names 7) 98) (.ofNat 1) m.bl (.ofNat 64) = true := inF_f (congrArg Mg.bl hkp).symm
    have er : inF (hasL (names 7) 114) (.ofNat 1) m.ro (.ofNat 2) = true := inF_f (congrArg Mg.ro hkp).symm
    have es : inF (hasL (names 7) 115) (.ofNat 1) m.sa (.ofNat 4) = true := inF_f (congrArg Mg.sa hkp).symm
    have ek : inF (hasL (names 7) 107) (.ofNat 0) m.bk (.ofNat 63) = in3 (.ofNat 0) m.bk (.ofNat 63) := inF_t
    have zcu : m.cu = .ofNat 0 := (congrArg Mg.cu hkp).symm
    have zba : m.ba = .ofNat 0 := (congrArg Mg.ba hkp).symm
    have zh0 : m.h0 = .ofNat 0 := (congrArg Mg.h0 hkp).symm
    have zh1 : m.h1 = .ofNat 0 := (congrArg Mg.h1 hkp).symm
    have e6 := p6_eq (m := m) (s := names 7) (.inr (by unfold zL; rw [zcu, zba, zh0, zh1]; rfl)) (.inr (congrArg Mg.cr hkp).symm) (.inr (by rw [show m.nu = .ofNat 0 from (congrArg Mg.nu hkp).symm]; rfl)) (.inr (congrArg Mg.ys hkp).symm)
    have e14 := p14_eq (l := l) (m := m) (s := names 7) (.inr (by rw [show m.d = (fun _ => 0) from (congrArg Mg.d hkp).symm]; exact decide_eq_true rfl)) (.inr (by rw [show m.tb = .no from (congrArg Mg.tb hkp).symm]; rfl))
    have eT := pT_zero (s := names 7) (show m.se = .ofNat 0 from (congrArg Mg.se hkp).symm)
    have eL : (eqF m.ba (.ofNat 0) || !eqF m.ba m.cu) = true := by rw [zba]; rfl
    have eD : (!noneD m || zD m.d) = true := by rw [show zD m.d = true by rw [show m.d = (fun _ => 0) from (congrArg Mg.d hkp).symm]; exact decide_eq_true rfl, Bool.or_true]
    have eA : (!ltF (.ofNat 3000) (.ofNat (slen l m.tb))) = true := by rw [show m.tb = .no from (congrArg Mg.tb hkp).symm]; rfl
    have e16 : p16 l m = (eqF (.ofNat (slen l m.dg)) (.ofNat 32) || (eqF (.ofNat (slen l m.dg)) (.ofNat 0) && eqF m.k (.ofNat 7))) := by unfold p16; rw [hk]; generalize eqF (.ofNat (slen l m.dg)) (.ofNat 0) = x; generalize eqF (.ofNat (slen l m.dg)) (.ofNat 32) = y; cases x <;> cases y <;> rfl
    have ew : withinAll l m (names 7) = ((in3 (.ofNat 0) m.bk (.ofNat 63)) && ((eqF (.ofNat (slen l m.dg)) (.ofNat 32) || (eqF (.ofNat (slen l m.dg)) (.ofNat 0) && eqF m.k (.ofNat 7))) && true)) := rfl
    rw [ew, k1, k2, p4_eq, en, eb, er, es, ek, e6, e14, e16, eT, eL, eD, eA]
    generalize (in3 (.ofNat 0) m.bk (.ofNat 63)) = x0
    generalize (eqF (.ofNat (slen l m.dg)) (.ofNat 32) || (eqF (.ofNat (slen l m.dg)) (.ofNat 0) && eqF m.k (.ofNat 7))) = x1
    cases x0 <;> cases x1 <;> rfl
theorem mayR_8 (hk : m.k = .ofNat 8) (hkp : keepAll m (names 8) (z0 m.k) = m) {n : Nat} (hse : m.se = .ofNat n) (hn : n < 2 ^ 64) : mayR l m (names 8) = withinAll l m (names 8) := by
    unfold mayR
    have k1 : ltF m.k (.ofNat 1) = false := by rw [hk]; rfl
    have k2 : ltF (.ofNat 19) m.k = false := by rw [hk]; rfl
    have en : inF (hasL (names 8) 110) (.ofNat 0) m.nd (.ofNat 1) = true := inF_f (congrArg Mg.nd hkp).symm
    have eb : inF (hasL (names 8) 98) (.ofNat 1) m.bl (.ofNat 64) = true := inF_f (congrArg Mg.bl hkp).symm
    have er : inF (hasL (names 8) 114) (.ofNat 1) m.ro (.ofNat 2) = true := inF_f (congrArg Mg.ro hkp).symm
    have es : inF (hasL (names 8) 115) (.ofNat 1) m.sa (.ofNat 4) = true := inF_f (congrArg Mg.sa hkp).symm
    have ek : inF (hasL (names 8) 107) (.ofNat 0) m.bk (.ofNat 63) = in3 (.ofNat 0) m.bk (.ofNat 63) := inF_t
    have zcu : m.cu = .ofNat 0 := (congrArg Mg.cu hkp).symm
    have zba : m.ba = .ofNat 0 := (congrArg Mg.ba hkp).symm
    have zh0 : m.h0 = .ofNat 0 := (congrArg Mg.h0 hkp).symm
    have zh1 : m.h1 = .ofNat 0 := (congrArg Mg.h1 hkp).symm
    have e6 := p6_eq (m := m) (s := names 8) (.inr (by unfold zL; rw [zcu, zba, zh0, zh1]; rfl)) (.inr (congrArg Mg.cr hkp).symm) (.inr (by rw [show m.nu = .ofNat 0 from (congrArg Mg.nu hkp).symm]; rfl)) (.inl rfl)
    have e14 := p14_eq (l := l) (m := m) (s := names 8) (.inl rfl) (.inr (by rw [show m.tb = .no from (congrArg Mg.tb hkp).symm]; rfl))
    have eT := pT_zero (s := names 8) (show m.se = .ofNat 0 from (congrArg Mg.se hkp).symm)
    have eL : (eqF m.ba (.ofNat 0) || !eqF m.ba m.cu) = true := by rw [zba]; rfl
    have eA : (!ltF (.ofNat 3000) (.ofNat (slen l m.tb))) = true := by rw [show m.tb = .no from (congrArg Mg.tb hkp).symm]; rfl
    have e16 : p16 l m = true := by unfold p16; rw [hk, show m.dg = .no from (congrArg Mg.dg hkp).symm]; rfl
    have ew : withinAll l m (names 8) = ((in3 (.ofNat 0) m.bk (.ofNat 63)) && ((true) && ((!noneD m || zD m.d) && true))) := rfl
    rw [ew, k1, k2, p4_eq, en, eb, er, es, ek, e6, e14, e16, eT, eL, eA]
    generalize (in3 (.ofNat 0) m.bk (.ofNat 63)) = x0
    generalize (!noneD m || zD m.d) = x1
    cases x0 <;> cases x1 <;> rfl
theorem mayR_9 (hk : m.k = .ofNat 9) (hkp : keepAll m (names 9) (z0 m.k) = m) {n : Nat} (hse : m.se = .ofNat n) (hn : n < 2 ^ 64) : mayR l m (names 9) = withinAll l m (names 9) := by
    unfold mayR
    have k1 : ltF m.k (.ofNat 1) = false := by rw [hk]; rfl
    have k2 : ltF (.ofNat 19) m.k = false := by rw [hk]; rfl
    have en : inF (hasL (names 9) 110) (.ofNat 0) m.nd (.ofNat 1) = true := inF_f (congrArg Mg.nd hkp).symm
    have eb : inF (hasL (names 9) 98) (.ofNat 1) m.bl (.ofNat 64) = true := inF_f (congrArg Mg.bl hkp).symm
    have er : inF (hasL (names 9) 114) (.ofNat 1) m.ro (.ofNat 2) = true := inF_f (congrArg Mg.ro hkp).symm
    have es : inF (hasL (names 9) 115) (.ofNat 1) m.sa (.ofNat 4) = true := inF_f (congrArg Mg.sa hkp).symm
    have ek : inF (hasL (names 9) 107) (.ofNat 0) m.bk (.ofNat 63) = true := inF_f (congrArg Mg.bk hkp).symm
    have zcu : m.cu = .ofNat 0 := (congrArg Mg.cu hkp).symm
    have zba : m.ba = .ofNat 0 := (congrArg Mg.ba hkp).symm
    have zh0 : m.h0 = .ofNat 0 := (congrArg Mg.h0 hkp).symm
    have zh1 : m.h1 = .ofNat 0 := (congrArg Mg.h1 hkp).symm
    have e6 := p6_eq (m := m) (s := names 9) (.inr (by unfold zL; rw [zcu, zba, zh0, zh1]; rfl)) (.inr (congrArg Mg.cr hkp).symm) (.inr (by rw [show m.nu = .ofNat 0 from (congrArg Mg.nu hkp).symm]; rfl)) (.inr (congrArg Mg.ys hkp).symm)
    have e14 := p14_eq (l := l) (m := m) (s := names 9) (.inr (by rw [show m.d = (fun _ => 0) from (congrArg Mg.d hkp).symm]; exact decide_eq_true rfl)) (.inr (by rw [show m.tb = .no from (congrArg Mg.tb hkp).symm]; rfl))
    have eT := pT_zero (s := names 9) (show m.se = .ofNat 0 from (congrArg Mg.se hkp).symm)
    have eL : (eqF m.ba (.ofNat 0) || !eqF m.ba m.cu) = true := by rw [zba]; rfl
    have eD : (!noneD m || zD m.d) = true := by rw [show zD m.d = true by rw [show m.d = (fun _ => 0) from (congrArg Mg.d hkp).symm]; exact decide_eq_true rfl, Bool.or_true]
    have eA : (!ltF (.ofNat 3000) (.ofNat (slen l m.tb))) = true := by rw [show m.tb = .no from (congrArg Mg.tb hkp).symm]; rfl
    have e16 : p16 l m = true := by unfold p16; rw [hk, show m.dg = .no from (congrArg Mg.dg hkp).symm]; rfl
    have ew : withinAll l m (names 9) = true := rfl
    rw [ew, k1, k2, p4_eq, en, eb, er, es, ek, e6, e14, e16, eT, eL, eD, eA]
    rfl
theorem mayR_10 (hk : m.k = .ofNat 10) (hkp : keepAll m (names 10) (z0 m.k) = m) {n : Nat} (hse : m.se = .ofNat n) (hn : n < 2 ^ 64) : mayR l m (names 10) = withinAll l m (names 10) := by
    unfold mayR
    have k1 : ltF m.k (.ofNat 1) = false := by rw [hk]; rfl
    have k2 : ltF (.ofNat 19) m.k = false := by rw [hk]; rfl
    have en : inF (hasL (names 10) 110) (.ofNat 0) m.nd (.ofNat 1) = true := inF_f (congrArg Mg.nd hkp).symm
    have eb : inF (hasL (names 10) 98) (.ofNat 1) m.bl (.ofNat 64) = true := inF_f (congrArg Mg.bl hkp).symm
    have er : inF (hasL (names 10) 114) (.ofNat 1) m.ro (.ofNat 2) = true := inF_f (congrArg Mg.ro hkp).symm
    have es : inF (hasL (names 10) 115) (.ofNat 1) m.sa (.ofNat 4) = true := inF_f (congrArg Mg.sa hkp).symm
    have ek : inF (hasL (names 10) 107) (.ofNat 0) m.bk (.ofNat 63) = true := inF_f (congrArg Mg.bk hkp).symm
    have e6 := p6_eq (m := m) (s := names 10) (.inl rfl) (.inr (congrArg Mg.cr hkp).symm) (.inr (by rw [show m.nu = .ofNat 0 from (congrArg Mg.nu hkp).symm]; rfl)) (.inr (congrArg Mg.ys hkp).symm)
    have e14 := p14_eq (l := l) (m := m) (s := names 10) (.inr (by rw [show m.d = (fun _ => 0) from (congrArg Mg.d hkp).symm]; exact decide_eq_true rfl)) (.inr (by rw [show m.tb = .no from (congrArg Mg.tb hkp).symm]; rfl))
    have eT := pT_zero (s := names 10) (show m.se = .ofNat 0 from (congrArg Mg.se hkp).symm)
    have eD : (!noneD m || zD m.d) = true := by rw [show zD m.d = true by rw [show m.d = (fun _ => 0) from (congrArg Mg.d hkp).symm]; exact decide_eq_true rfl, Bool.or_true]
    have eA : (!ltF (.ofNat 3000) (.ofNat (slen l m.tb))) = true := by rw [show m.tb = .no from (congrArg Mg.tb hkp).symm]; rfl
    have e16 : p16 l m = true := by unfold p16; rw [hk, show m.dg = .no from (congrArg Mg.dg hkp).symm]; rfl
    have ew : withinAll l m (names 10) = ((eqF m.ba (.ofNat 0) || !eqF m.ba m.cu) && true) := rfl
    rw [ew, k1, k2, p4_eq, en, eb, er, es, ek, e6, e14, e16, eT, eD, eA]
    generalize (eqF m.ba (.ofNat 0) || !eqF m.ba m.cu) = x0
    cases x0 <;> rfl
theorem mayR_11 (hk : m.k = .ofNat 11) (hkp : keepAll m (names 11) (z0 m.k) = m) {n : Nat} (hse : m.se = .ofNat n) (hn : n < 2 ^ 64) : mayR l m (names 11) = withinAll l m (names 11) := by
    unfold mayR
    have k1 : ltF m.k (.ofNat 1) = false := by rw [hk]; rfl
    have k2 : ltF (.ofNat 19) m.k = false := by rw [hk]; rfl
    have en : inF (hasL (names 11) 110) (.ofNat 0) m.nd (.ofNat 1) = true := inF_f (congrArg Mg.nd hkp).symm
    have eb : inF (hasL (names 11) 98) (.ofNat 1) m.bl (.ofNat 64) = true := inF_f (congrArg Mg.bl hkp).symm
    have er : inF (hasL (names 11) 114) (.ofNat 1) m.ro (.ofNat 2) = in3 (.ofNat 1) m.ro (.ofNat 2) := inF_t
    have es : inF (hasL (names 11) 115) (.ofNat 1) m.sa (.ofNat 4) = in3 (.ofNat 1) m.sa (.ofNat 4) := inF_t
    have ek : inF (hasL (names 11) 107) (.ofNat 0) m.bk (.ofNat 63) = true := inF_f (congrArg Mg.bk hkp).symm
    have zcu : m.cu = .ofNat 0 := (congrArg Mg.cu hkp).symm
    have zba : m.ba = .ofNat 0 := (congrArg Mg.ba hkp).symm
    have zh0 : m.h0 = .ofNat 0 := (congrArg Mg.h0 hkp).symm
    have zh1 : m.h1 = .ofNat 0 := (congrArg Mg.h1 hkp).symm
    have e6 := p6_eq (m := m) (s := names 11) (.inr (by unfold zL; rw [zcu, zba, zh0, zh1]; rfl)) (.inr (congrArg Mg.cr hkp).symm) (.inr (by rw [show m.nu = .ofNat 0 from (congrArg Mg.nu hkp).symm]; rfl)) (.inr (congrArg Mg.ys hkp).symm)
    have e14 := p14_eq (l := l) (m := m) (s := names 11) (.inr (by rw [show m.d = (fun _ => 0) from (congrArg Mg.d hkp).symm]; exact decide_eq_true rfl)) (.inr (by rw [show m.tb = .no from (congrArg Mg.tb hkp).symm]; rfl))
    have eT := pT_zero (s := names 11) (show m.se = .ofNat 0 from (congrArg Mg.se hkp).symm)
    have eL : (eqF m.ba (.ofNat 0) || !eqF m.ba m.cu) = true := by rw [zba]; rfl
    have eD : (!noneD m || zD m.d) = true := by rw [show zD m.d = true by rw [show m.d = (fun _ => 0) from (congrArg Mg.d hkp).symm]; exact decide_eq_true rfl, Bool.or_true]
    have eA : (!ltF (.ofNat 3000) (.ofNat (slen l m.tb))) = true := by rw [show m.tb = .no from (congrArg Mg.tb hkp).symm]; rfl
    have e16 : p16 l m = true := by unfold p16; rw [hk, show m.dg = .no from (congrArg Mg.dg hkp).symm]; rfl
    have ew : withinAll l m (names 11) = ((in3 (.ofNat 1) m.ro (.ofNat 2)) && ((in3 (.ofNat 1) m.sa (.ofNat 4)) && true)) := rfl
    rw [ew, k1, k2, p4_eq, en, eb, er, es, ek, e6, e14, e16, eT, eL, eD, eA]
    generalize (in3 (.ofNat 1) m.ro (.ofNat 2)) = x0
    generalize (in3 (.ofNat 1) m.sa (.ofNat 4)) = x1
    cases x0 <;> cases x1 <;> rfl
theorem mayR_12 (hk : m.k = .ofNat 12) (hkp : keepAll m (names 12) (z0 m.k) = m) {n : Nat} (hse : m.se = .ofNat n) (hn : n < 2 ^ 64) : mayR l m (names 12) = withinAll l m (names 12) := by
    unfold mayR
    have k1 : ltF m.k (.ofNat 1) = false := by rw [hk]; rfl
    have k2 : ltF (.ofNat 19) m.k = false := by rw [hk]; rfl
    have en : inF (hasL (names 12) 110) (.ofNat 0) m.nd (.ofNat 1) = true := inF_f (congrArg Mg.nd hkp).symm
    have eb : inF (hasL (names 12) 98) (.ofNat 1) m.bl (.ofNat 64) = true := inF_f (congrArg Mg.bl hkp).symm
    have er : inF (hasL (names 12) 114) (.ofNat 1) m.ro (.ofNat 2) = true := inF_f (congrArg Mg.ro hkp).symm
    have es : inF (hasL (names 12) 115) (.ofNat 1) m.sa (.ofNat 4) = true := inF_f (congrArg Mg.sa hkp).symm
    have ek : inF (hasL (names 12) 107) (.ofNat 0) m.bk (.ofNat 63) = true := inF_f (congrArg Mg.bk hkp).symm
    have zcu : m.cu = .ofNat 0 := (congrArg Mg.cu hkp).symm
    have zba : m.ba = .ofNat 0 := (congrArg Mg.ba hkp).symm
    have zh0 : m.h0 = .ofNat 0 := (congrArg Mg.h0 hkp).symm
    have zh1 : m.h1 = .ofNat 0 := (congrArg Mg.h1 hkp).symm
    have e6 := p6_eq (m := m) (s := names 12) (.inr (by unfold zL; rw [zcu, zba, zh0, zh1]; rfl)) (.inr (congrArg Mg.cr hkp).symm) (.inr (by rw [show m.nu = .ofNat 0 from (congrArg Mg.nu hkp).symm]; rfl)) (.inr (congrArg Mg.ys hkp).symm)
    have e14 := p14_eq (l := l) (m := m) (s := names 12) (.inr (by rw [show m.d = (fun _ => 0) from (congrArg Mg.d hkp).symm]; exact decide_eq_true rfl)) (.inr (by rw [show m.tb = .no from (congrArg Mg.tb hkp).symm]; rfl))
    have eT := pT_zero (s := names 12) (show m.se = .ofNat 0 from (congrArg Mg.se hkp).symm)
    have eL : (eqF m.ba (.ofNat 0) || !eqF m.ba m.cu) = true := by rw [zba]; rfl
    have eD : (!noneD m || zD m.d) = true := by rw [show zD m.d = true by rw [show m.d = (fun _ => 0) from (congrArg Mg.d hkp).symm]; exact decide_eq_true rfl, Bool.or_true]
    have eA : (!ltF (.ofNat 3000) (.ofNat (slen l m.tb))) = true := by rw [show m.tb = .no from (congrArg Mg.tb hkp).symm]; rfl
    have e16 : p16 l m = true := by unfold p16; rw [hk, show m.dg = .no from (congrArg Mg.dg hkp).symm]; rfl
    have ew : withinAll l m (names 12) = true := rfl
    rw [ew, k1, k2, p4_eq, en, eb, er, es, ek, e6, e14, e16, eT, eL, eD, eA]
    rfl
theorem mayR_13 (hk : m.k = .ofNat 13) (hkp : keepAll m (names 13) (z0 m.k) = m) {n : Nat} (hse : m.se = .ofNat n) (hn : n < 2 ^ 64) : mayR l m (names 13) = withinAll l m (names 13) := by
    unfold mayR
    have k1 : ltF m.k (.ofNat 1) = false := by rw [hk]; rfl
    have k2 : ltF (.ofNat 19) m.k = false := by rw [hk]; rfl
    have en : inF (hasL (names 13) 110) (.ofNat 0) m.nd (.ofNat 1) = true := inF_f (congrArg Mg.nd hkp).symm
    have eb : inF (hasL (names 13) 98) (.ofNat 1) m.bl (.ofNat 64) = true := inF_f (congrArg Mg.bl hkp).symm
    have er : inF (hasL (names 13) 114) (.ofNat 1) m.ro (.ofNat 2) = true := inF_f (congrArg Mg.ro hkp).symm
    have es : inF (hasL (names 13) 115) (.ofNat 1) m.sa (.ofNat 4) = true := inF_f (congrArg Mg.sa hkp).symm
    have ek : inF (hasL (names 13) 107) (.ofNat 0) m.bk (.ofNat 63) = true := inF_f (congrArg Mg.bk hkp).symm
    have zcu : m.cu = .ofNat 0 := (congrArg Mg.cu hkp).symm
    have zba : m.ba = .ofNat 0 := (congrArg Mg.ba hkp).symm
    have zh0 : m.h0 = .ofNat 0 := (congrArg Mg.h0 hkp).symm
    have zh1 : m.h1 = .ofNat 0 := (congrArg Mg.h1 hkp).symm
    have e6 := p6_eq (m := m) (s := names 13) (.inr (by unfold zL; rw [zcu, zba, zh0, zh1]; rfl)) (.inr (congrArg Mg.cr hkp).symm) (.inr (by rw [show m.nu = .ofNat 0 from (congrArg Mg.nu hkp).symm]; rfl)) (.inl rfl)
    have e14 := p14_eq (l := l) (m := m) (s := names 13) (.inr (by rw [show m.d = (fun _ => 0) from (congrArg Mg.d hkp).symm]; exact decide_eq_true rfl)) (.inr (by rw [show m.tb = .no from (congrArg Mg.tb hkp).symm]; rfl))
    have eT := pT_zero (s := names 13) (show m.se = .ofNat 0 from (congrArg Mg.se hkp).symm)
    have eL : (eqF m.ba (.ofNat 0) || !eqF m.ba m.cu) = true := by rw [zba]; rfl
    have eD : (!noneD m || zD m.d) = true := by rw [show zD m.d = true by rw [show m.d = (fun _ => 0) from (congrArg Mg.d hkp).symm]; exact decide_eq_true rfl, Bool.or_true]
    have eA : (!ltF (.ofNat 3000) (.ofNat (slen l m.tb))) = true := by rw [show m.tb = .no from (congrArg Mg.tb hkp).symm]; rfl
    have e16 : p16 l m = true := by unfold p16; rw [hk, show m.dg = .no from (congrArg Mg.dg hkp).symm]; rfl
    have ew : withinAll l m (names 13) = ((true) && true) := rfl
    rw [ew, k1, k2, p4_eq, en, eb, er, es, ek, e6, e14, e16, eT, eL, eD, eA]
    rfl
theorem mayR_14 (hk : m.k = .ofNat 14) (hkp : keepAll m (names 14) (z0 m.k) = m) {n : Nat} (hse : m.se = .ofNat n) (hn : n < 2 ^ 64) : mayR l m (names 14) = withinAll l m (names 14) := by
    unfold mayR
    have k1 : ltF m.k (.ofNat 1) = false := by rw [hk]; rfl
    have k2 : ltF (.ofNat 19) m.k = false := by rw [hk]; rfl
    have en : inF (hasL (names 14) 110) (.ofNat 0) m.nd (.ofNat 1) = true := inF_f (congrArg Mg.nd hkp).symm
    have eb : inF (hasL (names 14) 98) (.ofNat 1) m.bl (.ofNat 64) = true := inF_f (congrArg Mg.bl hkp).symm
    have er : inF (hasL (names 14) 114) (.ofNat 1) m.ro (.ofNat 2) = true := inF_f (congrArg Mg.ro hkp).symm
    have es : inF (hasL (names 14) 115) (.ofNat 1) m.sa (.ofNat 4) = true := inF_f (congrArg Mg.sa hkp).symm
    have ek : inF (hasL (names 14) 107) (.ofNat 0) m.bk (.ofNat 63) = in3 (.ofNat 0) m.bk (.ofNat 63) := inF_t
    have zcu : m.cu = .ofNat 0 := (congrArg Mg.cu hkp).symm
    have zba : m.ba = .ofNat 0 := (congrArg Mg.ba hkp).symm
    have zh0 : m.h0 = .ofNat 0 := (congrArg Mg.h0 hkp).symm
    have zh1 : m.h1 = .ofNat 0 := (congrArg Mg.h1 hkp).symm
    have e6 := p6_eq (m := m) (s := names 14) (.inr (by unfold zL; rw [zcu, zba, zh0, zh1]; rfl)) (.inr (congrArg Mg.cr hkp).symm) (.inl rfl) (.inr (congrArg Mg.ys hkp).symm)
    have e14 := p14_eq (l := l) (m := m) (s := names 14) (.inr (by rw [show m.d = (fun _ => 0) from (congrArg Mg.d hkp).symm]; exact decide_eq_true rfl)) (.inr (by rw [show m.tb = .no from (congrArg Mg.tb hkp).symm]; rfl))
    have eT := pT_zero (s := names 14) (show m.se = .ofNat 0 from (congrArg Mg.se hkp).symm)
    have eL : (eqF m.ba (.ofNat 0) || !eqF m.ba m.cu) = true := by rw [zba]; rfl
    have eD : (!noneD m || zD m.d) = true := by rw [show zD m.d = true by rw [show m.d = (fun _ => 0) from (congrArg Mg.d hkp).symm]; exact decide_eq_true rfl, Bool.or_true]
    have eA : (!ltF (.ofNat 3000) (.ofNat (slen l m.tb))) = true := by rw [show m.tb = .no from (congrArg Mg.tb hkp).symm]; rfl
    have e16 : p16 l m = true := by unfold p16; rw [hk, show m.dg = .no from (congrArg Mg.dg hkp).symm]; rfl
    have ew : withinAll l m (names 14) = ((true) && ((in3 (.ofNat 0) m.bk (.ofNat 63)) && true)) := rfl
    rw [ew, k1, k2, p4_eq, en, eb, er, es, ek, e6, e14, e16, eT, eL, eD, eA]
    generalize (in3 (.ofNat 0) m.bk (.ofNat 63)) = x0
    cases x0 <;> rfl
theorem mayR_15 (hk : m.k = .ofNat 15) (hkp : keepAll m (names 15) (z0 m.k) = m) {n : Nat} (hse : m.se = .ofNat n) (hn : n < 2 ^ 64) : mayR l m (names 15) = withinAll l m (names 15) := by
    unfold mayR
    have k1 : ltF m.k (.ofNat 1) = false := by rw [hk]; rfl
    have k2 : ltF (.ofNat 19) m.k = false := by rw [hk]; rfl
    have en : inF (hasL (names 15) 110) (.ofNat 0) m.nd (.ofNat 1) = true := inF_f (congrArg Mg.nd hkp).symm
    have eb : inF (hasL (names 15) 98) (.ofNat 1) m.bl (.ofNat 64) = true := inF_f (congrArg Mg.bl hkp).symm
    have er : inF (hasL (names 15) 114) (.ofNat 1) m.ro (.ofNat 2) = true := inF_f (congrArg Mg.ro hkp).symm
    have es : inF (hasL (names 15) 115) (.ofNat 1) m.sa (.ofNat 4) = true := inF_f (congrArg Mg.sa hkp).symm
    have ek : inF (hasL (names 15) 107) (.ofNat 0) m.bk (.ofNat 63) = true := inF_f (congrArg Mg.bk hkp).symm
    have zcu : m.cu = .ofNat 0 := (congrArg Mg.cu hkp).symm
    have zba : m.ba = .ofNat 0 := (congrArg Mg.ba hkp).symm
    have zh0 : m.h0 = .ofNat 0 := (congrArg Mg.h0 hkp).symm
    have zh1 : m.h1 = .ofNat 0 := (congrArg Mg.h1 hkp).symm
    have e6 := p6_eq (m := m) (s := names 15) (.inr (by unfold zL; rw [zcu, zba, zh0, zh1]; rfl)) (.inr (congrArg Mg.cr hkp).symm) (.inl rfl) (.inl rfl)
    have e14 := p14_eq (l := l) (m := m) (s := names 15) (.inl rfl) (.inr (by rw [show m.tb = .no from (congrArg Mg.tb hkp).symm]; rfl))
    have eT := pT_zero (s := names 15) (show m.se = .ofNat 0 from (congrArg Mg.se hkp).symm)
    have eL : (eqF m.ba (.ofNat 0) || !eqF m.ba m.cu) = true := by rw [zba]; rfl
    have eA : (!ltF (.ofNat 3000) (.ofNat (slen l m.tb))) = true := by rw [show m.tb = .no from (congrArg Mg.tb hkp).symm]; rfl
    have e16 : p16 l m = true := by unfold p16; rw [hk, show m.dg = .no from (congrArg Mg.dg hkp).symm]; rfl
    have ew : withinAll l m (names 15) = ((true) && ((true) && ((!noneD m || zD m.d) && true))) := rfl
    rw [ew, k1, k2, p4_eq, en, eb, er, es, ek, e6, e14, e16, eT, eL, eA]
    generalize (!noneD m || zD m.d) = x0
    cases x0 <;> rfl
theorem mayR_16 (hk : m.k = .ofNat 16) (hkp : keepAll m (names 16) (z0 m.k) = m) {n : Nat} (hse : m.se = .ofNat n) (hn : n < 2 ^ 64) : mayR l m (names 16) = withinAll l m (names 16) := by
    unfold mayR
    have k1 : ltF m.k (.ofNat 1) = false := by rw [hk]; rfl
    have k2 : ltF (.ofNat 19) m.k = false := by rw [hk]; rfl
    have en : inF (hasL (names 16) 110) (.ofNat 0) m.nd (.ofNat 1) = true := inF_f (congrArg Mg.nd hkp).symm
    have eb : inF (hasL (names 16) 98) (.ofNat 1) m.bl (.ofNat 64) = true := inF_f (congrArg Mg.bl hkp).symm
    have er : inF (hasL (names 16) 114) (.ofNat 1) m.ro (.ofNat 2) = true := inF_f (congrArg Mg.ro hkp).symm
    have es : inF (hasL (names 16) 115) (.ofNat 1) m.sa (.ofNat 4) = true := inF_f (congrArg Mg.sa hkp).symm
    have ek : inF (hasL (names 16) 107) (.ofNat 0) m.bk (.ofNat 63) = true := inF_f (congrArg Mg.bk hkp).symm
    have zcu : m.cu = .ofNat 0 := (congrArg Mg.cu hkp).symm
    have zba : m.ba = .ofNat 0 := (congrArg Mg.ba hkp).symm
    have zh0 : m.h0 = .ofNat 0 := (congrArg Mg.h0 hkp).symm
    have zh1 : m.h1 = .ofNat 0 := (congrArg Mg.h1 hkp).symm
    have e6 := p6_eq (m := m) (s := names 16) (.inr (by unfold zL; rw [zcu, zba, zh0, zh1]; rfl)) (.inr (congrArg Mg.cr hkp).symm) (.inl rfl) (.inr (congrArg Mg.ys hkp).symm)
    have e14 := p14_eq (l := l) (m := m) (s := names 16) (.inr (by rw [show m.d = (fun _ => 0) from (congrArg Mg.d hkp).symm]; exact decide_eq_true rfl)) (.inl rfl)
    have eT := pT_zero (s := names 16) (show m.se = .ofNat 0 from (congrArg Mg.se hkp).symm)
    have eL : (eqF m.ba (.ofNat 0) || !eqF m.ba m.cu) = true := by rw [zba]; rfl
    have eD : (!noneD m || zD m.d) = true := by rw [show zD m.d = true by rw [show m.d = (fun _ => 0) from (congrArg Mg.d hkp).symm]; exact decide_eq_true rfl, Bool.or_true]
    have e16 : p16 l m = true := by unfold p16; rw [hk, show m.dg = .no from (congrArg Mg.dg hkp).symm]; rfl
    have ew : withinAll l m (names 16) = ((true) && ((!ltF (.ofNat 3000) (.ofNat (slen l m.tb))) && true)) := rfl
    rw [ew, k1, k2, p4_eq, en, eb, er, es, ek, e6, e14, e16, eT, eL, eD]
    generalize (!ltF (.ofNat 3000) (.ofNat (slen l m.tb))) = x0
    cases x0 <;> rfl
theorem mayR_17 (hk : m.k = .ofNat 17) (hkp : keepAll m (names 17) (z0 m.k) = m) {n : Nat} (hse : m.se = .ofNat n) (hn : n < 2 ^ 64) : mayR l m (names 17) = withinAll l m (names 17) := by
    unfold mayR
    have k1 : ltF m.k (.ofNat 1) = false := by rw [hk]; rfl
    have k2 : ltF (.ofNat 19) m.k = false := by rw [hk]; rfl
    have en : inF (hasL (names 17) 110) (.ofNat 0) m.nd (.ofNat 1) = true := inF_f (congrArg Mg.nd hkp).symm
    have eb : inF (hasL (names 17) 98) (.ofNat 1) m.bl (.ofNat 64) = true := inF_f (congrArg Mg.bl hkp).symm
    have er : inF (hasL (names 17) 114) (.ofNat 1) m.ro (.ofNat 2) = true := inF_f (congrArg Mg.ro hkp).symm
    have es : inF (hasL (names 17) 115) (.ofNat 1) m.sa (.ofNat 4) = true := inF_f (congrArg Mg.sa hkp).symm
    have ek : inF (hasL (names 17) 107) (.ofNat 0) m.bk (.ofNat 63) = true := inF_f (congrArg Mg.bk hkp).symm
    have zcu : m.cu = .ofNat 0 := (congrArg Mg.cu hkp).symm
    have zba : m.ba = .ofNat 0 := (congrArg Mg.ba hkp).symm
    have zh0 : m.h0 = .ofNat 0 := (congrArg Mg.h0 hkp).symm
    have zh1 : m.h1 = .ofNat 0 := (congrArg Mg.h1 hkp).symm
    have e6 := p6_eq (m := m) (s := names 17) (.inr (by unfold zL; rw [zcu, zba, zh0, zh1]; rfl)) (.inr (congrArg Mg.cr hkp).symm) (.inl rfl) (.inr (congrArg Mg.ys hkp).symm)
    have e14 := p14_eq (l := l) (m := m) (s := names 17) (.inr (by rw [show m.d = (fun _ => 0) from (congrArg Mg.d hkp).symm]; exact decide_eq_true rfl)) (.inr (by rw [show m.tb = .no from (congrArg Mg.tb hkp).symm]; rfl))
    have eT := pT_zero (s := names 17) (show m.se = .ofNat 0 from (congrArg Mg.se hkp).symm)
    have eL : (eqF m.ba (.ofNat 0) || !eqF m.ba m.cu) = true := by rw [zba]; rfl
    have eD : (!noneD m || zD m.d) = true := by rw [show zD m.d = true by rw [show m.d = (fun _ => 0) from (congrArg Mg.d hkp).symm]; exact decide_eq_true rfl, Bool.or_true]
    have eA : (!ltF (.ofNat 3000) (.ofNat (slen l m.tb))) = true := by rw [show m.tb = .no from (congrArg Mg.tb hkp).symm]; rfl
    have e16 : p16 l m = true := by unfold p16; rw [hk, show m.dg = .no from (congrArg Mg.dg hkp).symm]; rfl
    have ew : withinAll l m (names 17) = ((true) && true) := rfl
    rw [ew, k1, k2, p4_eq, en, eb, er, es, ek, e6, e14, e16, eT, eL, eD, eA]
    rfl
theorem mayR_18 (hk : m.k = .ofNat 18) (hkp : keepAll m (names 18) (z0 m.k) = m) {n : Nat} (hse : m.se = .ofNat n) (hn : n < 2 ^ 64) : mayR l m (names 18) = withinAll l m (names 18) := by
    unfold mayR
    have k1 : ltF m.k (.ofNat 1) = false := by rw [hk]; rfl
    have k2 : ltF (.ofNat 19) m.k = false := by rw [hk]; rfl
    have en : inF (hasL (names 18) 110) (.ofNat 0) m.nd (.ofNat 1) = true := inF_f (congrArg Mg.nd hkp).symm
    have eb : inF (hasL (names 18) 98) (.ofNat 1) m.bl (.ofNat 64) = true := inF_f (congrArg Mg.bl hkp).symm
    have er : inF (hasL (names 18) 114) (.ofNat 1) m.ro (.ofNat 2) = true := inF_f (congrArg Mg.ro hkp).symm
    have es : inF (hasL (names 18) 115) (.ofNat 1) m.sa (.ofNat 4) = true := inF_f (congrArg Mg.sa hkp).symm
    have ek : inF (hasL (names 18) 107) (.ofNat 0) m.bk (.ofNat 63) = in3 (.ofNat 0) m.bk (.ofNat 63) := inF_t
    have zcu : m.cu = .ofNat 0 := (congrArg Mg.cu hkp).symm
    have zba : m.ba = .ofNat 0 := (congrArg Mg.ba hkp).symm
    have zh0 : m.h0 = .ofNat 0 := (congrArg Mg.h0 hkp).symm
    have zh1 : m.h1 = .ofNat 0 := (congrArg Mg.h1 hkp).symm
    have e6 := p6_eq (m := m) (s := names 18) (.inr (by unfold zL; rw [zcu, zba, zh0, zh1]; rfl)) (.inr (congrArg Mg.cr hkp).symm) (.inr (by rw [show m.nu = .ofNat 0 from (congrArg Mg.nu hkp).symm]; rfl)) (.inr (congrArg Mg.ys hkp).symm)
    have e14 := p14_eq (l := l) (m := m) (s := names 18) (.inr (by rw [show m.d = (fun _ => 0) from (congrArg Mg.d hkp).symm]; exact decide_eq_true rfl)) (.inr (by rw [show m.tb = .no from (congrArg Mg.tb hkp).symm]; rfl))
    have eT := pT_zero (s := names 18) (show m.se = .ofNat 0 from (congrArg Mg.se hkp).symm)
    have eL : (eqF m.ba (.ofNat 0) || !eqF m.ba m.cu) = true := by rw [zba]; rfl
    have eD : (!noneD m || zD m.d) = true := by rw [show zD m.d = true by rw [show m.d = (fun _ => 0) from (congrArg Mg.d hkp).symm]; exact decide_eq_true rfl, Bool.or_true]
    have eA : (!ltF (.ofNat 3000) (.ofNat (slen l m.tb))) = true := by rw [show m.tb = .no from (congrArg Mg.tb hkp).symm]; rfl
    have e16 : p16 l m = (eqF (.ofNat (slen l m.dg)) (.ofNat 32) || (eqF (.ofNat (slen l m.dg)) (.ofNat 0) && eqF m.k (.ofNat 7))) := by unfold p16; rw [hk]; generalize eqF (.ofNat (slen l m.dg)) (.ofNat 0) = x; generalize eqF (.ofNat (slen l m.dg)) (.ofNat 32) = y; cases x <;> cases y <;> rfl
    have ew : withinAll l m (names 18) = ((in3 (.ofNat 0) m.bk (.ofNat 63)) && ((eqF (.ofNat (slen l m.dg)) (.ofNat 32) || (eqF (.ofNat (slen l m.dg)) (.ofNat 0) && eqF m.k (.ofNat 7))) && true)) := rfl
    rw [ew, k1, k2, p4_eq, en, eb, er, es, ek, e6, e14, e16, eT, eL, eD, eA]
    generalize (in3 (.ofNat 0) m.bk (.ofNat 63)) = x0
    generalize (eqF (.ofNat (slen l m.dg)) (.ofNat 32) || (eqF (.ofNat (slen l m.dg)) (.ofNat 0) && eqF m.k (.ofNat 7))) = x1
    cases x0 <;> cases x1 <;> rfl
theorem mayR_19 (hk : m.k = .ofNat 19) (hkp : keepAll m (names 19) (z0 m.k) = m) {n : Nat} (hse : m.se = .ofNat n) (hn : n < 2 ^ 64) : mayR l m (names 19) = withinAll l m (names 19) := by
    unfold mayR
    have k1 : ltF m.k (.ofNat 1) = false := by rw [hk]; rfl
    have k2 : ltF (.ofNat 19) m.k = false := by rw [hk]; rfl
    have en : inF (hasL (names 19) 110) (.ofNat 0) m.nd (.ofNat 1) = true := inF_f (congrArg Mg.nd hkp).symm
    have eb : inF (hasL (names 19) 98) (.ofNat 1) m.bl (.ofNat 64) = true := inF_f (congrArg Mg.bl hkp).symm
    have er : inF (hasL (names 19) 114) (.ofNat 1) m.ro (.ofNat 2) = true := inF_f (congrArg Mg.ro hkp).symm
    have es : inF (hasL (names 19) 115) (.ofNat 1) m.sa (.ofNat 4) = true := inF_f (congrArg Mg.sa hkp).symm
    have ek : inF (hasL (names 19) 107) (.ofNat 0) m.bk (.ofNat 63) = in3 (.ofNat 0) m.bk (.ofNat 63) := inF_t
    have zcu : m.cu = .ofNat 0 := (congrArg Mg.cu hkp).symm
    have zba : m.ba = .ofNat 0 := (congrArg Mg.ba hkp).symm
    have zh0 : m.h0 = .ofNat 0 := (congrArg Mg.h0 hkp).symm
    have zh1 : m.h1 = .ofNat 0 := (congrArg Mg.h1 hkp).symm
    have e6 := p6_eq (m := m) (s := names 19) (.inr (by unfold zL; rw [zcu, zba, zh0, zh1]; rfl)) (.inr (congrArg Mg.cr hkp).symm) (.inr (by rw [show m.nu = .ofNat 0 from (congrArg Mg.nu hkp).symm]; rfl)) (.inl rfl)
    have e14 := p14_eq (l := l) (m := m) (s := names 19) (.inr (by rw [show m.d = (fun _ => 0) from (congrArg Mg.d hkp).symm]; exact decide_eq_true rfl)) (.inr (by rw [show m.tb = .no from (congrArg Mg.tb hkp).symm]; rfl))
    have eT := pT_zero (s := names 19) (show m.se = .ofNat 0 from (congrArg Mg.se hkp).symm)
    have eL : (eqF m.ba (.ofNat 0) || !eqF m.ba m.cu) = true := by rw [zba]; rfl
    have eD : (!noneD m || zD m.d) = true := by rw [show zD m.d = true by rw [show m.d = (fun _ => 0) from (congrArg Mg.d hkp).symm]; exact decide_eq_true rfl, Bool.or_true]
    have eA : (!ltF (.ofNat 3000) (.ofNat (slen l m.tb))) = true := by rw [show m.tb = .no from (congrArg Mg.tb hkp).symm]; rfl
    have e16 : p16 l m = true := by unfold p16; rw [hk, show m.dg = .no from (congrArg Mg.dg hkp).symm]; rfl
    have ew : withinAll l m (names 19) = ((in3 (.ofNat 0) m.bk (.ofNat 63)) && ((true) && true)) := rfl
    rw [ew, k1, k2, p4_eq, en, eb, er, es, ek, e6, e14, e16, eT, eL, eD, eA]
    generalize (in3 (.ofNat 0) m.bk (.ofNat 63)) = x0
    cases x0 <;> rfl
theorem mayR_M (hk : m.k = .ofNat K) (hkp : keepAll m (names K) (z0 m.k) = m) {n : Nat} (hse : m.se = .ofNat n) (hn : n < 2 ^ 64) : mayR l m (names K) = mayM l m (names K) := by
  unfold mayM
  rw [hkp, sameM_self, Bool.and_true]
  have hlt : ∀ W : Bool, K ≠ 0 → K < 20 → (bif ltF m.k (.ofNat 1) then false else bif ltF (.ofNat 19) m.k then false else W) = W := fun W h1 h2 => by
    rw [hk, ltF_nn, ltF_nn, decide_eq_false (show ¬ K < 1 by omega), decide_eq_false (show ¬ 19 < K by omega)]
    rfl
  by_cases g0 : K = 0
  · unfold mayR; rw [hk, g0]; rfl
  by_cases g : 19 < K
  · unfold mayR
    rw [hk, ltF_nn, ltF_nn, decide_eq_true g]
    cases decide (K < 1) <;> rfl
  rw [hlt _ g0 (by omega)]
  by_cases e1 : K = 1
  · subst e1; exact mayR_1 hk hkp hse hn
  by_cases e2 : K = 2
  · subst e2; exact mayR_2 hk hkp hse hn
  by_cases e3 : K = 3
  · subst e3; exact mayR_3 hk hkp hse hn
  by_cases e4 : K = 4
  · subst e4; exact mayR_4 hk hkp hse hn
  by_cases e5 : K = 5
  · subst e5; exact mayR_5 hk hkp hse hn
  by_cases e6 : K = 6
  · subst e6; exact mayR_6 hk hkp hse hn
  by_cases e7 : K = 7
  · subst e7; exact mayR_7 hk hkp hse hn
  by_cases e8 : K = 8
  · subst e8; exact mayR_8 hk hkp hse hn
  by_cases e9 : K = 9
  · subst e9; exact mayR_9 hk hkp hse hn
  by_cases e10 : K = 10
  · subst e10; exact mayR_10 hk hkp hse hn
  by_cases e11 : K = 11
  · subst e11; exact mayR_11 hk hkp hse hn
  by_cases e12 : K = 12
  · subst e12; exact mayR_12 hk hkp hse hn
  by_cases e13 : K = 13
  · subst e13; exact mayR_13 hk hkp hse hn
  by_cases e14 : K = 14
  · subst e14; exact mayR_14 hk hkp hse hn
  by_cases e15 : K = 15
  · subst e15; exact mayR_15 hk hkp hse hn
  by_cases e16 : K = 16
  · subst e16; exact mayR_16 hk hkp hse hn
  by_cases e17 : K = 17
  · subst e17; exact mayR_17 hk hkp hse hn
  by_cases e18 : K = 18
  · subst e18; exact mayR_18 hk hkp hse hn
  by_cases e19 : K = 19
  · subst e19; exact mayR_19 hk hkp hse hn
  omega
theorem SE_keep : keepAll (SE l).m (names (kN l)) (z0 (SE l).m.k) = (SE l).m := kept (o := toO l 0 false 1) (bad := toB l 0 false 1) (k := .ofNat (kN l)) (kN l)
theorem SE_k : (SE l).m.k = .ofNat (kN l) := keptK (o := toO l 0 false 1) (bad := toB l 0 false 1) (k := .ofNat (kN l)) (kN l)
theorem SE_may (hB : ∀ x, x ∈ l → x < 256) : mayR l (SE l).m (names (kN l)) = mayM l (SE l).m (names (kN l)) := by
  obtain ⟨n, hn, hs⟩ := keptS (o := toO l 0 false 1) (bad := toB l 0 false 1) (k := .ofNat (kN l)) hB (kN l)
  exact mayR_M SE_k SE_keep hs hn
end
end Go.Proofs.Ytlnohbilfogheaa.mrd
end
