/-
  PROVED HERE: 'Rows.MessageReadsSaid': for every row of bytes the call of the law's function returns true, and the row reads as it did. No condition. THE WALK is a run of the function's text in an abstract machine (the texts WaA to WaF show that it is sound), with the row open; message.Of and the document's own reading by contracts of their own (the texts MsA to MsC), the two checks of a message too (MsD, MsE; that they agree is plain); the known ones, and no bytes at all, by runs that the kernel reckons.
-/
import Derived.Test.YtlnohbilfogheaaRows
import Derived.Test.YtlnohbilfogheaaWaE
import Derived.WalkKit
import Derived.ProofKit
import Derived.Deep.QuietTactic
import Derived.BigQuiet
import Derived.Deep.LoopGhost
import Derived.Test.YtlnohbilfogheaaMsE
import Derived.KernelRfl
import Derived.OpenShut
import Derived.ShutString
import Derived.ChangeOld
import Derived.ChangeSlices
import Derived.Below
import Derived.Deep.SlicePairs
import Derived.Deep.Grids
import Derived.WideKeyArgs
section
namespace Go.Proofs.Ytlnohbilfogheaa.eqs
set_option linter.unusedVariables false
open Go.RowKit
set_option maxHeartbeats 1000000 in
theorem equal_same (b off n c1 c2 : Nat) (zs : List Int) (w : World) (hz : n ≤ zs.length) (hbig : n ≤ 9223372036854775807)
    (hc : ∀ j, j < n → w.cell? ⟨b, off + j, none⟩ = some (.int .u8 (zs.getD j 0))) :
    Calls Try.prog 65 #[.slice (some ⟨b, off, none⟩) n c1, .slice (some ⟨b, off, none⟩) n c2] w fun e w' => e = .returned (.bool true) ∧ ∃ k, w' = w.drewN k := by
  go_enter Try.func65, Try.ntmps65
  go_wp2
  go_loopw [5, 13] (fun _ i wr => ∃ k : Nat, k ≤ n ∧ i = .int .i64 k ∧ ∃ q, wr = w.drewN q) (fun _ i _ => n - (intOf i).toNat)
  case atStart => exact ⟨0, Nat.zero_le _, rfl, 0, rfl⟩
  case round =>
    obtain ⟨k, hk, rfl, q, rfl⟩ := hrel
    by_cases hlt : k < n
    · have hcell : w.cell? ⟨b, off + k, none⟩ = some (.int .u8 (zs.getD k 0)) := hc k hlt
      have hlt' : (k : Int) < (n : Int) := by omega
      have h0 : 0 ≤ (k : Int) := by omega
      clear hc
      go_wp2
      go_quiet (fail)
      go_wp2
      go_roundw
      case rel => exact ⟨k + 1, by omega, by go_num, _, rfl⟩
      case measure => simp [intOf]; omega
    · obtain rfl : k = n := by omega
      go_wp2
      go_ret
      exact ⟨rfl, q, rfl⟩
theorem same : Ax.EqSame Try.prog 65 := fun b off n c1 c2 zs w hz hb hc => (equal_same b off n c1 c2 zs w hz hb hc).mono fun _ _ ⟨h, k, e⟩ => ⟨h, _, e⟩
theorem ok : Ax.CallsOK Try.prog (Ax.sumEqS 65) := Ax.sumEqS_ok Try.call65 same
end Go.Proofs.Ytlnohbilfogheaa.eqs
end

section
open Go Go.Ax Go.Proofs.Ytlnohbilfogheaa Go.Proofs.Ytlnohbilfogheaa.rdr Go.Proofs.Ytlnohbilfogheaa.rrq
namespace Go.Proofs.Ytlnohbilfogheaa.mrd
set_option linter.unusedVariables false
noncomputable def fns : List (Nat × Func) := [(8, Try.f8), (14, Try.f14), (28, Try.f28), (29, Try.f29), (30, Try.f30), (31, Try.f31), (32, Try.f32), (36, Try.f36), (37, Try.f37), (38, Try.f38), (43, Try.f43), (44, Try.f44), (46, Try.f46), (47, Try.f47), (62, Try.f62), (63, Try.f63), (65, Try.f65), (71, Try.f71), (72, Try.f72), (73, Try.f73), (74, Try.f74), (78, Try.f78), (79, Try.f79), (93, Try.f93), (96, Try.f96), (97, Try.f97), (98, Try.f98), (99, Try.f99), (100, Try.f100), (101, Try.f101), (102, Try.f102), (103, Try.f103), (104, Try.f104), (105, Try.f105), (106, Try.f106), (107, Try.f107), (108, Try.f108), (109, Try.f109), (110, Try.f110), (111, Try.f111), (112, Try.f112), (113, Try.f113), (114, Try.f114), (115, Try.f115), (116, Try.f116), (117, Try.f117), (118, Try.f118), (127, Try.f127), (128, Try.f128), (129, Try.f129), (130, Try.f130), (131, Try.f131), (132, Try.f132), (133, Try.f133), (134, Try.f134), (135, Try.f135), (136, Try.f136), (137, Try.f137), (138, Try.f138), (139, Try.f139), (140, Try.f140), (141, Try.f141), (142, Try.f142), (143, Try.f143), (144, Try.f144), (145, Try.f145), (146, Try.f146)]
theorem fnsOk : Go.Ax.AllFn Try.prog fns :=
  ⟨⟨Try.func8, Try.call8⟩, ⟨Try.func14, Try.call14⟩, ⟨Try.func28, Try.call28⟩, ⟨Try.func29, Try.call29⟩, ⟨Try.func30, Try.call30⟩, ⟨Try.func31, Try.call31⟩, ⟨Try.func32, Try.call32⟩, ⟨Try.func36, Try.call36⟩, ⟨Try.func37, Try.call37⟩, ⟨Try.func38, Try.call38⟩, ⟨Try.func43, Try.call43⟩, ⟨Try.func44, Try.call44⟩, ⟨Try.func46, Try.call46⟩, ⟨Try.func47, Try.call47⟩, ⟨Try.func62, Try.call62⟩, ⟨Try.func63, Try.call63⟩, ⟨Try.func65, Try.call65⟩, ⟨Try.func71, Try.call71⟩, ⟨Try.func72, Try.call72⟩, ⟨Try.func73, Try.call73⟩, ⟨Try.func74, Try.call74⟩, ⟨Try.func78, Try.call78⟩, ⟨Try.func79, Try.call79⟩, ⟨Try.func93, Try.call93⟩, ⟨Try.func96, Try.call96⟩, ⟨Try.func97, Try.call97⟩, ⟨Try.func98, Try.call98⟩, ⟨Try.func99, Try.call99⟩, ⟨Try.func100, Try.call100⟩, ⟨Try.func101, Try.call101⟩, ⟨Try.func102, Try.call102⟩, ⟨Try.func103, Try.call103⟩, ⟨Try.func104, Try.call104⟩, ⟨Try.func105, Try.call105⟩, ⟨Try.func106, Try.call106⟩, ⟨Try.func107, Try.call107⟩, ⟨Try.func108, Try.call108⟩, ⟨Try.func109, Try.call109⟩, ⟨Try.func110, Try.call110⟩, ⟨Try.func111, Try.call111⟩, ⟨Try.func112, Try.call112⟩, ⟨Try.func113, Try.call113⟩, ⟨Try.func114, Try.call114⟩, ⟨Try.func115, Try.call115⟩, ⟨Try.func116, Try.call116⟩, ⟨Try.func117, Try.call117⟩, ⟨Try.func118, Try.call118⟩, ⟨Try.func127, Try.call127⟩, ⟨Try.func128, Try.call128⟩, ⟨Try.func129, Try.call129⟩, ⟨Try.func130, Try.call130⟩, ⟨Try.func131, Try.call131⟩, ⟨Try.func132, Try.call132⟩, ⟨Try.func133, Try.call133⟩, ⟨Try.func134, Try.call134⟩, ⟨Try.func135, Try.call135⟩, ⟨Try.func136, Try.call136⟩, ⟨Try.func137, Try.call137⟩, ⟨Try.func138, Try.call138⟩, ⟨Try.func139, Try.call139⟩, ⟨Try.func140, Try.call140⟩, ⟨Try.func141, Try.call141⟩, ⟨Try.func142, Try.call142⟩, ⟨Try.func143, Try.call143⟩, ⟨Try.func144, Try.call144⟩, ⟨Try.func145, Try.call145⟩, ⟨Try.func146, Try.call146⟩, trivial⟩
noncomputable def EK : Env := envOf Try.prog (List.range 190) fns
theorem EKok : Env.Ok Try.prog EK := envOf_ok fnsOk (by kernel_rfl)
theorem known0 : AtMem Try.prog 32 [] (mkSt [] 0) (.bool true) := AtMem.of_run EKok eqs.ok (n := 300) (by kernel_rfl)
theorem known (S : ASt) : Call1 Try.prog 32 [] S (.bool true, S) := Call1.pure known0 (by simp [refsV]) fun a ha => by cases ha
end Go.Proofs.Ytlnohbilfogheaa.mrd
end

section
open Go Go.Ax Go.Proofs.Ytlnohbilfogheaa Go.Proofs.Ytlnohbilfogheaa.rdr Go.Proofs.Ytlnohbilfogheaa.rrq
namespace Go.Proofs.Ytlnohbilfogheaa.mrd
set_option linter.unusedVariables false
noncomputable def fns9 : List (Nat × Func) := [(8, Try.f8), (9, Try.f9), (14, Try.f14), (28, Try.f28), (29, Try.f29), (30, Try.f30), (31, Try.f31), (32, Try.f32), (33, Try.f33), (34, Try.f34), (35, Try.f35), (36, Try.f36), (37, Try.f37), (38, Try.f38), (43, Try.f43), (44, Try.f44), (46, Try.f46), (47, Try.f47), (60, Try.f60), (61, Try.f61), (62, Try.f62), (63, Try.f63), (64, Try.f64), (65, Try.f65), (66, Try.f66), (67, Try.f67), (68, Try.f68), (71, Try.f71), (72, Try.f72), (73, Try.f73), (74, Try.f74), (75, Try.f75), (76, Try.f76), (77, Try.f77), (78, Try.f78), (79, Try.f79), (80, Try.f80), (93, Try.f93), (94, Try.f94), (96, Try.f96), (97, Try.f97), (98, Try.f98), (99, Try.f99), (100, Try.f100), (101, Try.f101), (102, Try.f102), (103, Try.f103), (104, Try.f104), (105, Try.f105), (106, Try.f106), (107, Try.f107), (108, Try.f108), (109, Try.f109), (110, Try.f110), (111, Try.f111), (112, Try.f112), (113, Try.f113), (114, Try.f114), (115, Try.f115), (116, Try.f116), (117, Try.f117), (118, Try.f118), (119, Try.f119), (120, Try.f120), (127, Try.f127), (128, Try.f128), (129, Try.f129), (130, Try.f130), (131, Try.f131), (132, Try.f132), (133, Try.f133), (134, Try.f134), (135, Try.f135), (136, Try.f136), (137, Try.f137), (138, Try.f138), (139, Try.f139), (140, Try.f140), (141, Try.f141), (142, Try.f142), (143, Try.f143), (144, Try.f144), (145, Try.f145), (146, Try.f146)]
theorem fns9Ok : AllFn Try.prog fns9 := ⟨⟨Try.func8, Try.call8⟩, ⟨Try.func9, Try.call9⟩, ⟨Try.func14, Try.call14⟩, ⟨Try.func28, Try.call28⟩, ⟨Try.func29, Try.call29⟩, ⟨Try.func30, Try.call30⟩, ⟨Try.func31, Try.call31⟩, ⟨Try.func32, Try.call32⟩, ⟨Try.func33, Try.call33⟩, ⟨Try.func34, Try.call34⟩, ⟨Try.func35, Try.call35⟩, ⟨Try.func36, Try.call36⟩, ⟨Try.func37, Try.call37⟩, ⟨Try.func38, Try.call38⟩, ⟨Try.func43, Try.call43⟩, ⟨Try.func44, Try.call44⟩, ⟨Try.func46, Try.call46⟩, ⟨Try.func47, Try.call47⟩, ⟨Try.func60, Try.call60⟩, ⟨Try.func61, Try.call61⟩, ⟨Try.func62, Try.call62⟩, ⟨Try.func63, Try.call63⟩, ⟨Try.func64, Try.call64⟩, ⟨Try.func65, Try.call65⟩, ⟨Try.func66, Try.call66⟩, ⟨Try.func67, Try.call67⟩, ⟨Try.func68, Try.call68⟩, ⟨Try.func71, Try.call71⟩, ⟨Try.func72, Try.call72⟩, ⟨Try.func73, Try.call73⟩, ⟨Try.func74, Try.call74⟩, ⟨Try.func75, Try.call75⟩, ⟨Try.func76, Try.call76⟩, ⟨Try.func77, Try.call77⟩, ⟨Try.func78, Try.call78⟩, ⟨Try.func79, Try.call79⟩, ⟨Try.func80, Try.call80⟩, ⟨Try.func93, Try.call93⟩, ⟨Try.func94, Try.call94⟩, ⟨Try.func96, Try.call96⟩, ⟨Try.func97, Try.call97⟩, ⟨Try.func98, Try.call98⟩, ⟨Try.func99, Try.call99⟩, ⟨Try.func100, Try.call100⟩, ⟨Try.func101, Try.call101⟩, ⟨Try.func102, Try.call102⟩, ⟨Try.func103, Try.call103⟩, ⟨Try.func104, Try.call104⟩, ⟨Try.func105, Try.call105⟩, ⟨Try.func106, Try.call106⟩, ⟨Try.func107, Try.call107⟩, ⟨Try.func108, Try.call108⟩, ⟨Try.func109, Try.call109⟩, ⟨Try.func110, Try.call110⟩, ⟨Try.func111, Try.call111⟩, ⟨Try.func112, Try.call112⟩, ⟨Try.func113, Try.call113⟩, ⟨Try.func114, Try.call114⟩, ⟨Try.func115, Try.call115⟩, ⟨Try.func116, Try.call116⟩, ⟨Try.func117, Try.call117⟩, ⟨Try.func118, Try.call118⟩, ⟨Try.func119, Try.call119⟩, ⟨Try.func120, Try.call120⟩, ⟨Try.func127, Try.call127⟩, ⟨Try.func128, Try.call128⟩, ⟨Try.func129, Try.call129⟩, ⟨Try.func130, Try.call130⟩, ⟨Try.func131, Try.call131⟩, ⟨Try.func132, Try.call132⟩, ⟨Try.func133, Try.call133⟩, ⟨Try.func134, Try.call134⟩, ⟨Try.func135, Try.call135⟩, ⟨Try.func136, Try.call136⟩, ⟨Try.func137, Try.call137⟩, ⟨Try.func138, Try.call138⟩, ⟨Try.func139, Try.call139⟩, ⟨Try.func140, Try.call140⟩, ⟨Try.func141, Try.call141⟩, ⟨Try.func142, Try.call142⟩, ⟨Try.func143, Try.call143⟩, ⟨Try.func144, Try.call144⟩, ⟨Try.func145, Try.call145⟩, ⟨Try.func146, Try.call146⟩, trivial⟩
noncomputable def EZ : Env := envOf Try.prog (List.range 190) fns9
theorem EZok : Env.Ok Try.prog EZ := envOf_ok fns9Ok (by kernel_rfl)
theorem lawN : AtMem Try.prog 9 [.slice none 0 (.known 0)] (mkSt [(0, .dead)] 1) (.bool true) := AtMem.of_run EZok eqs.ok (n := 300) (by kernel_rfl)
theorem lawZ : AtMem Try.prog 9 [.slice0] (mkSt [(0, .dead)] 1) (.bool true) := AtMem.of_run EZok eqs.ok (n := 300) (by kernel_rfl)
end Go.Proofs.Ytlnohbilfogheaa.mrd
end

section
open Go Go.Ax Go.Proofs.Ytlnohbilfogheaa Go.Proofs.Ytlnohbilfogheaa.rdr Go.Proofs.Ytlnohbilfogheaa.rrq
namespace Go.Proofs.Ytlnohbilfogheaa.mrd
set_option linter.unusedVariables false
noncomputable def E9 : Env := envEx Try.prog [0, 3, 4, 5, 9, 25, 28, 33, 39, 72, 75, 76, 77, 79, 81, 83, 85] [(9, Try.f9), (35, Try.f35), (36, Try.f36)] []
noncomputable def sm9 (q : CallT) : CallT := onlyC [32, 33, 34] q
noncomputable def m33 (R R2 : AO) : ASt := mkSt [(0, R), (4, R2)] 42
noncomputable def tYg (q : CallT) (R R2 : AO) (n : Nat) (k nd bl ro sa cu ba h0 h1 : Int) (cr : Bool) (se : Int) (tb : AV) (nu bk : Int) (d : Nat → Nat) (dg : AV) (ys : Bool) (tb' dg' : AV) (a1 a2 : List Nat) : Tr (AV × ASt) := (TM E9 (sm9 q) [(9, ⟨[8, 10, 13, 18, 40], [23], [9], []⟩), (35, ⟨[9, 15, 22, 29, 36, 43, 50, 57, 62, 65, 66, 73, 80, 87, 92, 95, 96, 103], [], [], []⟩)] fl0 60).call 9 [.slice (some (0, 0)) n (.atl n)] (mkSt [(0, R)] 1)
noncomputable def tYb (q : CallT) (R R2 : AO) (n : Nat) (k nd bl ro sa cu ba h0 h1 : Int) (cr : Bool) (se : Int) (tb : AV) (nu bk : Int) (d : Nat → Nat) (dg : AV) (ys : Bool) (tb' dg' : AV) (a1 a2 : List Nat) : Tr (AV × ASt) := (TM E9 (sm9 q) [(9, ⟨[8, 10, 13, 18, 40], [23], [9], []⟩), (35, ⟨[9, 15, 22, 29, 36, 43, 50, 57, 62, 65, 66, 73, 80, 87, 92, 95, 96, 103], [], [], []⟩)] fl0 60).call 9 [.slice (some (0, 0)) n (.atl n)] (mkSt [(0, R)] 1)
noncomputable def vcYg_s0 (R : AO) (R2 : AO) (n : Nat) (k : Int) (nd : Int) (bl : Int) (ro : Int) (sa : Int) (cu : Int) (ba : Int) (h0 : Int) (h1 : Int) (cr : Bool) (se : Int) (tb : AV) (nu : Int) (bk : Int) (d : Nat → Nat) (dg : AV) (ys : Bool) (tb' : AV) (dg' : AV) (a1 : List Nat) (a2 : List Nat) : ASt := mkSt [(0, R)] 1
noncomputable def vcYg_s1 (R : AO) (R2 : AO) (n : Nat) (k : Int) (nd : Int) (bl : Int) (ro : Int) (sa : Int) (cu : Int) (ba : Int) (h0 : Int) (h1 : Int) (cr : Bool) (se : Int) (tb : AV) (nu : Int) (bk : Int) (d : Nat → Nat) (dg : AV) (ys : Bool) (tb' : AV) (dg' : AV) (a1 : List Nat) (a2 : List Nat) : ASt := mkSt [(0, R), (4, R2)] 42
noncomputable def vcYg_s2 (R : AO) (R2 : AO) (n : Nat) (k : Int) (nd : Int) (bl : Int) (ro : Int) (sa : Int) (cu : Int) (ba : Int) (h0 : Int) (h1 : Int) (cr : Bool) (se : Int) (tb : AV) (nu : Int) (bk : Int) (d : Nat → Nat) (dg : AV) (ys : Bool) (tb' : AV) (dg' : AV) (a1 : List Nat) (a2 : List Nat) : ASt := mkSt [(0, R), (4, R2), (42, AO.cells (msgL k nd bl ro sa cu ba h0 h1 cr se tb nu bk d dg ys) true)] 43
noncomputable def vcYg_s3 (R : AO) (R2 : AO) (n : Nat) (k : Int) (nd : Int) (bl : Int) (ro : Int) (sa : Int) (cu : Int) (ba : Int) (h0 : Int) (h1 : Int) (cr : Bool) (se : Int) (tb : AV) (nu : Int) (bk : Int) (d : Nat → Nat) (dg : AV) (ys : Bool) (tb' : AV) (dg' : AV) (a1 : List Nat) (a2 : List Nat) : ASt := mkSt [(0, R), (4, R2), (42, AO.cells (msgL k nd bl ro sa cu ba h0 h1 cr se tb nu bk d dg ys) true)] 51
noncomputable def vcYg_s4 (R : AO) (R2 : AO) (n : Nat) (k : Int) (nd : Int) (bl : Int) (ro : Int) (sa : Int) (cu : Int) (ba : Int) (h0 : Int) (h1 : Int) (cr : Bool) (se : Int) (tb : AV) (nu : Int) (bk : Int) (d : Nat → Nat) (dg : AV) (ys : Bool) (tb' : AV) (dg' : AV) (a1 : List Nat) (a2 : List Nat) : ASt := mkSt [(0, R), (4, R2), (42, AO.cells (msgL k nd bl ro sa cu ba h0 h1 cr se tb nu bk d dg ys) true), (51, AO.cells (msgL k nd bl ro sa cu ba h0 h1 cr se tb' nu bk d dg' ys) true), (52, AO.cells (msgL k nd bl ro sa cu ba h0 h1 cr se tb nu bk d dg ys) true), (53, AO.cells (msgL k nd bl ro sa cu ba h0 h1 cr se tb' nu bk d dg' ys) true)] 54
noncomputable def vcYg_s5 (R : AO) (R2 : AO) (n : Nat) (k : Int) (nd : Int) (bl : Int) (ro : Int) (sa : Int) (cu : Int) (ba : Int) (h0 : Int) (h1 : Int) (cr : Bool) (se : Int) (tb : AV) (nu : Int) (bk : Int) (d : Nat → Nat) (dg : AV) (ys : Bool) (tb' : AV) (dg' : AV) (a1 : List Nat) (a2 : List Nat) : ASt := mkSt [(0, R)] 54
theorem vcYg (q : CallT) (R : AO) (R2 : AO) (n : Nat) (k : Int) (nd : Int) (bl : Int) (ro : Int) (sa : Int) (cu : Int) (ba : Int) (h0 : Int) (h1 : Int) (cr : Bool) (se : Int) (tb : AV) (nu : Int) (bk : Int) (d : Nat → Nat) (dg : AV) (ys : Bool) (tb' : AV) (dg' : AV) (a1 : List Nat) (a2 : List Nat) (Q : AV × ASt → Prop) :
  (aBuiltinM E9 Builtin.len [25] [AV.slice (some (0, 0)) n (Cap.atl n)] (vcYg_s0 R R2 n k nd bl ro sa cu ba h0 h1 cr se tb nu bk d dg ys tb' dg' a1 a2) = some (AV.int IntKind.i64 (Int.ofNat n), vcYg_s0 R R2 n k nd bl ro sa cu ba h0 h1 cr se tb nu bk d dg ys tb' dg' a1 a2) ∧ ifB (ltF (Int.ofNat 9000) (Int.ofNat n)) ((M E9 (drawA E9) (sm9 q) 53).call 32 [] (vcYg_s0 R R2 n k nd bl ro sa cu ba h0 h1 cr se tb nu bk d dg ys tb' dg' a1 a2) = some (AV.bool true, vcYg_s0 R R2 n k nd bl ro sa cu ba h0 h1 cr se tb nu bk d dg ys tb' dg' a1 a2) ∧ Q (AV.bool true, vcYg_s0 R R2 n k nd bl ro sa cu ba h0 h1 cr se tb nu bk d dg ys tb' dg' a1 a2)) ((M E9 (drawA E9) (sm9 q) 55).call 33 [AV.slice (some (0, 0)) n (Cap.atl n)] (vcYg_s0 R R2 n k nd bl ro sa cu ba h0 h1 cr se tb nu bk d dg ys tb' dg' a1 a2) = some (AV.tuple [AV.agg (msgL k nd bl ro sa cu ba h0 h1 cr se tb nu bk d dg ys), AV.int IntKind.i64 (Int.ofNat 0)], vcYg_s1 R R2 n k nd bl ro sa cu ba h0 h1 cr se tb nu bk d dg ys tb' dg' a1 a2) ∧ (M E9 (drawA E9) (sm9 q) 54).call 34 [AV.slice (some (0, 0)) n (Cap.atl n)] (vcYg_s2 R R2 n k nd bl ro sa cu ba h0 h1 cr se tb nu bk d dg ys tb' dg' a1 a2) = some (AV.tuple [AV.agg (msgL k nd bl ro sa cu ba h0 h1 cr se tb' nu bk d dg' ys), AV.bool true], vcYg_s3 R R2 n k nd bl ro sa cu ba h0 h1 cr se tb nu bk d dg ys tb' dg' a1 a2) ∧ still (vcYg_s4 R R2 n k nd bl ro sa cu ba h0 h1 cr se tb nu bk d dg ys tb' dg' a1 a2) (aBin E9 BinOp.eql 72 (Operand.tmp 6) (Operand.tmp 8) (AV.int IntKind.i64 k) (AV.int IntKind.i64 k)) = some (AV.bool true, vcYg_s4 R R2 n k nd bl ro sa cu ba h0 h1 cr se tb nu bk d dg ys tb' dg' a1 a2) ∧ still (vcYg_s4 R R2 n k nd bl ro sa cu ba h0 h1 cr se tb nu bk d dg ys tb' dg' a1 a2) (aBin E9 BinOp.eql 3 (Operand.tmp 12) (Operand.tmp 14) (AV.int IntKind.i64 nd) (AV.int IntKind.i64 nd)) = some (AV.bool true, vcYg_s4 R R2 n k nd bl ro sa cu ba h0 h1 cr se tb nu bk d dg ys tb' dg' a1 a2) ∧ still (vcYg_s4 R R2 n k nd bl ro sa cu ba h0 h1 cr se tb nu bk d dg ys tb' dg' a1 a2) (aBin E9 BinOp.eql 3 (Operand.tmp 19) (Operand.tmp 21) (AV.int IntKind.i64 bl) (AV.int IntKind.i64 bl)) = some (AV.bool true, vcYg_s4 R R2 n k nd bl ro sa cu ba h0 h1 cr se tb nu bk d dg ys tb' dg' a1 a2) ∧ still (vcYg_s4 R R2 n k nd bl ro sa cu ba h0 h1 cr se tb nu bk d dg ys tb' dg' a1 a2) (aBin E9 BinOp.eql 75 (Operand.tmp 26) (Operand.tmp 28) (AV.int IntKind.i64 ro) (AV.int IntKind.i64 ro)) = some (AV.bool true, vcYg_s4 R R2 n k nd bl ro sa cu ba h0 h1 cr se tb nu bk d dg ys tb' dg' a1 a2) ∧ still (vcYg_s4 R R2 n k nd bl ro sa cu ba h0 h1 cr se tb nu bk d dg ys tb' dg' a1 a2) (aBin E9 BinOp.eql 76 (Operand.tmp 33) (Operand.tmp 35) (AV.int IntKind.i64 sa) (AV.int IntKind.i64 sa)) = some (AV.bool true, vcYg_s4 R R2 n k nd bl ro sa cu ba h0 h1 cr se tb nu bk d dg ys tb' dg' a1 a2) ∧ still (vcYg_s4 R R2 n k nd bl ro sa cu ba h0 h1 cr se tb nu bk d dg ys tb' dg' a1 a2) (aBin E9 BinOp.eql 79 (Operand.tmp 40) (Operand.tmp 42) (AV.agg [AV.int IntKind.u64 cu, AV.int IntKind.u64 ba, AV.int IntKind.u64 h0, AV.int IntKind.u64 h1]) (AV.agg [AV.int IntKind.u64 cu, AV.int IntKind.u64 ba, AV.int IntKind.u64 h0, AV.int IntKind.u64 h1])) = some (AV.bool true, vcYg_s4 R R2 n k nd bl ro sa cu ba h0 h1 cr se tb nu bk d dg ys tb' dg' a1 a2) ∧ still (vcYg_s4 R R2 n k nd bl ro sa cu ba h0 h1 cr se tb nu bk d dg ys tb' dg' a1 a2) (aBin E9 BinOp.eql 4 (Operand.tmp 47) (Operand.tmp 49) (AV.bool cr) (AV.bool cr)) = some (AV.bool true, vcYg_s4 R R2 n k nd bl ro sa cu ba h0 h1 cr se tb nu bk d dg ys tb' dg' a1 a2) ∧ still (vcYg_s4 R R2 n k nd bl ro sa cu ba h0 h1 cr se tb nu bk d dg ys tb' dg' a1 a2) (aBin E9 BinOp.eql 28 (Operand.tmp 54) (Operand.tmp 56) (AV.int IntKind.u64 se) (AV.int IntKind.u64 se)) = some (AV.bool true, vcYg_s4 R R2 n k nd bl ro sa cu ba h0 h1 cr se tb nu bk d dg ys tb' dg' a1 a2) ∧ aConvert E9 25 9 tb (vcYg_s4 R R2 n k nd bl ro sa cu ba h0 h1 cr se tb nu bk d dg ys tb' dg' a1 a2) = some (AV.str a1, vcYg_s4 R R2 n k nd bl ro sa cu ba h0 h1 cr se tb nu bk d dg ys tb' dg' a1 a2) ∧ aConvert E9 25 9 tb' (vcYg_s4 R R2 n k nd bl ro sa cu ba h0 h1 cr se tb nu bk d dg ys tb' dg' a1 a2) = some (AV.str a1, vcYg_s4 R R2 n k nd bl ro sa cu ba h0 h1 cr se tb nu bk d dg ys tb' dg' a1 a2) ∧ still (vcYg_s4 R R2 n k nd bl ro sa cu ba h0 h1 cr se tb nu bk d dg ys tb' dg' a1 a2) (aBin E9 BinOp.eql 9 (Operand.tmp 62) (Operand.tmp 65) (AV.str a1) (AV.str a1)) = some (AV.bool true, vcYg_s4 R R2 n k nd bl ro sa cu ba h0 h1 cr se tb nu bk d dg ys tb' dg' a1 a2) ∧ still (vcYg_s4 R R2 n k nd bl ro sa cu ba h0 h1 cr se tb nu bk d dg ys tb' dg' a1 a2) (aBin E9 BinOp.eql 28 (Operand.tmp 70) (Operand.tmp 72) (AV.int IntKind.u64 nu) (AV.int IntKind.u64 nu)) = some (AV.bool true, vcYg_s4 R R2 n k nd bl ro sa cu ba h0 h1 cr se tb nu bk d dg ys tb' dg' a1 a2) ∧ still (vcYg_s4 R R2 n k nd bl ro sa cu ba h0 h1 cr se tb nu bk d dg ys tb' dg' a1 a2) (aBin E9 BinOp.eql 3 (Operand.tmp 77) (Operand.tmp 79) (AV.int IntKind.i64 bk) (AV.int IntKind.i64 bk)) = some (AV.bool true, vcYg_s4 R R2 n k nd bl ro sa cu ba h0 h1 cr se tb nu bk d dg ys tb' dg' a1 a2) ∧ still (vcYg_s4 R R2 n k nd bl ro sa cu ba h0 h1 cr se tb nu bk d dg ys tb' dg' a1 a2) (aBin E9 BinOp.eql 39 (Operand.tmp 84) (Operand.tmp 86) (AV.agg (ddL d)) (AV.agg (ddL d))) = some (AV.bool true, vcYg_s4 R R2 n k nd bl ro sa cu ba h0 h1 cr se tb nu bk d dg ys tb' dg' a1 a2) ∧ aConvert E9 25 9 dg (vcYg_s4 R R2 n k nd bl ro sa cu ba h0 h1 cr se tb nu bk d dg ys tb' dg' a1 a2) = some (AV.str a2, vcYg_s4 R R2 n k nd bl ro sa cu ba h0 h1 cr se tb nu bk d dg ys tb' dg' a1 a2) ∧ aConvert E9 25 9 dg' (vcYg_s4 R R2 n k nd bl ro sa cu ba h0 h1 cr se tb nu bk d dg ys tb' dg' a1 a2) = some (AV.str a2, vcYg_s4 R R2 n k nd bl ro sa cu ba h0 h1 cr se tb nu bk d dg ys tb' dg' a1 a2) ∧ still (vcYg_s4 R R2 n k nd bl ro sa cu ba h0 h1 cr se tb nu bk d dg ys tb' dg' a1 a2) (aBin E9 BinOp.eql 9 (Operand.tmp 92) (Operand.tmp 95) (AV.str a2) (AV.str a2)) = some (AV.bool true, vcYg_s4 R R2 n k nd bl ro sa cu ba h0 h1 cr se tb nu bk d dg ys tb' dg' a1 a2) ∧ still (vcYg_s4 R R2 n k nd bl ro sa cu ba h0 h1 cr se tb nu bk d dg ys tb' dg' a1 a2) (aBin E9 BinOp.eql 4 (Operand.tmp 100) (Operand.tmp 102) (AV.bool ys) (AV.bool ys)) = some (AV.bool true, vcYg_s4 R R2 n k nd bl ro sa cu ba h0 h1 cr se tb nu bk d dg ys tb' dg' a1 a2) ∧ (M E9 (drawA E9) (sm9 q) 53).call 32 [] (vcYg_s4 R R2 n k nd bl ro sa cu ba h0 h1 cr se tb nu bk d dg ys tb' dg' a1 a2) = some (AV.bool true, vcYg_s4 R R2 n k nd bl ro sa cu ba h0 h1 cr se tb nu bk d dg ys tb' dg' a1 a2) ∧ Q (AV.bool true, vcYg_s5 R R2 n k nd bl ro sa cu ba h0 h1 cr se tb nu bk d dg ys tb' dg' a1 a2))) =
  (tYg q R R2 n k nd bl ro sa cu ba h0 h1 cr se tb nu bk d dg ys tb' dg' a1 a2).allY (fun r => Q (r.1, canS [0] r.2)) (An.v (AV.int IntKind.i64 (Int.ofNat n), vcYg_s0 R R2 n k nd bl ro sa cu ba h0 h1 cr se tb nu bk d dg ys tb' dg' a1 a2) (An.b (An.v (AV.bool true, vcYg_s0 R R2 n k nd bl ro sa cu ba h0 h1 cr se tb nu bk d dg ys tb' dg' a1 a2) An.nil) (An.v (AV.tuple [AV.agg (msgL k nd bl ro sa cu ba h0 h1 cr se tb nu bk d dg ys), AV.int IntKind.i64 (Int.ofNat 0)], vcYg_s1 R R2 n k nd bl ro sa cu ba h0 h1 cr se tb nu bk d dg ys tb' dg' a1 a2) (An.v (AV.tuple [AV.agg (msgL k nd bl ro sa cu ba h0 h1 cr se tb' nu bk d dg' ys), AV.bool true], vcYg_s3 R R2 n k nd bl ro sa cu ba h0 h1 cr se tb nu bk d dg ys tb' dg' a1 a2) (An.v (AV.bool true, vcYg_s4 R R2 n k nd bl ro sa cu ba h0 h1 cr se tb nu bk d dg ys tb' dg' a1 a2) (An.v (AV.bool true, vcYg_s4 R R2 n k nd bl ro sa cu ba h0 h1 cr se tb nu bk d dg ys tb' dg' a1 a2) (An.v (AV.bool true, vcYg_s4 R R2 n k nd bl ro sa cu ba h0 h1 cr se tb nu bk d dg ys tb' dg' a1 a2) (An.v (AV.bool true, vcYg_s4 R R2 n k nd bl ro sa cu ba h0 h1 cr se tb nu bk d dg ys tb' dg' a1 a2) (An.v (AV.bool true, vcYg_s4 R R2 n k nd bl ro sa cu ba h0 h1 cr se tb nu bk d dg ys tb' dg' a1 a2) (An.v (AV.bool true, vcYg_s4 R R2 n k nd bl ro sa cu ba h0 h1 cr se tb nu bk d dg ys tb' dg' a1 a2) (An.v (AV.bool true, vcYg_s4 R R2 n k nd bl ro sa cu ba h0 h1 cr se tb nu bk d dg ys tb' dg' a1 a2) (An.v (AV.bool true, vcYg_s4 R R2 n k nd bl ro sa cu ba h0 h1 cr se tb nu bk d dg ys tb' dg' a1 a2) (An.v (AV.str a1, vcYg_s4 R R2 n k nd bl ro sa cu ba h0 h1 cr se tb nu bk d dg ys tb' dg' a1 a2) (An.v (AV.str a1, vcYg_s4 R R2 n k nd bl ro sa cu ba h0 h1 cr se tb nu bk d dg ys tb' dg' a1 a2) (An.v (AV.bool true, vcYg_s4 R R2 n k nd bl ro sa cu ba h0 h1 cr se tb nu bk d dg ys tb' dg' a1 a2) (An.v (AV.bool true, vcYg_s4 R R2 n k nd bl ro sa cu ba h0 h1 cr se tb nu bk d dg ys tb' dg' a1 a2) (An.v (AV.bool true, vcYg_s4 R R2 n k nd bl ro sa cu ba h0 h1 cr se tb nu bk d dg ys tb' dg' a1 a2) (An.v (AV.bool true, vcYg_s4 R R2 n k nd bl ro sa cu ba h0 h1 cr se tb nu bk d dg ys tb' dg' a1 a2) (An.v (AV.str a2, vcYg_s4 R R2 n k nd bl ro sa cu ba h0 h1 cr se tb nu bk d dg ys tb' dg' a1 a2) (An.v (AV.str a2, vcYg_s4 R R2 n k nd bl ro sa cu ba h0 h1 cr se tb nu bk d dg ys tb' dg' a1 a2) (An.v (AV.bool true, vcYg_s4 R R2 n k nd bl ro sa cu ba h0 h1 cr se tb nu bk d dg ys tb' dg' a1 a2) (An.v (AV.bool true, vcYg_s4 R R2 n k nd bl ro sa cu ba h0 h1 cr se tb nu bk d dg ys tb' dg' a1 a2) (An.v (AV.bool true, vcYg_s4 R R2 n k nd bl ro sa cu ba h0 h1 cr se tb nu bk d dg ys tb' dg' a1 a2) An.nil))))))))))))))))))))))) := by kernel_rfl
noncomputable def vcYb_s0 (R : AO) (R2 : AO) (n : Nat) (k : Int) (nd : Int) (bl : Int) (ro : Int) (sa : Int) (cu : Int) (ba : Int) (h0 : Int) (h1 : Int) (cr : Bool) (se : Int) (tb : AV) (nu : Int) (bk : Int) (d : Nat → Nat) (dg : AV) (ys : Bool) (tb' : AV) (dg' : AV) (a1 : List Nat) (a2 : List Nat) : ASt := mkSt [(0, R)] 1
noncomputable def vcYb_s1 (R : AO) (R2 : AO) (n : Nat) (k : Int) (nd : Int) (bl : Int) (ro : Int) (sa : Int) (cu : Int) (ba : Int) (h0 : Int) (h1 : Int) (cr : Bool) (se : Int) (tb : AV) (nu : Int) (bk : Int) (d : Nat → Nat) (dg : AV) (ys : Bool) (tb' : AV) (dg' : AV) (a1 : List Nat) (a2 : List Nat) : ASt := mkSt [(0, R), (4, R2)] 42
noncomputable def vcYb_s2 (R : AO) (R2 : AO) (n : Nat) (k : Int) (nd : Int) (bl : Int) (ro : Int) (sa : Int) (cu : Int) (ba : Int) (h0 : Int) (h1 : Int) (cr : Bool) (se : Int) (tb : AV) (nu : Int) (bk : Int) (d : Nat → Nat) (dg : AV) (ys : Bool) (tb' : AV) (dg' : AV) (a1 : List Nat) (a2 : List Nat) : ASt := mkSt [(0, R), (4, R2), (42, AO.cells (msgL k nd bl ro sa cu ba h0 h1 cr se tb nu bk d dg ys) true)] 43
noncomputable def vcYb_s3 (R : AO) (R2 : AO) (n : Nat) (k : Int) (nd : Int) (bl : Int) (ro : Int) (sa : Int) (cu : Int) (ba : Int) (h0 : Int) (h1 : Int) (cr : Bool) (se : Int) (tb : AV) (nu : Int) (bk : Int) (d : Nat → Nat) (dg : AV) (ys : Bool) (tb' : AV) (dg' : AV) (a1 : List Nat) (a2 : List Nat) : ASt := mkSt [(0, R), (4, R2), (42, AO.cells (msgL k nd bl ro sa cu ba h0 h1 cr se tb nu bk d dg ys) true)] 51
noncomputable def vcYb_s4 (R : AO) (R2 : AO) (n : Nat) (k : Int) (nd : Int) (bl : Int) (ro : Int) (sa : Int) (cu : Int) (ba : Int) (h0 : Int) (h1 : Int) (cr : Bool) (se : Int) (tb : AV) (nu : Int) (bk : Int) (d : Nat → Nat) (dg : AV) (ys : Bool) (tb' : AV) (dg' : AV) (a1 : List Nat) (a2 : List Nat) : ASt := mkSt [(0, R), (4, R2), (42, AO.cells (msgL k nd bl ro sa cu ba h0 h1 cr se tb nu bk d dg ys) true), (51, AO.cells (msgL k nd bl ro sa cu ba h0 h1 cr se tb' nu bk d dg' ys) true), (52, AO.cells (msgL k nd bl ro sa cu ba h0 h1 cr se tb nu bk d dg ys) true), (53, AO.cells (msgL k nd bl ro sa cu ba h0 h1 cr se tb' nu bk d dg' ys) true)] 54
noncomputable def vcYb_s5 (R : AO) (R2 : AO) (n : Nat) (k : Int) (nd : Int) (bl : Int) (ro : Int) (sa : Int) (cu : Int) (ba : Int) (h0 : Int) (h1 : Int) (cr : Bool) (se : Int) (tb : AV) (nu : Int) (bk : Int) (d : Nat → Nat) (dg : AV) (ys : Bool) (tb' : AV) (dg' : AV) (a1 : List Nat) (a2 : List Nat) : ASt := mkSt [(0, R)] 54
theorem vcYb (q : CallT) (R : AO) (R2 : AO) (n : Nat) (k : Int) (nd : Int) (bl : Int) (ro : Int) (sa : Int) (cu : Int) (ba : Int) (h0 : Int) (h1 : Int) (cr : Bool) (se : Int) (tb : AV) (nu : Int) (bk : Int) (d : Nat → Nat) (dg : AV) (ys : Bool) (tb' : AV) (dg' : AV) (a1 : List Nat) (a2 : List Nat) (Q : AV × ASt → Prop) :
  (aBuiltinM E9 Builtin.len [25] [AV.slice (some (0, 0)) n (Cap.atl n)] (vcYb_s0 R R2 n k nd bl ro sa cu ba h0 h1 cr se tb nu bk d dg ys tb' dg' a1 a2) = some (AV.int IntKind.i64 (Int.ofNat n), vcYb_s0 R R2 n k nd bl ro sa cu ba h0 h1 cr se tb nu bk d dg ys tb' dg' a1 a2) ∧ ifB (ltF (Int.ofNat 9000) (Int.ofNat n)) ((M E9 (drawA E9) (sm9 q) 53).call 32 [] (vcYb_s0 R R2 n k nd bl ro sa cu ba h0 h1 cr se tb nu bk d dg ys tb' dg' a1 a2) = some (AV.bool true, vcYb_s0 R R2 n k nd bl ro sa cu ba h0 h1 cr se tb nu bk d dg ys tb' dg' a1 a2) ∧ Q (AV.bool true, vcYb_s0 R R2 n k nd bl ro sa cu ba h0 h1 cr se tb nu bk d dg ys tb' dg' a1 a2)) ((M E9 (drawA E9) (sm9 q) 55).call 33 [AV.slice (some (0, 0)) n (Cap.atl n)] (vcYb_s0 R R2 n k nd bl ro sa cu ba h0 h1 cr se tb nu bk d dg ys tb' dg' a1 a2) = some (AV.tuple [AV.agg (msgL k nd bl ro sa cu ba h0 h1 cr se tb nu bk d dg ys), AV.int IntKind.i64 (Int.ofNat 4)], vcYb_s1 R R2 n k nd bl ro sa cu ba h0 h1 cr se tb nu bk d dg ys tb' dg' a1 a2) ∧ (M E9 (drawA E9) (sm9 q) 54).call 34 [AV.slice (some (0, 0)) n (Cap.atl n)] (vcYb_s2 R R2 n k nd bl ro sa cu ba h0 h1 cr se tb nu bk d dg ys tb' dg' a1 a2) = some (AV.tuple [AV.agg (msgL k nd bl ro sa cu ba h0 h1 cr se tb' nu bk d dg' ys), AV.bool false], vcYb_s3 R R2 n k nd bl ro sa cu ba h0 h1 cr se tb nu bk d dg ys tb' dg' a1 a2) ∧ still (vcYb_s4 R R2 n k nd bl ro sa cu ba h0 h1 cr se tb nu bk d dg ys tb' dg' a1 a2) (aBin E9 BinOp.eql 72 (Operand.tmp 6) (Operand.tmp 8) (AV.int IntKind.i64 k) (AV.int IntKind.i64 k)) = some (AV.bool true, vcYb_s4 R R2 n k nd bl ro sa cu ba h0 h1 cr se tb nu bk d dg ys tb' dg' a1 a2) ∧ still (vcYb_s4 R R2 n k nd bl ro sa cu ba h0 h1 cr se tb nu bk d dg ys tb' dg' a1 a2) (aBin E9 BinOp.eql 3 (Operand.tmp 12) (Operand.tmp 14) (AV.int IntKind.i64 nd) (AV.int IntKind.i64 nd)) = some (AV.bool true, vcYb_s4 R R2 n k nd bl ro sa cu ba h0 h1 cr se tb nu bk d dg ys tb' dg' a1 a2) ∧ still (vcYb_s4 R R2 n k nd bl ro sa cu ba h0 h1 cr se tb nu bk d dg ys tb' dg' a1 a2) (aBin E9 BinOp.eql 3 (Operand.tmp 19) (Operand.tmp 21) (AV.int IntKind.i64 bl) (AV.int IntKind.i64 bl)) = some (AV.bool true, vcYb_s4 R R2 n k nd bl ro sa cu ba h0 h1 cr se tb nu bk d dg ys tb' dg' a1 a2) ∧ still (vcYb_s4 R R2 n k nd bl ro sa cu ba h0 h1 cr se tb nu bk d dg ys tb' dg' a1 a2) (aBin E9 BinOp.eql 75 (Operand.tmp 26) (Operand.tmp 28) (AV.int IntKind.i64 ro) (AV.int IntKind.i64 ro)) = some (AV.bool true, vcYb_s4 R R2 n k nd bl ro sa cu ba h0 h1 cr se tb nu bk d dg ys tb' dg' a1 a2) ∧ still (vcYb_s4 R R2 n k nd bl ro sa cu ba h0 h1 cr se tb nu bk d dg ys tb' dg' a1 a2) (aBin E9 BinOp.eql 76 (Operand.tmp 33) (Operand.tmp 35) (AV.int IntKind.i64 sa) (AV.int IntKind.i64 sa)) = some (AV.bool true, vcYb_s4 R R2 n k nd bl ro sa cu ba h0 h1 cr se tb nu bk d dg ys tb' dg' a1 a2) ∧ still (vcYb_s4 R R2 n k nd bl ro sa cu ba h0 h1 cr se tb nu bk d dg ys tb' dg' a1 a2) (aBin E9 BinOp.eql 79 (Operand.tmp 40) (Operand.tmp 42) (AV.agg [AV.int IntKind.u64 cu, AV.int IntKind.u64 ba, AV.int IntKind.u64 h0, AV.int IntKind.u64 h1]) (AV.agg [AV.int IntKind.u64 cu, AV.int IntKind.u64 ba, AV.int IntKind.u64 h0, AV.int IntKind.u64 h1])) = some (AV.bool true, vcYb_s4 R R2 n k nd bl ro sa cu ba h0 h1 cr se tb nu bk d dg ys tb' dg' a1 a2) ∧ still (vcYb_s4 R R2 n k nd bl ro sa cu ba h0 h1 cr se tb nu bk d dg ys tb' dg' a1 a2) (aBin E9 BinOp.eql 4 (Operand.tmp 47) (Operand.tmp 49) (AV.bool cr) (AV.bool cr)) = some (AV.bool true, vcYb_s4 R R2 n k nd bl ro sa cu ba h0 h1 cr se tb nu bk d dg ys tb' dg' a1 a2) ∧ still (vcYb_s4 R R2 n k nd bl ro sa cu ba h0 h1 cr se tb nu bk d dg ys tb' dg' a1 a2) (aBin E9 BinOp.eql 28 (Operand.tmp 54) (Operand.tmp 56) (AV.int IntKind.u64 se) (AV.int IntKind.u64 se)) = some (AV.bool true, vcYb_s4 R R2 n k nd bl ro sa cu ba h0 h1 cr se tb nu bk d dg ys tb' dg' a1 a2) ∧ aConvert E9 25 9 tb (vcYb_s4 R R2 n k nd bl ro sa cu ba h0 h1 cr se tb nu bk d dg ys tb' dg' a1 a2) = some (AV.str a1, vcYb_s4 R R2 n k nd bl ro sa cu ba h0 h1 cr se tb nu bk d dg ys tb' dg' a1 a2) ∧ aConvert E9 25 9 tb' (vcYb_s4 R R2 n k nd bl ro sa cu ba h0 h1 cr se tb nu bk d dg ys tb' dg' a1 a2) = some (AV.str a1, vcYb_s4 R R2 n k nd bl ro sa cu ba h0 h1 cr se tb nu bk d dg ys tb' dg' a1 a2) ∧ still (vcYb_s4 R R2 n k nd bl ro sa cu ba h0 h1 cr se tb nu bk d dg ys tb' dg' a1 a2) (aBin E9 BinOp.eql 9 (Operand.tmp 62) (Operand.tmp 65) (AV.str a1) (AV.str a1)) = some (AV.bool true, vcYb_s4 R R2 n k nd bl ro sa cu ba h0 h1 cr se tb nu bk d dg ys tb' dg' a1 a2) ∧ still (vcYb_s4 R R2 n k nd bl ro sa cu ba h0 h1 cr se tb nu bk d dg ys tb' dg' a1 a2) (aBin E9 BinOp.eql 28 (Operand.tmp 70) (Operand.tmp 72) (AV.int IntKind.u64 nu) (AV.int IntKind.u64 nu)) = some (AV.bool true, vcYb_s4 R R2 n k nd bl ro sa cu ba h0 h1 cr se tb nu bk d dg ys tb' dg' a1 a2) ∧ still (vcYb_s4 R R2 n k nd bl ro sa cu ba h0 h1 cr se tb nu bk d dg ys tb' dg' a1 a2) (aBin E9 BinOp.eql 3 (Operand.tmp 77) (Operand.tmp 79) (AV.int IntKind.i64 bk) (AV.int IntKind.i64 bk)) = some (AV.bool true, vcYb_s4 R R2 n k nd bl ro sa cu ba h0 h1 cr se tb nu bk d dg ys tb' dg' a1 a2) ∧ still (vcYb_s4 R R2 n k nd bl ro sa cu ba h0 h1 cr se tb nu bk d dg ys tb' dg' a1 a2) (aBin E9 BinOp.eql 39 (Operand.tmp 84) (Operand.tmp 86) (AV.agg (ddL d)) (AV.agg (ddL d))) = some (AV.bool true, vcYb_s4 R R2 n k nd bl ro sa cu ba h0 h1 cr se tb nu bk d dg ys tb' dg' a1 a2) ∧ aConvert E9 25 9 dg (vcYb_s4 R R2 n k nd bl ro sa cu ba h0 h1 cr se tb nu bk d dg ys tb' dg' a1 a2) = some (AV.str a2, vcYb_s4 R R2 n k nd bl ro sa cu ba h0 h1 cr se tb nu bk d dg ys tb' dg' a1 a2) ∧ aConvert E9 25 9 dg' (vcYb_s4 R R2 n k nd bl ro sa cu ba h0 h1 cr se tb nu bk d dg ys tb' dg' a1 a2) = some (AV.str a2, vcYb_s4 R R2 n k nd bl ro sa cu ba h0 h1 cr se tb nu bk d dg ys tb' dg' a1 a2) ∧ still (vcYb_s4 R R2 n k nd bl ro sa cu ba h0 h1 cr se tb nu bk d dg ys tb' dg' a1 a2) (aBin E9 BinOp.eql 9 (Operand.tmp 92) (Operand.tmp 95) (AV.str a2) (AV.str a2)) = some (AV.bool true, vcYb_s4 R R2 n k nd bl ro sa cu ba h0 h1 cr se tb nu bk d dg ys tb' dg' a1 a2) ∧ still (vcYb_s4 R R2 n k nd bl ro sa cu ba h0 h1 cr se tb nu bk d dg ys tb' dg' a1 a2) (aBin E9 BinOp.eql 4 (Operand.tmp 100) (Operand.tmp 102) (AV.bool ys) (AV.bool ys)) = some (AV.bool true, vcYb_s4 R R2 n k nd bl ro sa cu ba h0 h1 cr se tb nu bk d dg ys tb' dg' a1 a2) ∧ (M E9 (drawA E9) (sm9 q) 53).call 32 [] (vcYb_s4 R R2 n k nd bl ro sa cu ba h0 h1 cr se tb nu bk d dg ys tb' dg' a1 a2) = some (AV.bool true, vcYb_s4 R R2 n k nd bl ro sa cu ba h0 h1 cr se tb nu bk d dg ys tb' dg' a1 a2) ∧ Q (AV.bool true, vcYb_s5 R R2 n k nd bl ro sa cu ba h0 h1 cr se tb nu bk d dg ys tb' dg' a1 a2))) =
  (tYb q R R2 n k nd bl ro sa cu ba h0 h1 cr se tb nu bk d dg ys tb' dg' a1 a2).allY (fun r => Q (r.1, canS [0] r.2)) (An.v (AV.int IntKind.i64 (Int.ofNat n), vcYb_s0 R R2 n k nd bl ro sa cu ba h0 h1 cr se tb nu bk d dg ys tb' dg' a1 a2) (An.b (An.v (AV.bool true, vcYb_s0 R R2 n k nd bl ro sa cu ba h0 h1 cr se tb nu bk d dg ys tb' dg' a1 a2) An.nil) (An.v (AV.tuple [AV.agg (msgL k nd bl ro sa cu ba h0 h1 cr se tb nu bk d dg ys), AV.int IntKind.i64 (Int.ofNat 4)], vcYb_s1 R R2 n k nd bl ro sa cu ba h0 h1 cr se tb nu bk d dg ys tb' dg' a1 a2) (An.v (AV.tuple [AV.agg (msgL k nd bl ro sa cu ba h0 h1 cr se tb' nu bk d dg' ys), AV.bool false], vcYb_s3 R R2 n k nd bl ro sa cu ba h0 h1 cr se tb nu bk d dg ys tb' dg' a1 a2) (An.v (AV.bool true, vcYb_s4 R R2 n k nd bl ro sa cu ba h0 h1 cr se tb nu bk d dg ys tb' dg' a1 a2) (An.v (AV.bool true, vcYb_s4 R R2 n k nd bl ro sa cu ba h0 h1 cr se tb nu bk d dg ys tb' dg' a1 a2) (An.v (AV.bool true, vcYb_s4 R R2 n k nd bl ro sa cu ba h0 h1 cr se tb nu bk d dg ys tb' dg' a1 a2) (An.v (AV.bool true, vcYb_s4 R R2 n k nd bl ro sa cu ba h0 h1 cr se tb nu bk d dg ys tb' dg' a1 a2) (An.v (AV.bool true, vcYb_s4 R R2 n k nd bl ro sa cu ba h0 h1 cr se tb nu bk d dg ys tb' dg' a1 a2) (An.v (AV.bool true, vcYb_s4 R R2 n k nd bl ro sa cu ba h0 h1 cr se tb nu bk d dg ys tb' dg' a1 a2) (An.v (AV.bool true, vcYb_s4 R R2 n k nd bl ro sa cu ba h0 h1 cr se tb nu bk d dg ys tb' dg' a1 a2) (An.v (AV.bool true, vcYb_s4 R R2 n k nd bl ro sa cu ba h0 h1 cr se tb nu bk d dg ys tb' dg' a1 a2) (An.v (AV.str a1, vcYb_s4 R R2 n k nd bl ro sa cu ba h0 h1 cr se tb nu bk d dg ys tb' dg' a1 a2) (An.v (AV.str a1, vcYb_s4 R R2 n k nd bl ro sa cu ba h0 h1 cr se tb nu bk d dg ys tb' dg' a1 a2) (An.v (AV.bool true, vcYb_s4 R R2 n k nd bl ro sa cu ba h0 h1 cr se tb nu bk d dg ys tb' dg' a1 a2) (An.v (AV.bool true, vcYb_s4 R R2 n k nd bl ro sa cu ba h0 h1 cr se tb nu bk d dg ys tb' dg' a1 a2) (An.v (AV.bool true, vcYb_s4 R R2 n k nd bl ro sa cu ba h0 h1 cr se tb nu bk d dg ys tb' dg' a1 a2) (An.v (AV.bool true, vcYb_s4 R R2 n k nd bl ro sa cu ba h0 h1 cr se tb nu bk d dg ys tb' dg' a1 a2) (An.v (AV.str a2, vcYb_s4 R R2 n k nd bl ro sa cu ba h0 h1 cr se tb nu bk d dg ys tb' dg' a1 a2) (An.v (AV.str a2, vcYb_s4 R R2 n k nd bl ro sa cu ba h0 h1 cr se tb nu bk d dg ys tb' dg' a1 a2) (An.v (AV.bool true, vcYb_s4 R R2 n k nd bl ro sa cu ba h0 h1 cr se tb nu bk d dg ys tb' dg' a1 a2) (An.v (AV.bool true, vcYb_s4 R R2 n k nd bl ro sa cu ba h0 h1 cr se tb nu bk d dg ys tb' dg' a1 a2) (An.v (AV.bool true, vcYb_s4 R R2 n k nd bl ro sa cu ba h0 h1 cr se tb nu bk d dg ys tb' dg' a1 a2) An.nil))))))))))))))))))))))) := by kernel_rfl
end Go.Proofs.Ytlnohbilfogheaa.mrd
end

section
open Go Go.Ax Go.Proofs.Ytlnohbilfogheaa Go.Proofs.Ytlnohbilfogheaa.rdr Go.Proofs.Ytlnohbilfogheaa.rrq
namespace Go.Proofs.Ytlnohbilfogheaa.mrd
set_option linter.unusedVariables false
def aL (l : List Nat) : AV := .slice (some (0, 0)) l.length (.atl l.length)
def myL (l : List Nat) : Bool := mayM l (SE l).m (names (kN l))
def good (l : List Nat) : Bool := doneE l (SE l).o (SE l).bad && myL l
def mWr (l : List Nat) (r : Nat) (m : Mg) : List AV := (m1 l m).map (mv r)
def V33 (r : Nat) (l : List Nat) : AV := .tuple [.agg (bif good l then mWr l r (SE l).m else zMsg), nI (bif good l then 0 else 4)]
def V34 (l : List Nat) : AV := .tuple [.agg (bif good l then mQ l (SE l).m else zMsg), .bool (good l)]
section
variable {l : List Nat} {S : ASt} {m : Mg} {r : Nat}
theorem goodE_eq : goodE l (myL l) = good l := by
  unfold goodE good doneE endN
  cases (SE l).bad with
  | true => rfl
  | false =>
    show (Nat.beq (bif Nat.blt 0 (l.length - (SE l).o) then 4 else 0) 0 && myL l) = (eqF (.ofNat (l.length - (SE l).o)) (.ofNat 0) && myL l)
    cases l.length - (SE l).o <;> rfl
theorem mWr_msg : mWr l r m = msgL m.k m.nd m.bl m.ro m.sa m.cu m.ba m.h0 m.h1 m.cr m.se (mv r (t0W l m.tb)) m.nu m.bk m.d (mv r (t0W l m.dg)) m.ys := by
  unfold mWr m1
  kernel_rfl
theorem mW_r : mW l m = mWr l 3 m := mW_map
theorem mapV_mv (h0 : l ≠ []) {g : Nat → Nat} {x : Sl} (h : SlOk l x) : mapV g (mv 3 (t0W l x)) = mv (g 3) (t0W l x) := by
  rcases t0_forms h0 h with ⟨e, _⟩ | ⟨e, _⟩ | ⟨j, c, e⟩ <;> rw [e] <;> rfl
theorem mapV_tQ (h0 : l ≠ []) {g : Nat → Nat} (hg : g 0 = 0) {x : Sl} (h : SlOk l x) : mapV g (tQ l x) = tQ l x := by
  rcases tQ_forms h0 h with ⟨e, _⟩ | ⟨e, _⟩ | ⟨j, c, e⟩ <;> rw [e]
  · rfl
  · rfl
  · show AV.slice (some (g 0, j)) _ _ = _
    rw [hg]
theorem mapVs_msg {g : Nat → Nat} {k nd bl ro sa cu ba h0 h1 : Int} {cr : Bool} {se : Int} {tb : AV} {nu bk : Int} {d : Nat → Nat} {dg : AV} {ys : Bool} : mapVs g (msgL k nd bl ro sa cu ba h0 h1 cr se tb nu bk d dg ys) = msgL k nd bl ro sa cu ba h0 h1 cr se (mapV g tb) nu bk d (mapV g dg) ys := by kernel_rfl
theorem V33_map (h0 : l ≠ []) {g : Nat → Nat} (hg : g 3 = r) : mapV g (V33 3 l) = V33 r l := by
  unfold V33
  cases good l with
  | false => show AV.tuple [.agg (mapVs g zMsg), nI 4] = _; rw [show mapVs g zMsg = zMsg by unfold zMsg; rw [mapVs_msg]; rfl]; rfl
  | true =>
    have : mapVs g (mWr l 3 (SE l).m) = mWr l r (SE l).m := by rw [mWr_msg, mWr_msg, mapVs_msg, mapV_mv h0 SE_ok.tb, mapV_mv h0 SE_ok.dg, hg]
    show AV.tuple [.agg (mapVs g (mWr l 3 (SE l).m)), nI 0] = _
    rw [this]; rfl
theorem V34_map (h0 : l ≠ []) {g : Nat → Nat} (hg : g 0 = 0) : mapV g (V34 l) = V34 l := by
  unfold V34
  cases good l with
  | false => show AV.tuple [.agg (mapVs g zMsg), .bool false] = _; rw [show mapVs g zMsg = zMsg by unfold zMsg; rw [mapVs_msg]; rfl]; rfl
  | true =>
    have : mapVs g (mQ l (SE l).m) = mQ l (SE l).m := by unfold mQ; rw [mapVs_msg, mapV_tQ h0 hg SE_ok.tb, mapV_tQ h0 hg SE_ok.dg]
    show AV.tuple [.agg (mapVs g (mQ l (SE l).m)), .bool true] = _
    rw [this]; rfl
theorem get1 {o : AO} {j : Nat} {x : AO} (hj : (mkSt [(0, o)] 1).h.get j = some x) : j = 0 ∧ x = o := by
  have hg : (mkSt [(0, o)] 1).h.get j = if j = 0 then some o else none := by
    show ((T.e : T AO).set D 0 _).get j = _
    rw [T.get_set, T.get_e]
  rw [hg] at hj
  by_cases e : j = 0
  · simp [e] at hj; exact ⟨e, hj.symm⟩
  · simp [e] at hj
theorem leave33 {k nd bl ro sa cu ba h0 h1 : Int} {cr : Bool} {se : Int} {tb : AV} {nu bk : Int} {d : Nat → Nat} {dg : AV} {ys : Bool} {e : Nat} : leaveA EP Try.f33 (fE e) (mE l (msgL k nd bl ro sa cu ba h0 h1 cr se tb nu bk d dg ys)) = some (.tuple [.agg (msgL k nd bl ro sa cu ba h0 h1 cr se tb nu bk d dg ys), nI e], mE l (msgL k nd bl ro sa cu ba h0 h1 cr se tb nu bk d dg ys)) := by kernel_rfl
theorem leave34 {k nd bl ro sa cu ba h0 h1 : Int} {cr : Bool} {se : Int} {tb : AV} {nu bk : Int} {d : Nat → Nat} {dg : AV} {ys : Bool} {b : Bool} : leaveA EG Try.f34 (fF b) (mF l (msgL k nd bl ro sa cu ba h0 h1 cr se tb nu bk d dg ys)) = some (.tuple [.agg (msgL k nd bl ro sa cu ba h0 h1 cr se tb nu bk d dg ys), .bool b], mF l (msgL k nd bl ro sa cu ba h0 h1 cr se tb nu bk d dg ys)) := by kernel_rfl
theorem of33 (h0 : l ≠ []) (hB : ∀ x, x ∈ l → x < 256) (hl : l.length < 1099511627776) (hS : S.h.get 0 = some (R0 l)) : Call1 Try.prog 33 [aL l] S (V33 (S.next + 3) l, outS (gK 1 S.next) [(3, R2 l)] S (S.next + 41)) := by
  have hm : Call1 Try.prog 31 [.agg (mW l (SE l).m)] (mX l Zo (vIn 3 l (SE l).o) (SE l).bad (.cells (mW l (SE l).m) true) .dead 41) (.bool (myL l), mX l Zo (vIn 3 l (SE l).o) (SE l).bad (.cells (mW l (SE l).m) true) .dead 41) := may_at h0 hl ⟨SE_ok.tb, SE_ok.dg⟩ SE_k (rw := true) (by kernel_rfl)
  have tr := tripW h0 hB hl hm
  have hcall := Trip.call EPok (f := 33) (fn := Try.f33) (c := c33) (by kernel_rfl) (by kernel_rfl) (args := [aL l]) (st := mkSt [(0, R0 l)] 1) (by kernel_rfl) (R := fun v => v = (V33 3 l, mE l (mEnd l (myL l)))) (by
    have e3 : canF [0] ({ m := putArgs [aL l] 0 .e, n := Try.f33.ntmps, defs := [] } : AFr) = xFr [(0, .slice (some (0, 0)) l.length (.atl l.length))] 39 := by kernel_rfl
    have e4 : canS [0] (mkSt [(0, R0 l)] 1) = mkSt [(0, R0 l)] 1 := by kernel_rfl
    have w := Wk.can 1 [0] [0] ({ m := putArgs [aL l] 0 .e, n := Try.f33.ntmps, defs := [] } : AFr) (mkSt [(0, R0 l)] 1)
    rw [e3, e4] at w
    refine Trip.weak (Trip.less w tr) fun q hq => ⟨_, _, hq.2, .inr hq.1, _, ?_, rfl⟩
    unfold eEnd mEnd V33
    rw [goodE_eq]
    cases good l with
    | false => exact leave33
    | true =>
      simp only [cond_true]
      rw [mW_r, mWr_msg]
      exact leave33)
  refine Call1.same (S := S) (S1 := mkSt [(0, R0 l)] 1) 1 1 (Nat.le_refl 1) (fun B w0 ι W args' hBs hsr hv => hcall B hBs w0 ι W args' hsr hv) rfl (fun j hj => ?_) (fun j x hj => ?_) (fun v hv => ?_) fun w hw => ?_
  · have : j = 0 := by omega
    subst this
    exact ⟨_, hS, by simp [R0]⟩
  · obtain ⟨rfl, rfl⟩ := get1 hj
    exact ⟨by decide, fun _ => ⟨by decide, hS, .row (refU l)⟩⟩
  · simp only [List.mem_cons, List.not_mem_nil, or_false] at hv
    subst hv; kernel_rfl
  · subst hw
    have hg : gK 1 S.next 3 = S.next + 3 := rfl
    refine ⟨.eq (V33_map h0 hg), by show S.next + 41 ≤ S.next + 41; omega, by omega, fun p hp => ?_, fun j x hj ho => ?_⟩
    · simp only [List.mem_cons, List.not_mem_nil, or_false] at hp
      subst hp
      exact ⟨by show S.next + 3 < S.next + 41; omega, .inr (by show 1 ≤ 3; decide), fun h => absurd h (by show ¬ 3 < 1; decide), .inr ⟨rfl, _, (by kernel_rfl : _ = some (R2 l)), .row (refU l)⟩⟩
    · obtain ⟨rfl, rfl⟩ := get1 hj
      cases ho
theorem of34 (h0 : l ≠ []) (hB : ∀ x, x ∈ l → x < 256) (hS : S.h.get 0 = some (R0 l)) : Call1 Try.prog 34 [aL l] S (V34 l, outS (gK 1 S.next) [] S (S.next + 8)) := by
  have hm : Call1 Try.prog 77 [.agg (mQ l (SE l).m)] (mY l Zo (mv 0 (vQ l (SE l).o)) (SE l).bad (.cells (mQ l (SE l).m) true) 8) (.bool (myL l), mY l Zo (mv 0 (vQ l (SE l).o)) (SE l).bad (.cells (mQ l (SE l).m) true) 8) := by
    have h := mayU_at (S := mY l Zo (mv 0 (vQ l (SE l).o)) (SE l).bad (.cells (mQ l (SE l).m) true) 8) (rw := false) h0 (m := (SE l).m) ⟨SE_ok.tb, SE_ok.dg⟩ SE_k (by kernel_rfl)
    rw [SE_may hB] at h
    exact h
  have tr := tripY h0 hB hm
  have hcall := Trip.call EGok (f := 34) (fn := Try.f34) (c := c34) (by kernel_rfl) (by kernel_rfl) (args := [aL l]) (st := mkSt [(0, R0 l)] 1) (by kernel_rfl) (R := fun v => v = (V34 l, mF l (bif good l then mQ l (SE l).m else zMsg))) (by
    have e3 : canF [0] ({ m := putArgs [aL l] 0 .e, n := Try.f34.ntmps, defs := [] } : AFr) = xFr [(0, .slice (some (0, 0)) l.length (.atl l.length))] 122 := by kernel_rfl
    have e4 : canS [0] (mkSt [(0, R0 l)] 1) = mkSt [(0, R0 l)] 1 := by kernel_rfl
    have w := Wk.can 1 [0] [0] ({ m := putArgs [aL l] 0 .e, n := Try.f34.ntmps, defs := [] } : AFr) (mkSt [(0, R0 l)] 1)
    rw [e3, e4] at w
    refine Trip.weak (Trip.less w tr) fun q hq => ⟨_, _, hq.2, .inr hq.1, _, ?_, rfl⟩
    show leaveA EG Try.f34 (fF (good l)) (mF l (bif good l then mQ l (SE l).m else zMsg)) = _
    unfold V34
    cases good l with
    | false => exact leave34
    | true => exact leave34)
  refine Call1.same (S := S) (S1 := mkSt [(0, R0 l)] 1) 1 1 (Nat.le_refl 1) (fun B w0 ι W args' hBs hsr hv => hcall B hBs w0 ι W args' hsr hv) rfl (fun j hj => ?_) (fun j x hj => ?_) (fun v hv => ?_) fun w hw => ?_
  · have : j = 0 := by omega
    subst this
    exact ⟨_, hS, by simp [R0]⟩
  · obtain ⟨rfl, rfl⟩ := get1 hj
    exact ⟨by decide, fun _ => ⟨by decide, hS, .row (refU l)⟩⟩
  · simp only [List.mem_cons, List.not_mem_nil, or_false] at hv
    subst hv; kernel_rfl
  · subst hw
    have hg : gK 1 S.next 0 = 0 := rfl
    refine ⟨.eq (V34_map h0 hg), by show S.next + 8 ≤ S.next + 8; omega, by omega, fun p hp => (by cases hp), fun j x hj ho => ?_⟩
    obtain ⟨rfl, rfl⟩ := get1 hj
    cases ho
theorem E9ok : Env.Ok Try.prog E9 := envEx_ok (xs := []) ⟨⟨Try.func9, Try.call9⟩, ⟨Try.func35, Try.call35⟩, ⟨Try.func36, Try.call36⟩, trivial⟩ trivial (by kernel_rfl)
def kC9 : CallT := fun f args st => bif Nat.beq 32 f then (match args with | [] => some (.bool true, st) | _ => none) else none
theorem kC9_ok : CallsOK Try.prog kC9 := by
  intro B w0 f args st r hr ι w args' hsr hv
  unfold kC9 at hr
  cases hf : Nat.beq 32 f
  · rw [hf] at hr; cases hr
  rw [hf, cond_true] at hr
  have := nbeq hf
  subst this
  split at hr
  · cases hr; exact known st B w0 ι w args' hsr hv
  · cases hr
noncomputable def q9 (tab : List (Nat × List AV × ASt × (AV × ASt))) : CallT := orC kC9 (tabC tab)
theorem q9_ok {tab : List (Nat × List AV × ASt × (AV × ASt))} (h : ∀ e, e ∈ tab → Call1 Try.prog e.1 e.2.1 e.2.2.1 e.2.2.2) : CallsOK Try.prog (sm9 (q9 tab)) := onlyC_ok (orC_ok kC9_ok (tabC_ok h))
theorem at_tab {tab : List (Nat × List AV × ASt × (AV × ASt))} {f j : Nat} {args : List AV} {r : AV × ASt} (hm : memN f [32, 33, 34] = true) (h2 : kC9 f args S = none) (h : tabC tab f args S = some r) : (M E9 (drawA E9) (sm9 (q9 tab)) (j + 1)).call f args S = some r :=
  call_at (onlyC_at hm (orC_r h2 h))
theorem at_known {tab : List (Nat × List AV × ASt × (AV × ASt))} {j : Nat} : (M E9 (drawA E9) (sm9 (q9 tab)) (j + 1)).call 32 [] S = some (.bool true, S) := call_at (onlyC_at rfl (orC_l rfl))
theorem bytesU : ∀ l : List Nat, (∀ x, x ∈ l → x < 256) → bytesL (l.map cellU) = some l
  | [], _ => rfl
  | x :: t, h => by
    show (match bytesL (t.map cellU) with | some l => some (x % 256 :: l) | none => none) = _
    rw [bytesU t (fun y hy => h y (List.mem_cons_of_mem _ hy))]
    simp only [Nat.mod_eq_of_lt (h x List.mem_cons_self)]
theorem conv9 {v : AV} {a : List Nat} (h : SlB S v a) (hb : ∀ x, x ∈ a → x < 256) : aConvert E9 25 9 v S = some (.str a, S) := by
  cases h with
  | nil => kernel_rfl
  | zero => kernel_rfl
  | @row i o n c cs rw _ h1 h2 =>
    have e : aConvert E9 25 9 (.slice (some (i, o)) n c) S = (match S.h.get i with
      | some (.cells cs _) => match takeL cs o n with | some l => (match bytesL l with | some b => some (.str b, S) | none => none) | none => none
      | _ => none) := by kernel_rfl
    rw [e]
    simp only [h1, h2, bytesU a hb]
theorem bytesS_in {x : Sl} (hB : ∀ y, y ∈ l → y < 256) : ∀ y, y ∈ bytesS l x → y < 256 := fun y hy => by
  cases x with
  | no => cases hy
  | cut o b n =>
    have et : bytesS l (.cut o b n) = bif toB l o b n then [] else (l.drop o).take n := rfl
    rw [et] at hy
    cases h : toB l o b n with
    | true => rw [h] at hy; cases hy
    | false => rw [h] at hy; exact hB y (List.mem_of_mem_drop (List.mem_of_mem_take hy))
theorem slB4 (h0 : l ≠ []) {x : Sl} (h : SlOk l x) {rw : Bool} (hS : S.h.get r = some (.cells (l.map cellU) rw)) : SlB S (mv r (t0W l x)) (bytesS l x) := by
  cases x with
  | no => exact .nil
  | cut o b n =>
    have h : o ≤ l.length := h
    have es : t0W l (.cut o b n) = bif toB l o b n then nilV else wAt l o n := rfl
    have et : bytesS l (.cut o b n) = bif toB l o b n then [] else (l.drop o).take n := rfl
    rw [es, et]
    cases hb : toB l o b n with
    | true => exact .nil
    | false =>
      obtain ⟨_, hn⟩ := toB_inv hb
      simp only [cond_false]
      rcases forms h with ⟨e, _, _, _⟩ | ⟨_, e1, _, e⟩ | ⟨_, _, _, e⟩
      · exact absurd e h0
      · rw [e n]
        have : n = 0 := by omega
        subst this
        exact .zero
      · rw [e n]
        exact .row hS (take_at (by omega))
theorem slBQ (h0 : l ≠ []) {x : Sl} (h : SlOk l x) {rw : Bool} (hS : S.h.get 0 = some (.cells (l.map cellU) rw)) : SlB S (tQ l x) (bytesS l x) := by
  cases x with
  | no => exact .nil
  | cut o b n =>
    have h : o ≤ l.length := h
    have es : tQ l (.cut o b n) = mv 0 (cutQ l o b n) := rfl
    have ec : cutQ l o b n = bif toB l o b n then nilV else wQ l o n := rfl
    have et : bytesS l (.cut o b n) = bif toB l o b n then [] else (l.drop o).take n := rfl
    rw [es, et, mv0Q h, ec]
    cases hb : toB l o b n with
    | true => exact .nil
    | false =>
      obtain ⟨_, hn⟩ := toB_inv hb
      simp only [cond_false]
      rcases formsQ h with ⟨e1, _, e⟩ | ⟨_, _, e⟩
      · rw [e n]
        have : n = 0 := by omega
        subst this
        exact .zero
      · rw [e n]
        exact .row hS (take_at (by omega))
section
variable {x y : Nat}
theorem q72 (z : Int) : still S (aBin E9 .eql 72 (.tmp x) (.tmp y) (.int .i64 z) (.int .i64 z)) = some (.bool true, S) := by
  have e : aBin E9 .eql 72 (.tmp x) (.tmp y) (.int .i64 z) (.int .i64 z) = some (.bool (eqF z z)) := by kernel_rfl
  rw [e, eqF_self]; rfl
theorem q75 (z : Int) : still S (aBin E9 .eql 75 (.tmp x) (.tmp y) (.int .i64 z) (.int .i64 z)) = some (.bool true, S) := by
  have e : aBin E9 .eql 75 (.tmp x) (.tmp y) (.int .i64 z) (.int .i64 z) = some (.bool (eqF z z)) := by kernel_rfl
  rw [e, eqF_self]; rfl
theorem q76 (z : Int) : still S (aBin E9 .eql 76 (.tmp x) (.tmp y) (.int .i64 z) (.int .i64 z)) = some (.bool true, S) := by
  have e : aBin E9 .eql 76 (.tmp x) (.tmp y) (.int .i64 z) (.int .i64 z) = some (.bool (eqF z z)) := by kernel_rfl
  rw [e, eqF_self]; rfl
theorem q3 (z : Int) : still S (aBin E9 .eql 3 (.tmp x) (.tmp y) (.int .i64 z) (.int .i64 z)) = some (.bool true, S) := by
  have e : aBin E9 .eql 3 (.tmp x) (.tmp y) (.int .i64 z) (.int .i64 z) = some (.bool (eqF z z)) := by kernel_rfl
  rw [e, eqF_self]; rfl
theorem q28 (z : Int) : still S (aBin E9 .eql 28 (.tmp x) (.tmp y) (.int .u64 z) (.int .u64 z)) = some (.bool true, S) := by
  have e : aBin E9 .eql 28 (.tmp x) (.tmp y) (.int .u64 z) (.int .u64 z) = some (.bool (eqF z z)) := by kernel_rfl
  rw [e, eqF_self]; rfl
theorem q4 (z : Bool) : still S (aBin E9 .eql 4 (.tmp x) (.tmp y) (.bool z) (.bool z)) = some (.bool true, S) := by
  cases z <;> kernel_rfl
theorem q79 (a b c d : Int) : still S (aBin E9 .eql 79 (.tmp x) (.tmp y) (.agg [.int .u64 a, .int .u64 b, .int .u64 c, .int .u64 d]) (.agg [.int .u64 a, .int .u64 b, .int .u64 c, .int .u64 d])) = some (.bool true, S) := by
  have h : aBin E9 .eql 79 (.tmp x) (.tmp y) (.agg [.int .u64 a, .int .u64 b, .int .u64 c, .int .u64 d]) (.agg [.int .u64 a, .int .u64 b, .int .u64 c, .int .u64 d]) = ob (an2 (eqF a a) (an2 (eqF b b) (an3 (an2 (eqF c c) (an2 (eqF d d) (some true))) (some true)))) := by kernel_rfl
  rw [h]
  simp only [eqF_self]
  rfl
theorem q39 (d : Nat → Nat) : still S (aBin E9 .eql 39 (.tmp x) (.tmp y) (.agg (ddL d)) (.agg (ddL d))) = some (.bool true, S) := by
  have h : aBin E9 .eql 39 (.tmp x) (.tmp y) (.agg (ddL d)) (.agg (ddL d)) = ob (eqLs (fun _ x y => aEq0 (.int .u8) x y) 5 256 (ddL d) (ddL d)) := by kernel_rfl
  rw [h, eqLs_D, decide_eq_true rfl]
  rfl
theorem qStr (a : List Nat) : still S (aBin E9 .eql 9 (.tmp x) (.tmp y) (.str a) (.str a)) = some (.bool true, S) := by
  have e : aBin E9 .eql 9 (.tmp x) (.tmp y) (.str a) (.str a) = some (.bool true) := by
    show some (AV.bool (lEq a a)) = _
    rw [lEq_eq]; simp
  rw [e]; rfl
end
theorem len9 {n : Nat} : aBuiltinM E9 .len [25] [.slice (some (0, 0)) n (.atl n)] S = some (nI n, S) := by kernel_rfl
noncomputable def S34 (l : List Nat) (c : List AV) : ASt := mkSt [(0, R0 l), (4, R2 l), (42, .cells c true)] 43
theorem tab9 (h0 : l ≠ []) (hB : ∀ x, x ∈ l → x < 256) (hl : l.length < 1099511627776) {V W : AV} {c : List AV} (hV : V33 4 l = V) (hW : V34 l = W) : ∀ e, e ∈ [((33 : Nat), [aL l], mkSt [(0, R0 l)] 1, ((V, m33 (R0 l) (R2 l)) : AV × ASt)), (34, [aL l], S34 l c, (W, mkSt [(0, R0 l), (4, R2 l), (42, .cells c true)] 51))] → Call1 Try.prog e.1 e.2.1 e.2.2.1 e.2.2.2 := by
  intro e he
  simp only [List.mem_cons, List.not_mem_nil, or_false] at he
  rcases he with rfl | rfl
  · subst hV
    exact Call1.mem (by kernel_rfl) (of33 (S := mkSt [(0, R0 l)] 1) h0 hB hl (by kernel_rfl))
  · subst hW
    exact Call1.mem (by kernel_rfl) (of34 (S := S34 l c) h0 hB (by kernel_rfl))
theorem lawR (h0 : l ≠ []) (hB : ∀ x, x ∈ l → x < 256) (hl : l.length < 9223372036854775808) : AtMem Try.prog 9 [aL l] (mkSt [(0, R0 l)] 1) (.bool true) := by
  by_cases h9 : 9000 < l.length
  · refine AtMem.of_tm E9ok (q9_ok (tab := []) (fun e he => by cases he)) (Eq.mp (vcYg (q9 []) (R0 l) (R2 l) l.length (.ofNat 0) (.ofNat 0) (.ofNat 0) (.ofNat 0) (.ofNat 0) (.ofNat 0) (.ofNat 0) (.ofNat 0) (.ofNat 0) false (.ofNat 0) nilS (.ofNat 0) (.ofNat 0) (fun _ => 0) nilS false nilS nilS [] [] (fun r => r.1 = .bool true)) ⟨len9, ifB_mk (fun _ => ⟨at_known, rfl⟩) fun h => ?_⟩)
    rw [ltF_nn] at h
    exact absurd h9 (of_decide_eq_false h)
  have hno : ∀ {P : Prop}, ltF (.ofNat 9000) (.ofNat l.length) = true → P := fun {P} h => by
    rw [ltF_nn] at h
    exact absurd (of_decide_eq_true h) h9
  cases hg : good l with
  | false =>
    refine AtMem.of_tm E9ok (q9_ok (tab9 h0 hB (by omega) (c := zMsg) (V := .tuple [.agg zMsg, nI 4]) (W := .tuple [.agg zMsg, .bool false]) (by unfold V33; rw [hg]; rfl) (by unfold V34; rw [hg]; rfl))) (Eq.mp (vcYb (q9 _) (R0 l) (R2 l) l.length (.ofNat 0) (.ofNat 0) (.ofNat 0) (.ofNat 0) (.ofNat 0) (.ofNat 0) (.ofNat 0) (.ofNat 0) (.ofNat 0) false (.ofNat 0) nilS (.ofNat 0) (.ofNat 0) (fun _ => 0) nilS false nilS nilS [] [] (fun r => r.1 = .bool true)) ⟨len9, ifB_mk (fun h => hno h) fun _ => ⟨at_tab rfl rfl (tabC_hd ..), at_tab rfl rfl ((tabC_tlf rfl).trans (tabC_hd ..)), q72 _, q3 _, q3 _, q75 _, q76 _, q79 .., q4 _, q28 _, conv9 .nil (fun _ h => by cases h), conv9 .nil (fun _ h => by cases h), qStr _, q28 _, q3 _, q39 _, conv9 .nil (fun _ h => by cases h), conv9 .nil (fun _ h => by cases h), qStr _, q4 _, at_known, rfl⟩⟩)
  | true =>
    have hd : ∀ y, y ∈ bytesS l (SE l).m.tb → y < 256 := bytesS_in hB
    have hd2 : ∀ y, y ∈ bytesS l (SE l).m.dg → y < 256 := bytesS_in hB
    refine AtMem.of_tm E9ok (q9_ok (tab9 h0 hB (by omega) (c := mWr l 4 (SE l).m) (V := .tuple [.agg (mWr l 4 (SE l).m), nI 0]) (W := .tuple [.agg (mQ l (SE l).m), .bool true]) (by unfold V33; rw [hg]; rfl) (by unfold V34; rw [hg]; rfl))) (Eq.mp (vcYg (q9 _) (R0 l) (R2 l) l.length (SE l).m.k (SE l).m.nd (SE l).m.bl (SE l).m.ro (SE l).m.sa (SE l).m.cu (SE l).m.ba (SE l).m.h0 (SE l).m.h1 (SE l).m.cr (SE l).m.se (mv 4 (t0W l (SE l).m.tb)) (SE l).m.nu (SE l).m.bk (SE l).m.d (mv 4 (t0W l (SE l).m.dg)) (SE l).m.ys (tQ l (SE l).m.tb) (tQ l (SE l).m.dg) (bytesS l (SE l).m.tb) (bytesS l (SE l).m.dg) (fun r => r.1 = .bool true)) ⟨len9, ifB_mk (fun h => hno h) fun _ => ⟨?_, ?_, q72 _, q3 _, q3 _, q75 _, q76 _, q79 .., q4 _, q28 _, conv9 (slB4 (rw := true) h0 SE_ok.tb (by kernel_rfl)) hd, conv9 (slBQ (rw := false) h0 SE_ok.tb (by kernel_rfl)) hd, qStr _, q28 _, q3 _, q39 _, conv9 (slB4 (rw := true) h0 SE_ok.dg (by kernel_rfl)) hd2, conv9 (slBQ (rw := false) h0 SE_ok.dg (by kernel_rfl)) hd2, qStr _, q4 _, at_known, rfl⟩⟩)
    · rw [mWr_msg]
      exact at_tab rfl rfl (tabC_hd ..)
    · rw [mWr_msg]
      exact at_tab rfl rfl ((tabC_tlf rfl).trans (tabC_hd ..))
theorem law {v : AV} {o : AO} (A : ArgB 0 v o l) (hB : ∀ x, x ∈ l → x < 256) (hb : l.length < 9223372036854775808) : AtMem Try.prog 9 [v] (mkSt [(0, o)] 1) (.bool true) := by
  cases A with
  | nil => exact lawN
  | zero => exact lawZ
  | row h0 => exact lawR h0 hB hb
end
end Go.Proofs.Ytlnohbilfogheaa.mrd
end

section
open Go Go.Ax Go.Proofs.Ytlnohbilfogheaa
namespace Go.Proofs.Ytlnohbilfogheaa.mrd
set_option linter.unusedVariables false
noncomputable section
open Go.ChangeShapes Go.WideShapes Go.ChangeAt Go.RowKit Go.Deep
theorem own : ownKnob Try.prog.godebug = none := by kernel_rfl
theorem laidOut : laidOutB Try.prog = true := by kernel_rfl
theorem same_below {W W' : World} (h : Below W.heap.size W W') {p : MemPlace} (hp : p.block < W.heap.size) : W.sameAt W' p := by
  cases p with
  | cell b off => exact h.cell (p := ⟨b, off, none⟩) hp
  | map b => exact h.block b hp
theorem sl22 : sliceT eqb.E 25 = some 1 := by kernel_rfl
theorem spot_none {W : World} {a : Addr} {v : Value} (h : W.cell? (a.add 0) = some v) : a.spot = none := by
  obtain ⟨b, off, spot⟩ := a
  cases spot with
  | none => rfl
  | some s =>
    unfold World.cell? at h
    simp only [Addr.add, if_true] at h
    split at h
    · simp at h
    · cases h
theorem arg_nil {W : World} (i : Nat) : ∃ (l : List Nat) (vl : AV) (o : AO) (r : Option (Nat × Nat × List AV)), (∀ x, x ∈ l → x < 256) ∧ ArgB i vl o l ∧ ArgAt eqb.E W 25 1 i l.length (.slice none 0 0) (l.map cellU) vl o r :=
  ⟨[], _, _, _, (fun x h => by cases h), .nil, ArgAt.mk_nil sl22⟩
theorem arg_bytes {W : World} (j : Nat) {a : Addr} {len cap : Nat} {B : Nat → Nat} (hl : len ≤ cap) (hi : ∀ i, i < len → W.cell? (a.add i) = some (.int .u8 (.ofNat (B i))) ∧ B i < 256) :
    ∃ (l : List Nat) (vl : AV) (o : AO) (r : Option (Nat × Nat × List AV)), (∀ x, x ∈ l → x < 256) ∧ ArgB j vl o l ∧ ArgAt eqb.E W 25 1 j l.length (.slice (some a) len cap) (l.map cellU) vl o r := by
  by_cases h0 : len = 0
  · subst h0
    exact ⟨[], _, _, _, (fun x h => by cases h), .zero, ArgAt.mk_zero sl22⟩
  · have hsp := spot_none (hi 0 (by omega)).1
    obtain ⟨b, off, spot⟩ := a
    simp only at hsp
    subst hsp
    have hlen : ((List.range len).map B).length = len := by simp
    have hne : (List.range len).map B ≠ [] := fun e => by rw [e] at hlen; simp at hlen; omega
    have hB := ArgB.row (i := j) hne
    rw [hlen] at hB
    refine ⟨(List.range len).map B, .slice (some (j, 0)) len (.atl len), .cells (((List.range len).map B).map cellU) false, some (b, off, ((List.range len).map B).map cellU), fun x hx => ?_, hB, ?_⟩
    · obtain ⟨i, hi', rfl⟩ := List.mem_map.1 hx
      exact (hi i (by simpa using hi')).2
    rw [hlen]
    have := ArgAt.mk_row (E := eqb.E) (W := W) (t := 25) (z := 1) (i := j) (n := len) (b := b) (off := off) (cap := cap) (cs := ((List.range len).map B).map cellU) sl22
      (by intro e; have := congrArg List.length e; simp at this; omega) hl (fun k v hk => ?_)
    · exact this
    · have hk2 : k < len := by
        have := (List.getElem?_eq_some_iff.1 hk).1
        simpa using this
      have hv : v = cellU (B k) := by
        simp [hk2] at hk
        exact hk.symm
      subst hv
      exact ⟨rfl, _, by have := (hi k hk2).1; rw [add_none] at this; exact this, fun ι => .int _ _⟩
theorem bytes_arg {H : Type} {enc : TypeId × Value → H} {W : World} {base fuel : Nat} {spare : Nat → Bool} {held : Bool} (j : Nat) {cs : List Value} {x : DataW H × List MemPlace}
    (hf : DataW.trod enc Try.prog W base spare held fuel 25 cs = some x) :
    ∃ v, cs = [v] ∧ ∃ (l : List Nat) (vl : AV) (o : AO) (r : Option (Nat × Nat × List AV)), (∀ x, x ∈ l → x < 256) ∧ ArgB j vl o l ∧ ArgAt eqb.E W 25 1 j l.length v (l.map cellU) vl o r ∧ l.length < 9223372036854775808 := by
  rcases open_ints Try.underlying25 Try.underlying5 (by kernel_rfl) hf with ⟨hcs, _⟩ | ⟨a, len', cap', zs, hcs, _, hl, hmx, hm, _, hi, hw⟩
  · obtain ⟨l, vl, o, r, h1, h2, h3⟩ := arg_nil (W := W) j
    refine ⟨_, hcs, [], _, _, _, (fun x h => by cases h), .nil, ArgAt.mk_nil sl22, by decide⟩
  · refine ⟨_, hcs, ?_⟩
    obtain ⟨l, vl, o, r, h1, h2, h3⟩ := arg_bytes (W := W) j (a := a) (len := len') (cap := cap') (B := fun i => (zs.getD i 0).toNat) hl fun i hlt => by
      have hlz : i < zs.length := by rw [hm]; split <;> omega
      have h1 := hi i hlz
      have h2 := hw (zs.getD i 0) (by rw [List.getD_eq_getElem?_getD, List.getElem?_eq_getElem hlz]; exact List.getElem_mem hlz)
      have h3 : 0 ≤ zs.getD i 0 ∧ zs.getD i 0 ≤ 255 := by
        simp only [Lit.wf, Bool.and_eq_true, decide_eq_true_eq] at h2
        exact h2
      refine ⟨?_, by omega⟩
      rw [h1]
      congr 2
      show zs.getD i 0 = Int.ofNat (zs.getD i 0).toNat
      have := Int.toNat_of_nonneg h3.1
      exact this.symm
    have hlen : l.length ≤ len' := by
      have hv := h3.vr (fun _ => r.map fun q => ⟨q.1, q.2.1, 0⟩) (fun q hq => ⟨0, by simp [hq]⟩)
      cases h2 with
      | nil => exact Nat.zero_le _
      | zero => exact Nat.zero_le _
      | row _ => cases hv; exact Nat.le_refl _
    exact ⟨l, vl, o, r, h1, h2, h3, by have : maxLen = 9223372036854775807 := rfl; omega⟩
theorem law_at {P : Program} {f : Nat} {args : List AV} {args' : Array Value} {B : Prot} (hB : ∀ i, ¬ B.rs i) {W : World} (hall : ∀ k, k < W.heap.size → B.all k) {ι : Ren} {st : ASt} (hsr : SR B W ι st W) (hv : VRs ι args args')
    (h : AtMem P f args st (.bool true)) : Calls P f args' W fun e w' => e = .returned (.bool true) ∧ Below W.heap.size W w' := by
  have := (h B W ι W args' hB hsr hv).2
  rw [callsIn_wide] at this
  refine this.mono ?_
  rintro e w' ⟨⟨v, st'⟩, hv, x, ι', rfl, _, h2, h3⟩
  simp only at hv h3
  subst hv
  cases h3
  exact ⟨rfl, h2.below.os, h2.below.tape, h2.below.output, h2.below.size, fun k hk => h2.below.block k (hall k hk)⟩
def row1 (r0 : Option (Nat × Nat × List AV)) : Nat → Option (Nat × Nat × List AV) := fun i => if i = 0 then r0 else none
theorem walk {W : World} {v0 : Value} {l : List Nat} {vl : AV} {o0 : AO} {r0 : Option (Nat × Nat × List AV)} (B0 : ArgB 0 vl o0 l) (hB : ∀ x, x ∈ l → x < 256) (hb : l.length < 9223372036854775808)
    (A0 : ArgAt eqb.E W 25 1 0 l.length v0 (l.map cellU) vl o0 r0) :
    Calls Try.prog 9 #[v0] W fun e w' => e = .returned (.bool true) ∧ Below W.heap.size W w' := by
  have hgl : GlobOK W := by intro _ _ h; cases h
  have hg : ∀ i, (mkSt [(0, o0)] 1).h.get i = if i = 0 then some o0 else none := fun i => by
    show ((T.e : T AO).set D 0 _).get i = _
    rw [T.get_set, T.get_e]
  have hrow : ∀ i r, row1 r0 i = some r → r.2.2 ≠ [] ∧ RowAt W r.1 r.2.1 r.2.2 := fun i r h => by
    match i, h with
    | 0, h => exact A0.row r h
  have hsr := rowsO_ok hgl (n := 1) (rows := row1 r0) hrow (st := mkSt [(0, o0)] 1) rfl (fun i a hi => by
    rw [hg] at hi
    by_cases e0 : i = 0
    · subst e0; simp at hi; subst hi; exact ⟨by omega, A0.obj⟩
    · simp [e0] at hi)
  have w0 : VR (rowsRen W 1 (row1 r0)) vl v0 := A0.vr _ fun q hq => rowsRen_at (i := 0) (by omega) hq (A0.row q hq).1 (A0.row q hq).2
  have hv : VRs (rowsRen W 1 (row1 r0)) [vl] #[v0] := ⟨rfl, fun i x x' hx hx' => by
    match i with
    | 0 => simp at hx hx'; subst hx; subst hx'; exact w0
    | i + 1 => simp at hx⟩
  exact law_at (fun _ h => h) (fun k hk => .inr hk) hsr hv (law B0 hB hb)
set_option maxRecDepth 100000 in
theorem lifted (os : Os) (started : os.Started) (H : Type) (enc : TypeId × Value → H) :
    ReturnsInHanded {} Try.checked os 9 .any (Rows.messageReadsSpec.pre6 enc Try.prog Try.f9 Rows.messageReadsRow.domain false) (Rows.messageReadsSpec.post enc Try.prog Try.f9 false true false false) := by
  refine returnsInHanded_of_change (C := Try.checked) own started (by kernel_rfl) Try.func9
    (ChangeSpec.witness6 (enc := enc) (C := Try.checked) false ⟨#[], #[.slice none 0 0], []⟩ 8 (by kernel_rfl) (by kernel_rfl) (by kernel_rfl) (by kernel_rfl)) ?_
  intro W base args ds gs before hval0 hW hcnd _
  have hval : ∀ (j : Nat) t v, Try.f9.params[j]? = some t → args[j]? = some v → Value.okWide Try.prog W .any base t v := hval0
  have hW' := hW
  obtain ⟨p, q, hA0, hV, rfl, hfz, hnd⟩ := hW
  have hA : DataW.TrodAll enc Try.prog W 0 (fun _ => true) true Try.f9.params.toList args.toList ds p := hA0
  rw [Try.params9] at hA hval
  obtain ⟨v0, d0, rfl, rfl, h0⟩ := trodAll_one hA
  obtain ⟨rfl, rfl⟩ := trodVars_none hV
  obtain ⟨a0, len, cap, rfl⟩ := okWide_slice Try.underlying25 (hval 0 25 v0 rfl rfl)
  have h0k := h0
  obtain ⟨fu0, hf0⟩ := h0
  clear hA0 hval0
  simp only [List.append_nil] at hW'
  have hlt : ∀ x ∈ p, x.block < W.heap.size := fun x hx => by simpa using hW'.lt x hx
  obtain ⟨v1, hcs, l, vl, o0, r0, L0, B0, A0, hb⟩ := bytes_arg 0 hf0
  have hv1 : v1 = .slice a0 len cap := by
    have : (Value.slice a0 len cap).cells.toList = [.slice a0 len cap] := by simp [Value.cells]
    rw [this] at hcs
    simp at hcs
    exact hcs.symm
  subst hv1
  refine (walk B0 L0 hb A0).mono fun e W' ⟨he, bel⟩ => ?_
  subst he
  have ARG0 : DataW.Trod enc Try.prog W' 0 (fun x => decide (x < W.heap.size)) true 25 (.slice a0 len cap) d0 p :=
    WideElems.Trod_stays laidOut (by kernel_rfl) (of_decide_eq_true (by kernel_rfl)) h0k (fun x hx => same_below bel (hlt x hx)) (fun x hx => by simpa using hlt x hx)
  exact ⟨_, rfl, _, _, _, [], _, [], hW', trodAll_mk1 (shut_bool Try.underlying4 _), trodAll_mk1 ARG0, rfl, bel.frame _, fun h => by cases h⟩
theorem over : Rows.messageReadsRow.holds Try.pinned (OpenSpec.ofChange Rows.messageReadsSpec) :=
  OpenClaim.holds_of_wide 9 Try.f9 rfl rfl rfl rfl rfl rfl rfl ⟨rfl, rfl, rfl, rfl, rfl⟩ rfl rfl rfl rfl rfl (by kernel_rfl) Try.func9 (by kernel_rfl)
    (of_decide_eq_true (by kernel_rfl)) (by unfold Func.isWrapper; first | (rw [if_pos (by decide +kernel)]; kernel_rfl) | (rw [if_neg (by decide +kernel)]; exact ⟨rfl, rfl⟩))
    (fun os started H enc _ => lifted os started H enc)
theorem proved : Rows.MessageReadsSaid := over
end
#print axioms proved
end Go.Proofs.Ytlnohbilfogheaa.mrd
end
