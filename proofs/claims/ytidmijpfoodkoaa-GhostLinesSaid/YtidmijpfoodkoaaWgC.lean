/-
  OWN WORK, A PART: an abstract machine for the program's text that the kernel can run, and the proof that it is sound: what it answers is what the program answers; contracts of functions by it. No condition.
-/
import Derived.Test.YtidmijpfoodkoaaWgB
section
open Go Go.Ax Go.Proofs
namespace Go.Proofs.Ytidmijpfoodkoaa.gho
set_option linter.unusedVariables false
def KO460 : List Nat := [0, 1, 2, 3, 4, 5, 6, 7, 8, 9, 10, 11, 12, 13, 14, 15, 16, 17, 18, 19, 20, 21, 22, 23, 24, 25, 26, 27, 28, 29, 30, 31, 32, 33, 34, 35, 36, 37, 38, 39, 40, 41, 42, 43, 44, 45, 46, 47, 48, 49, 50, 51, 52, 53, 54, 55, 56, 57, 58, 59, 60, 61, 62, 63, 64, 65, 66, 67, 68, 69, 70, 71, 72, 73, 74, 75, 76, 77, 78, 79, 80, 81, 82, 83, 84, 85, 86, 87, 88, 89, 90, 91, 92, 93, 94, 95, 96, 97, 98, 99, 100, 101, 102, 103, 104, 105, 106, 107, 108, 109, 110, 111, 112, 113, 114, 115, 116, 117, 118, 119, 120, 121, 122, 123, 124, 125, 126, 127, 128, 129, 130, 131, 132, 133, 134, 135, 136, 137, 138, 139, 140, 141, 142, 143, 144, 145, 146, 147, 148, 149, 150, 151, 152, 153, 154, 155, 156, 157, 158, 159, 160, 161, 162, 163, 164, 165, 166, 167, 168, 169, 170, 171, 172, 173, 174, 175, 176, 177, 178, 179, 180, 181, 182, 183, 184, 185, 186, 187, 188, 189, 190, 191, 192, 193, 194, 195, 196, 197, 198, 199, 200, 201, 202, 203, 204, 205, 206, 207, 208, 209, 210, 211, 212, 213, 214, 215, 216, 217, 218, 219, 220, 221, 222, 223, 224, 225, 226, 227, 228, 229, 230, 231, 232, 233, 234, 235, 236, 237, 238, 239, 240, 241, 242, 243, 244, 245, 246, 247, 248, 249, 250, 251, 252, 253, 254, 255, 256, 257, 258, 259, 260, 261, 262, 263, 264, 265, 266, 267, 268, 269, 270, 271, 272, 273, 274, 275, 276, 277, 278, 279, 280, 281, 282, 283, 284, 285, 286, 287, 288, 289, 290, 291, 292, 293, 294, 295, 296, 297, 298, 299, 300, 301, 302, 303, 304, 305, 306, 307, 308, 309, 310, 311, 312, 313, 314, 315, 316, 317, 318, 319, 320, 321, 322, 323, 324, 325, 326, 327, 328, 329, 330, 331, 332, 333, 334, 335, 336, 337, 338, 339, 340, 341, 342, 343, 344, 345, 346, 347, 348, 349, 350, 351, 352, 353, 354, 355, 356, 357, 358, 359, 360, 361, 362, 363, 364, 365, 366, 367, 368, 369, 370, 371, 372, 373, 374, 375, 376, 377, 378, 379, 380, 381, 382, 383, 384, 385, 386, 387, 388, 389, 390, 391, 392, 393, 394, 395, 396, 397, 398, 399, 400, 401, 402, 403, 404, 405, 406, 407, 408, 409, 410, 411, 412, 413, 414, 415, 416, 417, 418, 419, 420, 421, 422, 423, 424, 425, 426, 427, 428, 429, 430, 431, 432, 433, 434, 435, 436, 437, 438, 439, 440, 441, 442, 443, 444, 445, 446, 447, 448, 449, 450, 451, 452, 453, 454, 455, 456, 457, 458, 459]
noncomputable def ES : Env := envEx Try.prog [0, 3, 4, 48, 51, 56, 57, 63, 65, 75, 89, 91, 99] [(29, Try.f29), (33, Try.f33), (37, Try.f37), (46, Try.f46), (49, Try.f49), (50, Try.f50), (51, Try.f51), (57, Try.f57)] []
def ln (a p q r : Int) : AV := .agg [gU a, gU p, gU q, gU r]
-- Elder
noncomputable def c37 : Code := Option.getD Try.f37.body .skip
noncomputable def L37 : Code := lopB (blkB (seqR (seqL (dropC 0 c37))))
noncomputable def SE (X : AO) : ASt := mkSt [(0, X)] 1
noncomputable def fr37 (p q r : Int) (V : AV) (i : Nat) : AFr := xFr [(2, V), (13, .agg [gU p, gU q, gU r]), (14, nI i)] 25
noncomputable def tAs (p q r n : Int) (V : AV) (X : AO) (i : Nat) : Tr (Exit × AFr × ASt) := (TM ES noSum [] fl0 60).ex ⟨[16, 18], [], [15], []⟩ none L37 (fr37 p q r V i) (SE X)
noncomputable def tAp (p q r n : Int) (m : Nat) (V : AV) (X W : AO) (i : Nat) : Tr (Exit × AFr × ASt) := (TM ES noSum [] fl0 60).ex ⟨[16, 18, 22], [], [15], []⟩ none L37 (fr37 p q r V i) (SE X)
noncomputable def tAe (p q r : Int) (V : AV) (X : AO) : Tr (Exit × AFr × ASt) := (TM ES noSum [] fl0 60).ex fl0 none (dropC 1 c37) (xFr [(2, V)] 25) (SE X)
-- sight
noncomputable def tSi (q : CallT) (V : AV) (M R : AO) (a p1 p2 p3 : Int) (n m k : Nat) (Vu Ve W : AV) (X Xe : AO) : Tr (AV × ASt) := (TM ES (onlyC [26, 37] q) [(49, ⟨[9, 12, 14, 15, 16, 17], [], [], []⟩)] fl0 60).call 49 [pO 0, ln a p1 p2 p3] (mkSt [(0, tO V), (1, M), (2, R)] 3)
-- IndexFunc with the closure that asks of the other one's
noncomputable def c57 : Code := Option.getD Try.f57.body .skip
noncomputable def L57 : Code := lopB (blkB (seqR (seqL (dropC 0 c57))))
noncomputable def SI (X : AO) (V2 : AV) (Y : AO) : ASt := mkSt [(0, X), (1, .cells [V2] false), (2, Y)] 3
noncomputable def fr57 (V : AV) (n i : Nat) : AFr := xFr [(0, V), (1, .clos 50 [pO 1]), (4, nI 0), (7, nI n), (8, nI i)] 19
noncomputable def fl57 : List (Nat × Fl) := [(50, ⟨[6], [], [], []⟩)]
noncomputable def tIa (q : CallT) (V V2 : AV) (X Y : AO) (n : Nat) : Tr (Exit × AFr × ASt) := (TM ES (onlyC [44] q) fl57 fl0 60).ex ⟨[7], [], [], []⟩ none (seqL (seqL (dropC 0 c57))) (xFr [(0, V), (1, .clos 50 [pO 1]), (4, nI 0)] 19) (SI X V2 Y)
noncomputable def tIf (q : CallT) (V V2 : AV) (X Y : AO) (n i o : Nat) (r : Int) : Tr (Exit × AFr × ASt) := (TM ES (onlyC [44] q) fl57 fl0 60).ex ⟨[14, 15], [16], [9], []⟩ none L57 (fr57 V n i) (SI X V2 Y)
noncomputable def tIn (q : CallT) (V V2 : AV) (X Y : AO) (n i o : Nat) (r : Int) : Tr (Exit × AFr × ASt) := (TM ES (onlyC [44] q) fl57 fl0 60).ex ⟨[14, 15], [16], [9], []⟩ none L57 (fr57 V n i) (SI X V2 Y)
noncomputable def tIz (V V2 : AV) (X Y : AO) (n : Nat) : Tr (Exit × AFr × ASt) := (TM ES noSum [] fl0 60).ex fl0 none (dropC 1 c57) (fr57 V n n) (SI X V2 Y)
noncomputable def tIc (q : CallT) (V V2 : AV) (X Y : AO) (z : Int) : Tr (AV × ASt) := (TM ES (onlyC [57] q) [(51, ⟨[7], [], [], []⟩)] fl0 60).call 51 [V, .clos 50 [pO 1]] (SI X V2 Y)
noncomputable def tY1 (q : CallT) (V : AV) (M R : AO) (a a1 a2 a3 b b1 b2 b3 : Int) (W W2 : AV) (X X2 : AO) : Tr (AV × ASt) := (TM ES (onlyC [44, 49, 51] q) [(33, ⟨[12, 15, 39, 49, 53, 4095], [19, 22, 26, 29, 32, 44], [], []⟩), (29, ⟨[5], [], [], []⟩), (46, fl0), (50, ⟨[6], [], [], []⟩)] fl0 60).call 33 [pO 0, ln a a1 a2 a3, ln b b1 b2 b3] (mkSt [(0, tO V), (1, M), (2, R)] 3)
noncomputable def tY2 (q : CallT) (V : AV) (M R : AO) (a a1 a2 a3 b b1 b2 b3 : Int) (W W2 : AV) (X X2 : AO) : Tr (AV × ASt) := (TM ES (onlyC [44, 49, 51] q) [(33, ⟨[12, 15, 39, 49, 53, 4095], [19, 22, 26, 29, 32, 44], [], []⟩), (29, ⟨[5], [], [], []⟩), (46, fl0), (50, ⟨[6], [], [], []⟩)] fl0 60).call 33 [pO 0, ln a a1 a2 a3, ln b b1 b2 b3] (mkSt [(0, tO V), (1, M), (2, R)] 3)
noncomputable def tY3 (q : CallT) (V : AV) (M R : AO) (a a1 a2 a3 b b1 b2 b3 : Int) (W W2 : AV) (X X2 : AO) : Tr (AV × ASt) := (TM ES (onlyC [44, 49, 51] q) [(33, ⟨[12, 15, 39, 49, 53, 4095], [19, 22, 26, 29, 32, 44], [], []⟩), (29, ⟨[5], [], [], []⟩), (46, fl0), (50, ⟨[6], [], [], []⟩)] fl0 60).call 33 [pO 0, ln a a1 a2 a3, ln b b1 b2 b3] (mkSt [(0, tO V), (1, M), (2, R)] 3)
noncomputable def tY4 (q : CallT) (V : AV) (M R : AO) (a a1 a2 a3 b b1 b2 b3 : Int) (W W2 : AV) (X X2 : AO) : Tr (AV × ASt) := (TM ES (onlyC [44, 49, 51] q) [(33, ⟨[12, 15, 39, 49, 53, 4095], [19, 22, 26, 29, 32, 44], [], []⟩), (29, ⟨[5], [], [], []⟩), (46, fl0), (50, ⟨[6], [], [], []⟩)] fl0 60).call 33 [pO 0, ln a a1 a2 a3, ln b b1 b2 b3] (mkSt [(0, tO V), (1, M), (2, R)] 3)
noncomputable def tY5 (q : CallT) (V : AV) (M R : AO) (a a1 a2 a3 b b1 b2 b3 : Int) (W W2 : AV) (X X2 : AO) : Tr (AV × ASt) := (TM ES (onlyC [44, 49, 51] q) [(33, ⟨[12, 15, 39, 49, 53, 4095], [19, 22, 26, 29, 32, 44], [], []⟩), (29, ⟨[5], [], [], []⟩), (46, fl0), (50, ⟨[6], [], [], []⟩)] fl0 60).call 33 [pO 0, ln a a1 a2 a3, ln b b1 b2 b3] (mkSt [(0, tO V), (1, M), (2, R)] 3)
noncomputable def tY6 (q : CallT) (V : AV) (M R : AO) (a a1 a2 a3 b b1 b2 b3 : Int) (W W2 : AV) (X X2 : AO) : Tr (AV × ASt) := (TM ES (onlyC [44, 49, 51] q) [(33, ⟨[12, 15, 39, 49, 53, 4095], [19, 22, 26, 29, 32, 44], [], []⟩), (29, ⟨[5], [], [], []⟩), (46, fl0), (50, ⟨[6], [], [], []⟩)] fl0 60).call 33 [pO 0, ln a a1 a2 a3, ln b b1 b2 b3] (mkSt [(0, tO V), (1, M), (2, R)] 3)
noncomputable def tY7 (q : CallT) (V : AV) (M R : AO) (a a1 a2 a3 b b1 b2 b3 : Int) (W W2 : AV) (X X2 : AO) : Tr (AV × ASt) := (TM ES (onlyC [44, 49, 51] q) [(33, ⟨[12, 15, 39, 49, 53, 4095], [19, 22, 26, 29, 32, 44], [], []⟩), (29, ⟨[5], [], [], []⟩), (46, fl0), (50, ⟨[6], [], [], []⟩)] fl0 60).call 33 [pO 0, ln a a1 a2 a3, ln b b1 b2 b3] (mkSt [(0, tO V), (1, M), (2, R)] 3)
noncomputable def tY8 (q : CallT) (V : AV) (M R : AO) (a a1 a2 a3 b b1 b2 b3 : Int) (W W2 : AV) (X X2 : AO) : Tr (AV × ASt) := (TM ES (onlyC [44, 49, 51] q) [(33, ⟨[12, 15, 39, 49, 53, 4095], [19, 22, 26, 29, 32, 44], [], []⟩), (29, ⟨[5], [], [], []⟩), (46, fl0), (50, ⟨[6], [], [], []⟩)] fl0 60).call 33 [pO 0, ln a a1 a2 a3, ln b b1 b2 b3] (mkSt [(0, tO V), (1, M), (2, R)] 3)
noncomputable def vcAs_s0 (X : AO) : ASt := mkSt [(0, X)] 1
theorem vcAs (p : Int) (q : Int) (r : Int) (n : Int) (V : AV) (X : AO) (i : Nat) (Q : Exit × AFr × ASt → Prop) :
  (ifB (ltF (.ofNat i) (.ofNat 3)) (still (vcAs_s0 X) (aIndex ES 99 (.agg [.int .u64 p, .int .u64 q, .int .u64 r]) (.int .i64 (.ofNat i))) = some (.int .u64 n, vcAs_s0 X) ∧ still (vcAs_s0 X) (aBin ES .neq 48 (.tmp 17) (.const (.int .u64 0)) (.int .u64 n) (.int .u64 (.ofNat 0))) = some (.bool false, vcAs_s0 X) ∧ Q (.normal, xFr [(2, V), (13, .agg [.int .u64 p, .int .u64 q, .int .u64 r]), (14, .int .i64 (wrapF .i64 (.ofNat i + .ofNat 1)))] 25, vcAs_s0 X)) (Q (.exit 0, xFr [(2, V), (13, .agg [.int .u64 p, .int .u64 q, .int .u64 r]), (14, .int .i64 (.ofNat i))] 25, vcAs_s0 X))) =
  (tAs p q r n V X i).allY (fun r => Q (canR [2, 13, 14] KO460 r)) (.b (.v (.int .u64 n, vcAs_s0 X) (.v (.bool false, vcAs_s0 X) .nil)) .nil) := by kernel_rfl
noncomputable def vcAp_s0 (X : AO) : ASt := mkSt [(0, X)] 1
noncomputable def vcAp_s1 (n : Int) (X : AO) : ASt := mkSt [(0, X), (1, .cells [.int .u64 n] true)] 2
noncomputable def vcAp_s2 (n : Int) (W : AO) : ASt := mkSt [(0, .dead), (1, .cells [.int .u64 n] true), (2, W)] 3
theorem vcAp (p : Int) (q : Int) (r : Int) (n : Int) (m : Nat) (V : AV) (X : AO) (W : AO) (i : Nat) (Q : Exit × AFr × ASt → Prop) :
  (ifB (ltF (.ofNat i) (.ofNat 3)) (still (vcAp_s0 X) (aIndex ES 99 (.agg [.int .u64 p, .int .u64 q, .int .u64 r]) (.int .i64 (.ofNat i))) = some (.int .u64 n, vcAp_s0 X) ∧ still (vcAp_s0 X) (aBin ES .neq 48 (.tmp 17) (.const (.int .u64 0)) (.int .u64 n) (.int .u64 (.ofNat 0))) = some (.bool true, vcAp_s0 X) ∧ aBuiltinM ES .append [57, 57] [V, .slice (some (1, 0)) 1 (.known 1)] (vcAp_s1 n X) = some (.slice (some (2, 0)) (m + 1) (.rest 1), vcAp_s2 n W) ∧ Q (.normal, xFr [(2, .slice (some (2, 0)) (m + 1) (.rest 1)), (13, .agg [.int .u64 p, .int .u64 q, .int .u64 r]), (14, .int .i64 (wrapF .i64 (.ofNat i + .ofNat 1)))] 25, vcAp_s2 n W)) (Q (.exit 0, xFr [(2, V), (13, .agg [.int .u64 p, .int .u64 q, .int .u64 r]), (14, .int .i64 (.ofNat i))] 25, vcAp_s0 X))) =
  (tAp p q r n m V X W i).allY (fun r => Q (canR [2, 13, 14] KO460 r)) (.b (.v (.int .u64 n, vcAp_s0 X) (.v (.bool true, vcAp_s0 X) (.v (.slice (some (2, 0)) (m + 1) (.rest 1), vcAp_s2 n W) .nil))) .nil) := by kernel_rfl
noncomputable def vcAe_s0 (X : AO) : ASt := mkSt [(0, X)] 1
theorem vcAe (p : Int) (q : Int) (r : Int) (V : AV) (X : AO) (Q : Exit × AFr × ASt → Prop) :
  (Q (.ret, xFr [(2, V)] 25, vcAe_s0 X)) =
  (tAe p q r V X).allY (fun r => Q (canR [2] KO460 r)) (.nil) := by kernel_rfl
noncomputable def vcSi_s0 (V : AV) (M : AO) (R : AO) (a : Int) (p1 : Int) (p2 : Int) (p3 : Int) : ASt := mkSt [(0, .cells [.map (some 1), V] true), (1, M), (2, R), (3, .cells [.int .u64 a, .int .u64 p1, .int .u64 p2, .int .u64 p3] true)] 4
noncomputable def vcSi_s1 (V : AV) (M : AO) (R : AO) (a : Int) (p1 : Int) (p2 : Int) (p3 : Int) (X : AO) : ASt := mkSt [(0, .cells [.map (some 1), V] true), (1, M), (2, R), (3, .cells [.int .u64 a, .int .u64 p1, .int .u64 p2, .int .u64 p3] true), (17, X)] 104
noncomputable def vcSi_s2 (V : AV) (M : AO) (R : AO) (a : Int) (p1 : Int) (p2 : Int) (p3 : Int) (X : AO) (Xe : AO) : ASt := mkSt [(0, .cells [.map (some 1), V] true), (1, M), (2, R), (3, .cells [.int .u64 a, .int .u64 p1, .int .u64 p2, .int .u64 p3] true), (17, X), (104, Xe)] 154
theorem vcSi (q : CallT) (V : AV) (M : AO) (R : AO) (a : Int) (p1 : Int) (p2 : Int) (p3 : Int) (n : Nat) (m : Nat) (k : Nat) (Vu : AV) (Ve : AV) (W : AV) (X : AO) (Xe : AO) (Q : AV × ASt → Prop) :
  ((Ax.M ES (drawA ES) (onlyC [26, 37] q) 56).call 26 [.ptr (some (0, 0)), .int .u64 a] (vcSi_s0 V M R a p1 p2 p3) = some (Vu, vcSi_s1 V M R a p1 p2 p3 X) ∧ aBuiltinM ES .len [57] [Vu] (vcSi_s1 V M R a p1 p2 p3 X) = some (.int .i64 (.ofNat n), vcSi_s1 V M R a p1 p2 p3 X) ∧ (Ax.M ES (drawA ES) (onlyC [26, 37] q) 55).call 37 [.agg [.int .u64 a, .int .u64 p1, .int .u64 p2, .int .u64 p3]] (vcSi_s1 V M R a p1 p2 p3 X) = some (Ve, vcSi_s2 V M R a p1 p2 p3 X Xe) ∧ aBuiltinM ES .len [57] [Ve] (vcSi_s2 V M R a p1 p2 p3 X Xe) = some (.int .i64 (.ofNat m), vcSi_s2 V M R a p1 p2 p3 X Xe) ∧ aBuiltinM ES .min [3, 3] [.int .i64 (.ofNat n), .int .i64 (.ofNat m)] (vcSi_s2 V M R a p1 p2 p3 X Xe) = some (.int .i64 (.ofNat k), vcSi_s2 V M R a p1 p2 p3 X Xe) ∧ still (vcSi_s2 V M R a p1 p2 p3 X Xe) (aSlice ES 57 Vu none (some (.int .i64 (.ofNat k))) none (vcSi_s2 V M R a p1 p2 p3 X Xe)) = some (W, vcSi_s2 V M R a p1 p2 p3 X Xe) ∧ Q (W, vcSi_s2 V M R a p1 p2 p3 X Xe)) =
  (tSi q V M R a p1 p2 p3 n m k Vu Ve W X Xe).allY (fun r => Q (r.1, canS KO460 r.2)) (.v (Vu, vcSi_s1 V M R a p1 p2 p3 X) (.v (.int .i64 (.ofNat n), vcSi_s1 V M R a p1 p2 p3 X) (.v (Ve, vcSi_s2 V M R a p1 p2 p3 X Xe) (.v (.int .i64 (.ofNat m), vcSi_s2 V M R a p1 p2 p3 X Xe) (.v (.int .i64 (.ofNat k), vcSi_s2 V M R a p1 p2 p3 X Xe) (.v (W, vcSi_s2 V M R a p1 p2 p3 X Xe) .nil)))))) := by kernel_rfl
noncomputable def vcIa_s0 (V2 : AV) (X : AO) (Y : AO) : ASt := mkSt [(0, X), (1, .cells [V2] false), (2, Y)] 3
theorem vcIa (q : CallT) (V : AV) (V2 : AV) (X : AO) (Y : AO) (n : Nat) (Q : Exit × AFr × ASt → Prop) :
  (aBuiltinM ES .len [57] [V] (vcIa_s0 V2 X Y) = some (.int .i64 (.ofNat n), vcIa_s0 V2 X Y) ∧ Q (.normal, xFr [(0, V), (1, .clos 50 [.ptr (some (1, 0))]), (4, .int .i64 (.ofNat 0)), (7, .int .i64 (.ofNat n)), (8, .int .i64 (.ofNat 0))] 19, vcIa_s0 V2 X Y)) =
  (tIa q V V2 X Y n).allY (fun r => Q (canR [0, 1, 4, 7, 8] KO460 r)) (.v (.int .i64 (.ofNat n), vcIa_s0 V2 X Y) .nil) := by kernel_rfl
noncomputable def vcIf_s0 (V2 : AV) (X : AO) (Y : AO) : ASt := mkSt [(0, X), (1, .cells [V2] false), (2, Y)] 3
theorem vcIf (q : CallT) (V : AV) (V2 : AV) (X : AO) (Y : AO) (n : Nat) (i : Nat) (o : Nat) (r : Int) (Q : Exit × AFr × ASt → Prop) (Q2 : Exit × Option AV → Prop) :
  (ifB (ltF (.ofNat i) (.ofNat n)) (still (vcIf_s0 V2 X Y) (aIndexAddr ES 57 V (.int .i64 (.ofNat i))) = some (.ptr (some (0, o)), vcIf_s0 V2 X Y) ∧ aLoad ES 48 (.ptr (some (0, o))) (vcIf_s0 V2 X Y) = some (.int .u64 r, vcIf_s0 V2 X Y) ∧ (M ES (drawA ES) (onlyC [44] q) 49).call 44 [V2, .int .u64 r] (vcIf_s0 V2 X Y) = some (.bool true, vcIf_s0 V2 X Y) ∧ Q2 (.ret, some (.int .i64 (.ofNat i)))) (Q (.exit 0, xFr [(0, V), (1, .clos 50 [.ptr (some (1, 0))]), (4, .int .i64 (.ofNat 0)), (7, .int .i64 (.ofNat n)), (8, .int .i64 (.ofNat i))] 19, vcIf_s0 V2 X Y))) =
  (tIf q V V2 X Y n i o r).allY (mixQ ES Try.f57 [0, 1, 4, 7, 8] KO460 Q Q2) (.b (.v (.ptr (some (0, o)), vcIf_s0 V2 X Y) (.v (.int .u64 r, vcIf_s0 V2 X Y) (.v (.bool true, vcIf_s0 V2 X Y) .nil))) .nil) := by kernel_rfl
noncomputable def vcIn_s0 (V2 : AV) (X : AO) (Y : AO) : ASt := mkSt [(0, X), (1, .cells [V2] false), (2, Y)] 3
theorem vcIn (q : CallT) (V : AV) (V2 : AV) (X : AO) (Y : AO) (n : Nat) (i : Nat) (o : Nat) (r : Int) (Q : Exit × AFr × ASt → Prop) (Q2 : Exit × Option AV → Prop) :
  (ifB (ltF (.ofNat i) (.ofNat n)) (still (vcIn_s0 V2 X Y) (aIndexAddr ES 57 V (.int .i64 (.ofNat i))) = some (.ptr (some (0, o)), vcIn_s0 V2 X Y) ∧ aLoad ES 48 (.ptr (some (0, o))) (vcIn_s0 V2 X Y) = some (.int .u64 r, vcIn_s0 V2 X Y) ∧ (M ES (drawA ES) (onlyC [44] q) 49).call 44 [V2, .int .u64 r] (vcIn_s0 V2 X Y) = some (.bool false, vcIn_s0 V2 X Y) ∧ Q (.normal, xFr [(0, V), (1, .clos 50 [.ptr (some (1, 0))]), (4, .int .i64 (.ofNat 0)), (7, .int .i64 (.ofNat n)), (8, .int .i64 (wrapF .i64 (.ofNat i + .ofNat 1)))] 19, vcIn_s0 V2 X Y)) (Q (.exit 0, xFr [(0, V), (1, .clos 50 [.ptr (some (1, 0))]), (4, .int .i64 (.ofNat 0)), (7, .int .i64 (.ofNat n)), (8, .int .i64 (.ofNat i))] 19, vcIn_s0 V2 X Y))) =
  (tIn q V V2 X Y n i o r).allY (mixQ ES Try.f57 [0, 1, 4, 7, 8] KO460 Q Q2) (.b (.v (.ptr (some (0, o)), vcIn_s0 V2 X Y) (.v (.int .u64 r, vcIn_s0 V2 X Y) (.v (.bool false, vcIn_s0 V2 X Y) .nil))) .nil) := by kernel_rfl
theorem vcIz (V : AV) (V2 : AV) (X : AO) (Y : AO) (n : Nat) (Q : Exit × Option AV → Prop) :
  (Q (.ret, some (.int .i64 (Int.negSucc 0)))) =
  (tIz V V2 X Y n).allY (fun r => Q (r.1, ans (leaveA ES Try.f57 r.2.1 r.2.2))) (.nil) := by kernel_rfl
noncomputable def vcIc_s0 (V2 : AV) (X : AO) (Y : AO) : ASt := mkSt [(0, X), (1, .cells [V2] false), (2, Y)] 3
theorem vcIc (q : CallT) (V : AV) (V2 : AV) (X : AO) (Y : AO) (z : Int) (Q : AV × ASt → Prop) :
  ((M ES (drawA ES) (onlyC [57] q) 56).call 57 [V, .clos 50 [.ptr (some (1, 0))]] (vcIc_s0 V2 X Y) = some (.int .i64 z, vcIc_s0 V2 X Y) ∧ Q (.bool !ltF z (.ofNat 0), vcIc_s0 V2 X Y)) =
  (tIc q V V2 X Y z).allY (fun r => Q (r.1, canS KO460 r.2)) (.v (.int .i64 z, vcIc_s0 V2 X Y) .nil) := by kernel_rfl
noncomputable def vcY1_s0 (V : AV) (M : AO) (R : AO) (a : Int) (a1 : Int) (a2 : Int) (a3 : Int) (b : Int) (b1 : Int) (b2 : Int) (b3 : Int) : ASt := mkSt [(0, .cells [.map (some 1), V] true), (1, M), (2, R), (3, .cells [.int .u64 a, .int .u64 a1, .int .u64 a2, .int .u64 a3] true), (4, .cells [.int .u64 b, .int .u64 b1, .int .u64 b2, .int .u64 b3] true)] 14
noncomputable def vcY1_s1 (V : AV) (M : AO) (R : AO) (a : Int) (a1 : Int) (a2 : Int) (a3 : Int) (b : Int) (b1 : Int) (b2 : Int) (b3 : Int) (X : AO) : ASt := mkSt [(0, .cells [.map (some 1), V] true), (1, M), (2, R), (3, .cells [.int .u64 a, .int .u64 a1, .int .u64 a2, .int .u64 a3] true), (4, .cells [.int .u64 b, .int .u64 b1, .int .u64 b2, .int .u64 b3] true), (31, X)] 214
noncomputable def vcY1_s2 (V : AV) (M : AO) (R : AO) (a : Int) (a1 : Int) (a2 : Int) (a3 : Int) (b : Int) (b1 : Int) (b2 : Int) (b3 : Int) (X : AO) (X2 : AO) : ASt := mkSt [(0, .cells [.map (some 1), V] true), (1, M), (2, R), (3, .cells [.int .u64 a, .int .u64 a1, .int .u64 a2, .int .u64 a3] true), (4, .cells [.int .u64 b, .int .u64 b1, .int .u64 b2, .int .u64 b3] true), (31, X), (231, X2)] 414
noncomputable def vcY1_s3 (V : AV) (M : AO) (R : AO) (a : Int) (a1 : Int) (a2 : Int) (a3 : Int) (b : Int) (b1 : Int) (b2 : Int) (b3 : Int) (X : AO) (X2 : AO) : ASt := mkSt [(0, .cells [.map (some 1), V] true), (1, M), (2, R), (3, .cells [.int .u64 a, .int .u64 a1, .int .u64 a2, .int .u64 a3] true), (4, .cells [.int .u64 b, .int .u64 b1, .int .u64 b2, .int .u64 b3] true), (11, .cells [.slice none 0 (.known 0)] true), (31, X), (231, X2)] 414
noncomputable def vcY1_s4 (V : AV) (M : AO) (R : AO) (a : Int) (a1 : Int) (a2 : Int) (a3 : Int) (b : Int) (b1 : Int) (b2 : Int) (b3 : Int) (W2 : AV) (X : AO) (X2 : AO) : ASt := mkSt [(0, .cells [.map (some 1), V] true), (1, M), (2, R), (3, .cells [.int .u64 a, .int .u64 a1, .int .u64 a2, .int .u64 a3] true), (4, .cells [.int .u64 b, .int .u64 b1, .int .u64 b2, .int .u64 b3] true), (11, .cells [W2] true), (31, X), (231, X2)] 414
noncomputable def vcY1_s5 (V : AV) (M : AO) (R : AO) (a : Int) (a1 : Int) (a2 : Int) (a3 : Int) (b : Int) (b1 : Int) (b2 : Int) (b3 : Int) (W2 : AV) (X : AO) (X2 : AO) : ASt := mkSt [(0, .cells [.map (some 1), V] true), (1, M), (2, R), (3, .cells [.int .u64 a, .int .u64 a1, .int .u64 a2, .int .u64 a3] true), (4, .cells [.int .u64 b, .int .u64 b1, .int .u64 b2, .int .u64 b3] true), (11, .cells [W2] true), (31, X), (231, X2), (414, .cells [.int .u64 a, .int .u64 a1, .int .u64 a2, .int .u64 a3] true)] 415
noncomputable def vcY1_s6 (V : AV) (M : AO) (R : AO) (a : Int) (a1 : Int) (a2 : Int) (a3 : Int) (b : Int) (b1 : Int) (b2 : Int) (b3 : Int) (W2 : AV) (X : AO) (X2 : AO) : ASt := mkSt [(0, .cells [.map (some 1), V] true), (1, M), (2, R), (3, .cells [.int .u64 a, .int .u64 a1, .int .u64 a2, .int .u64 a3] true), (4, .cells [.int .u64 b, .int .u64 b1, .int .u64 b2, .int .u64 b3] true), (11, .cells [W2] true), (31, X), (231, X2), (414, .cells [.int .u64 a, .int .u64 a1, .int .u64 a2, .int .u64 a3] true), (415, .cells [.int .u64 b, .int .u64 b1, .int .u64 b2, .int .u64 b3] true)] 416
theorem vcY1 (q : CallT) (V : AV) (M : AO) (R : AO) (a : Int) (a1 : Int) (a2 : Int) (a3 : Int) (b : Int) (b1 : Int) (b2 : Int) (b3 : Int) (W : AV) (W2 : AV) (X : AO) (X2 : AO) (Q : AV × ASt → Prop) :
  ((Ax.M ES (drawA ES) (onlyC [44, 49, 51] q) 56).call 49 [.ptr (some (0, 0)), .agg [.int .u64 a, .int .u64 a1, .int .u64 a2, .int .u64 a3]] (vcY1_s0 V M R a a1 a2 a3 b b1 b2 b3) = some (W, vcY1_s1 V M R a a1 a2 a3 b b1 b2 b3 X) ∧ (Ax.M ES (drawA ES) (onlyC [44, 49, 51] q) 56).call 49 [.ptr (some (0, 0)), .agg [.int .u64 b, .int .u64 b1, .int .u64 b2, .int .u64 b3]] (vcY1_s1 V M R a a1 a2 a3 b b1 b2 b3 X) = some (W2, vcY1_s2 V M R a a1 a2 a3 b b1 b2 b3 X X2) ∧ Option.map (fun s => (undefA, s)) (aStore ES 57 (.ptr (some (11, 0))) W2 (vcY1_s3 V M R a a1 a2 a3 b b1 b2 b3 X X2)) = some (.tuple [], vcY1_s4 V M R a a1 a2 a3 b b1 b2 b3 W2 X X2) ∧ holdsO [(some (.agg [.int .u64 b, .int .u64 b1, .int .u64 b2, .int .u64 b3]), .agg [.int .u64 b, .int .u64 b1, .int .u64 b2, .int .u64 b3])] ∧ still (vcY1_s5 V M R a a1 a2 a3 b b1 b2 b3 W2 X X2) (aBin ES .eql 48 (.tmp 4) (.const (.int .u64 0)) (.int .u64 a) (.int .u64 (.ofNat 0))) = some (.bool true, vcY1_s5 V M R a a1 a2 a3 b b1 b2 b3 W2 X X2) ∧ still (vcY1_s6 V M R a a1 a2 a3 b b1 b2 b3 W2 X X2) (aBin ES .eql 48 (.tmp 4) (.const (.int .u64 0)) (.int .u64 b) (.int .u64 (.ofNat 0))) = some (.bool true, vcY1_s6 V M R a a1 a2 a3 b b1 b2 b3 W2 X X2) ∧ Q (.int .i64 (.ofNat 1), vcY1_s6 V M R a a1 a2 a3 b b1 b2 b3 W2 X X2)) =
  (tY1 q V M R a a1 a2 a3 b b1 b2 b3 W W2 X X2).allY (fun r => Q (r.1, canS KO460 r.2)) (.v (W, vcY1_s1 V M R a a1 a2 a3 b b1 b2 b3 X) (.v (W2, vcY1_s2 V M R a a1 a2 a3 b b1 b2 b3 X X2) (.v (.tuple [], vcY1_s4 V M R a a1 a2 a3 b b1 b2 b3 W2 X X2) (.v (.bool true, vcY1_s5 V M R a a1 a2 a3 b b1 b2 b3 W2 X X2) (.v (.bool true, vcY1_s6 V M R a a1 a2 a3 b b1 b2 b3 W2 X X2) .nil))))) := by kernel_rfl
noncomputable def vcY2_s0 (V : AV) (M : AO) (R : AO) (a : Int) (a1 : Int) (a2 : Int) (a3 : Int) (b : Int) (b1 : Int) (b2 : Int) (b3 : Int) : ASt := mkSt [(0, .cells [.map (some 1), V] true), (1, M), (2, R), (3, .cells [.int .u64 a, .int .u64 a1, .int .u64 a2, .int .u64 a3] true), (4, .cells [.int .u64 b, .int .u64 b1, .int .u64 b2, .int .u64 b3] true)] 14
noncomputable def vcY2_s1 (V : AV) (M : AO) (R : AO) (a : Int) (a1 : Int) (a2 : Int) (a3 : Int) (b : Int) (b1 : Int) (b2 : Int) (b3 : Int) (X : AO) : ASt := mkSt [(0, .cells [.map (some 1), V] true), (1, M), (2, R), (3, .cells [.int .u64 a, .int .u64 a1, .int .u64 a2, .int .u64 a3] true), (4, .cells [.int .u64 b, .int .u64 b1, .int .u64 b2, .int .u64 b3] true), (31, X)] 214
noncomputable def vcY2_s2 (V : AV) (M : AO) (R : AO) (a : Int) (a1 : Int) (a2 : Int) (a3 : Int) (b : Int) (b1 : Int) (b2 : Int) (b3 : Int) (X : AO) (X2 : AO) : ASt := mkSt [(0, .cells [.map (some 1), V] true), (1, M), (2, R), (3, .cells [.int .u64 a, .int .u64 a1, .int .u64 a2, .int .u64 a3] true), (4, .cells [.int .u64 b, .int .u64 b1, .int .u64 b2, .int .u64 b3] true), (31, X), (231, X2)] 414
noncomputable def vcY2_s3 (V : AV) (M : AO) (R : AO) (a : Int) (a1 : Int) (a2 : Int) (a3 : Int) (b : Int) (b1 : Int) (b2 : Int) (b3 : Int) (X : AO) (X2 : AO) : ASt := mkSt [(0, .cells [.map (some 1), V] true), (1, M), (2, R), (3, .cells [.int .u64 a, .int .u64 a1, .int .u64 a2, .int .u64 a3] true), (4, .cells [.int .u64 b, .int .u64 b1, .int .u64 b2, .int .u64 b3] true), (11, .cells [.slice none 0 (.known 0)] true), (31, X), (231, X2)] 414
noncomputable def vcY2_s4 (V : AV) (M : AO) (R : AO) (a : Int) (a1 : Int) (a2 : Int) (a3 : Int) (b : Int) (b1 : Int) (b2 : Int) (b3 : Int) (W2 : AV) (X : AO) (X2 : AO) : ASt := mkSt [(0, .cells [.map (some 1), V] true), (1, M), (2, R), (3, .cells [.int .u64 a, .int .u64 a1, .int .u64 a2, .int .u64 a3] true), (4, .cells [.int .u64 b, .int .u64 b1, .int .u64 b2, .int .u64 b3] true), (11, .cells [W2] true), (31, X), (231, X2)] 414
noncomputable def vcY2_s5 (V : AV) (M : AO) (R : AO) (a : Int) (a1 : Int) (a2 : Int) (a3 : Int) (b : Int) (b1 : Int) (b2 : Int) (b3 : Int) (W2 : AV) (X : AO) (X2 : AO) : ASt := mkSt [(0, .cells [.map (some 1), V] true), (1, M), (2, R), (3, .cells [.int .u64 a, .int .u64 a1, .int .u64 a2, .int .u64 a3] true), (4, .cells [.int .u64 b, .int .u64 b1, .int .u64 b2, .int .u64 b3] true), (11, .cells [W2] true), (31, X), (231, X2), (414, .cells [.int .u64 a, .int .u64 a1, .int .u64 a2, .int .u64 a3] true)] 415
noncomputable def vcY2_s6 (V : AV) (M : AO) (R : AO) (a : Int) (a1 : Int) (a2 : Int) (a3 : Int) (b : Int) (b1 : Int) (b2 : Int) (b3 : Int) (W2 : AV) (X : AO) (X2 : AO) : ASt := mkSt [(0, .cells [.map (some 1), V] true), (1, M), (2, R), (3, .cells [.int .u64 a, .int .u64 a1, .int .u64 a2, .int .u64 a3] true), (4, .cells [.int .u64 b, .int .u64 b1, .int .u64 b2, .int .u64 b3] true), (11, .cells [W2] true), (31, X), (231, X2), (414, .cells [.int .u64 a, .int .u64 a1, .int .u64 a2, .int .u64 a3] true), (415, .cells [.int .u64 b, .int .u64 b1, .int .u64 b2, .int .u64 b3] true)] 416
noncomputable def vcY2_s7 (V : AV) (M : AO) (R : AO) (a : Int) (a1 : Int) (a2 : Int) (a3 : Int) (b : Int) (b1 : Int) (b2 : Int) (b3 : Int) (W2 : AV) (X : AO) (X2 : AO) : ASt := mkSt [(0, .cells [.map (some 1), V] true), (1, M), (2, R), (3, .cells [.int .u64 a, .int .u64 a1, .int .u64 a2, .int .u64 a3] true), (4, .cells [.int .u64 b, .int .u64 b1, .int .u64 b2, .int .u64 b3] true), (11, .cells [W2] true), (31, X), (231, X2), (414, .cells [.int .u64 a, .int .u64 a1, .int .u64 a2, .int .u64 a3] true), (415, .cells [.int .u64 b, .int .u64 b1, .int .u64 b2, .int .u64 b3] true), (416, .cells [.int .u64 a, .int .u64 a1, .int .u64 a2, .int .u64 a3] true)] 417
theorem vcY2 (q : CallT) (V : AV) (M : AO) (R : AO) (a : Int) (a1 : Int) (a2 : Int) (a3 : Int) (b : Int) (b1 : Int) (b2 : Int) (b3 : Int) (W : AV) (W2 : AV) (X : AO) (X2 : AO) (Q : AV × ASt → Prop) :
  ((Ax.M ES (drawA ES) (onlyC [44, 49, 51] q) 56).call 49 [.ptr (some (0, 0)), .agg [.int .u64 a, .int .u64 a1, .int .u64 a2, .int .u64 a3]] (vcY2_s0 V M R a a1 a2 a3 b b1 b2 b3) = some (W, vcY2_s1 V M R a a1 a2 a3 b b1 b2 b3 X) ∧ (Ax.M ES (drawA ES) (onlyC [44, 49, 51] q) 56).call 49 [.ptr (some (0, 0)), .agg [.int .u64 b, .int .u64 b1, .int .u64 b2, .int .u64 b3]] (vcY2_s1 V M R a a1 a2 a3 b b1 b2 b3 X) = some (W2, vcY2_s2 V M R a a1 a2 a3 b b1 b2 b3 X X2) ∧ Option.map (fun s => (undefA, s)) (aStore ES 57 (.ptr (some (11, 0))) W2 (vcY2_s3 V M R a a1 a2 a3 b b1 b2 b3 X X2)) = some (.tuple [], vcY2_s4 V M R a a1 a2 a3 b b1 b2 b3 W2 X X2) ∧ holdsO [(some (.agg [.int .u64 b, .int .u64 b1, .int .u64 b2, .int .u64 b3]), .agg [.int .u64 b, .int .u64 b1, .int .u64 b2, .int .u64 b3])] ∧ still (vcY2_s5 V M R a a1 a2 a3 b b1 b2 b3 W2 X X2) (aBin ES .eql 48 (.tmp 4) (.const (.int .u64 0)) (.int .u64 a) (.int .u64 (.ofNat 0))) = some (.bool true, vcY2_s5 V M R a a1 a2 a3 b b1 b2 b3 W2 X X2) ∧ still (vcY2_s6 V M R a a1 a2 a3 b b1 b2 b3 W2 X X2) (aBin ES .eql 48 (.tmp 4) (.const (.int .u64 0)) (.int .u64 b) (.int .u64 (.ofNat 0))) = some (.bool false, vcY2_s6 V M R a a1 a2 a3 b b1 b2 b3 W2 X X2) ∧ still (vcY2_s7 V M R a a1 a2 a3 b b1 b2 b3 W2 X X2) (aBin ES .eql 48 (.tmp 4) (.const (.int .u64 0)) (.int .u64 a) (.int .u64 (.ofNat 0))) = some (.bool true, vcY2_s7 V M R a a1 a2 a3 b b1 b2 b3 W2 X X2) ∧ Q (.int .i64 (.ofNat 2), vcY2_s7 V M R a a1 a2 a3 b b1 b2 b3 W2 X X2)) =
  (tY2 q V M R a a1 a2 a3 b b1 b2 b3 W W2 X X2).allY (fun r => Q (r.1, canS KO460 r.2)) (.v (W, vcY2_s1 V M R a a1 a2 a3 b b1 b2 b3 X) (.v (W2, vcY2_s2 V M R a a1 a2 a3 b b1 b2 b3 X X2) (.v (.tuple [], vcY2_s4 V M R a a1 a2 a3 b b1 b2 b3 W2 X X2) (.v (.bool true, vcY2_s5 V M R a a1 a2 a3 b b1 b2 b3 W2 X X2) (.v (.bool false, vcY2_s6 V M R a a1 a2 a3 b b1 b2 b3 W2 X X2) (.v (.bool true, vcY2_s7 V M R a a1 a2 a3 b b1 b2 b3 W2 X X2) .nil)))))) := by kernel_rfl
noncomputable def vcY3_s0 (V : AV) (M : AO) (R : AO) (a : Int) (a1 : Int) (a2 : Int) (a3 : Int) (b : Int) (b1 : Int) (b2 : Int) (b3 : Int) : ASt := mkSt [(0, .cells [.map (some 1), V] true), (1, M), (2, R), (3, .cells [.int .u64 a, .int .u64 a1, .int .u64 a2, .int .u64 a3] true), (4, .cells [.int .u64 b, .int .u64 b1, .int .u64 b2, .int .u64 b3] true)] 14
noncomputable def vcY3_s1 (V : AV) (M : AO) (R : AO) (a : Int) (a1 : Int) (a2 : Int) (a3 : Int) (b : Int) (b1 : Int) (b2 : Int) (b3 : Int) (X : AO) : ASt := mkSt [(0, .cells [.map (some 1), V] true), (1, M), (2, R), (3, .cells [.int .u64 a, .int .u64 a1, .int .u64 a2, .int .u64 a3] true), (4, .cells [.int .u64 b, .int .u64 b1, .int .u64 b2, .int .u64 b3] true), (31, X)] 214
noncomputable def vcY3_s2 (V : AV) (M : AO) (R : AO) (a : Int) (a1 : Int) (a2 : Int) (a3 : Int) (b : Int) (b1 : Int) (b2 : Int) (b3 : Int) (X : AO) (X2 : AO) : ASt := mkSt [(0, .cells [.map (some 1), V] true), (1, M), (2, R), (3, .cells [.int .u64 a, .int .u64 a1, .int .u64 a2, .int .u64 a3] true), (4, .cells [.int .u64 b, .int .u64 b1, .int .u64 b2, .int .u64 b3] true), (31, X), (231, X2)] 414
noncomputable def vcY3_s3 (V : AV) (M : AO) (R : AO) (a : Int) (a1 : Int) (a2 : Int) (a3 : Int) (b : Int) (b1 : Int) (b2 : Int) (b3 : Int) (X : AO) (X2 : AO) : ASt := mkSt [(0, .cells [.map (some 1), V] true), (1, M), (2, R), (3, .cells [.int .u64 a, .int .u64 a1, .int .u64 a2, .int .u64 a3] true), (4, .cells [.int .u64 b, .int .u64 b1, .int .u64 b2, .int .u64 b3] true), (11, .cells [.slice none 0 (.known 0)] true), (31, X), (231, X2)] 414
noncomputable def vcY3_s4 (V : AV) (M : AO) (R : AO) (a : Int) (a1 : Int) (a2 : Int) (a3 : Int) (b : Int) (b1 : Int) (b2 : Int) (b3 : Int) (W2 : AV) (X : AO) (X2 : AO) : ASt := mkSt [(0, .cells [.map (some 1), V] true), (1, M), (2, R), (3, .cells [.int .u64 a, .int .u64 a1, .int .u64 a2, .int .u64 a3] true), (4, .cells [.int .u64 b, .int .u64 b1, .int .u64 b2, .int .u64 b3] true), (11, .cells [W2] true), (31, X), (231, X2)] 414
noncomputable def vcY3_s5 (V : AV) (M : AO) (R : AO) (a : Int) (a1 : Int) (a2 : Int) (a3 : Int) (b : Int) (b1 : Int) (b2 : Int) (b3 : Int) (W2 : AV) (X : AO) (X2 : AO) : ASt := mkSt [(0, .cells [.map (some 1), V] true), (1, M), (2, R), (3, .cells [.int .u64 a, .int .u64 a1, .int .u64 a2, .int .u64 a3] true), (4, .cells [.int .u64 b, .int .u64 b1, .int .u64 b2, .int .u64 b3] true), (11, .cells [W2] true), (31, X), (231, X2), (414, .cells [.int .u64 a, .int .u64 a1, .int .u64 a2, .int .u64 a3] true)] 415
noncomputable def vcY3_s6 (V : AV) (M : AO) (R : AO) (a : Int) (a1 : Int) (a2 : Int) (a3 : Int) (b : Int) (b1 : Int) (b2 : Int) (b3 : Int) (W2 : AV) (X : AO) (X2 : AO) : ASt := mkSt [(0, .cells [.map (some 1), V] true), (1, M), (2, R), (3, .cells [.int .u64 a, .int .u64 a1, .int .u64 a2, .int .u64 a3] true), (4, .cells [.int .u64 b, .int .u64 b1, .int .u64 b2, .int .u64 b3] true), (11, .cells [W2] true), (31, X), (231, X2), (414, .cells [.int .u64 a, .int .u64 a1, .int .u64 a2, .int .u64 a3] true), (415, .cells [.int .u64 a, .int .u64 a1, .int .u64 a2, .int .u64 a3] true)] 416
noncomputable def vcY3_s7 (V : AV) (M : AO) (R : AO) (a : Int) (a1 : Int) (a2 : Int) (a3 : Int) (b : Int) (b1 : Int) (b2 : Int) (b3 : Int) (W2 : AV) (X : AO) (X2 : AO) : ASt := mkSt [(0, .cells [.map (some 1), V] true), (1, M), (2, R), (3, .cells [.int .u64 a, .int .u64 a1, .int .u64 a2, .int .u64 a3] true), (4, .cells [.int .u64 b, .int .u64 b1, .int .u64 b2, .int .u64 b3] true), (11, .cells [W2] true), (31, X), (231, X2), (414, .cells [.int .u64 a, .int .u64 a1, .int .u64 a2, .int .u64 a3] true), (415, .cells [.int .u64 a, .int .u64 a1, .int .u64 a2, .int .u64 a3] true), (416, .cells [.int .u64 b, .int .u64 b1, .int .u64 b2, .int .u64 b3] true)] 417
theorem vcY3 (q : CallT) (V : AV) (M : AO) (R : AO) (a : Int) (a1 : Int) (a2 : Int) (a3 : Int) (b : Int) (b1 : Int) (b2 : Int) (b3 : Int) (W : AV) (W2 : AV) (X : AO) (X2 : AO) (Q : AV × ASt → Prop) :
  ((Ax.M ES (drawA ES) (onlyC [44, 49, 51] q) 56).call 49 [.ptr (some (0, 0)), .agg [.int .u64 a, .int .u64 a1, .int .u64 a2, .int .u64 a3]] (vcY3_s0 V M R a a1 a2 a3 b b1 b2 b3) = some (W, vcY3_s1 V M R a a1 a2 a3 b b1 b2 b3 X) ∧ (Ax.M ES (drawA ES) (onlyC [44, 49, 51] q) 56).call 49 [.ptr (some (0, 0)), .agg [.int .u64 b, .int .u64 b1, .int .u64 b2, .int .u64 b3]] (vcY3_s1 V M R a a1 a2 a3 b b1 b2 b3 X) = some (W2, vcY3_s2 V M R a a1 a2 a3 b b1 b2 b3 X X2) ∧ Option.map (fun s => (undefA, s)) (aStore ES 57 (.ptr (some (11, 0))) W2 (vcY3_s3 V M R a a1 a2 a3 b b1 b2 b3 X X2)) = some (.tuple [], vcY3_s4 V M R a a1 a2 a3 b b1 b2 b3 W2 X X2) ∧ holdsO [(some (.agg [.int .u64 b, .int .u64 b1, .int .u64 b2, .int .u64 b3]), .agg [.int .u64 b, .int .u64 b1, .int .u64 b2, .int .u64 b3])] ∧ still (vcY3_s5 V M R a a1 a2 a3 b b1 b2 b3 W2 X X2) (aBin ES .eql 48 (.tmp 4) (.const (.int .u64 0)) (.int .u64 a) (.int .u64 (.ofNat 0))) = some (.bool false, vcY3_s5 V M R a a1 a2 a3 b b1 b2 b3 W2 X X2) ∧ still (vcY3_s6 V M R a a1 a2 a3 b b1 b2 b3 W2 X X2) (aBin ES .eql 48 (.tmp 4) (.const (.int .u64 0)) (.int .u64 a) (.int .u64 (.ofNat 0))) = some (.bool false, vcY3_s6 V M R a a1 a2 a3 b b1 b2 b3 W2 X X2) ∧ still (vcY3_s7 V M R a a1 a2 a3 b b1 b2 b3 W2 X X2) (aBin ES .eql 48 (.tmp 4) (.const (.int .u64 0)) (.int .u64 b) (.int .u64 (.ofNat 0))) = some (.bool true, vcY3_s7 V M R a a1 a2 a3 b b1 b2 b3 W2 X X2) ∧ Q (.int .i64 (.ofNat 3), vcY3_s7 V M R a a1 a2 a3 b b1 b2 b3 W2 X X2)) =
  (tY3 q V M R a a1 a2 a3 b b1 b2 b3 W W2 X X2).allY (fun r => Q (r.1, canS KO460 r.2)) (.v (W, vcY3_s1 V M R a a1 a2 a3 b b1 b2 b3 X) (.v (W2, vcY3_s2 V M R a a1 a2 a3 b b1 b2 b3 X X2) (.v (.tuple [], vcY3_s4 V M R a a1 a2 a3 b b1 b2 b3 W2 X X2) (.v (.bool false, vcY3_s5 V M R a a1 a2 a3 b b1 b2 b3 W2 X X2) (.v (.bool false, vcY3_s6 V M R a a1 a2 a3 b b1 b2 b3 W2 X X2) (.v (.bool true, vcY3_s7 V M R a a1 a2 a3 b b1 b2 b3 W2 X X2) .nil)))))) := by kernel_rfl
noncomputable def vcY4_s0 (V : AV) (M : AO) (R : AO) (a : Int) (a1 : Int) (a2 : Int) (a3 : Int) (b : Int) (b1 : Int) (b2 : Int) (b3 : Int) : ASt := mkSt [(0, .cells [.map (some 1), V] true), (1, M), (2, R), (3, .cells [.int .u64 a, .int .u64 a1, .int .u64 a2, .int .u64 a3] true), (4, .cells [.int .u64 b, .int .u64 b1, .int .u64 b2, .int .u64 b3] true)] 14
noncomputable def vcY4_s1 (V : AV) (M : AO) (R : AO) (a : Int) (a1 : Int) (a2 : Int) (a3 : Int) (b : Int) (b1 : Int) (b2 : Int) (b3 : Int) (X : AO) : ASt := mkSt [(0, .cells [.map (some 1), V] true), (1, M), (2, R), (3, .cells [.int .u64 a, .int .u64 a1, .int .u64 a2, .int .u64 a3] true), (4, .cells [.int .u64 b, .int .u64 b1, .int .u64 b2, .int .u64 b3] true), (31, X)] 214
noncomputable def vcY4_s2 (V : AV) (M : AO) (R : AO) (a : Int) (a1 : Int) (a2 : Int) (a3 : Int) (b : Int) (b1 : Int) (b2 : Int) (b3 : Int) (X : AO) (X2 : AO) : ASt := mkSt [(0, .cells [.map (some 1), V] true), (1, M), (2, R), (3, .cells [.int .u64 a, .int .u64 a1, .int .u64 a2, .int .u64 a3] true), (4, .cells [.int .u64 b, .int .u64 b1, .int .u64 b2, .int .u64 b3] true), (31, X), (231, X2)] 414
noncomputable def vcY4_s3 (V : AV) (M : AO) (R : AO) (a : Int) (a1 : Int) (a2 : Int) (a3 : Int) (b : Int) (b1 : Int) (b2 : Int) (b3 : Int) (X : AO) (X2 : AO) : ASt := mkSt [(0, .cells [.map (some 1), V] true), (1, M), (2, R), (3, .cells [.int .u64 a, .int .u64 a1, .int .u64 a2, .int .u64 a3] true), (4, .cells [.int .u64 b, .int .u64 b1, .int .u64 b2, .int .u64 b3] true), (11, .cells [.slice none 0 (.known 0)] true), (31, X), (231, X2)] 414
noncomputable def vcY4_s4 (V : AV) (M : AO) (R : AO) (a : Int) (a1 : Int) (a2 : Int) (a3 : Int) (b : Int) (b1 : Int) (b2 : Int) (b3 : Int) (W2 : AV) (X : AO) (X2 : AO) : ASt := mkSt [(0, .cells [.map (some 1), V] true), (1, M), (2, R), (3, .cells [.int .u64 a, .int .u64 a1, .int .u64 a2, .int .u64 a3] true), (4, .cells [.int .u64 b, .int .u64 b1, .int .u64 b2, .int .u64 b3] true), (11, .cells [W2] true), (31, X), (231, X2)] 414
noncomputable def vcY4_s5 (V : AV) (M : AO) (R : AO) (a : Int) (a1 : Int) (a2 : Int) (a3 : Int) (b : Int) (b1 : Int) (b2 : Int) (b3 : Int) (W2 : AV) (X : AO) (X2 : AO) : ASt := mkSt [(0, .cells [.map (some 1), V] true), (1, M), (2, R), (3, .cells [.int .u64 a, .int .u64 a1, .int .u64 a2, .int .u64 a3] true), (4, .cells [.int .u64 b, .int .u64 b1, .int .u64 b2, .int .u64 b3] true), (11, .cells [W2] true), (31, X), (231, X2), (414, .cells [.int .u64 a, .int .u64 a1, .int .u64 a2, .int .u64 a3] true)] 415
noncomputable def vcY4_s6 (V : AV) (M : AO) (R : AO) (a : Int) (a1 : Int) (a2 : Int) (a3 : Int) (b : Int) (b1 : Int) (b2 : Int) (b3 : Int) (W2 : AV) (X : AO) (X2 : AO) : ASt := mkSt [(0, .cells [.map (some 1), V] true), (1, M), (2, R), (3, .cells [.int .u64 a, .int .u64 a1, .int .u64 a2, .int .u64 a3] true), (4, .cells [.int .u64 b, .int .u64 b1, .int .u64 b2, .int .u64 b3] true), (11, .cells [W2] true), (31, X), (231, X2), (414, .cells [.int .u64 a, .int .u64 a1, .int .u64 a2, .int .u64 a3] true), (415, .cells [.int .u64 a, .int .u64 a1, .int .u64 a2, .int .u64 a3] true)] 416
noncomputable def vcY4_s7 (V : AV) (M : AO) (R : AO) (a : Int) (a1 : Int) (a2 : Int) (a3 : Int) (b : Int) (b1 : Int) (b2 : Int) (b3 : Int) (W2 : AV) (X : AO) (X2 : AO) : ASt := mkSt [(0, .cells [.map (some 1), V] true), (1, M), (2, R), (3, .cells [.int .u64 a, .int .u64 a1, .int .u64 a2, .int .u64 a3] true), (4, .cells [.int .u64 b, .int .u64 b1, .int .u64 b2, .int .u64 b3] true), (11, .cells [W2] true), (31, X), (231, X2), (414, .cells [.int .u64 a, .int .u64 a1, .int .u64 a2, .int .u64 a3] true), (415, .cells [.int .u64 a, .int .u64 a1, .int .u64 a2, .int .u64 a3] true), (416, .cells [.int .u64 b, .int .u64 b1, .int .u64 b2, .int .u64 b3] true)] 417
theorem vcY4 (q : CallT) (V : AV) (M : AO) (R : AO) (a : Int) (a1 : Int) (a2 : Int) (a3 : Int) (b : Int) (b1 : Int) (b2 : Int) (b3 : Int) (W : AV) (W2 : AV) (X : AO) (X2 : AO) (Q : AV × ASt → Prop) :
  ((Ax.M ES (drawA ES) (onlyC [44, 49, 51] q) 56).call 49 [.ptr (some (0, 0)), .agg [.int .u64 a, .int .u64 a1, .int .u64 a2, .int .u64 a3]] (vcY4_s0 V M R a a1 a2 a3 b b1 b2 b3) = some (W, vcY4_s1 V M R a a1 a2 a3 b b1 b2 b3 X) ∧ (Ax.M ES (drawA ES) (onlyC [44, 49, 51] q) 56).call 49 [.ptr (some (0, 0)), .agg [.int .u64 b, .int .u64 b1, .int .u64 b2, .int .u64 b3]] (vcY4_s1 V M R a a1 a2 a3 b b1 b2 b3 X) = some (W2, vcY4_s2 V M R a a1 a2 a3 b b1 b2 b3 X X2) ∧ Option.map (fun s => (undefA, s)) (aStore ES 57 (.ptr (some (11, 0))) W2 (vcY4_s3 V M R a a1 a2 a3 b b1 b2 b3 X X2)) = some (.tuple [], vcY4_s4 V M R a a1 a2 a3 b b1 b2 b3 W2 X X2) ∧ holdsO [(some (.agg [.int .u64 b, .int .u64 b1, .int .u64 b2, .int .u64 b3]), .agg [.int .u64 b, .int .u64 b1, .int .u64 b2, .int .u64 b3])] ∧ still (vcY4_s5 V M R a a1 a2 a3 b b1 b2 b3 W2 X X2) (aBin ES .eql 48 (.tmp 4) (.const (.int .u64 0)) (.int .u64 a) (.int .u64 (.ofNat 0))) = some (.bool false, vcY4_s5 V M R a a1 a2 a3 b b1 b2 b3 W2 X X2) ∧ still (vcY4_s6 V M R a a1 a2 a3 b b1 b2 b3 W2 X X2) (aBin ES .eql 48 (.tmp 4) (.const (.int .u64 0)) (.int .u64 a) (.int .u64 (.ofNat 0))) = some (.bool false, vcY4_s6 V M R a a1 a2 a3 b b1 b2 b3 W2 X X2) ∧ still (vcY4_s7 V M R a a1 a2 a3 b b1 b2 b3 W2 X X2) (aBin ES .eql 48 (.tmp 4) (.const (.int .u64 0)) (.int .u64 b) (.int .u64 (.ofNat 0))) = some (.bool false, vcY4_s7 V M R a a1 a2 a3 b b1 b2 b3 W2 X X2) ∧ still (vcY4_s7 V M R a a1 a2 a3 b b1 b2 b3 W2 X X2) (aBin ES .eql 48 (.tmp 36) (.tmp 38) (.int .u64 a) (.int .u64 b)) = some (.bool true, vcY4_s7 V M R a a1 a2 a3 b b1 b2 b3 W2 X X2) ∧ Q (.int .i64 (.ofNat 4), vcY4_s7 V M R a a1 a2 a3 b b1 b2 b3 W2 X X2)) =
  (tY4 q V M R a a1 a2 a3 b b1 b2 b3 W W2 X X2).allY (fun r => Q (r.1, canS KO460 r.2)) (.v (W, vcY4_s1 V M R a a1 a2 a3 b b1 b2 b3 X) (.v (W2, vcY4_s2 V M R a a1 a2 a3 b b1 b2 b3 X X2) (.v (.tuple [], vcY4_s4 V M R a a1 a2 a3 b b1 b2 b3 W2 X X2) (.v (.bool false, vcY4_s5 V M R a a1 a2 a3 b b1 b2 b3 W2 X X2) (.v (.bool false, vcY4_s6 V M R a a1 a2 a3 b b1 b2 b3 W2 X X2) (.v (.bool false, vcY4_s7 V M R a a1 a2 a3 b b1 b2 b3 W2 X X2) (.v (.bool true, vcY4_s7 V M R a a1 a2 a3 b b1 b2 b3 W2 X X2) .nil))))))) := by kernel_rfl
noncomputable def vcY5_s0 (V : AV) (M : AO) (R : AO) (a : Int) (a1 : Int) (a2 : Int) (a3 : Int) (b : Int) (b1 : Int) (b2 : Int) (b3 : Int) : ASt := mkSt [(0, .cells [.map (some 1), V] true), (1, M), (2, R), (3, .cells [.int .u64 a, .int .u64 a1, .int .u64 a2, .int .u64 a3] true), (4, .cells [.int .u64 b, .int .u64 b1, .int .u64 b2, .int .u64 b3] true)] 14
noncomputable def vcY5_s1 (V : AV) (M : AO) (R : AO) (a : Int) (a1 : Int) (a2 : Int) (a3 : Int) (b : Int) (b1 : Int) (b2 : Int) (b3 : Int) (X : AO) : ASt := mkSt [(0, .cells [.map (some 1), V] true), (1, M), (2, R), (3, .cells [.int .u64 a, .int .u64 a1, .int .u64 a2, .int .u64 a3] true), (4, .cells [.int .u64 b, .int .u64 b1, .int .u64 b2, .int .u64 b3] true), (31, X)] 214
noncomputable def vcY5_s2 (V : AV) (M : AO) (R : AO) (a : Int) (a1 : Int) (a2 : Int) (a3 : Int) (b : Int) (b1 : Int) (b2 : Int) (b3 : Int) (X : AO) (X2 : AO) : ASt := mkSt [(0, .cells [.map (some 1), V] true), (1, M), (2, R), (3, .cells [.int .u64 a, .int .u64 a1, .int .u64 a2, .int .u64 a3] true), (4, .cells [.int .u64 b, .int .u64 b1, .int .u64 b2, .int .u64 b3] true), (31, X), (231, X2)] 414
noncomputable def vcY5_s3 (V : AV) (M : AO) (R : AO) (a : Int) (a1 : Int) (a2 : Int) (a3 : Int) (b : Int) (b1 : Int) (b2 : Int) (b3 : Int) (X : AO) (X2 : AO) : ASt := mkSt [(0, .cells [.map (some 1), V] true), (1, M), (2, R), (3, .cells [.int .u64 a, .int .u64 a1, .int .u64 a2, .int .u64 a3] true), (4, .cells [.int .u64 b, .int .u64 b1, .int .u64 b2, .int .u64 b3] true), (11, .cells [.slice none 0 (.known 0)] true), (31, X), (231, X2)] 414
noncomputable def vcY5_s4 (V : AV) (M : AO) (R : AO) (a : Int) (a1 : Int) (a2 : Int) (a3 : Int) (b : Int) (b1 : Int) (b2 : Int) (b3 : Int) (W2 : AV) (X : AO) (X2 : AO) : ASt := mkSt [(0, .cells [.map (some 1), V] true), (1, M), (2, R), (3, .cells [.int .u64 a, .int .u64 a1, .int .u64 a2, .int .u64 a3] true), (4, .cells [.int .u64 b, .int .u64 b1, .int .u64 b2, .int .u64 b3] true), (11, .cells [W2] true), (31, X), (231, X2)] 414
noncomputable def vcY5_s5 (V : AV) (M : AO) (R : AO) (a : Int) (a1 : Int) (a2 : Int) (a3 : Int) (b : Int) (b1 : Int) (b2 : Int) (b3 : Int) (W2 : AV) (X : AO) (X2 : AO) : ASt := mkSt [(0, .cells [.map (some 1), V] true), (1, M), (2, R), (3, .cells [.int .u64 a, .int .u64 a1, .int .u64 a2, .int .u64 a3] true), (4, .cells [.int .u64 b, .int .u64 b1, .int .u64 b2, .int .u64 b3] true), (11, .cells [W2] true), (31, X), (231, X2), (414, .cells [.int .u64 a, .int .u64 a1, .int .u64 a2, .int .u64 a3] true)] 415
noncomputable def vcY5_s6 (V : AV) (M : AO) (R : AO) (a : Int) (a1 : Int) (a2 : Int) (a3 : Int) (b : Int) (b1 : Int) (b2 : Int) (b3 : Int) (W2 : AV) (X : AO) (X2 : AO) : ASt := mkSt [(0, .cells [.map (some 1), V] true), (1, M), (2, R), (3, .cells [.int .u64 a, .int .u64 a1, .int .u64 a2, .int .u64 a3] true), (4, .cells [.int .u64 b, .int .u64 b1, .int .u64 b2, .int .u64 b3] true), (11, .cells [W2] true), (31, X), (231, X2), (414, .cells [.int .u64 a, .int .u64 a1, .int .u64 a2, .int .u64 a3] true), (415, .cells [.int .u64 a, .int .u64 a1, .int .u64 a2, .int .u64 a3] true)] 416
noncomputable def vcY5_s7 (V : AV) (M : AO) (R : AO) (a : Int) (a1 : Int) (a2 : Int) (a3 : Int) (b : Int) (b1 : Int) (b2 : Int) (b3 : Int) (W2 : AV) (X : AO) (X2 : AO) : ASt := mkSt [(0, .cells [.map (some 1), V] true), (1, M), (2, R), (3, .cells [.int .u64 a, .int .u64 a1, .int .u64 a2, .int .u64 a3] true), (4, .cells [.int .u64 b, .int .u64 b1, .int .u64 b2, .int .u64 b3] true), (11, .cells [W2] true), (31, X), (231, X2), (414, .cells [.int .u64 a, .int .u64 a1, .int .u64 a2, .int .u64 a3] true), (415, .cells [.int .u64 a, .int .u64 a1, .int .u64 a2, .int .u64 a3] true), (416, .cells [.int .u64 b, .int .u64 b1, .int .u64 b2, .int .u64 b3] true)] 417
theorem vcY5 (q : CallT) (V : AV) (M : AO) (R : AO) (a : Int) (a1 : Int) (a2 : Int) (a3 : Int) (b : Int) (b1 : Int) (b2 : Int) (b3 : Int) (W : AV) (W2 : AV) (X : AO) (X2 : AO) (Q : AV × ASt → Prop) :
  ((Ax.M ES (drawA ES) (onlyC [44, 49, 51] q) 56).call 49 [.ptr (some (0, 0)), .agg [.int .u64 a, .int .u64 a1, .int .u64 a2, .int .u64 a3]] (vcY5_s0 V M R a a1 a2 a3 b b1 b2 b3) = some (W, vcY5_s1 V M R a a1 a2 a3 b b1 b2 b3 X) ∧ (Ax.M ES (drawA ES) (onlyC [44, 49, 51] q) 56).call 49 [.ptr (some (0, 0)), .agg [.int .u64 b, .int .u64 b1, .int .u64 b2, .int .u64 b3]] (vcY5_s1 V M R a a1 a2 a3 b b1 b2 b3 X) = some (W2, vcY5_s2 V M R a a1 a2 a3 b b1 b2 b3 X X2) ∧ Option.map (fun s => (undefA, s)) (aStore ES 57 (.ptr (some (11, 0))) W2 (vcY5_s3 V M R a a1 a2 a3 b b1 b2 b3 X X2)) = some (.tuple [], vcY5_s4 V M R a a1 a2 a3 b b1 b2 b3 W2 X X2) ∧ holdsO [(some (.agg [.int .u64 b, .int .u64 b1, .int .u64 b2, .int .u64 b3]), .agg [.int .u64 b, .int .u64 b1, .int .u64 b2, .int .u64 b3])] ∧ still (vcY5_s5 V M R a a1 a2 a3 b b1 b2 b3 W2 X X2) (aBin ES .eql 48 (.tmp 4) (.const (.int .u64 0)) (.int .u64 a) (.int .u64 (.ofNat 0))) = some (.bool false, vcY5_s5 V M R a a1 a2 a3 b b1 b2 b3 W2 X X2) ∧ still (vcY5_s6 V M R a a1 a2 a3 b b1 b2 b3 W2 X X2) (aBin ES .eql 48 (.tmp 4) (.const (.int .u64 0)) (.int .u64 a) (.int .u64 (.ofNat 0))) = some (.bool false, vcY5_s6 V M R a a1 a2 a3 b b1 b2 b3 W2 X X2) ∧ still (vcY5_s7 V M R a a1 a2 a3 b b1 b2 b3 W2 X X2) (aBin ES .eql 48 (.tmp 4) (.const (.int .u64 0)) (.int .u64 b) (.int .u64 (.ofNat 0))) = some (.bool false, vcY5_s7 V M R a a1 a2 a3 b b1 b2 b3 W2 X X2) ∧ still (vcY5_s7 V M R a a1 a2 a3 b b1 b2 b3 W2 X X2) (aBin ES .eql 48 (.tmp 36) (.tmp 38) (.int .u64 a) (.int .u64 b)) = some (.bool false, vcY5_s7 V M R a a1 a2 a3 b b1 b2 b3 W2 X X2) ∧ (Ax.M ES (drawA ES) (onlyC [44, 49, 51] q) 38).call 44 [W2, .int .u64 a] (vcY5_s7 V M R a a1 a2 a3 b b1 b2 b3 W2 X X2) = some (.bool true, vcY5_s7 V M R a a1 a2 a3 b b1 b2 b3 W2 X X2) ∧ Q (.int .i64 (.ofNat 5), vcY5_s7 V M R a a1 a2 a3 b b1 b2 b3 W2 X X2)) =
  (tY5 q V M R a a1 a2 a3 b b1 b2 b3 W W2 X X2).allY (fun r => Q (r.1, canS KO460 r.2)) (.v (W, vcY5_s1 V M R a a1 a2 a3 b b1 b2 b3 X) (.v (W2, vcY5_s2 V M R a a1 a2 a3 b b1 b2 b3 X X2) (.v (.tuple [], vcY5_s4 V M R a a1 a2 a3 b b1 b2 b3 W2 X X2) (.v (.bool false, vcY5_s5 V M R a a1 a2 a3 b b1 b2 b3 W2 X X2) (.v (.bool false, vcY5_s6 V M R a a1 a2 a3 b b1 b2 b3 W2 X X2) (.v (.bool false, vcY5_s7 V M R a a1 a2 a3 b b1 b2 b3 W2 X X2) (.v (.bool false, vcY5_s7 V M R a a1 a2 a3 b b1 b2 b3 W2 X X2) (.v (.bool true, vcY5_s7 V M R a a1 a2 a3 b b1 b2 b3 W2 X X2) .nil)))))))) := by kernel_rfl
noncomputable def vcY6_s0 (V : AV) (M : AO) (R : AO) (a : Int) (a1 : Int) (a2 : Int) (a3 : Int) (b : Int) (b1 : Int) (b2 : Int) (b3 : Int) : ASt := mkSt [(0, .cells [.map (some 1), V] true), (1, M), (2, R), (3, .cells [.int .u64 a, .int .u64 a1, .int .u64 a2, .int .u64 a3] true), (4, .cells [.int .u64 b, .int .u64 b1, .int .u64 b2, .int .u64 b3] true)] 14
noncomputable def vcY6_s1 (V : AV) (M : AO) (R : AO) (a : Int) (a1 : Int) (a2 : Int) (a3 : Int) (b : Int) (b1 : Int) (b2 : Int) (b3 : Int) (X : AO) : ASt := mkSt [(0, .cells [.map (some 1), V] true), (1, M), (2, R), (3, .cells [.int .u64 a, .int .u64 a1, .int .u64 a2, .int .u64 a3] true), (4, .cells [.int .u64 b, .int .u64 b1, .int .u64 b2, .int .u64 b3] true), (31, X)] 214
noncomputable def vcY6_s2 (V : AV) (M : AO) (R : AO) (a : Int) (a1 : Int) (a2 : Int) (a3 : Int) (b : Int) (b1 : Int) (b2 : Int) (b3 : Int) (X : AO) (X2 : AO) : ASt := mkSt [(0, .cells [.map (some 1), V] true), (1, M), (2, R), (3, .cells [.int .u64 a, .int .u64 a1, .int .u64 a2, .int .u64 a3] true), (4, .cells [.int .u64 b, .int .u64 b1, .int .u64 b2, .int .u64 b3] true), (31, X), (231, X2)] 414
noncomputable def vcY6_s3 (V : AV) (M : AO) (R : AO) (a : Int) (a1 : Int) (a2 : Int) (a3 : Int) (b : Int) (b1 : Int) (b2 : Int) (b3 : Int) (X : AO) (X2 : AO) : ASt := mkSt [(0, .cells [.map (some 1), V] true), (1, M), (2, R), (3, .cells [.int .u64 a, .int .u64 a1, .int .u64 a2, .int .u64 a3] true), (4, .cells [.int .u64 b, .int .u64 b1, .int .u64 b2, .int .u64 b3] true), (11, .cells [.slice none 0 (.known 0)] true), (31, X), (231, X2)] 414
noncomputable def vcY6_s4 (V : AV) (M : AO) (R : AO) (a : Int) (a1 : Int) (a2 : Int) (a3 : Int) (b : Int) (b1 : Int) (b2 : Int) (b3 : Int) (W2 : AV) (X : AO) (X2 : AO) : ASt := mkSt [(0, .cells [.map (some 1), V] true), (1, M), (2, R), (3, .cells [.int .u64 a, .int .u64 a1, .int .u64 a2, .int .u64 a3] true), (4, .cells [.int .u64 b, .int .u64 b1, .int .u64 b2, .int .u64 b3] true), (11, .cells [W2] true), (31, X), (231, X2)] 414
noncomputable def vcY6_s5 (V : AV) (M : AO) (R : AO) (a : Int) (a1 : Int) (a2 : Int) (a3 : Int) (b : Int) (b1 : Int) (b2 : Int) (b3 : Int) (W2 : AV) (X : AO) (X2 : AO) : ASt := mkSt [(0, .cells [.map (some 1), V] true), (1, M), (2, R), (3, .cells [.int .u64 a, .int .u64 a1, .int .u64 a2, .int .u64 a3] true), (4, .cells [.int .u64 b, .int .u64 b1, .int .u64 b2, .int .u64 b3] true), (11, .cells [W2] true), (31, X), (231, X2), (414, .cells [.int .u64 a, .int .u64 a1, .int .u64 a2, .int .u64 a3] true)] 415
noncomputable def vcY6_s6 (V : AV) (M : AO) (R : AO) (a : Int) (a1 : Int) (a2 : Int) (a3 : Int) (b : Int) (b1 : Int) (b2 : Int) (b3 : Int) (W2 : AV) (X : AO) (X2 : AO) : ASt := mkSt [(0, .cells [.map (some 1), V] true), (1, M), (2, R), (3, .cells [.int .u64 a, .int .u64 a1, .int .u64 a2, .int .u64 a3] true), (4, .cells [.int .u64 b, .int .u64 b1, .int .u64 b2, .int .u64 b3] true), (11, .cells [W2] true), (31, X), (231, X2), (414, .cells [.int .u64 a, .int .u64 a1, .int .u64 a2, .int .u64 a3] true), (415, .cells [.int .u64 a, .int .u64 a1, .int .u64 a2, .int .u64 a3] true)] 416
noncomputable def vcY6_s7 (V : AV) (M : AO) (R : AO) (a : Int) (a1 : Int) (a2 : Int) (a3 : Int) (b : Int) (b1 : Int) (b2 : Int) (b3 : Int) (W2 : AV) (X : AO) (X2 : AO) : ASt := mkSt [(0, .cells [.map (some 1), V] true), (1, M), (2, R), (3, .cells [.int .u64 a, .int .u64 a1, .int .u64 a2, .int .u64 a3] true), (4, .cells [.int .u64 b, .int .u64 b1, .int .u64 b2, .int .u64 b3] true), (11, .cells [W2] true), (31, X), (231, X2), (414, .cells [.int .u64 a, .int .u64 a1, .int .u64 a2, .int .u64 a3] true), (415, .cells [.int .u64 a, .int .u64 a1, .int .u64 a2, .int .u64 a3] true), (416, .cells [.int .u64 b, .int .u64 b1, .int .u64 b2, .int .u64 b3] true)] 417
theorem vcY6 (q : CallT) (V : AV) (M : AO) (R : AO) (a : Int) (a1 : Int) (a2 : Int) (a3 : Int) (b : Int) (b1 : Int) (b2 : Int) (b3 : Int) (W : AV) (W2 : AV) (X : AO) (X2 : AO) (Q : AV × ASt → Prop) :
  ((Ax.M ES (drawA ES) (onlyC [44, 49, 51] q) 56).call 49 [.ptr (some (0, 0)), .agg [.int .u64 a, .int .u64 a1, .int .u64 a2, .int .u64 a3]] (vcY6_s0 V M R a a1 a2 a3 b b1 b2 b3) = some (W, vcY6_s1 V M R a a1 a2 a3 b b1 b2 b3 X) ∧ (Ax.M ES (drawA ES) (onlyC [44, 49, 51] q) 56).call 49 [.ptr (some (0, 0)), .agg [.int .u64 b, .int .u64 b1, .int .u64 b2, .int .u64 b3]] (vcY6_s1 V M R a a1 a2 a3 b b1 b2 b3 X) = some (W2, vcY6_s2 V M R a a1 a2 a3 b b1 b2 b3 X X2) ∧ Option.map (fun s => (undefA, s)) (aStore ES 57 (.ptr (some (11, 0))) W2 (vcY6_s3 V M R a a1 a2 a3 b b1 b2 b3 X X2)) = some (.tuple [], vcY6_s4 V M R a a1 a2 a3 b b1 b2 b3 W2 X X2) ∧ holdsO [(some (.agg [.int .u64 b, .int .u64 b1, .int .u64 b2, .int .u64 b3]), .agg [.int .u64 b, .int .u64 b1, .int .u64 b2, .int .u64 b3])] ∧ still (vcY6_s5 V M R a a1 a2 a3 b b1 b2 b3 W2 X X2) (aBin ES .eql 48 (.tmp 4) (.const (.int .u64 0)) (.int .u64 a) (.int .u64 (.ofNat 0))) = some (.bool false, vcY6_s5 V M R a a1 a2 a3 b b1 b2 b3 W2 X X2) ∧ still (vcY6_s6 V M R a a1 a2 a3 b b1 b2 b3 W2 X X2) (aBin ES .eql 48 (.tmp 4) (.const (.int .u64 0)) (.int .u64 a) (.int .u64 (.ofNat 0))) = some (.bool false, vcY6_s6 V M R a a1 a2 a3 b b1 b2 b3 W2 X X2) ∧ still (vcY6_s7 V M R a a1 a2 a3 b b1 b2 b3 W2 X X2) (aBin ES .eql 48 (.tmp 4) (.const (.int .u64 0)) (.int .u64 b) (.int .u64 (.ofNat 0))) = some (.bool false, vcY6_s7 V M R a a1 a2 a3 b b1 b2 b3 W2 X X2) ∧ still (vcY6_s7 V M R a a1 a2 a3 b b1 b2 b3 W2 X X2) (aBin ES .eql 48 (.tmp 36) (.tmp 38) (.int .u64 a) (.int .u64 b)) = some (.bool false, vcY6_s7 V M R a a1 a2 a3 b b1 b2 b3 W2 X X2) ∧ (Ax.M ES (drawA ES) (onlyC [44, 49, 51] q) 38).call 44 [W2, .int .u64 a] (vcY6_s7 V M R a a1 a2 a3 b b1 b2 b3 W2 X X2) = some (.bool false, vcY6_s7 V M R a a1 a2 a3 b b1 b2 b3 W2 X X2) ∧ (Ax.M ES (drawA ES) (onlyC [44, 49, 51] q) 40).call 44 [W, .int .u64 b] (vcY6_s7 V M R a a1 a2 a3 b b1 b2 b3 W2 X X2) = some (.bool true, vcY6_s7 V M R a a1 a2 a3 b b1 b2 b3 W2 X X2) ∧ Q (.int .i64 (.ofNat 6), vcY6_s7 V M R a a1 a2 a3 b b1 b2 b3 W2 X X2)) =
  (tY6 q V M R a a1 a2 a3 b b1 b2 b3 W W2 X X2).allY (fun r => Q (r.1, canS KO460 r.2)) (.v (W, vcY6_s1 V M R a a1 a2 a3 b b1 b2 b3 X) (.v (W2, vcY6_s2 V M R a a1 a2 a3 b b1 b2 b3 X X2) (.v (.tuple [], vcY6_s4 V M R a a1 a2 a3 b b1 b2 b3 W2 X X2) (.v (.bool false, vcY6_s5 V M R a a1 a2 a3 b b1 b2 b3 W2 X X2) (.v (.bool false, vcY6_s6 V M R a a1 a2 a3 b b1 b2 b3 W2 X X2) (.v (.bool false, vcY6_s7 V M R a a1 a2 a3 b b1 b2 b3 W2 X X2) (.v (.bool false, vcY6_s7 V M R a a1 a2 a3 b b1 b2 b3 W2 X X2) (.v (.bool false, vcY6_s7 V M R a a1 a2 a3 b b1 b2 b3 W2 X X2) (.v (.bool true, vcY6_s7 V M R a a1 a2 a3 b b1 b2 b3 W2 X X2) .nil))))))))) := by kernel_rfl
noncomputable def vcY7_s0 (V : AV) (M : AO) (R : AO) (a : Int) (a1 : Int) (a2 : Int) (a3 : Int) (b : Int) (b1 : Int) (b2 : Int) (b3 : Int) : ASt := mkSt [(0, .cells [.map (some 1), V] true), (1, M), (2, R), (3, .cells [.int .u64 a, .int .u64 a1, .int .u64 a2, .int .u64 a3] true), (4, .cells [.int .u64 b, .int .u64 b1, .int .u64 b2, .int .u64 b3] true)] 14
noncomputable def vcY7_s1 (V : AV) (M : AO) (R : AO) (a : Int) (a1 : Int) (a2 : Int) (a3 : Int) (b : Int) (b1 : Int) (b2 : Int) (b3 : Int) (X : AO) : ASt := mkSt [(0, .cells [.map (some 1), V] true), (1, M), (2, R), (3, .cells [.int .u64 a, .int .u64 a1, .int .u64 a2, .int .u64 a3] true), (4, .cells [.int .u64 b, .int .u64 b1, .int .u64 b2, .int .u64 b3] true), (31, X)] 214
noncomputable def vcY7_s2 (V : AV) (M : AO) (R : AO) (a : Int) (a1 : Int) (a2 : Int) (a3 : Int) (b : Int) (b1 : Int) (b2 : Int) (b3 : Int) (X : AO) (X2 : AO) : ASt := mkSt [(0, .cells [.map (some 1), V] true), (1, M), (2, R), (3, .cells [.int .u64 a, .int .u64 a1, .int .u64 a2, .int .u64 a3] true), (4, .cells [.int .u64 b, .int .u64 b1, .int .u64 b2, .int .u64 b3] true), (31, X), (231, X2)] 414
noncomputable def vcY7_s3 (V : AV) (M : AO) (R : AO) (a : Int) (a1 : Int) (a2 : Int) (a3 : Int) (b : Int) (b1 : Int) (b2 : Int) (b3 : Int) (X : AO) (X2 : AO) : ASt := mkSt [(0, .cells [.map (some 1), V] true), (1, M), (2, R), (3, .cells [.int .u64 a, .int .u64 a1, .int .u64 a2, .int .u64 a3] true), (4, .cells [.int .u64 b, .int .u64 b1, .int .u64 b2, .int .u64 b3] true), (11, .cells [.slice none 0 (.known 0)] true), (31, X), (231, X2)] 414
noncomputable def vcY7_s4 (V : AV) (M : AO) (R : AO) (a : Int) (a1 : Int) (a2 : Int) (a3 : Int) (b : Int) (b1 : Int) (b2 : Int) (b3 : Int) (W2 : AV) (X : AO) (X2 : AO) : ASt := mkSt [(0, .cells [.map (some 1), V] true), (1, M), (2, R), (3, .cells [.int .u64 a, .int .u64 a1, .int .u64 a2, .int .u64 a3] true), (4, .cells [.int .u64 b, .int .u64 b1, .int .u64 b2, .int .u64 b3] true), (11, .cells [W2] true), (31, X), (231, X2)] 414
noncomputable def vcY7_s5 (V : AV) (M : AO) (R : AO) (a : Int) (a1 : Int) (a2 : Int) (a3 : Int) (b : Int) (b1 : Int) (b2 : Int) (b3 : Int) (W2 : AV) (X : AO) (X2 : AO) : ASt := mkSt [(0, .cells [.map (some 1), V] true), (1, M), (2, R), (3, .cells [.int .u64 a, .int .u64 a1, .int .u64 a2, .int .u64 a3] true), (4, .cells [.int .u64 b, .int .u64 b1, .int .u64 b2, .int .u64 b3] true), (11, .cells [W2] true), (31, X), (231, X2), (414, .cells [.int .u64 a, .int .u64 a1, .int .u64 a2, .int .u64 a3] true)] 415
noncomputable def vcY7_s6 (V : AV) (M : AO) (R : AO) (a : Int) (a1 : Int) (a2 : Int) (a3 : Int) (b : Int) (b1 : Int) (b2 : Int) (b3 : Int) (W2 : AV) (X : AO) (X2 : AO) : ASt := mkSt [(0, .cells [.map (some 1), V] true), (1, M), (2, R), (3, .cells [.int .u64 a, .int .u64 a1, .int .u64 a2, .int .u64 a3] true), (4, .cells [.int .u64 b, .int .u64 b1, .int .u64 b2, .int .u64 b3] true), (11, .cells [W2] true), (31, X), (231, X2), (414, .cells [.int .u64 a, .int .u64 a1, .int .u64 a2, .int .u64 a3] true), (415, .cells [.int .u64 a, .int .u64 a1, .int .u64 a2, .int .u64 a3] true)] 416
noncomputable def vcY7_s7 (V : AV) (M : AO) (R : AO) (a : Int) (a1 : Int) (a2 : Int) (a3 : Int) (b : Int) (b1 : Int) (b2 : Int) (b3 : Int) (W2 : AV) (X : AO) (X2 : AO) : ASt := mkSt [(0, .cells [.map (some 1), V] true), (1, M), (2, R), (3, .cells [.int .u64 a, .int .u64 a1, .int .u64 a2, .int .u64 a3] true), (4, .cells [.int .u64 b, .int .u64 b1, .int .u64 b2, .int .u64 b3] true), (11, .cells [W2] true), (31, X), (231, X2), (414, .cells [.int .u64 a, .int .u64 a1, .int .u64 a2, .int .u64 a3] true), (415, .cells [.int .u64 a, .int .u64 a1, .int .u64 a2, .int .u64 a3] true), (416, .cells [.int .u64 b, .int .u64 b1, .int .u64 b2, .int .u64 b3] true)] 417
theorem vcY7 (q : CallT) (V : AV) (M : AO) (R : AO) (a : Int) (a1 : Int) (a2 : Int) (a3 : Int) (b : Int) (b1 : Int) (b2 : Int) (b3 : Int) (W : AV) (W2 : AV) (X : AO) (X2 : AO) (Q : AV × ASt → Prop) :
  ((Ax.M ES (drawA ES) (onlyC [44, 49, 51] q) 56).call 49 [.ptr (some (0, 0)), .agg [.int .u64 a, .int .u64 a1, .int .u64 a2, .int .u64 a3]] (vcY7_s0 V M R a a1 a2 a3 b b1 b2 b3) = some (W, vcY7_s1 V M R a a1 a2 a3 b b1 b2 b3 X) ∧ (Ax.M ES (drawA ES) (onlyC [44, 49, 51] q) 56).call 49 [.ptr (some (0, 0)), .agg [.int .u64 b, .int .u64 b1, .int .u64 b2, .int .u64 b3]] (vcY7_s1 V M R a a1 a2 a3 b b1 b2 b3 X) = some (W2, vcY7_s2 V M R a a1 a2 a3 b b1 b2 b3 X X2) ∧ Option.map (fun s => (undefA, s)) (aStore ES 57 (.ptr (some (11, 0))) W2 (vcY7_s3 V M R a a1 a2 a3 b b1 b2 b3 X X2)) = some (.tuple [], vcY7_s4 V M R a a1 a2 a3 b b1 b2 b3 W2 X X2) ∧ holdsO [(some (.agg [.int .u64 b, .int .u64 b1, .int .u64 b2, .int .u64 b3]), .agg [.int .u64 b, .int .u64 b1, .int .u64 b2, .int .u64 b3])] ∧ still (vcY7_s5 V M R a a1 a2 a3 b b1 b2 b3 W2 X X2) (aBin ES .eql 48 (.tmp 4) (.const (.int .u64 0)) (.int .u64 a) (.int .u64 (.ofNat 0))) = some (.bool false, vcY7_s5 V M R a a1 a2 a3 b b1 b2 b3 W2 X X2) ∧ still (vcY7_s6 V M R a a1 a2 a3 b b1 b2 b3 W2 X X2) (aBin ES .eql 48 (.tmp 4) (.const (.int .u64 0)) (.int .u64 a) (.int .u64 (.ofNat 0))) = some (.bool false, vcY7_s6 V M R a a1 a2 a3 b b1 b2 b3 W2 X X2) ∧ still (vcY7_s7 V M R a a1 a2 a3 b b1 b2 b3 W2 X X2) (aBin ES .eql 48 (.tmp 4) (.const (.int .u64 0)) (.int .u64 b) (.int .u64 (.ofNat 0))) = some (.bool false, vcY7_s7 V M R a a1 a2 a3 b b1 b2 b3 W2 X X2) ∧ still (vcY7_s7 V M R a a1 a2 a3 b b1 b2 b3 W2 X X2) (aBin ES .eql 48 (.tmp 36) (.tmp 38) (.int .u64 a) (.int .u64 b)) = some (.bool false, vcY7_s7 V M R a a1 a2 a3 b b1 b2 b3 W2 X X2) ∧ (Ax.M ES (drawA ES) (onlyC [44, 49, 51] q) 38).call 44 [W2, .int .u64 a] (vcY7_s7 V M R a a1 a2 a3 b b1 b2 b3 W2 X X2) = some (.bool false, vcY7_s7 V M R a a1 a2 a3 b b1 b2 b3 W2 X X2) ∧ (Ax.M ES (drawA ES) (onlyC [44, 49, 51] q) 40).call 44 [W, .int .u64 b] (vcY7_s7 V M R a a1 a2 a3 b b1 b2 b3 W2 X X2) = some (.bool false, vcY7_s7 V M R a a1 a2 a3 b b1 b2 b3 W2 X X2) ∧ (Ax.M ES (drawA ES) (onlyC [44, 49, 51] q) 38).call 51 [W, .clos 50 [.ptr (some (11, 0))]] (vcY7_s7 V M R a a1 a2 a3 b b1 b2 b3 W2 X X2) = some (.bool true, vcY7_s7 V M R a a1 a2 a3 b b1 b2 b3 W2 X X2) ∧ Q (.int .i64 (.ofNat 7), vcY7_s7 V M R a a1 a2 a3 b b1 b2 b3 W2 X X2)) =
  (tY7 q V M R a a1 a2 a3 b b1 b2 b3 W W2 X X2).allY (fun r => Q (r.1, canS KO460 r.2)) (.v (W, vcY7_s1 V M R a a1 a2 a3 b b1 b2 b3 X) (.v (W2, vcY7_s2 V M R a a1 a2 a3 b b1 b2 b3 X X2) (.v (.tuple [], vcY7_s4 V M R a a1 a2 a3 b b1 b2 b3 W2 X X2) (.v (.bool false, vcY7_s5 V M R a a1 a2 a3 b b1 b2 b3 W2 X X2) (.v (.bool false, vcY7_s6 V M R a a1 a2 a3 b b1 b2 b3 W2 X X2) (.v (.bool false, vcY7_s7 V M R a a1 a2 a3 b b1 b2 b3 W2 X X2) (.v (.bool false, vcY7_s7 V M R a a1 a2 a3 b b1 b2 b3 W2 X X2) (.v (.bool false, vcY7_s7 V M R a a1 a2 a3 b b1 b2 b3 W2 X X2) (.v (.bool false, vcY7_s7 V M R a a1 a2 a3 b b1 b2 b3 W2 X X2) (.v (.bool true, vcY7_s7 V M R a a1 a2 a3 b b1 b2 b3 W2 X X2) .nil)))))))))) := by kernel_rfl
noncomputable def vcY8_s0 (V : AV) (M : AO) (R : AO) (a : Int) (a1 : Int) (a2 : Int) (a3 : Int) (b : Int) (b1 : Int) (b2 : Int) (b3 : Int) : ASt := mkSt [(0, .cells [.map (some 1), V] true), (1, M), (2, R), (3, .cells [.int .u64 a, .int .u64 a1, .int .u64 a2, .int .u64 a3] true), (4, .cells [.int .u64 b, .int .u64 b1, .int .u64 b2, .int .u64 b3] true)] 14
noncomputable def vcY8_s1 (V : AV) (M : AO) (R : AO) (a : Int) (a1 : Int) (a2 : Int) (a3 : Int) (b : Int) (b1 : Int) (b2 : Int) (b3 : Int) (X : AO) : ASt := mkSt [(0, .cells [.map (some 1), V] true), (1, M), (2, R), (3, .cells [.int .u64 a, .int .u64 a1, .int .u64 a2, .int .u64 a3] true), (4, .cells [.int .u64 b, .int .u64 b1, .int .u64 b2, .int .u64 b3] true), (31, X)] 214
noncomputable def vcY8_s2 (V : AV) (M : AO) (R : AO) (a : Int) (a1 : Int) (a2 : Int) (a3 : Int) (b : Int) (b1 : Int) (b2 : Int) (b3 : Int) (X : AO) (X2 : AO) : ASt := mkSt [(0, .cells [.map (some 1), V] true), (1, M), (2, R), (3, .cells [.int .u64 a, .int .u64 a1, .int .u64 a2, .int .u64 a3] true), (4, .cells [.int .u64 b, .int .u64 b1, .int .u64 b2, .int .u64 b3] true), (31, X), (231, X2)] 414
noncomputable def vcY8_s3 (V : AV) (M : AO) (R : AO) (a : Int) (a1 : Int) (a2 : Int) (a3 : Int) (b : Int) (b1 : Int) (b2 : Int) (b3 : Int) (X : AO) (X2 : AO) : ASt := mkSt [(0, .cells [.map (some 1), V] true), (1, M), (2, R), (3, .cells [.int .u64 a, .int .u64 a1, .int .u64 a2, .int .u64 a3] true), (4, .cells [.int .u64 b, .int .u64 b1, .int .u64 b2, .int .u64 b3] true), (11, .cells [.slice none 0 (.known 0)] true), (31, X), (231, X2)] 414
noncomputable def vcY8_s4 (V : AV) (M : AO) (R : AO) (a : Int) (a1 : Int) (a2 : Int) (a3 : Int) (b : Int) (b1 : Int) (b2 : Int) (b3 : Int) (W2 : AV) (X : AO) (X2 : AO) : ASt := mkSt [(0, .cells [.map (some 1), V] true), (1, M), (2, R), (3, .cells [.int .u64 a, .int .u64 a1, .int .u64 a2, .int .u64 a3] true), (4, .cells [.int .u64 b, .int .u64 b1, .int .u64 b2, .int .u64 b3] true), (11, .cells [W2] true), (31, X), (231, X2)] 414
noncomputable def vcY8_s5 (V : AV) (M : AO) (R : AO) (a : Int) (a1 : Int) (a2 : Int) (a3 : Int) (b : Int) (b1 : Int) (b2 : Int) (b3 : Int) (W2 : AV) (X : AO) (X2 : AO) : ASt := mkSt [(0, .cells [.map (some 1), V] true), (1, M), (2, R), (3, .cells [.int .u64 a, .int .u64 a1, .int .u64 a2, .int .u64 a3] true), (4, .cells [.int .u64 b, .int .u64 b1, .int .u64 b2, .int .u64 b3] true), (11, .cells [W2] true), (31, X), (231, X2), (414, .cells [.int .u64 a, .int .u64 a1, .int .u64 a2, .int .u64 a3] true)] 415
noncomputable def vcY8_s6 (V : AV) (M : AO) (R : AO) (a : Int) (a1 : Int) (a2 : Int) (a3 : Int) (b : Int) (b1 : Int) (b2 : Int) (b3 : Int) (W2 : AV) (X : AO) (X2 : AO) : ASt := mkSt [(0, .cells [.map (some 1), V] true), (1, M), (2, R), (3, .cells [.int .u64 a, .int .u64 a1, .int .u64 a2, .int .u64 a3] true), (4, .cells [.int .u64 b, .int .u64 b1, .int .u64 b2, .int .u64 b3] true), (11, .cells [W2] true), (31, X), (231, X2), (414, .cells [.int .u64 a, .int .u64 a1, .int .u64 a2, .int .u64 a3] true), (415, .cells [.int .u64 a, .int .u64 a1, .int .u64 a2, .int .u64 a3] true)] 416
noncomputable def vcY8_s7 (V : AV) (M : AO) (R : AO) (a : Int) (a1 : Int) (a2 : Int) (a3 : Int) (b : Int) (b1 : Int) (b2 : Int) (b3 : Int) (W2 : AV) (X : AO) (X2 : AO) : ASt := mkSt [(0, .cells [.map (some 1), V] true), (1, M), (2, R), (3, .cells [.int .u64 a, .int .u64 a1, .int .u64 a2, .int .u64 a3] true), (4, .cells [.int .u64 b, .int .u64 b1, .int .u64 b2, .int .u64 b3] true), (11, .cells [W2] true), (31, X), (231, X2), (414, .cells [.int .u64 a, .int .u64 a1, .int .u64 a2, .int .u64 a3] true), (415, .cells [.int .u64 a, .int .u64 a1, .int .u64 a2, .int .u64 a3] true), (416, .cells [.int .u64 b, .int .u64 b1, .int .u64 b2, .int .u64 b3] true)] 417
theorem vcY8 (q : CallT) (V : AV) (M : AO) (R : AO) (a : Int) (a1 : Int) (a2 : Int) (a3 : Int) (b : Int) (b1 : Int) (b2 : Int) (b3 : Int) (W : AV) (W2 : AV) (X : AO) (X2 : AO) (Q : AV × ASt → Prop) :
  ((Ax.M ES (drawA ES) (onlyC [44, 49, 51] q) 56).call 49 [.ptr (some (0, 0)), .agg [.int .u64 a, .int .u64 a1, .int .u64 a2, .int .u64 a3]] (vcY8_s0 V M R a a1 a2 a3 b b1 b2 b3) = some (W, vcY8_s1 V M R a a1 a2 a3 b b1 b2 b3 X) ∧ (Ax.M ES (drawA ES) (onlyC [44, 49, 51] q) 56).call 49 [.ptr (some (0, 0)), .agg [.int .u64 b, .int .u64 b1, .int .u64 b2, .int .u64 b3]] (vcY8_s1 V M R a a1 a2 a3 b b1 b2 b3 X) = some (W2, vcY8_s2 V M R a a1 a2 a3 b b1 b2 b3 X X2) ∧ Option.map (fun s => (undefA, s)) (aStore ES 57 (.ptr (some (11, 0))) W2 (vcY8_s3 V M R a a1 a2 a3 b b1 b2 b3 X X2)) = some (.tuple [], vcY8_s4 V M R a a1 a2 a3 b b1 b2 b3 W2 X X2) ∧ holdsO [(some (.agg [.int .u64 b, .int .u64 b1, .int .u64 b2, .int .u64 b3]), .agg [.int .u64 b, .int .u64 b1, .int .u64 b2, .int .u64 b3])] ∧ still (vcY8_s5 V M R a a1 a2 a3 b b1 b2 b3 W2 X X2) (aBin ES .eql 48 (.tmp 4) (.const (.int .u64 0)) (.int .u64 a) (.int .u64 (.ofNat 0))) = some (.bool false, vcY8_s5 V M R a a1 a2 a3 b b1 b2 b3 W2 X X2) ∧ still (vcY8_s6 V M R a a1 a2 a3 b b1 b2 b3 W2 X X2) (aBin ES .eql 48 (.tmp 4) (.const (.int .u64 0)) (.int .u64 a) (.int .u64 (.ofNat 0))) = some (.bool false, vcY8_s6 V M R a a1 a2 a3 b b1 b2 b3 W2 X X2) ∧ still (vcY8_s7 V M R a a1 a2 a3 b b1 b2 b3 W2 X X2) (aBin ES .eql 48 (.tmp 4) (.const (.int .u64 0)) (.int .u64 b) (.int .u64 (.ofNat 0))) = some (.bool false, vcY8_s7 V M R a a1 a2 a3 b b1 b2 b3 W2 X X2) ∧ still (vcY8_s7 V M R a a1 a2 a3 b b1 b2 b3 W2 X X2) (aBin ES .eql 48 (.tmp 36) (.tmp 38) (.int .u64 a) (.int .u64 b)) = some (.bool false, vcY8_s7 V M R a a1 a2 a3 b b1 b2 b3 W2 X X2) ∧ (Ax.M ES (drawA ES) (onlyC [44, 49, 51] q) 38).call 44 [W2, .int .u64 a] (vcY8_s7 V M R a a1 a2 a3 b b1 b2 b3 W2 X X2) = some (.bool false, vcY8_s7 V M R a a1 a2 a3 b b1 b2 b3 W2 X X2) ∧ (Ax.M ES (drawA ES) (onlyC [44, 49, 51] q) 40).call 44 [W, .int .u64 b] (vcY8_s7 V M R a a1 a2 a3 b b1 b2 b3 W2 X X2) = some (.bool false, vcY8_s7 V M R a a1 a2 a3 b b1 b2 b3 W2 X X2) ∧ (Ax.M ES (drawA ES) (onlyC [44, 49, 51] q) 38).call 51 [W, .clos 50 [.ptr (some (11, 0))]] (vcY8_s7 V M R a a1 a2 a3 b b1 b2 b3 W2 X X2) = some (.bool false, vcY8_s7 V M R a a1 a2 a3 b b1 b2 b3 W2 X X2) ∧ Q (.int .i64 (.ofNat 8), vcY8_s7 V M R a a1 a2 a3 b b1 b2 b3 W2 X X2)) =
  (tY8 q V M R a a1 a2 a3 b b1 b2 b3 W W2 X X2).allY (fun r => Q (r.1, canS KO460 r.2)) (.v (W, vcY8_s1 V M R a a1 a2 a3 b b1 b2 b3 X) (.v (W2, vcY8_s2 V M R a a1 a2 a3 b b1 b2 b3 X X2) (.v (.tuple [], vcY8_s4 V M R a a1 a2 a3 b b1 b2 b3 W2 X X2) (.v (.bool false, vcY8_s5 V M R a a1 a2 a3 b b1 b2 b3 W2 X X2) (.v (.bool false, vcY8_s6 V M R a a1 a2 a3 b b1 b2 b3 W2 X X2) (.v (.bool false, vcY8_s7 V M R a a1 a2 a3 b b1 b2 b3 W2 X X2) (.v (.bool false, vcY8_s7 V M R a a1 a2 a3 b b1 b2 b3 W2 X X2) (.v (.bool false, vcY8_s7 V M R a a1 a2 a3 b b1 b2 b3 W2 X X2) (.v (.bool false, vcY8_s7 V M R a a1 a2 a3 b b1 b2 b3 W2 X X2) (.v (.bool false, vcY8_s7 V M R a a1 a2 a3 b b1 b2 b3 W2 X X2) .nil)))))))))) := by kernel_rfl
end Go.Proofs.Ytidmijpfoodkoaa.gho
end

section
open Go Go.Ax Go.Proofs
namespace Go.Proofs.Ytidmijpfoodkoaa.gho
set_option linter.unusedVariables false
theorem ESok : Env.Ok Try.prog ES := envEx_ok (xs := []) ⟨⟨Try.func29, Try.call29⟩, ⟨Try.func33, Try.call33⟩, ⟨Try.func37, Try.call37⟩, ⟨Try.func46, Try.call46⟩, ⟨Try.func49, Try.call49⟩, ⟨Try.func50, Try.call50⟩, ⟨Try.func51, Try.call51⟩, ⟨Try.func57, Try.call57⟩, trivial⟩ trivial (by kernel_rfl)
def eld (l : List Int) : List Int := l.filter fun n => !eqF n (.ofNat 0)
section
variable {l : List (Int × Int)} {g a p q r b x : Int} {n k m i : Nat} {c : Cap} {cs : List AV} {S : ASt} {e : List Int}
theorem apS57 : appT ES 57 57 = some (1, 8) := by kernel_rfl
theorem app_oneS {st : ASt} {a b : Nat} (hx : st.h.get b = some (.cells [gU p] true)) (he : st.h.get a = some (Ux e)) (hl : e.length < 100000) :
    aBuiltinM ES .append [57, 57] [Uv a e, .slice (some (b, 0)) 1 (.known 1)] st = some (slU st.next (e.length + 1), (st.put a .dead).add (.cells ((e ++ [p]).map gU) true)) ∨
    (e = [] ∧ aBuiltinM ES .append [57, 57] [Uv a e, .slice (some (b, 0)) 1 (.known 1)] st = some (slU st.next (e.length + 1), st.add (.cells ((e ++ [p]).map gU) true))) := by
  cases e with
  | nil => exact .inr ⟨rfl, append_nil_at apS57 rfl (first_at hx rfl) (by decide) (by decide) (by decide)⟩
  | cons x e =>
    have hl : e.length + 1 < 100000 := hl
    refine .inl ((append_grow_at (l := e.length + 1) (cs := (x :: e).map gU) apS57 rfl (first_at hx rfl) he (by simp) (by decide) (by decide) (by omega) (by omega)).trans ?_)
    show _ = some (slU st.next (e.length + 1 + 1), (st.put a .dead).add (.cells (((x :: e) ++ [p]).map gU) true))
    rw [List.map_append]; rfl
theorem eld_len (l : List Int) : (eld l).length ≤ l.length := List.length_filter_le _ _
theorem eld_skip (h : eqF x (.ofNat 0) = true) (hx : [p, q, r][i]? = some x) : eld ([p, q, r].take (i + 1)) = eld ([p, q, r].take i) := by
  rw [List.take_add_one, hx]
  unfold eld
  rw [List.filter_append]
  have h' : eqF x 0 = true := h
  simp [h']
theorem eld_push (h : eqF x (.ofNat 0) = false) (hx : [p, q, r][i]? = some x) : eld ([p, q, r].take (i + 1)) = eld ([p, q, r].take i) ++ [x] := by
  rw [List.take_add_one, hx]
  unfold eld
  rw [List.filter_append]
  have h' : eqF x 0 = false := h
  simp [h']
theorem roundE (hi : i ≤ 3) : Trip Try.prog 0 none L37 (fr37 p q r (Uv 0 (eld ([p, q, r].take i))) i) (SE (Ux (eld ([p, q, r].take i)))) fun s => (i < 3 ∧ Stops 0 .normal (fr37 p q r (Uv 0 (eld ([p, q, r].take (i + 1)))) (i + 1)) (SE (Ux (eld ([p, q, r].take (i + 1))))) s) ∨ (i = 3 ∧ Stops 0 (.exit 0) (fr37 p q r (Uv 0 (eld ([p, q, r].take i))) i) (SE (Ux (eld ([p, q, r].take i)))) s) := by
  have hbin : ∀ {S : ASt} {x : Int} {w : Bool}, (!eqF x (.ofNat 0)) = w → still S (aBin ES .neq 48 (.tmp 17) (.const (.int .u64 0)) (.int .u64 x) (.int .u64 (.ofNat 0))) = some (.bool w, S) := fun {S x w} hw => by
    have h : ∀ z : Int, aBin ES .neq 48 (.tmp 17) (.const (.int .u64 0)) (.int .u64 z) (.int .u64 (.ofNat 0)) = some (.bool (!eqF z (.ofNat 0))) := fun z => by kernel_rfl
    rw [h, hw]; rfl
  by_cases e : i < 3
  · obtain ⟨x, hx⟩ : ∃ x, [p, q, r][i]? = some x := ⟨_, List.getElem?_eq_getElem (by simpa using e)⟩
    have hidx : ∀ S : ASt, still S (aIndex ES 99 (.agg [.int .u64 p, .int .u64 q, .int .u64 r]) (.int .i64 (.ofNat i))) = some (.int .u64 x, S) := fun S =>
      match i, e, hx with
      | 0, _, hx => by cases hx; kernel_rfl
      | 1, _, hx => by cases hx; kernel_rfl
      | 2, _, hx => by cases hx; kernel_rfl
    have e1 : wrapF .i64 (Int.ofNat i + Int.ofNat 1) = .ofNat (i + 1) := wI e (by decide)
    cases h0 : eqF x (.ofNat 0) with
    | true =>
      refine (Trip.runY ESok noSum_ok (Eq.mp (vcAs p q r x (Uv 0 (eld ([p, q, r].take i))) (Ux (eld ([p, q, r].take i))) i (fun s => (i < 3 ∧ Stops 0 .normal (fr37 p q r (Uv 0 (eld ([p, q, r].take (i + 1)))) (i + 1)) (SE (Ux (eld ([p, q, r].take (i + 1))))) s) ∨ (i = 3 ∧ Stops 0 (.exit 0) (fr37 p q r (Uv 0 (eld ([p, q, r].take i))) i) (SE (Ux (eld ([p, q, r].take i)))) s))) (ifB_mk (fun _ => ⟨hidx _, hbin (by rw [h0]; rfl), .inl ⟨e, rfl, ?_⟩⟩) fun h => nlt' e h))).mono fun s hs => hs.imp (fun h => ⟨h.1, h.2.can⟩) (fun h => ⟨h.1, h.2.can⟩)
      rw [e1, eld_skip h0 hx]
      exact Wk.refl _ _ _
    | false =>
      have hlen : (eld ([p, q, r].take i)).length < 100000 := by have := eld_len ([p, q, r].take i); have h2 : ([p, q, r].take i).length ≤ 3 := List.length_take_le' .. ; omega
      have happ : aBuiltinM ES .append [57, 57] [Uv 0 (eld ([p, q, r].take i)), .slice (some (1, 0)) 1 (.known 1)] (vcAp_s1 x (Ux (eld ([p, q, r].take i)))) = some (.slice (some (2, 0)) ((eld ([p, q, r].take i)).length + 1) (.rest 1), vcAp_s2 x (.cells ((eld ([p, q, r].take i) ++ [x]).map gU) true)) := by
        generalize eld ([p, q, r].take i) = w at hlen ⊢
        rcases app_oneS (a := 0) (b := 1) (p := x) (e := w) (st := vcAp_s1 x (Ux w)) (by kernel_rfl) (by kernel_rfl) hlen with h | ⟨rfl, h⟩
        · exact h.trans (by kernel_rfl)
        · exact h.trans (by kernel_rfl)
      refine (Trip.runY ESok noSum_ok (Eq.mp (vcAp p q r x (eld ([p, q, r].take i)).length (Uv 0 (eld ([p, q, r].take i))) (Ux (eld ([p, q, r].take i))) (.cells ((eld ([p, q, r].take i) ++ [x]).map gU) true) i (fun s => (i < 3 ∧ Stops 0 .normal (fr37 p q r (Uv 0 (eld ([p, q, r].take (i + 1)))) (i + 1)) (SE (Ux (eld ([p, q, r].take (i + 1))))) s) ∨ (i = 3 ∧ Stops 0 (.exit 0) (fr37 p q r (Uv 0 (eld ([p, q, r].take i))) i) (SE (Ux (eld ([p, q, r].take i)))) s))) (ifB_mk (fun _ => ⟨hidx _, hbin (by rw [h0]; rfl), happ, .inl ⟨e, rfl, ?_⟩⟩) fun h => nlt' e h))).mono fun s hs => hs.imp (fun h => ⟨h.1, h.2.can⟩) (fun h => ⟨h.1, h.2.can⟩)
      rw [e1, eld_push h0 hx]
      generalize eld ([p, q, r].take i) = w
      rw [Uv_app, Ux_app]
      exact Wk.heldX (kb := 0) [2] (by kernel_rfl) (by kernel_rfl) [2, 13, 14] (by kernel_rfl) (.cons 2 (.cells ((w ++ [x]).map gU) true) rfl (by kernel_rfl) (.row gU_refs) .nil)
  · have ek : i = 3 := by omega
    refine (Trip.runY ESok noSum_ok (Eq.mp (vcAs p q r 0 (Uv 0 (eld ([p, q, r].take i))) (Ux (eld ([p, q, r].take i))) i (fun s => (i < 3 ∧ Stops 0 .normal (fr37 p q r (Uv 0 (eld ([p, q, r].take (i + 1)))) (i + 1)) (SE (Ux (eld ([p, q, r].take (i + 1))))) s) ∨ (i = 3 ∧ Stops 0 (.exit 0) (fr37 p q r (Uv 0 (eld ([p, q, r].take i))) i) (SE (Ux (eld ([p, q, r].take i)))) s))) (ifB_mk (fun h => ?_) fun _ => .inr ⟨ek, rfl, Wk.refl _ _ _⟩))).mono fun s hs => hs.imp (fun h => ⟨h.1, h.2.can⟩) (fun h => ⟨h.1, h.2.can⟩)
    rw [ltF_nn] at h
    exact absurd (of_decide_eq_true h) e
theorem shape37 : c37 = .seq (seqL c37) (.seq (.seq (seqL (seqL (dropC 0 c37))) (.block 0 (.loop L37))) (dropC 1 c37)) := by kernel_rfl
theorem trip37 : Trip Try.prog 0 none c37 { m := putArgs [ln a p q r] 0 .e, n := 25, defs := [] } (mkSt [] 0) fun s => (s.1 = .normal ∨ s.1 = .ret) ∧ ∃ v, leaveA ES Try.f37 s.2.1 s.2.2 = some v ∧ v = (Uv 0 (eld [p, q, r]), SE (Ux (eld [p, q, r]))) := by
  rw [shape37]
  refine Trip.weak (Q := fun s => s.1 = .ret ∧ Wk 0 s.2.1 s.2.2 (xFr [(2, Uv 0 (eld [p, q, r]))] 25) (SE (Ux (eld [p, q, r])))) ?_ (fun s hs => ⟨_, _, hs.2, .inr hs.1, _, (by kernel_rfl : _ = some (Uv 0 (eld [p, q, r]), SE (Ux (eld [p, q, r])))), rfl⟩)
  refine Trip.seqC ESok noSum_ok (n := 60) [1, 2] [0] (F := xFr [(1, pO 0), (2, nilA)] 25) (S := mkSt [(0, .cells [gU a, gU p, gU q, gU r] true)] 1) (by kernel_rfl) ?_
  refine Trip.seq (R := fun s => s.1 = .normal ∧ Wk 0 s.2.1 s.2.2 (fr37 p q r (Uv 0 (eld [p, q, r])) 3) (SE (Ux (eld [p, q, r])))) (Trip.seqC ESok noSum_ok (n := 60) [2, 13, 14] [] (F := fr37 p q r nilA 0) (S := mkSt [] 1) (by kernel_rfl) ?_) (fun fr' st' hq => ?_) (fun e fr' st' hne hq => absurd hq.1 hne)
  · refine Trip.less (fr' := fr37 p q r nilA 0) (st' := SE .dead) (Wk.heldX (kb := 0) [0] (by kernel_rfl) (by kernel_rfl) [2, 13, 14] (by kernel_rfl) (.dead (by decide) .nil)) ?_
    refine Trip.block (Trip.loop (fun μ fr st => ∃ i, i ≤ 3 ∧ μ = 3 - i ∧ fr = fr37 p q r (Uv 0 (eld ([p, q, r].take i))) i ∧ st = SE (Ux (eld ([p, q, r].take i)))) ?_ 3 ⟨0, by omega, rfl, rfl, rfl⟩)
    rintro μ fr st ⟨i, hi, rfl, rfl, rfl⟩
    refine (roundE hi).mono ?_
    rintro ⟨x, fr', st'⟩ (⟨h1, h2, h3⟩ | ⟨h1, h2, h3⟩)
    · simp only at h2
      subst h2
      exact ⟨3 - (i + 1), _, _, by omega, h3, i + 1, by omega, rfl, rfl, rfl⟩
    · simp only at h2
      subst h2
      subst h1
      exact ⟨fun _ => ⟨rfl, h3⟩, fun h => absurd rfl h⟩
  · refine Trip.less hq.2 ?_
    refine Trip.less (fr' := xFr [(2, Uv 0 (eld [p, q, r]))] 25) (st' := SE (Ux (eld [p, q, r]))) ?_ ?_
    · have e3 : canF [2] (fr37 p q r (Uv 0 (eld [p, q, r])) 3) = xFr [(2, Uv 0 (eld [p, q, r]))] 25 := by kernel_rfl
      have e4 : canS KO460 (SE (Ux (eld [p, q, r]))) = SE (Ux (eld [p, q, r])) := by kernel_rfl
      have := Wk.can 0 [2] KO460 (fr37 p q r (Uv 0 (eld [p, q, r])) 3) (SE (Ux (eld [p, q, r])))
      rw [e3, e4] at this
      exact this
    · refine (Trip.runY ESok noSum_ok (Eq.mp (vcAe p q r (Uv 0 (eld [p, q, r])) (Ux (eld [p, q, r])) (fun s => s = (.ret, xFr [(2, Uv 0 (eld [p, q, r]))] 25, SE (Ux (eld [p, q, r]))))) rfl)).mono fun s hs => ?_
      obtain ⟨r1, r2, r3⟩ := s
      simp only [canR, Prod.mk.injEq] at hs
      obtain ⟨rfl, q1, q2⟩ := hs
      refine ⟨rfl, ?_⟩
      have := Wk.can 0 [2] KO460 r2 r3
      rw [q1, q2] at this
      exact this
theorem elder_at : Call1 Try.prog 37 [ln a p q r] S (Uv (S.next + 0) (eld [p, q, r]), outS (gK 0 S.next) [(0, Ux (eld [p, q, r]))] S (S.next + 50)) := by
  have hcall := Trip.call ESok (f := 37) (fn := Try.f37) (c := c37) (by kernel_rfl) (by kernel_rfl) (args := [ln a p q r]) (st := mkSt [] 0) (by kernel_rfl) (R := fun v => v = (Uv 0 (eld [p, q, r]), SE (Ux (eld [p, q, r]))))
    (by
      have e1 : ({ m := putArgs [ln a p q r] 0 .e, n := Try.f37.ntmps, defs := [] } : AFr) = { m := putArgs [ln a p q r] 0 .e, n := 25, defs := [] } := by kernel_rfl
      rw [e1]
      exact trip37)
  refine Call1.same (S := S) (S1 := mkSt [] 0) 0 0 (Nat.le_refl 0) (fun B w0 ι W args' hB hsr hv => hcall B hB w0 ι W args' hsr hv) rfl (fun j hj => absurd hj (by omega)) (fun j x hj => ?_) (fun v hv => ?_) fun w hw => ?_
  · have : (mkSt [] 0).h.get j = Option.none := T.get_e j
    rw [this] at hj; cases hj
  · simp only [List.mem_cons, List.not_mem_nil, or_false] at hv
    subst hv; rfl
  · subst hw
    have hg : gK 0 S.next 0 = S.next + 0 := rfl
    refine ⟨Uv_back hg, by show S.next + 1 ≤ S.next + 50; omega, by omega, fun v hv => ?_, fun j x hj ho => ?_⟩
    · simp only [List.mem_cons, List.not_mem_nil, or_false] at hv
      subst hv
      exact ⟨by show S.next + 0 < S.next + 50; omega, .inr (Nat.le_refl 0), fun h => absurd h (by omega), Ux_back (by kernel_rfl)⟩
    · have : (mkSt [] 0).h.get j = Option.none := T.get_e j
      rw [this] at hj; cases hj
end
end Go.Proofs.Ytidmijpfoodkoaa.gho
end

section
open Go Go.Ax Go.Proofs
namespace Go.Proofs.Ytidmijpfoodkoaa.gho
set_option linter.unusedVariables false
section
variable {l : List (Int × Int)} {g a p q r b x : Int} {n k m i : Nat} {c : Cap} {cs : List AV} {S : ASt} {e : List Int}
def sgV (k : Nat) (e : List Int) (m : Nat) : AV := match e with
  | [] => nilA
  | x :: e => .slice (some (k, 0)) (Nat.min (x :: e).length m) (.rest 1)
theorem sgV_slv (h : S.h.get k = some (Ux e)) : SlV S (sgV k e m) (e.take m) := by
  cases e with
  | nil => rw [List.take_nil]; exact .nil
  | cons x e =>
    have hl : Nat.min (x :: e).length m = ((x :: e).take m).length := by rw [List.length_take, Nat.min_comm]
    show SlV S (.slice (some (k, 0)) (Nat.min (x :: e).length m) (.rest 1)) _
    rw [hl]
    refine .row h ?_
    unfold takeL
    rw [List.drop_zero, List.length_take, ← List.map_take]
    simp
theorem min_at : aBuiltinM ES .min [3, 3] [.int .i64 (.ofNat n), .int .i64 (.ofNat m)] S = some (.int .i64 (.ofNat (Nat.min n m)), S) := by
  have h : aBuiltinM ES .min [3, 3] [.int .i64 (.ofNat n), .int .i64 (.ofNat m)] S = some (.int .i64 (bif ltF (.ofNat m) (.ofNat n) then .ofNat m else .ofNat n), S) := by kernel_rfl
  rw [h, ltF_nn]
  by_cases hm : m < n
  · rw [decide_eq_true hm]
    have : Nat.min n m = m := Nat.min_eq_right (by omega)
    rw [this]; rfl
  · rw [decide_eq_false hm]
    have : Nat.min n m = n := Nat.min_eq_left (by omega)
    rw [this]; rfl
theorem slice_hi1 {b : Nat} (hb : 0 < n) (hk : k ≤ n) : still S (aSlice ES 57 (.slice (some (b, 0)) n (.rest 1)) none (some (.int .i64 (.ofNat k))) none S) = some (.slice (some (b, 0)) k (.rest 1), S) := by
  have e : aSlice ES 57 (.slice (some (b, 0)) n (.rest 1)) none (some (.int .i64 (.ofNat k))) none S =
    (match (bif Nat.ble k (aRoom S b 0 1 n) then bif true then some (0, k, aRoom S b 0 1 n) else none else none : Option (Nat × Nat × Nat)) with
      | some (l, h, m) => bif Nat.blt l (aRoom S b 0 1 n) then some (.slice (some (b, 0 + l * 1)) (h - l) (.rest 1)) else bif Nat.beq l 0 then some (.slice (some (b, 0)) 0 (.rest 1)) else some .slice0
      | none => none) := by kernel_rfl
  have hr : n ≤ aRoom S b 0 1 n := by
    unfold aRoom
    split
    · exact Nat.le_max_left _ _
    · exact Nat.le_refl _
  have hlt : Nat.blt 0 (aRoom S b 0 1 n) = true := by rw [Nat.blt_eq]; omega
  rw [e, Nat.ble_eq_true_of_le (show k ≤ aRoom S b 0 1 n by omega), cond_true, cond_true]
  simp only [hlt, cond_true]
  rfl
theorem lenV {k : Nat} : aBuiltinM ES .len [57] [Uv k e] S = some (.int .i64 (.ofNat e.length), S) := by
  cases e with
  | nil => kernel_rfl
  | cons x e =>
    show aBuiltinM ES .len [57] [slU k (e.length + 1)] S = some (.int .i64 (.ofNat (e.length + 1)), S)
    kernel_rfl
theorem slice_sg {b : Nat} : still S (aSlice ES 57 (Uv b e) none (some (.int .i64 (.ofNat (Nat.min e.length m)))) none S) = some (sgV b e m, S) := by
  cases e with
  | nil =>
    show still S (aSlice ES 57 nilA none (some (.int .i64 (.ofNat (Nat.min 0 m)))) none S) = some (nilA, S)
    rw [show Nat.min 0 m = 0 from Nat.min_eq_left (Nat.zero_le _)]
    kernel_rfl
  | cons x e => exact slice_hi1 (n := e.length + 1) (k := Nat.min (e.length + 1) m) (by omega) (Nat.min_le_left _ _)
theorem tree_same2 {f : Nat} {args : List AV} {Q1 : AV × ASt → Prop} {ot : List (Nat × AO)} {v : AV} (hS : TreeAt S l n c cs)
    (hrun : ∀ B w0 ι W args', (∀ i, ¬ B.rs i) → SR B w0 ι (TR l n c cs) W → VRs ι args args' → (callFunc f args').run Try.prog W = .ok (.enter f args') W ∧ CallsIn Fence.wide 0 Try.prog f args' W fun e w' => ∃ v, Q1 v ∧ Post B w0 ι v e w')
    (hargs : ∀ v, v ∈ args → renV (List.range 3) v = some v)
    (hb : ∀ q, Q1 q → BackV (gK 3 S.next) q.1 v ∧ q.2.next ≤ 200 ∧ q.2.h.get 0 = some (tO (vR n c)) ∧ q.2.h.get 1 = some (mO l) ∧ q.2.h.get 2 = some (.cells cs true) ∧
      ∀ p, p ∈ ot → 3 ≤ p.1 ∧ p.1 < 200 ∧ (p.2 = .dead ∨ p.2.own = true ∧ ∃ a, q.2.h.get p.1 = some a ∧ BackO (gK 3 S.next) a p.2)) :
    Call1 Try.prog f args S (v, outS (gK 3 S.next) ((0, tO (vR n c)) :: (1, mO l) :: (2, .cells cs true) :: ot) S (S.next + 200)) := by
  refine Call1.same (S := S) 3 3 (Nat.le_refl 3) hrun rfl (fun j hj => ?_) (fun j x hj => ?_) hargs fun q hq => ?_
  · match j, hj with
    | 0, _ => exact ⟨_, hS.t, by simp [tO]⟩
    | 1, _ => exact ⟨_, hS.m, by simp [mO]⟩
    | 2, _ => exact ⟨_, hS.r, by simp⟩
  · rcases get3 hj with ⟨rfl, rfl⟩ | ⟨rfl, rfl⟩ | ⟨rfl, rfl⟩
    · exact ⟨by decide, fun _ => ⟨by decide, hS.t, .of (by kernel_rfl)⟩⟩
    · exact ⟨by decide, fun _ => ⟨by decide, hS.m, mO_ren⟩⟩
    · exact ⟨by decide, fun _ => ⟨by decide, hS.r, .row hS.refs⟩⟩
  · obtain ⟨b1, b2, b3, b4, b5, b6⟩ := hb q hq
    refine ⟨b1, by omega, by omega, fun p hp => ?_, fun j x hj ho => ?_⟩
    · rcases List.mem_cons.1 hp with rfl | hp
      · exact ⟨(by show 0 < S.next + 200; omega), .inl (by show 0 < 3; decide), fun _ => ⟨_, (by kernel_rfl : _ = some (tO (vR n c))), rfl⟩, .inr ⟨rfl, _, b3, tO_back⟩⟩
      · rcases List.mem_cons.1 hp with rfl | hp
        · exact ⟨(by show 1 < S.next + 200; omega), .inl (by show 1 < 3; decide), fun _ => ⟨_, (by kernel_rfl : _ = some (mO l)), rfl⟩, .inr ⟨rfl, _, b4, mO_back⟩⟩
        · rcases List.mem_cons.1 hp with rfl | hp
          · exact ⟨(by show 2 < S.next + 200; omega), .inl (by show 2 < 3; decide), fun _ => ⟨_, (by kernel_rfl : _ = some (.cells cs true)), rfl⟩, .inr ⟨rfl, _, b5, .row hS.refs⟩⟩
          · obtain ⟨c1, c2, c3⟩ := b6 p hp
            have hg : gK 3 S.next p.1 = S.next + p.1 := by
              unfold gK
              cases h : Nat.blt p.1 3 with
              | false => rfl
              | true => rw [Nat.blt_eq] at h; omega
            exact ⟨by rw [hg]; omega, .inr c1, fun h => absurd h (by omega), c3⟩
    · rcases get3 hj with ⟨rfl, rfl⟩ | ⟨rfl, rfl⟩ | ⟨rfl, rfl⟩
      · exact ⟨_, List.mem_cons_self, rfl⟩
      · exact ⟨_, List.mem_cons_of_mem _ List.mem_cons_self, rfl⟩
      · exact ⟨_, List.mem_cons_of_mem _ (List.mem_cons_of_mem _ List.mem_cons_self), rfl⟩
theorem sight_at (hS : TreeAt S l n c cs) (hT : TreeOk l) (hl : (up l a).length < 90000) :
    Call1 Try.prog 49 [pO 0, ln a p q r] S (sgV (S.next + 17) (up l a) (eld [p, q, r]).length, outS (gK 3 S.next) [(0, tO (vR n c)), (1, mO l), (2, .cells cs true), (17, Ux (up l a))] S (S.next + 200)) := by
  have c1 : Call1 Try.prog 26 [.ptr (some (0, 0)), .int .u64 a] (vcSi_s0 (vR n c) (mO l) (.cells cs true) a p q r) (Uv 17 (up l a), vcSi_s1 (vR n c) (mO l) (.cells cs true) a p q r (Ux (up l a))) :=
    Call1.mem (by kernel_rfl) (up_at (n := n) (c := c) (S := vcSi_s0 (vR n c) (mO l) (.cells cs true) a p q r) (g := a) ⟨by kernel_rfl, by kernel_rfl, by kernel_rfl, hS.refs⟩ hT (by omega))
  have c2 : Call1 Try.prog 37 [.agg [.int .u64 a, .int .u64 p, .int .u64 q, .int .u64 r]] (vcSi_s1 (vR n c) (mO l) (.cells cs true) a p q r (Ux (up l a))) (Uv ((vcSi_s1 (vR n c) (mO l) (.cells cs true) a p q r (Ux (up l a))).next + 0) (eld [p, q, r]), vcSi_s2 (vR n c) (mO l) (.cells cs true) a p q r (Ux (up l a)) (Ux (eld [p, q, r]))) :=
    Call1.mem (by kernel_rfl) (elder_at (S := vcSi_s1 (vR n c) (mO l) (.cells cs true) a p q r (Ux (up l a))))
  refine tree_same2 (ot := [(17, Ux (up l a))]) (Q1 := fun w => w = (sgV 17 (up l a) (eld [p, q, r]).length, vcSi_s2 (vR n c) (mO l) (.cells cs true) a p q r (Ux (up l a)) (Ux (eld [p, q, r])))) hS (fun B w0 ι W args' hB hsr hv => ?_) (fun v hv => ?_) fun w hw => ?_
  · exact run_of_tm ESok (sum := onlyC [26, 37] (tabC [_, _])) (onlyC_ok (tabC_ok fun e he => by
      simp only [List.mem_cons, List.not_mem_nil, or_false] at he
      rcases he with rfl | rfl
      · exact c1
      · exact c2)) (Eq.mp (vcSi (tabC [_, _]) (vR n c) (mO l) (.cells cs true) a p q r (up l a).length (eld [p, q, r]).length (Nat.min (up l a).length (eld [p, q, r]).length) (Uv 17 (up l a)) (Uv ((vcSi_s1 (vR n c) (mO l) (.cells cs true) a p q r (Ux (up l a))).next + 0) (eld [p, q, r])) (sgV 17 (up l a) (eld [p, q, r]).length) (Ux (up l a)) (Ux (eld [p, q, r])) (fun w => w = (sgV 17 (up l a) (eld [p, q, r]).length, vcSi_s2 (vR n c) (mO l) (.cells cs true) a p q r (Ux (up l a)) (Ux (eld [p, q, r])))))
        ⟨call_at (onlyC_at rfl (tabC_hd ..)), lenV, call_at (onlyC_at rfl ((tabC_tlf rfl).trans (tabC_hd ..))), lenV, min_at, slice_sg, rfl⟩) B w0 ι W args' hsr hv
  · simp only [List.mem_cons, List.not_mem_nil, or_false] at hv
    rcases hv with rfl | rfl <;> kernel_rfl
  · subst hw
    refine ⟨?_, Nat.le_of_ble_eq_true (by kernel_rfl), by kernel_rfl, by kernel_rfl, by kernel_rfl, fun v hv => ?_⟩
    · have hg : gK 3 S.next 17 = S.next + 17 := rfl
      cases up l a with
      | nil => exact .eq rfl
      | cons x e => exact .eq (by simp [mapV, sgV, hg])
    · simp only [List.mem_cons, List.not_mem_nil, or_false] at hv
      subst hv
      exact ⟨by show 3 ≤ 17; decide, by show 17 < 200; decide, Ux_back (by kernel_rfl)⟩
end
end Go.Proofs.Ytidmijpfoodkoaa.gho
end

section
open Go Go.Ax Go.Proofs
namespace Go.Proofs.Ytidmijpfoodkoaa.gho
set_option linter.unusedVariables false
structure ViewD (ids : List Nat) (st st1 : ASt) : Prop where
  next : st1.next = ids.length
  lt : ∀ (j : Nat) x, st1.h.get j = some x → j < ids.length
  obj : ∀ (j : Nat) x, st1.h.get j = some x → x ≠ .dead → ∃ i a cs cs', ids[j]? = some i ∧ x = .cells cs' false ∧ st.h.get i = some (.cells cs a) ∧ renVs ids cs = some cs'
theorem local_roD {P : Program} {f : Nat} {args args1 : List AV} {st1 st : ASt} {v : AV} (hrun : AtMem P f args1 st1 v) (hp : refsV 0 v) {ids : List Nat} (hview : ViewD ids st st1) (ha : renVs ids args = some args1) : Call1 P f args st (v, st) := by
  intro B w0 ι w args' hsr hargs
  let B1 : Prot := ⟨fun k => k < w.heap.size, fun k => k < w.heap.size, fun _ => False⟩
  have hren : ∀ {j L}, renR ids ι j = some L → ∃ i, ids[j]? = some i ∧ ι i = some L := fun {j L} h => by
    unfold renR at h
    cases hi : ids[j]? with
    | none => rw [hi] at h; cases h
    | some i => rw [hi] at h; exact ⟨i, rfl, h⟩
  have hsr1 : SR B1 w (renR ids ι) st1 w := by
    refine ⟨Keeps.refl _ _, ?_, fun j x hj hd => ?_, fun j x L hj ho hL => ?_, fun j L hL => ?_, fun j x hj => ?_, fun j x L hj hd ho hL => ?_, fun i hi => hi.elim, fun g cs hg => ⟨.inr (hsr.globw g cs hg).lt, hsr.globw g cs hg⟩⟩
    · rintro k (hk | hk) <;> exact hk
    · obtain ⟨i, a, cs, cs', h1, rfl, h2, h3⟩ := hview.obj j x hj hd
      obtain ⟨L, o, k1, k2, k3⟩ := hsr.obj i _ h2 (by simp)
      refine ⟨L, o, by simp only [renR, h1, k1], k2, ?_⟩
      obtain ⟨g1, g2⟩ := renVs_get h3
      obtain ⟨c, e, lo, hi, q1, q2, q3, q4, q5, q6⟩ := k3
      refine ⟨c, e, lo, hi, q1, q2, by rw [g1]; exact q3, fun y hy => ?_, fun k y y' hy hy' => ?_, fun h => by cases h⟩
      · obtain ⟨n, hn, en⟩ := List.getElem_of_mem hy
        obtain ⟨z, h5, h6⟩ := g2 n y (by simp [hn, en])
        exact renV_cell h6 (q4 z (List.mem_of_getElem? h5))
      · obtain ⟨z, h5, h6⟩ := g2 k y hy
        exact (q5 k z y' h5 hy').ren y h6
    · by_cases hd : x = .dead
      · subst hd; cases ho
      · obtain ⟨i, a, cs, cs', h1, rfl, h2, h3⟩ := hview.obj j x hj hd
        cases ho
    · obtain ⟨i, h1, h2⟩ := hren hL
      rw [hview.next]; exact (List.getElem?_eq_some_iff.1 h1).1
    · rw [hview.next]; exact hview.lt j x hj
    · obtain ⟨i, a, cs, cs', h1, rfl, h2, h3⟩ := hview.obj j x hj hd
      obtain ⟨i', h1', hL'⟩ := hren hL
      obtain ⟨L0, o, k1, k2, k3⟩ := hsr.obj i' (.cells cs a) (by rw [h1] at h1'; cases h1'; exact h2) (by simp)
      rw [k1] at hL'; cases hL'
      exact (Array.getElem?_eq_some_iff.1 k2).1
  have hv1 : VRs (renR ids ι) args1 args' := by
    obtain ⟨g1, g2⟩ := renVs_get ha
    refine ⟨g1.trans hargs.size, fun k y y' hy hy' => ?_⟩
    obtain ⟨z, h5, h6⟩ := g2 k y hy
    exact (hargs.at_ k z y' h5 hy').ren y h6
  obtain ⟨k1, k2⟩ := hrun B1 w (renR ids ι) w args' (fun _ h => h) hsr1 hv1
  refine ⟨k1, k2.mono ?_⟩
  rintro e w' ⟨r, rfl, x, ι', rfl, _, h9, h10⟩
  exact ⟨x, ι, rfl, ι.le_refl, hsr.later ⟨h9.below.os, h9.below.tape, h9.below.output, h9.below.size, fun k hk => h9.below.block k (.inl hk)⟩, h10.noRef hp⟩
end Go.Proofs.Ytidmijpfoodkoaa.gho
end

section
open Go Go.Ax Go.Proofs
namespace Go.Proofs.Ytidmijpfoodkoaa.gho
set_option linter.unusedVariables false
def Xf : List Int → AO
  | [] => .dead
  | x :: e => .cells ((x :: e).map gU) false
section
variable {e e2 : List Int} {n k m m2 i : Nat} {S : ASt} {r : Int}
theorem sgV_row (h : e ≠ [] → ∃ rw, S.h.get k = some (.cells (e.map gU) rw)) : SlV S (sgV k e m) (e.take m) := by
  cases e with
  | nil => rw [List.take_nil]; exact .nil
  | cons x e =>
    obtain ⟨rw', h⟩ := h (by simp)
    have hl : Nat.min (x :: e).length m = ((x :: e).take m).length := by rw [List.length_take, Nat.min_comm]
    show SlV S (.slice (some (k, 0)) (Nat.min (x :: e).length m) (.rest 1)) _
    rw [hl]
    refine .row h ?_
    unfold takeL
    rw [List.drop_zero, List.length_take, ← List.map_take]
    simp
noncomputable abbrev SJ (e e2 : List Int) (m2 : Nat) : ASt := SI (Xf e) (sgV 2 e2 m2) (Xf e2)
theorem lenS : aBuiltinM ES .len [57] [sgV k e m] S = some (.int .i64 (.ofNat (e.take m).length), S) := by
  cases e with
  | nil =>
    rw [List.take_nil]
    show aBuiltinM ES .len [57] [nilA] S = some (.int .i64 (.ofNat 0), S)
    kernel_rfl
  | cons x e =>
    have hl : ((x :: e).take m).length = Nat.min (x :: e).length m := by rw [List.length_take, Nat.min_comm]
    rw [hl]
    show aBuiltinM ES .len [57] [.slice (some (k, 0)) (Nat.min (x :: e).length m) (.rest 1)] S = _
    generalize Nat.min (x :: e).length m = w
    kernel_rfl
def inT (e2 : List Int) (m2 : Nat) (r : Int) : Bool := (e2.take m2).any (eqF r)
theorem con44 (hl : e2.length < 100000) {w : Bool} (hw : inT e2 m2 r = w) : Call1 Try.prog 44 [sgV 2 e2 m2, .int .u64 r] (SJ e e2 m2) (.bool w, SJ e e2 m2) := by
  rw [← hw]
  refine contains_any (sgV_row fun hne => ?_) (by rw [List.length_take]; omega)
  cases e2 with
  | nil => exact absurd rfl hne
  | cons x e2 => exact ⟨false, by kernel_rfl⟩
def QI1 (e e2 : List Int) (m m2 i : Nat) (q : Exit × AFr × ASt) : Prop := ((∃ r, (e.take m)[i]? = some r ∧ inT e2 m2 r = false) ∧ Stops 3 .normal (fr57 (sgV 0 e m) (e.take m).length (i + 1)) (SJ e e2 m2) q) ∨ (i = (e.take m).length ∧ Stops 3 (.exit 0) (fr57 (sgV 0 e m) (e.take m).length i) (SJ e e2 m2) q)
def QI2 (e e2 : List Int) (m m2 i : Nat) (q : Exit × Option AV) : Prop := q.1 = .ret ∧ (∃ r, (e.take m)[i]? = some r ∧ inT e2 m2 r = true) ∧ q.2 = some (nI i)
def QIL (e e2 : List Int) (m m2 i : Nat) (q : Exit × AFr × ASt) : Prop := (q.1 = .ret ∧ (∃ r, (e.take m)[i]? = some r ∧ inT e2 m2 r = true) ∧ ans (leaveA ES Try.f57 q.2.1 q.2.2) = some (nI i)) ∨ QI1 e e2 m m2 i q
theorem roundI (hl : e.length < 100000) (hl2 : e2.length < 100000) (hi : i ≤ (e.take m).length) : Trip Try.prog 3 none L57 (fr57 (sgV 0 e m) (e.take m).length i) (SJ e e2 m2) (QIL e e2 m m2 i) := by
  have htl : (e.take m).length < 100000 := by rw [List.length_take]; omega
  have fin : ∀ q : Exit × AFr × ASt, q.1 ≠ .ret → QI1 e e2 m m2 i (canR [0, 1, 4, 7, 8] KO460 q) → QIL e e2 m m2 i q := fun q _ h => .inr (h.imp (fun h => ⟨h.1, h.2.can⟩) (fun h => ⟨h.1, h.2.can⟩))
  have fin2 : ∀ q : Exit × AFr × ASt, q.1 = .ret → QI2 e e2 m m2 i (.ret, ans (leaveA ES Try.f57 q.2.1 q.2.2)) → QIL e e2 m m2 i q := fun q h1 h => .inl ⟨h1, h.2.1, h.2.2⟩
  by_cases e' : i < (e.take m).length
  · obtain ⟨r, hr⟩ : ∃ r, (e.take m)[i]? = some r := ⟨_, List.getElem?_eq_getElem e'⟩
    have hne : e ≠ [] := by rintro rfl; simp at e'
    have hre : e[i]? = some r := by rw [List.getElem?_take] at hr; split at hr; · exact hr
                                    · cases hr
    have hidx : still (SJ e e2 m2) (aIndexAddr ES 57 (sgV 0 e m) (.int .i64 (.ofNat i))) = some (.ptr (some (0, i)), SJ e e2 m2) := by
      cases e with
      | nil => exact absurd rfl hne
      | cons x e => exact uidx (by kernel_rfl) (by rw [List.length_take, Nat.min_comm] at e'; exact e')
    have hld : aLoad ES 48 (.ptr (some (0, i))) (SJ e e2 m2) = some (.int .u64 r, SJ e e2 m2) := by
      cases e with
      | nil => exact absurd rfl hne
      | cons x e => exact uload (rw := false) (cs := (x :: e).map gU) (by kernel_rfl) (by kernel_rfl) (urow hre)
    cases hc : inT e2 m2 r with
    | true =>
      exact Trip.runM ESok (sum := onlyC [44] (tabC [_])) (onlyC_ok (tabC_ok fun w he => by
        simp only [List.mem_cons, List.not_mem_nil, or_false] at he
        subst he; exact con44 (e := e) hl2 hc)) (Eq.mp (vcIf (tabC [_]) (sgV 0 e m) (sgV 2 e2 m2) (Xf e) (Xf e2) (e.take m).length i i r (QI1 e e2 m m2 i) (QI2 e e2 m m2 i)) (ifB_mk (fun _ => ⟨hidx, hld, call_at (onlyC_at rfl (tabC_hd ..)), rfl, ⟨r, hr, hc⟩, rfl⟩) fun h => nlt' e' h)) fin2 fin
    | false =>
      refine Trip.runM ESok (sum := onlyC [44] (tabC [_])) (onlyC_ok (tabC_ok fun w he => by
        simp only [List.mem_cons, List.not_mem_nil, or_false] at he
        subst he; exact con44 (e := e) hl2 hc)) (Eq.mp (vcIn (tabC [_]) (sgV 0 e m) (sgV 2 e2 m2) (Xf e) (Xf e2) (e.take m).length i i r (QI1 e e2 m m2 i) (QI2 e e2 m m2 i)) (ifB_mk (fun _ => ⟨hidx, hld, call_at (onlyC_at rfl (tabC_hd ..)), .inl ⟨⟨r, hr, hc⟩, rfl, ?_⟩⟩) fun h => nlt' e' h)) fin2 fin
      rw [wI e' (by omega)]; exact Wk.refl _ _ _
  · have ek : i = (e.take m).length := by omega
    refine Trip.runM ESok (sum := onlyC [44] (tabC [])) (onlyC_ok (tabC_ok fun w he => by cases he)) (Eq.mp (vcIn (tabC []) (sgV 0 e m) (sgV 2 e2 m2) (Xf e) (Xf e2) (e.take m).length i i 0 (QI1 e e2 m m2 i) (QI2 e e2 m m2 i)) (ifB_mk (fun h => ?_) fun _ => .inr ⟨ek, rfl, Wk.refl _ _ _⟩)) fin2 fin
    rw [ltF_nn] at h
    exact absurd (of_decide_eq_true h) e'
def QZS (f : Func) (z : Int) (q : Exit × AFr × ASt) : Prop := (q.1 = .normal ∨ q.1 = .ret) ∧ ans (leaveA ES f q.2.1 q.2.2) = some (.int .i64 z)
theorem shape57 : c57 = .seq (seqL c57) (.seq (.seq (seqL (seqL (dropC 0 c57))) (.block 0 (.loop L57))) (dropC 1 c57)) := by kernel_rfl
theorem at57 (hl : e.length < 100000) (hl2 : e2.length < 100000) : AtMem Try.prog 57 [sgV 0 e m, .clos 50 [pO 1]] (SJ e e2 m2) (.int .i64 (idxP (inT e2 m2) (e.take m))) := by
  refine AtMem.of_trip ESok (fn := Try.f57) (by kernel_rfl) (c := c57) (by kernel_rfl) (by kernel_rfl) ?_
  have hfr : ({ m := putArgs [sgV 0 e m, .clos 50 [pO 1]] 0 .e, n := Try.f57.ntmps, defs := [] } : AFr) = { m := putArgs [sgV 0 e m, .clos 50 [pO 1]] 0 .e, n := 19, defs := [] } := by kernel_rfl
  rw [hfr, shape57]
  refine Trip.seqC ESok noSum_ok (n := 60) [0, 1, 4] [0, 1, 2] (F := xFr [(0, sgV 0 e m), (1, .clos 50 [pO 1]), (4, nI 0)] 19) (S := SJ e e2 m2) (by kernel_rfl) ?_
  refine Trip.seq (R := fun q => (q.1 ≠ .normal ∧ QZS Try.f57 (idxP (inT e2 m2) (e.take m)) q) ∨ ((∀ j r, j < (e.take m).length → (e.take m)[j]? = some r → inT e2 m2 r = false) ∧ Stops 3 .normal (fr57 (sgV 0 e m) (e.take m).length (e.take m).length) (SJ e e2 m2) q))
    (Trip.seq (R := fun q => canR [0, 1, 4, 7, 8] KO460 q = (.normal, fr57 (sgV 0 e m) (e.take m).length 0, vcIa_s0 (sgV 2 e2 m2) (Xf e) (Xf e2))) (Trip.runY ESok (sum := onlyC [44] (tabC [])) (onlyC_ok (tabC_ok fun w he => by cases he)) (Eq.mp (vcIa (tabC []) (sgV 0 e m) (sgV 2 e2 m2) (Xf e) (Xf e2) (e.take m).length (fun q => q = (.normal, fr57 (sgV 0 e m) (e.take m).length 0, vcIa_s0 (sgV 2 e2 m2) (Xf e) (Xf e2)))) ⟨lenS, rfl⟩)) (fun fr' st' hq => ?_) (fun w fr' st' hne hq => absurd (congrArg Prod.fst hq) hne)) (fun fr' st' hq => ?_) (fun w fr' st' hne hq => ?_)
  · simp only [canR, Prod.mk.injEq, true_and] at hq
    obtain ⟨q1, q2⟩ := hq
    refine Trip.less (Wk.can 3 [0, 1, 4, 7, 8] KO460 fr' st') ?_
    rw [q1, q2]
    refine Trip.block (Trip.loop (fun μ fr st => ∃ k, k ≤ (e.take m).length ∧ μ = (e.take m).length - k ∧ (∀ j r, j < k → (e.take m)[j]? = some r → inT e2 m2 r = false) ∧ fr = fr57 (sgV 0 e m) (e.take m).length k ∧ st = SJ e e2 m2) ?_ (e.take m).length ⟨0, by omega, by omega, fun j r hj => absurd hj (by omega), rfl, by kernel_rfl⟩)
    rintro μ fr st ⟨k, hk, rfl, h0, rfl, rfl⟩
    refine (roundI hl hl2 hk).mono ?_
    rintro ⟨x, fr', st'⟩ (⟨h1, ⟨r, h2, h3⟩, h4⟩ | ⟨⟨r, h2, h3⟩, h4, h5⟩ | ⟨h2, h4, h5⟩)
    · simp only at h1
      subst h1
      refine .inl ⟨by simp, .inr rfl, ?_⟩
      rw [idx_found (p := inT e2 m2) h0 h2 h3]; exact h4
    · simp only at h4
      subst h4
      have hk2 : k < (e.take m).length := (List.getElem?_eq_some_iff.1 h2).1
      refine ⟨(e.take m).length - (k + 1), _, _, by omega, h5, k + 1, by omega, rfl, fun j r' hj hr' => ?_, rfl, rfl⟩
      by_cases ee : j = k
      · subst ee; rw [h2] at hr'; cases hr'; exact h3
      · exact h0 j r' (by omega) hr'
    · simp only at h4
      subst h4
      subst h2
      exact ⟨fun _ => .inr ⟨h0, rfl, h5⟩, fun h => absurd rfl h⟩
  · rcases hq with ⟨h1, _⟩ | ⟨h0, h1, h2⟩
    · exact absurd rfl h1
    · refine Trip.less h2 ((Trip.runY ESok noSum_ok (Eq.mp (vcIz (sgV 0 e m) (sgV 2 e2 m2) (Xf e) (Xf e2) (e.take m).length (fun q => q = (.ret, some (.int .i64 (.negSucc 0))))) rfl)).mono fun q hq => ⟨.inr (congrArg Prod.fst hq), ?_⟩)
      rw [idx_none (p := inT e2 m2) h0]
      exact congrArg Prod.snd hq
  · rcases hq with ⟨_, h1⟩ | ⟨_, h1, _⟩
    · exact h1
    · exact absurd h1 hne
end
end Go.Proofs.Ytidmijpfoodkoaa.gho
end

section
open Go Go.Ax Go.Proofs
namespace Go.Proofs.Ytidmijpfoodkoaa.gho
set_option linter.unusedVariables false
section
variable {e e2 : List Int} {n k k0 k1 k2 m m2 i N : Nat} {S : ASt} {r a b p q : Int} {l : List (Int × Int)} {c : Cap} {cs : List AV} {w : Bool}
theorem sgV_ren {ids : List Nat} {j : Nat} (h : idxN ids k 0 = some j) : renV ids (sgV k e m) = some (sgV j e m) := by
  cases e with
  | nil => rfl
  | cons x e => simp [sgV, renV, h]
theorem viewJ {ids : List Nat} (hids : ids = [k0, k1, k2]) (h2 : idxN ids k2 0 = some 2) (g0 : e ≠ [] → ∃ rw, S.h.get k0 = some (.cells (e.map gU) rw)) (g1 : ∃ rw, S.h.get k1 = some (.cells [sgV k2 e2 m2] rw)) (g2 : e2 ≠ [] → ∃ rw, S.h.get k2 = some (.cells (e2.map gU) rw)) : ViewD ids S (SJ e e2 m2) := by
  have hrow : ∀ {e : List Int}, renVs ids (e.map gU) = some (e.map gU) := fun {e} => by
    induction e with
    | nil => rfl
    | cons x e ih => simp only [List.map_cons, renVs, ih]; rfl
  subst hids
  refine ⟨rfl, fun j x hj => ?_, fun j x hj hd => ?_⟩
  · rcases get3 hj with ⟨rfl, rfl⟩ | ⟨rfl, rfl⟩ | ⟨rfl, rfl⟩ <;> simp
  · rcases get3 hj with ⟨rfl, rfl⟩ | ⟨rfl, rfl⟩ | ⟨rfl, rfl⟩
    · cases e with
      | nil => exact absurd rfl hd
      | cons y e =>
        obtain ⟨rw', g0⟩ := g0 (by simp)
        exact ⟨k0, rw', _, _, rfl, rfl, g0, hrow⟩
    · obtain ⟨rw', g1⟩ := g1
      refine ⟨k1, rw', _, _, rfl, rfl, g1, ?_⟩
      simp only [renVs, sgV_ren h2]
    · cases e2 with
      | nil => exact absurd rfl hd
      | cons y e2 =>
        obtain ⟨rw', g2⟩ := g2 (by simp)
        exact ⟨k2, rw', _, _, rfl, rfl, g2, hrow⟩
theorem rowX (hne : e ≠ []) : ∃ rw, (SJ e e2 m2).h.get 0 = some (.cells (e.map gU) rw) := by
  cases e with
  | nil => exact absurd rfl hne
  | cons x e => exact ⟨false, by kernel_rfl⟩
theorem rowX2 (hne : e2 ≠ []) : ∃ rw, (SJ e e2 m2).h.get 2 = some (.cells (e2.map gU) rw) := by
  cases e2 with
  | nil => exact absurd rfl hne
  | cons x e2 => exact ⟨false, by kernel_rfl⟩
theorem at51 (hl : e.length < 100000) (hl2 : e2.length < 100000) : AtMem Try.prog 51 [sgV 0 e m, .clos 50 [pO 1]] (SJ e e2 m2) (.bool ((e.take m).any (inT e2 m2))) := by
  have hv : ViewD [0, 1, 2] (SJ e e2 m2) (SJ e e2 m2) := viewJ (k0 := 0) (k1 := 1) (k2 := 2) rfl rfl rowX ⟨false, by kernel_rfl⟩ rowX2
  have hc : Call1 Try.prog 57 [sgV 0 e m, .clos 50 [pO 1]] (SJ e e2 m2) (.int .i64 (idxP (inT e2 m2) (e.take m)), SJ e e2 m2) :=
    local_roD (at57 hl hl2) (by simp [refsV]) hv (by simp only [renVs, sgV_ren (show idxN [0, 1, 2] 0 0 = some 0 from rfl)]; rfl)
  rw [← idx_any]
  exact AtMem.of_tm ESok (sum := onlyC [57] (tabC [_])) (onlyC_ok (tabC_ok fun w he => by
      simp only [List.mem_cons, List.not_mem_nil, or_false] at he
      subst he; exact hc)) (Eq.mp (vcIc (tabC [_]) (sgV 0 e m) (sgV 2 e2 m2) (Xf e) (Xf e2) (idxP (inT e2 m2) (e.take m)) (fun q => q.1 = .bool (!ltF (idxP (inT e2 m2) (e.take m)) (.ofNat 0)))) ⟨call_at (onlyC_at rfl (tabC_hd ..)), rfl⟩)
theorem contF_at (hl : e.length < 100000) (hl2 : e2.length < 100000) (h0 : idxN [k0, k1, k2] k0 0 = some 0) (h1 : idxN [k0, k1, k2] k1 0 = some 1) (h2 : idxN [k0, k1, k2] k2 0 = some 2)
    (g0 : e ≠ [] → ∃ rw, S.h.get k0 = some (.cells (e.map gU) rw)) (g1 : ∃ rw, S.h.get k1 = some (.cells [sgV k2 e2 m2] rw)) (g2 : e2 ≠ [] → ∃ rw, S.h.get k2 = some (.cells (e2.map gU) rw)) (hw : (e.take m).any (inT e2 m2) = w) :
    Call1 Try.prog 51 [sgV k0 e m, .clos 50 [.ptr (some (k1, 0))]] S (.bool w, S) := by
  rw [← hw]
  exact local_roD (at51 hl hl2) (by simp [refsV]) (viewJ rfl h2 g0 g1 g2) (by simp only [renVs, sgV_ren h0, renV, h1]; rfl)
theorem tree_sameN (N : Nat) (hN : 3 ≤ N) {f : Nat} {args : List AV} {Q1 : AV × ASt → Prop} {ot : List (Nat × AO)} {v : AV} (hS : TreeAt S l n c cs)
    (hrun : ∀ B w0 ι W args', (∀ i, ¬ B.rs i) → SR B w0 ι (TR l n c cs) W → VRs ι args args' → (callFunc f args').run Try.prog W = .ok (.enter f args') W ∧ CallsIn Fence.wide 0 Try.prog f args' W fun e w' => ∃ v, Q1 v ∧ Post B w0 ι v e w')
    (hargs : ∀ v, v ∈ args → renV (List.range 3) v = some v)
    (hb : ∀ q, Q1 q → BackV (gK 3 S.next) q.1 v ∧ q.2.next ≤ N ∧ q.2.h.get 0 = some (tO (vR n c)) ∧ q.2.h.get 1 = some (mO l) ∧ q.2.h.get 2 = some (.cells cs true) ∧
      ∀ p, p ∈ ot → 3 ≤ p.1 ∧ p.1 < N ∧ (p.2 = .dead ∨ p.2.own = true ∧ ∃ a, q.2.h.get p.1 = some a ∧ BackO (gK 3 S.next) a p.2)) :
    Call1 Try.prog f args S (v, outS (gK 3 S.next) ((0, tO (vR n c)) :: (1, mO l) :: (2, .cells cs true) :: ot) S (S.next + N)) := by
  refine Call1.same (S := S) 3 3 (Nat.le_refl 3) hrun rfl (fun j hj => ?_) (fun j x hj => ?_) hargs fun q hq => ?_
  · match j, hj with
    | 0, _ => exact ⟨_, hS.t, by simp [tO]⟩
    | 1, _ => exact ⟨_, hS.m, by simp [mO]⟩
    | 2, _ => exact ⟨_, hS.r, by simp⟩
  · rcases get3 hj with ⟨rfl, rfl⟩ | ⟨rfl, rfl⟩ | ⟨rfl, rfl⟩
    · exact ⟨by decide, fun _ => ⟨by decide, hS.t, .of (by kernel_rfl)⟩⟩
    · exact ⟨by decide, fun _ => ⟨by decide, hS.m, mO_ren⟩⟩
    · exact ⟨by decide, fun _ => ⟨by decide, hS.r, .row hS.refs⟩⟩
  · obtain ⟨b1, b2, b3, b4, b5, b6⟩ := hb q hq
    refine ⟨b1, by omega, by omega, fun p hp => ?_, fun j x hj ho => ?_⟩
    · rcases List.mem_cons.1 hp with rfl | hp
      · exact ⟨(by show 0 < S.next + N; omega), .inl (by show 0 < 3; decide), fun _ => ⟨_, (by kernel_rfl : _ = some (tO (vR n c))), rfl⟩, .inr ⟨rfl, _, b3, tO_back⟩⟩
      · rcases List.mem_cons.1 hp with rfl | hp
        · exact ⟨(by show 1 < S.next + N; omega), .inl (by show 1 < 3; decide), fun _ => ⟨_, (by kernel_rfl : _ = some (mO l)), rfl⟩, .inr ⟨rfl, _, b4, mO_back⟩⟩
        · rcases List.mem_cons.1 hp with rfl | hp
          · exact ⟨(by show 2 < S.next + N; omega), .inl (by show 2 < 3; decide), fun _ => ⟨_, (by kernel_rfl : _ = some (.cells cs true)), rfl⟩, .inr ⟨rfl, _, b5, .row hS.refs⟩⟩
          · obtain ⟨c1, c2, c3⟩ := b6 p hp
            have hg : gK 3 S.next p.1 = S.next + p.1 := by
              unfold gK
              cases h : Nat.blt p.1 3 with
              | false => rfl
              | true => rw [Nat.blt_eq] at h; omega
            exact ⟨by rw [hg]; omega, .inr c1, fun h => absurd h (by omega), c3⟩
    · rcases get3 hj with ⟨rfl, rfl⟩ | ⟨rfl, rfl⟩ | ⟨rfl, rfl⟩
      · exact ⟨_, List.mem_cons_self, rfl⟩
      · exact ⟨_, List.mem_cons_of_mem _ List.mem_cons_self, rfl⟩
      · exact ⟨_, List.mem_cons_of_mem _ (List.mem_cons_of_mem _ List.mem_cons_self), rfl⟩
structure Ln where
  now : Int
  bef : Int
  o0 : Int
  o1 : Int
def Ln.av (x : Ln) : AV := ln x.now x.bef x.o0 x.o1
def Ln.eld (x : Ln) : List Int := gho.eld [x.bef, x.o0, x.o1]
def sgt (l : List (Int × Int)) (x : Ln) : List Int := (up l x.now).take x.eld.length
def saysV (l : List (Int × Int)) (x y : Ln) : Nat :=
  bif eqF x.now (.ofNat 0) then (bif eqF y.now (.ofNat 0) then 1 else 2) else bif eqF y.now (.ofNat 0) then 3 else bif eqF x.now y.now then 4 else
  bif inT (up l y.now) y.eld.length x.now then 5 else bif inT (up l x.now) x.eld.length y.now then 6 else bif (sgt l x).any (inT (up l y.now) y.eld.length) then 7 else 8
theorem row_of {u : List Int} (h : S.h.get k = some (Ux u)) : u ≠ [] → ∃ rw, S.h.get k = some (.cells (u.map gU) rw) := fun hne => by
  cases u with
  | nil => exact absurd rfl hne
  | cons x u => exact ⟨true, h⟩
theorem con_sg {u : List Int} (hl : u.length < 100000) (h : S.h.get k = some (Ux u)) (hw : inT u m r = w) : Call1 Try.prog 44 [sgV k u m, .int .u64 r] S (.bool w, S) := by
  rw [← hw]
  exact contains_any (sgV_row (row_of h)) (by rw [List.length_take]; omega)
theorem eqS_b {t ty : Nat} {x : Operand} {kd : IntKind} {w : Bool} (h : ∀ z : Int, aBin ES .eql ty (.tmp t) x (.int kd z) (.int kd (.ofNat 0)) = some (.bool (eqF z (.ofNat 0)))) (hw : eqF p (.ofNat 0) = w) : still S (aBin ES .eql ty (.tmp t) x (.int kd p) (.int kd (.ofNat 0))) = some (.bool w, S) := by
  rw [h, hw]; rfl
theorem eqS_2 {w : Bool} (hw : eqF a b = w) : still S (aBin ES .eql 48 (.tmp 36) (.tmp 38) (.int .u64 a) (.int .u64 b)) = some (.bool w, S) := by
  have h : aBin ES .eql 48 (.tmp 36) (.tmp 38) (.int .u64 a) (.int .u64 b) = some (.bool (eqF a b)) := by kernel_rfl
  rw [h, hw]; rfl
theorem sgV_form {u : List Int} : sgV k u m = nilA ∨ ∃ n, sgV k u m = .slice (some (k, 0)) n (.rest 1) := by
  cases u with
  | nil => exact .inl rfl
  | cons x u => exact .inr ⟨_, rfl⟩
theorem ln_self {a p q r : Int} : avEq (.agg [.int .u64 a, .int .u64 p, .int .u64 q, .int .u64 r]) (.agg [.int .u64 a, .int .u64 p, .int .u64 q, .int .u64 r]) = true := by simp [avEq, avsEq]
def QS (l : List (Int × Int)) (n : Nat) (c : Cap) (cs : List AV) (v : Nat) (w : AV × ASt) : Prop := w.1 = .int .i64 (.ofNat v) ∧ w.2.next ≤ 500 ∧ w.2.h.get 0 = some (tO (vR n c)) ∧ w.2.h.get 1 = some (mO l) ∧ w.2.h.get 2 = some (.cells cs true)
theorem saysR1 {x y : Ln} (hS : TreeAt S l n c cs) (hT : TreeOk l) (hlx : (up l x.now).length < 90000) (hly : (up l y.now).length < 90000) (ha : eqF x.now (.ofNat 0) = true) (hb : eqF y.now (.ofNat 0) = true) (B : Prot) (w0 : World) (ι : Ren) (W : World) (args' : Array Value) (hB : ∀ i, ¬ B.rs i) (hsr : SR B w0 ι (TR l n c cs) W) (hv : VRs ι [pO 0, x.av, y.av] args') :
    (callFunc 33 args').run Try.prog W = .ok (.enter 33 args') W ∧ CallsIn Fence.wide 0 Try.prog 33 args' W fun e w' => ∃ v, QS l n c cs 1 v ∧ Post B w0 ι v e w' := by
  have c1 : Call1 Try.prog 49 [.ptr (some (0, 0)), x.av] (vcY1_s0 (vR n c) (mO l) (.cells cs true) x.now x.bef x.o0 x.o1 y.now y.bef y.o0 y.o1) ((sgV 31 (up l x.now) x.eld.length), vcY1_s1 (vR n c) (mO l) (.cells cs true) x.now x.bef x.o0 x.o1 y.now y.bef y.o0 y.o1 (Ux (up l x.now))) :=
    Call1.mem (by kernel_rfl) (sight_at (n := n) (c := c) (S := vcY1_s0 (vR n c) (mO l) (.cells cs true) x.now x.bef x.o0 x.o1 y.now y.bef y.o0 y.o1) (a := x.now) (p := x.bef) (q := x.o0) (r := x.o1) ⟨by kernel_rfl, by kernel_rfl, by kernel_rfl, hS.refs⟩ hT hlx)
  have c2 : Call1 Try.prog 49 [.ptr (some (0, 0)), y.av] (vcY1_s1 (vR n c) (mO l) (.cells cs true) x.now x.bef x.o0 x.o1 y.now y.bef y.o0 y.o1 (Ux (up l x.now))) ((sgV 231 (up l y.now) y.eld.length), vcY1_s2 (vR n c) (mO l) (.cells cs true) x.now x.bef x.o0 x.o1 y.now y.bef y.o0 y.o1 (Ux (up l x.now)) (Ux (up l y.now))) :=
    Call1.mem (by kernel_rfl) (sight_at (n := n) (c := c) (S := vcY1_s1 (vR n c) (mO l) (.cells cs true) x.now x.bef x.o0 x.o1 y.now y.bef y.o0 y.o1 (Ux (up l x.now))) (a := y.now) (p := y.bef) (q := y.o0) (r := y.o1) ⟨by kernel_rfl, by kernel_rfl, by kernel_rfl, hS.refs⟩ hT hly)
  have hst : Option.map (fun s => (undefA, s)) (aStore ES 57 (.ptr (some (11, 0))) (sgV 231 (up l y.now) y.eld.length) (vcY1_s3 (vR n c) (mO l) (.cells cs true) x.now x.bef x.o0 x.o1 y.now y.bef y.o0 y.o1 (Ux (up l x.now)) (Ux (up l y.now)))) = some (.tuple [], vcY1_s4 (vR n c) (mO l) (.cells cs true) x.now x.bef x.o0 x.o1 y.now y.bef y.o0 y.o1 (sgV 231 (up l y.now) y.eld.length) (Ux (up l x.now)) (Ux (up l y.now))) := by
    rcases sgV_form (k := 231) (u := up l y.now) (m := y.eld.length) with h | ⟨z, h⟩
    · rw [h]; kernel_rfl
    · rw [h]; kernel_rfl
  exact run_of_tm ESok (sum := onlyC [44, 49, 51] (tabC [_, _])) (onlyC_ok (tabC_ok fun w he => by
    simp only [List.mem_cons, List.not_mem_nil, or_false] at he
    rcases he with rfl | rfl
    · exact c1
    · exact c2)) (Eq.mp (vcY1 (tabC [_, _]) (vR n c) (mO l) (.cells cs true) x.now x.bef x.o0 x.o1 y.now y.bef y.o0 y.o1 (sgV 31 (up l x.now) x.eld.length) (sgV 231 (up l y.now) y.eld.length) (Ux (up l x.now)) (Ux (up l y.now)) (QS l n c cs 1))
    ⟨call_at (onlyC_at rfl (tabC_hd ..)), call_at (onlyC_at rfl ((tabC_tln rfl).trans (tabC_hd ..))), hst, ⟨⟨rfl, ln_self⟩, trivial⟩, eqS_b (fun z => by kernel_rfl) ha, eqS_b (fun z => by kernel_rfl) hb, ⟨rfl, Nat.le_of_ble_eq_true (by kernel_rfl), by kernel_rfl, by kernel_rfl, by kernel_rfl⟩⟩) B w0 ι W args' hsr hv
theorem saysR2 {x y : Ln} (hS : TreeAt S l n c cs) (hT : TreeOk l) (hlx : (up l x.now).length < 90000) (hly : (up l y.now).length < 90000) (ha : eqF x.now (.ofNat 0) = true) (hb : eqF y.now (.ofNat 0) = false) (B : Prot) (w0 : World) (ι : Ren) (W : World) (args' : Array Value) (hB : ∀ i, ¬ B.rs i) (hsr : SR B w0 ι (TR l n c cs) W) (hv : VRs ι [pO 0, x.av, y.av] args') :
    (callFunc 33 args').run Try.prog W = .ok (.enter 33 args') W ∧ CallsIn Fence.wide 0 Try.prog 33 args' W fun e w' => ∃ v, QS l n c cs 2 v ∧ Post B w0 ι v e w' := by
  have c1 : Call1 Try.prog 49 [.ptr (some (0, 0)), x.av] (vcY2_s0 (vR n c) (mO l) (.cells cs true) x.now x.bef x.o0 x.o1 y.now y.bef y.o0 y.o1) ((sgV 31 (up l x.now) x.eld.length), vcY2_s1 (vR n c) (mO l) (.cells cs true) x.now x.bef x.o0 x.o1 y.now y.bef y.o0 y.o1 (Ux (up l x.now))) :=
    Call1.mem (by kernel_rfl) (sight_at (n := n) (c := c) (S := vcY2_s0 (vR n c) (mO l) (.cells cs true) x.now x.bef x.o0 x.o1 y.now y.bef y.o0 y.o1) (a := x.now) (p := x.bef) (q := x.o0) (r := x.o1) ⟨by kernel_rfl, by kernel_rfl, by kernel_rfl, hS.refs⟩ hT hlx)
  have c2 : Call1 Try.prog 49 [.ptr (some (0, 0)), y.av] (vcY2_s1 (vR n c) (mO l) (.cells cs true) x.now x.bef x.o0 x.o1 y.now y.bef y.o0 y.o1 (Ux (up l x.now))) ((sgV 231 (up l y.now) y.eld.length), vcY2_s2 (vR n c) (mO l) (.cells cs true) x.now x.bef x.o0 x.o1 y.now y.bef y.o0 y.o1 (Ux (up l x.now)) (Ux (up l y.now))) :=
    Call1.mem (by kernel_rfl) (sight_at (n := n) (c := c) (S := vcY2_s1 (vR n c) (mO l) (.cells cs true) x.now x.bef x.o0 x.o1 y.now y.bef y.o0 y.o1 (Ux (up l x.now))) (a := y.now) (p := y.bef) (q := y.o0) (r := y.o1) ⟨by kernel_rfl, by kernel_rfl, by kernel_rfl, hS.refs⟩ hT hly)
  have hst : Option.map (fun s => (undefA, s)) (aStore ES 57 (.ptr (some (11, 0))) (sgV 231 (up l y.now) y.eld.length) (vcY2_s3 (vR n c) (mO l) (.cells cs true) x.now x.bef x.o0 x.o1 y.now y.bef y.o0 y.o1 (Ux (up l x.now)) (Ux (up l y.now)))) = some (.tuple [], vcY2_s4 (vR n c) (mO l) (.cells cs true) x.now x.bef x.o0 x.o1 y.now y.bef y.o0 y.o1 (sgV 231 (up l y.now) y.eld.length) (Ux (up l x.now)) (Ux (up l y.now))) := by
    rcases sgV_form (k := 231) (u := up l y.now) (m := y.eld.length) with h | ⟨z, h⟩
    · rw [h]; kernel_rfl
    · rw [h]; kernel_rfl
  exact run_of_tm ESok (sum := onlyC [44, 49, 51] (tabC [_, _])) (onlyC_ok (tabC_ok fun w he => by
    simp only [List.mem_cons, List.not_mem_nil, or_false] at he
    rcases he with rfl | rfl
    · exact c1
    · exact c2)) (Eq.mp (vcY2 (tabC [_, _]) (vR n c) (mO l) (.cells cs true) x.now x.bef x.o0 x.o1 y.now y.bef y.o0 y.o1 (sgV 31 (up l x.now) x.eld.length) (sgV 231 (up l y.now) y.eld.length) (Ux (up l x.now)) (Ux (up l y.now)) (QS l n c cs 2))
    ⟨call_at (onlyC_at rfl (tabC_hd ..)), call_at (onlyC_at rfl ((tabC_tln rfl).trans (tabC_hd ..))), hst, ⟨⟨rfl, ln_self⟩, trivial⟩, eqS_b (fun z => by kernel_rfl) ha, eqS_b (fun z => by kernel_rfl) hb, eqS_b (fun z => by kernel_rfl) ha, ⟨rfl, Nat.le_of_ble_eq_true (by kernel_rfl), by kernel_rfl, by kernel_rfl, by kernel_rfl⟩⟩) B w0 ι W args' hsr hv
theorem saysR3 {x y : Ln} (hS : TreeAt S l n c cs) (hT : TreeOk l) (hlx : (up l x.now).length < 90000) (hly : (up l y.now).length < 90000) (ha : eqF x.now (.ofNat 0) = false) (hb : eqF y.now (.ofNat 0) = true) (B : Prot) (w0 : World) (ι : Ren) (W : World) (args' : Array Value) (hB : ∀ i, ¬ B.rs i) (hsr : SR B w0 ι (TR l n c cs) W) (hv : VRs ι [pO 0, x.av, y.av] args') :
    (callFunc 33 args').run Try.prog W = .ok (.enter 33 args') W ∧ CallsIn Fence.wide 0 Try.prog 33 args' W fun e w' => ∃ v, QS l n c cs 3 v ∧ Post B w0 ι v e w' := by
  have c1 : Call1 Try.prog 49 [.ptr (some (0, 0)), x.av] (vcY3_s0 (vR n c) (mO l) (.cells cs true) x.now x.bef x.o0 x.o1 y.now y.bef y.o0 y.o1) ((sgV 31 (up l x.now) x.eld.length), vcY3_s1 (vR n c) (mO l) (.cells cs true) x.now x.bef x.o0 x.o1 y.now y.bef y.o0 y.o1 (Ux (up l x.now))) :=
    Call1.mem (by kernel_rfl) (sight_at (n := n) (c := c) (S := vcY3_s0 (vR n c) (mO l) (.cells cs true) x.now x.bef x.o0 x.o1 y.now y.bef y.o0 y.o1) (a := x.now) (p := x.bef) (q := x.o0) (r := x.o1) ⟨by kernel_rfl, by kernel_rfl, by kernel_rfl, hS.refs⟩ hT hlx)
  have c2 : Call1 Try.prog 49 [.ptr (some (0, 0)), y.av] (vcY3_s1 (vR n c) (mO l) (.cells cs true) x.now x.bef x.o0 x.o1 y.now y.bef y.o0 y.o1 (Ux (up l x.now))) ((sgV 231 (up l y.now) y.eld.length), vcY3_s2 (vR n c) (mO l) (.cells cs true) x.now x.bef x.o0 x.o1 y.now y.bef y.o0 y.o1 (Ux (up l x.now)) (Ux (up l y.now))) :=
    Call1.mem (by kernel_rfl) (sight_at (n := n) (c := c) (S := vcY3_s1 (vR n c) (mO l) (.cells cs true) x.now x.bef x.o0 x.o1 y.now y.bef y.o0 y.o1 (Ux (up l x.now))) (a := y.now) (p := y.bef) (q := y.o0) (r := y.o1) ⟨by kernel_rfl, by kernel_rfl, by kernel_rfl, hS.refs⟩ hT hly)
  have hst : Option.map (fun s => (undefA, s)) (aStore ES 57 (.ptr (some (11, 0))) (sgV 231 (up l y.now) y.eld.length) (vcY3_s3 (vR n c) (mO l) (.cells cs true) x.now x.bef x.o0 x.o1 y.now y.bef y.o0 y.o1 (Ux (up l x.now)) (Ux (up l y.now)))) = some (.tuple [], vcY3_s4 (vR n c) (mO l) (.cells cs true) x.now x.bef x.o0 x.o1 y.now y.bef y.o0 y.o1 (sgV 231 (up l y.now) y.eld.length) (Ux (up l x.now)) (Ux (up l y.now))) := by
    rcases sgV_form (k := 231) (u := up l y.now) (m := y.eld.length) with h | ⟨z, h⟩
    · rw [h]; kernel_rfl
    · rw [h]; kernel_rfl
  exact run_of_tm ESok (sum := onlyC [44, 49, 51] (tabC [_, _])) (onlyC_ok (tabC_ok fun w he => by
    simp only [List.mem_cons, List.not_mem_nil, or_false] at he
    rcases he with rfl | rfl
    · exact c1
    · exact c2)) (Eq.mp (vcY3 (tabC [_, _]) (vR n c) (mO l) (.cells cs true) x.now x.bef x.o0 x.o1 y.now y.bef y.o0 y.o1 (sgV 31 (up l x.now) x.eld.length) (sgV 231 (up l y.now) y.eld.length) (Ux (up l x.now)) (Ux (up l y.now)) (QS l n c cs 3))
    ⟨call_at (onlyC_at rfl (tabC_hd ..)), call_at (onlyC_at rfl ((tabC_tln rfl).trans (tabC_hd ..))), hst, ⟨⟨rfl, ln_self⟩, trivial⟩, eqS_b (fun z => by kernel_rfl) ha, eqS_b (fun z => by kernel_rfl) ha, eqS_b (fun z => by kernel_rfl) hb, ⟨rfl, Nat.le_of_ble_eq_true (by kernel_rfl), by kernel_rfl, by kernel_rfl, by kernel_rfl⟩⟩) B w0 ι W args' hsr hv
theorem saysR4 {x y : Ln} (hS : TreeAt S l n c cs) (hT : TreeOk l) (hlx : (up l x.now).length < 90000) (hly : (up l y.now).length < 90000) (ha : eqF x.now (.ofNat 0) = false) (hb : eqF y.now (.ofNat 0) = false) (hE : eqF x.now y.now = true) (B : Prot) (w0 : World) (ι : Ren) (W : World) (args' : Array Value) (hB : ∀ i, ¬ B.rs i) (hsr : SR B w0 ι (TR l n c cs) W) (hv : VRs ι [pO 0, x.av, y.av] args') :
    (callFunc 33 args').run Try.prog W = .ok (.enter 33 args') W ∧ CallsIn Fence.wide 0 Try.prog 33 args' W fun e w' => ∃ v, QS l n c cs 4 v ∧ Post B w0 ι v e w' := by
  have c1 : Call1 Try.prog 49 [.ptr (some (0, 0)), x.av] (vcY4_s0 (vR n c) (mO l) (.cells cs true) x.now x.bef x.o0 x.o1 y.now y.bef y.o0 y.o1) ((sgV 31 (up l x.now) x.eld.length), vcY4_s1 (vR n c) (mO l) (.cells cs true) x.now x.bef x.o0 x.o1 y.now y.bef y.o0 y.o1 (Ux (up l x.now))) :=
    Call1.mem (by kernel_rfl) (sight_at (n := n) (c := c) (S := vcY4_s0 (vR n c) (mO l) (.cells cs true) x.now x.bef x.o0 x.o1 y.now y.bef y.o0 y.o1) (a := x.now) (p := x.bef) (q := x.o0) (r := x.o1) ⟨by kernel_rfl, by kernel_rfl, by kernel_rfl, hS.refs⟩ hT hlx)
  have c2 : Call1 Try.prog 49 [.ptr (some (0, 0)), y.av] (vcY4_s1 (vR n c) (mO l) (.cells cs true) x.now x.bef x.o0 x.o1 y.now y.bef y.o0 y.o1 (Ux (up l x.now))) ((sgV 231 (up l y.now) y.eld.length), vcY4_s2 (vR n c) (mO l) (.cells cs true) x.now x.bef x.o0 x.o1 y.now y.bef y.o0 y.o1 (Ux (up l x.now)) (Ux (up l y.now))) :=
    Call1.mem (by kernel_rfl) (sight_at (n := n) (c := c) (S := vcY4_s1 (vR n c) (mO l) (.cells cs true) x.now x.bef x.o0 x.o1 y.now y.bef y.o0 y.o1 (Ux (up l x.now))) (a := y.now) (p := y.bef) (q := y.o0) (r := y.o1) ⟨by kernel_rfl, by kernel_rfl, by kernel_rfl, hS.refs⟩ hT hly)
  have hst : Option.map (fun s => (undefA, s)) (aStore ES 57 (.ptr (some (11, 0))) (sgV 231 (up l y.now) y.eld.length) (vcY4_s3 (vR n c) (mO l) (.cells cs true) x.now x.bef x.o0 x.o1 y.now y.bef y.o0 y.o1 (Ux (up l x.now)) (Ux (up l y.now)))) = some (.tuple [], vcY4_s4 (vR n c) (mO l) (.cells cs true) x.now x.bef x.o0 x.o1 y.now y.bef y.o0 y.o1 (sgV 231 (up l y.now) y.eld.length) (Ux (up l x.now)) (Ux (up l y.now))) := by
    rcases sgV_form (k := 231) (u := up l y.now) (m := y.eld.length) with h | ⟨z, h⟩
    · rw [h]; kernel_rfl
    · rw [h]; kernel_rfl
  exact run_of_tm ESok (sum := onlyC [44, 49, 51] (tabC [_, _])) (onlyC_ok (tabC_ok fun w he => by
    simp only [List.mem_cons, List.not_mem_nil, or_false] at he
    rcases he with rfl | rfl
    · exact c1
    · exact c2)) (Eq.mp (vcY4 (tabC [_, _]) (vR n c) (mO l) (.cells cs true) x.now x.bef x.o0 x.o1 y.now y.bef y.o0 y.o1 (sgV 31 (up l x.now) x.eld.length) (sgV 231 (up l y.now) y.eld.length) (Ux (up l x.now)) (Ux (up l y.now)) (QS l n c cs 4))
    ⟨call_at (onlyC_at rfl (tabC_hd ..)), call_at (onlyC_at rfl ((tabC_tln rfl).trans (tabC_hd ..))), hst, ⟨⟨rfl, ln_self⟩, trivial⟩, eqS_b (fun z => by kernel_rfl) ha, eqS_b (fun z => by kernel_rfl) ha, eqS_b (fun z => by kernel_rfl) hb, eqS_2 hE, ⟨rfl, Nat.le_of_ble_eq_true (by kernel_rfl), by kernel_rfl, by kernel_rfl, by kernel_rfl⟩⟩) B w0 ι W args' hsr hv
theorem saysR5 {x y : Ln} (hS : TreeAt S l n c cs) (hT : TreeOk l) (hlx : (up l x.now).length < 90000) (hly : (up l y.now).length < 90000) (ha : eqF x.now (.ofNat 0) = false) (hb : eqF y.now (.ofNat 0) = false) (hE : eqF x.now y.now = false) (h5 : inT (up l y.now) y.eld.length x.now = true) (B : Prot) (w0 : World) (ι : Ren) (W : World) (args' : Array Value) (hB : ∀ i, ¬ B.rs i) (hsr : SR B w0 ι (TR l n c cs) W) (hv : VRs ι [pO 0, x.av, y.av] args') :
    (callFunc 33 args').run Try.prog W = .ok (.enter 33 args') W ∧ CallsIn Fence.wide 0 Try.prog 33 args' W fun e w' => ∃ v, QS l n c cs 5 v ∧ Post B w0 ι v e w' := by
  have c1 : Call1 Try.prog 49 [.ptr (some (0, 0)), x.av] (vcY5_s0 (vR n c) (mO l) (.cells cs true) x.now x.bef x.o0 x.o1 y.now y.bef y.o0 y.o1) ((sgV 31 (up l x.now) x.eld.length), vcY5_s1 (vR n c) (mO l) (.cells cs true) x.now x.bef x.o0 x.o1 y.now y.bef y.o0 y.o1 (Ux (up l x.now))) :=
    Call1.mem (by kernel_rfl) (sight_at (n := n) (c := c) (S := vcY5_s0 (vR n c) (mO l) (.cells cs true) x.now x.bef x.o0 x.o1 y.now y.bef y.o0 y.o1) (a := x.now) (p := x.bef) (q := x.o0) (r := x.o1) ⟨by kernel_rfl, by kernel_rfl, by kernel_rfl, hS.refs⟩ hT hlx)
  have c2 : Call1 Try.prog 49 [.ptr (some (0, 0)), y.av] (vcY5_s1 (vR n c) (mO l) (.cells cs true) x.now x.bef x.o0 x.o1 y.now y.bef y.o0 y.o1 (Ux (up l x.now))) ((sgV 231 (up l y.now) y.eld.length), vcY5_s2 (vR n c) (mO l) (.cells cs true) x.now x.bef x.o0 x.o1 y.now y.bef y.o0 y.o1 (Ux (up l x.now)) (Ux (up l y.now))) :=
    Call1.mem (by kernel_rfl) (sight_at (n := n) (c := c) (S := vcY5_s1 (vR n c) (mO l) (.cells cs true) x.now x.bef x.o0 x.o1 y.now y.bef y.o0 y.o1 (Ux (up l x.now))) (a := y.now) (p := y.bef) (q := y.o0) (r := y.o1) ⟨by kernel_rfl, by kernel_rfl, by kernel_rfl, hS.refs⟩ hT hly)
  have c5 : Call1 Try.prog 44 [(sgV 231 (up l y.now) y.eld.length), .int .u64 x.now] (vcY5_s7 (vR n c) (mO l) (.cells cs true) x.now x.bef x.o0 x.o1 y.now y.bef y.o0 y.o1 (sgV 231 (up l y.now) y.eld.length) (Ux (up l x.now)) (Ux (up l y.now))) (.bool true, (vcY5_s7 (vR n c) (mO l) (.cells cs true) x.now x.bef x.o0 x.o1 y.now y.bef y.o0 y.o1 (sgV 231 (up l y.now) y.eld.length) (Ux (up l x.now)) (Ux (up l y.now)))) := con_sg (by omega) (by kernel_rfl) h5
  have hst : Option.map (fun s => (undefA, s)) (aStore ES 57 (.ptr (some (11, 0))) (sgV 231 (up l y.now) y.eld.length) (vcY5_s3 (vR n c) (mO l) (.cells cs true) x.now x.bef x.o0 x.o1 y.now y.bef y.o0 y.o1 (Ux (up l x.now)) (Ux (up l y.now)))) = some (.tuple [], vcY5_s4 (vR n c) (mO l) (.cells cs true) x.now x.bef x.o0 x.o1 y.now y.bef y.o0 y.o1 (sgV 231 (up l y.now) y.eld.length) (Ux (up l x.now)) (Ux (up l y.now))) := by
    rcases sgV_form (k := 231) (u := up l y.now) (m := y.eld.length) with h | ⟨z, h⟩
    · rw [h]; kernel_rfl
    · rw [h]; kernel_rfl
  exact run_of_tm ESok (sum := onlyC [44, 49, 51] (tabC [_, _, _])) (onlyC_ok (tabC_ok fun w he => by
    simp only [List.mem_cons, List.not_mem_nil, or_false] at he
    rcases he with rfl | rfl | rfl
    · exact c1
    · exact c2
    · exact c5)) (Eq.mp (vcY5 (tabC [_, _, _]) (vR n c) (mO l) (.cells cs true) x.now x.bef x.o0 x.o1 y.now y.bef y.o0 y.o1 (sgV 31 (up l x.now) x.eld.length) (sgV 231 (up l y.now) y.eld.length) (Ux (up l x.now)) (Ux (up l y.now)) (QS l n c cs 5))
    ⟨call_at (onlyC_at rfl (tabC_hd ..)), call_at (onlyC_at rfl ((tabC_tln rfl).trans (tabC_hd ..))), hst, ⟨⟨rfl, ln_self⟩, trivial⟩, eqS_b (fun z => by kernel_rfl) ha, eqS_b (fun z => by kernel_rfl) ha, eqS_b (fun z => by kernel_rfl) hb, eqS_2 hE, call_at (onlyC_at rfl ((tabC_tlf rfl).trans ((tabC_tlf rfl).trans (tabC_hd ..)))), ⟨rfl, Nat.le_of_ble_eq_true (by kernel_rfl), by kernel_rfl, by kernel_rfl, by kernel_rfl⟩⟩) B w0 ι W args' hsr hv
theorem saysR6 {x y : Ln} (hS : TreeAt S l n c cs) (hT : TreeOk l) (hlx : (up l x.now).length < 90000) (hly : (up l y.now).length < 90000) (ha : eqF x.now (.ofNat 0) = false) (hb : eqF y.now (.ofNat 0) = false) (hE : eqF x.now y.now = false) (h5 : inT (up l y.now) y.eld.length x.now = false) (h6 : inT (up l x.now) x.eld.length y.now = true) (B : Prot) (w0 : World) (ι : Ren) (W : World) (args' : Array Value) (hB : ∀ i, ¬ B.rs i) (hsr : SR B w0 ι (TR l n c cs) W) (hv : VRs ι [pO 0, x.av, y.av] args') :
    (callFunc 33 args').run Try.prog W = .ok (.enter 33 args') W ∧ CallsIn Fence.wide 0 Try.prog 33 args' W fun e w' => ∃ v, QS l n c cs 6 v ∧ Post B w0 ι v e w' := by
  have c1 : Call1 Try.prog 49 [.ptr (some (0, 0)), x.av] (vcY6_s0 (vR n c) (mO l) (.cells cs true) x.now x.bef x.o0 x.o1 y.now y.bef y.o0 y.o1) ((sgV 31 (up l x.now) x.eld.length), vcY6_s1 (vR n c) (mO l) (.cells cs true) x.now x.bef x.o0 x.o1 y.now y.bef y.o0 y.o1 (Ux (up l x.now))) :=
    Call1.mem (by kernel_rfl) (sight_at (n := n) (c := c) (S := vcY6_s0 (vR n c) (mO l) (.cells cs true) x.now x.bef x.o0 x.o1 y.now y.bef y.o0 y.o1) (a := x.now) (p := x.bef) (q := x.o0) (r := x.o1) ⟨by kernel_rfl, by kernel_rfl, by kernel_rfl, hS.refs⟩ hT hlx)
  have c2 : Call1 Try.prog 49 [.ptr (some (0, 0)), y.av] (vcY6_s1 (vR n c) (mO l) (.cells cs true) x.now x.bef x.o0 x.o1 y.now y.bef y.o0 y.o1 (Ux (up l x.now))) ((sgV 231 (up l y.now) y.eld.length), vcY6_s2 (vR n c) (mO l) (.cells cs true) x.now x.bef x.o0 x.o1 y.now y.bef y.o0 y.o1 (Ux (up l x.now)) (Ux (up l y.now))) :=
    Call1.mem (by kernel_rfl) (sight_at (n := n) (c := c) (S := vcY6_s1 (vR n c) (mO l) (.cells cs true) x.now x.bef x.o0 x.o1 y.now y.bef y.o0 y.o1 (Ux (up l x.now))) (a := y.now) (p := y.bef) (q := y.o0) (r := y.o1) ⟨by kernel_rfl, by kernel_rfl, by kernel_rfl, hS.refs⟩ hT hly)
  have c5 : Call1 Try.prog 44 [(sgV 231 (up l y.now) y.eld.length), .int .u64 x.now] (vcY6_s7 (vR n c) (mO l) (.cells cs true) x.now x.bef x.o0 x.o1 y.now y.bef y.o0 y.o1 (sgV 231 (up l y.now) y.eld.length) (Ux (up l x.now)) (Ux (up l y.now))) (.bool false, (vcY6_s7 (vR n c) (mO l) (.cells cs true) x.now x.bef x.o0 x.o1 y.now y.bef y.o0 y.o1 (sgV 231 (up l y.now) y.eld.length) (Ux (up l x.now)) (Ux (up l y.now)))) := con_sg (by omega) (by kernel_rfl) h5
  have c6 : Call1 Try.prog 44 [(sgV 31 (up l x.now) x.eld.length), .int .u64 y.now] (vcY6_s7 (vR n c) (mO l) (.cells cs true) x.now x.bef x.o0 x.o1 y.now y.bef y.o0 y.o1 (sgV 231 (up l y.now) y.eld.length) (Ux (up l x.now)) (Ux (up l y.now))) (.bool true, (vcY6_s7 (vR n c) (mO l) (.cells cs true) x.now x.bef x.o0 x.o1 y.now y.bef y.o0 y.o1 (sgV 231 (up l y.now) y.eld.length) (Ux (up l x.now)) (Ux (up l y.now)))) := con_sg (by omega) (by kernel_rfl) h6
  have hne : [(sgV 231 (up l y.now) y.eld.length), AV.int .u64 x.now] ≠ [(sgV 31 (up l x.now) x.eld.length), AV.int .u64 y.now] := fun h => eqF_f hE (by injection h with _ h; injection h with h _; injection h)
  have hst : Option.map (fun s => (undefA, s)) (aStore ES 57 (.ptr (some (11, 0))) (sgV 231 (up l y.now) y.eld.length) (vcY6_s3 (vR n c) (mO l) (.cells cs true) x.now x.bef x.o0 x.o1 y.now y.bef y.o0 y.o1 (Ux (up l x.now)) (Ux (up l y.now)))) = some (.tuple [], vcY6_s4 (vR n c) (mO l) (.cells cs true) x.now x.bef x.o0 x.o1 y.now y.bef y.o0 y.o1 (sgV 231 (up l y.now) y.eld.length) (Ux (up l x.now)) (Ux (up l y.now))) := by
    rcases sgV_form (k := 231) (u := up l y.now) (m := y.eld.length) with h | ⟨z, h⟩
    · rw [h]; kernel_rfl
    · rw [h]; kernel_rfl
  exact run_of_tm ESok (sum := onlyC [44, 49, 51] (tabC [_, _, _, _])) (onlyC_ok (tabC_ok fun w he => by
    simp only [List.mem_cons, List.not_mem_nil, or_false] at he
    rcases he with rfl | rfl | rfl | rfl
    · exact c1
    · exact c2
    · exact c5
    · exact c6)) (Eq.mp (vcY6 (tabC [_, _, _, _]) (vR n c) (mO l) (.cells cs true) x.now x.bef x.o0 x.o1 y.now y.bef y.o0 y.o1 (sgV 31 (up l x.now) x.eld.length) (sgV 231 (up l y.now) y.eld.length) (Ux (up l x.now)) (Ux (up l y.now)) (QS l n c cs 6))
    ⟨call_at (onlyC_at rfl (tabC_hd ..)), call_at (onlyC_at rfl ((tabC_tln rfl).trans (tabC_hd ..))), hst, ⟨⟨rfl, ln_self⟩, trivial⟩, eqS_b (fun z => by kernel_rfl) ha, eqS_b (fun z => by kernel_rfl) ha, eqS_b (fun z => by kernel_rfl) hb, eqS_2 hE, call_at (onlyC_at rfl ((tabC_tlf rfl).trans ((tabC_tlf rfl).trans (tabC_hd ..)))), call_at (onlyC_at rfl ((tabC_tlf rfl).trans ((tabC_tlf rfl).trans ((tabC_tla hne).trans (tabC_hd ..))))), ⟨rfl, Nat.le_of_ble_eq_true (by kernel_rfl), by kernel_rfl, by kernel_rfl, by kernel_rfl⟩⟩) B w0 ι W args' hsr hv
theorem saysR7 {x y : Ln} (hS : TreeAt S l n c cs) (hT : TreeOk l) (hlx : (up l x.now).length < 90000) (hly : (up l y.now).length < 90000) (ha : eqF x.now (.ofNat 0) = false) (hb : eqF y.now (.ofNat 0) = false) (hE : eqF x.now y.now = false) (h5 : inT (up l y.now) y.eld.length x.now = false) (h6 : inT (up l x.now) x.eld.length y.now = false) (h7 : (sgt l x).any (inT (up l y.now) y.eld.length) = true) (B : Prot) (w0 : World) (ι : Ren) (W : World) (args' : Array Value) (hB : ∀ i, ¬ B.rs i) (hsr : SR B w0 ι (TR l n c cs) W) (hv : VRs ι [pO 0, x.av, y.av] args') :
    (callFunc 33 args').run Try.prog W = .ok (.enter 33 args') W ∧ CallsIn Fence.wide 0 Try.prog 33 args' W fun e w' => ∃ v, QS l n c cs 7 v ∧ Post B w0 ι v e w' := by
  have c1 : Call1 Try.prog 49 [.ptr (some (0, 0)), x.av] (vcY7_s0 (vR n c) (mO l) (.cells cs true) x.now x.bef x.o0 x.o1 y.now y.bef y.o0 y.o1) ((sgV 31 (up l x.now) x.eld.length), vcY7_s1 (vR n c) (mO l) (.cells cs true) x.now x.bef x.o0 x.o1 y.now y.bef y.o0 y.o1 (Ux (up l x.now))) :=
    Call1.mem (by kernel_rfl) (sight_at (n := n) (c := c) (S := vcY7_s0 (vR n c) (mO l) (.cells cs true) x.now x.bef x.o0 x.o1 y.now y.bef y.o0 y.o1) (a := x.now) (p := x.bef) (q := x.o0) (r := x.o1) ⟨by kernel_rfl, by kernel_rfl, by kernel_rfl, hS.refs⟩ hT hlx)
  have c2 : Call1 Try.prog 49 [.ptr (some (0, 0)), y.av] (vcY7_s1 (vR n c) (mO l) (.cells cs true) x.now x.bef x.o0 x.o1 y.now y.bef y.o0 y.o1 (Ux (up l x.now))) ((sgV 231 (up l y.now) y.eld.length), vcY7_s2 (vR n c) (mO l) (.cells cs true) x.now x.bef x.o0 x.o1 y.now y.bef y.o0 y.o1 (Ux (up l x.now)) (Ux (up l y.now))) :=
    Call1.mem (by kernel_rfl) (sight_at (n := n) (c := c) (S := vcY7_s1 (vR n c) (mO l) (.cells cs true) x.now x.bef x.o0 x.o1 y.now y.bef y.o0 y.o1 (Ux (up l x.now))) (a := y.now) (p := y.bef) (q := y.o0) (r := y.o1) ⟨by kernel_rfl, by kernel_rfl, by kernel_rfl, hS.refs⟩ hT hly)
  have c5 : Call1 Try.prog 44 [(sgV 231 (up l y.now) y.eld.length), .int .u64 x.now] (vcY7_s7 (vR n c) (mO l) (.cells cs true) x.now x.bef x.o0 x.o1 y.now y.bef y.o0 y.o1 (sgV 231 (up l y.now) y.eld.length) (Ux (up l x.now)) (Ux (up l y.now))) (.bool false, (vcY7_s7 (vR n c) (mO l) (.cells cs true) x.now x.bef x.o0 x.o1 y.now y.bef y.o0 y.o1 (sgV 231 (up l y.now) y.eld.length) (Ux (up l x.now)) (Ux (up l y.now)))) := con_sg (by omega) (by kernel_rfl) h5
  have c6 : Call1 Try.prog 44 [(sgV 31 (up l x.now) x.eld.length), .int .u64 y.now] (vcY7_s7 (vR n c) (mO l) (.cells cs true) x.now x.bef x.o0 x.o1 y.now y.bef y.o0 y.o1 (sgV 231 (up l y.now) y.eld.length) (Ux (up l x.now)) (Ux (up l y.now))) (.bool false, (vcY7_s7 (vR n c) (mO l) (.cells cs true) x.now x.bef x.o0 x.o1 y.now y.bef y.o0 y.o1 (sgV 231 (up l y.now) y.eld.length) (Ux (up l x.now)) (Ux (up l y.now)))) := con_sg (by omega) (by kernel_rfl) h6
  have hne : [(sgV 231 (up l y.now) y.eld.length), AV.int .u64 x.now] ≠ [(sgV 31 (up l x.now) x.eld.length), AV.int .u64 y.now] := fun h => eqF_f hE (by injection h with _ h; injection h with h _; injection h)
  have c7 : Call1 Try.prog 51 [(sgV 31 (up l x.now) x.eld.length), .clos 50 [.ptr (some (11, 0))]] (vcY7_s7 (vR n c) (mO l) (.cells cs true) x.now x.bef x.o0 x.o1 y.now y.bef y.o0 y.o1 (sgV 231 (up l y.now) y.eld.length) (Ux (up l x.now)) (Ux (up l y.now))) (.bool true, (vcY7_s7 (vR n c) (mO l) (.cells cs true) x.now x.bef x.o0 x.o1 y.now y.bef y.o0 y.o1 (sgV 231 (up l y.now) y.eld.length) (Ux (up l x.now)) (Ux (up l y.now)))) := contF_at (k0 := 31) (k1 := 11) (k2 := 231) (by omega) (by omega) rfl rfl rfl (row_of (by kernel_rfl)) ⟨true, by kernel_rfl⟩ (row_of (by kernel_rfl)) h7
  have hst : Option.map (fun s => (undefA, s)) (aStore ES 57 (.ptr (some (11, 0))) (sgV 231 (up l y.now) y.eld.length) (vcY7_s3 (vR n c) (mO l) (.cells cs true) x.now x.bef x.o0 x.o1 y.now y.bef y.o0 y.o1 (Ux (up l x.now)) (Ux (up l y.now)))) = some (.tuple [], vcY7_s4 (vR n c) (mO l) (.cells cs true) x.now x.bef x.o0 x.o1 y.now y.bef y.o0 y.o1 (sgV 231 (up l y.now) y.eld.length) (Ux (up l x.now)) (Ux (up l y.now))) := by
    rcases sgV_form (k := 231) (u := up l y.now) (m := y.eld.length) with h | ⟨z, h⟩
    · rw [h]; kernel_rfl
    · rw [h]; kernel_rfl
  exact run_of_tm ESok (sum := onlyC [44, 49, 51] (tabC [_, _, _, _, _])) (onlyC_ok (tabC_ok fun w he => by
    simp only [List.mem_cons, List.not_mem_nil, or_false] at he
    rcases he with rfl | rfl | rfl | rfl | rfl
    · exact c1
    · exact c2
    · exact c5
    · exact c6
    · exact c7)) (Eq.mp (vcY7 (tabC [_, _, _, _, _]) (vR n c) (mO l) (.cells cs true) x.now x.bef x.o0 x.o1 y.now y.bef y.o0 y.o1 (sgV 31 (up l x.now) x.eld.length) (sgV 231 (up l y.now) y.eld.length) (Ux (up l x.now)) (Ux (up l y.now)) (QS l n c cs 7))
    ⟨call_at (onlyC_at rfl (tabC_hd ..)), call_at (onlyC_at rfl ((tabC_tln rfl).trans (tabC_hd ..))), hst, ⟨⟨rfl, ln_self⟩, trivial⟩, eqS_b (fun z => by kernel_rfl) ha, eqS_b (fun z => by kernel_rfl) ha, eqS_b (fun z => by kernel_rfl) hb, eqS_2 hE, call_at (onlyC_at rfl ((tabC_tlf rfl).trans ((tabC_tlf rfl).trans (tabC_hd ..)))), call_at (onlyC_at rfl ((tabC_tlf rfl).trans ((tabC_tlf rfl).trans ((tabC_tla hne).trans (tabC_hd ..))))), call_at (onlyC_at rfl ((tabC_tlf rfl).trans ((tabC_tlf rfl).trans ((tabC_tlf rfl).trans ((tabC_tlf rfl).trans (tabC_hd ..)))))), ⟨rfl, Nat.le_of_ble_eq_true (by kernel_rfl), by kernel_rfl, by kernel_rfl, by kernel_rfl⟩⟩) B w0 ι W args' hsr hv
theorem saysR8 {x y : Ln} (hS : TreeAt S l n c cs) (hT : TreeOk l) (hlx : (up l x.now).length < 90000) (hly : (up l y.now).length < 90000) (ha : eqF x.now (.ofNat 0) = false) (hb : eqF y.now (.ofNat 0) = false) (hE : eqF x.now y.now = false) (h5 : inT (up l y.now) y.eld.length x.now = false) (h6 : inT (up l x.now) x.eld.length y.now = false) (h7 : (sgt l x).any (inT (up l y.now) y.eld.length) = false) (B : Prot) (w0 : World) (ι : Ren) (W : World) (args' : Array Value) (hB : ∀ i, ¬ B.rs i) (hsr : SR B w0 ι (TR l n c cs) W) (hv : VRs ι [pO 0, x.av, y.av] args') :
    (callFunc 33 args').run Try.prog W = .ok (.enter 33 args') W ∧ CallsIn Fence.wide 0 Try.prog 33 args' W fun e w' => ∃ v, QS l n c cs 8 v ∧ Post B w0 ι v e w' := by
  have c1 : Call1 Try.prog 49 [.ptr (some (0, 0)), x.av] (vcY8_s0 (vR n c) (mO l) (.cells cs true) x.now x.bef x.o0 x.o1 y.now y.bef y.o0 y.o1) ((sgV 31 (up l x.now) x.eld.length), vcY8_s1 (vR n c) (mO l) (.cells cs true) x.now x.bef x.o0 x.o1 y.now y.bef y.o0 y.o1 (Ux (up l x.now))) :=
    Call1.mem (by kernel_rfl) (sight_at (n := n) (c := c) (S := vcY8_s0 (vR n c) (mO l) (.cells cs true) x.now x.bef x.o0 x.o1 y.now y.bef y.o0 y.o1) (a := x.now) (p := x.bef) (q := x.o0) (r := x.o1) ⟨by kernel_rfl, by kernel_rfl, by kernel_rfl, hS.refs⟩ hT hlx)
  have c2 : Call1 Try.prog 49 [.ptr (some (0, 0)), y.av] (vcY8_s1 (vR n c) (mO l) (.cells cs true) x.now x.bef x.o0 x.o1 y.now y.bef y.o0 y.o1 (Ux (up l x.now))) ((sgV 231 (up l y.now) y.eld.length), vcY8_s2 (vR n c) (mO l) (.cells cs true) x.now x.bef x.o0 x.o1 y.now y.bef y.o0 y.o1 (Ux (up l x.now)) (Ux (up l y.now))) :=
    Call1.mem (by kernel_rfl) (sight_at (n := n) (c := c) (S := vcY8_s1 (vR n c) (mO l) (.cells cs true) x.now x.bef x.o0 x.o1 y.now y.bef y.o0 y.o1 (Ux (up l x.now))) (a := y.now) (p := y.bef) (q := y.o0) (r := y.o1) ⟨by kernel_rfl, by kernel_rfl, by kernel_rfl, hS.refs⟩ hT hly)
  have c5 : Call1 Try.prog 44 [(sgV 231 (up l y.now) y.eld.length), .int .u64 x.now] (vcY8_s7 (vR n c) (mO l) (.cells cs true) x.now x.bef x.o0 x.o1 y.now y.bef y.o0 y.o1 (sgV 231 (up l y.now) y.eld.length) (Ux (up l x.now)) (Ux (up l y.now))) (.bool false, (vcY8_s7 (vR n c) (mO l) (.cells cs true) x.now x.bef x.o0 x.o1 y.now y.bef y.o0 y.o1 (sgV 231 (up l y.now) y.eld.length) (Ux (up l x.now)) (Ux (up l y.now)))) := con_sg (by omega) (by kernel_rfl) h5
  have c6 : Call1 Try.prog 44 [(sgV 31 (up l x.now) x.eld.length), .int .u64 y.now] (vcY8_s7 (vR n c) (mO l) (.cells cs true) x.now x.bef x.o0 x.o1 y.now y.bef y.o0 y.o1 (sgV 231 (up l y.now) y.eld.length) (Ux (up l x.now)) (Ux (up l y.now))) (.bool false, (vcY8_s7 (vR n c) (mO l) (.cells cs true) x.now x.bef x.o0 x.o1 y.now y.bef y.o0 y.o1 (sgV 231 (up l y.now) y.eld.length) (Ux (up l x.now)) (Ux (up l y.now)))) := con_sg (by omega) (by kernel_rfl) h6
  have hne : [(sgV 231 (up l y.now) y.eld.length), AV.int .u64 x.now] ≠ [(sgV 31 (up l x.now) x.eld.length), AV.int .u64 y.now] := fun h => eqF_f hE (by injection h with _ h; injection h with h _; injection h)
  have c7 : Call1 Try.prog 51 [(sgV 31 (up l x.now) x.eld.length), .clos 50 [.ptr (some (11, 0))]] (vcY8_s7 (vR n c) (mO l) (.cells cs true) x.now x.bef x.o0 x.o1 y.now y.bef y.o0 y.o1 (sgV 231 (up l y.now) y.eld.length) (Ux (up l x.now)) (Ux (up l y.now))) (.bool false, (vcY8_s7 (vR n c) (mO l) (.cells cs true) x.now x.bef x.o0 x.o1 y.now y.bef y.o0 y.o1 (sgV 231 (up l y.now) y.eld.length) (Ux (up l x.now)) (Ux (up l y.now)))) := contF_at (k0 := 31) (k1 := 11) (k2 := 231) (by omega) (by omega) rfl rfl rfl (row_of (by kernel_rfl)) ⟨true, by kernel_rfl⟩ (row_of (by kernel_rfl)) h7
  have hst : Option.map (fun s => (undefA, s)) (aStore ES 57 (.ptr (some (11, 0))) (sgV 231 (up l y.now) y.eld.length) (vcY8_s3 (vR n c) (mO l) (.cells cs true) x.now x.bef x.o0 x.o1 y.now y.bef y.o0 y.o1 (Ux (up l x.now)) (Ux (up l y.now)))) = some (.tuple [], vcY8_s4 (vR n c) (mO l) (.cells cs true) x.now x.bef x.o0 x.o1 y.now y.bef y.o0 y.o1 (sgV 231 (up l y.now) y.eld.length) (Ux (up l x.now)) (Ux (up l y.now))) := by
    rcases sgV_form (k := 231) (u := up l y.now) (m := y.eld.length) with h | ⟨z, h⟩
    · rw [h]; kernel_rfl
    · rw [h]; kernel_rfl
  exact run_of_tm ESok (sum := onlyC [44, 49, 51] (tabC [_, _, _, _, _])) (onlyC_ok (tabC_ok fun w he => by
    simp only [List.mem_cons, List.not_mem_nil, or_false] at he
    rcases he with rfl | rfl | rfl | rfl | rfl
    · exact c1
    · exact c2
    · exact c5
    · exact c6
    · exact c7)) (Eq.mp (vcY8 (tabC [_, _, _, _, _]) (vR n c) (mO l) (.cells cs true) x.now x.bef x.o0 x.o1 y.now y.bef y.o0 y.o1 (sgV 31 (up l x.now) x.eld.length) (sgV 231 (up l y.now) y.eld.length) (Ux (up l x.now)) (Ux (up l y.now)) (QS l n c cs 8))
    ⟨call_at (onlyC_at rfl (tabC_hd ..)), call_at (onlyC_at rfl ((tabC_tln rfl).trans (tabC_hd ..))), hst, ⟨⟨rfl, ln_self⟩, trivial⟩, eqS_b (fun z => by kernel_rfl) ha, eqS_b (fun z => by kernel_rfl) ha, eqS_b (fun z => by kernel_rfl) hb, eqS_2 hE, call_at (onlyC_at rfl ((tabC_tlf rfl).trans ((tabC_tlf rfl).trans (tabC_hd ..)))), call_at (onlyC_at rfl ((tabC_tlf rfl).trans ((tabC_tlf rfl).trans ((tabC_tla hne).trans (tabC_hd ..))))), call_at (onlyC_at rfl ((tabC_tlf rfl).trans ((tabC_tlf rfl).trans ((tabC_tlf rfl).trans ((tabC_tlf rfl).trans (tabC_hd ..)))))), ⟨rfl, Nat.le_of_ble_eq_true (by kernel_rfl), by kernel_rfl, by kernel_rfl, by kernel_rfl⟩⟩) B w0 ι W args' hsr hv
theorem says_at {x y : Ln} (hS : TreeAt S l n c cs) (hT : TreeOk l) (hlx : (up l x.now).length < 90000) (hly : (up l y.now).length < 90000) :
    Call1 Try.prog 33 [pO 0, x.av, y.av] S (.int .i64 (.ofNat (saysV l x y)), outS (gK 3 S.next) [(0, tO (vR n c)), (1, mO l), (2, .cells cs true)] S (S.next + 500)) := by
  refine tree_sameN 500 (by decide) (ot := []) (Q1 := QS l n c cs (saysV l x y)) hS (fun B w0 ι W args' hB hsr hv => ?_) (fun v hv => ?_) fun w hw => ?_
  · unfold saysV
    cases ha : eqF x.now (.ofNat 0) with
    | true =>
      cases hb : eqF y.now (.ofNat 0) with
      | true => exact saysR1 hS hT hlx hly ha hb B w0 ι W args' hB hsr hv
      | false => exact saysR2 hS hT hlx hly ha hb B w0 ι W args' hB hsr hv
    | false =>
      cases hb : eqF y.now (.ofNat 0) with
      | true => exact saysR3 hS hT hlx hly ha hb B w0 ι W args' hB hsr hv
      | false =>
        cases hE : eqF x.now y.now with
        | true => exact saysR4 hS hT hlx hly ha hb hE B w0 ι W args' hB hsr hv
        | false =>
          cases h5 : inT (up l y.now) y.eld.length x.now with
          | true => exact saysR5 hS hT hlx hly ha hb hE h5 B w0 ι W args' hB hsr hv
          | false =>
            cases h6 : inT (up l x.now) x.eld.length y.now with
            | true => exact saysR6 hS hT hlx hly ha hb hE h5 h6 B w0 ι W args' hB hsr hv
            | false =>
              cases h7 : (sgt l x).any (inT (up l y.now) y.eld.length) with
              | true => exact saysR7 hS hT hlx hly ha hb hE h5 h6 h7 B w0 ι W args' hB hsr hv
              | false => exact saysR8 hS hT hlx hly ha hb hE h5 h6 h7 B w0 ι W args' hB hsr hv
  · simp only [List.mem_cons, List.not_mem_nil, or_false] at hv
    rcases hv with rfl | rfl | rfl <;> rfl
  · obtain ⟨h1, h2, h3, h4, h5⟩ := hw
    exact ⟨by rw [h1]; exact .keep (by simp [refsV]), h2, h3, h4, h5, fun p hp => by cases hp⟩
end
end Go.Proofs.Ytidmijpfoodkoaa.gho
end

section
open Go Go.Ax Go.Proofs
namespace Go.Proofs.Ytidmijpfoodkoaa.gho
set_option linter.unusedVariables false
def turnN : Nat → Nat
  | 2 => 3
  | 3 => 2
  | 5 => 6
  | 6 => 5
  | n => n
section
variable {l : List (Int × Int)} {x y : Ln} {g v r : Int} {m : Nat}
theorem up_rank (hT : TreeOk l) (h : v ∈ up l g) : rankK l v < rankK l g := by
  obtain ⟨j, hj⟩ := List.getElem?_of_mem h
  have : (chn l g)[j + 1]? = some v := by unfold chn; rw [List.getElem?_cons_succ]; exact hj
  have := (chn_at hT _ g this).2
  omega
theorem inT_mem {u : List Int} (h : inT u m r = true) : r ∈ u.take m := by
  unfold inT at h
  rw [List.any_eq_true] at h
  obtain ⟨q, h1, h2⟩ := h
  rw [eqF_t h2]; exact h1
theorem mem_inT {u : List Int} (h : r ∈ u.take m) : inT u m r = true := by
  unfold inT
  rw [List.any_eq_true]
  exact ⟨r, h, eqF_self r⟩
theorem both_sym : (sgt l x).any (inT (up l y.now) y.eld.length) = (sgt l y).any (inT (up l x.now) x.eld.length) := by
  rw [Bool.eq_iff_iff, List.any_eq_true, List.any_eq_true]
  constructor
  · rintro ⟨r, h1, h2⟩; exact ⟨r, inT_mem h2, mem_inT h1⟩
  · rintro ⟨r, h1, h2⟩; exact ⟨r, inT_mem h2, mem_inT h1⟩
theorem eqF_comm {a b : Int} : eqF a b = eqF b a := by
  rw [eqF_eq, eqF_eq, Bool.eq_iff_iff]
  simp only [beq_iff_eq]
  exact eq_comm
theorem says_turn (hT : TreeOk l) : saysV l y x = turnN (saysV l x y) := by
  unfold saysV
  rw [both_sym (x := y) (y := x), eqF_comm (a := y.now) (b := x.now)]
  cases ha : eqF x.now (.ofNat 0) <;> cases hb : eqF y.now (.ofNat 0)
  · cases hE : eqF x.now y.now
    · cases h5 : inT (up l y.now) y.eld.length x.now
      · cases h6 : inT (up l x.now) x.eld.length y.now
        · cases h7 : (sgt l x).any (inT (up l y.now) y.eld.length) <;> rfl
        · rfl
      · cases h6 : inT (up l x.now) x.eld.length y.now
        · rfl
        · have h1 := up_rank hT (List.mem_of_mem_take (inT_mem h5))
          have h2 := up_rank hT (List.mem_of_mem_take (inT_mem h6))
          omega
    · rfl
  · rfl
  · rfl
  · rfl
theorem says_self : saysV l x x = bif eqF x.now (.ofNat 0) then 1 else 4 := by
  unfold saysV
  rw [eqF_self]
  cases eqF x.now (.ofNat 0) <;> rfl
theorem saysV_lt : saysV l x y < 9 := by
  unfold saysV
  cases eqF x.now (.ofNat 0) <;> cases eqF y.now (.ofNat 0) <;> (try (simp; done))
  cases eqF x.now y.now <;> (try (simp; done))
  cases inT (up l y.now) y.eld.length x.now <;> (try (simp; done))
  cases inT (up l x.now) x.eld.length y.now <;> (try (simp; done))
  cases (sgt l x).any (inT (up l y.now) y.eld.length) <;> simp
end
end Go.Proofs.Ytidmijpfoodkoaa.gho
end

section
open Go Go.Ax Go.Proofs
namespace Go.Proofs.Ytidmijpfoodkoaa.gho
set_option linter.unusedVariables false
section
variable {t : List (Int × Int)} {x y : Ln} {S : ASt}
theorem treeB_sameN (N : Nat) (hN : 3 ≤ N) {f : Nat} {args args1 : List AV} {Q1 : AV × ASt → Prop} {ot : List (Nat × AO)} {v : AV} (hS : TreeB S t)
    (hrun : ∀ B w0 ι W args', (∀ i, ¬ B.rs i) → SR B w0 ι (TRt t) W → VRs ι args1 args' → (callFunc f args').run Try.prog W = .ok (.enter f args') W ∧ CallsIn Fence.wide 0 Try.prog f args' W fun e w' => ∃ v, Q1 v ∧ Post B w0 ι v e w')
    (hargs : args.map (renV (idsA 1 3)) = args1.map some)
    (hb : ∀ q, Q1 q → BackV (gA 1 3 S.next) q.1 v ∧ q.2.next ≤ N ∧ q.2.h.get 0 = some (tO (vR t.length (capT t))) ∧ q.2.h.get 1 = some (mO t) ∧ q.2.h.get 2 = some (rT t) ∧
      ∀ p, p ∈ ot → 3 ≤ p.1 ∧ p.1 < N ∧ (p.2 = .dead ∨ p.2.own = true ∧ ∃ a, q.2.h.get p.1 = some a ∧ BackO (gA 1 3 S.next) a p.2)) :
    Call1 Try.prog f args S (v, outS (gA 1 3 S.next) ((0, tA (vT 3 t)) :: (1, mO t) :: (2, rT t) :: ot) S (S.next + N)) := by
  have hn := hS.next
  refine Call1.sameAt (S := S) (S1 := TRt t) (args1 := args1) 1 3 3 (Nat.le_refl 3) hrun rfl (by omega) (fun j hj => ?_) (fun j x hj => ?_) hargs fun q hq => ?_
  · match j, hj with
    | 0, _ => exact ⟨_, hS.o, by simp [tA]⟩
    | 1, _ => exact ⟨_, hS.m, by simp [mO]⟩
    | 2, _ => exact ⟨_, hS.r, by simp [rT]⟩
  · rcases get3 hj with ⟨rfl, rfl⟩ | ⟨rfl, rfl⟩ | ⟨rfl, rfl⟩
    · exact ⟨by decide, fun _ => ⟨by decide, _, hS.o, .of (by kernel_rfl)⟩⟩
    · exact ⟨by decide, fun _ => ⟨by decide, _, hS.m, mO_ren⟩⟩
    · exact ⟨by decide, fun _ => ⟨by decide, _, hS.r, .row gU_refs⟩⟩
  · obtain ⟨b1, b2, b3, b4, b5, b6⟩ := hb q hq
    refine ⟨b1, by omega, by omega, fun p hp => ?_, fun j x hj ho => ?_⟩
    · rcases List.mem_cons.1 hp with rfl | hp
      · exact ⟨.inl (by show 0 < 3; decide), (by show S.next + 0 < S.next + N; omega), fun _ => ⟨_, (by kernel_rfl : _ = some (tO (vR t.length (capT t)))), rfl⟩, .inr ⟨rfl, _, b3, .cells rfl⟩⟩
      · rcases List.mem_cons.1 hp with rfl | hp
        · exact ⟨.inl (by show 1 < 3; decide), (by show S.next + 1 < S.next + N; omega), fun _ => ⟨_, (by kernel_rfl : _ = some (mO t)), rfl⟩, .inr ⟨rfl, _, b4, mO_back⟩⟩
        · rcases List.mem_cons.1 hp with rfl | hp
          · exact ⟨.inl (by show 2 < 3; decide), (by show S.next + 2 < S.next + N; omega), fun _ => ⟨_, (by kernel_rfl : _ = some (rT t)), rfl⟩, .inr ⟨rfl, _, b5, .row gU_refs⟩⟩
          · obtain ⟨c1, c2, c3⟩ := b6 p hp
            exact ⟨.inr c1, by omega, fun h => absurd h (by omega), c3⟩
    · rcases get3 hj with ⟨rfl, rfl⟩ | ⟨rfl, rfl⟩ | ⟨rfl, rfl⟩
      · exact ⟨_, List.mem_cons_self, rfl⟩
      · exact ⟨_, List.mem_cons_of_mem _ List.mem_cons_self, rfl⟩
      · exact ⟨_, List.mem_cons_of_mem _ (List.mem_cons_of_mem _ List.mem_cons_self), rfl⟩
theorem saysB_at (hS : TreeB S t) (hT : TreeOk t) (hlx : (up t x.now).length < 90000) (hly : (up t y.now).length < 90000) :
    Call1 Try.prog 33 [pO 1, x.av, y.av] S (.int .i64 (.ofNat (saysV t x y)), outS (gA 1 3 S.next) [(0, tA (vT 3 t)), (1, mO t), (2, rT t)] S (S.next + 510)) := by
  have h0 := says_at (S := TRt t) (x := x) (y := y) TRt_at hT hlx hly
  refine treeB_sameN 510 (by decide) (args1 := [pO 0, x.av, y.av]) (ot := []) (Q1 := fun q => q = (.int .i64 (.ofNat (saysV t x y)), outS (gK 3 3) [(0, tO (vR t.length (capT t))), (1, mO t), (2, rT t)] (TRt t) 503)) hS (fun B w0 ι W args' hB hsr hv => ?_) rfl fun q hq => ?_
  · obtain ⟨k1, k2⟩ := h0 B w0 ι W args' hsr hv
    exact ⟨k1, k2.mono fun e w' hp => ⟨_, rfl, hp⟩⟩
  · subst hq
    exact ⟨.keep (by simp [refsV]), by show 503 ≤ 510; decide, by kernel_rfl, by kernel_rfl, by kernel_rfl, fun p hp => by cases hp⟩
end
end Go.Proofs.Ytidmijpfoodkoaa.gho
end

section
open Go Go.Ax Go.Proofs
namespace Go.Proofs.Ytidmijpfoodkoaa.gho
set_option linter.unusedVariables false
section
variable {A : AV} {O : AO} {bs : List Br} {t : List (Int × Int)} {g : Int} {S : ASt}
theorem row_sameS {f : Nat} {args : List AV} {Q1 : AV × ASt → Prop} {ot : List (Nat × AO)} {v : AV} (hS : S.h.get 0 = some O) (hn : 1 ≤ S.next) (hot : ∀ p, p ∈ ot → 1 ≤ p.1 ∧ p.1 < 100) (hO : CameF O A) (hA : KeptV 1 A)
    (hrun : ∀ B w0 ι W args', (∀ i, ¬ B.rs i) → SR B w0 ι (S0 O) W → VRs ι args args' → (callFunc f args').run Try.prog W = .ok (.enter f args') W ∧ CallsIn Fence.wide 0 Try.prog f args' W fun e w' => ∃ v, Q1 v ∧ Post B w0 ι v e w')
    (hargs : ∀ v, v ∈ args → v = A ∨ ∀ ids, renV ids v = some v)
    (hb : ∀ gg : Nat → Nat, (∀ j, 1 ≤ j → gg j = S.next + j) → ∀ q, Q1 q → BackV gg q.1 v ∧ q.2.next ≤ 100 ∧ ∀ p, p ∈ ot → p.2 = .dead ∨ p.2.own = true ∧ ∃ a, q.2.h.get p.1 = some a ∧ BackO gg a p.2) :
    Call1 Try.prog f args S (v, outS (S.next + ·) ot S (S.next + 100)) := by
  have hfold : ∀ (gg : Nat → Nat), (∀ j, 1 ≤ j → gg j = S.next + j) → ∀ (l : List (Nat × AO)) (h : T AO), (∀ p, p ∈ l → 1 ≤ p.1) → l.foldl (fun h p => h.set D (S.next + p.1) p.2) h = l.foldl (fun h p => h.set D (gg p.1) p.2) h := fun gg hg l => by
    induction l with
    | nil => intro h _; rfl
    | cons x l ih =>
      intro h hl
      rw [List.foldl_cons, List.foldl_cons, hg _ (hl x List.mem_cons_self)]
      exact ih _ fun p hp => hl p (List.mem_cons_of_mem _ hp)
  have hout : ∀ (gg : Nat → Nat), (∀ j, 1 ≤ j → gg j = S.next + j) → outS (S.next + ·) ot S (S.next + 100) = outS gg ot S (S.next + 100) := fun gg hg => by
    unfold outS
    congr 1
    exact hfold gg hg ot _ fun p hp => (hot p hp).1
  rcases hO with ⟨rfl, hA0⟩ | ⟨cs, rfl, hcs⟩
  · have hg : ∀ j, 1 ≤ j → gK 0 S.next j = S.next + j := fun j _ => by
      unfold gK
      cases h : Nat.blt j 0 with
      | false => rfl
      | true => rw [Nat.blt_eq] at h; omega
    rw [hout _ hg]
    refine Call1.same (S := S) 0 1 (by decide) hrun rfl (fun j hj => absurd hj (by omega)) (fun j x hj => ?_) (fun v hv => ?_) fun q hq => ?_
    · obtain ⟨rfl, rfl⟩ := get1' hj
      exact ⟨by decide, fun h => absurd rfl h⟩
    · rcases hargs v hv with rfl | h
      · exact hA0 _
      · exact h _
    · obtain ⟨b1, b2, b3⟩ := hb _ hg q hq
      refine ⟨b1, by omega, by omega, fun p hp => ?_, fun j x hj ho => ?_⟩
      · obtain ⟨c1, c2⟩ := hot p hp
        exact ⟨by rw [hg _ c1]; omega, .inr c1, fun h => absurd h (by omega), b3 p hp⟩
      · obtain ⟨rfl, rfl⟩ := get1' hj
        cases ho
  · have hg : ∀ j, 1 ≤ j → gK 1 S.next j = S.next + j := fun j hj => by
      unfold gK
      cases h : Nat.blt j 1 with
      | false => rfl
      | true => rw [Nat.blt_eq] at h; omega
    rw [hout _ hg]
    refine Call1.same (S := S) 1 1 (by decide) hrun rfl (fun j hj => ?_) (fun j x hj => ?_) (fun v hv => ?_) fun q hq => ?_
    · match j, hj with
      | 0, _ => exact ⟨_, hS, by simp⟩
    · obtain ⟨rfl, rfl⟩ := get1' hj
      exact ⟨by decide, fun _ => ⟨by decide, hS, .row hcs⟩⟩
    · rcases hargs v hv with rfl | h
      · exact hA _ (by kernel_rfl)
      · exact h _
    · obtain ⟨b1, b2, b3⟩ := hb _ hg q hq
      refine ⟨b1, by omega, by omega, fun p hp => ?_, fun j x hj ho => ?_⟩
      · obtain ⟨c1, c2⟩ := hot p hp
        exact ⟨by rw [hg _ c1]; omega, .inr c1, fun h => absurd h (by omega), b3 p hp⟩
      · obtain ⟨rfl, rfl⟩ := get1' hj
        cases ho
theorem of_noS {e : Nat} (hS : S.h.get 0 = some O) (hn : 1 ≤ S.next) (I : SlArg EO 49 2 0 bs.length A O (bs.flatMap encB)) (hO : CameF O A) (hA : KeptV 1 A) (hbl : bs.length < 80000) (h : ofR g bs = .no e) : Call1 Try.prog 22 [gU g, A] S (.tuple [.ptr none, nI e], outS (S.next + ·) [] S (S.next + 100)) := by
  refine row_sameS (Q1 := fun v => v.1 = .tuple [.ptr none, nI e] ∧ v.2.next ≤ 100) hS hn (fun p hp => by cases hp) hO hA (fun B w0 ι W args' hB hsr hv => ?_) (fun v hv => ?_) (fun gg _ q hq => ⟨by rw [hq.1]; exact .eq rfl, hq.2, fun p hp => by cases hp⟩)
  · have := of_run (g := g) I hO hA hbl B w0 ι W args' hB hsr hv
    rw [h] at this
    exact this
  · simp only [List.mem_cons, List.not_mem_nil, or_false] at hv
    rcases hv with rfl | rfl
    · exact .inr fun ids => rfl
    · exact .inl rfl
theorem of_okS (hS : S.h.get 0 = some O) (hn : 1 ≤ S.next) (I : SlArg EO 49 2 0 bs.length A O (bs.flatMap encB)) (hO : CameF O A) (hA : KeptV 1 A) (hbl : bs.length < 80000) (h : ofR g bs = .ok t) :
    Call1 Try.prog 22 [gU g, A] S (.tuple [pO (S.next + 1), nI 0], outS (S.next + ·) [(1, .cells [.map (some (S.next + 2)), vT (S.next + 3) t] true), (2, mO t), (3, rT t)] S (S.next + 100)) := by
  refine row_sameS (Q1 := fun v => v = (.tuple [pO 1, nI 0], SOt O t)) hS hn (fun p hp => ?_) hO hA (fun B w0 ι W args' hB hsr hv => ?_) (fun v hv => ?_) (fun gg hg q hq => ⟨?_, by rw [hq]; show 4 ≤ 100; decide, fun p hp => ?_⟩)
  · simp only [List.mem_cons, List.not_mem_nil, or_false] at hp
    rcases hp with rfl | rfl | rfl <;> simp
  · have := of_run (g := g) I hO hA hbl B w0 ι W args' hB hsr hv
    rw [h] at this
    exact this
  · simp only [List.mem_cons, List.not_mem_nil, or_false] at hv
    rcases hv with rfl | rfl
    · exact .inr fun ids => rfl
    · exact .inl rfl
  · rw [hq]
    exact .eq (by simp [mapV, mapVs, pO, nI, hg])
  · rw [hq]
    simp only [List.mem_cons, List.not_mem_nil, or_false] at hp
    rcases hp with rfl | rfl | rfl
    · exact .inr ⟨rfl, _, (by kernel_rfl : _ = some (tA (vT 3 t))), .cells (by simp [mapVs, mapV, vT, hg])⟩
    · exact .inr ⟨rfl, _, (by kernel_rfl : _ = some (mO t)), mO_back⟩
    · exact .inr ⟨rfl, _, (by kernel_rfl : _ = some (rT t)), .row gU_refs⟩
end
end Go.Proofs.Ytidmijpfoodkoaa.gho
end
