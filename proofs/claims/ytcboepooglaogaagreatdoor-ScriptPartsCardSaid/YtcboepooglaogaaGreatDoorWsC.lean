/-
  OWN WORK, A PART: an abstract machine for the program's text that the kernel can run, and the proof that it is sound: what it answers is what the program answers; contracts of functions by it. No condition.
-/
import Derived.Test.YtcboepooglaogaaGreatDoorWsB
section
open Go Go.Ax Go.Proofs
namespace Go.Proofs.YtcboepooglaogaaGreatDoor.spt
set_option linter.unusedVariables false
def ddL (d : Nat → Nat) : List AV := [.int .u8 (.ofNat (d 0)), .int .u8 (.ofNat (d 1)), .int .u8 (.ofNat (d 2)), .int .u8 (.ofNat (d 3)), .int .u8 (.ofNat (d 4)), .int .u8 (.ofNat (d 5)), .int .u8 (.ofNat (d 6)), .int .u8 (.ofNat (d 7)), .int .u8 (.ofNat (d 8)), .int .u8 (.ofNat (d 9)), .int .u8 (.ofNat (d 10)), .int .u8 (.ofNat (d 11)), .int .u8 (.ofNat (d 12)), .int .u8 (.ofNat (d 13)), .int .u8 (.ofNat (d 14)), .int .u8 (.ofNat (d 15)), .int .u8 (.ofNat (d 16)), .int .u8 (.ofNat (d 17)), .int .u8 (.ofNat (d 18)), .int .u8 (.ofNat (d 19)), .int .u8 (.ofNat (d 20)), .int .u8 (.ofNat (d 21)), .int .u8 (.ofNat (d 22)), .int .u8 (.ofNat (d 23)), .int .u8 (.ofNat (d 24)), .int .u8 (.ofNat (d 25)), .int .u8 (.ofNat (d 26)), .int .u8 (.ofNat (d 27)), .int .u8 (.ofNat (d 28)), .int .u8 (.ofNat (d 29)), .int .u8 (.ofNat (d 30)), .int .u8 (.ofNat (d 31)), .int .u8 (.ofNat (d 32)), .int .u8 (.ofNat (d 33)), .int .u8 (.ofNat (d 34)), .int .u8 (.ofNat (d 35)), .int .u8 (.ofNat (d 36)), .int .u8 (.ofNat (d 37)), .int .u8 (.ofNat (d 38)), .int .u8 (.ofNat (d 39)), .int .u8 (.ofNat (d 40)), .int .u8 (.ofNat (d 41)), .int .u8 (.ofNat (d 42)), .int .u8 (.ofNat (d 43)), .int .u8 (.ofNat (d 44)), .int .u8 (.ofNat (d 45)), .int .u8 (.ofNat (d 46)), .int .u8 (.ofNat (d 47)), .int .u8 (.ofNat (d 48)), .int .u8 (.ofNat (d 49)), .int .u8 (.ofNat (d 50)), .int .u8 (.ofNat (d 51)), .int .u8 (.ofNat (d 52)), .int .u8 (.ofNat (d 53)), .int .u8 (.ofNat (d 54)), .int .u8 (.ofNat (d 55)), .int .u8 (.ofNat (d 56)), .int .u8 (.ofNat (d 57)), .int .u8 (.ofNat (d 58)), .int .u8 (.ofNat (d 59)), .int .u8 (.ofNat (d 60)), .int .u8 (.ofNat (d 61)), .int .u8 (.ofNat (d 62)), .int .u8 (.ofNat (d 63)), .int .u8 (.ofNat (d 64)), .int .u8 (.ofNat (d 65)), .int .u8 (.ofNat (d 66)), .int .u8 (.ofNat (d 67)), .int .u8 (.ofNat (d 68)), .int .u8 (.ofNat (d 69)), .int .u8 (.ofNat (d 70)), .int .u8 (.ofNat (d 71)), .int .u8 (.ofNat (d 72)), .int .u8 (.ofNat (d 73)), .int .u8 (.ofNat (d 74)), .int .u8 (.ofNat (d 75)), .int .u8 (.ofNat (d 76)), .int .u8 (.ofNat (d 77)), .int .u8 (.ofNat (d 78)), .int .u8 (.ofNat (d 79)), .int .u8 (.ofNat (d 80)), .int .u8 (.ofNat (d 81)), .int .u8 (.ofNat (d 82)), .int .u8 (.ofNat (d 83)), .int .u8 (.ofNat (d 84)), .int .u8 (.ofNat (d 85)), .int .u8 (.ofNat (d 86)), .int .u8 (.ofNat (d 87)), .int .u8 (.ofNat (d 88)), .int .u8 (.ofNat (d 89)), .int .u8 (.ofNat (d 90)), .int .u8 (.ofNat (d 91)), .int .u8 (.ofNat (d 92)), .int .u8 (.ofNat (d 93)), .int .u8 (.ofNat (d 94)), .int .u8 (.ofNat (d 95)), .int .u8 (.ofNat (d 96)), .int .u8 (.ofNat (d 97)), .int .u8 (.ofNat (d 98)), .int .u8 (.ofNat (d 99)), .int .u8 (.ofNat (d 100)), .int .u8 (.ofNat (d 101)), .int .u8 (.ofNat (d 102)), .int .u8 (.ofNat (d 103)), .int .u8 (.ofNat (d 104)), .int .u8 (.ofNat (d 105)), .int .u8 (.ofNat (d 106)), .int .u8 (.ofNat (d 107)), .int .u8 (.ofNat (d 108)), .int .u8 (.ofNat (d 109)), .int .u8 (.ofNat (d 110)), .int .u8 (.ofNat (d 111)), .int .u8 (.ofNat (d 112)), .int .u8 (.ofNat (d 113)), .int .u8 (.ofNat (d 114)), .int .u8 (.ofNat (d 115)), .int .u8 (.ofNat (d 116)), .int .u8 (.ofNat (d 117)), .int .u8 (.ofNat (d 118)), .int .u8 (.ofNat (d 119)), .int .u8 (.ofNat (d 120)), .int .u8 (.ofNat (d 121)), .int .u8 (.ofNat (d 122)), .int .u8 (.ofNat (d 123)), .int .u8 (.ofNat (d 124)), .int .u8 (.ofNat (d 125)), .int .u8 (.ofNat (d 126)), .int .u8 (.ofNat (d 127)), .int .u8 (.ofNat (d 128)), .int .u8 (.ofNat (d 129)), .int .u8 (.ofNat (d 130)), .int .u8 (.ofNat (d 131)), .int .u8 (.ofNat (d 132)), .int .u8 (.ofNat (d 133)), .int .u8 (.ofNat (d 134)), .int .u8 (.ofNat (d 135)), .int .u8 (.ofNat (d 136)), .int .u8 (.ofNat (d 137)), .int .u8 (.ofNat (d 138)), .int .u8 (.ofNat (d 139)), .int .u8 (.ofNat (d 140)), .int .u8 (.ofNat (d 141)), .int .u8 (.ofNat (d 142)), .int .u8 (.ofNat (d 143)), .int .u8 (.ofNat (d 144)), .int .u8 (.ofNat (d 145)), .int .u8 (.ofNat (d 146)), .int .u8 (.ofNat (d 147)), .int .u8 (.ofNat (d 148)), .int .u8 (.ofNat (d 149)), .int .u8 (.ofNat (d 150)), .int .u8 (.ofNat (d 151)), .int .u8 (.ofNat (d 152)), .int .u8 (.ofNat (d 153)), .int .u8 (.ofNat (d 154)), .int .u8 (.ofNat (d 155)), .int .u8 (.ofNat (d 156)), .int .u8 (.ofNat (d 157)), .int .u8 (.ofNat (d 158)), .int .u8 (.ofNat (d 159)), .int .u8 (.ofNat (d 160)), .int .u8 (.ofNat (d 161)), .int .u8 (.ofNat (d 162)), .int .u8 (.ofNat (d 163)), .int .u8 (.ofNat (d 164)), .int .u8 (.ofNat (d 165)), .int .u8 (.ofNat (d 166)), .int .u8 (.ofNat (d 167)), .int .u8 (.ofNat (d 168)), .int .u8 (.ofNat (d 169)), .int .u8 (.ofNat (d 170)), .int .u8 (.ofNat (d 171)), .int .u8 (.ofNat (d 172)), .int .u8 (.ofNat (d 173)), .int .u8 (.ofNat (d 174)), .int .u8 (.ofNat (d 175)), .int .u8 (.ofNat (d 176)), .int .u8 (.ofNat (d 177)), .int .u8 (.ofNat (d 178)), .int .u8 (.ofNat (d 179)), .int .u8 (.ofNat (d 180)), .int .u8 (.ofNat (d 181)), .int .u8 (.ofNat (d 182)), .int .u8 (.ofNat (d 183)), .int .u8 (.ofNat (d 184)), .int .u8 (.ofNat (d 185)), .int .u8 (.ofNat (d 186)), .int .u8 (.ofNat (d 187)), .int .u8 (.ofNat (d 188)), .int .u8 (.ofNat (d 189)), .int .u8 (.ofNat (d 190)), .int .u8 (.ofNat (d 191)), .int .u8 (.ofNat (d 192)), .int .u8 (.ofNat (d 193)), .int .u8 (.ofNat (d 194)), .int .u8 (.ofNat (d 195)), .int .u8 (.ofNat (d 196)), .int .u8 (.ofNat (d 197)), .int .u8 (.ofNat (d 198)), .int .u8 (.ofNat (d 199)), .int .u8 (.ofNat (d 200)), .int .u8 (.ofNat (d 201)), .int .u8 (.ofNat (d 202)), .int .u8 (.ofNat (d 203)), .int .u8 (.ofNat (d 204)), .int .u8 (.ofNat (d 205)), .int .u8 (.ofNat (d 206)), .int .u8 (.ofNat (d 207)), .int .u8 (.ofNat (d 208)), .int .u8 (.ofNat (d 209)), .int .u8 (.ofNat (d 210)), .int .u8 (.ofNat (d 211)), .int .u8 (.ofNat (d 212)), .int .u8 (.ofNat (d 213)), .int .u8 (.ofNat (d 214)), .int .u8 (.ofNat (d 215)), .int .u8 (.ofNat (d 216)), .int .u8 (.ofNat (d 217)), .int .u8 (.ofNat (d 218)), .int .u8 (.ofNat (d 219)), .int .u8 (.ofNat (d 220)), .int .u8 (.ofNat (d 221)), .int .u8 (.ofNat (d 222)), .int .u8 (.ofNat (d 223)), .int .u8 (.ofNat (d 224)), .int .u8 (.ofNat (d 225)), .int .u8 (.ofNat (d 226)), .int .u8 (.ofNat (d 227)), .int .u8 (.ofNat (d 228)), .int .u8 (.ofNat (d 229)), .int .u8 (.ofNat (d 230)), .int .u8 (.ofNat (d 231)), .int .u8 (.ofNat (d 232)), .int .u8 (.ofNat (d 233)), .int .u8 (.ofNat (d 234)), .int .u8 (.ofNat (d 235)), .int .u8 (.ofNat (d 236)), .int .u8 (.ofNat (d 237)), .int .u8 (.ofNat (d 238)), .int .u8 (.ofNat (d 239)), .int .u8 (.ofNat (d 240)), .int .u8 (.ofNat (d 241)), .int .u8 (.ofNat (d 242)), .int .u8 (.ofNat (d 243)), .int .u8 (.ofNat (d 244)), .int .u8 (.ofNat (d 245)), .int .u8 (.ofNat (d 246)), .int .u8 (.ofNat (d 247)), .int .u8 (.ofNat (d 248)), .int .u8 (.ofNat (d 249)), .int .u8 (.ofNat (d 250)), .int .u8 (.ofNat (d 251)), .int .u8 (.ofNat (d 252)), .int .u8 (.ofNat (d 253)), .int .u8 (.ofNat (d 254)), .int .u8 (.ofNat (d 255))]
def zzL : List AV := [.int .u8 (.ofNat 0), .int .u8 (.ofNat 0), .int .u8 (.ofNat 0), .int .u8 (.ofNat 0), .int .u8 (.ofNat 0), .int .u8 (.ofNat 0), .int .u8 (.ofNat 0), .int .u8 (.ofNat 0), .int .u8 (.ofNat 0), .int .u8 (.ofNat 0), .int .u8 (.ofNat 0), .int .u8 (.ofNat 0), .int .u8 (.ofNat 0), .int .u8 (.ofNat 0), .int .u8 (.ofNat 0), .int .u8 (.ofNat 0), .int .u8 (.ofNat 0), .int .u8 (.ofNat 0), .int .u8 (.ofNat 0), .int .u8 (.ofNat 0), .int .u8 (.ofNat 0), .int .u8 (.ofNat 0), .int .u8 (.ofNat 0), .int .u8 (.ofNat 0), .int .u8 (.ofNat 0), .int .u8 (.ofNat 0), .int .u8 (.ofNat 0), .int .u8 (.ofNat 0), .int .u8 (.ofNat 0), .int .u8 (.ofNat 0), .int .u8 (.ofNat 0), .int .u8 (.ofNat 0), .int .u8 (.ofNat 0), .int .u8 (.ofNat 0), .int .u8 (.ofNat 0), .int .u8 (.ofNat 0), .int .u8 (.ofNat 0), .int .u8 (.ofNat 0), .int .u8 (.ofNat 0), .int .u8 (.ofNat 0), .int .u8 (.ofNat 0), .int .u8 (.ofNat 0), .int .u8 (.ofNat 0), .int .u8 (.ofNat 0), .int .u8 (.ofNat 0), .int .u8 (.ofNat 0), .int .u8 (.ofNat 0), .int .u8 (.ofNat 0), .int .u8 (.ofNat 0), .int .u8 (.ofNat 0), .int .u8 (.ofNat 0), .int .u8 (.ofNat 0), .int .u8 (.ofNat 0), .int .u8 (.ofNat 0), .int .u8 (.ofNat 0), .int .u8 (.ofNat 0), .int .u8 (.ofNat 0), .int .u8 (.ofNat 0), .int .u8 (.ofNat 0), .int .u8 (.ofNat 0), .int .u8 (.ofNat 0), .int .u8 (.ofNat 0), .int .u8 (.ofNat 0), .int .u8 (.ofNat 0), .int .u8 (.ofNat 0), .int .u8 (.ofNat 0), .int .u8 (.ofNat 0), .int .u8 (.ofNat 0), .int .u8 (.ofNat 0), .int .u8 (.ofNat 0), .int .u8 (.ofNat 0), .int .u8 (.ofNat 0), .int .u8 (.ofNat 0), .int .u8 (.ofNat 0), .int .u8 (.ofNat 0), .int .u8 (.ofNat 0), .int .u8 (.ofNat 0), .int .u8 (.ofNat 0), .int .u8 (.ofNat 0), .int .u8 (.ofNat 0), .int .u8 (.ofNat 0), .int .u8 (.ofNat 0), .int .u8 (.ofNat 0), .int .u8 (.ofNat 0), .int .u8 (.ofNat 0), .int .u8 (.ofNat 0), .int .u8 (.ofNat 0), .int .u8 (.ofNat 0), .int .u8 (.ofNat 0), .int .u8 (.ofNat 0), .int .u8 (.ofNat 0), .int .u8 (.ofNat 0), .int .u8 (.ofNat 0), .int .u8 (.ofNat 0), .int .u8 (.ofNat 0), .int .u8 (.ofNat 0), .int .u8 (.ofNat 0), .int .u8 (.ofNat 0), .int .u8 (.ofNat 0), .int .u8 (.ofNat 0), .int .u8 (.ofNat 0), .int .u8 (.ofNat 0), .int .u8 (.ofNat 0), .int .u8 (.ofNat 0), .int .u8 (.ofNat 0), .int .u8 (.ofNat 0), .int .u8 (.ofNat 0), .int .u8 (.ofNat 0), .int .u8 (.ofNat 0), .int .u8 (.ofNat 0), .int .u8 (.ofNat 0), .int .u8 (.ofNat 0), .int .u8 (.ofNat 0), .int .u8 (.ofNat 0), .int .u8 (.ofNat 0), .int .u8 (.ofNat 0), .int .u8 (.ofNat 0), .int .u8 (.ofNat 0), .int .u8 (.ofNat 0), .int .u8 (.ofNat 0), .int .u8 (.ofNat 0), .int .u8 (.ofNat 0), .int .u8 (.ofNat 0), .int .u8 (.ofNat 0), .int .u8 (.ofNat 0), .int .u8 (.ofNat 0), .int .u8 (.ofNat 0), .int .u8 (.ofNat 0), .int .u8 (.ofNat 0), .int .u8 (.ofNat 0), .int .u8 (.ofNat 0), .int .u8 (.ofNat 0), .int .u8 (.ofNat 0), .int .u8 (.ofNat 0), .int .u8 (.ofNat 0), .int .u8 (.ofNat 0), .int .u8 (.ofNat 0), .int .u8 (.ofNat 0), .int .u8 (.ofNat 0), .int .u8 (.ofNat 0), .int .u8 (.ofNat 0), .int .u8 (.ofNat 0), .int .u8 (.ofNat 0), .int .u8 (.ofNat 0), .int .u8 (.ofNat 0), .int .u8 (.ofNat 0), .int .u8 (.ofNat 0), .int .u8 (.ofNat 0), .int .u8 (.ofNat 0), .int .u8 (.ofNat 0), .int .u8 (.ofNat 0), .int .u8 (.ofNat 0), .int .u8 (.ofNat 0), .int .u8 (.ofNat 0), .int .u8 (.ofNat 0), .int .u8 (.ofNat 0), .int .u8 (.ofNat 0), .int .u8 (.ofNat 0), .int .u8 (.ofNat 0), .int .u8 (.ofNat 0), .int .u8 (.ofNat 0), .int .u8 (.ofNat 0), .int .u8 (.ofNat 0), .int .u8 (.ofNat 0), .int .u8 (.ofNat 0), .int .u8 (.ofNat 0), .int .u8 (.ofNat 0), .int .u8 (.ofNat 0), .int .u8 (.ofNat 0), .int .u8 (.ofNat 0), .int .u8 (.ofNat 0), .int .u8 (.ofNat 0), .int .u8 (.ofNat 0), .int .u8 (.ofNat 0), .int .u8 (.ofNat 0), .int .u8 (.ofNat 0), .int .u8 (.ofNat 0), .int .u8 (.ofNat 0), .int .u8 (.ofNat 0), .int .u8 (.ofNat 0), .int .u8 (.ofNat 0), .int .u8 (.ofNat 0), .int .u8 (.ofNat 0), .int .u8 (.ofNat 0), .int .u8 (.ofNat 0), .int .u8 (.ofNat 0), .int .u8 (.ofNat 0), .int .u8 (.ofNat 0), .int .u8 (.ofNat 0), .int .u8 (.ofNat 0), .int .u8 (.ofNat 0), .int .u8 (.ofNat 0), .int .u8 (.ofNat 0), .int .u8 (.ofNat 0), .int .u8 (.ofNat 0), .int .u8 (.ofNat 0), .int .u8 (.ofNat 0), .int .u8 (.ofNat 0), .int .u8 (.ofNat 0), .int .u8 (.ofNat 0), .int .u8 (.ofNat 0), .int .u8 (.ofNat 0), .int .u8 (.ofNat 0), .int .u8 (.ofNat 0), .int .u8 (.ofNat 0), .int .u8 (.ofNat 0), .int .u8 (.ofNat 0), .int .u8 (.ofNat 0), .int .u8 (.ofNat 0), .int .u8 (.ofNat 0), .int .u8 (.ofNat 0), .int .u8 (.ofNat 0), .int .u8 (.ofNat 0), .int .u8 (.ofNat 0), .int .u8 (.ofNat 0), .int .u8 (.ofNat 0), .int .u8 (.ofNat 0), .int .u8 (.ofNat 0), .int .u8 (.ofNat 0), .int .u8 (.ofNat 0), .int .u8 (.ofNat 0), .int .u8 (.ofNat 0), .int .u8 (.ofNat 0), .int .u8 (.ofNat 0), .int .u8 (.ofNat 0), .int .u8 (.ofNat 0), .int .u8 (.ofNat 0), .int .u8 (.ofNat 0), .int .u8 (.ofNat 0), .int .u8 (.ofNat 0), .int .u8 (.ofNat 0), .int .u8 (.ofNat 0), .int .u8 (.ofNat 0), .int .u8 (.ofNat 0), .int .u8 (.ofNat 0), .int .u8 (.ofNat 0), .int .u8 (.ofNat 0), .int .u8 (.ofNat 0), .int .u8 (.ofNat 0), .int .u8 (.ofNat 0), .int .u8 (.ofNat 0), .int .u8 (.ofNat 0), .int .u8 (.ofNat 0), .int .u8 (.ofNat 0), .int .u8 (.ofNat 0), .int .u8 (.ofNat 0), .int .u8 (.ofNat 0), .int .u8 (.ofNat 0), .int .u8 (.ofNat 0), .int .u8 (.ofNat 0), .int .u8 (.ofNat 0), .int .u8 (.ofNat 0), .int .u8 (.ofNat 0), .int .u8 (.ofNat 0), .int .u8 (.ofNat 0), .int .u8 (.ofNat 0)]
def acL (ak aw key nw at_ : Int) : List AV := [.int .i64 ak, .int .i64 aw, .int .u64 key, .int .u64 nw, .int .i64 at_]
def cmL (num who k blk : Int) (D A : List AV) : List AV := [.int .u64 num, .int .i64 who, .int .i64 k, .int .i64 blk] ++ (D ++ A)
noncomputable def EM : Env := envEx Tryz.prog [0, 3, 4, 5, 22, 23, 25, 26, 27, 29, 31, 211] [(13, Tryz.f13), (44, Tryz.f44), (50, Tryz.f50), (102, Tryz.f102), (103, Tryz.f103)] []
def flM : List (Nat × Fl) := [(44, ⟨[16], [9, 46], [21, 26, 31, 37], []⟩), (102, ⟨[], [], [39], []⟩), (103, ⟨[], [], [5, 9, 14, 19], []⟩), (13, ⟨[64, 72], [34, 49], [17, 22, 38, 43, 54, 77, 81, 86, 91, 96], []⟩), (50, fl1)]
abbrev cmK (k : Int) (num who blk ak aw key nw at_ : Int) (d : Nat → Nat) : List AV := cmL num who k blk (ddL d) (acL ak aw key nw at_)
noncomputable def tMy1 (num who blk ak aw key nw at_ : Int) (d : Nat → Nat) : Tr (AV × ASt) := (TM EM noSum flM fl1 60).call 44 [.agg (cmK 1 num who blk ak aw key nw at_ d), nI 64] M0
noncomputable def tMn1 (num who blk ak aw key nw at_ : Int) (d : Nat → Nat) : Tr (AV × ASt) := (TM EM noSum flM fl1 60).call 44 [.agg (cmK 1 num who blk ak aw key nw at_ d), nI 64] M0
noncomputable def tRy1 (num who blk ak aw key nw at_ : Int) (d : Nat → Nat) (y : Bool) : Tr (AV × ASt) := (TM EM noSum flM fl1 60).call 13 [.agg (cmK 1 num who blk ak aw key nw at_ d), nI 64] M0
noncomputable def tRn1 (num who blk ak aw key nw at_ : Int) (d : Nat → Nat) : Tr (AV × ASt) := (TM EM noSum flM fl1 60).call 13 [.agg (cmK 1 num who blk ak aw key nw at_ d), nI 64] M0
noncomputable def tMy2 (num who blk ak aw key nw at_ : Int) (d : Nat → Nat) : Tr (AV × ASt) := (TM EM noSum flM fl1 60).call 44 [.agg (cmK 2 num who blk ak aw key nw at_ d), nI 64] M0
noncomputable def tMn2 (num who blk ak aw key nw at_ : Int) (d : Nat → Nat) : Tr (AV × ASt) := (TM EM noSum flM fl1 60).call 44 [.agg (cmK 2 num who blk ak aw key nw at_ d), nI 64] M0
noncomputable def tRy2 (num who blk ak aw key nw at_ : Int) (d : Nat → Nat) (y : Bool) : Tr (AV × ASt) := (TM EM noSum flM fl1 60).call 13 [.agg (cmK 2 num who blk ak aw key nw at_ d), nI 64] M0
noncomputable def tMy3 (num who blk ak aw key nw at_ : Int) (d : Nat → Nat) : Tr (AV × ASt) := (TM EM noSum flM fl1 60).call 44 [.agg (cmK 3 num who blk ak aw key nw at_ d), nI 64] M0
noncomputable def tMn3 (num who blk ak aw key nw at_ : Int) (d : Nat → Nat) : Tr (AV × ASt) := (TM EM noSum flM fl1 60).call 44 [.agg (cmK 3 num who blk ak aw key nw at_ d), nI 64] M0
noncomputable def tRy3 (num who blk ak aw key nw at_ : Int) (d : Nat → Nat) (y : Bool) : Tr (AV × ASt) := (TM EM noSum flM fl1 60).call 13 [.agg (cmK 3 num who blk ak aw key nw at_ d), nI 64] M0
noncomputable def tRn3 (num who blk ak aw key nw at_ : Int) (d : Nat → Nat) : Tr (AV × ASt) := (TM EM noSum flM fl1 60).call 13 [.agg (cmK 3 num who blk ak aw key nw at_ d), nI 64] M0
noncomputable def tMy4 (num who blk ak aw key nw at_ : Int) (d : Nat → Nat) : Tr (AV × ASt) := (TM EM noSum flM fl1 60).call 44 [.agg (cmK 4 num who blk ak aw key nw at_ d), nI 64] M0
noncomputable def tMn4 (num who blk ak aw key nw at_ : Int) (d : Nat → Nat) : Tr (AV × ASt) := (TM EM noSum flM fl1 60).call 44 [.agg (cmK 4 num who blk ak aw key nw at_ d), nI 64] M0
noncomputable def tRy4 (num who blk ak aw key nw at_ : Int) (d : Nat → Nat) (y : Bool) : Tr (AV × ASt) := (TM EM noSum flM fl1 60).call 13 [.agg (cmK 4 num who blk ak aw key nw at_ d), nI 64] M0
noncomputable def tRn4 (num who blk ak aw key nw at_ : Int) (d : Nat → Nat) : Tr (AV × ASt) := (TM EM noSum flM fl1 60).call 13 [.agg (cmK 4 num who blk ak aw key nw at_ d), nI 64] M0
noncomputable def tMy5 (num who blk ak aw key nw at_ : Int) (d : Nat → Nat) : Tr (AV × ASt) := (TM EM noSum flM fl1 60).call 44 [.agg (cmK 5 num who blk ak aw key nw at_ d), nI 64] M0
noncomputable def tMn5 (num who blk ak aw key nw at_ : Int) (d : Nat → Nat) : Tr (AV × ASt) := (TM EM noSum flM fl1 60).call 44 [.agg (cmK 5 num who blk ak aw key nw at_ d), nI 64] M0
noncomputable def tRy5 (num who blk ak aw key nw at_ : Int) (d : Nat → Nat) (y : Bool) : Tr (AV × ASt) := (TM EM noSum flM fl1 60).call 13 [.agg (cmK 5 num who blk ak aw key nw at_ d), nI 64] M0
noncomputable def tRn5 (num who blk ak aw key nw at_ : Int) (d : Nat → Nat) : Tr (AV × ASt) := (TM EM noSum flM fl1 60).call 13 [.agg (cmK 5 num who blk ak aw key nw at_ d), nI 64] M0
noncomputable def tMy6 (num who blk ak aw key nw at_ : Int) (d : Nat → Nat) : Tr (AV × ASt) := (TM EM noSum flM fl1 60).call 44 [.agg (cmK 6 num who blk ak aw key nw at_ d), nI 64] M0
noncomputable def tMn6 (num who blk ak aw key nw at_ : Int) (d : Nat → Nat) : Tr (AV × ASt) := (TM EM noSum flM fl1 60).call 44 [.agg (cmK 6 num who blk ak aw key nw at_ d), nI 64] M0
noncomputable def tRy6 (num who blk ak aw key nw at_ : Int) (d : Nat → Nat) (y : Bool) : Tr (AV × ASt) := (TM EM noSum flM fl1 60).call 13 [.agg (cmK 6 num who blk ak aw key nw at_ d), nI 64] M0
noncomputable def tRn6 (num who blk ak aw key nw at_ : Int) (d : Nat → Nat) : Tr (AV × ASt) := (TM EM noSum flM fl1 60).call 13 [.agg (cmK 6 num who blk ak aw key nw at_ d), nI 64] M0
noncomputable def tMy7 (num who blk ak aw key nw at_ : Int) (d : Nat → Nat) : Tr (AV × ASt) := (TM EM noSum flM fl1 60).call 44 [.agg (cmK 7 num who blk ak aw key nw at_ d), nI 64] M0
noncomputable def tMn7 (num who blk ak aw key nw at_ : Int) (d : Nat → Nat) : Tr (AV × ASt) := (TM EM noSum flM fl1 60).call 44 [.agg (cmK 7 num who blk ak aw key nw at_ d), nI 64] M0
noncomputable def tRy7 (num who blk ak aw key nw at_ : Int) (d : Nat → Nat) : Tr (AV × ASt) := (TM EM noSum flM fl1 60).call 13 [.agg (cmK 7 num who blk ak aw key nw at_ d), nI 64] M0
noncomputable def tRn7 (num who blk ak aw key nw at_ : Int) (d : Nat → Nat) : Tr (AV × ASt) := (TM EM noSum flM fl1 60).call 13 [.agg (cmK 7 num who blk ak aw key nw at_ d), nI 64] M0
noncomputable def vcMy1_s0 (num : Int) (who : Int) (blk : Int) (ak : Int) (aw : Int) (key : Int) (nw : Int) (at_ : Int) (d : Nat → Nat) : ASt := mkSt [(0, .cells ([.int .u64 num, .int .i64 who, .int .i64 (.ofNat 1), .int .i64 blk] ++ (ddL d ++ [.int .i64 ak, .int .i64 aw, .int .u64 key, .int .u64 nw, .int .i64 at_])) true), (1, .cells ([.int .u64 num, .int .i64 who, .int .i64 (.ofNat 1), .int .i64 blk] ++ (ddL d ++ [.int .i64 ak, .int .i64 aw, .int .u64 key, .int .u64 nw, .int .i64 at_])) true), (2, .cells ([.int .u64 num, .int .i64 who, .int .i64 (.ofNat 1), .int .i64 blk] ++ (zzL ++ [.int .i64 (.ofNat 0), .int .i64 (.ofNat 0), .int .u64 (.ofNat 0), .int .u64 (.ofNat 0), .int .i64 (.ofNat 0)])) true), (3, .cells ([.int .u64 num, .int .i64 who, .int .i64 (.ofNat 1), .int .i64 blk] ++ (zzL ++ [.int .i64 (.ofNat 0), .int .i64 (.ofNat 0), .int .u64 (.ofNat 0), .int .u64 (.ofNat 0), .int .i64 (.ofNat 0)])) true), (4, .cells ([.int .u64 num, .int .i64 who, .int .i64 (.ofNat 1), .int .i64 blk] ++ (zzL ++ [.int .i64 (.ofNat 0), .int .i64 (.ofNat 0), .int .u64 (.ofNat 0), .int .u64 (.ofNat 0), .int .i64 (.ofNat 0)])) true)] 5
noncomputable def vcMy1_s1 : ASt := mkSt [] 6
noncomputable def vcMy1_s2 : ASt := mkSt [] 5
theorem vcMy1 (num : Int) (who : Int) (blk : Int) (ak : Int) (aw : Int) (key : Int) (nw : Int) (at_ : Int) (d : Nat → Nat) (Q : AV × ASt → Prop) :
  (still (vcMy1_s0 num who blk ak aw key nw at_ d) (aBin EM .eql 31 (.tmp 14) (.tmp 15) (.agg ([.int .u64 num, .int .i64 who, .int .i64 (.ofNat 1), .int .i64 blk] ++ (zzL ++ [.int .i64 (.ofNat 0), .int .i64 (.ofNat 0), .int .u64 (.ofNat 0), .int .u64 (.ofNat 0), .int .i64 (.ofNat 0)]))) (.agg ([.int .u64 num, .int .i64 who, .int .i64 (.ofNat 1), .int .i64 blk] ++ (ddL d ++ [.int .i64 ak, .int .i64 aw, .int .u64 key, .int .u64 nw, .int .i64 at_])))) = some (.bool true, vcMy1_s0 num who blk ak aw key nw at_ d) ∧ ifB (!ltF who (.ofNat 0)) (ifB (ltF who (.ofNat 16)) (ifB (!ltF blk (.ofNat 0)) (ifB (ltF blk (.ofNat 64)) (ifB (!ltF ak (.ofNat 0)) (ifB (!ltF (.ofNat 255) ak) (ifB (!ltF at_ (.ofNat 0)) (ifB (!ltF (.ofNat 255) at_) (Q (.bool true, vcMy1_s1)) (Q (.bool false, vcMy1_s1))) (Q (.bool false, vcMy1_s1))) (Q (.bool false, vcMy1_s1))) (Q (.bool false, vcMy1_s1))) (Q (.bool false, vcMy1_s2))) (Q (.bool false, vcMy1_s2))) (Q (.bool false, vcMy1_s2))) (Q (.bool false, vcMy1_s2))) =
  (tMy1 num who blk ak aw key nw at_ d).allY (fun r => Q (r.1, canS [] r.2)) (.v (.bool true, vcMy1_s0 num who blk ak aw key nw at_ d) (.b (.b (.b (.b (.b (.b (.b (.b .nil .nil) .nil) .nil) .nil) .nil) .nil) .nil) .nil)) := by kernel_rfl
noncomputable def vcMn1_s0 (num : Int) (who : Int) (blk : Int) (ak : Int) (aw : Int) (key : Int) (nw : Int) (at_ : Int) (d : Nat → Nat) : ASt := mkSt [(0, .cells ([.int .u64 num, .int .i64 who, .int .i64 (.ofNat 1), .int .i64 blk] ++ (ddL d ++ [.int .i64 ak, .int .i64 aw, .int .u64 key, .int .u64 nw, .int .i64 at_])) true), (1, .cells ([.int .u64 num, .int .i64 who, .int .i64 (.ofNat 1), .int .i64 blk] ++ (ddL d ++ [.int .i64 ak, .int .i64 aw, .int .u64 key, .int .u64 nw, .int .i64 at_])) true), (2, .cells ([.int .u64 num, .int .i64 who, .int .i64 (.ofNat 1), .int .i64 blk] ++ (zzL ++ [.int .i64 (.ofNat 0), .int .i64 (.ofNat 0), .int .u64 (.ofNat 0), .int .u64 (.ofNat 0), .int .i64 (.ofNat 0)])) true), (3, .cells ([.int .u64 num, .int .i64 who, .int .i64 (.ofNat 1), .int .i64 blk] ++ (zzL ++ [.int .i64 (.ofNat 0), .int .i64 (.ofNat 0), .int .u64 (.ofNat 0), .int .u64 (.ofNat 0), .int .i64 (.ofNat 0)])) true), (4, .cells ([.int .u64 num, .int .i64 who, .int .i64 (.ofNat 1), .int .i64 blk] ++ (zzL ++ [.int .i64 (.ofNat 0), .int .i64 (.ofNat 0), .int .u64 (.ofNat 0), .int .u64 (.ofNat 0), .int .i64 (.ofNat 0)])) true)] 5
noncomputable def vcMn1_s1 : ASt := mkSt [] 5
theorem vcMn1 (num : Int) (who : Int) (blk : Int) (ak : Int) (aw : Int) (key : Int) (nw : Int) (at_ : Int) (d : Nat → Nat) (Q : AV × ASt → Prop) :
  (still (vcMn1_s0 num who blk ak aw key nw at_ d) (aBin EM .eql 31 (.tmp 14) (.tmp 15) (.agg ([.int .u64 num, .int .i64 who, .int .i64 (.ofNat 1), .int .i64 blk] ++ (zzL ++ [.int .i64 (.ofNat 0), .int .i64 (.ofNat 0), .int .u64 (.ofNat 0), .int .u64 (.ofNat 0), .int .i64 (.ofNat 0)]))) (.agg ([.int .u64 num, .int .i64 who, .int .i64 (.ofNat 1), .int .i64 blk] ++ (ddL d ++ [.int .i64 ak, .int .i64 aw, .int .u64 key, .int .u64 nw, .int .i64 at_])))) = some (.bool false, vcMn1_s0 num who blk ak aw key nw at_ d) ∧ Q (.bool false, vcMn1_s1)) =
  (tMn1 num who blk ak aw key nw at_ d).allY (fun r => Q (r.1, canS [] r.2)) (.v (.bool false, vcMn1_s0 num who blk ak aw key nw at_ d) .nil) := by kernel_rfl
noncomputable def vcRy1_s0 : ASt := mkSt [] 1
noncomputable def vcRy1_s1 (num : Int) (who : Int) (blk : Int) (ak : Int) (aw : Int) (key : Int) (nw : Int) (at_ : Int) (d : Nat → Nat) : ASt := mkSt [(0, .cells ([.int .u64 num, .int .i64 who, .int .i64 (.ofNat 1), .int .i64 blk] ++ (ddL d ++ [.int .i64 ak, .int .i64 aw, .int .u64 key, .int .u64 nw, .int .i64 at_])) true)] 1
theorem vcRy1 (num : Int) (who : Int) (blk : Int) (ak : Int) (aw : Int) (key : Int) (nw : Int) (at_ : Int) (d : Nat → Nat) (y : Bool) (Q : AV × ASt → Prop) :
  (ifB (ltF who (.ofNat 0)) (Q (.bool false, vcRy1_s0)) (ifB (ltF (.ofNat 15) who) (Q (.bool false, vcRy1_s0)) (ifB (ltF blk (.ofNat 0)) (Q (.bool false, vcRy1_s0)) (ifB (!ltF blk (.ofNat 64)) (Q (.bool false, vcRy1_s0)) (still (vcRy1_s1 num who blk ak aw key nw at_ d) (aBin EM .neq 25 (.tmp 62) (.tmp 63) (.agg (ddL d)) (.agg (zzL))) = some (.bool false, vcRy1_s1 num who blk ak aw key nw at_ d) ∧ still (vcRy1_s1 num who blk ak aw key nw at_ d) (aBin EM .eql 29 (.tmp 70) (.tmp 71) (.agg [.int .i64 ak, .int .i64 aw, .int .u64 key, .int .u64 nw, .int .i64 at_]) (.agg [.int .i64 (.ofNat 0), .int .i64 (.ofNat 0), .int .u64 (.ofNat 0), .int .u64 (.ofNat 0), .int .i64 (.ofNat 0)])) = some (.bool y, vcRy1_s1 num who blk ak aw key nw at_ d) ∧ Q (.bool y, vcRy1_s0)))))) =
  (tRy1 num who blk ak aw key nw at_ d y).allY (fun r => Q (r.1, canS [] r.2)) (.b .nil (.b .nil (.b .nil (.b .nil (.v (.bool false, vcRy1_s1 num who blk ak aw key nw at_ d) (.v (.bool y, vcRy1_s1 num who blk ak aw key nw at_ d) .nil)))))) := by kernel_rfl
noncomputable def vcRn1_s0 : ASt := mkSt [] 1
noncomputable def vcRn1_s1 (num : Int) (who : Int) (blk : Int) (ak : Int) (aw : Int) (key : Int) (nw : Int) (at_ : Int) (d : Nat → Nat) : ASt := mkSt [(0, .cells ([.int .u64 num, .int .i64 who, .int .i64 (.ofNat 1), .int .i64 blk] ++ (ddL d ++ [.int .i64 ak, .int .i64 aw, .int .u64 key, .int .u64 nw, .int .i64 at_])) true)] 1
theorem vcRn1 (num : Int) (who : Int) (blk : Int) (ak : Int) (aw : Int) (key : Int) (nw : Int) (at_ : Int) (d : Nat → Nat) (Q : AV × ASt → Prop) :
  (ifB (ltF who (.ofNat 0)) (Q (.bool false, vcRn1_s0)) (ifB (ltF (.ofNat 15) who) (Q (.bool false, vcRn1_s0)) (ifB (ltF blk (.ofNat 0)) (Q (.bool false, vcRn1_s0)) (ifB (!ltF blk (.ofNat 64)) (Q (.bool false, vcRn1_s0)) (still (vcRn1_s1 num who blk ak aw key nw at_ d) (aBin EM .neq 25 (.tmp 62) (.tmp 63) (.agg (ddL d)) (.agg (zzL))) = some (.bool true, vcRn1_s1 num who blk ak aw key nw at_ d) ∧ Q (.bool false, vcRn1_s0)))))) =
  (tRn1 num who blk ak aw key nw at_ d).allY (fun r => Q (r.1, canS [] r.2)) (.b .nil (.b .nil (.b .nil (.b .nil (.v (.bool true, vcRn1_s1 num who blk ak aw key nw at_ d) .nil))))) := by kernel_rfl
noncomputable def vcMy2_s0 (num : Int) (who : Int) (blk : Int) (ak : Int) (aw : Int) (key : Int) (nw : Int) (at_ : Int) (d : Nat → Nat) : ASt := mkSt [(0, .cells ([.int .u64 num, .int .i64 who, .int .i64 (.ofNat 2), .int .i64 blk] ++ (ddL d ++ [.int .i64 ak, .int .i64 aw, .int .u64 key, .int .u64 nw, .int .i64 at_])) true), (1, .cells ([.int .u64 num, .int .i64 who, .int .i64 (.ofNat 2), .int .i64 blk] ++ (ddL d ++ [.int .i64 ak, .int .i64 aw, .int .u64 key, .int .u64 nw, .int .i64 at_])) true), (2, .cells ([.int .u64 num, .int .i64 who, .int .i64 (.ofNat 2), .int .i64 blk] ++ (ddL d ++ [.int .i64 (.ofNat 0), .int .i64 (.ofNat 0), .int .u64 (.ofNat 0), .int .u64 (.ofNat 0), .int .i64 (.ofNat 0)])) true), (3, .cells ([.int .u64 num, .int .i64 who, .int .i64 (.ofNat 2), .int .i64 blk] ++ (ddL d ++ [.int .i64 (.ofNat 0), .int .i64 (.ofNat 0), .int .u64 (.ofNat 0), .int .u64 (.ofNat 0), .int .i64 (.ofNat 0)])) true), (4, .cells ([.int .u64 num, .int .i64 who, .int .i64 (.ofNat 2), .int .i64 blk] ++ (ddL d ++ [.int .i64 (.ofNat 0), .int .i64 (.ofNat 0), .int .u64 (.ofNat 0), .int .u64 (.ofNat 0), .int .i64 (.ofNat 0)])) true)] 5
noncomputable def vcMy2_s1 : ASt := mkSt [] 6
noncomputable def vcMy2_s2 : ASt := mkSt [] 5
theorem vcMy2 (num : Int) (who : Int) (blk : Int) (ak : Int) (aw : Int) (key : Int) (nw : Int) (at_ : Int) (d : Nat → Nat) (Q : AV × ASt → Prop) :
  (still (vcMy2_s0 num who blk ak aw key nw at_ d) (aBin EM .eql 31 (.tmp 14) (.tmp 15) (.agg ([.int .u64 num, .int .i64 who, .int .i64 (.ofNat 2), .int .i64 blk] ++ (ddL d ++ [.int .i64 (.ofNat 0), .int .i64 (.ofNat 0), .int .u64 (.ofNat 0), .int .u64 (.ofNat 0), .int .i64 (.ofNat 0)]))) (.agg ([.int .u64 num, .int .i64 who, .int .i64 (.ofNat 2), .int .i64 blk] ++ (ddL d ++ [.int .i64 ak, .int .i64 aw, .int .u64 key, .int .u64 nw, .int .i64 at_])))) = some (.bool true, vcMy2_s0 num who blk ak aw key nw at_ d) ∧ ifB (!ltF who (.ofNat 0)) (ifB (ltF who (.ofNat 16)) (ifB (!ltF blk (.ofNat 0)) (ifB (ltF blk (.ofNat 64)) (ifB (!ltF ak (.ofNat 0)) (ifB (!ltF (.ofNat 255) ak) (ifB (!ltF at_ (.ofNat 0)) (ifB (!ltF (.ofNat 255) at_) (Q (.bool true, vcMy2_s1)) (Q (.bool false, vcMy2_s1))) (Q (.bool false, vcMy2_s1))) (Q (.bool false, vcMy2_s1))) (Q (.bool false, vcMy2_s1))) (Q (.bool false, vcMy2_s2))) (Q (.bool false, vcMy2_s2))) (Q (.bool false, vcMy2_s2))) (Q (.bool false, vcMy2_s2))) =
  (tMy2 num who blk ak aw key nw at_ d).allY (fun r => Q (r.1, canS [] r.2)) (.v (.bool true, vcMy2_s0 num who blk ak aw key nw at_ d) (.b (.b (.b (.b (.b (.b (.b (.b .nil .nil) .nil) .nil) .nil) .nil) .nil) .nil) .nil)) := by kernel_rfl
noncomputable def vcMn2_s0 (num : Int) (who : Int) (blk : Int) (ak : Int) (aw : Int) (key : Int) (nw : Int) (at_ : Int) (d : Nat → Nat) : ASt := mkSt [(0, .cells ([.int .u64 num, .int .i64 who, .int .i64 (.ofNat 2), .int .i64 blk] ++ (ddL d ++ [.int .i64 ak, .int .i64 aw, .int .u64 key, .int .u64 nw, .int .i64 at_])) true), (1, .cells ([.int .u64 num, .int .i64 who, .int .i64 (.ofNat 2), .int .i64 blk] ++ (ddL d ++ [.int .i64 ak, .int .i64 aw, .int .u64 key, .int .u64 nw, .int .i64 at_])) true), (2, .cells ([.int .u64 num, .int .i64 who, .int .i64 (.ofNat 2), .int .i64 blk] ++ (ddL d ++ [.int .i64 (.ofNat 0), .int .i64 (.ofNat 0), .int .u64 (.ofNat 0), .int .u64 (.ofNat 0), .int .i64 (.ofNat 0)])) true), (3, .cells ([.int .u64 num, .int .i64 who, .int .i64 (.ofNat 2), .int .i64 blk] ++ (ddL d ++ [.int .i64 (.ofNat 0), .int .i64 (.ofNat 0), .int .u64 (.ofNat 0), .int .u64 (.ofNat 0), .int .i64 (.ofNat 0)])) true), (4, .cells ([.int .u64 num, .int .i64 who, .int .i64 (.ofNat 2), .int .i64 blk] ++ (ddL d ++ [.int .i64 (.ofNat 0), .int .i64 (.ofNat 0), .int .u64 (.ofNat 0), .int .u64 (.ofNat 0), .int .i64 (.ofNat 0)])) true)] 5
noncomputable def vcMn2_s1 : ASt := mkSt [] 5
theorem vcMn2 (num : Int) (who : Int) (blk : Int) (ak : Int) (aw : Int) (key : Int) (nw : Int) (at_ : Int) (d : Nat → Nat) (Q : AV × ASt → Prop) :
  (still (vcMn2_s0 num who blk ak aw key nw at_ d) (aBin EM .eql 31 (.tmp 14) (.tmp 15) (.agg ([.int .u64 num, .int .i64 who, .int .i64 (.ofNat 2), .int .i64 blk] ++ (ddL d ++ [.int .i64 (.ofNat 0), .int .i64 (.ofNat 0), .int .u64 (.ofNat 0), .int .u64 (.ofNat 0), .int .i64 (.ofNat 0)]))) (.agg ([.int .u64 num, .int .i64 who, .int .i64 (.ofNat 2), .int .i64 blk] ++ (ddL d ++ [.int .i64 ak, .int .i64 aw, .int .u64 key, .int .u64 nw, .int .i64 at_])))) = some (.bool false, vcMn2_s0 num who blk ak aw key nw at_ d) ∧ Q (.bool false, vcMn2_s1)) =
  (tMn2 num who blk ak aw key nw at_ d).allY (fun r => Q (r.1, canS [] r.2)) (.v (.bool false, vcMn2_s0 num who blk ak aw key nw at_ d) .nil) := by kernel_rfl
noncomputable def vcRy2_s0 : ASt := mkSt [] 1
noncomputable def vcRy2_s1 (num : Int) (who : Int) (blk : Int) (ak : Int) (aw : Int) (key : Int) (nw : Int) (at_ : Int) (d : Nat → Nat) : ASt := mkSt [(0, .cells ([.int .u64 num, .int .i64 who, .int .i64 (.ofNat 2), .int .i64 blk] ++ (ddL d ++ [.int .i64 ak, .int .i64 aw, .int .u64 key, .int .u64 nw, .int .i64 at_])) true)] 1
theorem vcRy2 (num : Int) (who : Int) (blk : Int) (ak : Int) (aw : Int) (key : Int) (nw : Int) (at_ : Int) (d : Nat → Nat) (y : Bool) (Q : AV × ASt → Prop) :
  (ifB (ltF who (.ofNat 0)) (Q (.bool false, vcRy2_s0)) (ifB (ltF (.ofNat 15) who) (Q (.bool false, vcRy2_s0)) (ifB (ltF blk (.ofNat 0)) (Q (.bool false, vcRy2_s0)) (ifB (!ltF blk (.ofNat 64)) (Q (.bool false, vcRy2_s0)) (still (vcRy2_s1 num who blk ak aw key nw at_ d) (aBin EM .eql 29 (.tmp 70) (.tmp 71) (.agg [.int .i64 ak, .int .i64 aw, .int .u64 key, .int .u64 nw, .int .i64 at_]) (.agg [.int .i64 (.ofNat 0), .int .i64 (.ofNat 0), .int .u64 (.ofNat 0), .int .u64 (.ofNat 0), .int .i64 (.ofNat 0)])) = some (.bool y, vcRy2_s1 num who blk ak aw key nw at_ d) ∧ Q (.bool y, vcRy2_s0)))))) =
  (tRy2 num who blk ak aw key nw at_ d y).allY (fun r => Q (r.1, canS [] r.2)) (.b .nil (.b .nil (.b .nil (.b .nil (.v (.bool y, vcRy2_s1 num who blk ak aw key nw at_ d) .nil))))) := by kernel_rfl
noncomputable def vcMy3_s0 (num : Int) (who : Int) (blk : Int) (ak : Int) (aw : Int) (key : Int) (nw : Int) (at_ : Int) (d : Nat → Nat) : ASt := mkSt [(0, .cells ([.int .u64 num, .int .i64 who, .int .i64 (.ofNat 3), .int .i64 blk] ++ (ddL d ++ [.int .i64 ak, .int .i64 aw, .int .u64 key, .int .u64 nw, .int .i64 at_])) true), (1, .cells ([.int .u64 num, .int .i64 who, .int .i64 (.ofNat 3), .int .i64 blk] ++ (ddL d ++ [.int .i64 ak, .int .i64 aw, .int .u64 key, .int .u64 nw, .int .i64 at_])) true), (2, .cells ([.int .u64 num, .int .i64 who, .int .i64 (.ofNat 3), .int .i64 (.ofNat 0)] ++ (zzL ++ [.int .i64 (.ofNat 0), .int .i64 (.ofNat 0), .int .u64 (.ofNat 0), .int .u64 (.ofNat 0), .int .i64 (.ofNat 0)])) true), (3, .cells ([.int .u64 num, .int .i64 who, .int .i64 (.ofNat 3), .int .i64 (.ofNat 0)] ++ (zzL ++ [.int .i64 (.ofNat 0), .int .i64 (.ofNat 0), .int .u64 (.ofNat 0), .int .u64 (.ofNat 0), .int .i64 (.ofNat 0)])) true), (4, .cells ([.int .u64 num, .int .i64 who, .int .i64 (.ofNat 3), .int .i64 (.ofNat 0)] ++ (zzL ++ [.int .i64 (.ofNat 0), .int .i64 (.ofNat 0), .int .u64 (.ofNat 0), .int .u64 (.ofNat 0), .int .i64 (.ofNat 0)])) true)] 5
noncomputable def vcMy3_s1 : ASt := mkSt [] 6
noncomputable def vcMy3_s2 : ASt := mkSt [] 5
theorem vcMy3 (num : Int) (who : Int) (blk : Int) (ak : Int) (aw : Int) (key : Int) (nw : Int) (at_ : Int) (d : Nat → Nat) (Q : AV × ASt → Prop) :
  (still (vcMy3_s0 num who blk ak aw key nw at_ d) (aBin EM .eql 31 (.tmp 14) (.tmp 15) (.agg ([.int .u64 num, .int .i64 who, .int .i64 (.ofNat 3), .int .i64 (.ofNat 0)] ++ (zzL ++ [.int .i64 (.ofNat 0), .int .i64 (.ofNat 0), .int .u64 (.ofNat 0), .int .u64 (.ofNat 0), .int .i64 (.ofNat 0)]))) (.agg ([.int .u64 num, .int .i64 who, .int .i64 (.ofNat 3), .int .i64 blk] ++ (ddL d ++ [.int .i64 ak, .int .i64 aw, .int .u64 key, .int .u64 nw, .int .i64 at_])))) = some (.bool true, vcMy3_s0 num who blk ak aw key nw at_ d) ∧ ifB (!ltF who (.ofNat 0)) (ifB (ltF who (.ofNat 16)) (ifB (!ltF blk (.ofNat 0)) (ifB (ltF blk (.ofNat 64)) (ifB (!ltF ak (.ofNat 0)) (ifB (!ltF (.ofNat 255) ak) (ifB (!ltF at_ (.ofNat 0)) (ifB (!ltF (.ofNat 255) at_) (Q (.bool true, vcMy3_s1)) (Q (.bool false, vcMy3_s1))) (Q (.bool false, vcMy3_s1))) (Q (.bool false, vcMy3_s1))) (Q (.bool false, vcMy3_s1))) (Q (.bool false, vcMy3_s2))) (Q (.bool false, vcMy3_s2))) (Q (.bool false, vcMy3_s2))) (Q (.bool false, vcMy3_s2))) =
  (tMy3 num who blk ak aw key nw at_ d).allY (fun r => Q (r.1, canS [] r.2)) (.v (.bool true, vcMy3_s0 num who blk ak aw key nw at_ d) (.b (.b (.b (.b (.b (.b (.b (.b .nil .nil) .nil) .nil) .nil) .nil) .nil) .nil) .nil)) := by kernel_rfl
noncomputable def vcMn3_s0 (num : Int) (who : Int) (blk : Int) (ak : Int) (aw : Int) (key : Int) (nw : Int) (at_ : Int) (d : Nat → Nat) : ASt := mkSt [(0, .cells ([.int .u64 num, .int .i64 who, .int .i64 (.ofNat 3), .int .i64 blk] ++ (ddL d ++ [.int .i64 ak, .int .i64 aw, .int .u64 key, .int .u64 nw, .int .i64 at_])) true), (1, .cells ([.int .u64 num, .int .i64 who, .int .i64 (.ofNat 3), .int .i64 blk] ++ (ddL d ++ [.int .i64 ak, .int .i64 aw, .int .u64 key, .int .u64 nw, .int .i64 at_])) true), (2, .cells ([.int .u64 num, .int .i64 who, .int .i64 (.ofNat 3), .int .i64 (.ofNat 0)] ++ (zzL ++ [.int .i64 (.ofNat 0), .int .i64 (.ofNat 0), .int .u64 (.ofNat 0), .int .u64 (.ofNat 0), .int .i64 (.ofNat 0)])) true), (3, .cells ([.int .u64 num, .int .i64 who, .int .i64 (.ofNat 3), .int .i64 (.ofNat 0)] ++ (zzL ++ [.int .i64 (.ofNat 0), .int .i64 (.ofNat 0), .int .u64 (.ofNat 0), .int .u64 (.ofNat 0), .int .i64 (.ofNat 0)])) true), (4, .cells ([.int .u64 num, .int .i64 who, .int .i64 (.ofNat 3), .int .i64 (.ofNat 0)] ++ (zzL ++ [.int .i64 (.ofNat 0), .int .i64 (.ofNat 0), .int .u64 (.ofNat 0), .int .u64 (.ofNat 0), .int .i64 (.ofNat 0)])) true)] 5
noncomputable def vcMn3_s1 : ASt := mkSt [] 5
theorem vcMn3 (num : Int) (who : Int) (blk : Int) (ak : Int) (aw : Int) (key : Int) (nw : Int) (at_ : Int) (d : Nat → Nat) (Q : AV × ASt → Prop) :
  (still (vcMn3_s0 num who blk ak aw key nw at_ d) (aBin EM .eql 31 (.tmp 14) (.tmp 15) (.agg ([.int .u64 num, .int .i64 who, .int .i64 (.ofNat 3), .int .i64 (.ofNat 0)] ++ (zzL ++ [.int .i64 (.ofNat 0), .int .i64 (.ofNat 0), .int .u64 (.ofNat 0), .int .u64 (.ofNat 0), .int .i64 (.ofNat 0)]))) (.agg ([.int .u64 num, .int .i64 who, .int .i64 (.ofNat 3), .int .i64 blk] ++ (ddL d ++ [.int .i64 ak, .int .i64 aw, .int .u64 key, .int .u64 nw, .int .i64 at_])))) = some (.bool false, vcMn3_s0 num who blk ak aw key nw at_ d) ∧ Q (.bool false, vcMn3_s1)) =
  (tMn3 num who blk ak aw key nw at_ d).allY (fun r => Q (r.1, canS [] r.2)) (.v (.bool false, vcMn3_s0 num who blk ak aw key nw at_ d) .nil) := by kernel_rfl
noncomputable def vcRy3_s0 : ASt := mkSt [] 1
noncomputable def vcRy3_s1 (num : Int) (who : Int) (blk : Int) (ak : Int) (aw : Int) (key : Int) (nw : Int) (at_ : Int) (d : Nat → Nat) : ASt := mkSt [(0, .cells ([.int .u64 num, .int .i64 who, .int .i64 (.ofNat 3), .int .i64 blk] ++ (ddL d ++ [.int .i64 ak, .int .i64 aw, .int .u64 key, .int .u64 nw, .int .i64 at_])) true)] 1
theorem vcRy3 (num : Int) (who : Int) (blk : Int) (ak : Int) (aw : Int) (key : Int) (nw : Int) (at_ : Int) (d : Nat → Nat) (y : Bool) (Q : AV × ASt → Prop) :
  (ifB (ltF who (.ofNat 0)) (Q (.bool false, vcRy3_s0)) (ifB (ltF (.ofNat 15) who) (Q (.bool false, vcRy3_s0)) (ifB (!eqF blk (.ofNat 0)) (Q (.bool false, vcRy3_s0)) (still (vcRy3_s1 num who blk ak aw key nw at_ d) (aBin EM .neq 25 (.tmp 62) (.tmp 63) (.agg (ddL d)) (.agg (zzL))) = some (.bool false, vcRy3_s1 num who blk ak aw key nw at_ d) ∧ still (vcRy3_s1 num who blk ak aw key nw at_ d) (aBin EM .eql 29 (.tmp 70) (.tmp 71) (.agg [.int .i64 ak, .int .i64 aw, .int .u64 key, .int .u64 nw, .int .i64 at_]) (.agg [.int .i64 (.ofNat 0), .int .i64 (.ofNat 0), .int .u64 (.ofNat 0), .int .u64 (.ofNat 0), .int .i64 (.ofNat 0)])) = some (.bool y, vcRy3_s1 num who blk ak aw key nw at_ d) ∧ Q (.bool y, vcRy3_s0))))) =
  (tRy3 num who blk ak aw key nw at_ d y).allY (fun r => Q (r.1, canS [] r.2)) (.b .nil (.b .nil (.b .nil (.v (.bool false, vcRy3_s1 num who blk ak aw key nw at_ d) (.v (.bool y, vcRy3_s1 num who blk ak aw key nw at_ d) .nil))))) := by kernel_rfl
noncomputable def vcRn3_s0 : ASt := mkSt [] 1
noncomputable def vcRn3_s1 (num : Int) (who : Int) (blk : Int) (ak : Int) (aw : Int) (key : Int) (nw : Int) (at_ : Int) (d : Nat → Nat) : ASt := mkSt [(0, .cells ([.int .u64 num, .int .i64 who, .int .i64 (.ofNat 3), .int .i64 blk] ++ (ddL d ++ [.int .i64 ak, .int .i64 aw, .int .u64 key, .int .u64 nw, .int .i64 at_])) true)] 1
theorem vcRn3 (num : Int) (who : Int) (blk : Int) (ak : Int) (aw : Int) (key : Int) (nw : Int) (at_ : Int) (d : Nat → Nat) (Q : AV × ASt → Prop) :
  (ifB (ltF who (.ofNat 0)) (Q (.bool false, vcRn3_s0)) (ifB (ltF (.ofNat 15) who) (Q (.bool false, vcRn3_s0)) (ifB (!eqF blk (.ofNat 0)) (Q (.bool false, vcRn3_s0)) (still (vcRn3_s1 num who blk ak aw key nw at_ d) (aBin EM .neq 25 (.tmp 62) (.tmp 63) (.agg (ddL d)) (.agg (zzL))) = some (.bool true, vcRn3_s1 num who blk ak aw key nw at_ d) ∧ Q (.bool false, vcRn3_s0))))) =
  (tRn3 num who blk ak aw key nw at_ d).allY (fun r => Q (r.1, canS [] r.2)) (.b .nil (.b .nil (.b .nil (.v (.bool true, vcRn3_s1 num who blk ak aw key nw at_ d) .nil)))) := by kernel_rfl
noncomputable def vcMy4_s0 (num : Int) (who : Int) (blk : Int) (ak : Int) (aw : Int) (key : Int) (nw : Int) (at_ : Int) (d : Nat → Nat) : ASt := mkSt [(0, .cells ([.int .u64 num, .int .i64 who, .int .i64 (.ofNat 4), .int .i64 blk] ++ (ddL d ++ [.int .i64 ak, .int .i64 aw, .int .u64 key, .int .u64 nw, .int .i64 at_])) true), (1, .cells ([.int .u64 num, .int .i64 who, .int .i64 (.ofNat 4), .int .i64 blk] ++ (ddL d ++ [.int .i64 ak, .int .i64 aw, .int .u64 key, .int .u64 nw, .int .i64 at_])) true), (2, .cells ([.int .u64 num, .int .i64 who, .int .i64 (.ofNat 4), .int .i64 blk] ++ (zzL ++ [.int .i64 (.ofNat 0), .int .i64 (.ofNat 0), .int .u64 (.ofNat 0), .int .u64 (.ofNat 0), .int .i64 (.ofNat 0)])) true), (3, .cells ([.int .u64 num, .int .i64 who, .int .i64 (.ofNat 4), .int .i64 blk] ++ (zzL ++ [.int .i64 (.ofNat 0), .int .i64 (.ofNat 0), .int .u64 (.ofNat 0), .int .u64 (.ofNat 0), .int .i64 (.ofNat 0)])) true), (4, .cells ([.int .u64 num, .int .i64 who, .int .i64 (.ofNat 4), .int .i64 blk] ++ (zzL ++ [.int .i64 (.ofNat 0), .int .i64 (.ofNat 0), .int .u64 (.ofNat 0), .int .u64 (.ofNat 0), .int .i64 (.ofNat 0)])) true)] 5
noncomputable def vcMy4_s1 : ASt := mkSt [] 6
noncomputable def vcMy4_s2 : ASt := mkSt [] 5
theorem vcMy4 (num : Int) (who : Int) (blk : Int) (ak : Int) (aw : Int) (key : Int) (nw : Int) (at_ : Int) (d : Nat → Nat) (Q : AV × ASt → Prop) :
  (still (vcMy4_s0 num who blk ak aw key nw at_ d) (aBin EM .eql 31 (.tmp 14) (.tmp 15) (.agg ([.int .u64 num, .int .i64 who, .int .i64 (.ofNat 4), .int .i64 blk] ++ (zzL ++ [.int .i64 (.ofNat 0), .int .i64 (.ofNat 0), .int .u64 (.ofNat 0), .int .u64 (.ofNat 0), .int .i64 (.ofNat 0)]))) (.agg ([.int .u64 num, .int .i64 who, .int .i64 (.ofNat 4), .int .i64 blk] ++ (ddL d ++ [.int .i64 ak, .int .i64 aw, .int .u64 key, .int .u64 nw, .int .i64 at_])))) = some (.bool true, vcMy4_s0 num who blk ak aw key nw at_ d) ∧ ifB (!ltF who (.ofNat 0)) (ifB (ltF who (.ofNat 16)) (ifB (!ltF blk (.ofNat 0)) (ifB (ltF blk (.ofNat 64)) (ifB (!ltF ak (.ofNat 0)) (ifB (!ltF (.ofNat 255) ak) (ifB (!ltF at_ (.ofNat 0)) (ifB (!ltF (.ofNat 255) at_) (Q (.bool true, vcMy4_s1)) (Q (.bool false, vcMy4_s1))) (Q (.bool false, vcMy4_s1))) (Q (.bool false, vcMy4_s1))) (Q (.bool false, vcMy4_s1))) (Q (.bool false, vcMy4_s2))) (Q (.bool false, vcMy4_s2))) (Q (.bool false, vcMy4_s2))) (Q (.bool false, vcMy4_s2))) =
  (tMy4 num who blk ak aw key nw at_ d).allY (fun r => Q (r.1, canS [] r.2)) (.v (.bool true, vcMy4_s0 num who blk ak aw key nw at_ d) (.b (.b (.b (.b (.b (.b (.b (.b .nil .nil) .nil) .nil) .nil) .nil) .nil) .nil) .nil)) := by kernel_rfl
noncomputable def vcMn4_s0 (num : Int) (who : Int) (blk : Int) (ak : Int) (aw : Int) (key : Int) (nw : Int) (at_ : Int) (d : Nat → Nat) : ASt := mkSt [(0, .cells ([.int .u64 num, .int .i64 who, .int .i64 (.ofNat 4), .int .i64 blk] ++ (ddL d ++ [.int .i64 ak, .int .i64 aw, .int .u64 key, .int .u64 nw, .int .i64 at_])) true), (1, .cells ([.int .u64 num, .int .i64 who, .int .i64 (.ofNat 4), .int .i64 blk] ++ (ddL d ++ [.int .i64 ak, .int .i64 aw, .int .u64 key, .int .u64 nw, .int .i64 at_])) true), (2, .cells ([.int .u64 num, .int .i64 who, .int .i64 (.ofNat 4), .int .i64 blk] ++ (zzL ++ [.int .i64 (.ofNat 0), .int .i64 (.ofNat 0), .int .u64 (.ofNat 0), .int .u64 (.ofNat 0), .int .i64 (.ofNat 0)])) true), (3, .cells ([.int .u64 num, .int .i64 who, .int .i64 (.ofNat 4), .int .i64 blk] ++ (zzL ++ [.int .i64 (.ofNat 0), .int .i64 (.ofNat 0), .int .u64 (.ofNat 0), .int .u64 (.ofNat 0), .int .i64 (.ofNat 0)])) true), (4, .cells ([.int .u64 num, .int .i64 who, .int .i64 (.ofNat 4), .int .i64 blk] ++ (zzL ++ [.int .i64 (.ofNat 0), .int .i64 (.ofNat 0), .int .u64 (.ofNat 0), .int .u64 (.ofNat 0), .int .i64 (.ofNat 0)])) true)] 5
noncomputable def vcMn4_s1 : ASt := mkSt [] 5
theorem vcMn4 (num : Int) (who : Int) (blk : Int) (ak : Int) (aw : Int) (key : Int) (nw : Int) (at_ : Int) (d : Nat → Nat) (Q : AV × ASt → Prop) :
  (still (vcMn4_s0 num who blk ak aw key nw at_ d) (aBin EM .eql 31 (.tmp 14) (.tmp 15) (.agg ([.int .u64 num, .int .i64 who, .int .i64 (.ofNat 4), .int .i64 blk] ++ (zzL ++ [.int .i64 (.ofNat 0), .int .i64 (.ofNat 0), .int .u64 (.ofNat 0), .int .u64 (.ofNat 0), .int .i64 (.ofNat 0)]))) (.agg ([.int .u64 num, .int .i64 who, .int .i64 (.ofNat 4), .int .i64 blk] ++ (ddL d ++ [.int .i64 ak, .int .i64 aw, .int .u64 key, .int .u64 nw, .int .i64 at_])))) = some (.bool false, vcMn4_s0 num who blk ak aw key nw at_ d) ∧ Q (.bool false, vcMn4_s1)) =
  (tMn4 num who blk ak aw key nw at_ d).allY (fun r => Q (r.1, canS [] r.2)) (.v (.bool false, vcMn4_s0 num who blk ak aw key nw at_ d) .nil) := by kernel_rfl
noncomputable def vcRy4_s0 : ASt := mkSt [] 1
noncomputable def vcRy4_s1 (num : Int) (who : Int) (blk : Int) (ak : Int) (aw : Int) (key : Int) (nw : Int) (at_ : Int) (d : Nat → Nat) : ASt := mkSt [(0, .cells ([.int .u64 num, .int .i64 who, .int .i64 (.ofNat 4), .int .i64 blk] ++ (ddL d ++ [.int .i64 ak, .int .i64 aw, .int .u64 key, .int .u64 nw, .int .i64 at_])) true)] 1
theorem vcRy4 (num : Int) (who : Int) (blk : Int) (ak : Int) (aw : Int) (key : Int) (nw : Int) (at_ : Int) (d : Nat → Nat) (y : Bool) (Q : AV × ASt → Prop) :
  (ifB (ltF who (.ofNat 0)) (Q (.bool false, vcRy4_s0)) (ifB (ltF (.ofNat 15) who) (Q (.bool false, vcRy4_s0)) (ifB (ltF blk (.ofNat 0)) (Q (.bool false, vcRy4_s0)) (ifB (!ltF blk (.ofNat 64)) (Q (.bool false, vcRy4_s0)) (still (vcRy4_s1 num who blk ak aw key nw at_ d) (aBin EM .neq 25 (.tmp 62) (.tmp 63) (.agg (ddL d)) (.agg (zzL))) = some (.bool false, vcRy4_s1 num who blk ak aw key nw at_ d) ∧ still (vcRy4_s1 num who blk ak aw key nw at_ d) (aBin EM .eql 29 (.tmp 70) (.tmp 71) (.agg [.int .i64 ak, .int .i64 aw, .int .u64 key, .int .u64 nw, .int .i64 at_]) (.agg [.int .i64 (.ofNat 0), .int .i64 (.ofNat 0), .int .u64 (.ofNat 0), .int .u64 (.ofNat 0), .int .i64 (.ofNat 0)])) = some (.bool y, vcRy4_s1 num who blk ak aw key nw at_ d) ∧ Q (.bool y, vcRy4_s0)))))) =
  (tRy4 num who blk ak aw key nw at_ d y).allY (fun r => Q (r.1, canS [] r.2)) (.b .nil (.b .nil (.b .nil (.b .nil (.v (.bool false, vcRy4_s1 num who blk ak aw key nw at_ d) (.v (.bool y, vcRy4_s1 num who blk ak aw key nw at_ d) .nil)))))) := by kernel_rfl
noncomputable def vcRn4_s0 : ASt := mkSt [] 1
noncomputable def vcRn4_s1 (num : Int) (who : Int) (blk : Int) (ak : Int) (aw : Int) (key : Int) (nw : Int) (at_ : Int) (d : Nat → Nat) : ASt := mkSt [(0, .cells ([.int .u64 num, .int .i64 who, .int .i64 (.ofNat 4), .int .i64 blk] ++ (ddL d ++ [.int .i64 ak, .int .i64 aw, .int .u64 key, .int .u64 nw, .int .i64 at_])) true)] 1
theorem vcRn4 (num : Int) (who : Int) (blk : Int) (ak : Int) (aw : Int) (key : Int) (nw : Int) (at_ : Int) (d : Nat → Nat) (Q : AV × ASt → Prop) :
  (ifB (ltF who (.ofNat 0)) (Q (.bool false, vcRn4_s0)) (ifB (ltF (.ofNat 15) who) (Q (.bool false, vcRn4_s0)) (ifB (ltF blk (.ofNat 0)) (Q (.bool false, vcRn4_s0)) (ifB (!ltF blk (.ofNat 64)) (Q (.bool false, vcRn4_s0)) (still (vcRn4_s1 num who blk ak aw key nw at_ d) (aBin EM .neq 25 (.tmp 62) (.tmp 63) (.agg (ddL d)) (.agg (zzL))) = some (.bool true, vcRn4_s1 num who blk ak aw key nw at_ d) ∧ Q (.bool false, vcRn4_s0)))))) =
  (tRn4 num who blk ak aw key nw at_ d).allY (fun r => Q (r.1, canS [] r.2)) (.b .nil (.b .nil (.b .nil (.b .nil (.v (.bool true, vcRn4_s1 num who blk ak aw key nw at_ d) .nil))))) := by kernel_rfl
noncomputable def vcMy5_s0 (num : Int) (who : Int) (blk : Int) (ak : Int) (aw : Int) (key : Int) (nw : Int) (at_ : Int) (d : Nat → Nat) : ASt := mkSt [(0, .cells ([.int .u64 num, .int .i64 who, .int .i64 (.ofNat 5), .int .i64 blk] ++ (ddL d ++ [.int .i64 ak, .int .i64 aw, .int .u64 key, .int .u64 nw, .int .i64 at_])) true), (1, .cells ([.int .u64 num, .int .i64 who, .int .i64 (.ofNat 5), .int .i64 blk] ++ (ddL d ++ [.int .i64 ak, .int .i64 aw, .int .u64 key, .int .u64 nw, .int .i64 at_])) true), (2, .cells ([.int .u64 num, .int .i64 who, .int .i64 (.ofNat 5), .int .i64 blk] ++ (zzL ++ [.int .i64 (.ofNat 0), .int .i64 (.ofNat 0), .int .u64 (.ofNat 0), .int .u64 (.ofNat 0), .int .i64 (.ofNat 0)])) true), (3, .cells ([.int .u64 num, .int .i64 who, .int .i64 (.ofNat 5), .int .i64 blk] ++ (zzL ++ [.int .i64 (.ofNat 0), .int .i64 (.ofNat 0), .int .u64 (.ofNat 0), .int .u64 (.ofNat 0), .int .i64 (.ofNat 0)])) true), (4, .cells ([.int .u64 num, .int .i64 who, .int .i64 (.ofNat 5), .int .i64 blk] ++ (zzL ++ [.int .i64 (.ofNat 0), .int .i64 (.ofNat 0), .int .u64 (.ofNat 0), .int .u64 (.ofNat 0), .int .i64 (.ofNat 0)])) true)] 5
noncomputable def vcMy5_s1 : ASt := mkSt [] 6
noncomputable def vcMy5_s2 : ASt := mkSt [] 5
theorem vcMy5 (num : Int) (who : Int) (blk : Int) (ak : Int) (aw : Int) (key : Int) (nw : Int) (at_ : Int) (d : Nat → Nat) (Q : AV × ASt → Prop) :
  (still (vcMy5_s0 num who blk ak aw key nw at_ d) (aBin EM .eql 31 (.tmp 14) (.tmp 15) (.agg ([.int .u64 num, .int .i64 who, .int .i64 (.ofNat 5), .int .i64 blk] ++ (zzL ++ [.int .i64 (.ofNat 0), .int .i64 (.ofNat 0), .int .u64 (.ofNat 0), .int .u64 (.ofNat 0), .int .i64 (.ofNat 0)]))) (.agg ([.int .u64 num, .int .i64 who, .int .i64 (.ofNat 5), .int .i64 blk] ++ (ddL d ++ [.int .i64 ak, .int .i64 aw, .int .u64 key, .int .u64 nw, .int .i64 at_])))) = some (.bool true, vcMy5_s0 num who blk ak aw key nw at_ d) ∧ ifB (!ltF who (.ofNat 0)) (ifB (ltF who (.ofNat 16)) (ifB (!ltF blk (.ofNat 0)) (ifB (ltF blk (.ofNat 64)) (ifB (!ltF ak (.ofNat 0)) (ifB (!ltF (.ofNat 255) ak) (ifB (!ltF at_ (.ofNat 0)) (ifB (!ltF (.ofNat 255) at_) (Q (.bool true, vcMy5_s1)) (Q (.bool false, vcMy5_s1))) (Q (.bool false, vcMy5_s1))) (Q (.bool false, vcMy5_s1))) (Q (.bool false, vcMy5_s1))) (Q (.bool false, vcMy5_s2))) (Q (.bool false, vcMy5_s2))) (Q (.bool false, vcMy5_s2))) (Q (.bool false, vcMy5_s2))) =
  (tMy5 num who blk ak aw key nw at_ d).allY (fun r => Q (r.1, canS [] r.2)) (.v (.bool true, vcMy5_s0 num who blk ak aw key nw at_ d) (.b (.b (.b (.b (.b (.b (.b (.b .nil .nil) .nil) .nil) .nil) .nil) .nil) .nil) .nil)) := by kernel_rfl
noncomputable def vcMn5_s0 (num : Int) (who : Int) (blk : Int) (ak : Int) (aw : Int) (key : Int) (nw : Int) (at_ : Int) (d : Nat → Nat) : ASt := mkSt [(0, .cells ([.int .u64 num, .int .i64 who, .int .i64 (.ofNat 5), .int .i64 blk] ++ (ddL d ++ [.int .i64 ak, .int .i64 aw, .int .u64 key, .int .u64 nw, .int .i64 at_])) true), (1, .cells ([.int .u64 num, .int .i64 who, .int .i64 (.ofNat 5), .int .i64 blk] ++ (ddL d ++ [.int .i64 ak, .int .i64 aw, .int .u64 key, .int .u64 nw, .int .i64 at_])) true), (2, .cells ([.int .u64 num, .int .i64 who, .int .i64 (.ofNat 5), .int .i64 blk] ++ (zzL ++ [.int .i64 (.ofNat 0), .int .i64 (.ofNat 0), .int .u64 (.ofNat 0), .int .u64 (.ofNat 0), .int .i64 (.ofNat 0)])) true), (3, .cells ([.int .u64 num, .int .i64 who, .int .i64 (.ofNat 5), .int .i64 blk] ++ (zzL ++ [.int .i64 (.ofNat 0), .int .i64 (.ofNat 0), .int .u64 (.ofNat 0), .int .u64 (.ofNat 0), .int .i64 (.ofNat 0)])) true), (4, .cells ([.int .u64 num, .int .i64 who, .int .i64 (.ofNat 5), .int .i64 blk] ++ (zzL ++ [.int .i64 (.ofNat 0), .int .i64 (.ofNat 0), .int .u64 (.ofNat 0), .int .u64 (.ofNat 0), .int .i64 (.ofNat 0)])) true)] 5
noncomputable def vcMn5_s1 : ASt := mkSt [] 5
theorem vcMn5 (num : Int) (who : Int) (blk : Int) (ak : Int) (aw : Int) (key : Int) (nw : Int) (at_ : Int) (d : Nat → Nat) (Q : AV × ASt → Prop) :
  (still (vcMn5_s0 num who blk ak aw key nw at_ d) (aBin EM .eql 31 (.tmp 14) (.tmp 15) (.agg ([.int .u64 num, .int .i64 who, .int .i64 (.ofNat 5), .int .i64 blk] ++ (zzL ++ [.int .i64 (.ofNat 0), .int .i64 (.ofNat 0), .int .u64 (.ofNat 0), .int .u64 (.ofNat 0), .int .i64 (.ofNat 0)]))) (.agg ([.int .u64 num, .int .i64 who, .int .i64 (.ofNat 5), .int .i64 blk] ++ (ddL d ++ [.int .i64 ak, .int .i64 aw, .int .u64 key, .int .u64 nw, .int .i64 at_])))) = some (.bool false, vcMn5_s0 num who blk ak aw key nw at_ d) ∧ Q (.bool false, vcMn5_s1)) =
  (tMn5 num who blk ak aw key nw at_ d).allY (fun r => Q (r.1, canS [] r.2)) (.v (.bool false, vcMn5_s0 num who blk ak aw key nw at_ d) .nil) := by kernel_rfl
noncomputable def vcRy5_s0 : ASt := mkSt [] 1
noncomputable def vcRy5_s1 (num : Int) (who : Int) (blk : Int) (ak : Int) (aw : Int) (key : Int) (nw : Int) (at_ : Int) (d : Nat → Nat) : ASt := mkSt [(0, .cells ([.int .u64 num, .int .i64 who, .int .i64 (.ofNat 5), .int .i64 blk] ++ (ddL d ++ [.int .i64 ak, .int .i64 aw, .int .u64 key, .int .u64 nw, .int .i64 at_])) true)] 1
theorem vcRy5 (num : Int) (who : Int) (blk : Int) (ak : Int) (aw : Int) (key : Int) (nw : Int) (at_ : Int) (d : Nat → Nat) (y : Bool) (Q : AV × ASt → Prop) :
  (ifB (ltF who (.ofNat 0)) (Q (.bool false, vcRy5_s0)) (ifB (ltF (.ofNat 15) who) (Q (.bool false, vcRy5_s0)) (ifB (ltF blk (.ofNat 0)) (Q (.bool false, vcRy5_s0)) (ifB (!ltF blk (.ofNat 64)) (Q (.bool false, vcRy5_s0)) (still (vcRy5_s1 num who blk ak aw key nw at_ d) (aBin EM .neq 25 (.tmp 62) (.tmp 63) (.agg (ddL d)) (.agg (zzL))) = some (.bool false, vcRy5_s1 num who blk ak aw key nw at_ d) ∧ still (vcRy5_s1 num who blk ak aw key nw at_ d) (aBin EM .eql 29 (.tmp 70) (.tmp 71) (.agg [.int .i64 ak, .int .i64 aw, .int .u64 key, .int .u64 nw, .int .i64 at_]) (.agg [.int .i64 (.ofNat 0), .int .i64 (.ofNat 0), .int .u64 (.ofNat 0), .int .u64 (.ofNat 0), .int .i64 (.ofNat 0)])) = some (.bool y, vcRy5_s1 num who blk ak aw key nw at_ d) ∧ Q (.bool y, vcRy5_s0)))))) =
  (tRy5 num who blk ak aw key nw at_ d y).allY (fun r => Q (r.1, canS [] r.2)) (.b .nil (.b .nil (.b .nil (.b .nil (.v (.bool false, vcRy5_s1 num who blk ak aw key nw at_ d) (.v (.bool y, vcRy5_s1 num who blk ak aw key nw at_ d) .nil)))))) := by kernel_rfl
noncomputable def vcRn5_s0 : ASt := mkSt [] 1
noncomputable def vcRn5_s1 (num : Int) (who : Int) (blk : Int) (ak : Int) (aw : Int) (key : Int) (nw : Int) (at_ : Int) (d : Nat → Nat) : ASt := mkSt [(0, .cells ([.int .u64 num, .int .i64 who, .int .i64 (.ofNat 5), .int .i64 blk] ++ (ddL d ++ [.int .i64 ak, .int .i64 aw, .int .u64 key, .int .u64 nw, .int .i64 at_])) true)] 1
theorem vcRn5 (num : Int) (who : Int) (blk : Int) (ak : Int) (aw : Int) (key : Int) (nw : Int) (at_ : Int) (d : Nat → Nat) (Q : AV × ASt → Prop) :
  (ifB (ltF who (.ofNat 0)) (Q (.bool false, vcRn5_s0)) (ifB (ltF (.ofNat 15) who) (Q (.bool false, vcRn5_s0)) (ifB (ltF blk (.ofNat 0)) (Q (.bool false, vcRn5_s0)) (ifB (!ltF blk (.ofNat 64)) (Q (.bool false, vcRn5_s0)) (still (vcRn5_s1 num who blk ak aw key nw at_ d) (aBin EM .neq 25 (.tmp 62) (.tmp 63) (.agg (ddL d)) (.agg (zzL))) = some (.bool true, vcRn5_s1 num who blk ak aw key nw at_ d) ∧ Q (.bool false, vcRn5_s0)))))) =
  (tRn5 num who blk ak aw key nw at_ d).allY (fun r => Q (r.1, canS [] r.2)) (.b .nil (.b .nil (.b .nil (.b .nil (.v (.bool true, vcRn5_s1 num who blk ak aw key nw at_ d) .nil))))) := by kernel_rfl
noncomputable def vcMy6_s0 (num : Int) (who : Int) (blk : Int) (ak : Int) (aw : Int) (key : Int) (nw : Int) (at_ : Int) (d : Nat → Nat) : ASt := mkSt [(0, .cells ([.int .u64 num, .int .i64 who, .int .i64 (.ofNat 6), .int .i64 blk] ++ (ddL d ++ [.int .i64 ak, .int .i64 aw, .int .u64 key, .int .u64 nw, .int .i64 at_])) true), (1, .cells ([.int .u64 num, .int .i64 who, .int .i64 (.ofNat 6), .int .i64 blk] ++ (ddL d ++ [.int .i64 ak, .int .i64 aw, .int .u64 key, .int .u64 nw, .int .i64 at_])) true), (2, .cells ([.int .u64 num, .int .i64 who, .int .i64 (.ofNat 6), .int .i64 (.ofNat 0)] ++ (zzL ++ [.int .i64 (.ofNat 0), .int .i64 (.ofNat 0), .int .u64 (.ofNat 0), .int .u64 (.ofNat 0), .int .i64 (.ofNat 0)])) true), (3, .cells ([.int .u64 num, .int .i64 who, .int .i64 (.ofNat 6), .int .i64 (.ofNat 0)] ++ (zzL ++ [.int .i64 (.ofNat 0), .int .i64 (.ofNat 0), .int .u64 (.ofNat 0), .int .u64 (.ofNat 0), .int .i64 (.ofNat 0)])) true), (4, .cells ([.int .u64 num, .int .i64 who, .int .i64 (.ofNat 6), .int .i64 (.ofNat 0)] ++ (zzL ++ [.int .i64 (.ofNat 0), .int .i64 (.ofNat 0), .int .u64 (.ofNat 0), .int .u64 (.ofNat 0), .int .i64 (.ofNat 0)])) true)] 5
noncomputable def vcMy6_s1 : ASt := mkSt [] 6
noncomputable def vcMy6_s2 : ASt := mkSt [] 5
theorem vcMy6 (num : Int) (who : Int) (blk : Int) (ak : Int) (aw : Int) (key : Int) (nw : Int) (at_ : Int) (d : Nat → Nat) (Q : AV × ASt → Prop) :
  (still (vcMy6_s0 num who blk ak aw key nw at_ d) (aBin EM .eql 31 (.tmp 14) (.tmp 15) (.agg ([.int .u64 num, .int .i64 who, .int .i64 (.ofNat 6), .int .i64 (.ofNat 0)] ++ (zzL ++ [.int .i64 (.ofNat 0), .int .i64 (.ofNat 0), .int .u64 (.ofNat 0), .int .u64 (.ofNat 0), .int .i64 (.ofNat 0)]))) (.agg ([.int .u64 num, .int .i64 who, .int .i64 (.ofNat 6), .int .i64 blk] ++ (ddL d ++ [.int .i64 ak, .int .i64 aw, .int .u64 key, .int .u64 nw, .int .i64 at_])))) = some (.bool true, vcMy6_s0 num who blk ak aw key nw at_ d) ∧ ifB (!ltF who (.ofNat 0)) (ifB (ltF who (.ofNat 16)) (ifB (!ltF blk (.ofNat 0)) (ifB (ltF blk (.ofNat 64)) (ifB (!ltF ak (.ofNat 0)) (ifB (!ltF (.ofNat 255) ak) (ifB (!ltF at_ (.ofNat 0)) (ifB (!ltF (.ofNat 255) at_) (Q (.bool true, vcMy6_s1)) (Q (.bool false, vcMy6_s1))) (Q (.bool false, vcMy6_s1))) (Q (.bool false, vcMy6_s1))) (Q (.bool false, vcMy6_s1))) (Q (.bool false, vcMy6_s2))) (Q (.bool false, vcMy6_s2))) (Q (.bool false, vcMy6_s2))) (Q (.bool false, vcMy6_s2))) =
  (tMy6 num who blk ak aw key nw at_ d).allY (fun r => Q (r.1, canS [] r.2)) (.v (.bool true, vcMy6_s0 num who blk ak aw key nw at_ d) (.b (.b (.b (.b (.b (.b (.b (.b .nil .nil) .nil) .nil) .nil) .nil) .nil) .nil) .nil)) := by kernel_rfl
noncomputable def vcMn6_s0 (num : Int) (who : Int) (blk : Int) (ak : Int) (aw : Int) (key : Int) (nw : Int) (at_ : Int) (d : Nat → Nat) : ASt := mkSt [(0, .cells ([.int .u64 num, .int .i64 who, .int .i64 (.ofNat 6), .int .i64 blk] ++ (ddL d ++ [.int .i64 ak, .int .i64 aw, .int .u64 key, .int .u64 nw, .int .i64 at_])) true), (1, .cells ([.int .u64 num, .int .i64 who, .int .i64 (.ofNat 6), .int .i64 blk] ++ (ddL d ++ [.int .i64 ak, .int .i64 aw, .int .u64 key, .int .u64 nw, .int .i64 at_])) true), (2, .cells ([.int .u64 num, .int .i64 who, .int .i64 (.ofNat 6), .int .i64 (.ofNat 0)] ++ (zzL ++ [.int .i64 (.ofNat 0), .int .i64 (.ofNat 0), .int .u64 (.ofNat 0), .int .u64 (.ofNat 0), .int .i64 (.ofNat 0)])) true), (3, .cells ([.int .u64 num, .int .i64 who, .int .i64 (.ofNat 6), .int .i64 (.ofNat 0)] ++ (zzL ++ [.int .i64 (.ofNat 0), .int .i64 (.ofNat 0), .int .u64 (.ofNat 0), .int .u64 (.ofNat 0), .int .i64 (.ofNat 0)])) true), (4, .cells ([.int .u64 num, .int .i64 who, .int .i64 (.ofNat 6), .int .i64 (.ofNat 0)] ++ (zzL ++ [.int .i64 (.ofNat 0), .int .i64 (.ofNat 0), .int .u64 (.ofNat 0), .int .u64 (.ofNat 0), .int .i64 (.ofNat 0)])) true)] 5
noncomputable def vcMn6_s1 : ASt := mkSt [] 5
theorem vcMn6 (num : Int) (who : Int) (blk : Int) (ak : Int) (aw : Int) (key : Int) (nw : Int) (at_ : Int) (d : Nat → Nat) (Q : AV × ASt → Prop) :
  (still (vcMn6_s0 num who blk ak aw key nw at_ d) (aBin EM .eql 31 (.tmp 14) (.tmp 15) (.agg ([.int .u64 num, .int .i64 who, .int .i64 (.ofNat 6), .int .i64 (.ofNat 0)] ++ (zzL ++ [.int .i64 (.ofNat 0), .int .i64 (.ofNat 0), .int .u64 (.ofNat 0), .int .u64 (.ofNat 0), .int .i64 (.ofNat 0)]))) (.agg ([.int .u64 num, .int .i64 who, .int .i64 (.ofNat 6), .int .i64 blk] ++ (ddL d ++ [.int .i64 ak, .int .i64 aw, .int .u64 key, .int .u64 nw, .int .i64 at_])))) = some (.bool false, vcMn6_s0 num who blk ak aw key nw at_ d) ∧ Q (.bool false, vcMn6_s1)) =
  (tMn6 num who blk ak aw key nw at_ d).allY (fun r => Q (r.1, canS [] r.2)) (.v (.bool false, vcMn6_s0 num who blk ak aw key nw at_ d) .nil) := by kernel_rfl
noncomputable def vcRy6_s0 : ASt := mkSt [] 1
noncomputable def vcRy6_s1 (num : Int) (who : Int) (blk : Int) (ak : Int) (aw : Int) (key : Int) (nw : Int) (at_ : Int) (d : Nat → Nat) : ASt := mkSt [(0, .cells ([.int .u64 num, .int .i64 who, .int .i64 (.ofNat 6), .int .i64 blk] ++ (ddL d ++ [.int .i64 ak, .int .i64 aw, .int .u64 key, .int .u64 nw, .int .i64 at_])) true)] 1
theorem vcRy6 (num : Int) (who : Int) (blk : Int) (ak : Int) (aw : Int) (key : Int) (nw : Int) (at_ : Int) (d : Nat → Nat) (y : Bool) (Q : AV × ASt → Prop) :
  (ifB (ltF who (.ofNat 0)) (Q (.bool false, vcRy6_s0)) (ifB (ltF (.ofNat 15) who) (Q (.bool false, vcRy6_s0)) (ifB (!eqF blk (.ofNat 0)) (Q (.bool false, vcRy6_s0)) (still (vcRy6_s1 num who blk ak aw key nw at_ d) (aBin EM .neq 25 (.tmp 62) (.tmp 63) (.agg (ddL d)) (.agg (zzL))) = some (.bool false, vcRy6_s1 num who blk ak aw key nw at_ d) ∧ still (vcRy6_s1 num who blk ak aw key nw at_ d) (aBin EM .eql 29 (.tmp 70) (.tmp 71) (.agg [.int .i64 ak, .int .i64 aw, .int .u64 key, .int .u64 nw, .int .i64 at_]) (.agg [.int .i64 (.ofNat 0), .int .i64 (.ofNat 0), .int .u64 (.ofNat 0), .int .u64 (.ofNat 0), .int .i64 (.ofNat 0)])) = some (.bool y, vcRy6_s1 num who blk ak aw key nw at_ d) ∧ Q (.bool y, vcRy6_s0))))) =
  (tRy6 num who blk ak aw key nw at_ d y).allY (fun r => Q (r.1, canS [] r.2)) (.b .nil (.b .nil (.b .nil (.v (.bool false, vcRy6_s1 num who blk ak aw key nw at_ d) (.v (.bool y, vcRy6_s1 num who blk ak aw key nw at_ d) .nil))))) := by kernel_rfl
noncomputable def vcRn6_s0 : ASt := mkSt [] 1
noncomputable def vcRn6_s1 (num : Int) (who : Int) (blk : Int) (ak : Int) (aw : Int) (key : Int) (nw : Int) (at_ : Int) (d : Nat → Nat) : ASt := mkSt [(0, .cells ([.int .u64 num, .int .i64 who, .int .i64 (.ofNat 6), .int .i64 blk] ++ (ddL d ++ [.int .i64 ak, .int .i64 aw, .int .u64 key, .int .u64 nw, .int .i64 at_])) true)] 1
theorem vcRn6 (num : Int) (who : Int) (blk : Int) (ak : Int) (aw : Int) (key : Int) (nw : Int) (at_ : Int) (d : Nat → Nat) (Q : AV × ASt → Prop) :
  (ifB (ltF who (.ofNat 0)) (Q (.bool false, vcRn6_s0)) (ifB (ltF (.ofNat 15) who) (Q (.bool false, vcRn6_s0)) (ifB (!eqF blk (.ofNat 0)) (Q (.bool false, vcRn6_s0)) (still (vcRn6_s1 num who blk ak aw key nw at_ d) (aBin EM .neq 25 (.tmp 62) (.tmp 63) (.agg (ddL d)) (.agg (zzL))) = some (.bool true, vcRn6_s1 num who blk ak aw key nw at_ d) ∧ Q (.bool false, vcRn6_s0))))) =
  (tRn6 num who blk ak aw key nw at_ d).allY (fun r => Q (r.1, canS [] r.2)) (.b .nil (.b .nil (.b .nil (.v (.bool true, vcRn6_s1 num who blk ak aw key nw at_ d) .nil)))) := by kernel_rfl
noncomputable def vcMy7_s0 (num : Int) (who : Int) (blk : Int) (ak : Int) (aw : Int) (key : Int) (nw : Int) (at_ : Int) (d : Nat → Nat) : ASt := mkSt [(0, .cells ([.int .u64 num, .int .i64 who, .int .i64 (.ofNat 7), .int .i64 blk] ++ (ddL d ++ [.int .i64 ak, .int .i64 aw, .int .u64 key, .int .u64 nw, .int .i64 at_])) true), (1, .cells ([.int .u64 num, .int .i64 who, .int .i64 (.ofNat 7), .int .i64 blk] ++ (ddL d ++ [.int .i64 ak, .int .i64 aw, .int .u64 key, .int .u64 nw, .int .i64 at_])) true), (2, .cells ([.int .u64 num, .int .i64 who, .int .i64 (.ofNat 7), .int .i64 (.ofNat 0)] ++ (zzL ++ [.int .i64 ak, .int .i64 aw, .int .u64 key, .int .u64 nw, .int .i64 at_])) true), (3, .cells ([.int .u64 num, .int .i64 who, .int .i64 (.ofNat 7), .int .i64 (.ofNat 0)] ++ (zzL ++ [.int .i64 ak, .int .i64 aw, .int .u64 key, .int .u64 nw, .int .i64 at_])) true), (11, .cells ([.int .u64 num, .int .i64 who, .int .i64 (.ofNat 7), .int .i64 (.ofNat 0)] ++ (zzL ++ [.int .i64 ak, .int .i64 aw, .int .u64 key, .int .u64 nw, .int .i64 at_])) true)] 12
noncomputable def vcMy7_s1 : ASt := mkSt [] 13
noncomputable def vcMy7_s2 : ASt := mkSt [] 12
theorem vcMy7 (num : Int) (who : Int) (blk : Int) (ak : Int) (aw : Int) (key : Int) (nw : Int) (at_ : Int) (d : Nat → Nat) (Q : AV × ASt → Prop) :
  (ifB (eqF aw (.ofNat 0)) (holdsO [(some (.int .i64 aw), .int .i64 aw)] ∧ still (vcMy7_s0 num who blk ak aw key nw at_ d) (aBin EM .eql 31 (.tmp 14) (.tmp 15) (.agg ([.int .u64 num, .int .i64 who, .int .i64 (.ofNat 7), .int .i64 (.ofNat 0)] ++ (zzL ++ [.int .i64 ak, .int .i64 aw, .int .u64 key, .int .u64 nw, .int .i64 at_]))) (.agg ([.int .u64 num, .int .i64 who, .int .i64 (.ofNat 7), .int .i64 blk] ++ (ddL d ++ [.int .i64 ak, .int .i64 aw, .int .u64 key, .int .u64 nw, .int .i64 at_])))) = some (.bool true, vcMy7_s0 num who blk ak aw key nw at_ d) ∧ ifB (!ltF who (.ofNat 0)) (ifB (ltF who (.ofNat 16)) (ifB (!ltF blk (.ofNat 0)) (ifB (ltF blk (.ofNat 64)) (ifB (!ltF ak (.ofNat 0)) (ifB (!ltF (.ofNat 255) ak) (ifB (!ltF at_ (.ofNat 0)) (ifB (!ltF (.ofNat 255) at_) (Q (.bool true, vcMy7_s1)) (Q (.bool false, vcMy7_s1))) (Q (.bool false, vcMy7_s1))) (Q (.bool false, vcMy7_s1))) (Q (.bool false, vcMy7_s1))) (Q (.bool false, vcMy7_s2))) (Q (.bool false, vcMy7_s2))) (Q (.bool false, vcMy7_s2))) (Q (.bool false, vcMy7_s2))) (holdsO [(some (.int .i64 aw), .int .i64 aw)] ∧ Q (.bool false, vcMy7_s2))) =
  (tMy7 num who blk ak aw key nw at_ d).allY (fun r => Q (r.1, canS [] r.2)) (.b (.v (.bool true, vcMy7_s0 num who blk ak aw key nw at_ d) (.b (.b (.b (.b (.b (.b (.b (.b .nil .nil) .nil) .nil) .nil) .nil) .nil) .nil) .nil)) .nil) := by kernel_rfl
noncomputable def vcMn7_s0 (num : Int) (who : Int) (blk : Int) (ak : Int) (aw : Int) (key : Int) (nw : Int) (at_ : Int) (d : Nat → Nat) : ASt := mkSt [(0, .cells ([.int .u64 num, .int .i64 who, .int .i64 (.ofNat 7), .int .i64 blk] ++ (ddL d ++ [.int .i64 ak, .int .i64 aw, .int .u64 key, .int .u64 nw, .int .i64 at_])) true), (1, .cells ([.int .u64 num, .int .i64 who, .int .i64 (.ofNat 7), .int .i64 blk] ++ (ddL d ++ [.int .i64 ak, .int .i64 aw, .int .u64 key, .int .u64 nw, .int .i64 at_])) true), (2, .cells ([.int .u64 num, .int .i64 who, .int .i64 (.ofNat 7), .int .i64 (.ofNat 0)] ++ (zzL ++ [.int .i64 ak, .int .i64 aw, .int .u64 key, .int .u64 nw, .int .i64 at_])) true), (3, .cells ([.int .u64 num, .int .i64 who, .int .i64 (.ofNat 7), .int .i64 (.ofNat 0)] ++ (zzL ++ [.int .i64 ak, .int .i64 aw, .int .u64 key, .int .u64 nw, .int .i64 at_])) true), (11, .cells ([.int .u64 num, .int .i64 who, .int .i64 (.ofNat 7), .int .i64 (.ofNat 0)] ++ (zzL ++ [.int .i64 ak, .int .i64 aw, .int .u64 key, .int .u64 nw, .int .i64 at_])) true)] 12
noncomputable def vcMn7_s1 : ASt := mkSt [] 12
theorem vcMn7 (num : Int) (who : Int) (blk : Int) (ak : Int) (aw : Int) (key : Int) (nw : Int) (at_ : Int) (d : Nat → Nat) (Q : AV × ASt → Prop) :
  (ifB (eqF aw (.ofNat 0)) (holdsO [(some (.int .i64 aw), .int .i64 aw)] ∧ still (vcMn7_s0 num who blk ak aw key nw at_ d) (aBin EM .eql 31 (.tmp 14) (.tmp 15) (.agg ([.int .u64 num, .int .i64 who, .int .i64 (.ofNat 7), .int .i64 (.ofNat 0)] ++ (zzL ++ [.int .i64 ak, .int .i64 aw, .int .u64 key, .int .u64 nw, .int .i64 at_]))) (.agg ([.int .u64 num, .int .i64 who, .int .i64 (.ofNat 7), .int .i64 blk] ++ (ddL d ++ [.int .i64 ak, .int .i64 aw, .int .u64 key, .int .u64 nw, .int .i64 at_])))) = some (.bool false, vcMn7_s0 num who blk ak aw key nw at_ d) ∧ Q (.bool false, vcMn7_s1)) (holdsO [(some (.int .i64 aw), .int .i64 aw)] ∧ Q (.bool false, vcMn7_s1))) =
  (tMn7 num who blk ak aw key nw at_ d).allY (fun r => Q (r.1, canS [] r.2)) (.b (.v (.bool false, vcMn7_s0 num who blk ak aw key nw at_ d) .nil) .nil) := by kernel_rfl
noncomputable def vcRy7_s0 : ASt := mkSt [] 1
noncomputable def vcRy7_s1 (num : Int) (who : Int) (blk : Int) (ak : Int) (aw : Int) (key : Int) (nw : Int) (at_ : Int) (d : Nat → Nat) : ASt := mkSt [(0, .cells ([.int .u64 num, .int .i64 who, .int .i64 (.ofNat 7), .int .i64 blk] ++ (ddL d ++ [.int .i64 ak, .int .i64 aw, .int .u64 key, .int .u64 nw, .int .i64 at_])) true)] 1
noncomputable def vcRy7_s2 : ASt := mkSt [] 2
theorem vcRy7 (num : Int) (who : Int) (blk : Int) (ak : Int) (aw : Int) (key : Int) (nw : Int) (at_ : Int) (d : Nat → Nat) (Q : AV × ASt → Prop) :
  (ifB (ltF who (.ofNat 0)) (Q (.bool false, vcRy7_s0)) (ifB (ltF (.ofNat 15) who) (Q (.bool false, vcRy7_s0)) (ifB (!eqF blk (.ofNat 0)) (Q (.bool false, vcRy7_s0)) (still (vcRy7_s1 num who blk ak aw key nw at_ d) (aBin EM .neq 25 (.tmp 62) (.tmp 63) (.agg (ddL d)) (.agg (zzL))) = some (.bool false, vcRy7_s1 num who blk ak aw key nw at_ d) ∧ ifB (eqF aw (.ofNat 0)) (ifB (!ltF ak (.ofNat 0)) (ifB (!ltF (.ofNat 255) ak) (ifB (!ltF at_ (.ofNat 0)) (ifB (!ltF (.ofNat 255) at_) (Q (.bool true, vcRy7_s2)) (Q (.bool false, vcRy7_s2))) (Q (.bool false, vcRy7_s2))) (Q (.bool false, vcRy7_s2))) (Q (.bool false, vcRy7_s2))) (Q (.bool false, vcRy7_s2)))))) =
  (tRy7 num who blk ak aw key nw at_ d).allY (fun r => Q (r.1, canS [] r.2)) (.b .nil (.b .nil (.b .nil (.v (.bool false, vcRy7_s1 num who blk ak aw key nw at_ d) (.b (.b (.b (.b (.b .nil .nil) .nil) .nil) .nil) .nil))))) := by kernel_rfl
noncomputable def vcRn7_s0 : ASt := mkSt [] 1
noncomputable def vcRn7_s1 (num : Int) (who : Int) (blk : Int) (ak : Int) (aw : Int) (key : Int) (nw : Int) (at_ : Int) (d : Nat → Nat) : ASt := mkSt [(0, .cells ([.int .u64 num, .int .i64 who, .int .i64 (.ofNat 7), .int .i64 blk] ++ (ddL d ++ [.int .i64 ak, .int .i64 aw, .int .u64 key, .int .u64 nw, .int .i64 at_])) true)] 1
theorem vcRn7 (num : Int) (who : Int) (blk : Int) (ak : Int) (aw : Int) (key : Int) (nw : Int) (at_ : Int) (d : Nat → Nat) (Q : AV × ASt → Prop) :
  (ifB (ltF who (.ofNat 0)) (Q (.bool false, vcRn7_s0)) (ifB (ltF (.ofNat 15) who) (Q (.bool false, vcRn7_s0)) (ifB (!eqF blk (.ofNat 0)) (Q (.bool false, vcRn7_s0)) (still (vcRn7_s1 num who blk ak aw key nw at_ d) (aBin EM .neq 25 (.tmp 62) (.tmp 63) (.agg (ddL d)) (.agg (zzL))) = some (.bool true, vcRn7_s1 num who blk ak aw key nw at_ d) ∧ Q (.bool false, vcRn7_s0))))) =
  (tRn7 num who blk ak aw key nw at_ d).allY (fun r => Q (r.1, canS [] r.2)) (.b .nil (.b .nil (.b .nil (.v (.bool true, vcRn7_s1 num who blk ak aw key nw at_ d) .nil)))) := by kernel_rfl
end Go.Proofs.YtcboepooglaogaaGreatDoor.spt
end

section
open Go Go.Ax Go.Proofs
namespace Go.Proofs.YtcboepooglaogaaGreatDoor.spt
set_option linter.unusedVariables false
theorem EMok : Env.Ok Tryz.prog EM := envEx_ok (xs := []) ⟨⟨Tryz.func13, Tryz.call13⟩, ⟨Tryz.func44, Tryz.call44⟩, ⟨Tryz.func50, Tryz.call50⟩, ⟨Tryz.func102, Tryz.call102⟩, ⟨Tryz.func103, Tryz.call103⟩, trivial⟩ trivial (by kernel_rfl)
def il (d : Nat → Nat) : List Nat := (List.range 256).map d
theorem ddL_il (d : Nat → Nat) : ddL d = (il d).map cellU := by
  unfold il
  rw [List.map_map]
  kernel_rfl
theorem zzL_dd : zzL = ddL (fun _ => 0) := by kernel_rfl
theorem eqLs_U : ∀ (xs ys : List Nat), xs.length = ys.length → eqLs (fun _ x y => aEq0 (.int .u8) x y) 5 xs.length (xs.map cellU) (ys.map cellU) = some (decide (xs = ys))
  | [], [], _ => rfl
  | [], _ :: _, h => by simp at h
  | _ :: _, [], h => by simp at h
  | x :: xs, y :: ys, h => by
    have ih := eqLs_U xs ys (by simpa using h)
    show (match (some (eqF (.ofNat x) (.ofNat y)) : Option Bool) with | some true => eqLs (fun _ x y => aEq0 (.int .u8) x y) 5 xs.length (xs.map cellU) (ys.map cellU) | some false => some false | none => none) = _
    rw [ih]
    by_cases e : x = y
    · subst e; rw [eqF_self]; simp
    · have : eqF (.ofNat x) (.ofNat y) = false := by rw [eqF_eq]; exact decide_eq_false (fun h => e (Int.ofNat.inj h))
      rw [this]
      simp [e]
theorem il_len (d : Nat → Nat) : (il d).length = 256 := by simp [il]
theorem eqLs_D (d e : Nat → Nat) : eqLs (fun _ x y => aEq0 (.int .u8) x y) 5 256 (ddL d) (ddL e) = some (decide (il d = il e)) := by
  have h := eqLs_U (il d) (il e) (by rw [il_len, il_len])
  rw [il_len, ← ddL_il, ← ddL_il] at h
  exact h
def an2 (b : Bool) (r : Option Bool) : Option Bool := match b with | true => r | false => some false
def an3 (b : Option Bool) (r : Option Bool) : Option Bool := match b with | some true => r | some false => some false | none => none
theorem an2_some (b r : Bool) : an2 b (some r) = some (b && r) := by cases b <;> rfl
theorem an3_some (b r : Bool) : an3 (some b) (some r) = some (b && r) := by cases b <;> rfl
def ob (x : Option Bool) : Option AV := match x with | some r => some (.bool r) | none => none
def obn (x : Option Bool) : Option AV := match x with | some r => some (.bool (!r)) | none => none
theorem eq31 (n1 w1 k1 b1 c1 c2 c3 c4 c5 n2 w2 k2 b2 e1 e2 e3 e4 e5 : Int) (d e : Nat → Nat) : aBin EM .eql 31 (.tmp 14) (.tmp 15) (.agg (cmL n1 w1 k1 b1 (ddL d) (acL c1 c2 c3 c4 c5))) (.agg (cmL n2 w2 k2 b2 (ddL e) (acL e1 e2 e3 e4 e5))) =
    some (.bool (eqF n1 n2 && (eqF w1 w2 && (eqF k1 k2 && (eqF b1 b2 && (decide (il d = il e) && (eqF c1 e1 && (eqF c2 e2 && (eqF c3 e3 && (eqF c4 e4 && eqF c5 e5)))))))))) := by
  have h : aBin EM .eql 31 (.tmp 14) (.tmp 15) (.agg (cmL n1 w1 k1 b1 (ddL d) (acL c1 c2 c3 c4 c5))) (.agg (cmL n2 w2 k2 b2 (ddL e) (acL e1 e2 e3 e4 e5))) =
    ob (an2 (eqF n1 n2) (an2 (eqF w1 w2) (an2 (eqF k1 k2) (an2 (eqF b1 b2) (an3 (eqLs (fun _ x y => aEq0 (.int .u8) x y) 5 256 (ddL d) (ddL e)) (an3 (an2 (eqF c1 e1) (an2 (eqF c2 e2) (an2 (eqF c3 e3) (an2 (eqF c4 e4) (an2 (eqF c5 e5) (some true)))))) (some true))))))) := by kernel_rfl
  rw [h, eqLs_D]
  simp only [an2_some, an3_some, Bool.and_true, ob]
theorem eq29 (c1 c2 c3 c4 c5 e1 e2 e3 e4 e5 : Int) : aBin EM .eql 29 (.tmp 70) (.tmp 71) (.agg (acL c1 c2 c3 c4 c5)) (.agg (acL e1 e2 e3 e4 e5)) = some (.bool (eqF c1 e1 && (eqF c2 e2 && (eqF c3 e3 && (eqF c4 e4 && eqF c5 e5))))) := by
  have h : aBin EM .eql 29 (.tmp 70) (.tmp 71) (.agg (acL c1 c2 c3 c4 c5)) (.agg (acL e1 e2 e3 e4 e5)) = ob (an2 (eqF c1 e1) (an2 (eqF c2 e2) (an2 (eqF c3 e3) (an2 (eqF c4 e4) (an2 (eqF c5 e5) (some true)))))) := by kernel_rfl
  rw [h]
  simp only [an2_some, Bool.and_true, ob]
theorem ne25 (d e : Nat → Nat) : aBin EM .neq 25 (.tmp 62) (.tmp 63) (.agg (ddL d)) (.agg (ddL e)) = some (.bool (!decide (il d = il e))) := by
  have h : aBin EM .neq 25 (.tmp 62) (.tmp 63) (.agg (ddL d)) (.agg (ddL e)) = obn (eqLs (fun _ x y => aEq0 (.int .u8) x y) 5 256 (ddL d) (ddL e)) := by kernel_rfl
  rw [h, eqLs_D]; rfl
def zD (d : Nat → Nat) : Bool := decide (il (fun _ => 0) = il d)
def zA (ak aw key nw at_ : Int) : Bool := eqF (.ofNat 0) ak && (eqF (.ofNat 0) aw && (eqF (.ofNat 0) key && (eqF (.ofNat 0) nw && eqF (.ofNat 0) at_)))
def inW (z : Int) : Bool := !ltF z (.ofNat 0) && ltF z (.ofNat 16)
def inB (z : Int) : Bool := !ltF z (.ofNat 0) && ltF z (.ofNat 64)
def in255 (z : Int) : Bool := !ltF z (.ofNat 0) && !ltF (.ofNat 255) z
def eqG (x y : Int) : Bool := eqF x y
def mayK (k : Nat) (num who blk ak aw key nw at_ : Int) (d : Nat → Nat) : Bool :=
  match k with
  | 1 | 4 | 5 => inW who && inB blk && zD d && zA ak aw key nw at_
  | 2 => inW who && inB blk && zA ak aw key nw at_
  | 3 | 6 => inW who && eqF blk (.ofNat 0) && zD d && zA ak aw key nw at_
  | 7 => inW who && eqF blk (.ofNat 0) && zD d && eqF aw (.ofNat 0) && in255 ak && in255 at_
  | _ => false
def mayC (k : Int) (num who blk ak aw key nw at_ : Int) (d : Nat → Nat) : Bool := match k with | .ofNat n => mayK n num who blk ak aw key nw at_ d | .negSucc _ => false
theorem eqF_sym (a b : Int) : eqF a b = eqF b a := by
  cases h : eqF a b with
  | true => have := eqF_t h; subst this; rw [eqF_self]
  | false =>
    cases h2 : eqF b a with
    | true => exact absurd (eqF_t h2).symm (eqF_f h)
    | false => rfl
theorem ltF_16 {z : Int} : ltF (.ofNat 15) z = !ltF z (.ofNat 16) := by
  cases h : ltF z (.ofNat 16) with
  | true =>
    have := ltF_t h
    cases h2 : ltF (.ofNat 15) z with
    | true => have h3 := ltF_t h2; exact absurd h3 (by show ¬ (15 : Int) < z; have : z < (16 : Int) := this; omega)
    | false => rfl
  | false =>
    have := ltF_f h
    cases h2 : ltF (.ofNat 15) z with
    | true => rfl
    | false => have h3 := ltF_f h2; exact absurd h3 (by show ¬ z ≤ (15 : Int); have : (16 : Int) ≤ z := this; omega)
theorem ltF_00 : ltF (.ofNat 0) (.ofNat 0) = false := rfl
theorem ltF_255 : ltF (.ofNat 255) (.ofNat 0) = false := rfl
theorem ltF_64 : ltF (.ofNat 0) (.ofNat 64) = true := rfl
theorem ltN_00 : ltF 0 0 = false := rfl
theorem ltN_255 : ltF 255 0 = false := rfl
theorem ltN_64 : ltF 0 64 = true := rfl
section
variable {num who blk ak aw key nw at_ : Int} {d : Nat → Nat} {S : ASt}
theorem zA_t (h : zA ak aw key nw at_ = true) : ak = .ofNat 0 ∧ aw = .ofNat 0 ∧ key = .ofNat 0 ∧ nw = .ofNat 0 ∧ at_ = .ofNat 0 := by
  unfold zA at h
  simp only [Bool.and_eq_true] at h
  obtain ⟨h1, h2, h3, h4, h5⟩ := h
  exact ⟨(eqF_t h1).symm, (eqF_t h2).symm, (eqF_t h3).symm, (eqF_t h4).symm, (eqF_t h5).symm⟩
theorem avI {k : IntKind} {z : Int} : avEq (.int k z) (.int k z) = true := by
  cases k <;> simp [avEq]
theorem AtMem.of_run {P : Program} {E : Env} {n : Nat} (hE : E.Ok P) {sum : CallT} (hs : CallsOK P sum) {f : Nat} {args : List AV} {st : ASt} {v : AV} (h : Option.map Prod.fst ((M E (drawA E) sum n).call f args st) = some v) : AtMem P f args st v := by
  cases h1 : (M E (drawA E) sum n).call f args st with
  | none => rw [h1] at h; cases h
  | some r =>
    rw [h1] at h
    simp only [Option.map_some, Option.some.injEq] at h
    intro B w0 ι w args' _ hsr hv
    obtain ⟨k1, k2⟩ := (M_ok hE (drawA_ok hE) hs n).call B w0 f args st r h1 ι w args' hsr hv
    exact ⟨k1, k2.mono fun e w' hp => ⟨r, h, hp⟩⟩
theorem may0 (k : Int) (hk : (∃ n, k = .negSucc n) ∨ k = .ofNat 0 ∨ ∃ n, k = .ofNat (n + 8)) : AtMem Tryz.prog 44 [.agg (cmK k num who blk ak aw key nw at_ d), nI 64] M0 (.bool false) := by
  rcases hk with ⟨n, rfl⟩ | rfl | ⟨n, rfl⟩ <;> exact AtMem.of_run EMok noSum_ok (n := 60) (by kernel_rfl)
theorem ref0 (k : Int) (hk : (∃ n, k = .negSucc n) ∨ k = .ofNat 0 ∨ ∃ n, k = .ofNat (n + 8)) : AtMem Tryz.prog 13 [.agg (cmK k num who blk ak aw key nw at_ d), nI 64] M0 (.bool false) := by
  rcases hk with ⟨n, rfl⟩ | rfl | ⟨n, rfl⟩ <;> exact AtMem.of_run EMok noSum_ok (n := 60) (by kernel_rfl)
theorem eqM1 : still S (aBin EM .eql 31 (.tmp 14) (.tmp 15) (.agg (cmL num who (.ofNat 1) (blk) zzL (acL 0 0 0 0 0))) (.agg (cmL num who (.ofNat 1) blk (ddL d) (acL ak aw key nw at_)))) = some (.bool (zD d && zA ak aw key nw at_), S) := by
  refine still_of ?_
  rw [zzL_dd]
  refine (eq31 _ _ _ _ _ _ _ _ _ _ _ _ _ _ _ _ _ _ _ _).trans ?_
  simp only [eqF_self, Bool.true_and]
  rfl
theorem may1 : AtMem Tryz.prog 44 [.agg (cmK 1 num who blk ak aw key nw at_ d), nI 64] M0 (.bool (mayK 1 num who blk ak aw key nw at_ d)) := by
  by_cases hq : (zD d && zA ak aw key nw at_) = true
  · have hE : ∀ {S : ASt}, still S (aBin EM .eql 31 (.tmp 14) (.tmp 15) (.agg (cmL num who (.ofNat 1) (blk) zzL (acL 0 0 0 0 0))) (.agg (cmL num who (.ofNat 1) blk (ddL d) (acL ak aw key nw at_)))) = some (.bool true, S) := by
      intro S
      rw [eqM1, hq]
    simp only [Bool.and_eq_true] at hq
    obtain ⟨q2, q3⟩ := hq
    have q4 := zA_t q3
    obtain ⟨r1, r2, r3, r4, r5⟩ := q4
    subst r1; subst r2; subst r3; subst r4; subst r5
    
    refine AtMem.of_tm EMok noSum_ok (Eq.mp (vcMy1 num who blk (.ofNat 0) (.ofNat 0) (.ofNat 0) (.ofNat 0) (.ofNat 0) d (fun r => r.1 = .bool (mayK 1 num who blk (.ofNat 0) (.ofNat 0) (.ofNat 0) (.ofNat 0) (.ofNat 0) d))) ⟨hE, ifB_mk (fun h0 => ifB_mk (fun h1 => ifB_mk (fun h2 => ifB_mk (fun h3 => ifB_mk (fun h4 => ifB_mk (fun h5 => ifB_mk (fun h6 => ifB_mk (fun h7 => ?_) fun h7 => ?_) fun h6 => ?_) fun h5 => ?_) fun h4 => ?_) fun h3 => ?_) fun h2 => ?_) fun h1 => ?_) fun h0 => ?_⟩) <;> simp_all [mayK, inW, inB, ltN_00, ltN_255]
  · have hq2 := Bool.eq_false_iff.2 hq
    refine AtMem.of_tm EMok noSum_ok (Eq.mp (vcMn1 num who blk ak aw key nw at_ d (fun r => r.1 = .bool (mayK 1 num who blk ak aw key nw at_ d))) ⟨eqM1.trans (by rw [hq2]), ?_⟩)
    show AV.bool false = AV.bool _
    congr 1
    
    simp_all [mayK]
theorem eqM2 : still S (aBin EM .eql 31 (.tmp 14) (.tmp 15) (.agg (cmL num who (.ofNat 2) (blk) (ddL d) (acL 0 0 0 0 0))) (.agg (cmL num who (.ofNat 2) blk (ddL d) (acL ak aw key nw at_)))) = some (.bool (zA ak aw key nw at_), S) := by
  refine still_of ?_
  
  refine (eq31 _ _ _ _ _ _ _ _ _ _ _ _ _ _ _ _ _ _ _ _).trans ?_
  simp only [eqF_self, Bool.true_and, decide_true]
  rfl
theorem may2 : AtMem Tryz.prog 44 [.agg (cmK 2 num who blk ak aw key nw at_ d), nI 64] M0 (.bool (mayK 2 num who blk ak aw key nw at_ d)) := by
  by_cases hq : (zA ak aw key nw at_) = true
  · have hE : ∀ {S : ASt}, still S (aBin EM .eql 31 (.tmp 14) (.tmp 15) (.agg (cmL num who (.ofNat 2) (blk) (ddL d) (acL 0 0 0 0 0))) (.agg (cmL num who (.ofNat 2) blk (ddL d) (acL ak aw key nw at_)))) = some (.bool true, S) := by
      intro S
      rw [eqM2, hq]
    
    have q3 := hq
    have q4 := zA_t q3
    obtain ⟨r1, r2, r3, r4, r5⟩ := q4
    subst r1; subst r2; subst r3; subst r4; subst r5
    
    refine AtMem.of_tm EMok noSum_ok (Eq.mp (vcMy2 num who blk (.ofNat 0) (.ofNat 0) (.ofNat 0) (.ofNat 0) (.ofNat 0) d (fun r => r.1 = .bool (mayK 2 num who blk (.ofNat 0) (.ofNat 0) (.ofNat 0) (.ofNat 0) (.ofNat 0) d))) ⟨hE, ifB_mk (fun h0 => ifB_mk (fun h1 => ifB_mk (fun h2 => ifB_mk (fun h3 => ifB_mk (fun h4 => ifB_mk (fun h5 => ifB_mk (fun h6 => ifB_mk (fun h7 => ?_) fun h7 => ?_) fun h6 => ?_) fun h5 => ?_) fun h4 => ?_) fun h3 => ?_) fun h2 => ?_) fun h1 => ?_) fun h0 => ?_⟩) <;> simp_all [mayK, inW, inB, ltN_00, ltN_255]
  · have hq2 := Bool.eq_false_iff.2 hq
    refine AtMem.of_tm EMok noSum_ok (Eq.mp (vcMn2 num who blk ak aw key nw at_ d (fun r => r.1 = .bool (mayK 2 num who blk ak aw key nw at_ d))) ⟨eqM2.trans (by rw [hq2]), ?_⟩)
    show AV.bool false = AV.bool _
    congr 1
    
    simp_all [mayK]
theorem eqM3 : still S (aBin EM .eql 31 (.tmp 14) (.tmp 15) (.agg (cmL num who (.ofNat 3) (.ofNat 0) zzL (acL 0 0 0 0 0))) (.agg (cmL num who (.ofNat 3) blk (ddL d) (acL ak aw key nw at_)))) = some (.bool (eqF (.ofNat 0) blk && (zD d && zA ak aw key nw at_)), S) := by
  refine still_of ?_
  rw [zzL_dd]
  refine (eq31 _ _ _ _ _ _ _ _ _ _ _ _ _ _ _ _ _ _ _ _).trans ?_
  simp only [eqF_self, Bool.true_and]
  rfl
theorem may3 : AtMem Tryz.prog 44 [.agg (cmK 3 num who blk ak aw key nw at_ d), nI 64] M0 (.bool (mayK 3 num who blk ak aw key nw at_ d)) := by
  by_cases hq : (eqF (.ofNat 0) blk && (zD d && zA ak aw key nw at_)) = true
  · have hE : ∀ {S : ASt}, still S (aBin EM .eql 31 (.tmp 14) (.tmp 15) (.agg (cmL num who (.ofNat 3) (.ofNat 0) zzL (acL 0 0 0 0 0))) (.agg (cmL num who (.ofNat 3) blk (ddL d) (acL ak aw key nw at_)))) = some (.bool true, S) := by
      intro S
      rw [eqM3, hq]
    simp only [Bool.and_eq_true] at hq
    obtain ⟨q1, q2, q3⟩ := hq
    have q4 := zA_t q3
    obtain ⟨r1, r2, r3, r4, r5⟩ := q4
    subst r1; subst r2; subst r3; subst r4; subst r5
    have q5 : blk = .ofNat 0 := (eqF_t q1).symm
    refine AtMem.of_tm EMok noSum_ok (Eq.mp (vcMy3 num who blk (.ofNat 0) (.ofNat 0) (.ofNat 0) (.ofNat 0) (.ofNat 0) d (fun r => r.1 = .bool (mayK 3 num who blk (.ofNat 0) (.ofNat 0) (.ofNat 0) (.ofNat 0) (.ofNat 0) d))) ⟨hE, ifB_mk (fun h0 => ifB_mk (fun h1 => ifB_mk (fun h2 => ifB_mk (fun h3 => ifB_mk (fun h4 => ifB_mk (fun h5 => ifB_mk (fun h6 => ifB_mk (fun h7 => ?_) fun h7 => ?_) fun h6 => ?_) fun h5 => ?_) fun h4 => ?_) fun h3 => ?_) fun h2 => ?_) fun h1 => ?_) fun h0 => ?_⟩) <;> simp_all [mayK, inW, ltN_00, ltN_255, ltN_64]
  · have hq2 := Bool.eq_false_iff.2 hq
    refine AtMem.of_tm EMok noSum_ok (Eq.mp (vcMn3 num who blk ak aw key nw at_ d (fun r => r.1 = .bool (mayK 3 num who blk ak aw key nw at_ d))) ⟨eqM3.trans (by rw [hq2]), ?_⟩)
    show AV.bool false = AV.bool _
    congr 1
    have hq3 : ¬ (eqF blk (.ofNat 0) && (zD d && zA ak aw key nw at_)) = true := by rw [eqF_sym]; exact hq
    simp_all [mayK]
theorem eqM4 : still S (aBin EM .eql 31 (.tmp 14) (.tmp 15) (.agg (cmL num who (.ofNat 4) (blk) zzL (acL 0 0 0 0 0))) (.agg (cmL num who (.ofNat 4) blk (ddL d) (acL ak aw key nw at_)))) = some (.bool (zD d && zA ak aw key nw at_), S) := by
  refine still_of ?_
  rw [zzL_dd]
  refine (eq31 _ _ _ _ _ _ _ _ _ _ _ _ _ _ _ _ _ _ _ _).trans ?_
  simp only [eqF_self, Bool.true_and]
  rfl
theorem may4 : AtMem Tryz.prog 44 [.agg (cmK 4 num who blk ak aw key nw at_ d), nI 64] M0 (.bool (mayK 4 num who blk ak aw key nw at_ d)) := by
  by_cases hq : (zD d && zA ak aw key nw at_) = true
  · have hE : ∀ {S : ASt}, still S (aBin EM .eql 31 (.tmp 14) (.tmp 15) (.agg (cmL num who (.ofNat 4) (blk) zzL (acL 0 0 0 0 0))) (.agg (cmL num who (.ofNat 4) blk (ddL d) (acL ak aw key nw at_)))) = some (.bool true, S) := by
      intro S
      rw [eqM4, hq]
    simp only [Bool.and_eq_true] at hq
    obtain ⟨q2, q3⟩ := hq
    have q4 := zA_t q3
    obtain ⟨r1, r2, r3, r4, r5⟩ := q4
    subst r1; subst r2; subst r3; subst r4; subst r5
    
    refine AtMem.of_tm EMok noSum_ok (Eq.mp (vcMy4 num who blk (.ofNat 0) (.ofNat 0) (.ofNat 0) (.ofNat 0) (.ofNat 0) d (fun r => r.1 = .bool (mayK 4 num who blk (.ofNat 0) (.ofNat 0) (.ofNat 0) (.ofNat 0) (.ofNat 0) d))) ⟨hE, ifB_mk (fun h0 => ifB_mk (fun h1 => ifB_mk (fun h2 => ifB_mk (fun h3 => ifB_mk (fun h4 => ifB_mk (fun h5 => ifB_mk (fun h6 => ifB_mk (fun h7 => ?_) fun h7 => ?_) fun h6 => ?_) fun h5 => ?_) fun h4 => ?_) fun h3 => ?_) fun h2 => ?_) fun h1 => ?_) fun h0 => ?_⟩) <;> simp_all [mayK, inW, inB, ltN_00, ltN_255]
  · have hq2 := Bool.eq_false_iff.2 hq
    refine AtMem.of_tm EMok noSum_ok (Eq.mp (vcMn4 num who blk ak aw key nw at_ d (fun r => r.1 = .bool (mayK 4 num who blk ak aw key nw at_ d))) ⟨eqM4.trans (by rw [hq2]), ?_⟩)
    show AV.bool false = AV.bool _
    congr 1
    
    simp_all [mayK]
theorem eqM5 : still S (aBin EM .eql 31 (.tmp 14) (.tmp 15) (.agg (cmL num who (.ofNat 5) (blk) zzL (acL 0 0 0 0 0))) (.agg (cmL num who (.ofNat 5) blk (ddL d) (acL ak aw key nw at_)))) = some (.bool (zD d && zA ak aw key nw at_), S) := by
  refine still_of ?_
  rw [zzL_dd]
  refine (eq31 _ _ _ _ _ _ _ _ _ _ _ _ _ _ _ _ _ _ _ _).trans ?_
  simp only [eqF_self, Bool.true_and]
  rfl
theorem may5 : AtMem Tryz.prog 44 [.agg (cmK 5 num who blk ak aw key nw at_ d), nI 64] M0 (.bool (mayK 5 num who blk ak aw key nw at_ d)) := by
  by_cases hq : (zD d && zA ak aw key nw at_) = true
  · have hE : ∀ {S : ASt}, still S (aBin EM .eql 31 (.tmp 14) (.tmp 15) (.agg (cmL num who (.ofNat 5) (blk) zzL (acL 0 0 0 0 0))) (.agg (cmL num who (.ofNat 5) blk (ddL d) (acL ak aw key nw at_)))) = some (.bool true, S) := by
      intro S
      rw [eqM5, hq]
    simp only [Bool.and_eq_true] at hq
    obtain ⟨q2, q3⟩ := hq
    have q4 := zA_t q3
    obtain ⟨r1, r2, r3, r4, r5⟩ := q4
    subst r1; subst r2; subst r3; subst r4; subst r5
    
    refine AtMem.of_tm EMok noSum_ok (Eq.mp (vcMy5 num who blk (.ofNat 0) (.ofNat 0) (.ofNat 0) (.ofNat 0) (.ofNat 0) d (fun r => r.1 = .bool (mayK 5 num who blk (.ofNat 0) (.ofNat 0) (.ofNat 0) (.ofNat 0) (.ofNat 0) d))) ⟨hE, ifB_mk (fun h0 => ifB_mk (fun h1 => ifB_mk (fun h2 => ifB_mk (fun h3 => ifB_mk (fun h4 => ifB_mk (fun h5 => ifB_mk (fun h6 => ifB_mk (fun h7 => ?_) fun h7 => ?_) fun h6 => ?_) fun h5 => ?_) fun h4 => ?_) fun h3 => ?_) fun h2 => ?_) fun h1 => ?_) fun h0 => ?_⟩) <;> simp_all [mayK, inW, inB, ltN_00, ltN_255]
  · have hq2 := Bool.eq_false_iff.2 hq
    refine AtMem.of_tm EMok noSum_ok (Eq.mp (vcMn5 num who blk ak aw key nw at_ d (fun r => r.1 = .bool (mayK 5 num who blk ak aw key nw at_ d))) ⟨eqM5.trans (by rw [hq2]), ?_⟩)
    show AV.bool false = AV.bool _
    congr 1
    
    simp_all [mayK]
theorem eqM6 : still S (aBin EM .eql 31 (.tmp 14) (.tmp 15) (.agg (cmL num who (.ofNat 6) (.ofNat 0) zzL (acL 0 0 0 0 0))) (.agg (cmL num who (.ofNat 6) blk (ddL d) (acL ak aw key nw at_)))) = some (.bool (eqF (.ofNat 0) blk && (zD d && zA ak aw key nw at_)), S) := by
  refine still_of ?_
  rw [zzL_dd]
  refine (eq31 _ _ _ _ _ _ _ _ _ _ _ _ _ _ _ _ _ _ _ _).trans ?_
  simp only [eqF_self, Bool.true_and]
  rfl
theorem may6 : AtMem Tryz.prog 44 [.agg (cmK 6 num who blk ak aw key nw at_ d), nI 64] M0 (.bool (mayK 6 num who blk ak aw key nw at_ d)) := by
  by_cases hq : (eqF (.ofNat 0) blk && (zD d && zA ak aw key nw at_)) = true
  · have hE : ∀ {S : ASt}, still S (aBin EM .eql 31 (.tmp 14) (.tmp 15) (.agg (cmL num who (.ofNat 6) (.ofNat 0) zzL (acL 0 0 0 0 0))) (.agg (cmL num who (.ofNat 6) blk (ddL d) (acL ak aw key nw at_)))) = some (.bool true, S) := by
      intro S
      rw [eqM6, hq]
    simp only [Bool.and_eq_true] at hq
    obtain ⟨q1, q2, q3⟩ := hq
    have q4 := zA_t q3
    obtain ⟨r1, r2, r3, r4, r5⟩ := q4
    subst r1; subst r2; subst r3; subst r4; subst r5
    have q5 : blk = .ofNat 0 := (eqF_t q1).symm
    refine AtMem.of_tm EMok noSum_ok (Eq.mp (vcMy6 num who blk (.ofNat 0) (.ofNat 0) (.ofNat 0) (.ofNat 0) (.ofNat 0) d (fun r => r.1 = .bool (mayK 6 num who blk (.ofNat 0) (.ofNat 0) (.ofNat 0) (.ofNat 0) (.ofNat 0) d))) ⟨hE, ifB_mk (fun h0 => ifB_mk (fun h1 => ifB_mk (fun h2 => ifB_mk (fun h3 => ifB_mk (fun h4 => ifB_mk (fun h5 => ifB_mk (fun h6 => ifB_mk (fun h7 => ?_) fun h7 => ?_) fun h6 => ?_) fun h5 => ?_) fun h4 => ?_) fun h3 => ?_) fun h2 => ?_) fun h1 => ?_) fun h0 => ?_⟩) <;> simp_all [mayK, inW, ltN_00, ltN_255, ltN_64]
  · have hq2 := Bool.eq_false_iff.2 hq
    refine AtMem.of_tm EMok noSum_ok (Eq.mp (vcMn6 num who blk ak aw key nw at_ d (fun r => r.1 = .bool (mayK 6 num who blk ak aw key nw at_ d))) ⟨eqM6.trans (by rw [hq2]), ?_⟩)
    show AV.bool false = AV.bool _
    congr 1
    have hq3 : ¬ (eqF blk (.ofNat 0) && (zD d && zA ak aw key nw at_)) = true := by rw [eqF_sym]; exact hq
    simp_all [mayK]
theorem eqM7 : still S (aBin EM .eql 31 (.tmp 14) (.tmp 15) (.agg (cmL num who (.ofNat 7) (.ofNat 0) zzL (acL ak aw key nw at_))) (.agg (cmL num who (.ofNat 7) blk (ddL d) (acL ak aw key nw at_)))) = some (.bool (eqF (.ofNat 0) blk && zD d), S) := by
  refine still_of ?_
  rw [zzL_dd]
  refine (eq31 _ _ _ _ _ _ _ _ _ _ _ _ _ _ _ _ _ _ _ _).trans ?_
  simp only [eqF_self, Bool.true_and, Bool.and_true]
  rfl
theorem may7 : AtMem Tryz.prog 44 [.agg (cmK 7 num who blk ak aw key nw at_ d), nI 64] M0 (.bool (mayK 7 num who blk ak aw key nw at_ d)) := by
  by_cases hq : (eqF (.ofNat 0) blk && zD d) = true
  · simp only [Bool.and_eq_true] at hq
    obtain ⟨q1, q2⟩ := hq
    have q1' : eqF blk (.ofNat 0) = true := by rw [eqF_sym]; exact q1
    have q3 : blk = .ofNat 0 := eqF_t q1'
    have hE : ∀ {S : ASt}, still S (aBin EM .eql 31 (.tmp 14) (.tmp 15) (.agg (cmL num who (.ofNat 7) (.ofNat 0) zzL (acL ak aw key nw at_))) (.agg (cmL num who (.ofNat 7) blk (ddL d) (acL ak aw key nw at_)))) = some (.bool true, S) := by
      intro S
      rw [eqM7, q1, q2]; rfl
    refine AtMem.of_tm EMok noSum_ok (Eq.mp (vcMy7 num who blk ak aw key nw at_ d (fun r => r.1 = .bool (mayK 7 num who blk ak aw key nw at_ d))) (ifB_mk (fun g => ⟨⟨⟨rfl, avI⟩, trivial⟩, hE, ifB_mk (fun h0 => ifB_mk (fun h1 => ifB_mk (fun h2 => ifB_mk (fun h3 => ifB_mk (fun h4 => ifB_mk (fun h5 => ifB_mk (fun h6 => ifB_mk (fun h7 => ?_) fun h7 => ?_) fun h6 => ?_) fun h5 => ?_) fun h4 => ?_) fun h3 => ?_) fun h2 => ?_) fun h1 => ?_) fun h0 => ?_⟩) fun g => ⟨⟨⟨rfl, avI⟩, trivial⟩, ?_⟩)) <;> simp_all [mayK, inW, in255, ltN_00, ltN_64]
  · refine AtMem.of_tm EMok noSum_ok (Eq.mp (vcMn7 num who blk ak aw key nw at_ d (fun r => r.1 = .bool (mayK 7 num who blk ak aw key nw at_ d))) (ifB_mk (fun g => ⟨⟨⟨rfl, avI⟩, trivial⟩, ?_, ?_⟩) fun g => ⟨⟨⟨rfl, avI⟩, trivial⟩, ?_⟩))
    · exact eqM7.trans (by rw [Bool.eq_false_iff.2 hq])
    · have hq' : ¬ (eqF blk (.ofNat 0) && zD d) = true := by rw [eqF_sym]; exact hq
      show AV.bool false = AV.bool _
      congr 1
      simp [mayK]
      intro _ h1 h2
      simp [h1, h2] at hq'
    · show AV.bool false = AV.bool _
      congr 1
      simp_all [mayK]
end
end Go.Proofs.YtcboepooglaogaaGreatDoor.spt
end

section
open Go Go.Ax Go.Proofs
namespace Go.Proofs.YtcboepooglaogaaGreatDoor.spt
set_option linter.unusedVariables false
section
variable {num who blk ak aw key nw at_ : Int} {d : Nat → Nat} {S : ASt}
theorem ne25z : still S (aBin EM .neq 25 (.tmp 62) (.tmp 63) (.agg (ddL d)) (.agg zzL)) = some (.bool (!zD d), S) := by
  refine still_of ?_
  rw [zzL_dd, ne25]
  unfold zD
  rw [show decide (il d = il (fun _ => 0)) = decide (il (fun _ => 0) = il d) from decide_eq_decide.2 ⟨Eq.symm, Eq.symm⟩]
theorem ltN_16 {z : Int} : ltF 15 z = !ltF z 16 := ltF_16
theorem eq29z : still S (aBin EM .eql 29 (.tmp 70) (.tmp 71) (.agg [.int .i64 ak, .int .i64 aw, .int .u64 key, .int .u64 nw, .int .i64 at_]) (.agg [.int .i64 (.ofNat 0), .int .i64 (.ofNat 0), .int .u64 (.ofNat 0), .int .u64 (.ofNat 0), .int .i64 (.ofNat 0)])) = some (.bool (zA ak aw key nw at_), S) := by
  refine still_of ?_
  refine (eq29 ak aw key nw at_ 0 0 0 0 0).trans ?_
  unfold zA
  rw [eqF_sym ak, eqF_sym aw, eqF_sym key, eqF_sym nw, eqF_sym at_]
  rfl
theorem ref1 : AtMem Tryz.prog 13 [.agg (cmK 1 num who blk ak aw key nw at_ d), nI 64] M0 (.bool (mayK 1 num who blk ak aw key nw at_ d)) := by
  cases hz : zD d with
  | true => refine AtMem.of_tm EMok noSum_ok (Eq.mp (vcRy1 num who blk ak aw key nw at_ d (zA ak aw key nw at_) (fun r => r.1 = .bool (mayK 1 num who blk ak aw key nw at_ d))) (ifB_mk (fun h0 => ?_) fun h0 => ifB_mk (fun h1 => ?_) fun h1 => ifB_mk (fun h2 => ?_) fun h2 => ifB_mk (fun h3 => ?_) fun h3 => ⟨ne25z.trans (by rw [hz]; rfl), eq29z, ?_⟩)) <;> simp_all [mayK, inW, inB, ltN_16]
  | false => refine AtMem.of_tm EMok noSum_ok (Eq.mp (vcRn1 num who blk ak aw key nw at_ d (fun r => r.1 = .bool (mayK 1 num who blk ak aw key nw at_ d))) (ifB_mk (fun h0 => ?_) fun h0 => ifB_mk (fun h1 => ?_) fun h1 => ifB_mk (fun h2 => ?_) fun h2 => ifB_mk (fun h3 => ?_) fun h3 => ⟨ne25z.trans (by rw [hz]; rfl), ?_⟩)) <;> simp_all [mayK, inW, inB, ltN_16]
theorem ref2 : AtMem Tryz.prog 13 [.agg (cmK 2 num who blk ak aw key nw at_ d), nI 64] M0 (.bool (mayK 2 num who blk ak aw key nw at_ d)) := by
  refine AtMem.of_tm EMok noSum_ok (Eq.mp (vcRy2 num who blk ak aw key nw at_ d (zA ak aw key nw at_) (fun r => r.1 = .bool (mayK 2 num who blk ak aw key nw at_ d))) (ifB_mk (fun h0 => ?_) fun h0 => ifB_mk (fun h1 => ?_) fun h1 => ifB_mk (fun h2 => ?_) fun h2 => ifB_mk (fun h3 => ?_) fun h3 => ⟨eq29z, ?_⟩)) <;> simp_all [mayK, inW, inB, ltN_16]
theorem ref3 : AtMem Tryz.prog 13 [.agg (cmK 3 num who blk ak aw key nw at_ d), nI 64] M0 (.bool (mayK 3 num who blk ak aw key nw at_ d)) := by
  cases hz : zD d with
  | true => refine AtMem.of_tm EMok noSum_ok (Eq.mp (vcRy3 num who blk ak aw key nw at_ d (zA ak aw key nw at_) (fun r => r.1 = .bool (mayK 3 num who blk ak aw key nw at_ d))) (ifB_mk (fun h0 => ?_) fun h0 => ifB_mk (fun h1 => ?_) fun h1 => ifB_mk (fun h2 => ?_) fun h2 => ⟨ne25z.trans (by rw [hz]; rfl), eq29z, ?_⟩)) <;> simp_all [mayK, inW, ltN_16]
  | false => refine AtMem.of_tm EMok noSum_ok (Eq.mp (vcRn3 num who blk ak aw key nw at_ d (fun r => r.1 = .bool (mayK 3 num who blk ak aw key nw at_ d))) (ifB_mk (fun h0 => ?_) fun h0 => ifB_mk (fun h1 => ?_) fun h1 => ifB_mk (fun h2 => ?_) fun h2 => ⟨ne25z.trans (by rw [hz]; rfl), ?_⟩)) <;> simp_all [mayK, inW, ltN_16]
theorem ref4 : AtMem Tryz.prog 13 [.agg (cmK 4 num who blk ak aw key nw at_ d), nI 64] M0 (.bool (mayK 4 num who blk ak aw key nw at_ d)) := by
  cases hz : zD d with
  | true => refine AtMem.of_tm EMok noSum_ok (Eq.mp (vcRy4 num who blk ak aw key nw at_ d (zA ak aw key nw at_) (fun r => r.1 = .bool (mayK 4 num who blk ak aw key nw at_ d))) (ifB_mk (fun h0 => ?_) fun h0 => ifB_mk (fun h1 => ?_) fun h1 => ifB_mk (fun h2 => ?_) fun h2 => ifB_mk (fun h3 => ?_) fun h3 => ⟨ne25z.trans (by rw [hz]; rfl), eq29z, ?_⟩)) <;> simp_all [mayK, inW, inB, ltN_16]
  | false => refine AtMem.of_tm EMok noSum_ok (Eq.mp (vcRn4 num who blk ak aw key nw at_ d (fun r => r.1 = .bool (mayK 4 num who blk ak aw key nw at_ d))) (ifB_mk (fun h0 => ?_) fun h0 => ifB_mk (fun h1 => ?_) fun h1 => ifB_mk (fun h2 => ?_) fun h2 => ifB_mk (fun h3 => ?_) fun h3 => ⟨ne25z.trans (by rw [hz]; rfl), ?_⟩)) <;> simp_all [mayK, inW, inB, ltN_16]
theorem ref5 : AtMem Tryz.prog 13 [.agg (cmK 5 num who blk ak aw key nw at_ d), nI 64] M0 (.bool (mayK 5 num who blk ak aw key nw at_ d)) := by
  cases hz : zD d with
  | true => refine AtMem.of_tm EMok noSum_ok (Eq.mp (vcRy5 num who blk ak aw key nw at_ d (zA ak aw key nw at_) (fun r => r.1 = .bool (mayK 5 num who blk ak aw key nw at_ d))) (ifB_mk (fun h0 => ?_) fun h0 => ifB_mk (fun h1 => ?_) fun h1 => ifB_mk (fun h2 => ?_) fun h2 => ifB_mk (fun h3 => ?_) fun h3 => ⟨ne25z.trans (by rw [hz]; rfl), eq29z, ?_⟩)) <;> simp_all [mayK, inW, inB, ltN_16]
  | false => refine AtMem.of_tm EMok noSum_ok (Eq.mp (vcRn5 num who blk ak aw key nw at_ d (fun r => r.1 = .bool (mayK 5 num who blk ak aw key nw at_ d))) (ifB_mk (fun h0 => ?_) fun h0 => ifB_mk (fun h1 => ?_) fun h1 => ifB_mk (fun h2 => ?_) fun h2 => ifB_mk (fun h3 => ?_) fun h3 => ⟨ne25z.trans (by rw [hz]; rfl), ?_⟩)) <;> simp_all [mayK, inW, inB, ltN_16]
theorem ref6 : AtMem Tryz.prog 13 [.agg (cmK 6 num who blk ak aw key nw at_ d), nI 64] M0 (.bool (mayK 6 num who blk ak aw key nw at_ d)) := by
  cases hz : zD d with
  | true => refine AtMem.of_tm EMok noSum_ok (Eq.mp (vcRy6 num who blk ak aw key nw at_ d (zA ak aw key nw at_) (fun r => r.1 = .bool (mayK 6 num who blk ak aw key nw at_ d))) (ifB_mk (fun h0 => ?_) fun h0 => ifB_mk (fun h1 => ?_) fun h1 => ifB_mk (fun h2 => ?_) fun h2 => ⟨ne25z.trans (by rw [hz]; rfl), eq29z, ?_⟩)) <;> simp_all [mayK, inW, ltN_16]
  | false => refine AtMem.of_tm EMok noSum_ok (Eq.mp (vcRn6 num who blk ak aw key nw at_ d (fun r => r.1 = .bool (mayK 6 num who blk ak aw key nw at_ d))) (ifB_mk (fun h0 => ?_) fun h0 => ifB_mk (fun h1 => ?_) fun h1 => ifB_mk (fun h2 => ?_) fun h2 => ⟨ne25z.trans (by rw [hz]; rfl), ?_⟩)) <;> simp_all [mayK, inW, ltN_16]
theorem ref7 : AtMem Tryz.prog 13 [.agg (cmK 7 num who blk ak aw key nw at_ d), nI 64] M0 (.bool (mayK 7 num who blk ak aw key nw at_ d)) := by
  cases hz : zD d with
  | true => refine AtMem.of_tm EMok noSum_ok (Eq.mp (vcRy7 num who blk ak aw key nw at_ d (fun r => r.1 = .bool (mayK 7 num who blk ak aw key nw at_ d))) (ifB_mk (fun h0 => ?_) fun h0 => ifB_mk (fun h1 => ?_) fun h1 => ifB_mk (fun h2 => ?_) fun h2 => ⟨ne25z.trans (by rw [hz]; rfl), ifB_mk (fun g0 => ifB_mk (fun g1 => ifB_mk (fun g2 => ifB_mk (fun g3 => ifB_mk (fun g4 => ?_) fun g4 => ?_) fun g3 => ?_) fun g2 => ?_) fun g1 => ?_) fun g0 => ?_⟩)) <;> simp_all [mayK, inW, in255, ltN_16]
  | false => refine AtMem.of_tm EMok noSum_ok (Eq.mp (vcRn7 num who blk ak aw key nw at_ d (fun r => r.1 = .bool (mayK 7 num who blk ak aw key nw at_ d))) (ifB_mk (fun h0 => ?_) fun h0 => ifB_mk (fun h1 => ?_) fun h1 => ifB_mk (fun h2 => ?_) fun h2 => ⟨ne25z.trans (by rw [hz]; rfl), ?_⟩)) <;> simp_all [mayK, inW, in255, ltN_16]
theorem cmK_refs {k : Int} : refsV 0 (.agg (cmK k num who blk ak aw key nw at_ d)) := by
  simp only [refsV]
  intro c hc
  unfold cmK cmL at hc
  rcases List.mem_append.1 hc with h | h
  · simp only [List.mem_cons, List.not_mem_nil, or_false] at h
    rcases h with rfl | rfl | rfl | rfl <;> simp [refsV]
  · rcases List.mem_append.1 h with h | h
    · rw [ddL_il] at h
      exact refU _ c h
    · simp only [acL, List.mem_cons, List.not_mem_nil, or_false] at h
      rcases h with rfl | rfl | rfl | rfl | rfl <;> simp [refsV]
theorem may_mem (k : Int) : AtMem Tryz.prog 44 [.agg (cmK k num who blk ak aw key nw at_ d), nI 64] M0 (.bool (mayC k num who blk ak aw key nw at_ d)) := by
  cases k with
  | negSucc n => exact may0 _ (.inl ⟨n, rfl⟩)
  | ofNat n =>
    match n with
    | 0 => exact may0 _ (.inr (.inl rfl))
    | 1 => exact may1
    | 2 => exact may2
    | 3 => exact may3
    | 4 => exact may4
    | 5 => exact may5
    | 6 => exact may6
    | 7 => exact may7
    | n + 8 => exact may0 _ (.inr (.inr ⟨n, rfl⟩))
theorem may_at (k : Int) : Call1 Tryz.prog 44 [.agg (cmK k num who blk ak aw key nw at_ d), nI 64] S (.bool (mayC k num who blk ak aw key nw at_ d), S) :=
  Call1.pure (may_mem k) (by simp [refsV]) fun a ha => by
    simp only [List.mem_cons, List.not_mem_nil, or_false] at ha
    rcases ha with rfl | rfl
    · exact cmK_refs
    · simp [refsV, nI]
theorem ref_mem (k : Int) : AtMem Tryz.prog 13 [.agg (cmK k num who blk ak aw key nw at_ d), nI 64] M0 (.bool (mayC k num who blk ak aw key nw at_ d)) := by
  cases k with
  | negSucc n => exact ref0 _ (.inl ⟨n, rfl⟩)
  | ofNat n =>
    match n with
    | 0 => exact ref0 _ (.inr (.inl rfl))
    | 1 => exact ref1
    | 2 => exact ref2
    | 3 => exact ref3
    | 4 => exact ref4
    | 5 => exact ref5
    | 6 => exact ref6
    | 7 => exact ref7
    | n + 8 => exact ref0 _ (.inr (.inr ⟨n, rfl⟩))
theorem ref_at (k : Int) : Call1 Tryz.prog 13 [.agg (cmK k num who blk ak aw key nw at_ d), nI 64] S (.bool (mayC k num who blk ak aw key nw at_ d), S) :=
  Call1.pure (ref_mem k) (by simp [refsV]) fun a ha => by
    simp only [List.mem_cons, List.not_mem_nil, or_false] at ha
    rcases ha with rfl | rfl
    · exact cmK_refs
    · simp [refsV, nI]
end
end Go.Proofs.YtcboepooglaogaaGreatDoor.spt
end
