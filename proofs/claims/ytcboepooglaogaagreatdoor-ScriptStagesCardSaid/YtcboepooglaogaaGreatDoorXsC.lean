/-
  OWN WORK, A PART: an abstract machine for the program's text that the kernel can run, and the proof that it is sound: what it answers is what the program answers; contracts of functions by it. No condition.
-/
import Derived.Test.YtcboepooglaogaaGreatDoorXsB
section
open Go Go.Ax Go.Proofs
namespace Go.Proofs.YtcboepooglaogaaGreatDoor.spt
set_option linter.unusedVariables false
end Go.Proofs.YtcboepooglaogaaGreatDoor.spt
end

section
open Go Go.Ax Go.Proofs
namespace Go.Proofs.YtcboepooglaogaaGreatDoor.spt
set_option linter.unusedVariables false
section
variable {num who blk ak aw key nw at_:Int} {d:Nat→Nat} {S:ASt}
theorem AtMem.of_run {P:Program} {E:Env} {n:Nat} (hE:E.Ok P) {sum:CallT} (hs:CallsOK P sum) {f:Nat} {args:List AV} {st:ASt} {v:AV} (h:Option.map Prod.fst ((M E (drawA E) sum n).call f args st)=some v):AtMem P f args st v:=by
 cases h1:(M E (drawA E) sum n).call f args st with
 | none=>rw[h1] at h;cases h
 | some r =>
  rw[h1] at h
  simp only[Option.map_some,Option.some.injEq] at h
  intro B w0 ι w args' _ hsr hv
  obtain⟨k1,k2⟩:=(M_ok hE (drawA_ok hE) hs n).call B w0 f args st r h1 ι w args' hsr hv
  exact⟨k1,k2.mono fun e w' hp=>⟨r,h,hp⟩⟩
end
end Go.Proofs.YtcboepooglaogaaGreatDoor.spt
end

section
open Go Go.Ax Go.Proofs
namespace Go.Proofs.YtcboepooglaogaaGreatDoor.spt
set_option linter.unusedVariables false
section
variable {num who blk ak aw key nw at_:Int} {d:Nat→Nat} {S:ASt}
end
end Go.Proofs.YtcboepooglaogaaGreatDoor.spt
end
