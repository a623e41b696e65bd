/-
  OWN WORK, A PART: an abstract machine for the program's text that the kernel can run, and the proof that it is sound: what it answers is what the program answers; contracts of functions by it. No condition.
-/
import Derived.Test.YtcboepooglaogaaGreatDoorXsB
section
open Go Go.Ax Go.Proofs
namespace Go.Proofs.YtcboepooglaogaaGreatDoor.spt
set_option linter.unusedVariables false
def numC:CallT:=fun f args st=>bif Nat.beq f 104 then (match args with | [.int .i64 (.ofNat n)]=>bif Nat.blt n 10 then some (.str [48+n],st) else none | _=>none)
 else bif Nat.beq f 106 then (match args with | [.int .u64 (.ofNat n),.int .i64 (.ofNat b)]=>bif Nat.beq b 10 then (bif Nat.blt n 10 then some (.str [48+n],st) else none) else none | _=>none) else none
theorem numC_ok:CallsOK Tryz.prog numC:=fun B w0 f args st r hr ι w args' hsr hv=>by
 unfold numC at hr
 cases h1:Nat.beq f 104 with
 | true =>
  have:=nbeq h1
  subst this
  simp only[Nat.beq_refl,cond_true] at hr
  split at hr
  ·rename_i n
   cases h2:Nat.blt n 10 with
   | true =>
    rw[h2] at hr
    simp only[cond_true,Option.some.injEq] at hr
    subst hr
    have hn:n<10:=by rw[←Nat.blt_eq];exact h2
    have:=itoa_at (S:=st) (n:=n) (by omega)
    rw[decL_small hn] at this
    unfold dT at this
    rw[Nat.mod_eq_of_lt hn] at this
    exact this B w0 ι w args' hsr hv
   | false=>rw[h2] at hr;cases hr
  ·cases hr
 | false =>
  rw[h1] at hr
  simp only[cond_false] at hr
  cases h3:Nat.beq f 106 with
  | false=>rw[h3] at hr;cases hr
  | true =>
   have:=nbeq h3
   subst this
   rw[h3] at hr
   simp only[cond_true] at hr
   split at hr
   ·rename_i n b
    cases h4:Nat.beq b 10 with
    | false=>rw[h4] at hr;cases hr
    | true =>
     have:=nbeq h4
     subst this
     simp only[Nat.beq_refl,cond_true] at hr
     cases h2:Nat.blt n 10 with
     | true =>
      rw[h2] at hr
      simp only[cond_true,Option.some.injEq] at hr
      subst hr
      have hn:n<10:=by rw[←Nat.blt_eq];exact h2
      have:=fmt_at (S:=st) (u:=n) (by omega)
      rw[decL_small hn] at this
      unfold dT at this
      rw[Nat.mod_eq_of_lt hn] at this
      exact this B w0 ι w args' hsr hv
     | false=>rw[h2] at hr;cases hr
   ·cases hr
noncomputable def EN:Env:=envEx Tryz.prog (List.range 399) [(10,Tryz.f10),(14,Tryz.f14),(15,Tryz.f15),(28,Tryz.f28),(32,Tryz.f32),(44,Tryz.f44),(45,Tryz.f45),(46,Tryz.f46),(72,Tryz.f72),(75,Tryz.f75),(76,Tryz.f76),(77,Tryz.f77),(78,Tryz.f78),(79,Tryz.f79),(80,Tryz.f80),(81,Tryz.f81),(102,Tryz.f102),(103,Tryz.f103),(105,Tryz.f105),(110,Tryz.f110),(121,Tryz.f121),(122,Tryz.f122),(124,Tryz.f124),(125,Tryz.f125),(127,Tryz.f127),(128,Tryz.f128),(130,Tryz.f130),(131,Tryz.f131),(134,Tryz.f134),(135,Tryz.f135),(137,Tryz.f137),(138,Tryz.f138)] []
theorem ENok:Env.Ok Tryz.prog EN:=envEx_ok (xs:=[]) ⟨⟨Tryz.func10,Tryz.call10⟩,⟨Tryz.func14,Tryz.call14⟩,⟨Tryz.func15,Tryz.call15⟩,⟨Tryz.func28,Tryz.call28⟩,⟨Tryz.func32,Tryz.call32⟩,⟨Tryz.func44,Tryz.call44⟩,⟨Tryz.func45,Tryz.call45⟩,⟨Tryz.func46,Tryz.call46⟩,⟨Tryz.func72,Tryz.call72⟩,⟨Tryz.func75,Tryz.call75⟩,⟨Tryz.func76,Tryz.call76⟩,⟨Tryz.func77,Tryz.call77⟩,⟨Tryz.func78,Tryz.call78⟩,⟨Tryz.func79,Tryz.call79⟩,⟨Tryz.func80,Tryz.call80⟩,⟨Tryz.func81,Tryz.call81⟩,⟨Tryz.func102,Tryz.call102⟩,⟨Tryz.func103,Tryz.call103⟩,⟨Tryz.func105,Tryz.call105⟩,⟨Tryz.func110,Tryz.call110⟩,⟨Tryz.func121,Tryz.call121⟩,⟨Tryz.func122,Tryz.call122⟩,⟨Tryz.func124,Tryz.call124⟩,⟨Tryz.func125,Tryz.call125⟩,⟨Tryz.func127,Tryz.call127⟩,⟨Tryz.func128,Tryz.call128⟩,⟨Tryz.func130,Tryz.call130⟩,⟨Tryz.func131,Tryz.call131⟩,⟨Tryz.func134,Tryz.call134⟩,⟨Tryz.func135,Tryz.call135⟩,⟨Tryz.func137,Tryz.call137⟩,⟨Tryz.func138,Tryz.call138⟩,trivial⟩ trivial (by kernel_rfl)
noncomputable def smK:CallT:=orC numC (sumJoin 107)
theorem smK_ok:CallsOK Tryz.prog smK:=orC_ok numC_ok join_ok
theorem AtMem.of_run {P:Program} {E:Env} {n:Nat} (hE:E.Ok P) {sum:CallT} (hs:CallsOK P sum) {f:Nat} {args:List AV} {st:ASt} {v:AV} (h:Option.map Prod.fst ((M E (drawA E) sum n).call f args st)=some v):AtMem P f args st v:=by
 cases h1:(M E (drawA E) sum n).call f args st with
 | none=>rw[h1] at h;cases h
 | some r =>
  rw[h1] at h
  simp only[Option.map_some,Option.some.injEq] at h
  intro B w0 ι w args' _ hsr hv
  obtain⟨k1,k2⟩:=(M_ok hE (drawA_ok hE) hs n).call B w0 f args st r h1 ι w args' hsr hv
  exact⟨k1,k2.mono fun e w' hp=>⟨r,h,hp⟩⟩
theorem known_at {S:ASt}:Call1 Tryz.prog 15 [] S (.bool true,S):=Call1.pure (AtMem.of_run ENok smK_ok (n:=300) (by kernel_rfl)) (by simp[refsV]) fun a ha=>by cases ha
end Go.Proofs.YtcboepooglaogaaGreatDoor.spt
end

section
open Go Go.Ax Go.Proofs
namespace Go.Proofs.YtcboepooglaogaaGreatDoor.spt
set_option linter.unusedVariables false
end Go.Proofs.YtcboepooglaogaaGreatDoor.spt
end
