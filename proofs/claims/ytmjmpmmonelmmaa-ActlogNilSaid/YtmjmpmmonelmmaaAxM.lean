/-
  OWN WORK, TOLD ONCE FOR ALL TEXTS YtmjmpmmonelmmaaAxA TO YtmjmpmmonelmmaaAxU: an abstract machine for the program's text that the kernel can run, and the proof that it is sound: what it answers is what the program answers. No condition.
-/
import Derived.Test.YtmjmpmmonelmmaaAxW
namespace Go.Ax
noncomputable section
open Go.RowKit

/-! ### The machine -/
abbrev CallT := FuncId → List AV → ASt → Option (AV × ASt)
abbrev ExecT := Option Nat → Code → AFr → ASt → Option (Exit × AFr × ASt)

def evA (fr : AFr) : Operand → Option AV
  | .tmp t => some ((fr.m.get t).getD undefA)
  | .const v => ofValue v
  | .global _ => none
  | .func f => some (.clos f [])

def evL (fr : AFr) : List Operand → Option (List AV)
  | [] => some []
  | x :: xs =>
    match evA fr x with
    | some v =>
      match evL fr xs with
      | some vs => some (v :: vs)
      | none => none
    | none => none

def evO (fr : AFr) : Option Operand → Option (Option AV)
  | none => some none
  | some x => match evA fr x with | some v => some (some v) | none => none

def evP (fr : AFr) : List (Nat × Operand) → Option (List (Nat × AV))
  | [] => some []
  | x :: xs =>
    match evA fr x.2 with
    | some v =>
      match evP fr xs with
      | some vs => some ((x.1, v) :: vs)
      | none => none
    | none => none

def still (st : ASt) : Option AV → Option (AV × ASt)
  | some v => some (v, st)
  | none => none

def AFr.put (fr : AFr) (dst : Option Tmp) (v : AV) : Option AFr :=
  match fr with
  | ⟨m, n, ds⟩ =>
    match dst with
    | none => some ⟨m, n, ds⟩
    | some d => bif Nat.ble (Nat.succ d) n then some ⟨m.set 11 d v, n, ds⟩ else none

def aCall (E : Env) (call : CallT) (round : CallT) (c : Call) (fr : AFr) (st : ASt) : Option (AV × ASt) :=
  match evL fr c.args.toList with
  | none => none
  | some args =>
    match c.callee with
    | .builtin b => aBuiltinM E b c.argTypes.toList args st
    | .value f =>
      match evA fr f with
      | some (.clos g caps) =>
        match E.ex.get g with
        | some x => still st (x (args ++ caps))
        | none => call g (args ++ caps) st
      | some (.bound g fs caps) => call g (fs ++ args ++ caps) st
      | some (.yield l) => round l args st
      | _ => none
    | .invoke _ _ => none

def aOp (E : Env) (call : CallT) (round : CallT) (o : Oper) (fr : AFr) (st : ASt) : Option (AV × ASt) :=
  match o.op with
  | .move x => still st (evA fr x)
  | .assign x => still st (evA fr x)
  | .pick c a b =>
    match evA fr c with
    | some (.bool t) => bif t then still st (evA fr a) else still st (evA fr b)
    | _ => none
  | .alloc t => aAlloc E t st
  | .box _ x => match evA fr x with | some v => aBox v st | none => none
  | .build t ps => match evP fr ps.toList with | some l => still st (aBuild E t l) | none => none
  | .buildSlice t n ps => match evP fr ps.toList with | some l => aBuildSlice E t n l st | none => none
  | .load t a => match evA fr a with | some v => aLoad E t v st | none => none
  | .store t a x =>
    match evA fr a with
    | some p => match evA fr x with | some v => (match aStore E t p v st with | some st' => some (undefA, st') | none => none) | none => none
    | none => none
  | .nilCheck x => match evA fr x with | some v => still st (aNilCheck v) | none => none
  | .binOp op t x y _ =>
    match evA fr x with
    | some a => match evA fr y with | some b => still st (aBin E op t x y a b) | none => none
    | none => none
  | .unOp op _ x => match evA fr x with | some a => still st (aUn op a) | none => none
  | .convert s d x => match evA fr x with | some a => aConvert E s d a st | none => none
  | .makeInterface t x => match evA fr x with | some a => still st (aMakeIface E t a) | none => none
  | .makeFunc f first caps =>
    match f with
    | .func g =>
      match first.toList with
      | [] => match evL fr caps.toList with | some l => some (.clos g l, st) | none => none
      | f0 :: fs0 => match evL fr (f0 :: fs0) with | some fs => (match evL fr caps.toList with | some l => some (.bound g fs l, st) | none => none) | none => none
    | _ => none
  | .makeSlice t l c =>
    match evA fr l with
    | some a => match evA fr c with | some b => aMake E t a b st | none => none
    | none => none
  | .slice t x lo hi mx =>
    match evA fr x with
    | some v =>
      match evO fr lo with
      | some lo => match evO fr hi with | some hi => (match evO fr mx with | some mx => still st (aSlice E t v lo hi mx st) | none => none) | none => none
      | none => none
    | none => none
  | .fieldAddr s x f => match evA fr x with | some v => still st (aFieldAddr E s v f) | none => none
  | .field t x f => match evA fr x with | some v => still st (aField E t v f) | none => none
  | .indexAddr t x ix =>
    match evA fr x with
    | some a => match evA fr ix with | some b => still st (aIndexAddr E t a b) | none => none
    | none => none
  | .index t x ix =>
    match evA fr x with
    | some a => match evA fr ix with | some b => still st (aIndex E t a b) | none => none
    | none => none
  | .typeAssert x _ t ok => match evA fr x with | some v => still st (aAssert E v t ok) | none => none
  | .extract x i => match evA fr x with | some v => still st (aExtract v i) | none => none
  | .call c => aCall E call round c fr st
  | .makeMap _ rs => match rs with | none => some (aMakeMap st) | some _ => none
  | .mapUpdate t m k x =>
    match evA fr m with
    | some m => match evA fr k with
      | some k => match evA fr x with
        | some x => (match aMapUpdate E t m k x st with | some st' => some (undefA, st') | none => none)
        | none => none
      | none => none
    | none => none
  | .insert t m k x =>
    match evA fr m with
    | some m => match evA fr k with
      | some k => match evA fr x with
        | some x => (match aMapUpdate E t m k x st with | some st' => some (undefA, st') | none => none)
        | none => none
      | none => none
    | none => none
  | .lookup t x ix ok => match evA fr x with | some x => (match evA fr ix with | some ix => still st (aLookup E t x ix ok st) | none => none) | none => none
  | .range t x => match evA fr x with | some x => aRange E t x st | none => none
  | .next x isS => match evA fr x with | some x => aNext x isS st | none => none
  | .entry x => match evA fr x with | some x => still st (aEntry x st) | none => none
  | _ => none

def wantedA (ops : List Oper) (fr : AFr) (o : Oper) : Bool :=
  match o.guard with
  | none => true
  | some (j, want) =>
    match ops[j]? with
    | some oj =>
      match oj.dst with
      | some d => (match (fr.m.get d).getD undefA with | .bool b => boolEq b want | _ => false)
      | none => false
    | none => false

def stepV (E : Env) (call : CallT) (round : CallT) (ops : List Oper) (o : Oper) (fr : AFr) (st : ASt) : Option (AV × ASt) :=
  bif wantedA ops fr o then aOp E call round o fr st else some (undefA, st)

def step (E : Env) (call : CallT) (round : CallT) (ops : List Oper) (o : Oper) (fr : AFr) (st : ASt) : Option (AFr × ASt) :=
  match stepV E call round ops o fr st with
  | some (v, st') => match fr.put o.dst v with | some fr' => some (fr', st') | none => none
  | none => none

abbrev DrawT := (Oper → AFr → ASt → Option (AV × ASt)) → List Oper → AFr → ASt → Option (AFr × ASt)

def regL (f : Oper → AFr → ASt → Option (AFr × ASt)) : List Oper → AFr → ASt → Option (AFr × ASt)
  | [], fr, st => some (fr, st)
  | o :: os, fr, st =>
    match f o fr st with
    | some (fr', st') => regL f os fr' st'
    | none => none

def loopN (f : AFr → ASt → Option (Exit × AFr × ASt)) : Nat → AFr → ASt → Option (Exit × AFr × ASt)
  | 0, fr, st => f fr st
  | d + 1, fr, st =>
    match loopN f d fr st with
    | some (.normal, fr', st') => loopN f d fr' st'
    | r => r

def putArgs : List AV → Nat → T AV → T AV
  | [], _, m => m
  | v :: vs, k, m => putArgs vs (k + 1) (m.set 11 k v)

def setPs : List Tmp → List AV → AFr → Option AFr
  | [], [], fr => some fr
  | t :: ts, v :: vs, fr => match fr.put (some t) v with | some fr' => setPs ts vs fr' | none => none
  | _, _, _ => none

def killAll : List Nat → ASt → Option ASt
  | [], st => some st
  | i :: is, st => match st.h.get i with | some .defd => killAll is (st.put i .dead) | _ => none

def resV (E : Env) (fr : AFr) (st : ASt) : List ResultVar → Option (List AV)
  | [] => some []
  | r :: rs =>
    match (match r with
      | .tmp t => some ((fr.m.get t).getD undefA)
      | .cell a t => match aLoad E t ((fr.m.get a).getD undefA) st with | some x => some x.1 | none => none) with
    | some v => match resV E fr st rs with | some vs => some (v :: vs) | none => none
    | none => none

def retV : List AV → AV
  | [v] => v
  | vs => .tuple vs

def leaveA (E : Env) (fn : Func) (fr : AFr) (st : ASt) : Option (AV × ASt) :=
  match killAll fr.defs st with
  | some st' => match resV E fr st' fn.results.toList with | some vs => some (retV vs, st') | none => none
  | none => none

def callF (E : Env) (ex : ExecT) : CallT := fun f args st =>
  match E.fn.get f with
  | none => none
  | some fn =>
    match fn.body with
    | none => none
    | some c =>
      bif Nat.ble args.length fn.ntmps then
        match ex none c { m := putArgs args 0 .e, n := fn.ntmps, defs := [] } st with
        | some (.normal, fr, st') => leaveA E fn fr st'
        | some (.ret, fr, st') => leaveA E fn fr st'
        | _ => none
      else none

def endR (l : Nat) (j : Option Code) (st : ASt) : Option (AV × ASt) :=
  match st.h.get l with
  | some (.loop _ _ tm ps as bo de) =>
    match j with
    | none => some (.bool true, st.put l (.loop .ready none tm ps as bo de))
    | some c => some (.bool false, st.put l (.loop .done (some c) tm ps as bo de))
  | _ => none

def roundF (ex : ExecT) : CallT := fun l args st =>
  match st.h.get l with
  | some (.loop _ _ tm ps as bo _) =>
    match setPs ps args { tm with defs := [] } with
    | none => none
    | some fr =>
      match ex (some l) as fr st with
      | some (.normal, fr1, st1) =>
        match st1.h.get l with
        | some (.loop .ready pe tm1 ps1 as1 bo1 de1) =>
          match ex (some l) bo fr1 (st1.put l (.loop .busy pe tm1 ps1 as1 bo1 de1)) with
          | some (.normal, _, st2) => endR l none st2
          | some (.ret, _, st2) => endR l (some .ret) st2
          | some (.exit id, _, st2) => endR l (some (.exit id)) st2
          | some (.goto t, _, st2) => endR l (some (.goto t)) st2
          | _ => none
        | _ => none
      | _ => none
  | _ => none

def rangeA (call : CallT) (ex : ExecT) (ro : Option Nat) (g : Operand) (ps : Array Tmp) (as bo : Code) (fr : AFr) (st : ASt) : Option (Exit × AFr × ASt) :=
  match evA fr g with
  | some (.clos f caps) =>
    let go (de : Nat) (fr1 : AFr) (st1 : ASt) : Option (Exit × AFr × ASt) :=
      let l := st1.next
      match call f (.yield l :: caps) (st1.add (.loop .ready none fr ps.toList as bo de)) with
      | some (_, st2) =>
        match st2.h.get l with
        | some (.loop s pe _ _ _ _ _) =>
          match s with
          | .busy => none
          | _ =>
            match pe with
            | none => some (.normal, fr1, st2.put l .dead)
            | some c => ex ro c fr1 (st2.put l .dead)
        | _ => none
      | none => none
    match ro with
    | none => go st.next { fr with defs := st.next :: fr.defs } (st.add .defd)
    | some l0 =>
      match st.h.get l0 with
      | some (.loop _ _ _ _ _ _ de) => go de fr st
      | _ => none
  | _ => none

def execF (E : Env) (draw : DrawT) (ex : ExecT) (call : CallT) (round : CallT) : ExecT := fun ro c fr st =>
  match c with
  | .skip => some (.normal, fr, st)
  | .label _ => some (.normal, fr, st)
  | .exit id => some (.exit id, fr, st)
  | .goto l => some (.goto l, fr, st)
  | .ret => some (.ret, fr, st)
  | .region _ ops false =>
    match regL (step E call round ops.toList) ops.toList fr st with
    | some (fr', st') => some (.normal, fr', st')
    | none => none
  | .region _ ops true =>
    match draw (stepV E call round ops.toList) ops.toList fr st with
    | some (fr', st') => some (.normal, fr', st')
    | none => none
  | .seq a b =>
    match ex ro a fr st with
    | some (.normal, fr', st') => ex ro b fr' st'
    | r => r
  | .cond x t e =>
    match evA fr x with
    | some (.bool v) => bif v then ex ro t fr st else ex ro e fr st
    | _ => none
  | .block id body =>
    match ex ro body fr st with
    | some (.exit i, fr', st') => bif Nat.beq i id then some (.normal, fr', st') else some (.exit i, fr', st')
    | r => r
  | .loop body =>
    match loopN (ex ro body) 24 fr st with
    | some (.normal, _, _) => none
    | r => r
  | .rangeFunc g ps as bo => rangeA call ex ro g ps as bo fr st
  | _ => none

structure Mach where
  ex : ExecT
  call : CallT
  round : CallT

def M (E : Env) (draw : DrawT) (sum : CallT) : Nat → Mach
  | 0 => { ex := fun _ _ _ _ => none, call := fun _ _ _ => none, round := fun _ _ _ => none }
  | n + 1 =>
    let m := M E draw sum n
    { ex := execF E draw m.ex m.call m.round,
      call := fun f args st => match sum f args st with | some r => some r | none => callF E m.ex f args st,
      round := roundF m.ex }
end
end Go.Ax
