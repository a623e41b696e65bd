/-
  OWN WORK, TOLD ONCE FOR ALL TEXTS YtmjmpmmonelmmaaAxA TO YtmjmpmmonelmmaaAxU: an abstract machine for the program's text that the kernel can run, and the proof that it is sound: what it answers is what the program answers. No condition.
-/
import Derived.Test.YtmjmpmmonelmmaaAxEq
namespace Go.Ax
noncomputable section
open Go.RowKit

/-! ### The machine -/
abbrev CallT := FuncId → List AV → ASt → Option (AV × ASt)
abbrev ExecT := Option Nat → Code → AFr → ASt → Option (Exit × AFr × ASt)

def evA (fr : AFr) : Operand → Option AV
  | .tmp t => some ((fr.m.get t).getD undefA)
  | .const v => ofValue v
  | .global g => match glV g with | some _ => some (.gptr g 0) | none => none
  | .func f => some (.clos f [])

def evL (fr : AFr) : List Operand → Option (List AV)
  | [] => some []
  | x :: xs =>
    match evA fr x with
    | some v =>
      match evL fr xs with
      | some vs => some (v :: vs)
      | none => none
    | none => none

def evO (fr : AFr) : Option Operand → Option (Option AV)
  | none => some none
  | some x => match evA fr x with | some v => some (some v) | none => none

def evP (fr : AFr) : List (Nat × Operand) → Option (List (Nat × AV))
  | [] => some []
  | x :: xs =>
    match evA fr x.2 with
    | some v =>
      match evP fr xs with
      | some vs => some ((x.1, v) :: vs)
      | none => none
    | none => none

def still (st : ASt) : Option AV → Option (AV × ASt)
  | some v => some (v, st)
  | none => none

def AFr.put (fr : AFr) (dst : Option Tmp) (v : AV) : Option AFr :=
  match fr with
  | ⟨m, n, ds⟩ =>
    match dst with
    | none => some ⟨m, n, ds⟩
    | some d => bif Nat.ble (Nat.succ d) n then some ⟨m.set 11 d v, n, ds⟩ else none

def aCall (E : Env) (call : CallT) (round : CallT) (c : Call) (fr : AFr) (st : ASt) : Option (AV × ASt) :=
  match evL fr c.args.toList with
  | none => none
  | some args =>
    match c.callee with
    | .builtin b => aBuiltinM E b c.argTypes.toList args st
    | .value f =>
      match evA fr f with
      | some (.clos g caps) =>
        match E.ex.get g with
        | some x => still st (x (args ++ caps))
        | none => call g (args ++ caps) st
      | some (.bound g fs caps) => call g (fs ++ args ++ caps) st
      | some (.yield l) => round l args st
      | _ => none
    | .invoke _ _ => none

def aOp (E : Env) (call : CallT) (round : CallT) (o : Oper) (fr : AFr) (st : ASt) : Option (AV × ASt) :=
  match o.op with
  | .move x => still st (evA fr x)
  | .assign x => still st (evA fr x)
  | .pick c a b =>
    match evA fr c with
    | some (.bool t) => bif t then still st (evA fr a) else still st (evA fr b)
    | _ => none
  | .alloc t => aAlloc E t st
  | .box _ x => match evA fr x with | some v => aBox v st | none => none
  | .build t ps => match evP fr ps.toList with | some l => still st (aBuild E t l) | none => none
  | .buildSlice t n ps => match evP fr ps.toList with | some l => aBuildSlice E t n l st | none => none
  | .load t a => match evA fr a with | some v => aLoad E t v st | none => none
  | .store t a x =>
    match evA fr a with
    | some p => match evA fr x with | some v => (match aStore E t p v st with | some st' => some (undefA, st') | none => none) | none => none
    | none => none
  | .nilCheck x => match evA fr x with | some v => still st (aNilCheck v) | none => none
  | .binOp op t x y _ =>
    match evA fr x with
    | some a => match evA fr y with | some b => still st (aBin E op t x y a b) | none => none
    | none => none
  | .unOp op _ x => match evA fr x with | some a => still st (aUn op a) | none => none
  | .convert s d x => match evA fr x with | some a => aConvert E s d a st | none => none
  | .makeInterface t x => match evA fr x with | some a => still st (aMakeIface E t a) | none => none
  | .makeFunc f first caps =>
    match f with
    | .func g =>
      match first.toList with
      | [] => match evL fr caps.toList with | some l => some (.clos g l, st) | none => none
      | f0 :: fs0 => match evL fr (f0 :: fs0) with | some fs => (match evL fr caps.toList with | some l => some (.bound g fs l, st) | none => none) | none => none
    | _ => none
  | .makeSlice t l c =>
    match evA fr l with
    | some a => match evA fr c with | some b => aMake E t a b st | none => none
    | none => none
  | .slice t x lo hi mx =>
    match evA fr x with
    | some v =>
      match evO fr lo with
      | some lo => match evO fr hi with | some hi => (match evO fr mx with | some mx => still st (aSlice E t v lo hi mx st) | none => none) | none => none
      | none => none
    | none => none
  | .fieldAddr s x f => match evA fr x with | some v => still st (aFieldAddr E s v f) | none => none
  | .field t x f => match evA fr x with | some v => still st (aField E t v f) | none => none
  | .indexAddr t x ix =>
    match evA fr x with
    | some a => match evA fr ix with | some b => still st (aIndexAddr E t a b) | none => none
    | none => none
  | .index t x ix =>
    match evA fr x with
    | some a => match evA fr ix with | some b => still st (aIndex E t a b) | none => none
    | none => none
  | .typeAssert x _ t ok => match evA fr x with | some v => still st (aAssert E v t ok) | none => none
  | .extract x i => match evA fr x with | some v => still st (aExtract v i) | none => none
  | .call c => aCall E call round c fr st
  | .makeMap _ rs => match rs with | none => some (aMakeMap st) | some _ => none
  | .mapUpdate t m k x =>
    match evA fr m with
    | some m => match evA fr k with
      | some k => match evA fr x with
        | some x => (match aMapUpdate E t m k x st with | some st' => some (undefA, st') | none => none)
        | none => none
      | none => none
    | none => none
  | .insert t m k x =>
    match evA fr m with
    | some m => match evA fr k with
      | some k => match evA fr x with
        | some x => (match aMapUpdate E t m k x st with | some st' => some (undefA, st') | none => none)
        | none => none
      | none => none
    | none => none
  | .lookup t x ix ok => match evA fr x with | some x => (match evA fr ix with | some ix => still st (aLookup E t x ix ok st) | none => none) | none => none
  | .range t x => match evA fr x with | some x => aRange E t x st | none => none
  | .next x isS => match evA fr x with | some x => aNext x isS st | none => none
  | .entry x => match evA fr x with | some x => still st (aEntry x st) | none => none
  | _ => none

def wantedA (ops : List Oper) (fr : AFr) (o : Oper) : Bool :=
  match o.guard with
  | none => true
  | some (j, want) =>
    match ops[j]? with
    | some oj =>
      match oj.dst with
      | some d => (match (fr.m.get d).getD undefA with | .bool b => boolEq b want | _ => false)
      | none => false
    | none => false

/-- is it unknown whether the operation is wanted? -/
def guardAny (ops : List Oper) (fr : AFr) (o : Oper) : Bool :=
  match o.guard with
  | none => false
  | some (j, _) =>
    match ops[j]? with
    | some oj =>
      match oj.dst with
      | some d => (match (fr.m.get d).getD undefA with | .any => true | _ => false)
      | none => false
    | none => false

def stepV (E : Env) (call : CallT) (round : CallT) (ops : List Oper) (o : Oper) (fr : AFr) (st : ASt) : Option (AV × ASt) :=
  bif guardAny ops fr o then none else bif wantedA ops fr o then aOp E call round o fr st else some (undefA, st)

def step (E : Env) (call : CallT) (round : CallT) (ops : List Oper) (o : Oper) (fr : AFr) (st : ASt) : Option (AFr × ASt) :=
  match stepV E call round ops o fr st with
  | some (v, st') => match fr.put o.dst v with | some fr' => some (fr', st') | none => none
  | none => none

abbrev DrawT := (Oper → AFr → ASt → Option (AV × ASt)) → List Oper → AFr → ASt → Option (AFr × ASt)

def regL (f : Oper → AFr → ASt → Option (AFr × ASt)) : List Oper → AFr → ASt → Option (AFr × ASt)
  | [], fr, st => some (fr, st)
  | o :: os, fr, st =>
    match f o fr st with
    | some (fr', st') => regL f os fr' st'
    | none => none

def loopN (f : AFr → ASt → Option (Exit × AFr × ASt)) : Nat → AFr → ASt → Option (Exit × AFr × ASt)
  | 0, fr, st => f fr st
  | d + 1, fr, st =>
    match loopN f d fr st with
    | some (.normal, fr', st') => loopN f d fr' st'
    | r => r

def putArgs : List AV → Nat → T AV → T AV
  | [], _, m => m
  | v :: vs, k, m => putArgs vs (k + 1) (m.set 11 k v)

def setPs : List Tmp → List AV → AFr → Option AFr
  | [], [], fr => some fr
  | t :: ts, v :: vs, fr => match fr.put (some t) v with | some fr' => setPs ts vs fr' | none => none
  | _, _, _ => none

def killAll : List Nat → ASt → Option ASt
  | [], st => some st
  | i :: is, st => match st.h.get i with | some .defd => killAll is (st.put i .dead) | _ => none

def resV (E : Env) (fr : AFr) (st : ASt) : List ResultVar → Option (List AV)
  | [] => some []
  | r :: rs =>
    match (match r with
      | .tmp t => some ((fr.m.get t).getD undefA)
      | .cell a t => match aLoad E t ((fr.m.get a).getD undefA) st with | some x => some x.1 | none => none) with
    | some v => match resV E fr st rs with | some vs => some (v :: vs) | none => none
    | none => none

def retV : List AV → AV
  | [v] => v
  | vs => .tuple vs

def leaveA (E : Env) (fn : Func) (fr : AFr) (st : ASt) : Option (AV × ASt) :=
  match killAll fr.defs st with
  | some st' => match resV E fr st' fn.results.toList with | some vs => some (retV vs, st') | none => none
  | none => none

def callF (E : Env) (ex : ExecT) : CallT := fun f args st =>
  match E.fn.get f with
  | none => none
  | some fn =>
    match fn.body with
    | none => none
    | some c =>
      bif Nat.ble args.length fn.ntmps then
        match ex none c { m := putArgs args 0 .e, n := fn.ntmps, defs := [] } st with
        | some (.normal, fr, st') => leaveA E fn fr st'
        | some (.ret, fr, st') => leaveA E fn fr st'
        | _ => none
      else none

def endR (l : Nat) (j : Option Code) (st : ASt) : Option (AV × ASt) :=
  match st.h.get l with
  | some (.loop _ _ tm ps as bo de) =>
    match j with
    | none => some (.bool true, st.put l (.loop .ready none tm ps as bo de))
    | some c => some (.bool false, st.put l (.loop .done (some c) tm ps as bo de))
  | _ => none

def roundF (ex : ExecT) : CallT := fun l args st =>
  match st.h.get l with
  | some (.loop _ _ tm ps as bo _) =>
    match setPs ps args { tm with defs := [] } with
    | none => none
    | some fr =>
      match ex (some l) as fr st with
      | some (.normal, fr1, st1) =>
        match st1.h.get l with
        | some (.loop .ready pe tm1 ps1 as1 bo1 de1) =>
          match ex (some l) bo fr1 (st1.put l (.loop .busy pe tm1 ps1 as1 bo1 de1)) with
          | some (.normal, _, st2) => endR l none st2
          | some (.ret, _, st2) => endR l (some .ret) st2
          | some (.exit id, _, st2) => endR l (some (.exit id)) st2
          | some (.goto t, _, st2) => endR l (some (.goto t)) st2
          | _ => none
        | _ => none
      | _ => none
  | _ => none

def rangeA (call : CallT) (ex : ExecT) (ro : Option Nat) (g : Operand) (ps : Array Tmp) (as bo : Code) (fr : AFr) (st : ASt) : Option (Exit × AFr × ASt) :=
  match evA fr g with
  | some (.clos f caps) =>
    let go (de : Nat) (fr1 : AFr) (st1 : ASt) : Option (Exit × AFr × ASt) :=
      let l := st1.next
      match call f (.yield l :: caps) (st1.add (.loop .ready none fr ps.toList as bo de)) with
      | some (_, st2) =>
        match st2.h.get l with
        | some (.loop s pe _ _ _ _ _) =>
          match s with
          | .busy => none
          | _ =>
            match pe with
            | none => some (.normal, fr1, st2.put l .dead)
            | some c => ex ro c fr1 (st2.put l .dead)
        | _ => none
      | none => none
    match ro with
    | none => go st.next { fr with defs := st.next :: fr.defs } (st.add .defd)
    | some l0 =>
      match st.h.get l0 with
      | some (.loop _ _ _ _ _ _ de) => go de fr st
      | _ => none
  | _ => none

/-! ### A range over a map with several entries: all ways -/
def candsOf (x : AV) (st : ASt) : Option (Nat × Nat × Nat × List Nat × Nat × Ents) :=
  match x with
  | .ptr (some (i, 0)) =>
    match st.h.get i with
    | some (.miter (some j) since seen last) =>
      match st.h.get j with
      | some (.map es c) =>
        bif (bif isNil seen then false else bif isNil es then false else allE (fun b => Nat.ble last b) es) then none else
        let left := filt (fun b => Bool.not (memN b seen)) es
        match filt (fun b => Nat.ble since b) left with
        | [] => some (i, j, since, seen, c, filt (fun b => Nat.blt b since) left)
        | _ => none
      | _ => none
    | _ => none
  | _ => none

/-- the c-th of those that may come next comes -/
def aNextC (c : Nat) (x : AV) (st : ASt) : Option (AV × ASt) :=
  match candsOf x st with
  | some (i, j, since, seen, ck, es) =>
    match es[c]? with
    | some e => some (.tuple [.bool true, e.1, e.2.1], st.put i (.miter (some j) since (seen ++ [e.2.2]) ck))
    | none => none
  | none => none


def leftHas : Code → Option Operand
  | .seq a _ => leftHas a
  | .region _ ops false =>
    match ops.toList with
    | o :: _ =>
      match o.guard with
      | some _ => none
      | none => match o.op with | .next x isS => (bif isS then none else some x) | _ => none
    | [] => none
  | _ => none

def leftRun (E : Env) (call round : CallT) (ex : ExecT) (ro : Option Nat) (c : Nat) : Code → AFr → ASt → Option (Exit × AFr × ASt)
  | .seq a b, fr, st =>
    match leftRun E call round ex ro c a fr st with
    | some (.normal, fr', st') => ex ro b fr' st'
    | r => r
  | .region _ ops false, fr, st =>
    match ops.toList with
    | o :: os =>
      match o.op with
      | .next x _ =>
        match evA fr x with
        | some v =>
          match aNextC c v st with
          | some (u, st1) =>
            match fr.put o.dst u with
            | some fr1 =>
              match regL (step E call round ops.toList) os fr1 st1 with
              | some (fr2, st2) => some (.normal, fr2, st2)
              | none => none
            | none => none
          | none => none
        | none => none
      | _ => none
    | [] => none
  | _, _, _ => none


def entsEq : Ents → Ents → Bool
  | [], [] => true
  | x :: xs, y :: ys => avEq x.1 y.1 && (avEq x.2.1 y.2.1 && (Nat.beq x.2.2 y.2.2 && entsEq xs ys))
  | _, _ => false

def aoEq : AO → AO → Bool
  | .cells cs rw, y => match y with | .cells ds rw' => boolEq rw rw' && avsEq cs ds | _ => false
  | .map es c, y => match y with | .map fs d => Nat.beq c d && entsEq es fs | _ => false
  | .defd, y => match y with | .defd => true | _ => false
  | .siter s p, y => match y with | .siter t q => Nat.beq p q && decide (s = t) | _ => false
  | .miter m a s l, y => match y with | .miter m' a' s' l' => decide (m = m') && (Nat.beq a a' && (decide (s = s') && Nat.beq l l')) | _ => false
  | _, _ => false

def joinO (v v' : Option AO) : Option AO :=
  match v with
  | some x => (match v' with | some y => bif aoEq x y then some x else none | none => none)
  | none => none

def joinT : T AO → T AO → T AO
  | .n l v r, t => (match t with | .n l' v' r' => .n (joinT l l') (joinO v v') (joinT r r') | _ => .e)
  | _, _ => .e


def joinSt (a b : ASt) : ASt := { h := joinT a.h b.h, next := Nat.max a.next b.next }


def noO : T AV → Bool
  | .e => true
  | .n l _ r => bif noO l then noO r else false
  | .o .. => false
def anyV (v : Option AV) : Option AV := match v with | some _ => some .any | none => none
def anyT : T AV → T AV
  | .n l v r => .n (anyT l) (anyV v) (anyT r)
  | _ => .e
def joinV (v v' : Option AV) : Option AV :=
  match v with
  | some x => (match v' with | some y => (bif avEq x y then some x else some .any) | none => some .any)
  | none => (match v' with | some _ => some .any | none => none)
def joinFT : T AV → T AV → T AV
  | .n l v r, t => (match t with | .n l' v' r' => .n (joinFT l l') (joinV v v') (joinFT r r') | _ => anyT (.n l v r))
  | _, t => anyT t


def exEq : Exit → Exit → Bool
  | .normal, y => match y with | .normal => true | _ => false
  | .exit i, y => match y with | .exit j => Nat.beq i j | _ => false
  | .ret, y => match y with | .ret => true | _ => false
  | _, _ => false

def join (r r' : Exit × AFr × ASt) : Option (Exit × AFr × ASt) :=
  match r, r' with
  | (e, fr, st), (e', fr', st') =>
    bif exEq e e' then bif Nat.beq fr.n fr'.n then bif lEq fr.defs fr'.defs then bif noO fr.m then bif noO fr'.m then
      some (e, { m := joinFT fr.m fr'.m, n := fr.n, defs := fr.defs }, joinSt st st')
    else none else none else none else none else none


def ways (run : Nat → Option (Exit × AFr × ASt)) : Nat → Option (Exit × AFr × ASt)
  | 0 => none
  | n + 1 =>
    match n with
    | 0 => run 0
    | m + 1 =>
      match ways run (m + 1) with
      | some r => (match run (m + 1) with | some r' => join r r' | none => none)
      | none => none


def candN (body : Code) (fr : AFr) (st : ASt) : Nat :=
  match leftHas body with
  | some x =>
    match evA fr x with
    | some v => (match candsOf v st with | some (_, _, _, _, _, cs) => cs.length | none => 0)
    | none => 0
  | none => 0

def loopM (E : Env) (call round : CallT) (ex : ExecT) (ro : Option Nat) (body : Code) : Nat → AFr → ASt → Option (Exit × AFr × ASt)
  | 0, _, _ => none
  | d + 1, fr, st =>
    bif Nat.blt (candN body fr st) 2 then
      match ex ro body fr st with
      | some (.normal, fr', st') => loopM E call round ex ro body d fr' st'
      | r => r
    else
      ways (fun c =>
        match leftRun E call round ex ro c body fr st with
        | some (.normal, fr', st') => loopM E call round ex ro body d fr' st'
        | r => r) (candN body fr st)


/-- the machine's scope: with so many jumps at most -/
def scopeA (ex : Code → AFr → ASt → Option (Exit × AFr × ASt)) (c : Code) : Nat → Option (Exit × AFr × ASt) → Option (Exit × AFr × ASt)
  | 0, r =>
    match r with
    | some (.goto l, fr, st) => (match findLabel c l with | some _ => none | none => some (.goto l, fr, st))
    | r => r
  | d + 1, r =>
    match r with
    | some (.goto l, fr, st) => (match findLabel c l with | some rest => scopeA ex c d (ex rest fr st) | none => some (.goto l, fr, st))
    | r => r

def execF (E : Env) (draw : DrawT) (ex : ExecT) (call : CallT) (round : CallT) : ExecT := fun ro c fr st =>
  match c with
  | .skip => some (.normal, fr, st)
  | .label _ => some (.normal, fr, st)
  | .exit id => some (.exit id, fr, st)
  | .goto l => some (.goto l, fr, st)
  | .ret => some (.ret, fr, st)
  | .region _ ops false =>
    match regL (step E call round ops.toList) ops.toList fr st with
    | some (fr', st') => some (.normal, fr', st')
    | none => none
  | .region _ ops true =>
    match draw (stepV E call round ops.toList) ops.toList fr st with
    | some (fr', st') => some (.normal, fr', st')
    | none => none
  | .seq a b =>
    match ex ro a fr st with
    | some (.normal, fr', st') => ex ro b fr' st'
    | r => r
  | .cond x t e =>
    match evA fr x with
    | some (.bool v) => bif v then ex ro t fr st else ex ro e fr st
    | _ => none
  | .block id body =>
    match ex ro body fr st with
    | some (.exit i, fr', st') => bif Nat.beq i id then some (.normal, fr', st') else some (.exit i, fr', st')
    | r => r
  | .loop body =>
    match leftHas body with
    | some _ =>
      (match loopM E call round ex ro body 1000 fr st with
      | some (.normal, _, _) => none
      | r => r)
    | none =>
      (match loopN (ex ro body) 24 fr st with
      | some (.normal, _, _) => none
      | r => r)
  | .rangeFunc g ps as bo => rangeA call ex ro g ps as bo fr st
  | .scope body => scopeA (ex ro) body 8 (ex ro body fr st)
  | _ => none

structure Mach where
  ex : ExecT
  call : CallT
  round : CallT

def M (E : Env) (draw : DrawT) (sum : CallT) : Nat → Mach
  | 0 => { ex := fun _ _ _ _ => none, call := fun _ _ _ => none, round := fun _ _ _ => none }
  | n + 1 =>
    let m := M E draw sum n
    { ex := execF E draw m.ex m.call m.round,
      call := fun f args st => match sum f args st with | some r => some r | none => callF E m.ex f args st,
      round := roundF m.ex }
end
end Go.Ax
