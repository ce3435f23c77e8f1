/-
  CLOSED EVALUATION, 15: regions that draw their order.
-/
import Derived.Test.YtbkclmbfblncoaaGreatDoorCeN
noncomputable section
namespace Go.CE
open Go
set_option linter.unusedSimpArgs false
set_option linter.unusedVariables false

structure DS where
  tm : Tr V
  m : Mem
  fl : List (Nat × Nat)
  rd : List Nat
def ancB (ops : Array Oper) : Nat → Nat → Nat → Bool
  | 0, _, _ => false
  | n + 1, j, i => match ops.toList[i]? with
    | none => false
    | some o => o.after.toList.any fun e => Region.binds .any e && (Nat.beq e.on j || ancB ops n j e.on)
def hidIds (ops : Array Oper) (i : Nat) : List (Nat × Nat) → List Nat
  | [] => []
  | p :: ps => match ancB ops 40 p.1 i with
    | true => hidIds ops i ps
    | false => p.2 :: hidIds ops i ps
def delAll (t : Tr Blk) : List Nat → Tr Blk
  | [] => t
  | i :: is => delAll (t.del i) is
def hideM (m : Mem) (ids : List Nat) : Mem := ⟨m.nx, delAll m.t ids⟩
def backAll (t0 t : Tr Blk) : List Nat → Tr Blk
  | [] => t
  | i :: is => match t0.get i with
    | some b => backAll t0 (t.set i b) is
    | none => backAll t0 t is
def ssa1 (ops : Array Oper) (oi : Oper) (i : Nat) (ok : Oper) (k : Nat) : Bool :=
  match ok.dst with
  | none => true
  | some t => (Nat.beq i k || !(oi.dst == some t)) && (!((oi.looksAt ops).contains t) || ancB ops 40 k i)
def ssaB (ops : Array Oper) : Bool := ops.toList.zipIdx.all fun p => ops.toList.zipIdx.all fun q => ssa1 ops p.1 p.2 q.1 q.2
/-- All that an operation waits for stands ahead of it. -/
def backB (ops : Array Oper) : Bool := ops.toList.zipIdx.all fun p => p.1.after.toList.all fun e => !(Region.binds .any e) || Nat.blt e.on p.2
def actV (E : Env) (N : Nat) (o : Oper) (ev : Operand → Option V) (m : Mem) : Option (V × Mem) :=
  match opC o.op with
  | .call c => match calleeV c.callee c.args ev with
    | some (g, as, ca) => match E.T.ext g with
      | some e => e (as ++ ca) m
      | none => match E.T.sum g with
        | some e => e (as ++ ca) m
        | none => callE E N g (as ++ ca) m
    | none => none
  | .plain => exOp o.op E.P ev m
  | _ => none
def rdOk (P : Program) (G : Nat) (ops : Array Oper) (i : Nat) (s : DS) (j : Nat) : Bool :=
  ancB ops 40 j i || (match ops.toList[j]? with
    | none => false
    | some oj => match exOp oj.op P (evO G s.tm) (hideM s.m (hidIds ops j s.fl)) with
      | none => false
      | some (v, _) => match oj.dst with
        | none => true
        | some d => match s.tm.get d with
          | some u => V.beq v u
          | none => false)
def dUnw (nt : Nat) (o : Oper) (s : DS) : Option DS :=
  match putTm nt s.tm o.dst undefV with
  | some tm => some { s with tm := tm }
  | none => none
def dSil (P : Program) (G : Nat) (ops : Array Oper) (nt i : Nat) (o : Oper) (s : DS) : Option DS :=
  match exOp o.op P (evO G s.tm) (hideM s.m (hidIds ops i s.fl)) with
  | some (v, _) => match putTm nt s.tm o.dst v with
    | some tm => some ⟨tm, s.m, s.fl, bif readsB o.op then i :: s.rd else s.rd⟩
    | none => none
  | none => none
def dFlt (nt i : Nat) (o : Oper) (s : DS) : Option (TypeId × List V × FRef) → Option DS
  | some (t, vs, ref) => match putTm nt s.tm o.dst (ref.mk s.m.nx) with
    | some tm => some ⟨tm, s.m.new (.row true t vs.length (Tr.fill vs 0 .nil)), (i, s.m.nx) :: s.fl, s.rd⟩
    | none => none
  | none => none
def dAct (E : Env) (N : Nat) (ops : Array Oper) (nt i : Nat) (o : Oper) (s : DS) : Option DS :=
  match actV E N o (evO E.T.g s.tm) (hideM s.m (hidIds ops i s.fl)) with
  | none => none
  | some (v, m1) => match putTm nt s.tm o.dst v with
    | none => none
    | some tm => match s.rd.all (rdOk E.P E.T.g ops i ⟨tm, ⟨m1.nx, backAll s.m.t m1.t (hidIds ops i s.fl)⟩, s.fl, s.rd⟩) with
      | true => some ⟨tm, ⟨m1.nx, backAll s.m.t m1.t (hidIds ops i s.fl)⟩, s.fl, s.rd⟩
      | false => none
def isIn (i : Nat) : List Nat → Bool
  | [] => false
  | j :: js => Nat.beq j i || isIn i js
def isOne (i : Nat) : List Nat → Bool
  | [j] => Nat.beq j i
  | _ => false
def goD (E : Env) (N : Nat) (ops : Array Oper) (nt : Nat) : List Nat → Array Bool → DS → Option DS
  | [], X, s => match Region.ready .any ops X with
    | [] => some s
    | _ => none
  | i :: l, X, s => match ops.toList[i]? with
    | none => none
    | some o => match isIn i (Region.ready .any ops X) with
      | false => none
      | true => match wantedV ops s.tm o.guard with
        | false => match dUnw nt o s with
          | some s' => goD E N ops nt l (X.setIfInBounds i true) s'
          | none => none
        | true => match silentB E.P o.op with
          | true => match dSil E.P E.T.g ops nt i o s with
            | some s' => goD E N ops nt l (X.setIfInBounds i true) s'
            | none => none
          | false => match dFlt nt i o s (floatV o.op E.P (evO E.T.g s.tm)) with
            | some s' => goD E N ops nt l (X.setIfInBounds i true) s'
            | none => match isOne i (Region.ready .any ops X) with
              | true => match dAct E N ops nt i o s with
                | some s' => goD E N ops nt l (X.setIfInBounds i true) s'
                | none => none
              | false => none
def earlyOp : Op → Bool
  | .alloc _ => true
  | .box _ _ => true
  | .buildSlice _ _ _ => true
  | .makeSlice _ _ _ => true
  | _ => false
def pickD (P : Program) (ops : Array Oper) : List Nat → Option Nat
  | [] => none
  | i :: is => match ops.toList[i]? with
    | none => pickD P ops is
    | some o => match silentB P o.op || earlyOp o.op with
      | true => some i
      | false => pickD P ops is
def orderD (P : Program) (ops : Array Oper) : Nat → Array Bool → List Nat
  | 0, _ => []
  | n + 1, X => match Region.ready .any ops X with
    | [] => []
    | a :: rs => match pickD P ops (a :: rs) with
      | some i => i :: orderD P ops n (X.setIfInBounds i true)
      | none => a :: orderD P ops n (X.setIfInBounds a true)
def drawF (E : Env) (N : Nat) (ops : Array Oper) (nt : Nat) (tm : Tr V) (m : Mem) : Option (Tr V × Mem) :=
  match ssaB ops && backB ops with
  | false => none
  | true => match goD E N ops nt (orderD E.P ops ops.size (Array.replicate ops.size false)) (Array.replicate ops.size false) ⟨tm, m, [], []⟩ with
    | some s => some (s.tm, s.m)
    | none => none
/-- d regions that draw may lie within one another; N steps a call within one. -/
def envD (P : Program) (T : Tab) (N : Nat) : Nat → Env
  | 0 => ⟨P, T, fun _ _ _ _ => none⟩
  | d + 1 => ⟨P, T, drawF (envD P T N d) N⟩
end Go.CE
