/-
  CLOSED EVALUATION, 10: frames, and a machine of frames.
-/
import Derived.Test.YtnodogpaadobnaaDoorCeI
import Derived.Recover
noncomputable section
namespace Go.CE
open Go
set_option linter.unusedSimpArgs false
set_option linter.unusedVariables false

inductive VI where
  | code (c : Code)
  | blk (id : Nat)
  | lp (c : Code)
  | sc (c : Code)
  | ops (l : List Oper) (all : Array Oper)
  | rt
structure VD where
  f : FuncId
  ca : List V
  as : List V
/-- What of a frame seldom changes. -/
structure RF where
  fn : FuncId
  nt : Nat
  df : List VD
  kind : CallKind
structure Fr where
  tm : Tr V
  todo : List VI
  r : RF

/-- What is known of functions: those that the model carries out by itself, and those whose calls were reckoned ahead. -/
structure Tab where
  g : Nat
  ext : FuncId → Option (List V → Mem → Option (V × Mem))
  sum : FuncId → Option (List V → Mem → Option (V × Mem))
structure Env where
  P : Program
  T : Tab
  draw : Array Oper → Nat → Tr V → Mem → Option (Tr V × Mem)
abbrev Go := Tr V → List VI → RF → List Fr → Mem → Option (V × Mem)

def tmGet (tm : Tr V) (t : Nat) : V := match tm.get t with
  | some v => v
  | none => undefV
def gloV (G g : Nat) : Option V := match Nat.blt g G with
  | true => some (.ptr g 0)
  | false => none
def evO (G : Nat) (tm : Tr V) (x : Operand) : Option V :=
  (match x with
  | .tmp t => fun _ tm => some (tmGet tm t)
  | .const v => fun _ _ => constV v
  | .global g => fun G _ => gloV G g
  | .func f => fun _ _ => some (.fn (.func f) [] []) : Nat → Tr V → Option V) G tm
def putTm (nt : Nat) (tm : Tr V) (d : Option Tmp) (v : V) : Option (Tr V) :=
  match d with
  | none => some tm
  | some k => match Nat.blt k nt with
    | true => some (tm.set k v)
    | false => none
def exitV (id : Nat) : List VI → Option (List VI)
  | .blk id' :: k => match Nat.beq id' id with
    | true => some k
    | false => exitV id k
  | _ :: k => exitV id k
  | [] => none
def guardV (tm : Tr V) (want : Bool) : Option Oper → Bool
  | none => false
  | some oj => match oj.dst with
    | none => false
    | some d => match tm.get d with
      | some (.bool b) => b == want
      | _ => false
def wantedV (all : Array Oper) (tm : Tr V) (g : Option (Nat × Bool)) : Bool :=
  match g with
  | none => true
  | some (j, want) => guardV tm want (all.toList[j]?)
def enterV (P : Program) (f : FuncId) (as : List V) : Option (Nat × Code) :=
  match P.funcs[f]? with
  | none => none
  | some fn => match fn.body with
    | none => none
    | some c => match Nat.ble as.length fn.ntmps with
      | true => some (fn.ntmps, c)
      | false => none
def resV (P : Program) (tm : Tr V) (m : Mem) : List ResultVar → Option (List V)
  | [] => some []
  | .tmp t :: rs => match resV P tm m rs with
    | some vs => some (tmGet tm t :: vs)
    | none => none
  | .cell a t :: rs => match loadV P t (tmGet tm a) m with
    | none => none
    | some v => match resV P tm m rs with
      | some vs => some (v :: vs)
      | none => none
def resultV : List V → V
  | [v] => v
  | vs => .tup vs
def resOf (P : Program) (f : FuncId) (tm : Tr V) (m : Mem) : Option V :=
  match P.funcs[f]? with
  | none => none
  | some fn => match resV P tm m fn.results.toList with
    | none => none
    | some vs => some (resultV vs)
def calleeF (x : Option V) (as : Option (List V)) : Option (FuncId × List V × List V) :=
  match x, as with
  | some (.fn (.func g) fi ca), some as => some (g, fi ++ as, ca)
  | _, _ => none
def calleeV : Callee → Array Operand → (Operand → Option V) → Option (FuncId × List V × List V)
  | .value f => fun as ev => calleeF (ev f) (mapO ev as.toList)
  | _ => fun _ _ => none
inductive OpC where
  | call (c : Call)
  | defr (c : Call)
  | plain
def opC : Op → OpC
  | .call c => match c.callee with
    | .value _ => .call c
    | _ => .plain
  | .defer c => .defr c
  | _ => .plain
/-- Behind an operation. -/
def putGo (go : Go) (l : List Oper) (all : Array Oper) (k : List VI) (r : RF) (fs : List Fr) (m : Mem) : Option (Tr V) → Option (V × Mem)
  | none => none
  | some tm => go tm (.ops l all :: k) r fs m
def valGo (go : Go) (d : Option Tmp) (l : List Oper) (all : Array Oper) (k : List VI) (tm : Tr V) (r : RF) (fs : List Fr) : Option (V × Mem) → Option (V × Mem)
  | none => none
  | some (v, m) => putGo go l all k r fs m (putTm r.nt tm d v)
def entGo (go : Go) (kind : CallKind) (g : FuncId) (as : List V) (fs : List Fr) (m : Mem) : Option (Nat × Code) → Option (V × Mem)
  | none => none
  | some (nt, c) => go (Tr.fill as 0 .nil) [.code c] ⟨g, nt, [], kind⟩ fs m
def ownGo (E : Env) (go : Go) (o : Oper) (l : List Oper) (all : Array Oper) (k : List VI) (tm : Tr V) (r : RF) (fs : List Fr) (m : Mem) (g : FuncId) (as : List V) : Option (List V → Mem → Option (V × Mem)) → Option (V × Mem)
  | some e => valGo go o.dst l all k tm r fs (e as m)
  | none => entGo go .normal g as (⟨tm, .ops (o :: l) all :: k, r⟩ :: fs) m (enterV E.P g as)
def extGo (E : Env) (go : Go) (o : Oper) (l : List Oper) (all : Array Oper) (k : List VI) (tm : Tr V) (r : RF) (fs : List Fr) (m : Mem) (g : FuncId) (as : List V) : Option (List V → Mem → Option (V × Mem)) → Option (V × Mem)
  | some e => valGo go o.dst l all k tm r fs (e as m)
  | none => ownGo E go o l all k tm r fs m g as (E.T.sum g)
def callGo (E : Env) (go : Go) (o : Oper) (l : List Oper) (all : Array Oper) (k : List VI) (tm : Tr V) (r : RF) (fs : List Fr) (m : Mem) : Option (FuncId × List V × List V) → Option (V × Mem)
  | none => none
  | some (g, as, ca) => extGo E go o l all k tm r fs m g (as ++ ca) (E.T.ext g)
def defGo (go : Go) (o : Oper) (l : List Oper) (all : Array Oper) (k : List VI) (tm : Tr V) (r : RF) (fs : List Fr) (m : Mem) : Option (FuncId × List V × List V) → Option (V × Mem)
  | none => none
  | some (g, as, ca) => putGo go l all k ⟨r.fn, r.nt, ⟨g, ca, as⟩ :: r.df, r.kind⟩ fs m (putTm r.nt tm o.dst undefV)
def opGo : OpC → Env → Go → Oper → List Oper → Array Oper → List VI → Tr V → RF → List Fr → Mem → Option (V × Mem)
  | .plain => fun E go o l all k tm r fs m => valGo go o.dst l all k tm r fs (exOp o.op E.P (evO E.T.g tm) m)
  | .call c => fun E go o l all k tm r fs m => callGo E go o l all k tm r fs m (calleeV c.callee c.args (evO E.T.g tm))
  | .defr c => fun E go o l all k tm r fs m => defGo go o l all k tm r fs m (calleeV c.callee c.args (evO E.T.g tm))
def wantGo (E : Env) (go : Go) (o : Oper) (l : List Oper) (all : Array Oper) (k : List VI) (tm : Tr V) (r : RF) (fs : List Fr) (m : Mem) : Bool → Option (V × Mem)
  | true => opGo (opC o.op) E go o l all k tm r fs m
  | false => putGo go l all k r fs m (putTm r.nt tm o.dst undefV)
def opsGo : List Oper → Array Oper → Env → Go → List VI → Tr V → RF → List Fr → Mem → Option (V × Mem)
  | [] => fun _ _ go k tm r fs m => go tm k r fs m
  | o :: l => fun all E go k tm r fs m => wantGo E go o l all k tm r fs m (wantedV all tm o.guard)
def condGo (go : Go) (a b : Code) (k : List VI) (tm : Tr V) (r : RF) (fs : List Fr) (m : Mem) : Option V → Option (V × Mem)
  | some (.bool true) => go tm (.code a :: k) r fs m
  | some (.bool false) => go tm (.code b :: k) r fs m
  | _ => none
def exitGo (go : Go) (tm : Tr V) (r : RF) (fs : List Fr) (m : Mem) : Option (List VI) → Option (V × Mem)
  | none => none
  | some k => go tm k r fs m
def drawGo (go : Go) (k : List VI) (r : RF) (fs : List Fr) : Option (Tr V × Mem) → Option (V × Mem)
  | none => none
  | some (tm, m) => go tm k r fs m
def regGo : Bool → Array Oper → Env → Go → List VI → Tr V → RF → List Fr → Mem → Option (V × Mem)
  | false => fun ops _ go k tm r fs m => go tm (.ops ops.toList ops :: k) r fs m
  | true => fun ops E go k tm r fs m => drawGo go k r fs (E.draw ops r.nt tm m)
def codeGo : Code → Env → Go → List VI → Tr V → RF → List Fr → Mem → Option (V × Mem)
  | .ret => fun _ go _ tm r fs m => go tm [.rt] r fs m
  | .skip => fun _ go k tm r fs m => go tm k r fs m
  | .label _ => fun _ go k tm r fs m => go tm k r fs m
  | .seq a b => fun _ go k tm r fs m => go tm (.code a :: .code b :: k) r fs m
  | .cond x a b => fun E go k tm r fs m => condGo go a b k tm r fs m (evO E.T.g tm x)
  | .block id c => fun _ go k tm r fs m => go tm (.code c :: .blk id :: k) r fs m
  | .loop c => fun _ go k tm r fs m => go tm (.code c :: .lp c :: k) r fs m
  | .scope c => fun _ go k tm r fs m => go tm (.code c :: .sc c :: k) r fs m
  | .exit id => fun _ go k tm r fs m => exitGo go tm r fs m (exitV id k)
  | .region _ ops d => fun E go k tm r fs m => regGo d ops E go k tm r fs m
  | _ => fun _ _ _ _ _ _ _ => none
/-- A call has come to v: its caller goes on. -/
def finGo (go : Go) (v : V) (m : Mem) : List Fr → Option (V × Mem)
  | [] => some (v, m)
  | ⟨tm, .ops (o :: l) all :: k, r⟩ :: fs => putGo go l all k r fs m (putTm r.nt tm o.dst v)
  | _ => none
def backGo (go : Go) (m : Mem) : List Fr → Option (V × Mem)
  | ⟨tm, [.rt], r⟩ :: fs => go tm [.rt] r fs m
  | _ => none
def kindGo (go : Go) (fs : List Fr) (m : Mem) (v : V) : CallKind → Option (V × Mem)
  | .normal => finGo go v m fs
  | .deferred => backGo go m fs
  | _ => none
def resGo (go : Go) (r : RF) (fs : List Fr) (m : Mem) : Option V → Option (V × Mem)
  | none => none
  | some v => kindGo go fs m v r.kind
def retGo (E : Env) (go : Go) (tm : Tr V) (r : RF) (fs : List Fr) (m : Mem) : List VD → Option (V × Mem)
  | d :: ds => entGo go .deferred d.f (d.as ++ d.ca) (⟨tm, [.rt], ⟨r.fn, r.nt, ds, r.kind⟩⟩ :: fs) m (enterV E.P d.f (d.as ++ d.ca))
  | [] => resGo go r fs m (resOf E.P r.fn tm m)
def viGo : VI → Env → Go → List VI → Tr V → RF → List Fr → Mem → Option (V × Mem)
  | .code c => codeGo c
  | .blk _ => fun _ go k tm r fs m => go tm k r fs m
  | .sc _ => fun _ go k tm r fs m => go tm k r fs m
  | .lp c => fun _ go k tm r fs m => go tm (.code c :: .lp c :: k) r fs m
  | .ops l all => opsGo l all
  | .rt => fun E go _ tm r fs m => retGo E go tm r fs m r.df
def stepGo : List VI → Env → Go → Tr V → RF → List Fr → Mem → Option (V × Mem)
  | [] => fun _ go tm r fs m => go tm [.rt] r fs m
  | x :: k => fun E go tm r fs m => viGo x E go k tm r fs m
def run (E : Env) (n : Nat) : Tr V → List VI → RF → List Fr → Mem → Option (V × Mem) :=
  Nat.rec (motive := fun _ => Tr V → List VI → RF → List Fr → Mem → Option (V × Mem)) (fun _ _ _ _ _ => none) (fun _ ih tm todo r fs m => stepGo todo E ih tm r fs m) n
theorem run_succ (E : Env) (n : Nat) (tm : Tr V) (todo : List VI) (r : RF) (fs : List Fr) (m : Mem) : run E (n + 1) tm todo r fs m = stepGo todo E (run E n) tm r fs m := rfl
def callE (E : Env) (n : Nat) (f : FuncId) (as : List V) (m : Mem) : Option (V × Mem) := entGo (run E n) .normal f as [] m (enterV E.P f as)
end Go.CE
