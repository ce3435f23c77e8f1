/-
  CLOSED EVALUATION, 10: frames, and a machine of frames.
-/
import Derived.Test.YtbkclmbfblncoaaGreatDoorCeI
import Derived.Recover
noncomputable section
namespace Go.CE
open Go
set_option linter.unusedSimpArgs false
set_option linter.unusedVariables false

inductive VI where
  | code (c : Code)
  | blk (id : Nat)
  | lp (c : Code)
  | sc (c : Code)
  | ops (l : List Oper) (all : Array Oper)
  | rt
  | pn (v : V)
  | pd (v : V)
  | inR (l : Nat)
  | enR (l : Nat)
  | beR
  | lst
inductive VD where
  | call (f : FuncId) (ca as : List V)
  | coll (b : Nat)
/-- Of which kind a frame is: called, a deferred call, a round of a range over a function. -/
inductive KV where
  | normal
  | deferred
  | rnd (l : Nat)
def isRnd : KV → Bool
  | .rnd _ => true
  | _ => false
/-- What of a frame seldom changes. -/
structure RF where
  fn : FuncId
  nt : Nat
  df : List VD
  kind : KV
structure Fr where
  tm : Tr V
  todo : List VI
  r : RF

/-- What is known of functions: those that the model carries out by itself, and those whose calls were reckoned ahead. -/
structure Tab where
  g : Nat
  ext : FuncId → Option (List V → Mem → Option (V × Mem))
  sum : FuncId → Option (List V → Mem → Option (V × Mem))
structure Env where
  P : Program
  T : Tab
  draw : Array Oper → Nat → Tr V → Mem → Option (Tr V × Mem)
abbrev Go := Tr V → List VI → RF → List Fr → Mem → Option (V × Mem)

def gloV (G g : Nat) : Option V := match Nat.blt g G with
  | true => some (.ptr g 0)
  | false => none
def evO (G : Nat) (tm : Tr V) (x : Operand) : Option V :=
  (match x with
  | .tmp t => fun _ tm => some (tmGet tm t)
  | .const v => fun _ _ => constV v
  | .global g => fun G _ => gloV G g
  | .func f => fun _ _ => some (.fn (.func f) [] []) : Nat → Tr V → Option V) G tm
def putTm (nt : Nat) (tm : Tr V) (d : Option Tmp) (v : V) : Option (Tr V) :=
  match d with
  | none => some tm
  | some k => match Nat.blt k nt with
    | true => some (tm.set k v)
    | false => none
def exitV (id : Nat) : List VI → Option (List VI)
  | .lst :: _ => none
  | .blk id' :: k => match Nat.beq id' id with
    | true => some k
    | false => exitV id k
  | _ :: k => exitV id k
  | [] => none
def guardV (tm : Tr V) (want : Bool) : Option Oper → Bool
  | none => false
  | some oj => match oj.dst with
    | none => false
    | some d => match tm.get d with
      | some (.bool b) => b == want
      | _ => false
def wantedV (all : Array Oper) (tm : Tr V) (g : Option (Nat × Bool)) : Bool :=
  match g with
  | none => true
  | some (j, want) => guardV tm want (all.toList[j]?)
def enterV (P : Program) (f : FuncId) (as : List V) : Option (Nat × Code) :=
  match P.funcs[f]? with
  | none => none
  | some fn => match fn.body with
    | none => none
    | some c => match Nat.ble as.length fn.ntmps with
      | true => some (fn.ntmps, c)
      | false => none
def resV (P : Program) (tm : Tr V) (m : Mem) : List ResultVar → Option (List V)
  | [] => some []
  | .tmp t :: rs => match resV P tm m rs with
    | some vs => some (tmGet tm t :: vs)
    | none => none
  | .cell a t :: rs => match loadV P t (tmGet tm a) m with
    | none => none
    | some v => match resV P tm m rs with
      | some vs => some (v :: vs)
      | none => none
def resultV : List V → V
  | [v] => v
  | vs => .tup vs
def resOf (P : Program) (f : FuncId) (tm : Tr V) (m : Mem) : Option V :=
  match P.funcs[f]? with
  | none => none
  | some fn => match resV P tm m fn.results.toList with
    | none => none
    | some vs => some (resultV vs)
def calleeF (x : Option V) (as : Option (List V)) : Option (FuncId × List V × List V) :=
  match x, as with
  | some (.fn (.func g) fi ca), some as => some (g, fi ++ as, ca)
  | _, _ => none
def calleeV : Callee → Array Operand → (Operand → Option V) → Option (FuncId × List V × List V)
  | .value f => fun as ev => calleeF (ev f) (mapO ev as.toList)
  | _ => fun _ _ => none
def yldF : Option V → Option Nat
  | some (.yld b) => some b
  | _ => none
def yldV : Callee → (Operand → Option V) → Option Nat
  | .value f => fun ev => yldF (ev f)
  | _ => fun _ => none
inductive OpC where
  | call (c : Call)
  | defr (c : Call)
  | pan (x : Operand)
  | rcv
  | plain
def opCB (c : Call) : Builtin → OpC
  | .recover => match c.args.toList with
    | [] => .rcv
    | _ => .plain
  | _ => .plain
def opC : Op → OpC
  | .call c => match c.callee with
    | .value _ => .call c
    | .builtin b => opCB c b
    | _ => .plain
  | .defer c => .defr c
  | .panic x => .pan x
  | _ => .plain
/-- Behind an operation. -/
def putGo (go : Go) (l : List Oper) (all : Array Oper) (k : List VI) (r : RF) (fs : List Fr) (m : Mem) : Option (Tr V) → Option (V × Mem)
  | none => none
  | some tm => go tm (.ops l all :: k) r fs m
def valGo (go : Go) (d : Option Tmp) (l : List Oper) (all : Array Oper) (k : List VI) (tm : Tr V) (r : RF) (fs : List Fr) : Option (V × Mem) → Option (V × Mem)
  | none => none
  | some (v, m) => putGo go l all k r fs m (putTm r.nt tm d v)
def entGo (go : Go) (kind : KV) (g : FuncId) (as : List V) (fs : List Fr) (m : Mem) : Option (Nat × Code) → Option (V × Mem)
  | none => none
  | some (nt, c) => go (Tr.fill as 0 .nil) [.code c] ⟨g, nt, [], kind⟩ fs m
def ownGo (E : Env) (go : Go) (o : Oper) (l : List Oper) (all : Array Oper) (k : List VI) (tm : Tr V) (r : RF) (fs : List Fr) (m : Mem) (g : FuncId) (as : List V) : Option (List V → Mem → Option (V × Mem)) → Option (V × Mem)
  | some e => valGo go o.dst l all k tm r fs (e as m)
  | none => entGo go .normal g as (⟨tm, .ops (o :: l) all :: k, r⟩ :: fs) m (enterV E.P g as)
def extGo (E : Env) (go : Go) (o : Oper) (l : List Oper) (all : Array Oper) (k : List VI) (tm : Tr V) (r : RF) (fs : List Fr) (m : Mem) (g : FuncId) (as : List V) : Option (List V → Mem → Option (V × Mem)) → Option (V × Mem)
  | some e => valGo go o.dst l all k tm r fs (e as m)
  | none => ownGo E go o l all k tm r fs m g as (E.T.sum g)
/-- The parameters of a round. -/
def parV (nt : Nat) : List Tmp → List V → Tr V → Option (Tr V)
  | [], [], tm => some tm
  | t :: ts, v :: vs, tm => match Nat.blt t nt with
    | true => parV nt ts vs (tm.set t v)
    | false => none
  | _, _, _ => none
def rndGo (go : Go) (b : Nat) (fn nt : Nat) (as bd : Code) (fs : List Fr) (m : Mem) : Option (Tr V) → Option (V × Mem)
  | none => none
  | some tm => go tm [.code as, .beR, .code bd, .lst] ⟨fn, nt, [], .rnd b⟩ fs m
def yldGo (go : Go) (o : Oper) (l : List Oper) (all : Array Oper) (k : List VI) (tm : Tr V) (r : RF) (fs : List Fr) (m : Mem) (b : Nat) (as : List V) : Option Blk → Option (V × Mem)
  | some (.oth (.loop _ _ fn nt t ps ac bd _)) => rndGo go b fn nt ac bd (⟨tm, .ops (o :: l) all :: k, r⟩ :: fs) m (parV nt ps.toList as t)
  | _ => none
def ycGo (go : Go) (o : Oper) (l : List Oper) (all : Array Oper) (k : List VI) (tm : Tr V) (r : RF) (fs : List Fr) (m : Mem) : Option Nat → Option (List V) → Option (V × Mem)
  | some b, some as => yldGo go o l all k tm r fs m b as (m.t.get b)
  | _, _ => none
def callGo (E : Env) (go : Go) (c : Call) (o : Oper) (l : List Oper) (all : Array Oper) (k : List VI) (tm : Tr V) (r : RF) (fs : List Fr) (m : Mem) : Option (FuncId × List V × List V) → Option (V × Mem)
  | none => ycGo go o l all k tm r fs m (yldV c.callee (evO E.T.g tm)) (mapO (evO E.T.g tm) c.args.toList)
  | some (g, as, ca) => extGo E go o l all k tm r fs m g (as ++ ca) (E.T.ext g)
def defGo (go : Go) (o : Oper) (l : List Oper) (all : Array Oper) (k : List VI) (tm : Tr V) (r : RF) (fs : List Fr) (m : Mem) : Option (FuncId × List V × List V) → Option (V × Mem)
  | none => none
  | some (g, as, ca) => bif isRnd r.kind then none else putGo go l all k ⟨r.fn, r.nt, .call g ca as :: r.df, r.kind⟩ fs m (putTm r.nt tm o.dst undefV)
def panGo (go : Go) (r : RF) (fs : List Fr) (m : Mem) (tm : Tr V) : Option V → Option (V × Mem)
  | some (.ifc t v) => go tm [.pn (.ifc t v)] r fs m
  | _ => none
/-- What recover answers, and how its frame's caller is from then on. -/
def recGo : KV → List Fr → Option (V × List Fr)
  | .normal, fs => some (.nili, fs)
  | .deferred, ⟨tm, [.pn v], r⟩ :: fs => some (v, ⟨tm, [.pd v], r⟩ :: fs)
  | .deferred, ⟨tm, [.rt], r⟩ :: fs => some (.nili, ⟨tm, [.rt], r⟩ :: fs)
  | _, _ => none
def rcvGo (go : Go) (o : Oper) (l : List Oper) (all : Array Oper) (k : List VI) (tm : Tr V) (r : RF) (m : Mem) : Option (V × List Fr) → Option (V × Mem)
  | some (v, fs) => putGo go l all k r fs m (putTm r.nt tm o.dst v)
  | none => none
def opGo : OpC → Env → Go → Oper → List Oper → Array Oper → List VI → Tr V → RF → List Fr → Mem → Option (V × Mem)
  | .plain => fun E go o l all k tm r fs m => valGo go o.dst l all k tm r fs (exOp o.op E.P (evO E.T.g tm) m)
  | .call c => fun E go o l all k tm r fs m => callGo E go c o l all k tm r fs m (calleeV c.callee c.args (evO E.T.g tm))
  | .pan x => fun E go o l all k tm r fs m => panGo go r fs m tm (evO E.T.g tm x)
  | .rcv => fun E go o l all k tm r fs m => rcvGo go o l all k tm r m (recGo r.kind fs)
  | .defr c => fun E go o l all k tm r fs m => defGo go o l all k tm r fs m (calleeV c.callee c.args (evO E.T.g tm))
def wantGo (E : Env) (go : Go) (o : Oper) (l : List Oper) (all : Array Oper) (k : List VI) (tm : Tr V) (r : RF) (fs : List Fr) (m : Mem) : Bool → Option (V × Mem)
  | true => opGo (opC o.op) E go o l all k tm r fs m
  | false => putGo go l all k r fs m (putTm r.nt tm o.dst undefV)
def opsGo : List Oper → Array Oper → Env → Go → List VI → Tr V → RF → List Fr → Mem → Option (V × Mem)
  | [] => fun _ _ go k tm r fs m => go tm k r fs m
  | o :: l => fun all E go k tm r fs m => wantGo E go o l all k tm r fs m (wantedV all tm o.guard)
def condGo (go : Go) (a b : Code) (k : List VI) (tm : Tr V) (r : RF) (fs : List Fr) (m : Mem) : Option V → Option (V × Mem)
  | some (.bool true) => go tm (.code a :: k) r fs m
  | some (.bool false) => go tm (.code b :: k) r fs m
  | _ => none
/-- A call has come to v: its caller goes on. -/
def finGo (go : Go) (v : V) (m : Mem) : List Fr → Option (V × Mem)
  | [] => some (v, m)
  | ⟨tm, .ops (o :: l) all :: k, r⟩ :: fs => putGo go l all k r fs m (putTm r.nt tm o.dst v)
  | ⟨tm, .inR l :: k, r⟩ :: fs => go tm (.enR l :: k) r fs m
  | _ => none
/-- A round ends. -/
def enrGo (go : Go) (b : Nat) (j : Option Code) (fs : List Fr) (m : Mem) : Option Blk → Option (V × Mem)
  | some (.oth (.loop _ _ fn nt t ps ac bd d)) => match fs with
    | [] => none
    | _ => finGo go (.bool j.isNone) (m.setO b (.loop (bif j.isNone then .ready else .done) j fn nt t ps ac bd d)) fs
  | _ => none
def endGo (go : Go) (j : Option Code) (fs : List Fr) (m : Mem) : KV → Option (V × Mem)
  | .rnd b => enrGo go b j fs m (m.t.get b)
  | _ => none
def exitGo (go : Go) (id : Nat) (tm : Tr V) (r : RF) (fs : List Fr) (m : Mem) : Option (List VI) → Option (V × Mem)
  | none => endGo go (some (.exit id)) fs m r.kind
  | some k => go tm k r fs m
/-- A range over a function begins. -/
def rfnGo (E : Env) (go : Go) (ps : Array Tmp) (ac bd : Code) (k : List VI) (tm : Tr V) (r : RF) (fs : List Fr) (m : Mem) : Option V → KV → Option (V × Mem)
  | some (.fn (.func g) [] ca), .normal => entGo go .normal g (.yld (Nat.succ m.nx) :: ca) (⟨tm, .inR (Nat.succ m.nx) :: k, ⟨r.fn, r.nt, .coll m.nx :: r.df, r.kind⟩⟩ :: fs)
      ((m.new (.oth (.dfr true))).new (.oth (.loop .ready none r.fn r.nt tm ps ac bd m.nx))) (enterV E.P g (.yld (Nat.succ m.nx) :: ca))
  | _, _ => none
/-- A range over a function has ended. -/
def lpeGo (go : Go) (b : Nat) (k : List VI) (tm : Tr V) (r : RF) (fs : List Fr) (m : Mem) : Option Blk → Option (V × Mem)
  | some (.oth (.loop .busy _ _ _ _ _ _ _ _)) => none
  | some (.oth (.loop _ j fn nt t ps ac bd d)) => match j with
    | none => go tm k r fs (m.setO b (.loop .exhausted j fn nt t ps ac bd d))
    | some c => go tm (.code c :: k) r fs (m.setO b (.loop .exhausted j fn nt t ps ac bd d))
  | _ => none
/-- A round begins. -/
def bgnGo (go : Go) (b : Nat) (k : List VI) (tm : Tr V) (r : RF) (fs : List Fr) (m : Mem) : Option Blk → Option (V × Mem)
  | some (.oth (.loop .ready j fn nt t ps ac bd d)) => go tm k r fs (m.setO b (.loop .busy j fn nt t ps ac bd d))
  | _ => none
def begGo (go : Go) (k : List VI) (tm : Tr V) (r : RF) (fs : List Fr) (m : Mem) : KV → Option (V × Mem)
  | .rnd b => bgnGo go b k tm r fs m (m.t.get b)
  | _ => none
def drawGo (go : Go) (k : List VI) (r : RF) (fs : List Fr) : Option (Tr V × Mem) → Option (V × Mem)
  | none => none
  | some (tm, m) => go tm k r fs m
def regGo : Bool → Array Oper → Env → Go → List VI → Tr V → RF → List Fr → Mem → Option (V × Mem)
  | false => fun ops _ go k tm r fs m => go tm (.ops ops.toList ops :: k) r fs m
  | true => fun ops E go k tm r fs m => drawGo go k r fs (E.draw ops r.nt tm m)
def codeGo : Code → Env → Go → List VI → Tr V → RF → List Fr → Mem → Option (V × Mem)
  | .ret => fun _ go _ tm r fs m => go tm [.rt] r fs m
  | .skip => fun _ go k tm r fs m => go tm k r fs m
  | .label _ => fun _ go k tm r fs m => go tm k r fs m
  | .seq a b => fun _ go k tm r fs m => go tm (.code a :: .code b :: k) r fs m
  | .cond x a b => fun E go k tm r fs m => condGo go a b k tm r fs m (evO E.T.g tm x)
  | .block id c => fun _ go k tm r fs m => go tm (.code c :: .blk id :: k) r fs m
  | .loop c => fun _ go k tm r fs m => go tm (.code c :: .lp c :: k) r fs m
  | .scope c => fun _ go k tm r fs m => go tm (.code c :: .sc c :: k) r fs m
  | .exit id => fun _ go k tm r fs m => exitGo go id tm r fs m (exitV id k)
  | .rangeFunc f ps ac bd => fun E go k tm r fs m => rfnGo E go ps ac bd k tm r fs m (evO E.T.g tm f) r.kind
  | .region _ ops d => fun E go k tm r fs m => regGo d ops E go k tm r fs m
  | _ => fun _ _ _ _ _ _ _ => none
def backGo (go : Go) (m : Mem) : List Fr → Option (V × Mem)
  | ⟨tm, [.rt], r⟩ :: fs => go tm [.rt] r fs m
  | ⟨tm, [.pn v], r⟩ :: fs => go tm [.pn v] r fs m
  | ⟨tm, [.pd _], r⟩ :: fs => bif isRnd r.kind then none else go tm [.rt] r fs m
  | _ => none
def kindGo (go : Go) (fs : List Fr) (m : Mem) (v : V) : KV → Option (V × Mem)
  | .normal => finGo go v m fs
  | .deferred => backGo go m fs
  | .rnd _ => none
def resGo (go : Go) (r : RF) (fs : List Fr) (m : Mem) : Option V → Option (V × Mem)
  | none => none
  | some v => kindGo go fs m v r.kind
/-- Behind a mark of a range over a function: nothing was deferred there. -/
def colGo (go : Go) (b : Nat) (x : VI) (tm : Tr V) (r : RF) (fs : List Fr) (m : Mem) : Option Blk → Option (V × Mem)
  | some (.oth (.dfr true)) => go tm [x] r fs (m.setO b (.dfr false))
  | _ => none
def outGo (E : Env) (go : Go) (tm : Tr V) (r : RF) (fs : List Fr) (m : Mem) : KV → Option (V × Mem)
  | .rnd b => enrGo go b (some .ret) fs m (m.t.get b)
  | _ => resGo go r fs m (resOf E.P r.fn tm m)
def retGo (E : Env) (go : Go) (tm : Tr V) (r : RF) (fs : List Fr) (m : Mem) : List VD → Option (V × Mem)
  | .call f ca as :: ds => bif isRnd r.kind then none else entGo go .deferred f (as ++ ca) (⟨tm, [.rt], ⟨r.fn, r.nt, ds, r.kind⟩⟩ :: fs) m (enterV E.P f (as ++ ca))
  | .coll b :: ds => bif isRnd r.kind then none else colGo go b .rt tm ⟨r.fn, r.nt, ds, r.kind⟩ fs m (m.t.get b)
  | [] => outGo E go tm r fs m r.kind
/-- A panic comes to the caller. -/
def upGo (go : Go) (v : V) (m : Mem) : Bool → KV → List Fr → Option (V × Mem)
  | false, _, _ => none
  | _, .deferred, _ => none
  | _, _, ⟨tm, .ops _ _ :: _, r⟩ :: fs => go tm [.pn v] r fs m
  | _, _, ⟨tm, .inR _ :: _, r⟩ :: fs => go tm [.pn v] r fs m
  | _, _, _ => none
def panicGo (E : Env) (go : Go) (v : V) (tm : Tr V) (r : RF) (fs : List Fr) (m : Mem) : List VD → Option (V × Mem)
  | .call f ca as :: ds => entGo go .deferred f (as ++ ca) (⟨tm, [.pn v], ⟨r.fn, r.nt, ds, r.kind⟩⟩ :: fs) m (enterV E.P f (as ++ ca))
  | .coll b :: ds => colGo go b (.pn v) tm ⟨r.fn, r.nt, ds, r.kind⟩ fs m (m.t.get b)
  | [] => upGo go v m (match E.P.funcs[r.fn]? with | some _ => true | none => false) r.kind fs
def viGo : VI → Env → Go → List VI → Tr V → RF → List Fr → Mem → Option (V × Mem)
  | .code c => codeGo c
  | .blk _ => fun _ go k tm r fs m => go tm k r fs m
  | .sc _ => fun _ go k tm r fs m => go tm k r fs m
  | .lp c => fun _ go k tm r fs m => go tm (.code c :: .lp c :: k) r fs m
  | .ops l all => opsGo l all
  | .rt => fun E go _ tm r fs m => retGo E go tm r fs m r.df
  | .pn v => fun E go _ tm r fs m => panicGo E go v tm r fs m r.df
  | .pd _ => fun _ _ _ _ _ _ _ => none
  | .inR _ => fun _ _ _ _ _ _ _ => none
  | .enR b => fun _ go k tm r fs m => lpeGo go b k tm r fs m (m.t.get b)
  | .beR => fun _ go k tm r fs m => begGo go k tm r fs m r.kind
  | .lst => fun _ go _ _ r fs m => endGo go none fs m r.kind
def stepGo : List VI → Env → Go → Tr V → RF → List Fr → Mem → Option (V × Mem)
  | [] => fun _ go tm r fs m => bif isRnd r.kind then none else go tm [.rt] r fs m
  | x :: k => fun E go tm r fs m => viGo x E go k tm r fs m
def run (E : Env) (n : Nat) : Tr V → List VI → RF → List Fr → Mem → Option (V × Mem) :=
  Nat.rec (motive := fun _ => Tr V → List VI → RF → List Fr → Mem → Option (V × Mem)) (fun _ _ _ _ _ => none) (fun _ ih tm todo r fs m => stepGo todo E ih tm r fs m) n
theorem run_succ (E : Env) (n : Nat) (tm : Tr V) (todo : List VI) (r : RF) (fs : List Fr) (m : Mem) : run E (n + 1) tm todo r fs m = stepGo todo E (run E n) tm r fs m := rfl
def callE (E : Env) (n : Nat) (f : FuncId) (as : List V) (m : Mem) : Option (V × Mem) := entGo (run E n) .normal f as [] m (enterV E.P f as)
end Go.CE
