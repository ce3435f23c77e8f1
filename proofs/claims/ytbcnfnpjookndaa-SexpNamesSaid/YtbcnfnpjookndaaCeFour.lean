/-
  Closed and symbolic evaluation: CeFour.
-/
import Derived.Below
import Derived.ProofKit
import Derived.LaidMore
import Derived.OpenShut
import Derived.Stop.Joined
import Derived.SevenTiedAt
import Derived.WideKeyArgs
import Derived.KernelRfl
import Derived.Test.YtbcnfnpjookndaaCeThree
/-
  SYMBOLIC EVALUATION, 1: the machine of frames once more, with what is done behind it handed in; truth values are split where they are made.
-/
noncomputable section
namespace Go.CE
open Go
set_option linter.unusedSimpArgs false
set_option linter.unusedVariables false

section
variable {β : Type}
/-- A value that is a truth value is split. -/
def splitK (v : V) (κ : V → Option β) : Option β := match v with
  | .bool c => match c with
    | true => κ (.bool true)
    | false => κ (.bool false)
  | v => κ v
theorem splitK_eq (v : V) (κ : V → Option β) : splitK v κ = κ v := by
  cases v <;> first | rfl | (rename_i b; cases b <;> rfl)
/-- As long as it goes anywhere. -/
def splitD (q : Tmp → Bool) (d : Option Tmp) (v : V) (κ : V → Option β) : Option β := match d with
  | none => κ v
  | some t => match q t with
    | true => κ v
    | false => splitK v κ
theorem splitD_eq (q : Tmp → Bool) (d : Option Tmp) (v : V) (κ : V → Option β) : splitD q d v κ = κ v := by
  unfold splitD
  split
  · rfl
  · split
    · rfl
    · exact splitK_eq v κ
def intIn (i : Int) (n : Nat) : Bool := intLe 0 i && !(intLe (Int.ofNat n) i)
def toN (i : Int) : Nat := match i with
  | .ofNat k => k
  | .negSucc _ => 0
def inBK (i : Int) (n : Nat) (κ : Nat → Option β) : Option β := match intIn i n with
  | true => κ (toN i)
  | false => none
def optK {α : Type} (o : Option α) (κ : α → Option β) : Option β := match o with
  | some a => κ a
  | none => none
def pairK (o : Option (V × Mem)) (κ : V → Mem → Option β) : Option β := match o with
  | some (v, m) => κ v m
  | none => none
def chkK (c : Bool) (κ : Option β) : Option β := match c with
  | true => κ
  | false => none
def indexAddrK (P : Program) (t : TypeId) (x i : V) (κ : V → Option β) : Option β :=
  match i with
  | .int _ n => match x with
    | .sl b o len cp => match P.underlying t with
      | some (.slice e) => match P.info? e with
        | some ie => inBK n len fun k => κ (pinOf (P.underlying e) cp b o k ie.size)
        | none => none
      | _ => none
    | .ptr b o => match P.underlying t with
      | some (.array len e) => match P.info? e with
        | some ie => inBK n len fun k => κ (.ptr b (Nat.add o (Nat.mul k ie.size)))
        | none => none
      | _ => none
    | _ => none
  | _ => none
def natK (v : V) (κ : Nat → Option β) : Option β := match v with
  | .int _ n => chkK (intLe 0 n) (κ (toN n))
  | _ => none
def makeIK (P : Program) (t : TypeId) (a b : V) (m : Mem) (κ : V → Mem → Option β) : Option β :=
  natK a fun l => natK b fun c => match P.underlying t with
    | some (.slice e) => match zeroV P e, P.info? e with
      | some (_, zs), some ie => chkK (Nat.ble l c) (chkK (Nat.ble (ie.bytes * c) 281474976710656) (chkK (Nat.ble c 281474976710656) (κ (makeOf e zs l c m).1 (makeOf e zs l c m).2)))
      | _, _ => none
    | _ => none
def boolSplit (b : Bool) (κ : Bool → Option β) : Option β := match b with
  | true => κ true
  | false => κ false
mutual
def eqK (P : Program) : Nat → TypeId → V → V → (Bool → Option β) → Option β
  | 0, _, _, _, _ => none
  | d + 1, t, x, y, κ => match P.underlying t with
    | none => none
    | some dt => match dt, x, y with
      | .bool, .bool a, .bool b => κ (a == b)
      | .int _, .int k a, .int k' b => match decide (k = k') with
        | true => κ (a == b)
        | false => none
      | .string, .str a, .str b => κ (a == b)
      | .struct fs, .agg xs, .agg ys => match P.stoodInHeld t with
        | true => none
        | false => eqFsK P d fs.toList xs ys κ
      | .array len e, .agg xs, .agg ys => match P.info? e with
        | some i => eqAsK P d e i.size xs ys (List.range' 0 len) κ
        | none => none
      | _, _, _ => match eqV P (d + 1) t x y with
        | some b => κ b
        | none => none
def eqFsK (P : Program) : Nat → List Field → List V → List V → (Bool → Option β) → Option β
  | 0, _, _, _, _ => none
  | d + 1, [], _, _, κ => κ true
  | d + 1, f :: fs, xs, ys, κ => match f.name == "_" with
    | true => eqFsK P d fs xs ys κ
    | false => match partV P f.type xs f.offset with
      | none => none
      | some a => match partV P f.type ys f.offset with
        | none => none
        | some b => eqK P d f.type a b fun c => match c with
          | false => κ false
          | true => eqFsK P d fs xs ys κ
def eqAsK (P : Program) : Nat → TypeId → Nat → List V → List V → List Nat → (Bool → Option β) → Option β
  | 0, _, _, _, _, _, _ => none
  | d + 1, _, _, _, _, [], κ => κ true
  | d + 1, e, n, xs, ys, i :: is, κ => match partV P e xs (Nat.mul i n) with
    | none => none
    | some a => match partV P e ys (Nat.mul i n) with
      | none => none
      | some b => eqK P d e a b fun c => match c with
        | false => κ false
        | true => eqAsK P d e n xs ys is κ
end
def isEq : BinOp → Bool
  | .eql => true
  | .neq => true
  | _ => false
def isDiv : BinOp → Bool
  | .quo => true
  | .rem => true
  | _ => false
def divV (op : BinOp) (k : IntKind) (a b : Int) : V := match op with
  | .quo => .int k (k.wrap (a.tdiv b))
  | _ => .int k (a.tmod b)
def shV (op : BinOp) (k : IntKind) (a : Int) (n : Nat) : V := match op with
  | .shl => .int k (k.wrap (a * 2 ^ (min n k.bits)))
  | _ => .int k (a.fdiv (2 ^ (min n k.bits)))
def negIf (op : BinOp) (b : Bool) : Bool := match op with
  | .neq => !b
  | _ => b
def binK (P : Program) (op : BinOp) (t : TypeId) (xo yo : Operand) (x y : V) (κ : V → Option β) : Option β :=
  match x, y with
  | .int k a, .int k' b => match isShift op with
    | true => chkK (intLe 0 b) (κ (shV op k a (toN b)))
    | false => match decide (k = k') with
      | true => match isDiv op with
        | true => chkK (!(b == 0)) (κ (divV op k a b))
        | false => optK (arithV op k a b) κ
      | false => none
  | .agg a, .agg b => match !(P.eqGuardType P.depth t) && isEq op with
    | true => eqK P 30 t (.agg a) (.agg b) fun c => κ (.bool (negIf op c))
    | false => none
  | _, _ => optK (binV P op t xo yo x y) κ
def boolK (b : Option Bool) (κ : V → Option β) : Option β := match b with
  | some c => κ (.bool c)
  | none => none
/-- One operation, and what is done behind it. -/
def exK : Op → Program → (Operand → Option V) → Mem → (V → Mem → Option β) → Option β
  | .move x => fun _ ev m κ => optK (ev x) fun v => κ v m
  | .assign x => fun _ ev m κ => optK (ev x) fun v => κ v m
  | .indexAddr t x i => fun P ev m κ => optK (ev x) fun a => optK (ev i) fun b => indexAddrK P t a b fun v => κ v m
  | .load t a => fun P ev m κ => optK (ev a) fun v => optK (loadV P t v m) fun u => κ u m
  | .store t a x => fun P ev m κ => optK (ev a) fun p => optK (ev x) fun v => optK (storeV P t p v m) fun m' => κ undefV m'
  | .binOp op t x y _ => fun P ev m κ => optK (ev x) fun a => optK (ev y) fun b => binK P op t x y a b fun v => κ v m
  | .makeSlice t a b => fun P ev m κ => optK (ev a) fun x => optK (ev b) fun y => makeIK P t x y m κ
  | op => fun P ev m κ => pairK (exOp op P ev m) κ
end

abbrev GoS (β : Type) := Tr V → List VI → RF → List Fr → Mem → Option β
/-- Functions whose contract may have no answer, with what is done behind them handed in. -/
structure KTab where
  get : {β : Type} → FuncId → Option (List V → Mem → (V → Mem → Option β) → Option β)
def KTab.none : KTab := ⟨fun _ => Option.none⟩
structure EnvS where
  E : Env
  K : KTab
  q : FuncId → Tmp → Bool
  draw : {β : Type} → (Tmp → Bool) → Array Oper → Nat → Tr V → Mem → (Tr V → Mem → Option β) → Option β
section
variable {β : Type}
def putS (go : GoS β) (l : List Oper) (all : Array Oper) (k : List VI) (r : RF) (fs : List Fr) (m : Mem) : Option (Tr V) → Option β
  | none => none
  | some tm => go tm (.ops l all :: k) r fs m
def valS (q : FuncId → Tmp → Bool) (go : GoS β) (d : Option Tmp) (l : List Oper) (all : Array Oper) (k : List VI) (tm : Tr V) (r : RF) (fs : List Fr) (v : V) (m : Mem) : Option β :=
  splitD (q r.fn) d v fun v => putS go l all k r fs m (putTm r.nt tm d v)
def entS (go : GoS β) (kind : KV) (g : FuncId) (as : List V) (fs : List Fr) (m : Mem) : Option (Nat × Code) → Option β
  | none => none
  | some (nt, c) => go (Tr.fill as 0 .nil) [.code c] ⟨g, nt, [], kind⟩ fs m
def ownS (q : FuncId → Tmp → Bool) (E : Env) (go : GoS β) (o : Oper) (l : List Oper) (all : Array Oper) (k : List VI) (tm : Tr V) (r : RF) (fs : List Fr) (m : Mem) (g : FuncId) (as : List V) : Option (List V → Mem → Option (V × Mem)) → Option β
  | some e => pairK (e as m) (valS q go o.dst l all k tm r fs)
  | none => entS go .normal g as (⟨tm, .ops (o :: l) all :: k, r⟩ :: fs) m (enterV E.P g as)
def kS (q : FuncId → Tmp → Bool) (E : Env) (go : GoS β) (o : Oper) (l : List Oper) (all : Array Oper) (k : List VI) (tm : Tr V) (r : RF) (fs : List Fr) (m : Mem) (g : FuncId) (as : List V) : Option (List V → Mem → (V → Mem → Option β) → Option β) → Option β
  | some e => e as m (valS q go o.dst l all k tm r fs)
  | none => ownS q E go o l all k tm r fs m g as (E.T.sum g)
def extS (q : FuncId → Tmp → Bool) (K : KTab) (E : Env) (go : GoS β) (o : Oper) (l : List Oper) (all : Array Oper) (k : List VI) (tm : Tr V) (r : RF) (fs : List Fr) (m : Mem) (g : FuncId) (as : List V) : Option (List V → Mem → Option (V × Mem)) → Option β
  | some e => pairK (e as m) (valS q go o.dst l all k tm r fs)
  | none => kS q E go o l all k tm r fs m g as (K.get g)
def callSG (q : FuncId → Tmp → Bool) (K : KTab) (E : Env) (go : GoS β) (o : Oper) (l : List Oper) (all : Array Oper) (k : List VI) (tm : Tr V) (r : RF) (fs : List Fr) (m : Mem) : Option (FuncId × List V × List V) → Option β
  | none => none
  | some (g, as, ca) => extS q K E go o l all k tm r fs m g (as ++ ca) (E.T.ext g)
def defS (go : GoS β) (o : Oper) (l : List Oper) (all : Array Oper) (k : List VI) (tm : Tr V) (r : RF) (fs : List Fr) (m : Mem) : Option (FuncId × List V × List V) → Option β
  | none => none
  | some (g, as, ca) => bif isRnd r.kind then none else putS go l all k ⟨r.fn, r.nt, .call g ca as :: r.df, r.kind⟩ fs m (putTm r.nt tm o.dst undefV)
def opS : OpC → EnvS → GoS β → Oper → List Oper → Array Oper → List VI → Tr V → RF → List Fr → Mem → Option β
  | .plain => fun S go o l all k tm r fs m => exK o.op S.E.P (evO S.E.T.g tm) m (valS S.q go o.dst l all k tm r fs)
  | .call c => fun S go o l all k tm r fs m => callSG S.q S.K S.E go o l all k tm r fs m (calleeV c.callee c.args (evO S.E.T.g tm))
  | .defr c => fun S go o l all k tm r fs m => defS go o l all k tm r fs m (calleeV c.callee c.args (evO S.E.T.g tm))
  | .pan _ => fun _ _ _ _ _ _ _ _ _ _ => none
  | .rcv => fun _ _ _ _ _ _ _ _ _ _ => none
def wantS (S : EnvS) (go : GoS β) (o : Oper) (l : List Oper) (all : Array Oper) (k : List VI) (tm : Tr V) (r : RF) (fs : List Fr) (m : Mem) : Bool → Option β
  | true => opS (opC o.op) S go o l all k tm r fs m
  | false => putS go l all k r fs m (putTm r.nt tm o.dst undefV)
def opsS : List Oper → Array Oper → EnvS → GoS β → List VI → Tr V → RF → List Fr → Mem → Option β
  | [] => fun _ _ go k tm r fs m => go tm k r fs m
  | o :: l => fun all S go k tm r fs m => wantS S go o l all k tm r fs m (wantedV all tm o.guard)
def condS (go : GoS β) (a b : Code) (k : List VI) (tm : Tr V) (r : RF) (fs : List Fr) (m : Mem) : Option V → Option β
  | some (.bool true) => go tm (.code a :: k) r fs m
  | some (.bool false) => go tm (.code b :: k) r fs m
  | _ => none
def exitS (go : GoS β) (tm : Tr V) (r : RF) (fs : List Fr) (m : Mem) : Option (List VI) → Option β
  | none => none
  | some k => go tm k r fs m
def regS : Bool → Array Oper → EnvS → GoS β → List VI → Tr V → RF → List Fr → Mem → Option β
  | false => fun ops _ go k tm r fs m => go tm (.ops ops.toList ops :: k) r fs m
  | true => fun ops S go k tm r fs m => S.draw (S.q r.fn) ops r.nt tm m fun tm m => go tm k r fs m
def codeS : Code → EnvS → GoS β → List VI → Tr V → RF → List Fr → Mem → Option β
  | .ret => fun _ go _ tm r fs m => go tm [.rt] r fs m
  | .skip => fun _ go k tm r fs m => go tm k r fs m
  | .label _ => fun _ go k tm r fs m => go tm k r fs m
  | .seq a b => fun _ go k tm r fs m => go tm (.code a :: .code b :: k) r fs m
  | .cond x a b => fun S go k tm r fs m => condS go a b k tm r fs m (evO S.E.T.g tm x)
  | .block id c => fun _ go k tm r fs m => go tm (.code c :: .blk id :: k) r fs m
  | .loop c => fun _ go k tm r fs m => go tm (.code c :: .lp c :: k) r fs m
  | .scope c => fun _ go k tm r fs m => go tm (.code c :: .sc c :: k) r fs m
  | .exit id => fun _ go k tm r fs m => exitS go tm r fs m (exitV id k)
  | .region _ ops d => fun S go k tm r fs m => regS d ops S go k tm r fs m
  | _ => fun _ _ _ _ _ _ _ => none
def finS (q : FuncId → Tmp → Bool) (fin : V → Mem → Option β) (go : GoS β) (v : V) (m : Mem) : List Fr → Option β
  | [] => fin v m
  | ⟨tm, .ops (o :: l) all :: k, r⟩ :: fs => valS q go o.dst l all k tm r fs v m
  | _ => none
def backS (go : GoS β) (m : Mem) : List Fr → Option β
  | ⟨tm, [.rt], r⟩ :: fs => go tm [.rt] r fs m
  | _ => none
def kindS (q : FuncId → Tmp → Bool) (fin : V → Mem → Option β) (go : GoS β) (fs : List Fr) (m : Mem) (v : V) : KV → Option β
  | .normal => finS q fin go v m fs
  | .deferred => backS go m fs
  | _ => none
def resS (q : FuncId → Tmp → Bool) (fin : V → Mem → Option β) (go : GoS β) (r : RF) (fs : List Fr) (m : Mem) : Option V → Option β
  | none => none
  | some v => kindS q fin go fs m v r.kind
def retS (q : FuncId → Tmp → Bool) (fin : V → Mem → Option β) (E : Env) (go : GoS β) (tm : Tr V) (r : RF) (fs : List Fr) (m : Mem) : List VD → Option β
  | .call f ca as :: ds => bif isRnd r.kind then none else entS go .deferred f (as ++ ca) (⟨tm, [.rt], ⟨r.fn, r.nt, ds, r.kind⟩⟩ :: fs) m (enterV E.P f (as ++ ca))
  | .coll _ :: _ => none
  | [] => bif isRnd r.kind then none else resS q fin go r fs m (resOf E.P r.fn tm m)
def viS (fin : V → Mem → Option β) : VI → EnvS → GoS β → List VI → Tr V → RF → List Fr → Mem → Option β
  | .code c => codeS c
  | .blk _ => fun _ go k tm r fs m => go tm k r fs m
  | .sc _ => fun _ go k tm r fs m => go tm k r fs m
  | .lp c => fun _ go k tm r fs m => go tm (.code c :: .lp c :: k) r fs m
  | .ops l all => opsS l all
  | .rt => fun S go _ tm r fs m => retS S.q fin S.E go tm r fs m r.df
  | _ => fun _ _ _ _ _ _ _ => none
def stepS (fin : V → Mem → Option β) : List VI → EnvS → GoS β → Tr V → RF → List Fr → Mem → Option β
  | [] => fun _ go tm r fs m => bif isRnd r.kind then none else go tm [.rt] r fs m
  | x :: k => fun S go tm r fs m => viS fin x S go k tm r fs m
def runS (S : EnvS) (fin : V → Mem → Option β) (n : Nat) : GoS β :=
  Nat.rec (motive := fun _ => GoS β) (fun _ _ _ _ _ => none) (fun _ ih tm todo r fs m => stepS fin todo S ih tm r fs m) n
theorem runS_succ (S : EnvS) (fin : V → Mem → Option β) (n : Nat) (tm : Tr V) (todo : List VI) (r : RF) (fs : List Fr) (m : Mem) : runS S fin (n + 1) tm todo r fs m = stepS fin todo S (runS S fin n) tm r fs m := rfl
def callS (S : EnvS) (n : Nat) (f : FuncId) (as : List V) (m : Mem) (fin : V → Mem → Option β) : Option β := entS (runS S fin n) .normal f as [] m (enterV S.E.P f as)

/-! regions that draw -/
def floatK : Op → Program → (Operand → Option V) → (Option (TypeId × List V × FRef) → Option β) → Option β
  | .makeSlice t a b => fun P ev κ => optK (ev a) fun x => optK (ev b) fun y => natK x fun l => natK y fun c => match P.underlying t with
    | some (.slice e) => match zeroV P e, P.info? e with
      | some (_, zs), some ie => chkK (Nat.ble l c) (chkK (Nat.ble (ie.bytes * c) 281474976710656) (chkK (Nat.ble c 281474976710656) (κ (some (e, repV zs c, .m l (c - l))))))
      | _, _ => none
    | _ => none
  | op => fun P ev κ => κ (floatV op P ev)
def actS (S : EnvS) (N : Nat) (o : Oper) (ev : Operand → Option V) (m : Mem) (κ : V → Mem → Option β) : Option β :=
  match opC o.op with
  | .call c => match calleeV c.callee c.args ev with
    | some (g, as, ca) => match S.E.T.ext g with
      | some e => pairK (e (as ++ ca) m) κ
      | none => match S.K.get g with
        | some e => e (as ++ ca) m κ
        | none => match S.E.T.sum g with
          | some e => pairK (e (as ++ ca) m) κ
          | none => callS S N g (as ++ ca) m κ
    | none => none
  | .plain => exK o.op S.E.P ev m κ
  | _ => none
def beqK (v u : V) (κ : Option β) : Option β := match v, u with
  | .int k a, .int k' b => match decide (k = k') with
    | true => chkK (a == b) κ
    | false => none
  | v, u => chkK (V.beq v u) κ
/-- What was read is as it was, whatever of it is read again. -/
def rdK (P : Program) (G : Nat) (ops : Array Oper) (i : Nat) (s : DS) : List Nat → Option β → Option β
  | [], κ => κ
  | j :: js, κ => match ancB ops 40 j i with
    | true => rdK P G ops i s js κ
    | false => match ops.toList[j]? with
      | none => none
      | some oj => exK oj.op P (evO G s.tm) (hideM s.m (hidIds ops j s.fl)) fun v _ => match oj.dst with
        | none => rdK P G ops i s js κ
        | some d => match s.tm.get d with
          | some u => beqK v u (rdK P G ops i s js κ)
          | none => none
def dUnwK (nt : Nat) (o : Oper) (s : DS) (κ : DS → Option β) : Option β := optK (dUnw nt o s) κ
def dSilK (q : Tmp → Bool) (P : Program) (G : Nat) (ops : Array Oper) (nt i : Nat) (o : Oper) (s : DS) (κ : DS → Option β) : Option β :=
  exK o.op P (evO G s.tm) (hideM s.m (hidIds ops i s.fl)) fun v _ => splitD q o.dst v fun v => optK (putTm nt s.tm o.dst v) fun tm =>
    κ ⟨tm, s.m, s.fl, bif readsB o.op then i :: s.rd else s.rd⟩
def dActK (q : Tmp → Bool) (S : EnvS) (N : Nat) (ops : Array Oper) (nt i : Nat) (o : Oper) (s : DS) (κ : DS → Option β) : Option β :=
  actS S N o (evO S.E.T.g s.tm) (hideM s.m (hidIds ops i s.fl)) fun v m1 => splitD q o.dst v fun v => optK (putTm nt s.tm o.dst v) fun tm =>
    rdK S.E.P S.E.T.g ops i ⟨tm, ⟨m1.nx, backAll s.m.t m1.t (hidIds ops i s.fl)⟩, s.fl, s.rd⟩ s.rd (κ ⟨tm, ⟨m1.nx, backAll s.m.t m1.t (hidIds ops i s.fl)⟩, s.fl, s.rd⟩)
def goK (q : Tmp → Bool) (S : EnvS) (N : Nat) (ops : Array Oper) (nt : Nat) : List Nat → Array Bool → DS → (DS → Option β) → Option β
  | [], X, s, κ => match Region.ready .any ops X with
    | [] => κ s
    | _ => none
  | i :: l, X, s, κ => match ops.toList[i]? with
    | none => none
    | some o => match isIn i (Region.ready .any ops X) with
      | false => none
      | true => match wantedV ops s.tm o.guard with
        | false => dUnwK nt o s fun s' => goK q S N ops nt l (X.setIfInBounds i true) s' κ
        | true => match silentB S.E.P o.op with
          | true => dSilK q S.E.P S.E.T.g ops nt i o s fun s' => goK q S N ops nt l (X.setIfInBounds i true) s' κ
          | false => floatK o.op S.E.P (evO S.E.T.g s.tm) fun fl => match dFlt nt i o s fl with
            | some s' => goK q S N ops nt l (X.setIfInBounds i true) s' κ
            | none => match isOne i (Region.ready .any ops X) with
              | true => dActK q S N ops nt i o s fun s' => goK q S N ops nt l (X.setIfInBounds i true) s' κ
              | false => none
def drawK (q : Tmp → Bool) (S : EnvS) (N : Nat) (ops : Array Oper) (nt : Nat) (tm : Tr V) (m : Mem) (κ : Tr V → Mem → Option β) : Option β :=
  match ssaB ops && backB ops with
  | false => none
  | true => goK q S N ops nt (orderD S.E.P ops ops.size (Array.replicate ops.size false)) (Array.replicate ops.size false) ⟨tm, m, [], []⟩ fun s => κ s.tm s.m
end
def envK (K : KTab) (q : FuncId → Tmp → Bool) (P : Program) (T : Tab) (N : Nat) : Nat → EnvS
  | 0 => ⟨envD P T N 0, K, q, fun _ _ _ _ _ _ => none⟩
  | d + 1 => ⟨envD P T N (d + 1), K, q, fun q' ops nt tm m κ => drawK q' (envK K q P T N d) N ops nt tm m κ⟩
abbrev envQ := envK KTab.none
abbrev envS := envQ (fun _ _ => false)
end Go.CE
end
/-
  SYMBOLIC EVALUATION, 2: what it comes to is what the closed evaluation comes to.
-/
noncomputable section
namespace Go.CE
open Go
set_option linter.unusedSimpArgs false
set_option linter.unusedVariables false

section
variable {β : Type}
theorem optK_some {α : Type} {o : Option α} {κ : α → Option β} {b : β} (h : optK o κ = some b) : ∃ a, o = some a ∧ κ a = some b := by
  cases o with
  | none => cases h
  | some a => exact ⟨a, rfl, h⟩
theorem pairK_some {o : Option (V × Mem)} {κ : V → Mem → Option β} {b : β} (h : pairK o κ = some b) : ∃ v m, o = some (v, m) ∧ κ v m = some b := by
  cases o with
  | none => cases h
  | some p => obtain ⟨v, m⟩ := p; exact ⟨v, m, rfl, h⟩
theorem chkK_some {c : Bool} {κ : Option β} {b : β} (h : chkK c κ = some b) : c = true ∧ κ = some b := by
  cases c with
  | false => cases h
  | true => exact ⟨rfl, h⟩
theorem intIn_inB {i : Int} {n : Nat} (h : intIn i n = true) : inB i n = some (toN i) := by
  unfold intIn at h
  rw [Bool.and_eq_true] at h
  obtain ⟨h1, h2⟩ := h
  cases i with
  | negSucc k => cases h1
  | ofNat k =>
    have h2 : (!(Nat.ble n k)) = true := h2
    show (match Nat.blt k n with | true => some k | false => none) = some k
    have : Nat.blt k n = true := by
      have h3 : ¬ n ≤ k := fun e => by
        rw [Nat.ble_eq_true_of_le e] at h2; cases h2
      exact Nat.ble_eq_true_of_le (by omega)
    rw [this]
theorem inBK_some {i : Int} {n : Nat} {κ : Nat → Option β} {b : β} (h : inBK i n κ = some b) : ∃ k, inB i n = some k ∧ κ k = some b := by
  unfold inBK at h
  split at h
  · rename_i h1; exact ⟨_, intIn_inB h1, h⟩
  · cases h
theorem indexAddrK_some {P : Program} {t : TypeId} {x i : V} {κ : V → Option β} {b : β} (h : indexAddrK P t x i κ = some b) : ∃ v, indexAddrV P t x i = some v ∧ κ v = some b := by
  unfold indexAddrK at h
  unfold indexAddrV
  split at h
  · split at h
    · split at h
      · rename_i e hu
        split at h
        · rename_i ie hie
          obtain ⟨k, h1, h2⟩ := inBK_some h
          exact ⟨_, by simp only [hu, hie, h1], h2⟩
        · cases h
      · cases h
    · split at h
      · rename_i e hu
        split at h
        · rename_i ie hie
          obtain ⟨k, h1, h2⟩ := inBK_some h
          exact ⟨_, by simp only [hu, hie, h1], h2⟩
        · cases h
      · cases h
    · cases h
  · cases h
theorem natK_some {v : V} {κ : Nat → Option β} {b : β} (h : natK v κ = some b) : ∃ n, natOf v = some n ∧ κ n = some b := by
  unfold natK at h
  split at h
  · rename_i k n
    obtain ⟨h1, h2⟩ := chkK_some h
    cases n with
    | negSucc j => cases h1
    | ofNat j => exact ⟨j, rfl, h2⟩
  · cases h
theorem makeIK_some {P : Program} {t : TypeId} {x y : V} {m : Mem} {κ : V → Mem → Option β} {b : β} (h : makeIK P t x y m κ = some b) : ∃ v m', makeSliceV P t x y m = some (v, m') ∧ κ v m' = some b := by
  obtain ⟨l, h1, h2⟩ := natK_some h
  obtain ⟨c, h3, h4⟩ := natK_some h2
  split at h4
  · rename_i e hu
    split at h4
    · rename_i q zs ie hz hie
      obtain ⟨g1, g2⟩ := chkK_some h4
      obtain ⟨g3, g4⟩ := chkK_some g2
      obtain ⟨g5, g6⟩ := chkK_some g4
      exact ⟨_, _, by simp only [makeSliceV, h1, h3, hu, hz, hie, g1, g3, g5, Bool.and_self], g6⟩
    · cases h4
  · cases h4
theorem eqK_all (P : Program) : ∀ (d : Nat), (∀ (t : TypeId) (x y : V) (κ : Bool → Option β) (b : β), eqK P d t x y κ = some b → ∃ c, eqV P d t x y = some c ∧ κ c = some b) ∧
    (∀ (fs : List Field) (xs ys : List V) (κ : Bool → Option β) (b : β), eqFsK P d fs xs ys κ = some b → ∃ c, eqFs P d fs xs ys = some c ∧ κ c = some b) ∧
    (∀ (e : TypeId) (n : Nat) (xs ys : List V) (is : List Nat) (κ : Bool → Option β) (b : β), eqAsK P d e n xs ys is κ = some b → ∃ c, eqAs P d e n xs ys is = some c ∧ κ c = some b)
  | 0 => ⟨fun _ _ _ _ _ h => by simp [eqK] at h, fun _ _ _ _ _ h => by simp [eqFsK] at h, fun _ _ _ _ _ _ _ h => by simp [eqAsK] at h⟩
  | d + 1 => by
    obtain ⟨ih1, ih2, ih3⟩ := eqK_all P d
    refine ⟨fun t x y κ b h => ?_, fun fs xs ys κ b h => ?_, fun e n xs ys is κ b h => ?_⟩
    · rw [eqK] at h
      split at h
      · cases h
      · rename_i dt hdt
        split at h
        · exact ⟨_, by rw [eqV]; simp only [hdt], h⟩
        · split at h
          · rename_i hk
            exact ⟨_, by rw [eqV]; simp only [hdt, hk], h⟩
          · cases h
        · exact ⟨_, by rw [eqV]; simp only [hdt], h⟩
        · split at h
          · cases h
          · rename_i hs
            obtain ⟨c, h1, h2⟩ := ih2 _ _ _ _ _ h
            exact ⟨c, by rw [eqV]; simp only [hdt, hs, h1], h2⟩
        · split at h
          · rename_i i hi
            obtain ⟨c, h1, h2⟩ := ih3 _ _ _ _ _ _ _ h
            exact ⟨c, by rw [eqV]; simp only [hdt, hi, h1], h2⟩
          · cases h
        · split at h
          · rename_i c hc
            exact ⟨c, hc, h⟩
          · cases h
    · cases fs with
      | nil =>
        rw [eqFsK] at h
        exact ⟨true, by rw [eqFs], h⟩
      | cons f fs =>
        rw [eqFsK] at h
        rw [eqFs]
        split at h
        · rename_i hn
          simp only [hn]
          exact ih2 _ _ _ _ _ h
        · rename_i hn
          simp only [hn]
          split at h
          · cases h
          · rename_i a ha
            simp only [ha]
            split at h
            · cases h
            · rename_i a2 ha2
              simp only [ha2]
              obtain ⟨c, h1, h2⟩ := ih1 _ _ _ _ _ h
              simp only [h1]
              split at h2
              · exact ⟨false, rfl, h2⟩
              · exact ih2 _ _ _ _ _ h2
    · cases is with
      | nil =>
        rw [eqAsK] at h
        exact ⟨true, by rw [eqAs], h⟩
      | cons i is =>
        rw [eqAsK] at h
        rw [eqAs]
        split at h
        · cases h
        · rename_i a ha
          simp only [ha]
          split at h
          · cases h
          · rename_i a2 ha2
            simp only [ha2]
            obtain ⟨c, h1, h2⟩ := ih1 _ _ _ _ _ h
            simp only [h1]
            split at h2
            · exact ⟨false, rfl, h2⟩
            · exact ih3 _ _ _ _ _ _ _ h2
theorem binK_some {P : Program} {op : BinOp} {t : TypeId} {xo yo : Operand} {x y : V} {κ : V → Option β} {b : β} (h : binK P op t xo yo x y κ = some b) : ∃ v, binV P op t xo yo x y = some v ∧ κ v = some b := by
  unfold binK at h
  split at h
  · rename_i k a k' c
    unfold binV
    split at h
    · rename_i hs
      obtain ⟨h1, h2⟩ := chkK_some h
      cases c with
      | negSucc j => cases h1
      | ofNat j =>
        refine ⟨_, ?_, h2⟩
        simp only [hs]
        cases op <;> first | (cases hs; done) | rfl
    · rename_i hs
      simp only [hs]
      split at h
      · rename_i hk
        simp only [hk]
        split at h
        · rename_i hd
          obtain ⟨h1, h2⟩ := chkK_some h
          refine ⟨_, ?_, h2⟩
          have hc : c ≠ 0 := fun e => by subst e; cases h1
          cases op <;> first | (cases hd; done) | skip
          · unfold arithV divV
            cases c with
            | negSucc j => rfl
            | ofNat j => cases j with
              | zero => exact absurd rfl hc
              | succ j => rfl
          · unfold arithV divV
            cases c with
            | negSucc j => rfl
            | ofNat j => cases j with
              | zero => exact absurd rfl hc
              | succ j => rfl
        · exact optK_some h
      · cases h
  · rename_i a c
    split at h
    · rename_i hg
      rw [Bool.and_eq_true] at hg
      obtain ⟨q, h1, h2⟩ := (eqK_all P 30).1 _ _ _ _ _ h
      refine ⟨_, ?_, h2⟩
      unfold binV
      simp only [hg.1]
      cases op <;> first | (cases hg.2; done) | (simp only [h1]; rfl)
    · cases h
  · exact optK_some h
theorem exK_some {op : Op} {P : Program} {ev : Operand → Option V} {m : Mem} {κ : V → Mem → Option β} {b : β} (h : exK op P ev m κ = some b) : ∃ v m', exOp op P ev m = some (v, m') ∧ κ v m' = some b := by
  cases op <;> first
    | exact pairK_some h
    | skip
  · obtain ⟨v, h1, h2⟩ := optK_some h
    exact ⟨v, m, by simp only [exOp, h1, keepM], h2⟩
  · obtain ⟨v, h1, h2⟩ := optK_some h
    exact ⟨v, m, by simp only [exOp, h1, keepM], h2⟩
  · obtain ⟨v, h1, h2⟩ := optK_some h
    obtain ⟨u, h3, h4⟩ := optK_some h2
    exact ⟨u, m, by simp only [exOp, exLoad, h1, h3, keepM], h4⟩
  · obtain ⟨v, h1, h2⟩ := optK_some h
    obtain ⟨u, h3, h4⟩ := optK_some h2
    obtain ⟨m', h5, h6⟩ := optK_some h4
    exact ⟨_, m', by simp only [exOp, exStore, h1, h3, h5], h6⟩
  · obtain ⟨v, h1, h2⟩ := optK_some h
    obtain ⟨u, h3, h4⟩ := optK_some h2
    obtain ⟨x, h5, h6⟩ := binK_some h4
    exact ⟨x, m, by simp only [exOp, exBin, h1, h3, h5, keepM], h6⟩
  · obtain ⟨v, h1, h2⟩ := optK_some h
    obtain ⟨u, h3, h4⟩ := optK_some h2
    obtain ⟨x, m', h5, h6⟩ := makeIK_some h4
    exact ⟨x, m', by simp only [exOp, exMake, h1, h3, h5], h6⟩
  · obtain ⟨v, h1, h2⟩ := optK_some h
    obtain ⟨u, h3, h4⟩ := optK_some h2
    obtain ⟨x, h5, h6⟩ := indexAddrK_some h4
    exact ⟨x, m, by simp only [exOp, exIndexAddr, h1, h3, h5, keepM], h6⟩

/-- What the one machine comes to, the other one comes to. -/
def Sim (go : Go) (gs : GoS β) (fin : V → Mem → Option β) : Prop := ∀ tm todo r fs m b, gs tm todo r fs m = some b → ∃ v m', go tm todo r fs m = some (v, m') ∧ fin v m' = some b
def KOk (K : KTab) (T : Tab) : Prop := ∀ (β : Type) g (e' : List V → Mem → (V → Mem → Option β) → Option β), K.get g = some e' → ∃ e, T.sum g = some e ∧ ∀ as m (κ : V → Mem → Option β) b, e' as m κ = some b → ∃ v m', e as m = some (v, m') ∧ κ v m' = some b
theorem KOk.none {T : Tab} : KOk KTab.none T := fun _ _ _ h => by cases h
structure EnvS.Ok (S : EnvS) : Prop where
  k : KOk S.K S.E.T
  draw : ∀ {β : Type} q ops nt tm m (κ : Tr V → Mem → Option β) b, S.draw q ops nt tm m κ = some b → ∃ tm' m', S.E.draw ops nt tm m = some (tm', m') ∧ κ tm' m' = some b
section
variable {go : Go} {gs : GoS β} {fin : V → Mem → Option β} {b : β} (hs : Sim go gs fin)
include hs
theorem putS_sim {l all k r fs m x} (h : putS gs l all k r fs m x = some b) : ∃ v m', putGo go l all k r fs m x = some (v, m') ∧ fin v m' = some b := by
  cases x with
  | none => cases h
  | some tm => exact hs _ _ _ _ _ _ h
theorem valS_sim {q d l all k tm r fs v m} (h : valS q gs d l all k tm r fs v m = some b) : ∃ u m', valGo go d l all k tm r fs (some (v, m)) = some (u, m') ∧ fin u m' = some b := by
  unfold valS at h
  rw [splitD_eq] at h
  exact putS_sim hs h
theorem pair_sim {q d l all k tm r fs o} (h : pairK o (valS q gs d l all k tm r fs) = some b) : ∃ u m', valGo go d l all k tm r fs o = some (u, m') ∧ fin u m' = some b := by
  obtain ⟨v, m, rfl, h2⟩ := pairK_some h
  exact valS_sim hs h2
theorem entS_sim {kind g as fs m x} (h : entS gs kind g as fs m x = some b) : ∃ v m', entGo go kind g as fs m x = some (v, m') ∧ fin v m' = some b := by
  cases x with
  | none => cases h
  | some p => obtain ⟨nt, c⟩ := p; exact hs _ _ _ _ _ _ h
theorem opsS_sim {S : EnvS} (hS : S.Ok) {l all k tm r fs m} (h : opsS l all S gs k tm r fs m = some b) : ∃ v m', opsGo l all S.E go k tm r fs m = some (v, m') ∧ fin v m' = some b := by
  cases l with
  | nil => exact hs _ _ _ _ _ _ h
  | cons o l =>
    have h : wantS S gs o l all k tm r fs m (wantedV all tm o.guard) = some b := h
    show ∃ v m', wantGo S.E go o l all k tm r fs m (wantedV all tm o.guard) = some (v, m') ∧ fin v m' = some b
    cases hw : wantedV all tm o.guard with
    | false => rw [hw] at h; exact putS_sim hs h
    | true =>
      rw [hw] at h
      have h : opS (opC o.op) S gs o l all k tm r fs m = some b := h
      show ∃ v m', opGo (opC o.op) S.E go o l all k tm r fs m = some (v, m') ∧ fin v m' = some b
      cases hop : opC o.op with
      | plain =>
        rw [hop] at h
        have h : exK o.op S.E.P (evO S.E.T.g tm) m (valS S.q gs o.dst l all k tm r fs) = some b := h
        obtain ⟨v, m1, h1, h2⟩ := exK_some h
        show ∃ v m', valGo go o.dst l all k tm r fs (exOp o.op S.E.P (evO S.E.T.g tm) m) = some (v, m') ∧ fin v m' = some b
        rw [h1]
        exact valS_sim hs h2
      | call c =>
        rw [hop] at h
        have h : callSG S.q S.K S.E gs o l all k tm r fs m (calleeV c.callee c.args (evO S.E.T.g tm)) = some b := h
        show ∃ v m', callGo S.E go c o l all k tm r fs m (calleeV c.callee c.args (evO S.E.T.g tm)) = some (v, m') ∧ fin v m' = some b
        cases hc : calleeV c.callee c.args (evO S.E.T.g tm) with
        | none => rw [hc] at h; cases h
        | some p =>
          obtain ⟨g, as, ca⟩ := p
          rw [hc] at h
          have h : extS S.q S.K S.E gs o l all k tm r fs m g (as ++ ca) (S.E.T.ext g) = some b := h
          show ∃ v m', extGo S.E go o l all k tm r fs m g (as ++ ca) (S.E.T.ext g) = some (v, m') ∧ fin v m' = some b
          cases hx : S.E.T.ext g with
          | some e => rw [hx] at h; exact pair_sim hs h
          | none =>
            rw [hx] at h
            have h : kS S.q S.E gs o l all k tm r fs m g (as ++ ca) (S.K.get g) = some b := h
            cases hk : S.K.get (β := β) g with
            | some e' =>
              rw [hk] at h
              obtain ⟨e, h1, h2⟩ := hS.k _ _ _ hk
              obtain ⟨v, m1, h3, h4⟩ := h2 _ _ _ _ h
              show ∃ v m', ownGo S.E go o l all k tm r fs m g (as ++ ca) (S.E.T.sum g) = some (v, m') ∧ fin v m' = some b
              rw [h1]
              show ∃ v m', valGo go o.dst l all k tm r fs (e (as ++ ca) m) = some (v, m') ∧ fin v m' = some b
              rw [h3]
              exact valS_sim hs h4
            | none =>
            rw [hk] at h
            have h : ownS S.q S.E gs o l all k tm r fs m g (as ++ ca) (S.E.T.sum g) = some b := h
            show ∃ v m', ownGo S.E go o l all k tm r fs m g (as ++ ca) (S.E.T.sum g) = some (v, m') ∧ fin v m' = some b
            cases hy : S.E.T.sum g with
            | some e => rw [hy] at h; exact pair_sim hs h
            | none => rw [hy] at h; exact entS_sim hs h
      | defr c =>
        rw [hop] at h
        have h : defS gs o l all k tm r fs m (calleeV c.callee c.args (evO S.E.T.g tm)) = some b := h
        show ∃ v m', defGo go o l all k tm r fs m (calleeV c.callee c.args (evO S.E.T.g tm)) = some (v, m') ∧ fin v m' = some b
        cases hc : calleeV c.callee c.args (evO S.E.T.g tm) with
        | none => rw [hc] at h; cases h
        | some p =>
          obtain ⟨g, as, ca⟩ := p
          rw [hc] at h
          have h : (bif isRnd r.kind then none else putS gs l all k ⟨r.fn, r.nt, .call g ca as :: r.df, r.kind⟩ fs m (putTm r.nt tm o.dst undefV)) = some b := h
          show ∃ v m', (bif isRnd r.kind then none else putGo go l all k ⟨r.fn, r.nt, .call g ca as :: r.df, r.kind⟩ fs m (putTm r.nt tm o.dst undefV)) = some (v, m') ∧ fin v m' = some b
          cases hn : isRnd r.kind with
          | true => rw [hn] at h; cases h
          | false => rw [hn] at h; exact putS_sim hs h
      | pan x => rw [hop] at h; cases h
      | rcv => rw [hop] at h; cases h
theorem codeS_sim {S : EnvS} (hS : S.Ok) {c k tm r fs m} (h : codeS c S gs k tm r fs m = some b) : ∃ v m', codeGo c S.E go k tm r fs m = some (v, m') ∧ fin v m' = some b := by
  cases c <;> first
    | exact hs _ _ _ _ _ _ h
    | (cases h; done)
    | skip
  · rename_i id ops d
    cases d with
    | false => exact hs _ _ _ _ _ _ h
    | true =>
      have h : S.draw (S.q r.fn) ops r.nt tm m (fun tm m => gs tm k r fs m) = some b := h
      obtain ⟨tm', m', h1, h2⟩ := hS.draw _ _ _ _ _ _ _ h
      show ∃ v m', drawGo go k r fs (S.E.draw ops r.nt tm m) = some (v, m') ∧ fin v m' = some b
      rw [h1]
      exact hs _ _ _ _ _ _ h2
  · rename_i x a c2
    have h : condS gs a c2 k tm r fs m (evO S.E.T.g tm x) = some b := h
    show ∃ v m', condGo go a c2 k tm r fs m (evO S.E.T.g tm x) = some (v, m') ∧ fin v m' = some b
    unfold condS at h
    unfold condGo
    split at h
    · rename_i hx; simp only [hx]; exact hs _ _ _ _ _ _ h
    · rename_i hx; simp only [hx]; exact hs _ _ _ _ _ _ h
    · cases h
  · rename_i id
    have h : exitS gs tm r fs m (exitV id k) = some b := h
    show ∃ v m', exitGo go id tm r fs m (exitV id k) = some (v, m') ∧ fin v m' = some b
    cases hx : exitV id k with
    | none => rw [hx] at h; cases h
    | some k' => rw [hx] at h; exact hs _ _ _ _ _ _ h
theorem retS_sim {q : FuncId → Tmp → Bool} {E : Env} {tm r fs m dfs} (h : retS q fin E gs tm r fs m dfs = some b) : ∃ v m', retGo E go tm r fs m dfs = some (v, m') ∧ fin v m' = some b := by
  cases dfs with
  | cons d ds =>
    cases d with
    | coll x => cases h
    | call f ca as =>
      have h : (bif isRnd r.kind then none else entS gs .deferred f (as ++ ca) (⟨tm, [.rt], ⟨r.fn, r.nt, ds, r.kind⟩⟩ :: fs) m (enterV E.P f (as ++ ca))) = some b := h
      show ∃ v m', (bif isRnd r.kind then none else entGo go .deferred f (as ++ ca) (⟨tm, [.rt], ⟨r.fn, r.nt, ds, r.kind⟩⟩ :: fs) m (enterV E.P f (as ++ ca))) = some (v, m') ∧ fin v m' = some b
      cases hn : isRnd r.kind with
      | true => rw [hn] at h; cases h
      | false => rw [hn] at h; exact entS_sim hs h
  | nil =>
    have h : (bif isRnd r.kind then none else resS q fin gs r fs m (resOf E.P r.fn tm m)) = some b := h
    show ∃ v m', outGo E go tm r fs m r.kind = some (v, m') ∧ fin v m' = some b
    cases hn : isRnd r.kind with
    | true => rw [hn] at h; cases h
    | false =>
    rw [hn] at h
    have ho : ∀ go, outGo E go tm r fs m r.kind = resGo go r fs m (resOf E.P r.fn tm m) := fun go => by
      cases hk : r.kind with
      | rnd _ => rw [hk] at hn; cases hn
      | _ => rfl
    simp only [ho]
    have h : resS q fin gs r fs m (resOf E.P r.fn tm m) = some b := h
    cases hr : resOf E.P r.fn tm m with
    | none => rw [hr] at h; cases h
    | some v =>
      rw [hr] at h
      have h : kindS q fin gs fs m v r.kind = some b := h
      show ∃ v' m', kindGo go fs m v r.kind = some (v', m') ∧ fin v' m' = some b
      cases hk : r.kind <;> rw [hk] at h <;> first
        | (cases h; done)
        | skip
      · have h : finS q fin gs v m fs = some b := h
        show ∃ v' m', finGo go v m fs = some (v', m') ∧ fin v' m' = some b
        unfold finS at h
        unfold finGo
        split at h
        · exact ⟨v, m, rfl, h⟩
        · exact valS_sim hs h
        · cases h
      · have h : backS gs m fs = some b := h
        show ∃ v' m', backGo go m fs = some (v', m') ∧ fin v' m' = some b
        unfold backS at h
        unfold backGo
        split at h
        · exact hs _ _ _ _ _ _ h
        · cases h
theorem stepS_sim {S : EnvS} (hS : S.Ok) {todo tm r fs m} (h : stepS fin todo S gs tm r fs m = some b) : ∃ v m', stepGo todo S.E go tm r fs m = some (v, m') ∧ fin v m' = some b := by
  cases todo with
  | nil =>
    have h : (bif isRnd r.kind then none else gs tm [.rt] r fs m) = some b := h
    show ∃ v m', (bif isRnd r.kind then none else go tm [.rt] r fs m) = some (v, m') ∧ fin v m' = some b
    cases hn : isRnd r.kind with
    | true => rw [hn] at h; cases h
    | false => rw [hn] at h; exact hs _ _ _ _ _ _ h
  | cons x k =>
    cases x with
    | code c => exact codeS_sim hs hS h
    | blk id => exact hs _ _ _ _ _ _ h
    | lp c => exact hs _ _ _ _ _ _ h
    | sc c => exact hs _ _ _ _ _ _ h
    | ops l all => exact opsS_sim hs hS h
    | rt => exact retS_sim hs h
    | pn _ => cases h
    | pd _ => cases h
    | inR _ => cases h
    | enR _ => cases h
    | beR => cases h
    | lst => cases h
end
theorem runS_sim {S : EnvS} (hS : S.Ok) (fin : V → Mem → Option β) : ∀ n, Sim (run S.E n) (runS S fin n) fin
  | 0 => fun tm todo r fs m b h => by cases h
  | n + 1 => fun tm todo r fs m b h => by
    rw [runS_succ] at h
    rw [run_succ]
    exact stepS_sim (runS_sim hS fin n) hS h
theorem callS_sim {S : EnvS} (hS : S.Ok) {fin : V → Mem → Option β} {n f as m} {b : β} (h : callS S n f as m fin = some b) : ∃ v m', callE S.E n f as m = some (v, m') ∧ fin v m' = some b :=
  entS_sim (runS_sim hS fin n) h

/-! regions that draw -/
theorem actS_sim {S : EnvS} (hS : S.Ok) {N o ev m} {κ : V → Mem → Option β} {b : β} (h : actS S N o ev m κ = some b) : ∃ v m', actV S.E N o ev m = some (v, m') ∧ κ v m' = some b := by
  unfold actS at h
  unfold actV
  split at h
  · rename_i c hop
    simp only [hop]
    split at h
    · rename_i g as ca hc
      simp only [hc]
      split at h
      · rename_i hx; simp only [hx]; exact pairK_some h
      · rename_i hx
        simp only [hx]
        split at h
        · rename_i e' hk
          obtain ⟨e, h1, h2⟩ := hS.k _ _ _ hk
          simp only [h1]
          exact h2 _ _ _ _ h
        · split at h
          · rename_i hy; simp only [hy]; exact pairK_some h
          · rename_i hy; simp only [hy]; exact callS_sim hS h
    · cases h
  · rename_i hop
    simp only [hop]
    exact exK_some h
  · cases h
theorem beqK_some {v u : V} {κ : Option β} {b : β} (h : beqK v u κ = some b) : V.beq v u = true ∧ κ = some b := by
  unfold beqK at h
  split at h
  · rename_i k a k' c
    split at h
    · rename_i hk
      obtain ⟨h1, h2⟩ := chkK_some h
      refine ⟨?_, h2⟩
      unfold V.beq
      rw [hk, Bool.true_and]
      simpa using h1
    · cases h
  · exact chkK_some h
theorem rdK_sim {P : Program} {G : Nat} {ops : Array Oper} {i : Nat} {s : DS} {κ : Option β} {b : β} : ∀ {l : List Nat}, rdK P G ops i s l κ = some b → l.all (rdOk P G ops i s) = true ∧ κ = some b
  | [], h => ⟨rfl, h⟩
  | j :: js, h => by
    rw [rdK] at h
    rw [List.all_cons]
    split at h
    · rename_i ha
      obtain ⟨h1, h2⟩ := rdK_sim h
      exact ⟨by rw [h1, rdOk, ha]; rfl, h2⟩
    · rename_i ha
      split at h
      · cases h
      · rename_i oj hoj
        obtain ⟨v, m', h1, h2⟩ := exK_some h
        split at h2
        · rename_i hd
          obtain ⟨h3, h4⟩ := rdK_sim h2
          refine ⟨?_, h4⟩
          rw [h3, rdOk, ha, hoj]
          simp only [h1, hd, Bool.or_true, Bool.and_self, Bool.false_or]
        · rename_i d hd
          split at h2
          · rename_i u hu
            obtain ⟨h3, h4⟩ := beqK_some h2
            obtain ⟨h5, h6⟩ := rdK_sim h4
            refine ⟨?_, h6⟩
            rw [h5, rdOk, ha, hoj]
            simp only [h1, hd, hu, h3, Bool.or_true, Bool.and_self, Bool.false_or]
          · cases h2
theorem floatK_sim {op : Op} {P : Program} {ev : Operand → Option V} {κ : Option (TypeId × List V × FRef) → Option β} {b : β} (h : floatK op P ev κ = some b) : κ (floatV op P ev) = some b := by
  cases op <;> first
    | exact h
    | skip
  rename_i t x y
  obtain ⟨a, h1, h2⟩ := optK_some h
  obtain ⟨a2, h3, h4⟩ := optK_some h2
  obtain ⟨l, h5, h6⟩ := natK_some h4
  obtain ⟨c, h7, h8⟩ := natK_some h6
  split at h8
  · rename_i e hu
    split at h8
    · rename_i q zs ie hz hie
      obtain ⟨g1, g2⟩ := chkK_some h8
      obtain ⟨g3, g4⟩ := chkK_some g2
      obtain ⟨g5, g6⟩ := chkK_some g4
      have : floatV (.makeSlice t x y) P ev = some (e, repV zs c, .m l (c - l)) := by
        simp only [floatV, h1, h3, makeF, h5, h7, hu, hz, hie, g1, g3, g5, Bool.and_self]
      rw [this]
      exact g6
    · cases h8
  · cases h8
theorem goK_sim {q : Tmp → Bool} {S : EnvS} (hS : S.Ok) {N ops nt} {κ : DS → Option β} {b : β} : ∀ {l X s}, goK q S N ops nt l X s κ = some b → ∃ s', goD S.E N ops nt l X s = some s' ∧ κ s' = some b
  | [], X, s, h => by
    unfold goK at h
    unfold goD
    split at h
    · rename_i hr; simp only [hr]; exact ⟨s, rfl, h⟩
    · cases h
  | i :: l, X, s, h => by
    unfold goK at h
    unfold goD
    split at h
    · cases h
    · rename_i o ho
      simp only [ho]
      split at h
      · cases h
      · rename_i hr
        simp only [hr]
        split at h
        · rename_i hw
          simp only [hw]
          obtain ⟨s', h1, h2⟩ := optK_some h
          simp only [h1]
          exact goK_sim hS h2
        · rename_i hw
          simp only [hw]
          split at h
          · rename_i hb
            simp only [hb]
            obtain ⟨v, m', h1, h2⟩ := exK_some h
            rw [splitD_eq] at h2
            obtain ⟨tm, h3, h4⟩ := optK_some h2
            simp only [dSil, h1, h3]
            exact goK_sim hS h4
          · rename_i hb
            simp only [hb]
            have h := floatK_sim h
            split at h
            · rename_i hf
              simp only [hf]
              exact goK_sim hS h
            · rename_i hf
              simp only [hf]
              split at h
              · rename_i hone
                simp only [hone]
                obtain ⟨v, m1, h1, h2⟩ := actS_sim hS h
                rw [splitD_eq] at h2
                obtain ⟨tm, h3, h4⟩ := optK_some h2
                obtain ⟨h5, h6⟩ := rdK_sim h4
                simp only [dAct, h1, h3, h5]
                exact goK_sim hS h6
              · cases h
theorem drawK_sim {q : Tmp → Bool} {S : EnvS} (hS : S.Ok) {N ops nt tm m} {κ : Tr V → Mem → Option β} {b : β} (h : drawK q S N ops nt tm m κ = some b) : ∃ tm' m', drawF S.E N ops nt tm m = some (tm', m') ∧ κ tm' m' = some b := by
  unfold drawK at h
  unfold drawF
  split at h
  · cases h
  · rename_i hq
    obtain ⟨s, h1, h2⟩ := goK_sim hS h
    simp only [hq, h1]
    exact ⟨_, _, rfl, h2⟩
end
theorem envS_E (K : KTab) (q : FuncId → Tmp → Bool) (P : Program) (T : Tab) (N : Nat) : ∀ d, (envK K q P T N d).E = envD P T N d
  | 0 => rfl
  | _ + 1 => rfl
theorem envS_ok {K : KTab} {T : Tab} (hK : KOk K T) (q : FuncId → Tmp → Bool) (P : Program) (N : Nat) : ∀ d, (envK K q P T N d).Ok
  | 0 => ⟨hK, fun _ _ _ _ _ _ _ h => by cases h⟩
  | d + 1 => ⟨hK, fun q' ops nt tm m κ b h => by
    have := drawK_sim (envS_ok hK q P N d) h
    rw [envS_E] at this
    exact this⟩
/-- A call that the symbolic machine reckons. -/
theorem callS_ok {β : Type} {K : KTab} {q : FuncId → Tmp → Bool} {P : Program} {T : Tab} (hT : TabOk P T) (hK : KOk K T) (hmix : P.follows .mixedOrders = true) {N d n : Nat} {f : FuncId} {as : List V} {m : Mem} {fin : V → Mem → Option β} {b : β} (he : callS (envK K q P T N d) n f as m fin = some b) {F : Fx} {w0 w : World} {ρ : Rho} {xs : List Value}
    (hm : RM F w0 ρ m w) (hg : Glo T.g ρ) (ha : RelL ρ as xs) :
    Calls P f (List.toArray xs) w fun e w' => ∃ ρ' x v m', e = .returned x ∧ Ext ρ ρ' ∧ RelV ρ' v x ∧ RM F w0 ρ' m' w' ∧ fin v m' = some b := by
  obtain ⟨v, m', h1, h2⟩ := callS_sim (envS_ok hK q P N d) he
  rw [envS_E] at h1
  exact (callD_ok hT hmix h1 hm hg ha).mono fun e w' ⟨ρ', x, h3, h4, h5, h6⟩ => ⟨ρ', x, v, m', h3, h4, h5, h6, h2⟩
end Go.CE
end
/-
  SYMBOLIC EVALUATION, 3: typed results; a ground, wherever it lies.
-/
noncomputable section
namespace Go.CE
open Go Go.RowKit
set_option linter.unusedSimpArgs false
set_option linter.unusedVariables false

mutual
def V.flatB : V → Bool
  | .ptr _ _ => false
  | .pin _ _ => false
  | .sl _ _ _ _ => false
  | .mp _ => false
  | .yld _ => false
  | .fn _ fi ca => V.flatBs fi && V.flatBs ca
  | .ifc _ v => V.flatB v
  | .agg l => V.flatBs l
  | .tup l => V.flatBs l
  | _ => true
def V.flatBs : List V → Bool
  | [] => true
  | v :: vs => v.flatB && V.flatBs vs
end
mutual
theorem V.flat_rel {ρ ρ' : Rho} : ∀ (v : V) (x : Value), v.flatB = true → RelV ρ v x → RelV ρ' v x
  | .bool _, _, _, h => by rw [RelV] at h ⊢; exact h
  | .int _ _, _, _, h => by rw [RelV] at h ⊢; exact h
  | .str _, _, _, h => by rw [RelV] at h ⊢; exact h
  | .nilp, _, _, h => by rw [RelV] at h ⊢; exact h
  | .ptr _ _, _, h, _ => by rw [V.flatB] at h; cases h
  | .pin _ _, _, h, _ => by rw [V.flatB] at h; cases h
  | .nils, _, _, h => by rw [RelV] at h ⊢; exact h
  | .sl _ _ _ _, _, h, _ => by rw [V.flatB] at h; cases h
  | .nilm, _, _, h => by rw [RelV] at h ⊢; exact h
  | .mp _, _, h, _ => by rw [V.flatB] at h; cases h
  | .yld _, _, h, _ => by rw [V.flatB] at h; cases h
  | .fn f fi ca, _, hb, h => by
    rw [V.flatB, Bool.and_eq_true] at hb
    rw [RelV] at h ⊢
    obtain ⟨xs, ys, h1, h2, h3⟩ := h
    exact ⟨xs, ys, h1, V.flats_rel fi xs hb.1 h2, V.flats_rel ca ys hb.2 h3⟩
  | .nilf, _, _, h => by rw [RelV] at h ⊢; exact h
  | .nili, _, _, h => by rw [RelV] at h ⊢; exact h
  | .ifc t v, _, hb, h => by
    rw [RelV] at h ⊢
    obtain ⟨y, h1, h2⟩ := h
    exact ⟨y, h1, V.flat_rel v y (by rwa [V.flatB] at hb) h2⟩
  | .agg l, _, hb, h => by
    rw [RelV] at h ⊢
    obtain ⟨xs, h1, h2⟩ := h
    exact ⟨xs, h1, V.flats_rel l xs (by rwa [V.flatB] at hb) h2⟩
  | .tup l, _, hb, h => by
    rw [RelV] at h ⊢
    obtain ⟨xs, h1, h2⟩ := h
    exact ⟨xs, h1, V.flats_rel l xs (by rwa [V.flatB] at hb) h2⟩
theorem V.flats_rel {ρ ρ' : Rho} : ∀ (l : List V) (xs : List Value), V.flatBs l = true → RelL ρ l xs → RelL ρ' l xs
  | [], _, _, h => by rw [RelL] at h ⊢; exact h
  | v :: vs, _, hb, h => by
    rw [V.flatBs, Bool.and_eq_true] at hb
    rw [RelL] at h ⊢
    obtain ⟨x, ys, h1, h2, h3⟩ := h
    exact ⟨x, ys, h1, V.flat_rel v x hb.1 h2, V.flats_rel vs ys hb.2 h3⟩
end
/-! typed values that name no block -/
inductive Ty where
  | i (k : IntKind)
  | b
  | s
  | lit (v : V)
  | nil
  | cons (a l : Ty)
  | agg (l : Ty)
  | tup (l : Ty)
def Ty.T : Ty → Type
  | .i _ => Int
  | .b => Bool
  | .s => List UInt8
  | .lit _ => Unit
  | .nil => Unit
  | .cons a l => a.T × l.T
  | .agg l => l.T
  | .tup l => l.T
/-- A value that is told beforehand, where it names no block. -/
def flatV (v : V) : V := bif v.flatB then v else .nilp
mutual
def inT : (t : Ty) → t.T → V
  | .i k, x => .int k x
  | .b, x => .bool x
  | .s, x => .str x
  | .lit v, _ => flatV v
  | .agg l, x => .agg (inTs l x)
  | .tup l, x => .tup (inTs l x)
  | .nil, _ => .nilp
  | .cons _ _, _ => .nilp
def inTs : (t : Ty) → t.T → List V
  | .cons a l, x => inT a x.1 :: inTs l x.2
  | _, _ => []
end
def outInt (k : IntKind) (v : V) : Option Int := match v with
  | .int k' x => match decide (k' = k) with
    | true => some x
    | false => none
  | _ => none
def outBool (v : V) : Option Bool := match v with
  | .bool x => some x
  | _ => none
def outStr (v : V) : Option (List UInt8) := match v with
  | .str x => some x
  | _ => none
theorem outInt_in {k : IntKind} {v : V} {x : Int} (h : outInt k v = some x) : v = .int k x := by
  unfold outInt at h
  split at h
  · split at h
    · rename_i hk
      cases h
      rw [of_decide_eq_true hk]
    · cases h
  · cases h
theorem outBool_in {v : V} {x : Bool} (h : outBool v = some x) : v = .bool x := by
  unfold outBool at h
  split at h
  · cases h; rfl
  · cases h
theorem outStr_in {v : V} {x : List UInt8} (h : outStr v = some x) : v = .str x := by
  unfold outStr at h
  split at h
  · cases h; rfl
  · cases h
def outAgg {α : Type} (f : List V → Option α) (v : V) : Option α := match v with
  | .agg vs => f vs
  | _ => none
def outTup {α : Type} (f : List V → Option α) (v : V) : Option α := match v with
  | .tup vs => f vs
  | _ => none
theorem outAgg_in {α : Type} {f : List V → Option α} {v : V} {x : α} (h : outAgg f v = some x) : ∃ vs, v = .agg vs ∧ f vs = some x := by
  unfold outAgg at h
  split at h
  · exact ⟨_, rfl, h⟩
  · cases h
theorem outTup_in {α : Type} {f : List V → Option α} {v : V} {x : α} (h : outTup f v = some x) : ∃ vs, v = .tup vs ∧ f vs = some x := by
  unfold outTup at h
  split at h
  · exact ⟨_, rfl, h⟩
  · cases h
def outCons {α γ : Type} (f : V → Option α) (g : List V → Option γ) (vs : List V) : Option (α × γ) := match vs with
  | v :: vs => match f v with
    | some x => match g vs with
      | some xs => some (x, xs)
      | none => none
    | none => none
  | [] => none
theorem outCons_in {α γ : Type} {f : V → Option α} {g : List V → Option γ} {vs : List V} {x : α × γ} (h : outCons f g vs = some x) : ∃ u us, vs = u :: us ∧ f u = some x.1 ∧ g us = some x.2 := by
  unfold outCons at h
  split at h
  · split at h
    · rename_i y hy
      split at h
      · rename_i ys hys
        cases h
        exact ⟨_, _, rfl, hy, hys⟩
      · cases h
    · cases h
  · cases h
def outLit (u v : V) : Option Unit := match V.beq v (flatV u) with
  | true => some ()
  | false => none
theorem outLit_in {u v : V} {x : Unit} (h : outLit u v = some x) : v = flatV u := by
  unfold outLit at h
  split at h
  · rename_i hb; exact V.beq_eq _ _ hb
  · cases h
mutual
def outT : (t : Ty) → V → Option t.T
  | .i k, v => outInt k v
  | .b, v => outBool v
  | .s, v => outStr v
  | .lit u, v => outLit u v
  | .agg l, v => outAgg (outTs l) v
  | .tup l, v => outTup (outTs l) v
  | .nil, _ => none
  | .cons _ _, _ => none
def outTs : (t : Ty) → List V → Option t.T
  | .nil, vs => match vs with
    | [] => some ()
    | _ => none
  | .cons a l, vs => outCons (outT a) (outTs l) vs
  | .i _, _ => none
  | .b, _ => none
  | .s, _ => none
  | .lit _, _ => none
  | .agg _, _ => none
  | .tup _, _ => none
end
theorem outT_both (t : Ty) : (∀ (v : V) (x : t.T), outT t v = some x → v = inT t x) ∧ (∀ (vs : List V) (x : t.T), outTs t vs = some x → vs = inTs t x) := by
  induction t with
  | i k => exact ⟨fun v x h => outInt_in h, fun vs x h => nomatch h⟩
  | b => exact ⟨fun v x h => outBool_in h, fun vs x h => nomatch h⟩
  | s => exact ⟨fun v x h => outStr_in h, fun vs x h => nomatch h⟩
  | lit u => exact ⟨fun v x h => outLit_in h, fun vs x h => nomatch h⟩
  | nil =>
    refine ⟨fun v x h => (nomatch h), fun vs x h => ?_⟩
    cases vs with
    | nil => rfl
    | cons v vs => cases h
  | cons a l ha hl =>
    refine ⟨fun v x h => (nomatch h), fun vs x h => ?_⟩
    obtain ⟨u, us, h1, h2, h3⟩ := outCons_in (f := outT a) (g := outTs l) h
    rw [h1, ha.1 u _ h2, hl.2 us _ h3]; rfl
  | agg l hl =>
    refine ⟨fun v x h => ?_, fun vs x h => nomatch h⟩
    obtain ⟨vs, h1, h2⟩ := outAgg_in (f := outTs l) h
    rw [h1, hl.2 vs _ h2]; rfl
  | tup l hl =>
    refine ⟨fun v x h => ?_, fun vs x h => nomatch h⟩
    obtain ⟨vs, h1, h2⟩ := outTup_in (f := outTs l) h
    rw [h1, hl.2 vs _ h2]; rfl
theorem outT_in (t : Ty) (v : V) (x : t.T) (h : outT t v = some x) : v = inT t x := (outT_both t).1 v x h
theorem outTs_in (t : Ty) (vs : List V) (x : t.T) (h : outTs t vs = some x) : vs = inTs t x := (outT_both t).2 vs x h
theorem inT_both {ρ ρ' : Rho} (t : Ty) : (∀ (x : t.T) (y : Value), RelV ρ (inT t x) y → RelV ρ' (inT t x) y) ∧ (∀ (x : t.T) (ys : List Value), RelL ρ (inTs t x) ys → RelL ρ' (inTs t x) ys) := by
  have hn : ∀ ys, RelL ρ ([] : List V) ys → RelL ρ' ([] : List V) ys := fun ys h => by rw [RelL] at h ⊢; exact h
  have hp : ∀ y, RelV ρ V.nilp y → RelV ρ' V.nilp y := fun ys h => by rw [RelV] at h ⊢; exact h
  induction t with
  | i k => exact ⟨fun x y h => V.flat_rel (V.int k x) y rfl h, fun x ys h => hn ys h⟩
  | b => exact ⟨fun x y h => V.flat_rel (V.bool x) y rfl h, fun x ys h => hn ys h⟩
  | s => exact ⟨fun x y h => V.flat_rel (V.str x) y rfl h, fun x ys h => hn ys h⟩
  | lit u =>
    refine ⟨fun x y h => ?_, fun x ys h => hn ys h⟩
    have h : RelV ρ (flatV u) y := h
    show RelV ρ' (flatV u) y
    refine V.flat_rel _ y ?_ h
    unfold flatV
    cases hu : u.flatB with
    | true => exact hu
    | false => rfl
  | nil => exact ⟨fun x y h => hp y h, fun x ys h => hn ys h⟩
  | cons a l ha hl =>
    refine ⟨fun x y h => hp y h, fun x ys h => ?_⟩
    have h : RelL ρ (inT a x.1 :: inTs l x.2) ys := h
    show RelL ρ' (inT a x.1 :: inTs l x.2) ys
    rw [RelL] at h ⊢
    obtain ⟨y, zs, h1, h2, h3⟩ := h
    exact ⟨y, zs, h1, ha.1 _ _ h2, hl.2 _ _ h3⟩
  | agg l hl =>
    refine ⟨fun x y h => ?_, fun x ys h => hn ys h⟩
    have h : RelV ρ (V.agg (inTs l x)) y := h
    show RelV ρ' (V.agg (inTs l x)) y
    rw [RelV] at h ⊢
    obtain ⟨xs, h1, h2⟩ := h
    exact ⟨xs, h1, hl.2 x xs h2⟩
  | tup l hl =>
    refine ⟨fun x y h => ?_, fun x ys h => hn ys h⟩
    have h : RelV ρ (V.tup (inTs l x)) y := h
    show RelV ρ' (V.tup (inTs l x)) y
    rw [RelV] at h ⊢
    obtain ⟨xs, h1, h2⟩ := h
    exact ⟨xs, h1, hl.2 x xs h2⟩
theorem inT_flat {ρ ρ' : Rho} (t : Ty) (x : t.T) (y : Value) (h : RelV ρ (inT t x) y) : RelV ρ' (inT t x) y := (inT_both t).1 x y h
theorem inTs_flat {ρ ρ' : Rho} (t : Ty) (x : t.T) (ys : List Value) (h : RelL ρ (inTs t x) ys) : RelL ρ' (inTs t x) ys := (inT_both t).2 x ys h

/-! entries of a table, and when they are right -/
def SumOk (P : Program) (G : Nat) (f : FuncId) (e : List V → Mem → Option (V × Mem)) : Prop := ∀ as m v m', e as m = some (v, m') → (∃ fn c, P.funcs[f]? = some fn ∧ fn.body = some c) ∧ ∀ F w0 ρ w xs, RM F w0 ρ m w → Glo G ρ → RelL ρ as xs →
    Calls P f (List.toArray xs) w fun e w' => ∃ ρ' x, e = .returned x ∧ Ext ρ ρ' ∧ RelV ρ' v x ∧ RM F w0 ρ' m' w'
def Tab.add (T : Tab) (f : FuncId) (e : List V → Mem → Option (V × Mem)) : Tab := ⟨T.g, T.ext, fun g => bif Nat.beq g f then some e else T.sum g⟩
theorem TabOk.add {P : Program} {T : Tab} (hT : TabOk P T) {f : FuncId} {e : List V → Mem → Option (V × Mem)} (he : SumOk P T.g f e) : TabOk P (T.add f e) where
  ng := hT.ng
  ext := hT.ext
  sum := fun g e' as m v m' h1 h2 => by
    have h1 : (bif Nat.beq g f then some e else T.sum g) = some e' := h1
    cases hb : Nat.beq g f with
    | true =>
      rw [hb] at h1
      cases h1
      obtain rfl := Nat.eq_of_beq_eq_true hb
      exact he as m v m' h2
    | false =>
      rw [hb] at h1
      exact hT.sum g e' as m v m' h1 h2
theorem RM.later {F : Fx} {w0 w w' : World} {ρ : Rho} {m : Mem} (h : RM F w0 ρ m w) (hb : Below w.heap.size w w') : RM F w0 ρ m w' :=
  ⟨fun i b hi => by
    obtain ⟨r, c, h1, h2⟩ := h.blk i b hi
    exact ⟨r, c, h1, h2.move (Ext.refl ρ) (hb.block r h2.lt)⟩, h.inj, h.fresh, h.fn, h.gsz, Nat.le_trans h.size hb.size, fun k hk => (hb.block k (by have := h.fn k hk; have := h.size; omega)).trans (h.keep k hk), hb.os.trans h.os, hb.tape.trans h.tape, hb.output.trans h.output⟩
/-- The package variables that are asked for hold what is asked. -/
def valsB (cs : Tr V) : Nat → List V → Bool
  | _, [] => true
  | i, v :: vs => (match cs.get i with
    | some u => V.beq u v
    | none => false) && valsB cs (Nat.succ i) vs
def glB (m : Mem) : List (Nat × List V) → Bool
  | [] => true
  | (g, vs) :: l => (match m.t.get g with
    | some (.row false _ _ cs) => valsB cs 0 vs
    | _ => false) && glB m l
def tyAt (m : Mem) (g : Nat) : TypeId := match m.t.get g with
  | some (.row _ t _ _) => t
  | _ => 0
def szAt (m : Mem) (g : Nat) : Nat := match m.t.get g with
  | some (.row _ _ n _) => n
  | _ => 0
def glRows (tt : Nat → TypeId) (nn : Nat → Nat) : List (Nat × List V) → List (Nat × TypeId × Nat × List V)
  | [] => []
  | (g, vs) :: l => (g, tt g, nn g, vs) :: glRows tt nn l
theorem valsB_get {cs : Tr V} : ∀ {vs : List V} {i : Nat}, valsB cs i vs = true → ∀ j v, vs[j]? = some v → cs.get (i + j) = some v
  | [], _, _, j, v, h => by simp at h
  | u :: us, i, h, j, v, hj => by
    rw [valsB, Bool.and_eq_true] at h
    cases j with
    | zero =>
      simp at hj; subst hj
      obtain ⟨h1, _⟩ := h
      split at h1
      · rename_i x hx; rw [Nat.add_zero, hx, V.beq_eq _ _ h1]
      · cases h1
    | succ j =>
      rw [List.getElem?_cons_succ] at hj
      rw [show i + (j + 1) = (i + 1) + j by omega]
      exact valsB_get h.2 j v hj
theorem glB_get {m : Mem} : ∀ {l : List (Nat × List V)}, glB m l = true → ∀ {g t n vs}, (g, t, n, vs) ∈ glRows (tyAt m) (szAt m) l → ∃ cs, m.t.get g = some (.row false t n cs) ∧ ∀ i v, vs[i]? = some v → cs.get i = some v
  | [], _, _, _, _, _, h => by cases h
  | (g', vs') :: l, hb, g, t, n, vs, h => by
    rw [glB, Bool.and_eq_true] at hb
    rw [glRows, List.mem_cons] at h
    rcases h with h | h
    · cases h
      obtain ⟨h1, _⟩ := hb
      split at h1
      · rename_i t n cs hc
        refine ⟨cs, by rw [hc]; simp only [tyAt, szAt, hc], fun i v hv => ?_⟩
        have := valsB_get h1 i v hv
        rwa [Nat.zero_add] at this
      · cases h1
    · exact glB_get hb.2 h
theorem glRows_mem {tt : Nat → TypeId} {nn : Nat → Nat} : ∀ {l : List (Nat × List V)} {g t n vs}, (g, t, n, vs) ∈ glRows tt nn l → (g, vs) ∈ l
  | [], _, _, _, _, h => by cases h
  | (g', vs') :: l, g, t, n, vs, h => by
    rw [glRows, List.mem_cons] at h
    rcases h with h | h
    · cases h; exact .head _
    · exact .tail _ (glRows_mem h)
def glFine (G : Nat) : List (Nat × List V) → Bool
  | [] => true
  | (g, vs) :: l => Nat.blt g G && (V.flatBs vs && glFine G l)
theorem glFine_mem {G : Nat} : ∀ {l : List (Nat × List V)}, glFine G l = true → ∀ {g vs}, (g, vs) ∈ l → g < G ∧ V.flatBs vs = true
  | [], _, _, _, h => by cases h
  | (g', vs') :: l, hb, g, vs, h => by
    rw [glFine, Bool.and_eq_true, Bool.and_eq_true] at hb
    rcases List.mem_cons.1 h with h | h
    · cases h; exact ⟨blt_lt hb.1, hb.2.1⟩
    · exact glFine_mem hb.2.2 h
theorem flatBs_get : ∀ {l : List V}, V.flatBs l = true → ∀ {i : Nat} {v : V}, l[i]? = some v → v.flatB = true
  | [], _, i, v, h => by simp at h
  | u :: us, hb, i, v, h => by
    rw [V.flatBs, Bool.and_eq_true] at hb
    cases i with
    | zero => simp at h; subst h; exact hb.1
    | succ i => rw [List.getElem?_cons_succ] at h; exact flatBs_get hb.2 h
theorem gl_holds {F : Fx} {w0 w : World} {ρ : Rho} {m : Mem} {G : Nat} {gl : List (Nat × List V)} (hm : RM F w0 ρ m w) (hg : Glo G ρ) (hf : glFine G gl = true) (hb : glB m gl = true) :
    ∀ g t n vs, (g, t, n, vs) ∈ glRows (tyAt m) (szAt m) gl → (g < G ∧ g < F.g) ∧ Holds w g t n vs := fun g t n vs h => by
  obtain ⟨h1, h2⟩ := glFine_mem hf (glRows_mem h)
  obtain ⟨cs, h3, h4⟩ := glB_get hb h
  obtain ⟨c, hc⟩ := hg g h1
  obtain ⟨_, k0, xs, fr, k1, k2, k3, _⟩ := hm.at h3 hc
  refine ⟨⟨h1, k0 rfl⟩, xs, fr, k1, k2, fun i v hv => ?_⟩
  obtain ⟨x, k4, k5⟩ := k3 i v (h4 i v hv)
  exact ⟨x, k4, V.flat_rel v x (flatBs_get h2 hv) k5⟩
def Fx.upto (g0 : Nat) (w : World) : Fx := ⟨fun k => k < w.heap.size, g0⟩
theorem memG_rm2 {G g0 : Nat} {l : List (Nat × TypeId × Nat × List V)} {w : World} (hG : g0 ≤ w.heap.size) (hl : ∀ g t n vs, (g, t, n, vs) ∈ l → (g < G ∧ g < g0) ∧ Holds w g t n vs) : RM (Fx.upto g0 w) w (rho0 G) (memG G l) w := by
  have z : ∀ i p, rho0 0 i = some p → rho0 G i = some p := fun i p h => by
    have h : (if i < 0 then some (i, 0) else none) = some p := h
    rw [if_neg (by omega)] at h; cases h
  refine ⟨fun i b hb => ?_, fun i j bi bj r c c' _ _ hi hj => ?_, fun i hi => ⟨?_, fun h => h⟩, fun k h => h, hG, Nat.le_refl _, fun _ _ => rfl, rfl, rfl, rfl⟩
  · obtain ⟨t, n, vs, h1, rfl⟩ := rowsAt_get hb
    obtain ⟨⟨h2, h2'⟩, xs, fr, h3, h4, h5⟩ := hl i t n vs h1
    refine ⟨i, 0, if_pos h2, fun h => (by cases h), fun _ => h2', xs, fr, h3, h4, fun j v hv => ?_, fun h => (by cases h)⟩
    rw [Tr.get_fill] at hv
    split at hv
    · rw [Nat.sub_zero] at hv
      obtain ⟨x, k1, k2⟩ := h5 j v hv
      exact ⟨x, k1, RelV.monoF z _ _ k2⟩
    · rw [Tr.get_nil] at hv; cases hv
  · have hi : (if i < G then some (i, 0) else none) = some (r, c) := hi
    have hj : (if j < G then some (j, 0) else none) = some (r, c') := hj
    split at hi
    · split at hj
      · cases hi; cases hj; rfl
      · cases hj
    · cases hi
  · have hi : G ≤ i := hi
    show (if i < G then some (i, 0) else none) = none
    rw [if_neg (by omega)]
theorem RM.below2 {g0 : Nat} {w w' : World} {ρ : Rho} {m : Mem} (h : RM (Fx.upto g0 w) w ρ m w') : Below w.heap.size w w' := ⟨h.os, h.tape, h.output, h.size, fun k hk => h.keep k hk⟩
/-- A function of plain values, that may look at package variables. -/
def pureE (gl : List (Nat × List V)) (A R : Ty) (d : A.T → R.T) : List V → Mem → Option (V × Mem) := fun as m => match outTs A as with
  | some a => match glB m gl with
    | true => some (inT R (d a), m)
    | false => none
  | none => none
theorem pure_ok {K : KTab} {q : FuncId → Tmp → Bool} {P : Program} {T : Tab} (hT : TabOk P T) (hK : KOk K T) (hmix : P.follows .mixedOrders = true) {f : FuncId} {gl : List (Nat × List V)} {A R : Ty} {d : A.T → R.T} {N D n : Nat} (hfn : ∃ fn c, P.funcs[f]? = some fn ∧ fn.body = some c) (hgl : glFine T.g gl = true)
    (h : ∀ tt nn a, callS (envK K q P T N D) n f (inTs A a) (memG T.g (glRows tt nn gl)) (fun v _ => outT R v) = some (d a)) : SumOk P T.g f (pureE gl A R d) := fun as m v m' he => by
  refine ⟨hfn, fun F w0 ρ w xs hm hg ha => ?_⟩
  unfold pureE at he
  split at he
  · rename_i a hA
    split at he
    · rename_i hb
      cases he
      have hA := outTs_in A as a hA
      subst hA
      have hrm := memG_rm2 (G := T.g) (g0 := F.g) (l := glRows (tyAt m) (szAt m) gl) (w := w) (Nat.le_trans hm.gsz hm.size) (gl_holds hm hg hgl hb)
      refine (callS_ok hT hK hmix (h (tyAt m) (szAt m) a) hrm (fun g hg => ⟨0, if_pos hg⟩) (inTs_flat A a xs ha)).mono fun e w' ⟨ρ', x, v, m', h1, h2, h3, h4, h5⟩ => ?_
      have h5 := outT_in R v _ h5
      subst h5
      exact ⟨ρ, x, h1, Ext.refl ρ, inT_flat R _ x h3, hm.later h4.below2⟩
    · cases he
  · cases he

end Go.CE
end
/-
  SYMBOLIC EVALUATION, 4: a ground, wherever it lies.
-/
noncomputable section
namespace Go.CE
open Go
set_option linter.unusedSimpArgs false
set_option linter.unusedVariables false

/-! a ground -/
structure GS where
  N : Int
  W : Int
  R : Int
  K : Int
  mt : Int
  n : Nat
  nb : Nat
  ws : Tr Int
  tg : TypeId
  ts : TypeId
def GS.upd (s : GS) (mt : Int) (ws : Tr Int) : GS := ⟨s.N, s.W, s.R, s.K, mt, s.n, s.nb, ws, s.tg, s.ts⟩
def gRow (s : GS) (q : Nat) : Blk := .row true s.tg 5 (Tr.fill [.ptr q 0, .int .i64 s.N, .int .i64 s.W, .int .i64 s.R, .int .i64 s.K] 0 .nil)
def sRow (s : GS) (a : Nat) : Blk := .row true s.ts 2 (Tr.fill [.sl a 0 s.n (.mi 0), .int .u64 s.mt] 0 .nil)
def wRow (s : GS) : Blk := .ints .u32 s.nb s.ws
def small (G : Nat) (l : List (Nat × TypeId × Nat × List V)) (s : GS) : Mem := ⟨G + 3, (((rowsAt l).set G (gRow s (G + 1))).set (G + 1) (sRow s (G + 2))).set (G + 2) (wRow s)⟩
def gsOf3 (tg : TypeId) (N W R K : Int) (q : Nat) (ts : TypeId) (a n : Nat) (mt : Int) : Option Blk → Option (GS × Nat × Nat)
  | some (.ints .u32 nb ws) => some (⟨N, W, R, K, mt, n, nb, ws, tg, ts⟩, q, a)
  | _ => none
def gsOf2 (m : Mem) (tg : TypeId) (N W R K : Int) (q : Nat) : Option Blk → Option (GS × Nat × Nat)
  | some (.row true ts k cs) => match Nat.beq k 2 with
    | true => match cs.get 0, cs.get 1 with
      | some (.sl a o n (.mi z)), some (.int .u64 mt) => match Nat.beq o 0 && Nat.beq z 0 with
        | true => gsOf3 tg N W R K q ts a n mt (m.t.get a)
        | false => none
      | _, _ => none
    | false => none
  | _ => none
def gsOf1 (m : Mem) : Option Blk → Option (GS × Nat × Nat)
  | some (.row true tg k cs) => match Nat.beq k 5 with
    | true => match cs.get 0, cs.get 1, cs.get 2, cs.get 3, cs.get 4 with
      | some (.ptr q o), some (.int .i64 N), some (.int .i64 W), some (.int .i64 R), some (.int .i64 K) => match Nat.beq o 0 with
        | true => gsOf2 m tg N W R K q (m.t.get q)
        | false => none
      | _, _, _, _, _ => none
    | false => none
  | _ => none
/-- The ground that lies at p, with the blocks of its store and of its words. -/
def gsOf (m : Mem) (p : Nat) : Option (GS × Nat × Nat) := gsOf1 m (m.t.get p)
def putG (m : Mem) (p q a : Nat) (s : GS) : Mem := ⟨m.nx, ((m.t.set p (gRow s q)).set q (sRow s a)).set a (wRow s)⟩

structure At (m : Mem) (p q a : Nat) (s : GS) : Prop where
  pg : ∃ cs, m.t.get p = some (.row true s.tg 5 cs) ∧ cs.get 0 = some (.ptr q 0) ∧ cs.get 1 = some (.int .i64 s.N) ∧ cs.get 2 = some (.int .i64 s.W) ∧ cs.get 3 = some (.int .i64 s.R) ∧ cs.get 4 = some (.int .i64 s.K)
  pq : ∃ cs, m.t.get q = some (.row true s.ts 2 cs) ∧ cs.get 0 = some (.sl a 0 s.n (.mi 0)) ∧ cs.get 1 = some (.int .u64 s.mt)
  pa : m.t.get a = some (.ints .u32 s.nb s.ws)
theorem gsOf_at {m : Mem} {p q a : Nat} {s : GS} (h : gsOf m p = some (s, q, a)) : At m p q a s := by
  unfold gsOf gsOf1 at h
  split at h
  · rename_i tg k cs hp
    split at h
    · rename_i hk
      obtain rfl := Nat.eq_of_beq_eq_true hk
      split at h
      · rename_i q' o N W R K e0 e1 e2 e3 e4
        split at h
        · rename_i ho
          obtain rfl := Nat.eq_of_beq_eq_true ho
          unfold gsOf2 at h
          split at h
          · rename_i ts k' ds hq
            split at h
            · rename_i hk'
              obtain rfl := Nat.eq_of_beq_eq_true hk'
              split at h
              · rename_i a' o' n z mt d0 d1
                split at h
                · rename_i ho'
                  rw [Bool.and_eq_true] at ho'
                  obtain rfl := Nat.eq_of_beq_eq_true ho'.1
                  obtain rfl := Nat.eq_of_beq_eq_true ho'.2
                  unfold gsOf3 at h
                  split at h
                  · rename_i nb ws ha
                    cases h
                    exact ⟨⟨cs, hp, e0, e1, e2, e3, e4⟩, ⟨ds, hq, d0, d1⟩, ha⟩
                  · cases h
                · cases h
              · cases h
            · cases h
          · cases h
        · cases h
      · cases h
    · cases h
  · cases h
theorem At.ne {m : Mem} {p q a : Nat} {s : GS} (h : At m p q a s) : p ≠ q ∧ p ≠ a ∧ q ≠ a := by
  obtain ⟨⟨c1, h1, _⟩, ⟨c2, h2, _⟩, h3⟩ := h
  refine ⟨fun e => ?_, fun e => ?_, fun e => ?_⟩
  · subst e; rw [h1] at h2; injection h2 with h2; injection h2; omega
  · subst e; rw [h1] at h3; injection h3 with h3; cases h3
  · subst e; rw [h2] at h3; injection h3 with h3; cases h3
theorem fill5 {a b c d e : V} : (Tr.fill [a, b, c, d, e] 0 .nil).get 0 = some a ∧ (Tr.fill [a, b, c, d, e] 0 .nil).get 1 = some b ∧ (Tr.fill [a, b, c, d, e] 0 .nil).get 2 = some c ∧ (Tr.fill [a, b, c, d, e] 0 .nil).get 3 = some d ∧ (Tr.fill [a, b, c, d, e] 0 .nil).get 4 = some e := by
  simp [Tr.get_fill]
theorem fill2 {a b : V} : (Tr.fill [a, b] 0 .nil).get 0 = some a ∧ (Tr.fill [a, b] 0 .nil).get 1 = some b := by
  simp [Tr.get_fill]
theorem fill_inv {l : List V} {i : Nat} {v : V} (h : (Tr.fill l 0 .nil).get i = some v) : l[i]? = some v := by
  rw [Tr.get_fill] at h
  split at h
  · simpa using h
  · rw [Tr.get_nil] at h; cases h

/-- Where the blocks of the small memory lie. -/
def rhoS (ρ : Rho) (G p q a : Nat) : Rho := ⟨fun i => if i < G then ρ i else if i = G then ρ p else if i = G + 1 then ρ q else if i = G + 2 then ρ a else none, fun _ => False, fun _ h => h.elim⟩
theorem rhoS_lt {ρ : Rho} {G p q a i : Nat} (h : i < G) : rhoS ρ G p q a i = ρ i := if_pos h
theorem rhoS_p {ρ : Rho} {G p q a : Nat} : rhoS ρ G p q a G = ρ p := by
  show (if G < G then _ else _) = _
  rw [if_neg (by omega), if_pos rfl]
theorem rhoS_q {ρ : Rho} {G p q a : Nat} : rhoS ρ G p q a (G + 1) = ρ q := by
  show (if G + 1 < G then _ else _) = _
  rw [if_neg (by omega), if_neg (by omega), if_pos rfl]
theorem rhoS_a {ρ : Rho} {G p q a : Nat} : rhoS ρ G p q a (G + 2) = ρ a := by
  show (if G + 2 < G then _ else _) = _
  rw [if_neg (by omega), if_neg (by omega), if_neg (by omega), if_pos rfl]
def Fs (F : Fx) (w : World) (rp rq ra : Nat) : Fx := ⟨fun k => k < w.heap.size ∧ k ≠ rp ∧ k ≠ rq ∧ k ≠ ra, F.g⟩
theorem small_get {G : Nat} {l : List (Nat × TypeId × Nat × List V)} {s : GS} {i : Nat} {b : Blk} (h : (small G l s).t.get i = some b) :
    (i = G ∧ b = gRow s (G + 1)) ∨ (i = G + 1 ∧ b = sRow s (G + 2)) ∨ (i = G + 2 ∧ b = wRow s) ∨ (∃ t n vs, (i, t, n, vs) ∈ l ∧ b = .row false t n (Tr.fill vs 0 .nil)) := by
  unfold small at h
  simp only [Tr.get_set] at h
  split at h
  · rename_i e; cases h; exact .inr (.inr (.inl ⟨e, rfl⟩))
  · split at h
    · rename_i e; cases h; exact .inr (.inl ⟨e, rfl⟩)
    · split at h
      · rename_i e; cases h; exact .inl ⟨e, rfl⟩
      · obtain ⟨t, n, vs, h1, h2⟩ := rowsAt_get h
        exact .inr (.inr (.inr ⟨t, n, vs, h1, h2⟩))
theorem int_flat {ρ ρ' : Rho} {k : IntKind} {n : Int} {x : Value} (h : RelV ρ (.int k n) x) : RelV ρ' (.int k n) x := by rw [RelV] at h ⊢; exact h
theorem ptr_at {ρ ρ' : Rho} {i j o : Nat} {x : Value} {r c : Nat} (h : RelV ρ (.ptr i o) x) (h1 : ρ i = some (r, c)) (h2 : ρ' j = some (r, c)) : RelV ρ' (.ptr j o) x := by
  rw [RelV] at h ⊢
  obtain ⟨r', c', k1, k2⟩ := h
  rw [h1] at k1; cases k1
  exact ⟨r, c, h2, k2⟩
theorem sl_at {ρ ρ' : Rho} {i j o n : Nat} {cp : Cap} {x : Value} {r c : Nat} (h : RelV ρ (.sl i o n cp) x) (h1 : ρ i = some (r, c)) (h2 : ρ' j = some (r, c)) : RelV ρ' (.sl j o n cp) x := by
  rw [RelV] at h ⊢
  obtain ⟨r', c', k1, k2⟩ := h
  rw [h1] at k1; cases k1
  exact ⟨r, c, h2, k2⟩
theorem cells_fill {ρ : Rho} {xs : Array Value} {l : List V} (h : ∀ (i : Nat) (v : V), l[i]? = some v → ∃ x, xs[i]? = some x ∧ RelV ρ v x) : Cells ρ (Tr.fill l 0 .nil) xs := fun i v hv => h i v (fill_inv hv)
theorem gRow_rel {F F' : Fx} {ρ ρ' : Rho} {w : World} {r c q q' rq cq : Nat} {s : GS} {cs : Tr V} (hb : BlkRel F ρ w r c (.row true s.tg 5 cs)) (e0 : cs.get 0 = some (.ptr q 0)) (e1 : cs.get 1 = some (.int .i64 s.N)) (e2 : cs.get 2 = some (.int .i64 s.W)) (e3 : cs.get 3 = some (.int .i64 s.R)) (e4 : cs.get 4 = some (.int .i64 s.K))
    (hq : ρ q = some (rq, cq)) (hq' : ρ' q' = some (rq, cq)) (hF : ¬ F'.k r ∧ F'.g ≤ r) : BlkRel F' ρ' w r c (gRow s q') := by
  obtain ⟨_, _, xs, fr, h1, h2, h3, h4⟩ := hb
  refine ⟨fun _ => hF, fun h => (nomatch h), xs, fr, h1, h2, cells_fill fun i v hv => ?_, h4⟩
  match i, hv with
  | 0, hv => cases hv; obtain ⟨x, k1, k2⟩ := h3 _ _ e0; exact ⟨x, k1, ptr_at k2 hq hq'⟩
  | 1, hv => cases hv; obtain ⟨x, k1, k2⟩ := h3 _ _ e1; exact ⟨x, k1, int_flat k2⟩
  | 2, hv => cases hv; obtain ⟨x, k1, k2⟩ := h3 _ _ e2; exact ⟨x, k1, int_flat k2⟩
  | 3, hv => cases hv; obtain ⟨x, k1, k2⟩ := h3 _ _ e3; exact ⟨x, k1, int_flat k2⟩
  | 4, hv => cases hv; obtain ⟨x, k1, k2⟩ := h3 _ _ e4; exact ⟨x, k1, int_flat k2⟩
  | i + 5, hv => simp at hv
theorem sRow_rel {F F' : Fx} {ρ ρ' : Rho} {w : World} {r c a a' ra ca : Nat} {s : GS} {cs : Tr V} (hb : BlkRel F ρ w r c (.row true s.ts 2 cs)) (e0 : cs.get 0 = some (.sl a 0 s.n (.mi 0))) (e1 : cs.get 1 = some (.int .u64 s.mt))
    (ha : ρ a = some (ra, ca)) (ha' : ρ' a' = some (ra, ca)) (hF : ¬ F'.k r ∧ F'.g ≤ r) : BlkRel F' ρ' w r c (sRow s a') := by
  obtain ⟨_, _, xs, fr, h1, h2, h3, h4⟩ := hb
  refine ⟨fun _ => hF, fun h => (nomatch h), xs, fr, h1, h2, cells_fill fun i v hv => ?_, h4⟩
  match i, hv with
  | 0, hv => cases hv; obtain ⟨x, k1, k2⟩ := h3 _ _ e0; exact ⟨x, k1, sl_at k2 ha ha'⟩
  | 1, hv => cases hv; obtain ⟨x, k1, k2⟩ := h3 _ _ e1; exact ⟨x, k1, int_flat k2⟩
  | i + 2, hv => simp at hv
theorem small_rm {F : Fx} {w0 w : World} {ρ : Rho} {m : Mem} {G p q a : Nat} {s : GS} {gl : List (Nat × List V)} (hm : RM F w0 ρ m w) (hg : Glo G ρ) (hAt : At m p q a s)
    (hf : glFine G gl = true) (hb : glB m gl = true) {rp cp rq cq ra ca : Nat} (hp : ρ p = some (rp, cp)) (hq : ρ q = some (rq, cq)) (ha : ρ a = some (ra, ca)) :
    RM (Fs F w rp rq ra) w (rhoS ρ G p q a) (small G (glRows (tyAt m) (szAt m) gl) s) w := by
  obtain ⟨npq, npa, nqa⟩ := hAt.ne
  obtain ⟨⟨c1, g1, g10, g11, g12, g13, g14⟩, ⟨c2, g2, g20, g21⟩, g3⟩ := hAt
  have bp := hm.at g1 hp
  have bq := hm.at g2 hq
  have ba := hm.at g3 ha
  have lp := bp.lt
  have lq := bq.lt
  have la := ba.lt
  have gp : F.g ≤ rp := (bp.1 rfl).2
  have gq : F.g ≤ rq := (bq.1 rfl).2
  have ga : F.g ≤ ra := ba.1.2
  have dpq : rp ≠ rq := fun e => npq (hm.inj p q _ _ rp cp cq g1 g2 hp (by rw [e]; exact hq))
  have dpa : rp ≠ ra := fun e => npa (hm.inj p a _ _ rp cp ca g1 g3 hp (by rw [e]; exact ha))
  have dqa : rq ≠ ra := fun e => nqa (hm.inj q a _ _ rq cq ca g2 g3 hq (by rw [e]; exact ha))
  have nk : ∀ {r}, r = rp ∨ r = rq ∨ r = ra → ¬ (Fs F w rp rq ra).k r := fun {r} h hh => by
    obtain ⟨_, h1, h2, h3⟩ := hh
    rcases h with h | h | h
    · exact h1 h
    · exact h2 h
    · exact h3 h
  have hgl := gl_holds hm hg hf hb
  have glo : ∀ {i : Nat} {t : TypeId} {n : Nat} {vs : List V}, (i, t, n, vs) ∈ glRows (tyAt m) (szAt m) gl → i < G ∧ ∃ c, rhoS ρ G p q a i = some (i, c) ∧ i < F.g := fun {i t n vs} h => by
    obtain ⟨⟨h1, h2⟩, _⟩ := hgl _ _ _ _ h
    obtain ⟨c, hc⟩ := hg i h1
    exact ⟨h1, c, by rw [rhoS_lt h1]; exact hc, h2⟩
  -- where each block lies
  have loc : ∀ {i b}, (small G (glRows (tyAt m) (szAt m) gl) s).t.get i = some b → ∃ r c, rhoS ρ G p q a i = some (r, c) ∧ ((i = G ∧ r = rp) ∨ (i = G + 1 ∧ r = rq) ∨ (i = G + 2 ∧ r = ra) ∨ (i < G ∧ r = i ∧ r < F.g)) := fun {i b} h => by
    rcases small_get h with ⟨rfl, _⟩ | ⟨rfl, _⟩ | ⟨rfl, _⟩ | ⟨t, n, vs, h1, _⟩
    · exact ⟨rp, cp, by rw [rhoS_p]; exact hp, .inl ⟨rfl, rfl⟩⟩
    · exact ⟨rq, cq, by rw [rhoS_q]; exact hq, .inr (.inl ⟨rfl, rfl⟩)⟩
    · exact ⟨ra, ca, by rw [rhoS_a]; exact ha, .inr (.inr (.inl ⟨rfl, rfl⟩))⟩
    · obtain ⟨k1, c, k2, k3⟩ := glo h1
      exact ⟨i, c, k2, .inr (.inr (.inr ⟨k1, rfl, k3⟩))⟩
  refine ⟨fun i b h => ?_, fun i j bi bj r c c' hi hj hri hrj => ?_, fun i hi => ⟨?_, fun h => h⟩, fun k h => h.1, Nat.le_trans hm.gsz hm.size, Nat.le_refl _, fun _ _ => rfl, rfl, rfl, rfl⟩
  · rcases small_get h with ⟨rfl, rfl⟩ | ⟨rfl, rfl⟩ | ⟨rfl, rfl⟩ | ⟨t, n, vs, h1, rfl⟩
    · exact ⟨rp, cp, by rw [rhoS_p]; exact hp, gRow_rel bp g10 g11 g12 g13 g14 hq (by rw [rhoS_q]; exact hq) ⟨nk (.inl rfl), gp⟩⟩
    · exact ⟨rq, cq, by rw [rhoS_q]; exact hq, sRow_rel bq g20 g21 ha (by rw [rhoS_a]; exact ha) ⟨nk (.inr (.inl rfl)), gq⟩⟩
    · refine ⟨ra, ca, by rw [rhoS_a]; exact ha, ?_⟩
      obtain ⟨_, rest⟩ := ba
      exact ⟨⟨nk (.inr (.inr rfl)), ga⟩, rest⟩
    · obtain ⟨_, c, k2, k3⟩ := glo h1
      obtain ⟨_, xs, fr, h3, h4, h5⟩ := hgl _ _ _ _ h1
      refine ⟨i, c, k2, fun h => (nomatch h), fun _ => k3, xs, fr, h3, h4, cells_fill fun j v hv => ?_, fun h => (nomatch h)⟩
      obtain ⟨x, q1, q2⟩ := h5 j v hv
      obtain ⟨_, hfl⟩ := glFine_mem hf (glRows_mem h1)
      exact ⟨x, q1, V.flat_rel v x (flatBs_get hfl hv) q2⟩
  · obtain ⟨r1, e1, f1, f2⟩ := loc hi
    obtain ⟨r2, e2, f3, f4⟩ := loc hj
    rw [hri] at f1; cases f1
    rw [hrj] at f3; cases f3
    omega
  · show (if i < G then _ else if i = G then _ else if i = G + 1 then _ else if i = G + 2 then _ else none) = none
    have hi : G + 3 ≤ i := hi
    rw [if_neg (by omega), if_neg (by omega), if_neg (by omega), if_neg (by omega)]
theorem back_rm {F : Fx} {w0 w w' : World} {ρ ρs : Rho} {m ms : Mem} {G p q a : Nat} {s s' : GS} (hm : RM F w0 ρ m w) (hAt : At m p q a s) {rp cp rq cq ra ca : Nat} (hp : ρ p = some (rp, cp)) (hq : ρ q = some (rq, cq)) (ha : ρ a = some (ra, ca))
    (hs : RM (Fs F w rp rq ra) w ρs ms w') (hx : Ext (rhoS ρ G p q a) ρs) (hs' : At ms G (G + 1) (G + 2) s') : RM F w0 ρ (putG m p q a s') w' := by
  obtain ⟨npq, npa, nqa⟩ := hAt.ne
  obtain ⟨⟨c1, g1, _⟩, ⟨c2, g2, _⟩, g3⟩ := hAt
  obtain ⟨⟨d1, k1, k10, k11, k12, k13, k14⟩, ⟨d2, k2, k20, k21⟩, k3⟩ := hs'
  have sp : ρs G = some (rp, cp) := hx.1 _ _ (by rw [rhoS_p]; exact hp)
  have sq : ρs (G + 1) = some (rq, cq) := hx.1 _ _ (by rw [rhoS_q]; exact hq)
  have sa : ρs (G + 2) = some (ra, ca) := hx.1 _ _ (by rw [rhoS_a]; exact ha)
  have bp := hm.at g1 hp
  have bq := hm.at g2 hq
  have ba := hm.at g3 ha
  have cases' : ∀ {i b}, (putG m p q a s').t.get i = some b → (i = a ∧ b = wRow s') ∨ (i = q ∧ b = sRow s' a) ∨ (i = p ∧ b = gRow s' q) ∨ (i ≠ a ∧ i ≠ q ∧ i ≠ p ∧ m.t.get i = some b) := fun {i b} h => by
    unfold putG at h
    simp only [Tr.get_set] at h
    split at h
    · rename_i e; cases h; exact .inl ⟨e, rfl⟩
    · rename_i e1
      split at h
      · rename_i e; cases h; exact .inr (.inl ⟨e, rfl⟩)
      · rename_i e2
        split at h
        · rename_i e; cases h; exact .inr (.inr (.inl ⟨e, rfl⟩))
        · rename_i e3; exact .inr (.inr (.inr ⟨e1, e2, e3, h⟩))
  have old : ∀ {i b}, (putG m p q a s').t.get i = some b → ∃ b', m.t.get i = some b' := fun {i b} h => by
    rcases cases' h with ⟨rfl, _⟩ | ⟨rfl, _⟩ | ⟨rfl, _⟩ | ⟨_, _, _, h⟩
    · exact ⟨_, g3⟩
    · exact ⟨_, g2⟩
    · exact ⟨_, g1⟩
    · exact ⟨_, h⟩
  refine ⟨fun i b h => ?_, fun i j bi bj r c c' hi hj hri hrj => ?_, hm.fresh, hm.fn, hm.gsz, Nat.le_trans hm.size hs.size, fun k hk => ?_, hs.os.trans hm.os, hs.tape.trans hm.tape, hs.output.trans hm.output⟩
  · rcases cases' h with ⟨rfl, rfl⟩ | ⟨rfl, rfl⟩ | ⟨rfl, rfl⟩ | ⟨n1, n2, n3, h⟩
    · refine ⟨ra, ca, ha, ?_⟩
      obtain ⟨_, rest⟩ := hs.at k3 sa
      exact ⟨ba.1, rest⟩
    · exact ⟨rq, cq, hq, sRow_rel (hs.at k2 sq) k20 k21 sa ha (bq.1 rfl)⟩
    · exact ⟨rp, cp, hp, gRow_rel (hs.at k1 sp) k10 k11 k12 k13 k14 sq hq (bp.1 rfl)⟩
    · obtain ⟨r, c, h1, h2⟩ := hm.blk i b h
      refine ⟨r, c, h1, h2.move (Ext.refl ρ) (hs.keep r ⟨h2.lt, fun e => ?_, fun e => ?_, fun e => ?_⟩)⟩
      · subst e; exact n3 (hm.inj i p _ _ _ c cp h g1 h1 hp)
      · subst e; exact n2 (hm.inj i q _ _ _ c cq h g2 h1 hq)
      · subst e; exact n1 (hm.inj i a _ _ _ c ca h g3 h1 ha)
  · obtain ⟨b1, h1⟩ := old hi
    obtain ⟨b2, h2⟩ := old hj
    exact hm.inj i j b1 b2 r c c' h1 h2 hri hrj
  · rw [hs.keep k ⟨Nat.lt_of_lt_of_le (hm.fn k hk) hm.size, fun e => ?_, fun e => ?_, fun e => ?_⟩]
    · exact hm.keep k hk
    · subst e; exact (bp.1 rfl).1 hk
    · subst e; exact (bq.1 rfl).1 hk
    · subst e; exact ba.1.1 hk
/-- A function of a ground and of plain values. -/
def gE (gl : List (Nat × List V)) (A R : Ty) (d : GS → A.T → R.T × GS) : List V → Mem → Option (V × Mem) := fun as m => match as with
  | .ptr p 0 :: as => match gsOf m p with
    | some (s, q, a) => match outTs A as with
      | some x => match glB m gl with
        | true => some (inT R (d s x).1, putG m p q a (d s x).2)
        | false => none
      | none => none
    | none => none
  | _ => none
/-- What comes of a run over a small memory. -/
def finG (G : Nat) (R : Ty) (v : V) (m : Mem) : Option (R.T × GS) := match outT R v with
  | some r => match gsOf m G with
    | some (s, q, a) => match Nat.beq q (G + 1) && Nat.beq a (G + 2) with
      | true => some (r, s)
      | false => none
    | none => none
  | none => none
theorem finG_some {G : Nat} {R : Ty} {v : V} {m : Mem} {r : R.T} {s : GS} (h : finG G R v m = some (r, s)) : v = inT R r ∧ At m G (G + 1) (G + 2) s := by
  unfold finG at h
  split at h
  · rename_i r' hr
    split at h
    · rename_i s' q a hs
      split at h
      · rename_i hb
        cases h
        rw [Bool.and_eq_true] at hb
        obtain rfl := Nat.eq_of_beq_eq_true hb.1
        obtain rfl := Nat.eq_of_beq_eq_true hb.2
        exact ⟨outT_in R v r hr, gsOf_at hs⟩
      · cases h
    · cases h
  · cases h
/-- The same, where there may be no answer. -/
def gEo (gl : List (Nat × List V)) (A R : Ty) (d : GS → A.T → Option (R.T × GS)) : List V → Mem → Option (V × Mem) := fun as m => match as with
  | .ptr p 0 :: as => match gsOf m p with
    | some (s, q, a) => match outTs A as with
      | some x => match glB m gl with
        | true => match d s x with
          | some y => some (inT R y.1, putG m p q a y.2)
          | none => none
        | false => none
      | none => none
    | none => none
  | _ => none
def gEk {β : Type} (gl : List (Nat × List V)) (A R : Ty) (d : GS → A.T → Option (R.T × GS)) : List V → Mem → (V → Mem → Option β) → Option β := fun as m κ => match as with
  | .ptr p 0 :: as => match gsOf m p with
    | some (s, q, a) => match outTs A as with
      | some x => match glB m gl with
        | true => match d s x with
          | some y => κ (inT R y.1) (putG m p q a y.2)
          | none => none
        | false => none
      | none => none
    | none => none
  | _ => none
theorem gEk_eq {β : Type} {gl : List (Nat × List V)} {A R : Ty} {d : GS → A.T → Option (R.T × GS)} {as m} {κ : V → Mem → Option β} : gEk gl A R d as m κ = pairK (gEo gl A R d as m) κ := by
  unfold gEk gEo
  split
  · rename_i p as
    cases gsOf m p with
    | none => rfl
    | some x =>
      obtain ⟨s, q, a⟩ := x
      show (match outTs A as with | some x => _ | none => none) = pairK (match outTs A as with | some x => _ | none => none) κ
      cases outTs A as with
      | none => rfl
      | some x =>
        show (match glB m gl with | true => _ | false => none) = pairK (match glB m gl with | true => _ | false => none) κ
        cases glB m gl with
        | false => rfl
        | true =>
          show (match d s x with | some y => _ | none => none) = pairK (match d s x with | some y => _ | none => none) κ
          cases d s x <;> rfl
  · rfl
theorem gEk_some {β : Type} {gl : List (Nat × List V)} {A R : Ty} {d : GS → A.T → Option (R.T × GS)} {as m} {κ : V → Mem → Option β} {b : β} (h : gEk gl A R d as m κ = some b) : ∃ v m', gEo gl A R d as m = some (v, m') ∧ κ v m' = some b := by
  rw [gEk_eq] at h
  exact pairK_some h
def KTab.add (K : KTab) (f : FuncId) (gl : List (Nat × List V)) (A R : Ty) (d : GS → A.T → Option (R.T × GS)) : KTab := ⟨fun g => bif Nat.beq g f then some (gEk gl A R d) else K.get g⟩
theorem KOk.add {K : KTab} {T : Tab} (hK : KOk K T) (f : FuncId) (gl : List (Nat × List V)) (A R : Ty) (d : GS → A.T → Option (R.T × GS)) : KOk (K.add f gl A R d) (T.add f (gEo gl A R d)) := fun β g e' h => by
  have h : (bif Nat.beq g f then some (gEk gl A R d) else K.get g) = some e' := h
  show ∃ e, (bif Nat.beq g f then some (gEo gl A R d) else T.sum g) = some e ∧ _
  cases hb : Nat.beq g f with
  | true =>
    rw [hb] at h; cases h
    exact ⟨_, rfl, fun as m κ b hh => gEk_some hh⟩
  | false =>
    rw [hb] at h
    exact hK β g e' h
/-- A contract without that changes nothing of it. -/
theorem KOk.past {K : KTab} {T : Tab} (hK : KOk K T) {f : FuncId} {e : List V → Mem → Option (V × Mem)} (hf : ∀ β, (K.get (β := β) f).isNone = true) : KOk K (T.add f e) := fun β g e' h => by
  show ∃ e1, (bif Nat.beq g f then some e else T.sum g) = some e1 ∧ _
  cases hb : Nat.beq g f with
  | true =>
    have := Nat.eq_of_beq_eq_true hb
    subst this
    have := hf β
    rw [h] at this; cases this
  | false => exact hK β g e' h
/-- From what a call does over a small memory. -/
theorem g_sem {P : Program} {G : Nat} {f : FuncId} {gl : List (Nat × List V)} {A R : Ty} {d : GS → A.T → Option (R.T × GS)} (hfn : ∃ fn c, P.funcs[f]? = some fn ∧ fn.body = some c) (hgl : glFine G gl = true)
    (h : ∀ tt nn s x y, d s x = some y → ∀ F w0 ρ w xs, RM F w0 ρ (small G (glRows tt nn gl) s) w → Glo G ρ → RelL ρ (.ptr G 0 :: inTs A x) xs →
      Calls P f (List.toArray xs) w fun e w' => ∃ ρ' x v m', e = .returned x ∧ Ext ρ ρ' ∧ RelV ρ' v x ∧ RM F w0 ρ' m' w' ∧ finG G R v m' = some y) : SumOk P G f (gEo gl A R d) := fun as m v m' he => by
  refine ⟨hfn, fun F w0 ρ w xs hm hg ha => ?_⟩
  unfold gEo at he
  split at he
  · rename_i p as
    split at he
    · rename_i s q a hgs
      split at he
      · rename_i x hx
        split at he
        · rename_i hb
          split at he
          · rename_i y hy
            cases he
            have hx := outTs_in A as x hx
            subst hx
            have hAt := gsOf_at hgs
            obtain ⟨⟨c1, g1, _⟩, ⟨c2, g2, _⟩, g3⟩ := id hAt
            obtain ⟨rp, cp, hp, _⟩ := hm.blk _ _ g1
            obtain ⟨rq, cq, hq, _⟩ := hm.blk _ _ g2
            obtain ⟨ra, ca, ha', _⟩ := hm.blk _ _ g3
            have hrm := small_rm hm hg hAt hgl hb hp hq ha'
            rw [RelL] at ha
            obtain ⟨x0, ys, rfl, h1, h2⟩ := ha
            have hargs : RelL (rhoS ρ G p q a) (.ptr G 0 :: inTs A x) (x0 :: ys) := .cons (ptr_at h1 hp (by rw [rhoS_p]; exact hp)) (inTs_flat A x ys h2)
            have hglo : Glo G (rhoS ρ G p q a) := fun g hgg => by
              obtain ⟨c, hc⟩ := hg g hgg
              exact ⟨c, by rw [rhoS_lt hgg]; exact hc⟩
            refine (h (tyAt m) (szAt m) s x y hy _ _ _ _ _ hrm hglo hargs).mono fun e w' ⟨ρ', z, v, m', k1, k2, k3, k4, k5⟩ => ?_
            obtain ⟨r, s'⟩ := y
            obtain ⟨rfl, hs'⟩ := finG_some k5
            exact ⟨ρ, z, k1, Ext.refl ρ, inT_flat R _ z k3, back_rm hm hAt hp hq ha' k4 k2 hs'⟩
          · cases he
        · cases he
      · cases he
    · cases he
  · cases he
theorem g_oko {K : KTab} {q : FuncId → Tmp → Bool} {P : Program} {T : Tab} (hT : TabOk P T) (hK : KOk K T) (hmix : P.follows .mixedOrders = true) {f : FuncId} {gl : List (Nat × List V)} {A R : Ty} {d : GS → A.T → Option (R.T × GS)} {N D n : Nat} (hfn : ∃ fn c, P.funcs[f]? = some fn ∧ fn.body = some c) (hgl : glFine T.g gl = true)
    (h : ∀ tt nn s x, callS (envK K q P T N D) n f (.ptr T.g 0 :: inTs A x) (small T.g (glRows tt nn gl) s) (finG T.g R) = d s x) : SumOk P T.g f (gEo gl A R d) :=
  g_sem hfn hgl fun tt nn s x y hy F w0 ρ w xs hm hg ha => callS_ok hT hK hmix ((h tt nn s x).trans hy) hm hg ha
theorem gE_gEo {gl : List (Nat × List V)} {A R : Ty} {d : GS → A.T → R.T × GS} {as m} : gE gl A R d as m = gEo gl A R (fun s x => some (d s x)) as m := by
  unfold gE gEo
  rfl
theorem g_ok {K : KTab} {q : FuncId → Tmp → Bool} {P : Program} {T : Tab} (hT : TabOk P T) (hK : KOk K T) (hmix : P.follows .mixedOrders = true) {f : FuncId} {gl : List (Nat × List V)} {A R : Ty} {d : GS → A.T → R.T × GS} {N D n : Nat} (hfn : ∃ fn c, P.funcs[f]? = some fn ∧ fn.body = some c) (hgl : glFine T.g gl = true)
    (h : ∀ tt nn s x, callS (envK K q P T N D) n f (.ptr T.g 0 :: inTs A x) (small T.g (glRows tt nn gl) s) (finG T.g R) = some (d s x)) : SumOk P T.g f (gE gl A R d) := fun as m v m' he =>
  g_oko (d := fun s x => some (d s x)) hT hK hmix hfn hgl h as m v m' (gE_gEo.symm.trans he)
end Go.CE
end
/-
  SYMBOLIC EVALUATION, 5: from a call's contract to a law's row: plain arguments are opened, and read as they did behind the call.
-/
noncomputable section
namespace Go.CE
open Go Go.RowKit Go.ChangeShapes Go.WideShapes Go.ChangeAt
set_option linter.unusedSimpArgs false
set_option linter.unusedVariables false

/-! arguments -/
theorem V.rel_int {ρ : Rho} {k : IntKind} {n : Int} : RelV ρ (.int k n) (.int k n) := by rw [RelV]
theorem V.rel_bool {ρ : Rho} {b : Bool} : RelV ρ (.bool b) (.bool b) := by rw [RelV]
def cellTyB (P : Program) (u : TypeId) : Ty → Bool
  | .i k => match P.underlying u with
    | some (.int k') => decide (k' = k)
    | _ => false
  | .b => match P.underlying u with
    | some .bool => true
    | _ => false
  | .s => match P.underlying u with
    | some .string => true
    | _ => false
  | _ => false
def cellsTyB (P : Program) : List TypeId → Ty → Bool
  | [], .nil => true
  | u :: us, .cons a l => cellTyB P u a && cellsTyB P us l
  | _, _ => false
def argTyB (P : Program) (t : TypeId) : Ty → Bool
  | .agg l => match P.underlying t with
    | some (.struct _) => match P.cellTypes P.depth t with
      | some ts => Nat.beq (P.cellsOf t) ts.length && cellsTyB P ts l
      | none => false
    | _ => false
  | a => cellTyB P t a
def argsTyB (P : Program) : List TypeId → Ty → Bool
  | [], .nil => true
  | t :: ts, .cons a l => argTyB P t a && argsTyB P ts l
  | _, _ => false
theorem cell_open {P : Program} {w : World} {r : Reach} {base : Nat} {u : TypeId} {v : Value} {a : Ty} (hb : cellTyB P u a = true) (h : Cell.okWide P w r base u v) : ∃ x : a.T, ∀ ρ, RelV ρ (inT a x) v := by
  cases a with
  | i k =>
    have hb : (match P.underlying u with | some (.int k') => decide (k' = k) | _ => false) = true := hb
    split at hb
    · rename_i k' hu
      obtain rfl := of_decide_eq_true hb
      unfold Cell.okWide at h
      rw [hu] at h
      simp only at h
      unfold Cell.ok at h
      rw [hu] at h
      cases v <;> try (exact h.elim)
      simp only at h
      obtain ⟨rfl, _⟩ := h
      exact ⟨_, fun ρ => V.rel_int⟩
    · cases hb
  | b =>
    have hb : (match P.underlying u with | some .bool => true | _ => false) = true := hb
    split at hb
    · rename_i hu
      unfold Cell.okWide at h
      rw [hu] at h
      simp only at h
      unfold Cell.ok at h
      rw [hu] at h
      cases v <;> try (exact h.elim)
      exact ⟨_, fun ρ => V.rel_bool⟩
    · cases hb
  | s =>
    have hb : (match P.underlying u with | some .string => true | _ => false) = true := hb
    split at hb
    · rename_i hu
      unfold Cell.okWide at h
      rw [hu] at h
      simp only at h
      unfold Cell.ok at h
      rw [hu] at h
      cases v <;> try (exact h.elim)
      rename_i s
      refine ⟨s.data.toList, fun ρ => ?_⟩
      show RelV ρ (V.str s.data.toList) (.string s)
      rw [RelV]
    · cases hb
  | _ => cases hb
theorem cells_open {P : Program} {w : World} {r : Reach} {base : Nat} : ∀ {ts : List TypeId} {l : Ty} {cs : List Value}, cellsTyB P ts l = true → cs.length = ts.length → (∀ (i : Nat) (v : Value) (u : TypeId), cs[i]? = some v → ts[i]? = some u → Cell.okWide P w r base u v) → ∃ x : l.T, ∀ ρ, RelL ρ (inTs l x) cs
  | [], l, cs, hb, hl, h => by
    cases l <;> try (cases hb)
    refine ⟨(), fun ρ => ?_⟩
    have : cs = [] := List.eq_nil_of_length_eq_zero (by simpa using hl)
    subst this
    show RelL ρ [] []
    rw [RelL]
  | u :: us, l, [], hb, hl, h => by simp at hl
  | u :: us, l, c :: cs, hb, hl, h => by
    cases l <;> try (cases hb; done)
    rename_i a l
    have hb : (cellTyB P u a && cellsTyB P us l) = true := hb
    rw [Bool.and_eq_true] at hb
    obtain ⟨x, hx⟩ := cell_open hb.1 (h 0 c u rfl rfl)
    obtain ⟨y, hy⟩ := cells_open (ts := us) (l := l) (cs := cs) hb.2 (by simpa using hl) (fun i v u h1 h2 => h (i + 1) v u (by simpa using h1) (by simpa using h2))
    refine ⟨(x, y), fun ρ => ?_⟩
    show RelL ρ (inT a x :: inTs l y) (c :: cs)
    exact .cons (hx ρ) (hy ρ)
theorem arg_open {P : Program} {w : World} {r : Reach} {base : Nat} {t : TypeId} {v : Value} {a : Ty} (hb : argTyB P t a = true) (h : Value.okWide P w r base t v) : ∃ x : a.T, ∀ ρ, RelV ρ (inT a x) v := by
  have plain : ∀ {a : Ty}, cellTyB P t a = true → ∃ x : a.T, ∀ ρ, RelV ρ (inT a x) v := fun {a} hb => by
    have h' : Cell.okWide P w r base t v := by
      unfold Value.okWide at h
      cases a with
      | i k =>
        have hb : (match P.underlying t with | some (.int k') => decide (k' = k) | _ => false) = true := hb
        split at hb
        · rename_i hu; rw [hu] at h; exact h
        · cases hb
      | b =>
        have hb : (match P.underlying t with | some .bool => true | _ => false) = true := hb
        split at hb
        · rename_i hu; rw [hu] at h; exact h
        · cases hb
      | s =>
        have hb : (match P.underlying t with | some .string => true | _ => false) = true := hb
        split at hb
        · rename_i hu; rw [hu] at h; exact h
        · cases hb
      | _ => cases hb
    exact cell_open hb h'
  cases a with
  | agg l =>
    have hb : (match P.underlying t with | some (.struct _) => (match P.cellTypes P.depth t with | some ts => Nat.beq (P.cellsOf t) ts.length && cellsTyB P ts l | none => false) | _ => false) = true := hb
    split at hb
    · rename_i fs hu
      split at hb
      · rename_i ts hts
        rw [Bool.and_eq_true] at hb
        have hn := Nat.eq_of_beq_eq_true hb.1
        unfold Value.okWide at h
        rw [hu] at h
        obtain ⟨cs, rfl, hsz, ts', hts', _, hc⟩ := h
        rw [hts] at hts'; cases hts'
        obtain ⟨x, hx⟩ := cells_open (w := w) (r := r) (base := base) (cs := cs.toList) hb.2 (by simpa using hsz.trans hn) (fun i v u h1 h2 => by
          have hi : i < ts.length := (List.getElem?_eq_some_iff.1 h2).1
          obtain ⟨u', h3, h4⟩ := hc i v (by simpa using h1)
          rw [Nat.mod_eq_of_lt hi, h2] at h3; cases h3
          exact h4)
        refine ⟨x, fun ρ => ?_⟩
        show RelV ρ (V.agg (inTs l x)) (.agg cs)
        rw [RelV]
        exact ⟨cs.toList, by simp, hx ρ⟩
      · cases hb
    · cases hb
  | i k => exact plain hb
  | b => exact plain hb
  | s => exact plain hb
  | lit _ => exact plain hb
  | nil => cases hb
  | cons _ _ => cases hb
  | tup _ => cases hb
theorem args_open {P : Program} {w : World} {r : Reach} {base : Nat} : ∀ {ts : List TypeId} {l : Ty} {vs : List Value}, argsTyB P ts l = true → vs.length = ts.length → (∀ (j : Nat) (t : TypeId) (v : Value), ts[j]? = some t → vs[j]? = some v → Value.okWide P w r base t v) → ∃ x : l.T, ∀ ρ, RelL ρ (inTs l x) vs
  | [], l, vs, hb, hl, h => by
    cases l <;> try (cases hb)
    refine ⟨(), fun ρ => ?_⟩
    have : vs = [] := List.eq_nil_of_length_eq_zero (by simpa using hl)
    subst this
    show RelL ρ [] []
    rw [RelL]
  | t :: ts, l, [], hb, hl, h => by simp at hl
  | t :: ts, l, v :: vs, hb, hl, h => by
    cases l <;> try (cases hb; done)
    rename_i a l
    have hb : (argTyB P t a && argsTyB P ts l) = true := hb
    rw [Bool.and_eq_true] at hb
    obtain ⟨x, hx⟩ := arg_open hb.1 (h 0 t v rfl rfl)
    obtain ⟨y, hy⟩ := args_open (ts := ts) (l := l) (vs := vs) hb.2 (by simpa using hl) (fun j t v h1 h2 => h (j + 1) t v (by simpa using h1) (by simpa using h2))
    refine ⟨(x, y), fun ρ => ?_⟩
    show RelL ρ (inT a x :: inTs l y) (v :: vs)
    exact .cons (hx ρ) (hy ρ)

/-! what is read behind the call -/
theorem trodAll_len {H : Type} {enc : TypeId × Value → H} {P : Program} {W : World} {sp : Nat → Bool} {held : Bool} {base : Nat} : ∀ {ts : List TypeId} {vs : List Value} {ds : List (DataW H)} {ps : List MemPlace}, DataW.TrodAll enc P W base sp held ts vs ds ps → vs.length = ts.length
  | [], _, _, _, h => by
    obtain ⟨rfl, rfl, _⟩ := trodAll_nil h
    rfl
  | _ :: _, _, _, _, h => by
    obtain ⟨v, vs1, d, ds1, a, b, rfl, rfl, rfl, _, h2⟩ := trodAll_cons h
    rw [List.length_cons, List.length_cons, trodAll_len h2]
def readB (P : Program) : List TypeId → Bool
  | [] => true
  | t :: ts => (P.readableRec t && decide (t < P.types.size)) && readB P ts
theorem args_stay {H : Type} {enc : TypeId × Value → H} {P : Program} (hl : laidOutB P = true) {W W' : World} (hb : Below W.heap.size W W') {sp : Nat → Bool} : ∀ {ts : List TypeId} {vs : List Value} {ds : List (DataW H)} {ps : List MemPlace}, readB P ts = true →
    DataW.TrodAll enc P W 0 (fun _ => true) true ts vs ds ps → (∀ p ∈ ps, p.block < W.heap.size) → (∀ p ∈ ps, sp p.block = true) → DataW.TrodAll enc P W' 0 sp true ts vs ds ps
  | [], _, _, _, _, h, _, _ => by
    obtain ⟨rfl, rfl, rfl⟩ := trodAll_nil h
    exact trodAll_mk0
  | t :: ts, _, _, _, hr, h, hlt, hs => by
    obtain ⟨v, vs', d, ds', p, q, rfl, rfl, rfl, h1, h2⟩ := trodAll_cons h
    have hr : ((P.readableRec t && decide (t < P.types.size)) && readB P ts) = true := hr
    rw [Bool.and_eq_true, Bool.and_eq_true] at hr
    exact ⟨p, q, WideElems.Trod_stays hl hr.1.1 (of_decide_eq_true hr.1.2) h1 (fun x hx => hb.same (hlt x (by simp [hx]))) (fun x hx => hs x (by simp [hx])),
      args_stay hl hb hr.2 h2 (fun x hx => hlt x (by simp [hx])) (fun x hx => hs x (by simp [hx])), rfl⟩

/-! package variables that are laid -/
def litV {H : Type} : DataW H → V
  | .lit (.int k n) => .int k n
  | .lit (.string b) => .str b
  | .lit (.bool b) => .bool b
  | _ => .nilp
def elemB (P : Program) (e : TypeId) : Bool := match P.underlying e with
  | some (.int _) => true
  | some .string => true
  | _ => false
theorem holds_of_trod {P : Program} {W : World} {g : Nat} {t e : TypeId} {n fuel : Nat} {fr : Nat × Nat} {tt : TypeId} {ds : List (DataW Unit)} {ps : List MemPlace} {cs : Array Value} {base : Nat} {sp : Nat → Bool} {held : Bool} {enc : TypeId × Value → Unit} (hh : W.heap[g]? = some (.cells cs tt fr))
    (hu : P.underlying t = some (.array n e)) (hc : P.cellsOf e = 1) (hE : elemB P e = true) (hd : DataW.trod enc P W base sp held fuel t cs.toList = some (.agg ds, ps)) : Holds W g tt cs.size (ds.map litV) := by
  obtain ⟨xs, m1, hx0, hx1, hlen, hn, hel⟩ := DataW.trod_array hu hd
  have hxs : xs.map (fun x => x.1) = ds := by
    injection hx1 with e1 e2
    injection e1 with e1
    exact e1.symm
  refine ⟨cs, fr, hh, rfl, fun i v hv => ?_⟩
  rw [← hxs, List.map_map, List.getElem?_map] at hv
  cases hi : xs[i]? with
  | none => rw [hi] at hv; cases hv
  | some x =>
    rw [hi] at hv
    have hv : some (litV x.1) = some v := hv
    cases hv
    have hil : i < n := by
      have := (List.getElem?_eq_some_iff.1 hi).1
      omega
    have h3 := hel i hil
    rw [hi] at h3
    rw [hc, Nat.mul_one] at h3
    have cell : ∀ c, (cs.toList.drop i).take 1 = [c] → cs[i]? = some c := fun c e1 => by
      have : (cs.toList.drop i)[0]? = some c := by
        cases hd : cs.toList.drop i with
        | nil => simp [hd] at e1
        | cons a l => simp [hd] at e1; rw [e1]; rfl
      simpa using this
    unfold elemB at hE
    split at hE
    · rename_i k hk
      obtain ⟨j, e1, e2, _⟩ := DataW.trod_int hk h3
      rw [e2]
      exact ⟨_, cell _ e1, by rw [litV, RelV]⟩
    · rename_i hk
      obtain ⟨s, e1, e2, _⟩ := DataW.trod_string hk h3
      rw [e2]
      exact ⟨_, cell _ e1, by rw [litV, RelV]⟩
    · cases hE
theorem var_heap {P : Program} {W : World} {name : String} {g : Nat} {cs : Array Value} (hg : P.globalNamed name = some g) (h : W.var? P name = some cs) : ∃ tt fr, W.heap[g]? = some (.cells cs tt fr) := by
  unfold World.var? at h
  rw [hg] at h
  simp only [Option.bind_some] at h
  split at h
  · rename_i cs t fr hh
    cases h
    exact ⟨t, fr, hh⟩
  · cases h

/-! a contract of plain values, in any world -/
theorem pure_calls {P : Program} {G : Nat} {f : FuncId} {gl : List (Nat × List V)} {A R : Ty} {d : A.T → R.T} (h : SumOk P G f (pureE gl A R d)) {W : World} (hG : G ≤ W.heap.size) (hfine : glFine G gl = true)
    (hh : ∀ g vs, (g, vs) ∈ gl → ∃ t n, Holds W g t n vs) {x : A.T} {xs : List Value} (ha : ∀ ρ, RelL ρ (inTs A x) xs) (hA : outTs A (inTs A x) = some x) (hglB : ∀ tt nn, glB (memG G (glRows tt nn gl)) gl = true) : Calls P f xs.toArray W fun e W' => ∃ y, e = .returned y ∧ (∀ ρ, RelV ρ (inT R (d x)) y) ∧ Below W.heap.size W W' := by
  classical
  let tt : Nat → TypeId := fun g => if hg : ∃ t n, Holds W g t n [] then Classical.choose hg else 0
  let nn : Nat → Nat := fun g => if hg : ∃ t n, Holds W g t n [] then Classical.choose (Classical.choose_spec hg) else 0
  have uniq : ∀ {g t n vs t' n' vs'}, Holds W g t n vs → Holds W g t' n' vs' → t = t' ∧ n = n' := fun {g t n vs t' n' vs'} h1 h2 => by
    obtain ⟨xs1, f1, a1, b1, _⟩ := h1
    obtain ⟨xs2, f2, a2, b2, _⟩ := h2
    rw [a1] at a2; cases a2
    exact ⟨rfl, b1.symm.trans b2⟩
  have emp : ∀ {g t n vs}, Holds W g t n vs → Holds W g t n [] := fun {g t n vs} h1 => by
    obtain ⟨xs1, f1, a1, b1, _⟩ := h1
    exact ⟨xs1, f1, a1, b1, fun i v hv => by simp at hv⟩
  have at' : ∀ {g vs}, (g, vs) ∈ gl → Holds W g (tt g) (nn g) vs := fun {g vs} hm => by
    obtain ⟨t, n, h1⟩ := hh g vs hm
    have he : ∃ t n, Holds W g t n [] := ⟨t, n, emp h1⟩
    have h2 := Classical.choose_spec (Classical.choose_spec he)
    obtain ⟨e1, e2⟩ := uniq h1 h2
    have e3 : tt g = t := by show (if hg : ∃ t n, Holds W g t n [] then Classical.choose hg else 0) = t; rw [dif_pos he]; exact e1.symm
    have e4 : nn g = n := by show (if hg : ∃ t n, Holds W g t n [] then Classical.choose (Classical.choose_spec hg) else 0) = n; rw [dif_pos he]; exact e2.symm
    rw [e3, e4]; exact h1
  have hrm : RM (Fx.upto G W) W (rho0 G) (memG G (glRows tt nn gl)) W := memG_rm2 hG fun g t n vs hm => by
    have hmm : (g, vs) ∈ gl := glRows_mem hm
    obtain ⟨h1, _⟩ := glFine_mem hfine hmm
    have e : t = tt g ∧ n = nn g := by
      clear at' uniq emp hh hfine h hmm h1 hglB
      induction gl with
      | nil => cases hm
      | cons p l ih =>
        obtain ⟨g', vs'⟩ := p
        rw [glRows, List.mem_cons] at hm
        rcases hm with hm | hm
        · cases hm; exact ⟨rfl, rfl⟩
        · exact ih hm
    rw [e.1, e.2]
    exact ⟨⟨h1, h1⟩, at' hmm⟩
  have hgb : glB (memG G (glRows tt nn gl)) gl = true := hglB tt nn
  have he : pureE gl A R d (inTs A x) (memG G (glRows tt nn gl)) = some (inT R (d x), memG G (glRows tt nn gl)) := by
    unfold pureE
    rw [hA, hgb]
  obtain ⟨_, hc⟩ := h _ _ _ _ he
  refine (hc _ _ _ _ xs hrm (fun g hg => ⟨0, if_pos hg⟩) (ha _)).mono fun e W' ⟨ρ', y, h1, h2, h3, h4⟩ => ⟨y, h1, fun ρ => inT_flat R _ y h3, h4.below2⟩
end Go.CE
end
/-
  SYMBOLIC EVALUATION, 8: the contract of a function of plain values from closed evaluation.
-/
noncomputable section
namespace Go.CE
open Go
set_option linter.unusedVariables false

theorem vOf_some {o : Option (V × Mem)} {v : V} (h : vOf o = some v) : ∃ m, o = some (v, m) := by
  cases o with
  | none => cases h
  | some p => obtain ⟨u, m⟩ := p; cases h; exact ⟨m, rfl⟩
theorem pureC_ok {P : Program} {T : Tab} (hT : TabOk P T) (hmix : P.follows .mixedOrders = true) {f : FuncId} {gl : List (Nat × List V)} {A R : Ty} {d : A.T → R.T} {N D n : Nat} (hfn : ∃ fn c, P.funcs[f]? = some fn ∧ fn.body = some c) (hgl : glFine T.g gl = true)
    (h : ∀ tt nn a, vOf (callE (envD P T N D) n f (inTs A a) (memG T.g (glRows tt nn gl))) = some (inT R (d a))) : SumOk P T.g f (pureE gl A R d) := fun as m v m' he => by
  refine ⟨hfn, fun F w0 ρ w xs hm hg ha => ?_⟩
  unfold pureE at he
  split at he
  · rename_i a hA
    split at he
    · rename_i hb
      cases he
      have hA := outTs_in A as a hA
      subst hA
      have hrm := memG_rm2 (G := T.g) (g0 := F.g) (l := glRows (tyAt m) (szAt m) gl) (w := w) (Nat.le_trans hm.gsz hm.size) (gl_holds hm hg hgl hb)
      obtain ⟨m1, hrun⟩ := vOf_some (h (tyAt m) (szAt m) a)
      refine (callD_ok hT hmix hrun hrm (fun g hg => ⟨0, if_pos hg⟩) (inTs_flat A a xs ha)).mono fun e w' ⟨ρ', x, h1, h2, h3, h4⟩ => ?_
      exact ⟨ρ, x, h1, Ext.refl ρ, inT_flat R _ x h3, hm.later h4.below2⟩
    · cases he
  · cases he
/-! what calls of plain values were found to come to -/
def findL (as : List V) : List (List V × V) → Option V
  | [] => none
  | p :: l => match V.beqL p.1 as with
    | true => some p.2
    | false => findL as l
def memoE (gl : List (Nat × List V)) (l : List (List V × V)) : List V → Mem → Option (V × Mem) := fun as m => match findL as l with
  | some v => match glB m gl with
    | true => some (v, m)
    | false => none
  | none => none
def memoFine : List (List V × V) → Bool
  | [] => true
  | p :: l => V.flatBs p.1 && (p.2.flatB && memoFine l)
def AllRuns (E : Env) (n : Nat) (f : FuncId) (m : Mem) : List (List V × V) → Prop
  | [] => True
  | p :: l => vOf (callE E n f p.1 m) = some p.2 ∧ AllRuns E n f m l
theorem findL_mem {E : Env} {n : Nat} {f : FuncId} {m : Mem} {as : List V} {v : V} : ∀ {l : List (List V × V)}, findL as l = some v → memoFine l = true → AllRuns E n f m l → V.flatBs as = true ∧ v.flatB = true ∧ vOf (callE E n f as m) = some v
  | [], h, _, _ => by cases h
  | p :: l, h, hf, hr => by
    rw [memoFine, Bool.and_eq_true, Bool.and_eq_true] at hf
    unfold findL at h
    split at h
    · rename_i hb
      cases h
      have e := V.beqL_eq _ _ hb
      subst e
      exact ⟨hf.1, hf.2.1, hr.1⟩
    · exact findL_mem h hf.2.2 hr.2
theorem memo_ok {P : Program} {T : Tab} (hT : TabOk P T) (hmix : P.follows .mixedOrders = true) {f : FuncId} {gl : List (Nat × List V)} {l : List (List V × V)} {N D n : Nat} (hfn : ∃ fn c, P.funcs[f]? = some fn ∧ fn.body = some c) (hgl : glFine T.g gl = true) (hl : memoFine l = true)
    (h : ∀ tt nn, AllRuns (envD P T N D) n f (memG T.g (glRows tt nn gl)) l) : SumOk P T.g f (memoE gl l) := fun as m v m' he => by
  refine ⟨hfn, fun F w0 ρ w xs hm hg ha => ?_⟩
  unfold memoE at he
  split at he
  · rename_i v' hv
    split at he
    · rename_i hb
      cases he
      obtain ⟨h1, h2, h3⟩ := findL_mem hv hl (h (tyAt m) (szAt m))
      have hrm := memG_rm2 (G := T.g) (g0 := F.g) (l := glRows (tyAt m) (szAt m) gl) (w := w) (Nat.le_trans hm.gsz hm.size) (gl_holds hm hg hgl hb)
      obtain ⟨m1, hrun⟩ := vOf_some h3
      refine (callD_ok hT hmix hrun hrm (fun g hg => ⟨0, if_pos hg⟩) (V.flats_rel as xs h1 ha)).mono fun e w' ⟨ρ', x, k1, k2, k3, k4⟩ => ?_
      exact ⟨ρ, x, k1, Ext.refl ρ, V.flat_rel v x h2 k3, hm.later k4.below2⟩
    · cases he
  · cases he
end Go.CE
end
/-
  SYMBOLIC EVALUATION, 9: the contract of a function of plain values where something is so.
-/
noncomputable section
namespace Go.CE
open Go
set_option linter.unusedVariables false

def pureI (gl : List (Nat × List V)) (A R : Ty) (p : A.T → Bool) (r : A.T → R.T) : List V → Mem → Option (V × Mem) := fun as m => match outTs A as with
  | some a => match glB m gl with
    | true => match p a with
      | true => some (inT R (r a), m)
      | false => none
    | false => none
  | none => none
def pureK {β : Type} (gl : List (Nat × List V)) (A R : Ty) (p : A.T → Bool) (r : A.T → R.T) : List V → Mem → (V → Mem → Option β) → Option β := fun as m κ => match outTs A as with
  | some a => match glB m gl with
    | true => bif p a then κ (inT R (r a)) m else none
    | false => none
  | none => none
theorem pureK_some {β : Type} {gl : List (Nat × List V)} {A R : Ty} {p : A.T → Bool} {r : A.T → R.T} {as m} {κ : V → Mem → Option β} {b : β} (h : pureK gl A R p r as m κ = some b) : ∃ v m', pureI gl A R p r as m = some (v, m') ∧ κ v m' = some b := by
  unfold pureK at h
  unfold pureI
  split at h
  · rename_i a ha
    split at h
    · rename_i hb
      cases hp : p a with
      | true =>
        rw [hp] at h
        exact ⟨inT R (r a), m, by simp only [ha, hb, hp], h⟩
      | false => rw [hp] at h; cases h
    · cases h
  · cases h
theorem pureI_ok {P : Program} {G : Nat} {f : FuncId} {gl : List (Nat × List V)} {A R : Ty} {d : A.T → R.T} {p : A.T → Bool} {r : A.T → R.T} (h : SumOk P G f (pureE gl A R d)) (hd : ∀ a, p a = true → d a = r a) : SumOk P G f (pureI gl A R p r) := fun as m v m' he => h as m v m' (by
  unfold pureI at he
  unfold pureE
  split at he
  · rename_i a ha
    split at he
    · rename_i hb
      split at he
      · rename_i hp
        cases he
        simp only [ha, hb, hd a hp]
      · cases he
    · cases he
  · cases he)
def KTab.addI (K : KTab) (f : FuncId) (gl : List (Nat × List V)) (A R : Ty) (p : A.T → Bool) (r : A.T → R.T) : KTab := ⟨fun g => bif Nat.beq g f then some (pureK gl A R p r) else K.get g⟩
theorem KOk.addI {K : KTab} {T : Tab} (hK : KOk K T) (f : FuncId) (gl : List (Nat × List V)) (A R : Ty) (p : A.T → Bool) (r : A.T → R.T) : KOk (K.addI f gl A R p r) (T.add f (pureI gl A R p r)) := fun β g e' h => by
  have h : (bif Nat.beq g f then some (pureK gl A R p r) else K.get g) = some e' := h
  show ∃ e, (bif Nat.beq g f then some (pureI gl A R p r) else T.sum g) = some e ∧ _
  cases hb : Nat.beq g f with
  | true =>
    rw [hb] at h; cases h
    exact ⟨_, rfl, fun as m κ b hh => pureK_some hh⟩
  | false =>
    rw [hb] at h
    exact hK β g e' h
end Go.CE
end
