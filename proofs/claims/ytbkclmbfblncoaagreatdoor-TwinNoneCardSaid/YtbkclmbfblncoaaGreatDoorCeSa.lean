/-
  SYMBOLIC EVALUATION, 1: the machine of frames once more, with what is done behind it handed in; truth values are split where they are made.
-/
import Derived.Test.YtbkclmbfblncoaaGreatDoorCeU
noncomputable section
namespace Go.CE
open Go
set_option linter.unusedSimpArgs false
set_option linter.unusedVariables false

section
variable {β : Type}
/-- A value that is a truth value is split. -/
def splitK (v : V) (κ : V → Option β) : Option β := match v with
  | .bool c => match c with
    | true => κ (.bool true)
    | false => κ (.bool false)
  | v => κ v
theorem splitK_eq (v : V) (κ : V → Option β) : splitK v κ = κ v := by
  cases v <;> first | rfl | (rename_i b; cases b <;> rfl)
/-- As long as it goes anywhere. -/
def splitD (q : Tmp → Bool) (d : Option Tmp) (v : V) (κ : V → Option β) : Option β := match d with
  | none => κ v
  | some t => match q t with
    | true => κ v
    | false => splitK v κ
theorem splitD_eq (q : Tmp → Bool) (d : Option Tmp) (v : V) (κ : V → Option β) : splitD q d v κ = κ v := by
  unfold splitD
  split
  · rfl
  · split
    · rfl
    · exact splitK_eq v κ
def intIn (i : Int) (n : Nat) : Bool := intLe 0 i && !(intLe (Int.ofNat n) i)
def toN (i : Int) : Nat := match i with
  | .ofNat k => k
  | .negSucc _ => 0
def inBK (i : Int) (n : Nat) (κ : Nat → Option β) : Option β := match intIn i n with
  | true => κ (toN i)
  | false => none
def optK {α : Type} (o : Option α) (κ : α → Option β) : Option β := match o with
  | some a => κ a
  | none => none
def pairK (o : Option (V × Mem)) (κ : V → Mem → Option β) : Option β := match o with
  | some (v, m) => κ v m
  | none => none
def chkK (c : Bool) (κ : Option β) : Option β := match c with
  | true => κ
  | false => none
def indexAddrK (P : Program) (t : TypeId) (x i : V) (κ : V → Option β) : Option β :=
  match i with
  | .int _ n => match x with
    | .sl b o len cp => match P.underlying t with
      | some (.slice e) => match P.info? e with
        | some ie => inBK n len fun k => κ (pinOf (P.underlying e) cp b o k ie.size)
        | none => none
      | _ => none
    | .ptr b o => match P.underlying t with
      | some (.array len e) => match P.info? e with
        | some ie => inBK n len fun k => κ (.ptr b (Nat.add o (Nat.mul k ie.size)))
        | none => none
      | _ => none
    | _ => none
  | _ => none
def natK (v : V) (κ : Nat → Option β) : Option β := match v with
  | .int _ n => chkK (intLe 0 n) (κ (toN n))
  | _ => none
def makeIK (P : Program) (t : TypeId) (a b : V) (m : Mem) (κ : V → Mem → Option β) : Option β :=
  natK a fun l => natK b fun c => match P.underlying t with
    | some (.slice e) => match zeroV P e, P.info? e with
      | some (_, zs), some ie => chkK (Nat.ble l c) (chkK (Nat.ble (ie.bytes * c) 281474976710656) (chkK (Nat.ble c 281474976710656) (κ (makeOf e zs l c m).1 (makeOf e zs l c m).2)))
      | _, _ => none
    | _ => none
def boolSplit (b : Bool) (κ : Bool → Option β) : Option β := match b with
  | true => κ true
  | false => κ false
mutual
def eqK (P : Program) : Nat → TypeId → V → V → (Bool → Option β) → Option β
  | 0, _, _, _, _ => none
  | d + 1, t, x, y, κ => match P.underlying t with
    | none => none
    | some dt => match dt, x, y with
      | .bool, .bool a, .bool b => κ (a == b)
      | .int _, .int k a, .int k' b => match decide (k = k') with
        | true => κ (a == b)
        | false => none
      | .string, .str a, .str b => κ (a == b)
      | .struct fs, .agg xs, .agg ys => match P.stoodInHeld t with
        | true => none
        | false => eqFsK P d fs.toList xs ys κ
      | .array len e, .agg xs, .agg ys => match P.info? e with
        | some i => eqAsK P d e i.size xs ys (List.range' 0 len) κ
        | none => none
      | _, _, _ => match eqV P (d + 1) t x y with
        | some b => κ b
        | none => none
def eqFsK (P : Program) : Nat → List Field → List V → List V → (Bool → Option β) → Option β
  | 0, _, _, _, _ => none
  | d + 1, [], _, _, κ => κ true
  | d + 1, f :: fs, xs, ys, κ => match f.name == "_" with
    | true => eqFsK P d fs xs ys κ
    | false => match partV P f.type xs f.offset with
      | none => none
      | some a => match partV P f.type ys f.offset with
        | none => none
        | some b => eqK P d f.type a b fun c => match c with
          | false => κ false
          | true => eqFsK P d fs xs ys κ
def eqAsK (P : Program) : Nat → TypeId → Nat → List V → List V → List Nat → (Bool → Option β) → Option β
  | 0, _, _, _, _, _, _ => none
  | d + 1, _, _, _, _, [], κ => κ true
  | d + 1, e, n, xs, ys, i :: is, κ => match partV P e xs (Nat.mul i n) with
    | none => none
    | some a => match partV P e ys (Nat.mul i n) with
      | none => none
      | some b => eqK P d e a b fun c => match c with
        | false => κ false
        | true => eqAsK P d e n xs ys is κ
end
def isEq : BinOp → Bool
  | .eql => true
  | .neq => true
  | _ => false
def isDiv : BinOp → Bool
  | .quo => true
  | .rem => true
  | _ => false
def divV (op : BinOp) (k : IntKind) (a b : Int) : V := match op with
  | .quo => .int k (k.wrap (a.tdiv b))
  | _ => .int k (a.tmod b)
def shV (op : BinOp) (k : IntKind) (a : Int) (n : Nat) : V := match op with
  | .shl => .int k (k.wrap (a * 2 ^ (min n k.bits)))
  | _ => .int k (a.fdiv (2 ^ (min n k.bits)))
def negIf (op : BinOp) (b : Bool) : Bool := match op with
  | .neq => !b
  | _ => b
def binK (P : Program) (op : BinOp) (t : TypeId) (xo yo : Operand) (x y : V) (κ : V → Option β) : Option β :=
  match x, y with
  | .int k a, .int k' b => match isShift op with
    | true => chkK (intLe 0 b) (κ (shV op k a (toN b)))
    | false => match decide (k = k') with
      | true => match isDiv op with
        | true => chkK (!(b == 0)) (κ (divV op k a b))
        | false => optK (arithV op k a b) κ
      | false => none
  | .agg a, .agg b => match !(P.eqGuardType P.depth t) && isEq op with
    | true => eqK P 30 t (.agg a) (.agg b) fun c => κ (.bool (negIf op c))
    | false => none
  | _, _ => optK (binV P op t xo yo x y) κ
def boolK (b : Option Bool) (κ : V → Option β) : Option β := match b with
  | some c => κ (.bool c)
  | none => none
/-- One operation, and what is done behind it. -/
def exK : Op → Program → (Operand → Option V) → Mem → (V → Mem → Option β) → Option β
  | .move x => fun _ ev m κ => optK (ev x) fun v => κ v m
  | .assign x => fun _ ev m κ => optK (ev x) fun v => κ v m
  | .indexAddr t x i => fun P ev m κ => optK (ev x) fun a => optK (ev i) fun b => indexAddrK P t a b fun v => κ v m
  | .load t a => fun P ev m κ => optK (ev a) fun v => optK (loadV P t v m) fun u => κ u m
  | .store t a x => fun P ev m κ => optK (ev a) fun p => optK (ev x) fun v => optK (storeV P t p v m) fun m' => κ undefV m'
  | .binOp op t x y _ => fun P ev m κ => optK (ev x) fun a => optK (ev y) fun b => binK P op t x y a b fun v => κ v m
  | .makeSlice t a b => fun P ev m κ => optK (ev a) fun x => optK (ev b) fun y => makeIK P t x y m κ
  | op => fun P ev m κ => pairK (exOp op P ev m) κ
end

abbrev GoS (β : Type) := Tr V → List VI → RF → List Fr → Mem → Option β
/-- Functions whose contract may have no answer, with what is done behind them handed in. -/
structure KTab where
  get : {β : Type} → FuncId → Option (List V → Mem → (V → Mem → Option β) → Option β)
def KTab.none : KTab := ⟨fun _ => Option.none⟩
structure EnvS where
  E : Env
  K : KTab
  q : FuncId → Tmp → Bool
  draw : {β : Type} → (Tmp → Bool) → Array Oper → Nat → Tr V → Mem → (Tr V → Mem → Option β) → Option β
section
variable {β : Type}
def putS (go : GoS β) (l : List Oper) (all : Array Oper) (k : List VI) (r : RF) (fs : List Fr) (m : Mem) : Option (Tr V) → Option β
  | none => none
  | some tm => go tm (.ops l all :: k) r fs m
def valS (q : FuncId → Tmp → Bool) (go : GoS β) (d : Option Tmp) (l : List Oper) (all : Array Oper) (k : List VI) (tm : Tr V) (r : RF) (fs : List Fr) (v : V) (m : Mem) : Option β :=
  splitD (q r.fn) d v fun v => putS go l all k r fs m (putTm r.nt tm d v)
def entS (go : GoS β) (kind : KV) (g : FuncId) (as : List V) (fs : List Fr) (m : Mem) : Option (Nat × Code) → Option β
  | none => none
  | some (nt, c) => go (Tr.fill as 0 .nil) [.code c] ⟨g, nt, [], kind⟩ fs m
def ownS (q : FuncId → Tmp → Bool) (E : Env) (go : GoS β) (o : Oper) (l : List Oper) (all : Array Oper) (k : List VI) (tm : Tr V) (r : RF) (fs : List Fr) (m : Mem) (g : FuncId) (as : List V) : Option (List V → Mem → Option (V × Mem)) → Option β
  | some e => pairK (e as m) (valS q go o.dst l all k tm r fs)
  | none => entS go .normal g as (⟨tm, .ops (o :: l) all :: k, r⟩ :: fs) m (enterV E.P g as)
def kS (q : FuncId → Tmp → Bool) (E : Env) (go : GoS β) (o : Oper) (l : List Oper) (all : Array Oper) (k : List VI) (tm : Tr V) (r : RF) (fs : List Fr) (m : Mem) (g : FuncId) (as : List V) : Option (List V → Mem → (V → Mem → Option β) → Option β) → Option β
  | some e => e as m (valS q go o.dst l all k tm r fs)
  | none => ownS q E go o l all k tm r fs m g as (E.T.sum g)
def extS (q : FuncId → Tmp → Bool) (K : KTab) (E : Env) (go : GoS β) (o : Oper) (l : List Oper) (all : Array Oper) (k : List VI) (tm : Tr V) (r : RF) (fs : List Fr) (m : Mem) (g : FuncId) (as : List V) : Option (List V → Mem → Option (V × Mem)) → Option β
  | some e => pairK (e as m) (valS q go o.dst l all k tm r fs)
  | none => kS q E go o l all k tm r fs m g as (K.get g)
def callSG (q : FuncId → Tmp → Bool) (K : KTab) (E : Env) (go : GoS β) (o : Oper) (l : List Oper) (all : Array Oper) (k : List VI) (tm : Tr V) (r : RF) (fs : List Fr) (m : Mem) : Option (FuncId × List V × List V) → Option β
  | none => none
  | some (g, as, ca) => extS q K E go o l all k tm r fs m g (as ++ ca) (E.T.ext g)
def defS (go : GoS β) (o : Oper) (l : List Oper) (all : Array Oper) (k : List VI) (tm : Tr V) (r : RF) (fs : List Fr) (m : Mem) : Option (FuncId × List V × List V) → Option β
  | none => none
  | some (g, as, ca) => bif isRnd r.kind then none else putS go l all k ⟨r.fn, r.nt, .call g ca as :: r.df, r.kind⟩ fs m (putTm r.nt tm o.dst undefV)
def opS : OpC → EnvS → GoS β → Oper → List Oper → Array Oper → List VI → Tr V → RF → List Fr → Mem → Option β
  | .plain => fun S go o l all k tm r fs m => exK o.op S.E.P (evO S.E.T.g tm) m (valS S.q go o.dst l all k tm r fs)
  | .call c => fun S go o l all k tm r fs m => callSG S.q S.K S.E go o l all k tm r fs m (calleeV c.callee c.args (evO S.E.T.g tm))
  | .defr c => fun S go o l all k tm r fs m => defS go o l all k tm r fs m (calleeV c.callee c.args (evO S.E.T.g tm))
  | .pan _ => fun _ _ _ _ _ _ _ _ _ _ => none
  | .rcv => fun _ _ _ _ _ _ _ _ _ _ => none
def wantS (S : EnvS) (go : GoS β) (o : Oper) (l : List Oper) (all : Array Oper) (k : List VI) (tm : Tr V) (r : RF) (fs : List Fr) (m : Mem) : Bool → Option β
  | true => opS (opC o.op) S go o l all k tm r fs m
  | false => putS go l all k r fs m (putTm r.nt tm o.dst undefV)
def opsS : List Oper → Array Oper → EnvS → GoS β → List VI → Tr V → RF → List Fr → Mem → Option β
  | [] => fun _ _ go k tm r fs m => go tm k r fs m
  | o :: l => fun all S go k tm r fs m => wantS S go o l all k tm r fs m (wantedV all tm o.guard)
def condS (go : GoS β) (a b : Code) (k : List VI) (tm : Tr V) (r : RF) (fs : List Fr) (m : Mem) : Option V → Option β
  | some (.bool true) => go tm (.code a :: k) r fs m
  | some (.bool false) => go tm (.code b :: k) r fs m
  | _ => none
def exitS (go : GoS β) (tm : Tr V) (r : RF) (fs : List Fr) (m : Mem) : Option (List VI) → Option β
  | none => none
  | some k => go tm k r fs m
def regS : Bool → Array Oper → EnvS → GoS β → List VI → Tr V → RF → List Fr → Mem → Option β
  | false => fun ops _ go k tm r fs m => go tm (.ops ops.toList ops :: k) r fs m
  | true => fun ops S go k tm r fs m => S.draw (S.q r.fn) ops r.nt tm m fun tm m => go tm k r fs m
def codeS : Code → EnvS → GoS β → List VI → Tr V → RF → List Fr → Mem → Option β
  | .ret => fun _ go _ tm r fs m => go tm [.rt] r fs m
  | .skip => fun _ go k tm r fs m => go tm k r fs m
  | .label _ => fun _ go k tm r fs m => go tm k r fs m
  | .seq a b => fun _ go k tm r fs m => go tm (.code a :: .code b :: k) r fs m
  | .cond x a b => fun S go k tm r fs m => condS go a b k tm r fs m (evO S.E.T.g tm x)
  | .block id c => fun _ go k tm r fs m => go tm (.code c :: .blk id :: k) r fs m
  | .loop c => fun _ go k tm r fs m => go tm (.code c :: .lp c :: k) r fs m
  | .scope c => fun _ go k tm r fs m => go tm (.code c :: .sc c :: k) r fs m
  | .exit id => fun _ go k tm r fs m => exitS go tm r fs m (exitV id k)
  | .region _ ops d => fun S go k tm r fs m => regS d ops S go k tm r fs m
  | _ => fun _ _ _ _ _ _ _ => none
def finS (q : FuncId → Tmp → Bool) (fin : V → Mem → Option β) (go : GoS β) (v : V) (m : Mem) : List Fr → Option β
  | [] => fin v m
  | ⟨tm, .ops (o :: l) all :: k, r⟩ :: fs => valS q go o.dst l all k tm r fs v m
  | _ => none
def backS (go : GoS β) (m : Mem) : List Fr → Option β
  | ⟨tm, [.rt], r⟩ :: fs => go tm [.rt] r fs m
  | _ => none
def kindS (q : FuncId → Tmp → Bool) (fin : V → Mem → Option β) (go : GoS β) (fs : List Fr) (m : Mem) (v : V) : KV → Option β
  | .normal => finS q fin go v m fs
  | .deferred => backS go m fs
  | _ => none
def resS (q : FuncId → Tmp → Bool) (fin : V → Mem → Option β) (go : GoS β) (r : RF) (fs : List Fr) (m : Mem) : Option V → Option β
  | none => none
  | some v => kindS q fin go fs m v r.kind
def retS (q : FuncId → Tmp → Bool) (fin : V → Mem → Option β) (E : Env) (go : GoS β) (tm : Tr V) (r : RF) (fs : List Fr) (m : Mem) : List VD → Option β
  | .call f ca as :: ds => bif isRnd r.kind then none else entS go .deferred f (as ++ ca) (⟨tm, [.rt], ⟨r.fn, r.nt, ds, r.kind⟩⟩ :: fs) m (enterV E.P f (as ++ ca))
  | .coll _ :: _ => none
  | [] => bif isRnd r.kind then none else resS q fin go r fs m (resOf E.P r.fn tm m)
def viS (fin : V → Mem → Option β) : VI → EnvS → GoS β → List VI → Tr V → RF → List Fr → Mem → Option β
  | .code c => codeS c
  | .blk _ => fun _ go k tm r fs m => go tm k r fs m
  | .sc _ => fun _ go k tm r fs m => go tm k r fs m
  | .lp c => fun _ go k tm r fs m => go tm (.code c :: .lp c :: k) r fs m
  | .ops l all => opsS l all
  | .rt => fun S go _ tm r fs m => retS S.q fin S.E go tm r fs m r.df
  | _ => fun _ _ _ _ _ _ _ => none
def stepS (fin : V → Mem → Option β) : List VI → EnvS → GoS β → Tr V → RF → List Fr → Mem → Option β
  | [] => fun _ go tm r fs m => bif isRnd r.kind then none else go tm [.rt] r fs m
  | x :: k => fun S go tm r fs m => viS fin x S go k tm r fs m
def runS (S : EnvS) (fin : V → Mem → Option β) (n : Nat) : GoS β :=
  Nat.rec (motive := fun _ => GoS β) (fun _ _ _ _ _ => none) (fun _ ih tm todo r fs m => stepS fin todo S ih tm r fs m) n
theorem runS_succ (S : EnvS) (fin : V → Mem → Option β) (n : Nat) (tm : Tr V) (todo : List VI) (r : RF) (fs : List Fr) (m : Mem) : runS S fin (n + 1) tm todo r fs m = stepS fin todo S (runS S fin n) tm r fs m := rfl
def callS (S : EnvS) (n : Nat) (f : FuncId) (as : List V) (m : Mem) (fin : V → Mem → Option β) : Option β := entS (runS S fin n) .normal f as [] m (enterV S.E.P f as)

/-! regions that draw -/
def floatK : Op → Program → (Operand → Option V) → (Option (TypeId × List V × FRef) → Option β) → Option β
  | .makeSlice t a b => fun P ev κ => optK (ev a) fun x => optK (ev b) fun y => natK x fun l => natK y fun c => match P.underlying t with
    | some (.slice e) => match zeroV P e, P.info? e with
      | some (_, zs), some ie => chkK (Nat.ble l c) (chkK (Nat.ble (ie.bytes * c) 281474976710656) (chkK (Nat.ble c 281474976710656) (κ (some (e, repV zs c, .m l (c - l))))))
      | _, _ => none
    | _ => none
  | op => fun P ev κ => κ (floatV op P ev)
def actS (S : EnvS) (N : Nat) (o : Oper) (ev : Operand → Option V) (m : Mem) (κ : V → Mem → Option β) : Option β :=
  match opC o.op with
  | .call c => match calleeV c.callee c.args ev with
    | some (g, as, ca) => match S.E.T.ext g with
      | some e => pairK (e (as ++ ca) m) κ
      | none => match S.K.get g with
        | some e => e (as ++ ca) m κ
        | none => match S.E.T.sum g with
          | some e => pairK (e (as ++ ca) m) κ
          | none => callS S N g (as ++ ca) m κ
    | none => none
  | .plain => exK o.op S.E.P ev m κ
  | _ => none
def beqK (v u : V) (κ : Option β) : Option β := match v, u with
  | .int k a, .int k' b => match decide (k = k') with
    | true => chkK (a == b) κ
    | false => none
  | v, u => chkK (V.beq v u) κ
/-- What was read is as it was, whatever of it is read again. -/
def rdK (P : Program) (G : Nat) (ops : Array Oper) (i : Nat) (s : DS) : List Nat → Option β → Option β
  | [], κ => κ
  | j :: js, κ => match ancB ops 40 j i with
    | true => rdK P G ops i s js κ
    | false => match ops.toList[j]? with
      | none => none
      | some oj => exK oj.op P (evO G s.tm) (hideM s.m (hidIds ops j s.fl)) fun v _ => match oj.dst with
        | none => rdK P G ops i s js κ
        | some d => match s.tm.get d with
          | some u => beqK v u (rdK P G ops i s js κ)
          | none => none
def dUnwK (nt : Nat) (o : Oper) (s : DS) (κ : DS → Option β) : Option β := optK (dUnw nt o s) κ
def dSilK (q : Tmp → Bool) (P : Program) (G : Nat) (ops : Array Oper) (nt i : Nat) (o : Oper) (s : DS) (κ : DS → Option β) : Option β :=
  exK o.op P (evO G s.tm) (hideM s.m (hidIds ops i s.fl)) fun v _ => splitD q o.dst v fun v => optK (putTm nt s.tm o.dst v) fun tm =>
    κ ⟨tm, s.m, s.fl, bif readsB o.op then i :: s.rd else s.rd⟩
def dActK (q : Tmp → Bool) (S : EnvS) (N : Nat) (ops : Array Oper) (nt i : Nat) (o : Oper) (s : DS) (κ : DS → Option β) : Option β :=
  actS S N o (evO S.E.T.g s.tm) (hideM s.m (hidIds ops i s.fl)) fun v m1 => splitD q o.dst v fun v => optK (putTm nt s.tm o.dst v) fun tm =>
    rdK S.E.P S.E.T.g ops i ⟨tm, ⟨m1.nx, backAll s.m.t m1.t (hidIds ops i s.fl)⟩, s.fl, s.rd⟩ s.rd (κ ⟨tm, ⟨m1.nx, backAll s.m.t m1.t (hidIds ops i s.fl)⟩, s.fl, s.rd⟩)
def goK (q : Tmp → Bool) (S : EnvS) (N : Nat) (ops : Array Oper) (nt : Nat) : List Nat → Array Bool → DS → (DS → Option β) → Option β
  | [], X, s, κ => match Region.ready .any ops X with
    | [] => κ s
    | _ => none
  | i :: l, X, s, κ => match ops.toList[i]? with
    | none => none
    | some o => match isIn i (Region.ready .any ops X) with
      | false => none
      | true => match wantedV ops s.tm o.guard with
        | false => dUnwK nt o s fun s' => goK q S N ops nt l (X.setIfInBounds i true) s' κ
        | true => match silentB S.E.P o.op with
          | true => dSilK q S.E.P S.E.T.g ops nt i o s fun s' => goK q S N ops nt l (X.setIfInBounds i true) s' κ
          | false => floatK o.op S.E.P (evO S.E.T.g s.tm) fun fl => match dFlt nt i o s fl with
            | some s' => goK q S N ops nt l (X.setIfInBounds i true) s' κ
            | none => match isOne i (Region.ready .any ops X) with
              | true => dActK q S N ops nt i o s fun s' => goK q S N ops nt l (X.setIfInBounds i true) s' κ
              | false => none
def drawK (q : Tmp → Bool) (S : EnvS) (N : Nat) (ops : Array Oper) (nt : Nat) (tm : Tr V) (m : Mem) (κ : Tr V → Mem → Option β) : Option β :=
  match ssaB ops && backB ops with
  | false => none
  | true => goK q S N ops nt (orderD S.E.P ops ops.size (Array.replicate ops.size false)) (Array.replicate ops.size false) ⟨tm, m, [], []⟩ fun s => κ s.tm s.m
end
def envK (K : KTab) (q : FuncId → Tmp → Bool) (P : Program) (T : Tab) (N : Nat) : Nat → EnvS
  | 0 => ⟨envD P T N 0, K, q, fun _ _ _ _ _ _ => none⟩
  | d + 1 => ⟨envD P T N (d + 1), K, q, fun q' ops nt tm m κ => drawK q' (envK K q P T N d) N ops nt tm m κ⟩
abbrev envQ := envK KTab.none
abbrev envS := envQ (fun _ _ => false)
end Go.CE
