/- An evaluator of the model's code over abstract values (what a value is, memory and all, without the places where it lies); no condition. -/
import Derived.Orders
import Derived.Maps.AppendAt
import Derived.Below
import Derived.Deep.AppendLies
namespace Go.Proofs.YtmehknlijcbphaaGreatDoor.Ev
open Go

/-- What a value is: a value without memory; a struct; a slice of n elements, with the room behind it that is its own; a place in a box of the function; a place that is only read; several results; a function with what it holds. -/
inductive AV where
  | any
  | lit (v : Value)
  | agg (cs : List AV)
  | sl (n : Nat) (cs : List AV) (tok : Option (Nat × TypeId × Nat))
  | box (k off : Nat)
  | rd (cs : List AV)
  | tup (cs : List AV)
  | clo (f : Nat) (cs : List AV)
  | sym (i : Nat)
  deriving Inhabited
/-- Values that are not known: one cell each. -/
class Syms where
  val : Nat → Value
  one : ∀ i, (val i).oneCell' = true

/-- The program's tables, as far as they are known. -/
structure Tab where
  info : TypeId → Option TypeInfo
  under : TypeId → Option TypeDesc
  fn : FuncId → Option Func
  orc : BinOp → AV → AV → Option Bool

structure St where
  tmps : List AV
  boxes : List (Nat × TypeId × List AV)
  live : List Nat
  nid : Nat
  deriving Inhabited

inductive Eff where
  | none
  | box (e : TypeId) (cs : List AV)
  | tok (old : Option Nat)
  | store (k : Nat) (cs : List AV)
  deriving Inhabited

/-- What an operation may look at. -/
structure Env where
  tm : Nat → AV
  bx : Nat → Option (TypeId × List AV)
  lv : Nat → Bool
  id : Nat

def lits (cs : Array Value) : Option (List AV) := if cs.toList.all (·.oneCell') then some (cs.toList.map AV.lit) else none

/-- The cells of a value. -/
def cellsOf : AV → Option (List AV)
  | .agg cs => some cs
  | .lit (.agg cs) => lits cs
  | .lit (.tuple _) => none
  | .lit v => some [.lit v]
  | .sl n cs tok => some [.sl n cs tok]
  | .box k off => some [.box k off]
  | .rd cs => some [.rd cs]
  | .clo f cs => some [.clo f cs]
  | .sym i => some [.sym i]
  | _ => none

/-- A value without memory. -/
def toVal : AV → Option Value
  | .lit v => some v
  | .agg cs => (go cs).map fun vs => .agg vs.toArray
  | _ => none
where go : List AV → Option (List Value)
  | [] => some []
  | .lit v :: r => if v.oneCell' then (go r).map (v :: ·) else none
  | _ :: _ => none

def evX (tm : Nat → AV) : Operand → AV
  | .tmp t => tm t
  | .const v => .lit v
  | .global g => .lit (.pointer (some ⟨g, 0, none⟩))
  | .func f => .lit (.func (.func f) #[] #[])

/-- What a text that asks only for the program comes to. -/
def pureRun (P : Program) {α : Type} : Sem α → Option α
  | .pure a => some a
  | .program k => pureRun P (k P)
  | .mark _ k => pureRun P k
  | _ => none

/-- cs with ys at place i. -/
def put : List AV → Nat → List AV → List AV
  | cs, _, [] => cs
  | [], _, _ => []
  | _ :: cs, 0, y :: ys => y :: put cs 0 ys
  | c :: cs, i + 1, ys => c :: put cs i ys

/-- The parts of a struct or a slice, one after the other. -/
def fillAV (place : Nat → Option (Nat × Nat)) : List AV → List (Nat × AV) → Option (List AV)
  | cs, [] => some cs
  | cs, (i, v) :: rest =>
    match place i, cellsOf v with
    | some (off, size), some ys => if ys.length = size then (if off + size ≤ cs.length then fillAV place (put cs off ys) rest else none) else none
    | _, _ => none

def zeroCellsAV (i : TypeInfo) : Option (List AV) :=
  match i.zero with
  | some z => if z.cells.size = i.size then lits z.cells else none
  | none => none

def isAggD : TypeDesc → Bool
  | .struct _ | .array _ _ => true
  | _ => false

/-- Read so many cells. -/
def readAV (T : Tab) (t : TypeId) (cs : List AV) : Option AV :=
  match T.under t, T.info t with
  | some d, some i =>
    if isAggD d then (if i.size ≤ cs.length then some (.agg (cs.take i.size)) else none)
    else cs.head?
  | _, _ => none

def mkStr (l : List UInt8) : ByteArray := ⟨l.toArray⟩
def bytesEq : List UInt8 → List UInt8 → Bool
  | [], [] => true
  | a :: x, b :: y => if a.toNat = b.toNat then bytesEq x y else false
  | _, _ => false

/-- An operation on values without memory. -/
def evLit (P : Program) (T : Tab) (o : Oper) (ρ : Operand → Value) : Option Value :=
  match o.op with
  | .binOp op xt x y _ =>
    match ρ x, ρ y with
    | .string a, .string b =>
      match op with
      | .eql => some (.bool (bytesEq a.data.toList b.data.toList))
      | .neq => some (.bool !(bytesEq a.data.toList b.data.toList))
      | .add => if a.size + b.size ≤ 1000000 then some (.string (mkStr (a.data.toList ++ b.data.toList))) else none
      | _ => none
    | u, v => pureRun P (do eqGuard op xt x y u v; binOp op xt u v)
  | .unOp op _ x => pureRun P (Op.unary op (ρ x))
  | .convert src dst x => pureRun P (convert src dst (ρ x))
  | .index t x i =>
    match T.under t, ρ x, ρ i with
    | some .string, .string s, .int _ k => if 0 ≤ k then (s.data.toList[k.toNat]?).map fun b => .int .u8 b.toNat else none
    | _, _, _ => none
  | .slice t x lo hi none =>
    match T.under t, ρ x, lo.map ρ, hi.map ρ with
    | some .string, .string s, none, some (.int _ h) => if 0 ≤ h ∧ h ≤ s.size then some (.string (mkStr (s.data.toList.take h.toNat))) else none
    | some .string, .string s, some (.int _ l), none => if 0 ≤ l ∧ l ≤ s.size then some (.string (mkStr (s.data.toList.drop l.toNat))) else none
    | some .string, .string s, some (.int _ l), some (.int _ h) => if 0 ≤ l ∧ l ≤ h ∧ h ≤ s.size then some (.string (mkStr ((s.data.toList.drop l.toNat).take (h.toNat - l.toNat)))) else none
    | _, _, _, _ => none
  | _ => none

/-- What is handed to a call, or back: no place of the caller's, no room to grow. -/
def strip (bx : Nat → Option (TypeId × List AV)) : Nat → AV → Option AV
  | 0, _ => none
  | _ + 1, .any => some .any
  | _ + 1, .lit v => some (.lit v)
  | _ + 1, .sym i => some (.sym i)
  | d + 1, .agg cs => (cs.mapM (strip bx d)).map .agg
  | d + 1, .sl n cs _ => (cs.mapM (strip bx d)).map fun cs => .sl n cs none
  | d + 1, .rd cs => (cs.mapM (strip bx d)).map .rd
  | d + 1, .tup cs => (cs.mapM (strip bx d)).map .tup
  | d + 1, .clo f cs => (cs.mapM (strip bx d)).map (.clo f)
  | d + 1, .box k off => match bx k with
    | some (_, cs) => ((cs.drop off).mapM (strip bx d)).map .rd
    | none => none
def noBox : Nat → Option (TypeId × List AV) := fun _ => none
/-- No memory at all. -/
def flat : Nat → AV → Bool
  | 0, _ => false
  | _ + 1, .lit _ => true
  | _ + 1, .sym _ => true
  | d + 1, .agg cs => cs.all (flat d)
  | d + 1, .tup cs => cs.all (flat d)
  | _, _ => false

def evCallee (E : Env) : Callee → Option (Nat × List AV)
  | .value f => match evX E.tm f with
    | .lit (.func (.func g) fst cap) => if fst.size = 0 ∧ cap.size = 0 then some (g, []) else none
    | .clo g cs => some (g, cs)
    | _ => none
  | _ => none

/-- One operation: its value, and what it does. -/
def evOp (P : Program) (T : Tab) (call : FuncId → List AV → Option AV) (E : Env) (o : Oper) : Option (AV × Eff) :=
  match o.op with
  | .move x | .assign x => some (evX E.tm x, .none)
  | .pick c a b => match evX E.tm c with
    | .lit (.bool t) => some (if t then evX E.tm a else evX E.tm b, .none)
    | _ => none
  | .alloc e => match T.info e with
    | some i => (zeroCellsAV i).map fun cs => (.box E.id 0, .box e cs)
    | none => none
  | .box e x => (cellsOf (evX E.tm x)).map fun cs => (.box E.id 0, .box e cs)
  | .build t parts => match T.under t, T.info t with
    | some (.struct fields), some i => match zeroCellsAV i, fields.toList.mapM (fun f => (T.info f.type).map fun j => (f.offset, j.size)) with
      | some z, some places => (fillAV (places[·]?) z (parts.toList.map fun p => (p.1, evX E.tm p.2))).map fun cs => (.agg cs, .none)
      | _, _ => none
    | _, _ => none
  | .buildSlice t len parts => match T.under t with
    | some (.slice e) => match T.info e with
      | some i => match zeroCellsAV i with
        | some z => if 0 < i.size ∧ len * i.size ≤ 10000 then
            (fillAV (fun k => some (k * i.size, i.size)) ((List.replicate len z).flatten) (parts.toList.map fun p => (p.1, evX E.tm p.2))).map fun cs =>
              (.sl len cs (some (E.id, e, i.size)), .tok none)
          else none
        | none => none
      | none => none
    | _ => none
  | .load t x => match evX E.tm x with
    | .box k off => match E.bx k with
      | some (_, cs) => (readAV T t (cs.drop off)).map fun v => (v, .none)
      | none => none
    | .rd cs => (readAV T t cs).map fun v => (v, .none)
    | _ => none
  | .store t x y => match evX E.tm x, T.info t, cellsOf (evX E.tm y) with
    | .box k off, some i, some ys => match E.bx k with
      | some (_, cs) => if ys.length = i.size ∧ off + ys.length ≤ cs.length then some (.any, .store k (put cs off ys)) else none
      | none => none
    | _, _, _ => none
  | .fieldAddr s x f => match T.under s with
    | some (.struct fields) => match fields[f]? with
      | some fd => match T.info fd.type with
        | some i => if i.size = 0 then none else match evX E.tm x with
          | .box k off => some (.box k (off + fd.offset), .none)
          | .rd cs => some (.rd (cs.drop fd.offset), .none)
          | _ => none
        | none => none
      | none => none
    | _ => none
  | .indexAddr t x i => match T.under t with
    | some (.slice e) => match T.info e, evX E.tm x, evX E.tm i with
      | some j, .sl n cs _, .lit (.int _ k) => if 0 ≤ k ∧ k < n ∧ j.size * n = cs.length then some (.rd ((cs.drop (k.toNat * j.size)).take j.size), .none) else none
      | _, _, _ => none
    | _ => none
  | .field s x f => match T.under s with
    | some (.struct fields) => match fields[f]?, evX E.tm x with
      | some fd, .agg cs => (readAV T fd.type (cs.drop fd.offset)).map fun v => (v, .none)
      | _, _ => none
    | _ => none
  | .extract x i => match evX E.tm x with
    | .tup vs => (vs[i]?).map fun v => (v, .none)
    | _ => none
  | .makeFunc (.func f) fst cap => if fst.size = 0 then some (.clo f (cap.toList.map (evX E.tm)), .none) else none
  | .call { callee := .builtin .len, args, argTypes } => match args.toList, argTypes.toList with
    | [x], [t] => match T.under t, evX E.tm x with
      | some (.slice _), .sl n _ _ => some (.lit (.int .i64 n), .none)
      | some (.slice _), .lit (.slice _ n _) => some (.lit (.int .i64 n), .none)
      | some .string, .lit (.string s) => some (.lit (.int .i64 s.size), .none)
      | _, _ => none
    | _, _ => none
  | .call { callee := .builtin .append, args, argTypes } => match args.toList, argTypes.toList with
    | [s, x], [t, t'] => if t = t' then match T.under t with
      | some (.slice e) => match T.info e with
        | some i => if 0 < i.size ∧ (zeroCellsAV i).isSome then
            match evX E.tm s, evX E.tm x with
            | .lit (.slice none 0 0), .sl m ys _ => if 0 < m ∧ ys.length = m * i.size ∧ m * i.bytes ≤ 1000000 ∧ m ≤ 1000000 then some (.sl m ys (some (E.id, e, i.size)), .tok none) else none
            | .sl n cs (some (k, e', sz)), .sl m ys _ =>
              if e' = e ∧ sz = i.size ∧ E.lv k = true ∧ 0 < m ∧ ys.length = m * i.size ∧ (n + m) * i.bytes ≤ 1000000 ∧ n + m ≤ 1000000 then
                some (.sl (n + m) (cs ++ ys) (some (E.id, e, i.size)), .tok (some k)) else none
            | .lit (.slice none 0 0), .lit (.slice none 0 0) => some (.lit (.slice none 0 0), .none)
            | .sl n cs tk, .lit (.slice none 0 0) => some (.sl n cs tk, .none)
            | _, _ => none
          else none
        | none => none
      | _ => none
      else none
    | _, _ => none
  | .call { callee := .builtin .max, args, .. } => match args.toList with
    | [x, y] => match evX E.tm x, evX E.tm y with
      | .lit (.int k p), .lit (.int _ q) => some (.lit (.int k (if p < q then q else p)), .none)
      | _, _ => none
    | _ => none
  | .call { callee := c, args, .. } => match evCallee E c with
    | some (g, cap) => match (args.toList.map (evX E.tm) ++ cap).mapM (strip noBox 50) with
      | some vs => match call g vs with
        | some (.sl n cs (some (_, e, sz))) => (cs.mapM (strip noBox 50)).map fun cs => (.sl n cs (some (E.id, e, sz)), .tok none)
        | some r => (strip noBox 50 r).map fun r => (r, .none)
        | none => none
      | none => match (args.toList.map (evX E.tm) ++ cap).mapM (strip E.bx 50) with
        | some vs => match call g vs with
          | some r => if flat 50 r then some (r, .none) else none
          | none => none
        | none => none
    | none => none
  | .binOp op xt x y yt => match T.orc op (evX E.tm x) (evX E.tm y) with
    | some b => some (.lit (.bool b), .none)
    | none => match evX E.tm x, evX E.tm y with
    | .sl _ _ _, .lit (.slice none 0 0) => match op, T.under xt with
      | .eql, some (.slice _) => some (.lit (.bool false), .none)
      | .neq, some (.slice _) => some (.lit (.bool true), .none)
      | _, _ => none
    | u, v => match toVal u, toVal v with
      | some _, some _ => (evLit P T { o with op := .binOp op xt x y yt } (fun z => (toVal (evX E.tm z)).getD undef)).map fun v => (.lit v, .none)
      | _, _ => none
  | op => if op.operands.toList.all (fun z => (toVal (evX E.tm z)).isSome) then
      (evLit P T o (fun z => (toVal (evX E.tm z)).getD undef)).map fun v => (.lit v, .none) else none

def lookup {α : Type} : List (Nat × α) → Nat → Option α
  | [], _ => none
  | (i, x) :: r, k => if i = k then some x else lookup r k

def update (l : List (Nat × TypeId × List AV)) (k : Nat) (cs : List AV) : List (Nat × TypeId × List AV) :=
  match l with
  | [] => []
  | (i, e, x) :: r => if i = k then (i, e, cs) :: r else (i, e, x) :: update r k cs

def setAt : List AV → Nat → AV → List AV
  | [], _, _ => []
  | _ :: r, 0, v => v :: r
  | x :: r, i + 1, v => x :: setAt r i v
def getAt : List AV → Nat → AV
  | [], _ => .any
  | x :: _, 0 => x
  | _ :: r, i + 1 => getAt r i

def St.env (st : St) : Env := { tm := getAt st.tmps, bx := lookup st.boxes, lv := fun k => st.live.elem k, id := st.nid }

def St.set (st : St) (dst : Option Nat) (v : AV) : St := match dst with
  | some d => { st with tmps := setAt st.tmps d v }
  | none => st
def St.eff (st : St) (e : Eff) : St := match e with
  | .none => { st with nid := st.nid + 1 }
  | .box e cs => { st with boxes := (st.nid, e, cs) :: st.boxes, nid := st.nid + 1 }
  | .tok none => { st with live := st.nid :: st.live, nid := st.nid + 1 }
  | .tok (some k) => { st with live := st.nid :: st.live.filter (fun j => decide (j ≠ k)), nid := st.nid + 1 }
  | .store k cs => { st with boxes := update st.boxes k cs, nid := st.nid + 1 }

/-- Is the operation wanted? -/
def evWanted (ops : Array Oper) (tm : Nat → AV) (o : Oper) : Option Bool :=
  match o.guard with
  | none => some true
  | some (j, want) => match (ops[j]?).bind (·.dst) with
    | some d => match tm d with
      | .lit (.bool b) => some (b == want)
      | _ => none
    | none => none

/-- An operation that is not wanted leaves nothing; one whose wish is not known may leave anything. -/
def evStep (P : Program) (T : Tab) (call : FuncId → List AV → Option AV) (ops : Array Oper) (E : Env) (o : Oper) : Option (AV × Eff) :=
  match evWanted ops E.tm o with
  | some true => evOp P T call E o
  | some false => some (.lit undef, .none)
  | none => none

def evSeq (P : Program) (T : Tab) (call : FuncId → List AV → Option AV) (ops : Array Oper) : List Oper → St → Option St
  | [], st => some st
  | o :: r, st => match evStep P T call ops st.env o with
    | some (v, e) => evSeq P T call ops r ((st.set o.dst v).eff e)
    | none => none

/-! Regions whose order is open -/

/-- For each operation: which ones come ahead of it, whatever the order. -/
def closures : List Oper → List Nat → List Nat
  | [], acc => acc
  | o :: r, acc => closures r (acc ++ [o.after.toList.foldl (fun m e => if Region.binds .any e then m ||| (2 ^ e.on ||| acc.getD e.on 0) else m) 0])

def writers : List Oper → Nat → List (Nat × Nat)
  | [], _ => []
  | o :: r, i => match o.dst with
    | some d => (d, i) :: writers r (i + 1)
    | none => writers r (i + 1)

def nodup : List (Nat × Nat) → Bool
  | [] => true
  | (d, _) :: r => (lookup r d).isNone && nodup r

/-- The box that an address leads into. -/
def addrKey (st : St) (W : List (Nat × Nat)) (ops : List Oper) : Nat → Operand → Option Nat
  | 0, _ => none
  | d + 1, .tmp t => match lookup W t with
    | some j => match ops[j]? with
      | some o => match o.op with
        | .alloc _ | .box _ _ => some (st.nid + j)
        | .fieldAddr _ x _ => addrKey st W ops d x
        | .move x | .assign x => addrKey st W ops d x
        | _ => none
      | none => none
    | none => match getAt st.tmps t with
      | .box k _ => some k
      | _ => none
  | _, _ => none
/-- Which operation stores into which box. -/
def storesOf (st : St) (W : List (Nat × Nat)) (ops : List Oper) : List Oper → Nat → Option (List (Nat × Nat))
  | [], _ => some []
  | o :: r, i => match o.op with
    | .store _ x _ => match addrKey st W ops 10 x, storesOf st W ops r (i + 1) with
      | some k, some l => some ((k, i) :: l)
      | _, _ => none
    | _ => storesOf st W ops r (i + 1)

/-- What does not turn while a region runs. -/
structure Reg where
  st : St
  cl : List Nat
  W : List (Nat × Nat)
  S : List (Nat × Nat)

/-- Does j come ahead of i, whatever the order? -/
def Reg.ahead (R : Reg) (j i : Nat) : Bool := (R.cl.getD i 0).testBit j

/-- May operation i look into box k? Not where another stores into it, but for those ahead of that one. -/
def mayTouch (R : Reg) (i k : Nat) : Bool := match lookup R.S k with
  | some s => decide (i = s) || R.ahead i s
  | none => true
/-- What operation i may look at, whenever its turn comes. -/
def drawEnv (R : Reg) (i : Nat) (res : List AV) (made : List (Nat × TypeId × List AV)) (toks : List Nat) (cons : List Nat) : Env where
  tm t := match lookup R.W t with
    | none => getAt R.st.tmps t
    | some j => if j < i then (if R.ahead j i then getAt res j else .any)
      else if j = i then getAt R.st.tmps t
      else if R.ahead i j then getAt R.st.tmps t else .any
  bx k := if mayTouch R i k = true then
      (if R.st.nid ≤ k then (if R.ahead (k - R.st.nid) i then lookup made k else none) else lookup R.st.boxes k) else none
  lv k := (R.st.live.elem k || (R.st.nid ≤ k && R.ahead (k - R.st.nid) i && toks.elem k)) && !cons.elem k
  id := R.st.nid + i

def evDraw (P : Program) (T : Tab) (call : FuncId → List AV → Option AV) (ops : Array Oper) (R : Reg) :
    List Oper → Nat → List AV → List Eff → List (Nat × TypeId × List AV) → List Nat → List Nat → Option (List AV × List Eff)
  | [], _, res, effs, _, _, _ => some (res, effs)
  | o :: r, i, res, effs, made, toks, cons => match evStep P T call ops (drawEnv R i res made toks cons) o with
    | some (v, .none) => evDraw P T call ops R r (i + 1) (res ++ [v]) (effs ++ [.none]) made toks cons
    | some (v, .box e cs) => evDraw P T call ops R r (i + 1) (res ++ [v]) (effs ++ [.box e cs]) ((R.st.nid + i, e, cs) :: made) toks cons
    | some (v, .tok none) => evDraw P T call ops R r (i + 1) (res ++ [v]) (effs ++ [.tok none]) made ((R.st.nid + i) :: toks) cons
    | some (v, .tok (some k)) => if (drawEnv R i res made toks cons).lv k = true then
        evDraw P T call ops R r (i + 1) (res ++ [v]) (effs ++ [.tok (some k)]) made ((R.st.nid + i) :: toks) (k :: cons) else none
    | some (v, .store k cs) => if lookup R.S k = some i ∧ ((drawEnv R i res made toks cons).bx k).isSome = true then
        evDraw P T call ops R r (i + 1) (res ++ [v]) (effs ++ [.store k cs]) made toks cons else none
    | none => none

def setAll (res : List AV) : List (Nat × Nat) → List AV → List AV
  | [], ts => ts
  | (d, j) :: r, ts => setAll res r (setAt ts d (getAt res j))
def madeAll : List Eff → Nat → List (Nat × TypeId × List AV) → List (Nat × TypeId × List AV)
  | [], _, l => l
  | .box e cs :: r, i, l => madeAll r (i + 1) ((i, e, cs) :: l)
  | _ :: r, i, l => madeAll r (i + 1) l
def storeOf : List Eff → Nat → Option (List AV)
  | [], _ => none
  | .store j cs :: r, k => if j = k then some cs else storeOf r k
  | _ :: r, k => storeOf r k
def prodIds : List Eff → Nat → List Nat
  | [], _ => []
  | .tok _ :: r, i => i :: prodIds r (i + 1)
  | _ :: r, i => prodIds r (i + 1)
def consIds : List Eff → List Nat
  | [] => []
  | .tok (some k) :: r => k :: consIds r
  | _ :: r => consIds r
def storeAll (effs : List Eff) : List (Nat × TypeId × List AV) → List (Nat × TypeId × List AV)
  | [] => []
  | (k, e, cs) :: r => (k, e, (storeOf effs k).getD cs) :: storeAll effs r
/-- Each operation comes behind what it waits for. -/
def edgesOk : List Oper → Nat → Bool
  | [], _ => true
  | o :: r, i => o.after.toList.all (fun e => !Region.binds .any e || decide (e.on < i)) && edgesOk r (i + 1)

def evRegion (P : Program) (T : Tab) (call : FuncId → List AV → Option AV) (ops : Array Oper) (draw : Bool) (st : St) : Option St :=
  if draw = false then evSeq P T call ops ops.toList st else
  let l := ops.toList
  let W := writers l 0
  match storesOf st W l l 0 with
  | some S => if nodup W && W.all (fun p => decide (p.1 < st.tmps.length)) && edgesOk l 0 then
      match evDraw P T call ops { st := st, cl := closures l [], W := W, S := S } l 0 [] [] [] [] [] with
      | some (res, effs) => some { tmps := setAll res W st.tmps, boxes := storeAll effs (madeAll effs st.nid st.boxes), live := (prodIds effs st.nid ++ st.live).filter (fun k => !(consIds effs).elem k), nid := st.nid + l.length }
      | none => none
    else none
  | none => none

inductive Ex where
  | normal
  | exit (id : Nat)
  | ret

def evCode (P : Program) (T : Tab) (call : FuncId → List AV → Option AV) : Nat → Code → St → Option (Ex × St)
  | 0, _, _ => none
  | n + 1, c, st => match c with
    | .skip => some (.normal, st)
    | .region _ ops draw => (evRegion P T call ops draw st).map fun st => (.normal, st)
    | .seq a b => match evCode P T call n a st with
      | some (.normal, st) => evCode P T call n b st
      | r => r
    | .cond c x y => match evX (getAt st.tmps) c with
      | .lit (.bool true) => evCode P T call n x st
      | .lit (.bool false) => evCode P T call n y st
      | _ => none
    | .block id c => match evCode P T call n c st with
      | some (.exit id', st) => if id' = id then some (.normal, st) else some (.exit id', st)
      | r => r
    | .loop c => match evCode P T call n c st with
      | some (.normal, st) => evCode P T call n (.loop c) st
      | r => r
    | .exit id => some (.exit id, st)
    | .ret => some (.ret, st)
    | _ => none

def evResult (T : Tab) (st : St) : ResultVar → Option AV
  | .tmp t => some (getAt st.tmps t)
  | .cell a t => match getAt st.tmps a with
    | .box k off => match lookup st.boxes k with
      | some (_, cs) => readAV T t (cs.drop off)
      | none => none
    | _ => none

def evBody (P : Program) (T : Tab) (call : FuncId → List AV → Option AV) (fuel : Nat) (f : FuncId) (args : List AV) : Option AV :=
  match T.fn f with
  | some fn => match fn.body with
    | some c => match evCode P T call fuel c { tmps := args ++ List.replicate (fn.ntmps - args.length) .any, boxes := [], live := [], nid := 0 } with
      | some (.exit _, _) => none
      | some (_, st) => match fn.results.toList.mapM (evResult T st) with
        | some [.sl n cs (some (k, e, sz))] => if st.live.elem k then (cs.mapM (strip noBox 50)).map fun cs => .sl n cs (some (0, e, sz)) else (cs.mapM (strip noBox 50)).map fun cs => .sl n cs none
        | some [v] => strip noBox 50 v
        | some vs => (strip noBox 50 (.tup vs))
        | none => none
      | none => none
    | none => none
  | none => none

/-- Calls so deep; ext: what is known of functions otherwise. -/
def evCall (P : Program) (T : Tab) (ext : FuncId → Option (List AV → Option AV)) (fuel : Nat) : Nat → FuncId → List AV → Option AV
  | 0, _, _ => none
  | n + 1, f, args => match ext f with
    | some g => match g args with
      | some r => some r
      | none => evBody P T (evCall P T ext fuel n) fuel f args
    | none => evBody P T (evCall P T ext fuel n) fuel f args

end Go.Proofs.YtmehknlijcbphaaGreatDoor.Ev
