/-
  A machine that carries out the model's code with names in the place of addresses: definitions alone. Over any program.
-/
import Derived.Test.YtbmekelkddllkaaMap
namespace Go.Ex
open Go

noncomputable section

/-! ### tries -/
inductive Tr (A : Type) where
  | nil
  | tip (k : Nat) (v : A)
  | node (l r : Tr A)

def Tr.get {A : Type} (t : Tr A) : Nat → Nat → Option A :=
  Tr.rec (motive := fun _ => Nat → Nat → Option A) (fun _ _ => none) (fun k v n _ => Bool.rec none (some v) (Nat.beq k n))
    (fun _ _ gl gr n s => Bool.rec (gr n (Nat.succ s)) (gl n (Nat.succ s)) (Nat.beq (Nat.land (Nat.shiftRight n s) 1) 0)) t
def Tr.split {A : Type} (k : Nat) (u : A) (n : Nat) (v : A) (f : Nat) : Nat → Tr A :=
  Nat.rec (motive := fun _ => Nat → Tr A) (fun _ => .nil) (fun _ ih s =>
    Bool.rec (Bool.rec (.node .nil (ih (Nat.succ s))) (.node (.tip n v) (.tip k u)) (Nat.beq (Nat.land (Nat.shiftRight n s) 1) 0))
      (Bool.rec (.node (.tip k u) (.tip n v)) (.node (ih (Nat.succ s)) .nil) (Nat.beq (Nat.land (Nat.shiftRight n s) 1) 0))
      (Nat.beq (Nat.land (Nat.shiftRight k s) 1) 0)) f
def Tr.ins {A : Type} (t : Tr A) (n : Nat) (v : A) : Nat → Tr A :=
  Tr.rec (motive := fun _ => Nat → Tr A) (fun _ => .tip n v) (fun k u s => Bool.rec (Tr.split k u n v 80 s) (.tip n v) (Nat.beq k n))
    (fun l r il ir s => Bool.rec (.node l (ir (Nat.succ s))) (.node (il (Nat.succ s)) r) (Nat.beq (Nat.land (Nat.shiftRight n s) 1) 0)) t
def Tr.cut {A : Type} (t : Tr A) (n : Nat) : Nat → Tr A :=
  Tr.rec (motive := fun _ => Nat → Tr A) (fun _ => .nil) (fun k u _ => Bool.rec (.tip k u) .nil (Nat.beq k n))
    (fun l r il ir s => Bool.rec (.node l (ir (Nat.succ s))) (.node (il (Nat.succ s)) r) (Nat.beq (Nat.land (Nat.shiftRight n s) 1) 0)) t
def Tr.at' {A : Type} (t : Tr A) (n : Nat) : Option A := t.get n 0
def Tr.set {A : Type} (t : Tr A) (n : Nat) (v : A) : Tr A := t.ins n v 0
def Tr.del {A : Type} (t : Tr A) (n : Nat) : Tr A := t.cut n 0

/-! ### values -/
inductive SV where
  | sc (v : Value)
  | ptr (b off : Nat)
  | sl (b off len cap : Nat)
  | slu (b off eo len : Nat)
  | mp (b : Nat)
  | yld (b : Nat)
  | agg (l : List SV)
  | tup (l : List SV)
  | ifc (t : TypeId) (v : SV)
  | fn (f : Fn) (first captured : List SV)

mutual
def SV.lit : SV → Option Value
  | .sc v => some v
  | .agg l => match SV.litL l with
    | some vs => some (.agg vs.toArray)
    | none => none
  | .tup l => match SV.litL l with
    | some vs => some (.tuple vs.toArray)
    | none => none
  | .ifc t v => match SV.lit v with
    | some x => some (.iface t x)
    | none => none
  | .fn f a b => match SV.litL a with
    | some x => match SV.litL b with
      | some y => some (.func f x.toArray y.toArray)
      | none => none
    | none => none
  | .ptr _ _ => none
  | .sl _ _ _ _ => none
  | .slu _ _ _ _ => none
  | .mp _ => none
  | .yld _ => none
def SV.litL : List SV → Option (List Value)
  | [] => some []
  | x :: l => match SV.lit x with
    | some v => match SV.litL l with
      | some vs => some (v :: vs)
      | none => none
    | none => none
end

/-- The cells of a value. -/
def SV.cells : SV → List SV
  | .sc (.agg cs) => cs.toList.map .sc
  | .agg l => l
  | s => [s]

/-- May it lie in one cell? -/
def SV.one : SV → Bool
  | .sc (.agg _) => false
  | .sc (.tuple _) => false
  | .agg _ => false
  | .tup _ => false
  | _ => true

/-! ### blocks -/
inductive ADf where
  | call (f : FuncId) (args : List SV)
  | taken (r : Nat)

inductive VO where
  | cells (n : Nat) (t : TypeId) (c : Tr SV)
  | row (ne sz : Nat) (t : TypeId) (c : Tr SV)
  | map (l : List (Value × SV × Nat)) (clock : Nat)
  | iter (m : Option Nat) (since : Nat) (seen : List Nat) (stepped : Nat)
  | siter (s : ByteArray) (pos : Nat)
  | loop (st : LoopState) (pending : Option Code) (fn : FuncId) (nt : Nat) (T : Tr SV) (params : Array Tmp) (assign body : Code) (defers : Nat)
  | dfd (calls : Option (List ADf))

abbrev Heap := Tr VO

def VO.cell : VO → Nat → Option SV
  | .cells n _ c, i => bif Nat.blt i n then c.at' i else none
  | .row ne sz _ c, i => bif Nat.blt i (ne * sz) then c.at' i else none
  | _, _ => none

def VO.cellsFrom (vo : VO) : Nat → Nat → Option (List SV)
  | _, 0 => some []
  | i, n + 1 => match vo.cell i with
    | some x => match vo.cellsFrom (i + 1) n with
      | some l => some (x :: l)
      | none => none
    | none => none

def VO.setCell : VO → Nat → SV → Option VO
  | .cells n t c, i, x => bif Nat.blt i n && x.one then some (.cells n t (c.set i x)) else none
  | .row ne sz t c, i, x => bif Nat.blt i (ne * sz) && x.one then some (.row ne sz t (c.set i x)) else none
  | _, _, _ => none

def VO.setCells (vo : VO) : Nat → List SV → Option VO
  | _, [] => some vo
  | i, x :: l => match vo.setCell i x with
    | some vo' => vo'.setCells (i + 1) l
    | none => none

/-- A list's values, from a place on. -/
def fillTr : Tr SV → Nat → List SV → Tr SV
  | c, _, [] => c
  | c, i, x :: l => fillTr (c.set i x) (i + 1) l

def undefS : SV := .sc (.tuple #[])

def newCells (t : TypeId) (l : List SV) : VO := .cells l.length t (fillTr .nil 0 l)

def allOne : List SV → Bool
  | [] => true
  | x :: l => x.one && allOne l

/-! ### what an operation hands back -/
inductive ANx where
  | val (v : SV)
  | skip
  | enter (f : FuncId) (args : List SV)
  | round (l : Nat) (args : List SV)
  | dfr (d : ADf)
  | recover

/-- An operation's tree with no memory in it. -/
def pureRun (P : Program) {A : Type} : Sem A → Option A
  | .pure a => some a
  | .program k => pureRun P (k P)
  | .mark _ k => pureRun P k
  | .choose q k => bif q.forced then pureRun P (k 0) else none
  | _ => none

section
variable (P : Program)

def evalS (T : Tr SV) : Operand → Option SV
  | .tmp t => T.at' t
  | .const v => some (.sc v)
  | .global g => some (.sc (.pointer (some ⟨g, 0, none⟩)))
  | .func f => some (.sc (.func (.func f) #[] #[]))

def evalL (T : Tr SV) : List Operand → Option (List SV)
  | [] => some []
  | x :: l => match evalS T x with
    | some v => match evalL T l with
      | some r => some (v :: r)
      | none => none
    | none => none

def evalP (T : Tr SV) : List (Nat × Operand) → Option (List (Nat × SV))
  | [] => some []
  | (i, x) :: l => match evalS T x with
    | some v => match evalP T l with
      | some r => some ((i, v) :: r)
      | none => none
    | none => none

/-- None: no such type; some none: no struct, no array; some (some n): one of n cells. -/
def aggSize (t : TypeId) : Option (Option Nat) :=
  match P.underlying t with
  | none => none
  | some (.struct _) => ((P.info? t).map (·.size)).map some
  | some (.array _ _) => ((P.info? t).map (·.size)).map some
  | some _ => some none

def sizeT (t : TypeId) : Option Nat := (P.info? t).map (·.size)
def zeroT (t : TypeId) : Option Value := (P.info? t).bind (·.zero)

def partS (t : TypeId) (l : List SV) (off : Nat) : Option SV :=
  match aggSize P t with
  | none => none
  | some none => l[off]?
  | some (some n) => some (.agg ((l.drop off).take n))

def fillS (place : Nat → Option (Nat × Nat)) (cells : List SV) : List (Nat × SV) → Option (List SV)
  | [] => some cells
  | (i, v) :: rest =>
    match place i with
    | none => none
    | some (off, size) =>
      let vc := v.cells
      bif Nat.beq vc.length size && Nat.ble (off + size) cells.length then fillS place (cells.take off ++ vc ++ cells.drop (off + size)) rest else none

def places : List Field → Option (List (Nat × Nat))
  | [] => some []
  | f :: l => match sizeT P f.type with
    | some s => match places l with
      | some r => some ((f.offset, s) :: r)
      | none => none
    | none => none

/-- A number that is not negative. -/
def natS (T : Tr SV) (x : Operand) : Option Nat := match evalS T x with
  | some (.sc (.int _ (.ofNat n))) => some n
  | _ => none
def natOr (T : Tr SV) (d : Nat) : Option Operand → Option Nat
  | none => some d
  | some x => natS T x

/-- The elements of a slice. -/
def sliceCells (H : Heap) (sz : Nat) : SV → Option (Nat × List SV)
  | .sc (.slice none 0 _) => some (0, [])
  | .sc (.string s) => bif Nat.beq sz 1 then some (s.size, s.data.toList.map fun b => .sc (.int .u8 b.toNat)) else none
  | .sl b o n _ => match H.at' b with
    | some vo => (vo.cellsFrom o (n * sz)).map fun l => (n, l)
    | none => none
  | .slu b o _ n => match H.at' b with
    | some vo => (vo.cellsFrom o (n * sz)).map fun l => (n, l)
    | none => none
  | _ => none

/-- What a slice expression over a slice is: the block's new state, if there is one. -/
def bytesOk (t : TypeId) (n : Nat) : Bool := match P.info? t with
  | some i => Nat.ble (n * i.bytes) 140737488355328 && Nat.ble n 1000000000
  | none => false

/-- Where is a key? -/
def dummies (l : List (Value × SV × Nat)) : List MapEntry := l.map fun x => { key := x.1, val := .nilFunc, born := x.2.2 }
def findK (kt : TypeId) (k : Value) (l : List (Value × SV × Nat)) : Option (Option Nat) :=
  match pureRun P (Instr.checkKey l.isEmpty 10000 kt k) with
  | none => none
  | some _ => match pureRun P (Instr.findKey kt k (dummies l)) with
    | some none => some none
    | some (some (i, _)) => some (some i)
    | none => none
/-- A key of no address. -/
def litS (T : Tr SV) (x : Operand) : Option Value := match evalS T x with
  | some s => s.lit
  | none => none
def putK (kt : TypeId) (k : Value) (v : SV) (l : List (Value × SV × Nat)) (clock : Nat) : Option (List (Value × SV × Nat) × Nat) :=
  match pureRun P (Instr.checkKey false 10000 kt k) with
  | none => none
  | some _ => match findK P kt k l with
    | none => none
    | some none => some (l ++ [(k, v, clock)], clock + 1)
    | some (some i) => match l[i]? with
      | some (k', _, b) => bif Instr.sameBits 10000 k' k then some (l.set i (k, v, b), clock) else none
      | none => none

def bytesL : List SV → Option (List UInt8)
  | [] => some []
  | .sc (.int .u8 (.ofNat n)) :: l => match bytesL l with
    | some r => some (UInt8.ofNat n :: r)
    | none => none
  | _ :: _ => none
def bytesS (l : List SV) : Option SV := (bytesL l).map fun b => .sc (.string ⟨b.toArray⟩)

def loadS (H : Heap) (t : TypeId) (b o : Nat) : Option SV :=
  match H.at' b with
  | none => none
  | some vo => match aggSize P t with
    | some none => vo.cell o
    | some (some n) => (vo.cellsFrom o n).map .agg
    | none => none

def fieldAddrS (s : TypeId) (f : Nat) : SV → Option SV
  | .ptr b o => match P.underlying s with
    | some (.struct fields) => match fields[f]? with
      | some fd => match sizeT P fd.type with
        | some (_ + 1) => some (.ptr b (o + fd.offset))
        | _ => none
      | none => none
    | _ => none
  | _ => none

def indexAddrS (t : TypeId) (n : Nat) : SV → Option SV
  | .ptr b o => match P.underlying t with
    | some (.array len e) => match sizeT P e with
      | some sz => bif Nat.blt n len then some (.ptr b (o + n * sz)) else none
      | none => none
    | _ => none
  | .sl b o len _ => match P.underlying t with
    | some (.slice e) => match sizeT P e with
      | some sz => bif Nat.blt n len then some (.ptr b (o + n * sz)) else none
      | none => none
    | _ => none
  | .slu b o _ len => match P.underlying t with
    | some (.slice e) => match sizeT P e with
      | some sz => bif Nat.blt n len then some (.ptr b (o + n * sz)) else none
      | none => none
    | _ => none
  | _ => none

def fieldS (t : TypeId) (f : Nat) (l : List SV) : Option SV :=
  match P.underlying t with
  | some (.struct fields) => match fields[f]? with
    | some fd => partS P fd.type l fd.offset
    | none => none
  | _ => none

def buildS (t : TypeId) (parts : List (Nat × SV)) : Option SV :=
  match zeroT P t with
  | none => none
  | some z => match P.underlying t with
    | some (.struct fields) => match places P fields.toList with
      | some pl => (fillS (fun i => pl[i]?) (z.cells.toList.map .sc) parts).map .agg
      | none => none
    | some (.array _ e) => match sizeT P e with
      | some sz => (fillS (fun i => some (i * sz, sz)) (z.cells.toList.map .sc) parts).map .agg
      | none => none
    | _ => none

def lookupS (H : Heap) (t : TypeId) (ok : Bool) (k : Value) : SV → Option SV
  | .mp b => match P.underlying t with
    | some (.map kt e) => match H.at' b with
      | some (.map l _) => match findK P kt k l with
        | some (some i) => match l[i]? with
          | some (_, v, _) => some (bif ok then .tup [v, .sc (.bool true)] else v)
          | none => none
        | some none => match zeroT P e with
          | some z => some (bif ok then .tup [.sc z, .sc (.bool false)] else .sc z)
          | none => none
        | none => none
      | _ => none
    | _ => none
  | .sc (.map none) => match P.underlying t with
    | some (.map kt e) => match findK P kt k [] with
      | some none => match zeroT P e with
        | some z => some (bif ok then .tup [.sc z, .sc (.bool false)] else .sc z)
        | none => none
      | _ => none
    | _ => none
  | _ => none

def sliceS (T : Tr SV) (H : Heap) (t : TypeId) (lo hi mx : Option Operand) : SV → Option SV
  | .ptr b o => match P.underlying t with
    | some (.array n e) => match sizeT P e, natOr T 0 lo, natOr T n hi, natOr T n mx with
      | some sz, some l, some h, some m => bif Nat.ble l h && Nat.ble h m && Nat.ble m n && (hi.isSome || mx.isNone) then some (.sl b (bif Nat.beq m l then o else o + l * sz) (h - l) (m - l)) else none
      | _, _, _, _ => none
    | _ => none
  | .sl b o len cap => match P.underlying t with
    | some (.slice e) => match sizeT P e, natOr T 0 lo, natOr T len hi, natOr T cap mx with
      | some sz, some l, some h, some m => bif Nat.ble l h && Nat.ble h m && Nat.ble m cap && (hi.isSome || mx.isNone) then some (.sl b (bif Nat.beq m l then o else o + l * sz) (h - l) (m - l)) else none
      | _, _, _, _ => none
    | _ => none
  | .slu b o eo len => match P.underlying t with
    | some (.slice e) => match H.at' b with
      | some (.row ne _ _ _) => match sizeT P e, natOr T 0 lo, natOr T len hi with
        | some sz, some l, some h => match mx with
          | none => bif Nat.ble l h && Nat.ble (eo + h) ne && Nat.blt (eo + l) ne then some (.slu b (o + l * sz) (eo + l) (h - l)) else none
          | some x => match natS T x with
            | some m => bif Nat.ble l h && Nat.ble h m && Nat.ble (eo + m) ne && hi.isSome then some (.sl b (bif Nat.beq m l then o else o + l * sz) (h - l) (m - l)) else none
            | none => none
        | _, _, _ => none
      | _ => none
    | _ => none
  | _ => none

/-- Is it nil? Of what is not. -/
def isNilS : SV → Value → TypeDesc → Bool
  | .ptr _ _, .pointer none, .pointer _ => true
  | .ifc _ _, .nilIface, .interface _ => true
  | .mp _, .map none, .map _ _ => true
  | .sl _ _ _ _, .slice none _ _, .slice _ => true
  | .slu _ _ _ _, .slice none _ _, .slice _ => true
  | .fn _ _ _, .nilFunc, .func _ _ _ => true
  | .yld _, .nilFunc, .func _ _ _ => true
  | _, _, _ => false

def nilTest (op : BinOp) (t : TypeId) (x y : SV) : Option SV :=
  match y with
  | .sc v => match P.underlying t with
    | some d => bif isNilS x v d then match op with
        | .eql => some (.sc (.bool false))
        | .neq => some (.sc (.bool true))
        | _ => none
      else none
    | none => none
  | _ => none

def lenS (H : Heap) (t : TypeId) : SV → Option SV
  | .sl _ _ n _ => match P.underlying t with
    | some (.slice _) => some (.sc (.int .i64 n))
    | _ => none
  | .slu _ _ _ n => match P.underlying t with
    | some (.slice _) => some (.sc (.int .i64 n))
    | _ => none
  | .mp b => match P.underlying t with
    | some (.map _ _) => match H.at' b with
      | some (.map l _) => some (.sc (.int .i64 l.length))
      | _ => none
    | _ => none
  | _ => none
def lenCall (T : Tr SV) (H : Heap) (c : Call) : Option SV :=
  match c.callee with
  | .builtin b => match b with
    | .len => match c.argTypes.toList with
      | t :: _ => match c.args.toList with
        | [x] => (evalS T x).bind (lenS P H t)
        | _ => none
      | _ => none
    | _ => none
  | _ => none

def strOfS (H : Heap) (s t : TypeId) (x : SV) : Option SV :=
  match P.underlying s with
  | some (.slice e) => match P.underlying t with
    | some .string => match P.underlying e with
      | some (.int .u8) => match x with
        | .sl _ _ _ _ => match sliceCells H 1 x with
          | some (_, l) => bytesS l
          | none => none
        | .slu _ _ _ _ => match sliceCells H 1 x with
          | some (_, l) => bytesS l
          | none => none
        | _ => none
      | _ => none
    | _ => none
  | _ => none

def checkedS : SV → Option SV
  | .ptr b o => some (.ptr b o)
  | .fn (.func f) a c => some (.fn (.func f) a c)
  | .yld l => some (.yld l)
  | .ifc t v => some (.ifc t v)
  | _ => none

def ifaceV (t : TypeId) : SV → SV
  | .sc x => .sc (.iface t x)
  | v => .ifc t v
def ifaceS (t : TypeId) (v : SV) : Option SV :=
  match P.underlying t with
  | none => none
  | some (.interface _) => none
  | some _ => some (ifaceV t v)

def nthS (i : Nat) : SV → Option SV
  | .tup l => l[i]?
  | .sc (.tuple vs) => (vs[i]?).map .sc
  | _ => none

/-- The entry of an iteration's last step. -/
def entryS (H : Heap) : SV → Option SV
  | .ptr r 0 => match H.at' r with
    | some (.iter (some m) _ seen stepped) => match seen.getLast? with
      | some stamp => match H.at' m with
        | some (.map l clock) => bif Nat.beq clock stepped then match l.find? (fun x => Nat.beq x.2.2 stamp) with
            | some x => some (.tup [.sc x.1, x.2.1])
            | none => none
          else none
        | _ => none
      | none => none
    | _ => none
  | _ => none

/-- Operations that only read. -/
def readOp (T : Tr SV) (H : Heap) (o : Oper) : Option SV :=
  match o.op with
  | .move x => evalS T x
  | .assign x => evalS T x
  | .pick c a b => match evalS T c with
    | some (.sc (.bool t)) => bif t then evalS T a else evalS T b
    | _ => none
  | .extract x i => (evalS T x).bind (nthS i)
  | .nilCheck x => (evalS T x).bind checkedS
  | .fieldAddr s x f => (evalS T x).bind (fieldAddrS P s f)
  | .indexAddr t x i => (natS T i).bind fun n => (evalS T x).bind (indexAddrS P t n)
  | .load t x => match evalS T x with
    | some (.ptr b o) => loadS P H t b o
    | _ => none
  | .field t x f => match evalS T x with
    | some (.agg l) => fieldS P t f l
    | _ => none
  | .makeInterface t x => (evalS T x).bind (ifaceS P t)
  | .makeFunc f a b => (evalL T a.toList).bind fun x => (evalL T b.toList).map fun y => .fn f x y
  | .build t parts => (evalP T parts.toList).bind (buildS P t)
  | .lookup t m k ok => (litS T k).bind fun kv => (evalS T m).bind (lookupS P H t ok kv)
  | .slice t x lo hi mx => (evalS T x).bind (sliceS P T H t lo hi mx)
  | .binOp op t x y _ => (evalS T x).bind fun a => (evalS T y).bind (nilTest P op t a)
  | .call c => lenCall P T H c
  | .convert s t x => (evalS T x).bind (strOfS P H s t)
  | .entry it => (evalS T it).bind (entryS H)
  | _ => none

/-- An operation all of whose operands hold no address. -/
def litOps (T : Tr SV) : List Operand → Bool
  | [] => true
  | x :: l => (litS T x).isSome && litOps T l
def litEval (T : Tr SV) (x : Operand) : Value := (litS T x).getD (.tuple #[])
def pureKind : Op → Bool
  | .binOp .. | .unOp .. | .convert .. | .index .. | .slice .. | .pick .. | .field .. | .nilCheck _ | .extract .. => true
  | .call { callee := .builtin b, .. } => match b with
    | .len | .min | .max | .cap => true
    | _ => false
  | _ => false
def pureOp (T : Tr SV) (o : Oper) : Option SV :=
  bif pureKind o.op && litOps T o.op.operands.toList then match pureRun P (execOp (litEval T) o) with
    | some (.value v) => some (.sc v)
    | _ => none
  else none

abbrev Out := ANx × Heap × Nat

/-- The zero value of a type has so many cells. -/
def zeroIs (t : TypeId) (sz : Nat) : Bool := match zeroT P t with
  | some z => Nat.beq z.cells.size sz
  | none => false

/-- append -/
def appendS (H : Heap) (nx : Nat) (e : TypeId) (s x : SV) : Option Out :=
  match sizeT P e with
  | none => none
  | some 0 => none
  | some sz => match sliceCells H sz x with
    | none => none
    | some (m, news) => bif !(allOne news) then none else match s with
      | .sc (.slice none 0 0) =>
        bif Nat.beq m 0 then some (.val s, H, nx)
        else bif bytesOk P e m && zeroIs P e sz then some (.val (.slu nx 0 0 m), H.set nx (.row m sz e (fillTr .nil 0 news)), nx + 1) else none
      | .sl b o n cap =>
        bif Nat.ble (n + m) cap then match H.at' b with
          | some vo => match vo.setCells (o + n * sz) news with
            | some vo' => some (.val (.sl b o (n + m) cap), H.set b vo', nx)
            | none => none
          | none => none
        else bif bytesOk P e (n + m) && zeroIs P e sz then match sliceCells H sz s with
          | some (_, olds) => some (.val (.slu nx 0 0 (n + m)), H.set nx (.row (n + m) sz e (fillTr .nil 0 (olds ++ news))), nx + 1)
          | none => none
        else none
      | .slu b o eo n => match H.at' b with
        | some (.row ne sz' t c) =>
          bif Nat.beq m 0 then bif Nat.ble (eo + n) ne then some (.val s, H, nx) else none
          else bif Nat.beq sz sz' && Nat.beq t e && Nat.beq o (eo * sz) && Nat.beq (eo + n) ne && bytesOk P e (n + m) && zeroIs P e sz then match sliceCells H sz s with
            | some (_, olds) => some (.val (.slu nx 0 0 (n + m)), (H.del b).set nx (.row (n + m) sz e (fillTr .nil 0 (olds ++ news))), nx + 1)
            | none => none
          else none
        | _ => none
      | _ => none

def storeS (H : Heap) (b o : Nat) (l : List SV) : Option Heap :=
  match H.at' b with
  | some vo => match vo.setCells o l with
    | some vo' => some (H.set b vo')
    | none => none
  | none => none

def sizeIs (t : TypeId) (n : Nat) : Bool := match sizeT P t with
  | some s => Nat.beq s n
  | none => false

/-- Zero cells. -/
def zerosL (z : Value) (n : Nat) : List SV := (Builtin.zeroCells z.cells n).toList.map .sc

/-- May it be entered: a function with a body. -/
def mayEnter (f : FuncId) : Bool := match P.funcs[f]? with
  | some fn => fn.body.isSome && !(fn.name == "runtime.NumGoroutine")
  | none => false

def fnTarget : SV → Option (FuncId × List SV × List SV)
  | .sc (.func (.func g) a b) => some (g, a.toList.map .sc, b.toList.map .sc)
  | .fn (.func g) a b => some (g, a, b)
  | _ => none

def methodS (t : TypeId) (name : String) : Option FuncId :=
  match P.info? t with
  | none => none
  | some i => match i.methods.find? (fun m => m.name == name) with
    | none => none
    | some m => match m.func with
      | some (g, true) => match P.underlying t with
        | some (.pointer _) => bif m.path.isEmpty && mayEnter P g then some g else none
        | _ => none
      | _ => none

def callTarget (T : Tr SV) (c : Call) : Option ANx :=
  match evalL T c.args.toList with
  | none => none
  | some args => match c.callee with
    | .value f => match evalS T f with
      | none => none
      | some (.yld l) => some (.round l args)
      | some s => match fnTarget s with
        | some (g, a, b) => bif mayEnter P g then some (.enter g (a ++ args ++ b)) else none
        | none => none
    | .invoke r name => match evalS T r with
      | some (.ifc t v) => match methodS P t name with
        | some g => some (.enter g (v :: args))
        | none => none
      | _ => none
    | .builtin _ => none

def mapUpS (H : Heap) (nx : Nat) (t : TypeId) (k : Value) (v : SV) : SV → Option Out
  | .mp b => match P.underlying t with
    | some (.map kt _) => match H.at' b with
      | some (.map l clock) => match putK P kt k v l clock with
        | some (l', clock') => some (.skip, H.set b (.map l' clock'), nx)
        | none => none
      | _ => none
    | _ => none
  | _ => none

def mapDelS (H : Heap) (nx : Nat) (t : TypeId) (k : Value) : SV → Option Out
  | .mp b => match P.underlying t with
    | some (.map kt _) => match H.at' b with
      | some (.map l clock) => match findK P kt k l with
        | some (some i) => some (.val (.sc (.tuple #[])), H.set b (.map (l.eraseIdx i) clock), nx)
        | some none => some (.val (.sc (.tuple #[])), H.set b (.map l clock), nx)
        | none => none
      | _ => none
    | _ => none
  | _ => none

def clearS (H : Heap) (nx : Nat) (t : TypeId) : SV → Option Out
  | .mp b => match P.underlying t with
    | some (.map _ _) => match H.at' b with
      | some (.map _ clock) => some (.val (.sc (.tuple #[])), H.set b (.map [] clock), nx)
      | _ => none
    | _ => none
  | .sl b o (n + 1) _ => match P.underlying t with
    | some (.slice e) => match zeroT P e with
      | some z => match storeS H b o (zerosL z (n + 1)) with
        | some H' => some (.val (.sc (.tuple #[])), H', nx)
        | none => none
      | none => none
    | _ => none
  | .slu b o _ (n + 1) => match P.underlying t with
    | some (.slice e) => match zeroT P e with
      | some z => match storeS H b o (zerosL z (n + 1)) with
        | some H' => some (.val (.sc (.tuple #[])), H', nx)
        | none => none
      | none => none
    | _ => none
  | _ => none

def copyS (H : Heap) (nx : Nat) (t : TypeId) (d x : SV) : Option Out :=
  match P.underlying t with
  | some (.slice e) => match sizeT P e with
    | some sz => match sliceCells H sz x with
      | some (m, l) => match d with
        | .sl b o n _ => match storeS H b o (l.take (min m n * sz)) with
          | some H' => some (.val (.sc (.int .i64 (min m n : Nat))), H', nx)
          | none => none
        | .slu b o _ n => match storeS H b o (l.take (min m n * sz)) with
          | some H' => some (.val (.sc (.int .i64 (min m n : Nat))), H', nx)
          | none => none
        | _ => none
      | none => none
    | none => none
  | _ => none

/-- Nothing of a row whose end is not known: its place is not known, either. -/
def emptyS (T : Tr SV) (H : Heap) (nx : Nat) (t : TypeId) (lo hi : Option Operand) : SV → Option Out
  | .slu b o eo len => match P.underlying t with
    | some (.slice e) => match H.at' b with
      | some (.row ne sz' t' _) => match sizeT P e, natOr T 0 lo, natOr T len hi with
        | some sz, some l, some h =>
          bif Nat.beq l h && Nat.beq (eo + l) ne && Nat.beq sz sz' && Nat.beq t' e && Nat.beq o (eo * sz) then some (.val (.slu nx 0 0 0), (H.del b).set nx (.row 0 sz e .nil), nx + 1) else none
        | _, _, _ => none
      | _ => none
    | _ => none
  | _ => none

def bytesOfS (H : Heap) (nx : Nat) (s t : TypeId) : SV → Option Out
  | .sc (.string b) => match P.underlying s with
    | some .string => match P.underlying t with
      | some (.slice e) => match P.underlying e with
        | some (.int .u8) => bif bytesOk P e b.size then some (.val (.slu nx 0 0 b.size), H.set nx (.row b.size 1 e (fillTr .nil 0 (b.data.toList.map fun c => .sc (.int .u8 c.toNat)))), nx + 1) else none
        | _ => none
      | _ => none
    | _ => none
  | _ => none

def rangeS (H : Heap) (nx : Nat) (t : TypeId) : SV → Option Out
  | .sc (.string s) => match P.underlying t with
    | some .string => some (.val (.ptr nx 0), H.set nx (.siter s 0), nx + 1)
    | _ => none
  | .sc (.map none) => match P.underlying t with
    | some (.map _ _) => some (.val (.ptr nx 0), H.set nx (.iter none 0 [] 0), nx + 1)
    | _ => none
  | .mp b => match P.underlying t with
    | some (.map _ _) => match H.at' b with
      | some (.map _ clock) => some (.val (.ptr nx 0), H.set nx (.iter (some b) clock [] clock), nx + 1)
      | _ => none
    | _ => none
  | _ => none

def buildSliceS (H : Heap) (nx : Nat) (t : TypeId) (len : Nat) (parts : List (Nat × SV)) : Option Out :=
  match P.underlying t with
  | some (.slice e) => match sizeT P e with
    | some sz => bif Nat.beq (len * sz) 0 then
        bif parts.isEmpty then some (.val (.sl nx 0 len len), H.set nx (newCells e []), nx + 1) else none
      else match zeroT P e with
        | some z => bif Nat.ble (len * sz) 16777216 then
            match fillS (fun i => some (i * sz, sz)) (((Array.range (len * sz)).map (z.cells[· % z.cells.size]!)).toList.map .sc) parts with
            | some l => bif allOne l then some (.val (.sl nx 0 len len), H.set nx (newCells e l), nx + 1) else none
            | none => none
          else none
        | none => none
    | none => none
  | _ => none

def makeSliceS (H : Heap) (nx : Nat) (t : TypeId) (n m : Nat) : Option Out :=
  match P.underlying t with
  | some (.slice e) => match sizeT P e with
    | some sz => match zeroT P e with
      | some z => bif Nat.ble n m && bytesOk P e m && Nat.beq z.cells.size sz && Nat.blt 0 (m * sz) then
          some (.val (.sl nx 0 n m), H.set nx (newCells e (zerosL z m)), nx + 1) else none
      | none => none
    | none => none
  | _ => none

def appendAt (H : Heap) (nx : Nat) (ts tx : TypeId) (s x : SV) : Option Out :=
  match P.underlying ts with
  | some (.slice e) => match P.underlying tx with
    | some (.slice _) => appendS P H nx e s x
    | some .string => appendS P H nx e s x
    | _ => none
  | _ => none

def builtinS (H : Heap) (nx : Nat) (b : Builtin) (ts : List TypeId) (xs : List SV) : Option Out :=
  match b with
  | .append => match ts, xs with
    | [t, u], [s, x] => appendAt P H nx t u s x
    | _, _ => none
  | .copy => match ts, xs with
    | t :: _, [d, x] => copyS P H nx t d x
    | _, _ => none
  | .clear => match ts, xs with
    | t :: _, [d] => clearS P H nx t d
    | _, _ => none
  | .delete => match ts, xs with
    | t :: _, [m, k] => match k.lit with
      | some kv => mapDelS P H nx t kv m
      | none => none
    | _, _ => none
  | .recover => match xs with
    | [] => some (.recover, H, nx)
    | _ => none
  | _ => none

/-- Operations that turn memory, or call. -/
def effOp (T : Tr SV) (H : Heap) (nx : Nat) (o : Oper) : Option Out :=
  match o.op with
  | .alloc t => match zeroT P t with
    | some z => some (.val (.ptr nx 0), H.set nx (newCells t (z.cells.toList.map .sc)), nx + 1)
    | none => none
  | .box t x => match evalS T x with
    | some v => some (.val (.ptr nx 0), H.set nx (newCells t v.cells), nx + 1)
    | none => none
  | .store t a x => match evalS T a with
    | some (.ptr b off) => match evalS T x with
      | some v => bif sizeIs P t v.cells.length then match storeS H b off v.cells with
          | some H' => some (.skip, H', nx)
          | none => none
        else none
      | none => none
    | _ => none
  | .buildSlice t len parts => (evalP T parts.toList).bind (buildSliceS P H nx t len)
  | .makeMap _ none => some (.val (.mp nx), H.set nx (.map [] 0), nx + 1)
  | .makeSlice t l c => (natS T l).bind fun n => (natS T c).bind (makeSliceS P H nx t n)
  | .slice t x lo hi none => (evalS T x).bind (emptyS P T H nx t lo hi)
  | .mapUpdate t m k x => (litS T k).bind fun kv => (evalS T x).bind fun v => (evalS T m).bind (mapUpS P H nx t kv v)
  | .insert t m k x => (litS T k).bind fun kv => (evalS T x).bind fun v => (evalS T m).bind (mapUpS P H nx t kv v)
  | .convert s t x => (evalS T x).bind (bytesOfS P H nx s t)
  | .range t x => (evalS T x).bind (rangeS P H nx t)
  | .call c => match c.callee with
    | .builtin b => (evalL T c.args.toList).bind (builtinS P H nx b c.argTypes.toList)
    | _ => (callTarget P T c).map fun a => (a, H, nx)
  | .defer c => match c.callee with
    | .builtin _ => none
    | .invoke _ _ => none
    | .value _ => match callTarget P T c with
      | some (.enter f args) => some (.dfr (.call f args), H, nx)
      | _ => none
  | _ => none

/-- The steps of an iteration: each that there may be. -/
def nextOp (T : Tr SV) (H : Heap) (nx : Nat) (o : Oper) : Option (List Out) :=
  match o.op with
  | .next it isString => match evalS T it with
    | some (.ptr r 0) => match H.at' r, isString with
      | some (.siter s pos), true =>
        bif Nat.blt pos s.size then match Utf8.decode s pos with
          | (c, width) => some [(.val (.sc (.tuple #[.bool true, goInt pos, .int .i32 c])), H.set r (.siter s (pos + width)), nx)]
        else some [(.val (.sc (.tuple #[.bool false])), H, nx)]
      | some (.iter none _ _ _), false => some [(.val (.sc (.tuple #[.bool false])), H, nx)]
      | some (.iter (some m) since seen last), false => match H.at' m with
        | some (.map l clock) =>
          bif !seen.isEmpty && !l.isEmpty && l.all (fun x => Nat.ble last x.2.2) then none else
          let left := l.filter fun x => !(seen.contains x.2.2)
          let old := left.filter fun x => Nat.blt x.2.2 since
          let new := left.filter fun x => Nat.ble since x.2.2
          let go (x : Value × SV × Nat) : Out := (.val (.tup [.sc (.bool true), .sc x.1, x.2.1]), H.set r (.iter (some m) since (seen ++ [x.2.2]) clock), nx)
          some ((bif old.isEmpty then [(.val (.sc (.tuple #[.bool false])), H, nx)] else []) ++ (old ++ new).map go)
        | _ => none
      | _, _ => none
    | _ => none
  | _ => none

def anyOp (T : Tr SV) (H : Heap) (nx : Nat) (o : Oper) : Option (List Out) :=
  match readOp P T H o with
  | some v => some [(.val v, H, nx)]
  | none => match pureOp P T o with
    | some v => some [(.val v, H, nx)]
    | none => match effOp P T H nx o with
      | some r => some [r]
      | none => nextOp T H nx o
end

/-! ### a frame -/
inductive AIt where
  | code (c : Code)
  | inBlock (id : Nat)
  | inLoop (body : Code)
  | inScope (body : Code)
  | inReg (ops : Array Oper) (i : Nat) (l : List Oper)
  | inRange (l : Nat)
  | endRange (l : Nat)
  | beginRound

structure FrS where
  fn : FuncId
  nt : Nat
  T : Tr SV
  todo : List AIt
  dfs : List ADf
  hp : Heap
  nx : Nat

abbrev Res := SV × Heap × Nat

def exitS (id : Nat) : List AIt → Option (List AIt)
  | .inBlock id' :: k => bif Nat.beq id' id then some k else exitS id k
  | _ :: k => exitS id k
  | [] => none
def gotoS (l : Nat) : List AIt → Option (List AIt)
  | .inScope body :: k =>
    match findLabel body l with
    | some rest => some (.code rest :: .inScope body :: k)
    | none => gotoS l k
  | _ :: k => gotoS l k
  | [] => none

def putS (nt : Nat) (T : Tr SV) (dst : Option Tmp) (v : SV) : Tr SV := match dst with
  | some d => bif Nat.blt d nt then T.set d v else T
  | none => T

/-- Is it to be carried out? none: it can't be told. -/
def wantedS (T : Tr SV) (ops : Array Oper) (o : Oper) : Option Bool :=
  match o.guard with
  | none => some true
  | some (j, want) => match ops[j]? with
    | some oj => match oj.dst with
      | some d => match T.at' d with
        | some (.sc (.bool b)) => some (b == want)
        | some (.sc (.tuple _)) => some false
        | _ => none
      | none => some false
    | none => some false

def enterT : Tr SV → Nat → List SV → Tr SV
  | T, _, [] => T
  | T, i, x :: l => enterT (T.set i x) (i + 1) l

def flat {A : Type} (f : A → Option (List Res)) : List A → Option (List Res)
  | [] => some []
  | x :: l => match f x with
    | some r => match flat f l with
      | some r' => some (r ++ r')
      | none => none
    | none => none

def resS (P : Program) (H : Heap) (T : Tr SV) : List ResultVar → Option (List SV)
  | [] => some []
  | .tmp t :: l => match T.at' t with
    | some v => match resS P H T l with
      | some r => some (v :: r)
      | none => none
    | none => none
  | .cell a t :: l => match T.at' a with
    | some (.ptr b o) => match H.at' b, aggSize P t with
      | some vo, some none => match vo.cell o, resS P H T l with
        | some v, some r => some (v :: r)
        | _, _ => none
      | some vo, some (some n) => match vo.cellsFrom o n, resS P H T l with
        | some v, some r => some (.agg v :: r)
        | _, _ => none
      | _, _ => none
    | _ => none

end
end Go.Ex
