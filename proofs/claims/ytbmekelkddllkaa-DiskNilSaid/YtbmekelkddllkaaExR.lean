/-
  The machine of names: how a frame is run. Over any program.
-/
import Derived.Test.YtbmekelkddllkaaEx
namespace Go.Ex
open Go

noncomputable section

/-! ### the same value -/
mutual
def SV.same : SV → SV → Bool
  | .sc (.bool a), .sc (.bool b) => a == b
  | .sc (.int k a), .sc (.int k' b) => decide (k = k') && decide (a = b)
  | .sc (.string a), .sc (.string b) => decide (a = b)
  | .sc (.pointer none), .sc (.pointer none) => true
  | .sc (.slice none n c), .sc (.slice none n' c') => Nat.beq n n' && Nat.beq c c'
  | .sc (.map none), .sc (.map none) => true
  | .sc .nilFunc, .sc .nilFunc => true
  | .sc .nilIface, .sc .nilIface => true
  | .ptr b o, .ptr b' o' => Nat.beq b b' && Nat.beq o o'
  | .sl b o n c, .sl b' o' n' c' => Nat.beq b b' && Nat.beq o o' && Nat.beq n n' && Nat.beq c c'
  | .slu b o n c, .slu b' o' n' c' => Nat.beq b b' && Nat.beq o o' && Nat.beq n n' && Nat.beq c c'
  | .mp b, .mp b' => Nat.beq b b'
  | .yld b, .yld b' => Nat.beq b b'
  | .agg l, .agg l' => SV.sameL l l'
  | .tup l, .tup l' => SV.sameL l l'
  | .ifc t v, .ifc t' v' => Nat.beq t t' && SV.same v v'
  | _, _ => false
def SV.sameL : List SV → List SV → Bool
  | [], [] => true
  | x :: l, y :: l' => SV.same x y && SV.sameL l l'
  | _, _ => false
end

/-! ### a region that draws its order -/
structure Rec where
  i : Nat
  o : Oper
  T : Tr SV
  stg : Nat
  chain : Bool
  wanted : Bool
  val : SV

def dstsOk (nt : Nat) : List Oper → List Tmp → Bool
  | [], _ => true
  | o :: l, seen => match o.dst with
    | some d => Nat.blt d nt && !(seen.contains d) && dstsOk nt l (d :: seen)
    | none => dstsOk nt l seen

/-- Who writes a slot? -/
def writer (t : Tmp) : List Oper → Nat → Option Nat
  | [], _ => none
  | o :: l, i => match o.dst with
    | some d => bif Nat.beq d t then some i else writer t l (i + 1)
    | none => writer t l (i + 1)

/-- What an operation's guard looks at. -/
def guardOp (ops : List Oper) (o : Oper) : List Operand := match o.guard with
  | none => []
  | some (j, _) => match ops[j]? with
    | none => []
    | some oj => match oj.dst with
      | some d => [.tmp d]
      | none => []
def needs (ops : List Oper) (o : Oper) : List Operand := guardOp ops o ++ o.op.operands.toList

def operandsOk (ops : List Oper) (anc : Nat) : List Operand → Bool
  | [] => true
  | .tmp t :: l => (match writer t ops 0 with
    | some j => anc.testBit j
    | none => true) && operandsOk ops anc l
  | _ :: l => operandsOk ops anc l

/-- What is ahead of each operation, over others, too. -/
def ancOf (acc : List Nat) : List Edge → Nat
  | [] => 0
  | e :: l => bif Region.binds .any e then 2 ^ e.on ||| (acc.getD e.on 0 ||| ancOf acc l) else ancOf acc l
def ancGo : List Nat → List Oper → List Nat
  | acc, [] => acc
  | acc, o :: l => ancGo (acc ++ [ancOf acc o.after.toList]) l

def edgesOk (i : Nat) : List Edge → Bool
  | [] => true
  | e :: l => (bif Region.binds .any e then Nat.blt e.on i else true) && edgesOk i l

def opsOk (all : List Oper) : List Nat → List Oper → Nat → Bool
  | anc :: ancs, o :: l, i => edgesOk i o.after.toList && operandsOk all anc (needs all o) && opsOk all ancs l (i + 1)
  | _, [], _ => true
  | [], _ :: _, _ => false

def regionOk (nt : Nat) (ops : List Oper) : Bool :=
  dstsOk nt ops [] && opsOk ops (ancGo [] ops) ops 0

/-- The slots of these operands alone. -/
def onlyT (T : Tr SV) : List Operand → Tr SV
  | [] => .nil
  | .tmp t :: l => match T.at' t with
    | some v => (onlyT T l).set t v
    | none => onlyT T l
  | _ :: l => onlyT T l

/-- Does an operation that only reads look at memory? -/
def looksAtHeap : Op → Bool
  | .load .. | .lookup .. | .slice .. | .convert .. | .call _ | .entry _ => true
  | _ => false

def floatOp (P : Program) (T : Tr SV) (H : Heap) (o : Oper) : Option SV :=
  match readOp P T H o with
  | some v => some v
  | none => pureOp P T o

/-- At each of these memories the operation reads this value. -/
def stableAt (P : Program) (T : Tr SV) (o : Oper) (v : SV) : List Heap → Bool
  | [] => true
  | H :: l => (match floatOp P T H o with
    | some u => SV.same v u
    | none => false) && stableAt P T o v l

/-- How many of the chain are ahead of an operation; how many may be. -/
def lowOf (anc : Nat) : List Nat → Nat
  | [] => 0
  | c :: l => bif anc.testBit c then lowOf anc l + 1 else 0
def highOf (ancs : List Nat) (i : Nat) : List Nat → Nat
  | [] => 0
  | c :: l => bif (ancs.getD c 0).testBit i then 0 else highOf ancs i l + 1

/-- The chain is one behind the other. -/
def chainOk (ancs : List Nat) : List Nat → Bool
  | a :: b :: l => (ancs.getD b 0).testBit a && chainOk ancs (b :: l)
  | _ => true

def floatsOk (P : Program) (ancs : List Nat) (chain : List Nat) (Hs : List (Heap × Nat)) : List Rec → Bool
  | [] => true
  | r :: l => (bif r.chain || !r.wanted || !(looksAtHeap r.o.op) then true else
      let lo := lowOf (ancs.getD r.i 0) chain
      let hi := highOf ancs r.i chain
      bif Nat.beq lo r.stg && Nat.beq hi r.stg then true else stableAt P r.T r.o r.val (((Hs.drop lo).take (hi + 1 - lo)).map (·.1))) && floatsOk P ancs chain Hs l

structure DS where
  T : Tr SV
  H : Heap
  nx : Nat
  recs : List Rec
  Hs : List (Heap × Nat)
  stg : Nat

/-! ### the run -/
abbrev Rn := Option Nat → Bool → FrS → Option (List Res)
def bodyOf (P : Program) (f : FuncId) : Option Code := match P.funcs[f]? with
  | some fn => fn.body
  | none => none
def ntOf (P : Program) (f : FuncId) : Nat := match P.funcs[f]? with
  | some fn => fn.ntmps
  | none => 0
def resultsOf (P : Program) (f : FuncId) : Option (List ResultVar) := match P.funcs[f]? with
  | some fn => some fn.results.toList
  | none => none

/-- A call's results, by a way to run a frame. -/
def callS (P : Program) (rn : Rn) (f : FuncId) (args : List SV) (H : Heap) (nx : Nat) : Option (List Res) :=
  match bodyOf P f with
  | some c => rn none false { fn := f, nt := max args.length (ntOf P f), T := enterT .nil 0 args, todo := [.code c], dfs := [], hp := H, nx := nx }
  | none => none

/-- A round of a loop over a function. -/
def roundS (rn : Rn) (l : Nat) (args : List SV) (H : Heap) (nx : Nat) : Option (List Res) :=
  match H.at' l with
  | some (.loop _ _ fn nt T params assign body _) =>
    bif Nat.beq params.size args.length then
      rn (some l) false { fn := fn, nt := nt, T := (params.toList.zip args).foldl (fun T x => putS nt T (some x.1) x.2) T, todo := [.code assign, .beginRound, .code body], dfs := [], hp := H, nx := nx }
    else none
  | _ => none

/-- One operation of a region that draws, in the text's order. -/
def drawEff (P : Program) (rn : Rn) (T : Tr SV) (H : Heap) (nx : Nat) (o : Oper) : Option Res :=
  match effOp P T H nx o with
  | none => none
  | some (a, H, nx) => match a with
    | .val v => some (v, H, nx)
    | .skip => some (undefS, H, nx)
    | .enter f args => match callS P rn f args H nx with
      | some [r] => some r
      | _ => none
    | .round l args => match roundS rn l args H nx with
      | some [r] => some r
      | _ => none
    | _ => none

def drawOne (P : Program) (rn : Rn) (nt : Nat) (ops : Array Oper) (i : Nat) (o : Oper) (s : DS) : Option DS :=
  let T := onlyT s.T (needs ops.toList o)
  match wantedS T ops o with
  | none => none
  | some false => some { s with T := putS nt s.T o.dst undefS, recs := ⟨i, o, T, s.stg, false, false, undefS⟩ :: s.recs }
  | some true => match floatOp P T s.H o with
    | some v => some { s with T := putS nt s.T o.dst v, recs := ⟨i, o, T, s.stg, false, true, v⟩ :: s.recs }
    | none => match drawEff P rn T s.H s.nx o with
      | some (v, H, nx) => some ⟨putS nt s.T o.dst v, H, nx, ⟨i, o, T, s.stg, true, true, v⟩ :: s.recs, (H, nx) :: s.Hs, s.stg + 1⟩
      | none => none

def drawAll (P : Program) (rn : Rn) (nt : Nat) (ops : Array Oper) : Nat → List Oper → DS → Option DS
  | _, [], s => some s
  | i, o :: l, s => match drawOne P rn nt ops i o s with
    | some s' => drawAll P rn nt ops (i + 1) l s'
    | none => none

def drawRegion (P : Program) (rn : Rn) (ops : Array Oper) (nt : Nat) (T : Tr SV) (H : Heap) (nx : Nat) : Option (Tr SV × Heap × Nat) :=
  bif regionOk nt ops.toList then match drawAll P rn nt ops 0 ops.toList ⟨T, H, nx, [], [(H, nx)], 0⟩ with
    | some s =>
      let chain := (s.recs.reverse.filter (·.chain)).map (·.i)
      let ancs := ancGo [] ops.toList
      bif chainOk ancs chain && floatsOk P ancs chain s.Hs.reverse s.recs then some (s.T, s.H, s.nx) else none
    | none => none
  else none

def valueOf : List SV → SV
  | [v] => v
  | l => .tup l

/-- leave a round -/
def leaveS (l : Nat) (jump : Option Code) (H : Heap) (nx : Nat) : Option (List Res) :=
  match H.at' l with
  | some (.loop _ _ fn nt T params assign body dr) =>
    some [(.sc (.bool jump.isNone), H.set l (.loop (if jump.isNone then .ready else .done) jump fn nt T params assign body dr), nx)]
  | _ => none

/-- A frame that returns. -/
def finS (P : Program) (rn : Rn) (s : FrS) : Option (List Res) :=
  match s.dfs with
  | .taken r :: ds => match s.hp.at' r with
    | some (.dfd (some l)) => rn none true { s with dfs := l ++ ds, hp := s.hp.set r (.dfd none) }
    | _ => none
  | .call g args :: ds => bif mayEnter P g then match callS P rn g args s.hp s.nx with
      | some rs => flat (fun r => rn none true { s with dfs := ds, hp := r.2.1, nx := r.2.2 }) rs
      | none => none
    else none
  | [] => match resultsOf P s.fn with
    | some l => match resS P s.hp s.T l with
      | some vs => some [(valueOf vs, s.hp, s.nx)]
      | none => none
    | none => none

def leaveR (rn : Rn) (ro : Option Nat) (jump : Option Code) (s : FrS) : Option (List Res) :=
  match ro with
  | none => match jump with
    | none => rn none true s
    | some .ret => rn none true s
    | _ => none
  | some l => leaveS l jump s.hp s.nx

/-- Where a loop over a function keeps deferred calls. -/
def loopDefers (ro : Option Nat) (H : Heap) (nx : Nat) : Option (Nat × Heap × Nat × List ADf) :=
  match ro with
  | none => some (nx, H.set nx (.dfd (some [])), nx + 1, [.taken nx])
  | some l => match H.at' l with
    | some (.loop _ _ _ _ _ _ _ _ dr) => some (dr, H, nx, [])
    | _ => none

def codeS (P : Program) (rn : Rn) (ro : Option Nat) (s : FrS) (k : List AIt) (c : Code) : Option (List Res) :=
  match c with
  | .ret => leaveR rn ro (some .ret) s
  | .skip => rn ro false { s with todo := k }
  | .label _ => rn ro false { s with todo := k }
  | .seq a b => rn ro false { s with todo := .code a :: .code b :: k }
  | .cond c a b => match evalS s.T c with
    | some (.sc (.bool t)) => rn ro false { s with todo := .code (bif t then a else b) :: k }
    | _ => none
  | .block id b => rn ro false { s with todo := .code b :: .inBlock id :: k }
  | .loop b => rn ro false { s with todo := .code b :: .inLoop b :: k }
  | .scope b => rn ro false { s with todo := .code b :: .inScope b :: k }
  | .exit id => match exitS id k with
    | some k' => rn ro false { s with todo := k' }
    | none => leaveR rn ro (some (.exit id)) s
  | .goto l => match gotoS l k with
    | some k' => rn ro false { s with todo := k' }
    | none => leaveR rn ro (some (.goto l)) s
  | .refuse _ => none
  | .region _ ops draw => match draw with
    | false => rn ro false { s with todo := .inReg ops 0 ops.toList :: k }
    | true => match drawRegion P rn ops s.nt s.T s.hp s.nx with
      | some (T, H, nx) => rn ro false { s with todo := k, T := T, hp := H, nx := nx }
      | none => none
  | .rangeFunc fo params assign body =>
    match loopDefers ro s.hp s.nx with
    | none => none
    | some (dr, H, nx, mark) => match evalS s.T fo with
      | none => none
      | some sf => match fnTarget sf with
        | none => none
        | some (g, a, b) => bif mayEnter P g then
            match callS P rn g (a ++ [.yld nx] ++ b) (H.set nx (.loop .ready none s.fn s.nt s.T params assign body dr)) (nx + 1) with
            | some rs => flat (fun r => rn ro false { s with todo := .endRange nx :: k, dfs := mark ++ s.dfs, hp := r.2.1, nx := r.2.2 }) rs
            | none => none
          else none

/-- What an operation has handed back. -/
def outS (P : Program) (rn : Rn) (ro : Option Nat) (s : FrS) (dst : Option Tmp) (k' : List AIt) (r : Out) : Option (List Res) :=
  let go (v : SV) (H : Heap) (nx : Nat) := rn ro false { s with T := putS s.nt s.T dst v, todo := k', hp := H, nx := nx }
  match r with
  | (.val v, H, nx) => go v H nx
  | (.skip, H, nx) => go undefS H nx
  | (.recover, H, nx) => match ro with
    | none => go (.sc .nilIface) H nx
    | some _ => none
  | (.dfr d, H, nx) => match ro with
    | none => rn ro false { s with T := putS s.nt s.T dst undefS, dfs := d :: s.dfs, todo := k', hp := H, nx := nx }
    | some _ => none
  | (.enter g args, H, nx) => match callS P rn g args H nx with
    | some rs => flat (fun r => go r.1 r.2.1 r.2.2) rs
    | none => none
  | (.round l' args, H, nx) => match roundS rn l' args H nx with
    | some rs => flat (fun r => go r.1 r.2.1 r.2.2) rs
    | none => none

def opS (P : Program) (rn : Rn) (ro : Option Nat) (s : FrS) (k : List AIt) (ops : Array Oper) (i : Nat) (o : Oper) (l : List Oper) : Option (List Res) :=
  match wantedS s.T ops o with
  | none => none
  | some false => rn ro false { s with T := putS s.nt s.T o.dst undefS, todo := .inReg ops (i + 1) l :: k }
  | some true => match anyOp P s.T s.hp s.nx o with
    | none => none
    | some outs => flat (outS P rn ro s o.dst (.inReg ops (i + 1) l :: k)) outs

def withPend (pend : Option Code) (k : List AIt) : List AIt := match pend with
  | some c => .code c :: k
  | none => k

def stepS (P : Program) (rn : Rn) (ro : Option Nat) (s : FrS) : Option (List Res) :=
  match s.todo with
  | [] => leaveR rn ro none s
  | it :: k => match it with
    | .code c => codeS P rn ro s k c
    | .inBlock _ => rn ro false { s with todo := k }
    | .inScope _ => rn ro false { s with todo := k }
    | .inLoop b => rn ro false { s with todo := .code b :: .inLoop b :: k }
    | .inReg ops i l => match l with
      | [] => rn ro false { s with todo := k }
      | o :: l => opS P rn ro s k ops i o l
    | .inRange _ => none
    | .endRange l => match s.hp.at' l with
      | some (.loop st pend fn nt T params assign body dr) => match st with
        | .busy => none
        | _ => rn ro false { s with todo := withPend pend k, hp := s.hp.set l (.loop .exhausted pend fn nt T params assign body dr) }
      | _ => none
    | .beginRound => match ro with
      | some l => match s.hp.at' l with
        | some (.loop st pend fn nt T params assign body dr) => match st with
          | .ready => rn ro false { s with todo := k, hp := s.hp.set l (.loop .busy pend fn nt T params assign body dr) }
          | _ => none
        | _ => none
      | none => none

/-- The same frame, with its number of slots and its memory worked out (else they grow into chains that are walked anew at every step). -/
def normFS (s : FrS) : FrS :=
  FrS.rec (motive := fun _ => FrS) (fun fn nt T todo dfs hp nx => Nat.rec (motive := fun _ => FrS) ⟨fn, 0, T, todo, dfs, hp, nx⟩ (fun n _ => ⟨fn, Nat.succ n, T, todo, dfs, hp, nx⟩) nt) s
theorem normFS_eq (s : FrS) : normFS s = s := by
  obtain ⟨fn, nt, T, todo, dfs, hp, nx⟩ := s
  cases nt <;> rfl

def run (P : Program) (f : Nat) : Rn :=
  Nat.rec (motive := fun _ => Rn) (fun _ _ _ => none)
    (fun _ ih ro lv s => Bool.rec (motive := fun _ => Option (List Res)) (stepS P ih ro (normFS s)) (Option.rec (motive := fun _ => Option (List Res)) (finS P ih s) (fun _ => none) ro) lv) f

/-- A function of no arguments: it returns true, whatever may be. -/
def isTrue : List Res → Bool
  | [] => true
  | (.sc (.bool true), _, _) :: l => isTrue l
  | _ :: _ => false
def proves (P : Program) (fuel : Nat) (f : FuncId) : Bool :=
  bif P.follows .mixedOrders then match callS P (run P fuel) f [] .nil 0 with
    | some (r :: rs) => isTrue (r :: rs)
    | _ => false
  else false
end
end Go.Ex
