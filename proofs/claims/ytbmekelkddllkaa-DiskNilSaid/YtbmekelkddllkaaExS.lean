/-
  The machine of names, sped up: the hot roads with closed arms (the kernel copies little of them), and that they answer as the machine does. Over any program.
-/
import Derived.Test.YtbmekelkddllkaaExQ
namespace Go.Ex
open Go Go.Sl Go.RowKit
noncomputable section

/-! ### numbers -/
def limK (k : IntKind) : Nat := IntKind.rec 128 32768 2147483648 9223372036854775808 128 32768 2147483648 9223372036854775808 k
def nrK (k : IntKind) : Nat := IntKind.rec 0 1 2 3 4 5 6 7 k
theorem nrK_inj {a b : IntKind} (h : Nat.beq (nrK a) (nrK b) = true) : a = b := by cases a <;> cases b <;> first | rfl | exact absurd h (by decide)
theorem wrap_small {k : IntKind} {n : Nat} (h : Nat.blt n (limK k) = true) : k.wrap (n : Int) = (n : Int) := by
  have h : n < limK k := Nat.le_of_ble_eq_true h
  cases k <;> simp only [limK] at h <;> simp [IntKind.wrap, IntKind.bits, IntKind.signed] <;> omega

def yesN (b : Bool) (v : Value) : Option Value := Bool.rec none (some v) b
theorem yesN_some {b : Bool} {v r : Value} (h : yesN b v = some r) : b = true ∧ r = v := by
  cases b
  · cases h
  · exact ⟨rfl, (Option.some.inj h).symm⟩
def binN (op : BinOp) : IntKind → Nat → Nat → Option Value :=
  BinOp.rec (motive := fun _ => IntKind → Nat → Nat → Option Value)
    (fun k m n => yesN (Nat.blt (Nat.add m n) (limK k)) (.int k (.ofNat (Nat.add m n))))
    (fun k m n => yesN (and (Nat.ble n m) (Nat.blt m (limK k))) (.int k (.ofNat (Nat.sub m n))))
    (fun k m n => yesN (Nat.blt (Nat.mul m n) (limK k)) (.int k (.ofNat (Nat.mul m n))))
    (fun _ _ _ => none) (fun _ _ _ => none) (fun _ _ _ => none) (fun _ _ _ => none) (fun _ _ _ => none) (fun _ _ _ => none) (fun _ _ _ => none) (fun _ _ _ => none)
    (fun _ m n => some (.bool (Nat.beq m n))) (fun _ m n => some (.bool (not (Nat.beq m n))))
    (fun _ m n => some (.bool (Nat.blt m n))) (fun _ m n => some (.bool (Nat.ble m n))) (fun _ m n => some (.bool (Nat.blt n m))) (fun _ m n => some (.bool (Nat.ble n m))) op

theorem beq_dec (m n : Nat) : Nat.beq m n = ((m : Int) == (n : Int)) := by
  cases h : Nat.beq m n with
  | true => have := Nat.eq_of_beq_eq_true h; subst this; simp
  | false => have := Nat.ne_of_beq_eq_false h; symm; simp; omega
theorem blt_dec (m n : Nat) : Nat.blt m n = decide ((m : Int) < (n : Int)) := by
  cases h : Nat.blt m n with
  | true => have : m < n := Nat.le_of_ble_eq_true h; symm; simp; omega
  | false =>
    symm; simp only [decide_eq_false_iff_not]; intro h2
    have : Nat.blt m n = true := Nat.ble_eq_true_of_le (by omega)
    rw [h] at this; cases this
theorem ble_dec (m n : Nat) : Nat.ble m n = decide ((m : Int) ≤ (n : Int)) := by
  cases h : Nat.ble m n with
  | true => have : m ≤ n := Nat.le_of_ble_eq_true h; symm; simp; omega
  | false =>
    symm; simp only [decide_eq_false_iff_not]; intro h2
    have : Nat.ble m n = true := Nat.ble_eq_true_of_le (by omega)
    rw [h] at this; cases this

theorem binN_ok {P : Program} {op : BinOp} {k : IntKind} {m n : Nat} {v : Value} (h : binN op k m n = some v) (t : TypeId) (xo yo : Operand) (dst ty pos after guard) (yt : TypeId) (ev : Operand → Value) (hx : ev xo = .int k (m : Int)) (hy : ev yo = .int k (n : Int)) :
    pureRun P (execOp ev ⟨dst, .binOp op t xo yo yt, ty, pos, after, guard⟩) = some (.value v) := by
  have key : eqGuard op t xo yo (.int k (m : Int)) (.int k (n : Int)) = pure () ∧ Go.binOp op t (.int k (m : Int)) (.int k (n : Int)) = pure v := by
    cases op
    case add =>
      obtain ⟨h1, rfl⟩ := yesN_some h
      refine ⟨rfl, ?_⟩
      simp only [Go.binOp, Op.intArith]
      rw [show ((m : Int) + (n : Int)) = ((Nat.add m n : Nat) : Int) from rfl, wrap_small h1]
      simp
    case sub =>
      obtain ⟨h1, rfl⟩ := yesN_some h
      refine ⟨rfl, ?_⟩
      simp only [Go.binOp, Op.intArith]
      have h1' := (Bool.and_eq_true _ _).mp h1
      have hle : n ≤ m := Nat.le_of_ble_eq_true h1'.1
      have hlt : m < limK k := Nat.le_of_ble_eq_true h1'.2
      rw [show ((m : Int) - (n : Int)) = ((Nat.sub m n : Nat) : Int) from (Int.ofNat_sub hle).symm, wrap_small (Nat.ble_eq_true_of_le (by have : Nat.sub m n ≤ m := Nat.sub_le m n; omega))]
      simp
    case mul =>
      obtain ⟨h1, rfl⟩ := yesN_some h
      refine ⟨rfl, ?_⟩
      simp only [Go.binOp, Op.intArith]
      rw [show ((m : Int) * (n : Int)) = ((Nat.mul m n : Nat) : Int) from rfl, wrap_small h1]
      simp
    case eql => cases h; refine ⟨rfl, ?_⟩; simp only [Go.binOp, Op.intCmp, beq_dec]; simp
    case neq => cases h; refine ⟨rfl, ?_⟩; simp only [Go.binOp, Op.intCmp, beq_dec]; simp [bne]
    case lss => cases h; refine ⟨rfl, ?_⟩; simp only [Go.binOp, Op.intCmp, blt_dec]; simp
    case leq => cases h; refine ⟨rfl, ?_⟩; simp only [Go.binOp, Op.intCmp, ble_dec]; simp
    case gtr => cases h; refine ⟨rfl, ?_⟩; simp only [Go.binOp, Op.intCmp, blt_dec]; simp
    case geq => cases h; refine ⟨rfl, ?_⟩; simp only [Go.binOp, Op.intCmp, ble_dec]; simp
    all_goals (have h : (none : Option Value) = some _ := h; cases h)
  simp only [execOp, hx, hy, key.1, key.2]
  rfl

abbrev FRes := Option (SV × Heap × Nat)
abbrev FR := Tr SV → Heap → Nat → Program → FRes

def evalF (x : Operand) : Tr SV → Option SV :=
  Operand.rec (motive := fun _ => Tr SV → Option SV) (fun t T => T.get t 0) (fun v _ => some (.sc v)) (fun g _ => some (.sc (.pointer (some ⟨g, 0, none⟩)))) (fun f _ => some (.sc (.func (.func f) #[] #[]))) x
theorem evalF_eq (x : Operand) (T : Tr SV) : evalF x T = evalS T x := by cases x <;> rfl

def fin1 (o : Option SV) : Heap → Nat → FRes :=
  Option.rec (motive := fun _ => Heap → Nat → FRes) (fun _ _ => none) (fun v H nx => some (v, H, nx)) o
theorem fin1_some {o : Option SV} {H : Heap} {nx : Nat} {r : SV × Heap × Nat} (h : fin1 o H nx = some r) : ∃ v, o = some v ∧ r = (v, H, nx) := by
  cases o with
  | none => cases h
  | some v => exact ⟨v, rfl, (Option.some.inj h).symm⟩
def bindF (o : Option SV) : (SV → Option SV) → Option SV :=
  Option.rec (motive := fun _ => (SV → Option SV) → Option SV) (fun _ => none) (fun v f => f v) o
theorem bindF_eq (o : Option SV) (f : SV → Option SV) : bindF o f = o.bind f := by cases o <;> rfl

def sMove (x : Operand) : FR := fun T H nx _ => fin1 (evalF x T) H nx
def ptrF (o : Option SV) : (Nat → Nat → FR) → (Tr SV → Heap → Nat → Program → FRes) :=
  Option.rec (motive := fun _ => (Nat → Nat → FR) → FR) (fun _ _ _ _ _ => none)
    (fun v => SV.casesOn (motive_1 := fun _ => (Nat → Nat → FR) → FR) v (fun _ _ _ _ _ _ => none) (fun b o f => f b o) (fun _ _ _ _ _ _ _ _ _ => none) (fun _ _ _ _ _ _ _ _ _ => none)
      (fun _ _ _ _ _ _ => none) (fun _ _ _ _ _ _ => none) (fun _ _ _ _ _ _ => none) (fun _ _ _ _ _ _ => none) (fun _ _ _ _ _ _ _ => none) (fun _ _ _ _ _ _ _ _ => none)) o
def sLoad (t : TypeId) (x : Operand) : FR := fun T H nx P => ptrF (evalF x T) (fun b o _ H nx P => fin1 (loadS P H t b o) H nx) T H nx P
def stF (o : Option Heap) : Nat → FRes := Option.rec (motive := fun _ => Nat → FRes) (fun _ => none) (fun H nx => some (undefS, H, nx)) o
def sStore (t : TypeId) (a x : Operand) : FR := fun T H nx P => ptrF (evalF a T) (fun b o T H nx P =>
  Option.rec (motive := fun _ => Heap → Nat → Program → FRes) (fun _ _ _ => none) (fun v H nx P => Bool.rec none (stF (storeS H b o v.cells) nx) (sizeIs P t v.cells.length)) (evalF x T) H nx P) T H nx P
def sNil (x : Operand) : FR := fun T H nx _ => fin1 (bindF (evalF x T) checkedS) H nx
def sFieldAddr (t : TypeId) (x : Operand) (f : Nat) : FR := fun T H nx P => fin1 (bindF (evalF x T) (fieldAddrS P t f)) H nx
def natF (o : Option SV) : Option Nat := match o with
  | some (.sc (.int _ (.ofNat n))) => some n
  | _ => none
def sIndexAddr (t : TypeId) (x i : Operand) : FR := fun T H nx P =>
  Option.rec (motive := fun _ => FR) (fun _ _ _ _ => none) (fun n T H nx P => fin1 (bindF (evalF x T) (indexAddrS P t n)) H nx) (natF (evalF i T)) T H nx P
def sField (t : TypeId) (x : Operand) (f : Nat) : FR := fun T H nx P => fin1 (bindF (evalF x T) (fun v => match v with
  | .agg l => fieldS P t f l
  | _ => none)) H nx
def sExtract (x : Operand) (i : Nat) : FR := fun T H nx _ => fin1 (bindF (evalF x T) (nthS i)) H nx
abbrev KN := IntKind × Nat
def asI (o : Option SV) : Option KN :=
  Option.rec (motive := fun _ => Option KN) none (fun v => SV.casesOn (motive_1 := fun _ => Option KN) v
    (fun x => Value.casesOn (motive_1 := fun _ => Option KN) x (fun _ => none) (fun k i => Int.rec (motive := fun _ => IntKind → Option KN) (fun n k => some (k, n)) (fun _ _ => none) i k) (fun _ _ => none) (fun _ _ _ => none) (fun _ => none) (fun _ => none) (fun _ _ _ => none) (fun _ => none) (fun _ => none)
      (fun _ _ _ => none) none (fun _ _ => none) none (fun _ => none) (fun _ => none))
    (fun _ _ => none) (fun _ _ _ _ => none) (fun _ _ _ _ => none) (fun _ => none) (fun _ => none) (fun _ => none) (fun _ => none) (fun _ _ => none) (fun _ _ _ => none)) o
theorem asI_some {o : Option SV} {k : IntKind} {n : Nat} (h : asI o = some (k, n)) : o = some (.sc (.int k (.ofNat n))) := by
  cases o with
  | none => cases h
  | some v =>
    cases v
    case sc x =>
      cases x
      case int k' i =>
        cases i with
        | ofNat m => cases h; rfl
        | negSucc m => cases h
      all_goals cases h
    all_goals cases h
def resV (o : Option Value) : Heap → Nat → FRes :=
  Option.rec (motive := fun _ => Heap → Nat → FRes) (fun _ _ => none) (fun v H nx => some (.sc v, H, nx)) o
def binR (a b : Option KN) : BinOp → Heap → Nat → FRes :=
  Option.rec (motive := fun _ => Option KN → BinOp → Heap → Nat → FRes) (fun _ _ _ _ => none)
    (fun p b => Option.rec (motive := fun _ => KN → BinOp → Heap → Nat → FRes) (fun _ _ _ _ => none)
      (fun q p op H nx => Bool.rec (motive := fun _ => FRes) none (resV (binN op p.1 p.2 q.2) H nx) (Nat.beq (nrK p.1) (nrK q.1))) b p) a b
def sBin (op : BinOp) (_ : TypeId) (x y : Operand) (_ : TypeId) : FR := fun T H nx _ => binR (asI (evalF x T)) (asI (evalF y T)) op H nx
theorem isNilS_int (s : SV) (k : IntKind) (i : Int) (d : TypeDesc) : isNilS s (.int k i) d = false := by
  cases s <;> rfl
theorem nilTest_int (P : Program) (op : BinOp) (t : TypeId) (a : SV) (k : IntKind) (i : Int) : nilTest P op t a (.sc (.int k i)) = none := by
  unfold nilTest
  simp only [isNilS_int, cond_false]
  split <;> rfl

def fastOp (o : Op) : FR :=
  Op.rec (motive := fun _ => FR)
    sMove
    sMove
    (fun _ _ _ _ _ _ _ => none)
    (fun _ _ _ _ _ => none)
    (fun _ _ _ _ _ _ => none)
    (fun _ _ _ _ _ _ => none)
    (fun _ _ _ _ _ _ _ => none)
    (fun _ _ _ _ _ _ _ _ => none)
    sLoad
    sStore
    (fun _ _ _ _ _ => none)
    (fun _ _ _ _ _ => none)
    sNil
    sBin
    (fun _ _ _ _ _ _ _ => none)
    (fun _ _ _ _ _ _ _ => none)
    (fun _ _ _ _ _ _ => none)
    (fun _ _ _ _ _ _ => none)
    (fun _ _ _ _ _ _ _ => none)
    (fun _ _ _ _ _ _ => none)
    (fun _ _ _ _ _ _ => none)
    (fun _ _ _ _ _ _ _ => none)
    (fun _ _ _ _ _ _ _ _ _ => none)
    sFieldAddr
    sField
    sIndexAddr
    (fun _ _ _ _ _ _ _ => none)
    (fun _ _ _ _ _ _ _ _ => none)
    (fun _ _ _ _ _ _ _ _ => none)
    (fun _ _ _ _ _ _ _ => none)
    (fun _ _ _ _ _ _ _ _ => none)
    (fun _ _ _ _ _ _ => none)
    (fun _ _ _ _ _ _ => none)
    (fun _ _ _ _ _ => none)
    (fun _ _ _ _ _ _ _ _ => none)
    sExtract
    (fun _ _ _ _ _ => none)
    (fun _ _ _ _ _ => none)
    (fun _ _ _ _ _ => none)
    (fun _ _ _ _ _ => none)
    (fun _ _ _ _ _ _ => none)
    (fun _ _ _ _ _ _ _ => none)
    (fun _ _ _ _ _ _ => none) o

theorem fastOp_ok {P : Program} {T : Tr SV} {H : Heap} {nx : Nat} {o : Oper} {v : SV} {H' : Heap} {nx' : Nat} (h : fastOp o.op T H nx P = some (v, H', nx')) :
    anyOp P T H nx o = some [(.val v, H', nx')] ∨ (anyOp P T H nx o = some [(.skip, H', nx')] ∧ v = undefS) := by
  have viaRead : ∀ {u : SV}, readOp P T H o = some u → (v, H', nx') = (u, H, nx) → anyOp P T H nx o = some [(.val v, H', nx')] := by
    intro u hu he
    cases he
    unfold anyOp
    rw [hu]
  obtain ⟨dst, op, ty, pos, after, guard⟩ := o
  cases op
  case move x =>
    obtain ⟨u, hu, he⟩ := fin1_some h
    rw [evalF_eq] at hu
    exact .inl (viaRead hu he)
  case assign x =>
    obtain ⟨u, hu, he⟩ := fin1_some h
    rw [evalF_eq] at hu
    exact .inl (viaRead hu he)
  case load t x =>
    have h : ptrF (evalF x T) _ T H nx P = _ := h
    rw [evalF_eq] at h
    cases hx : evalS T x with
    | none => rw [hx] at h; cases h
    | some u =>
      rw [hx] at h
      cases u
      case ptr b o =>
        obtain ⟨w, hw, he⟩ := fin1_some h
        refine .inl (viaRead (u := w) ?_ he)
        show (match evalS T x with
          | some (.ptr b o) => loadS P H t b o
          | _ => none) = _
        rw [hx]
        exact hw
      all_goals cases h
  case store t a x =>
    have h : ptrF (evalF a T) _ T H nx P = _ := h
    rw [evalF_eq] at h
    cases ha : evalS T a with
    | none => rw [ha] at h; cases h
    | some u =>
      rw [ha] at h
      cases u
      case ptr b o =>
        have h : Option.rec (motive := fun _ => Heap → Nat → Program → FRes) _ _ (evalF x T) H nx P = _ := h
        rw [evalF_eq] at h
        cases hx : evalS T x with
        | none => rw [hx] at h; cases h
        | some y =>
          rw [hx] at h
          have h : @Bool.rec (fun _ => FRes) none (stF (storeS H b o y.cells) nx) (sizeIs P t y.cells.length) = _ := h
          cases hs : sizeIs P t y.cells.length with
          | false => rw [hs] at h; cases h
          | true =>
            rw [hs] at h
            cases hst : storeS H b o y.cells with
            | none => rw [hst] at h; cases h
            | some H2 =>
              rw [hst] at h
              cases h
              refine .inr ⟨?_, rfl⟩
              unfold anyOp
              have h1 : readOp P T H ⟨dst, .store t a x, ty, pos, after, guard⟩ = none := rfl
              have h2 : pureOp P T ⟨dst, .store t a x, ty, pos, after, guard⟩ = none := rfl
              have h3 : effOp P T H nx ⟨dst, .store t a x, ty, pos, after, guard⟩ = some (.skip, H', nx) := by
                unfold effOp
                simp only [ha, hx, hs, hst, cond_true]
              rw [h1, h2, h3]
      all_goals cases h
  case binOp op t x y yt =>
    have h : binR (asI (evalF x T)) (asI (evalF y T)) op H nx = _ := h
    rw [evalF_eq, evalF_eq] at h
    cases ha : asI (evalS T x) with
    | none => rw [ha] at h; cases h
    | some p =>
      cases hb : asI (evalS T y) with
      | none => rw [ha, hb] at h; cases h
      | some q =>
        obtain ⟨k, m⟩ := p
        obtain ⟨k', n⟩ := q
        rw [ha, hb] at h
        have h5 : @Bool.rec (fun _ => FRes) none (resV (binN op k m n) H nx) (Nat.beq (nrK k) (nrK k')) = some (v, H', nx') := h
        clear h
        cases hk : Nat.beq (nrK k) (nrK k') with
        | false => rw [hk] at h5; cases h5
        | true =>
          rw [hk] at h5
          have h6 : resV (binN op k m n) H nx = some (v, H', nx') := h5
          clear h5
          cases nrK_inj hk
          cases hv : binN op k m n with
          | none => rw [hv] at h6; cases h6
          | some u =>
            rw [hv] at h6
            cases h6
            have hx := asI_some ha
            have hy := asI_some hb
            refine .inl ?_
            unfold anyOp
            have h1 : readOp P T H ⟨dst, .binOp op t x y yt, ty, pos, after, guard⟩ = none := by
              show (evalS T x).bind (fun a => (evalS T y).bind (nilTest P op t a)) = none
              rw [hx, hy]
              exact nilTest_int P op t _ k _
            have lx : litS T x = some (.int k (.ofNat m)) := by unfold litS; rw [hx]; rfl
            have ly : litS T y = some (.int k (.ofNat n)) := by unfold litS; rw [hy]; rfl
            have h2 : pureOp P T ⟨dst, .binOp op t x y yt, ty, pos, after, guard⟩ = some (.sc u) := by
              unfold pureOp
              have hl : litOps T [x, y] = true := by simp [litOps, lx, ly]
              rw [show (pureKind (Op.binOp op t x y yt) && litOps T (Op.binOp op t x y yt).operands.toList) = litOps T [x, y] from rfl, hl]
              rw [binN_ok hv t x y dst ty pos after guard yt (litEval T) (by unfold litEval; rw [lx]; rfl) (by unfold litEval; rw [ly]; rfl)]
              rfl
            rw [h1, h2]
  case nilCheck x =>
    obtain ⟨u, hu, he⟩ := fin1_some h
    rw [bindF_eq, evalF_eq] at hu
    exact .inl (viaRead hu he)
  case fieldAddr t x f =>
    obtain ⟨u, hu, he⟩ := fin1_some h
    rw [bindF_eq, evalF_eq] at hu
    exact .inl (viaRead hu he)
  case extract x i =>
    obtain ⟨u, hu, he⟩ := fin1_some h
    rw [bindF_eq, evalF_eq] at hu
    exact .inl (viaRead hu he)
  case field t x f =>
    obtain ⟨u, hu, he⟩ := fin1_some h
    rw [bindF_eq, evalF_eq] at hu
    refine .inl (viaRead (u := u) ?_ he)
    show (match evalS T x with
      | some (.agg l) => fieldS P t f l
      | _ => none) = _
    cases hx : evalS T x with
    | none => rw [hx] at hu; cases hu
    | some y =>
      rw [hx] at hu
      cases y <;> first | exact hu | cases hu
  case indexAddr t x i =>
    have h : Option.rec (motive := fun _ => FR) _ _ (natF (evalF i T)) T H nx P = _ := h
    rw [evalF_eq] at h
    cases hn : natF (evalS T i) with
    | none => rw [hn] at h; cases h
    | some n =>
      rw [hn] at h
      obtain ⟨u, hu, he⟩ := fin1_some h
      rw [bindF_eq, evalF_eq] at hu
      refine .inl (viaRead (u := u) ?_ he)
      show (natS T i).bind _ = _
      rw [show natS T i = some n from hn]
      exact hu
  all_goals (have h : (none : FRes) = some _ := h; cases h)
/-! ### the frame -/
abbrev Kt := FuncId → Nat → Tr SV → List ADf → Heap → Nat → Program → Rn → Option Nat → Option (List Res)
abbrev Kc := List AIt → Kt
abbrev Ko := Oper → Array Oper → Nat → List Oper → Kc

def putF (nt : Nat) (T : Tr SV) (dst : Option Tmp) (v : SV) : Tr SV :=
  Option.rec (motive := fun _ => Nat → Tr SV → SV → Tr SV) (fun _ T _ => T) (fun d nt T v => Bool.rec (motive := fun _ => Tr SV) T (T.ins d v 0) (Nat.ble (Nat.succ d) nt)) dst nt T v
theorem putF_eq (nt : Nat) (T : Tr SV) (dst : Option Tmp) (v : SV) : putF nt T dst v = putS nt T dst v := by
  cases dst with
  | none => rfl
  | some d =>
    show @Bool.rec (fun _ => Tr SV) T (T.set d v) (Nat.blt d nt) = cond (Nat.blt d nt) (T.set d v) T
    cases Nat.blt d nt <;> rfl

def opSlow : Ko := fun o ops i l k fn nt T dfs hp nx P rn ro => opS P rn ro ⟨fn, nt, T, .inReg ops i (o :: l) :: k, dfs, hp, nx⟩ k ops i o l
def opPut : SV → Heap → Nat → Ko := fun v H nx' o ops i l k fn nt T dfs _ _ _ rn ro => rn ro false ⟨fn, nt, putF nt T o.dst v, .inReg ops (Nat.succ i) l :: k, dfs, H, nx'⟩
def opEnd (r : FRes) : Ko :=
  Option.rec (motive := fun _ => Ko) opSlow (fun r => Prod.rec (motive := fun _ => Ko) (fun v q => Prod.rec (motive := fun _ => Ko) (fun H n => opPut v H n) q) r) r
def opGo : Ko := fun o ops i l k fn nt T dfs hp nx P rn ro => opEnd (fastOp o.op T hp nx P) o ops i l k fn nt T dfs hp nx P rn ro
def opF : Ko := fun o => Option.rec (motive := fun _ => Ko) opGo (fun _ => opSlow) o.guard o

theorem flat_one {A : Type} (f : A → Option (List Res)) (x : A) : flat f [x] = f x := by
  unfold flat
  cases f x with
  | none => rfl
  | some r => simp [flat]

theorem opF_eq (o : Oper) (ops : Array Oper) (i : Nat) (l : List Oper) (k : List AIt) (fn nt T dfs hp nx P rn ro) :
    opF o ops i l k fn nt T dfs hp nx P rn ro = opS P rn ro ⟨fn, nt, T, .inReg ops i (o :: l) :: k, dfs, hp, nx⟩ k ops i o l := by
  unfold opF
  cases hg : o.guard with
  | some g => rfl
  | none =>
    show opEnd (fastOp o.op T hp nx P) o ops i l k fn nt T dfs hp nx P rn ro = _
    cases hf : fastOp o.op T hp nx P with
    | none => rfl
    | some r =>
      obtain ⟨v, H', nx'⟩ := r
      show rn ro false ⟨fn, nt, putF nt T o.dst v, .inReg ops (i + 1) l :: k, dfs, H', nx'⟩ = _
      rw [putF_eq]
      unfold opS
      have hw : wantedS T ops o = some true := by unfold wantedS; rw [hg]
      simp only [hw]
      rcases fastOp_ok hf with h | ⟨h, rfl⟩
      · simp only [h, flat_one]
        rfl
      · simp only [h, flat_one]
        rfl

def asB (o : Option SV) : Option Bool :=
  Option.rec (motive := fun _ => Option Bool) none (fun v => SV.casesOn (motive_1 := fun _ => Option Bool) v
    (fun x => Value.casesOn (motive_1 := fun _ => Option Bool) x some (fun _ _ => none) (fun _ _ => none) (fun _ _ _ => none) (fun _ => none) (fun _ => none) (fun _ _ _ => none) (fun _ => none) (fun _ => none)
      (fun _ _ _ => none) none (fun _ _ => none) none (fun _ => none) (fun _ => none))
    (fun _ _ => none) (fun _ _ _ _ => none) (fun _ _ _ _ => none) (fun _ => none) (fun _ => none) (fun _ => none) (fun _ => none) (fun _ _ => none) (fun _ _ _ => none)) o

def kGo : Kc := fun k fn nt T dfs hp nx P rn ro => rn ro false ⟨fn, nt, T, k, dfs, hp, nx⟩
def kCode (c : Code) : Kc := fun k => kGo (.code c :: k)
def cSlow (c : Code) : Kc := fun k fn nt T dfs hp nx P rn ro => codeS P rn ro ⟨fn, nt, T, .code c :: k, dfs, hp, nx⟩ k c
def cSeq (a b : Code) : Kc := fun k => kGo (.code a :: .code b :: k)
def cRegion (id : Nat) (ops : Array Oper) (draw : Bool) : Kc :=
  Bool.rec (motive := fun _ => Nat → Array Oper → Kc) (fun _ ops k => kGo (.inReg ops 0 ops.toList :: k)) (fun id ops => cSlow (.region id ops true)) draw id ops
def condGo (o : Option Bool) : Code → Code → Kc :=
  Option.rec (motive := fun _ => Code → Code → Kc) (fun _ _ _ _ _ _ _ _ _ _ _ _ => none) (fun t => Bool.rec (motive := fun _ => Code → Code → Kc) (fun _ b => kCode b) (fun a _ => kCode a) t) o
def cCond (c : Operand) (a b : Code) : Kc := fun k fn nt T => condGo (asB (evalF c T)) a b k fn nt T
def codeF (c : Code) : Kc :=
  Code.rec (motive := fun _ => Kc) kGo cRegion (fun a b _ _ => cSeq a b) (fun c a b _ _ => cCond c a b)
    (fun id b _ k => kGo (.code b :: .inBlock id :: k)) (fun b _ k => kGo (.code b :: .inLoop b :: k)) (fun f p a b _ _ => cSlow (.rangeFunc f p a b))
    (fun id => cSlow (.exit id)) (fun b _ k => kGo (.code b :: .inScope b :: k)) (fun _ => kGo) (fun l => cSlow (.goto l)) (cSlow .ret) (fun w => cSlow (.refuse w)) c

theorem codeF_eq (c : Code) (k : List AIt) (fn nt T dfs hp nx P rn ro) : codeF c k fn nt T dfs hp nx P rn ro = codeS P rn ro ⟨fn, nt, T, .code c :: k, dfs, hp, nx⟩ k c := by
  cases c
  case cond c a b =>
    show condGo (asB (evalF c T)) a b k fn nt T dfs hp nx P rn ro = (match evalS T c with
      | some (.sc (.bool t)) => rn ro false ⟨fn, nt, T, .code (bif t then a else b) :: k, dfs, hp, nx⟩
      | _ => none)
    rw [evalF_eq]
    cases evalS T c with
    | none => rfl
    | some v =>
      cases v
      case sc x =>
        cases x
        case bool t => cases t <;> rfl
        all_goals rfl
      all_goals rfl
  case region id ops draw => cases draw <;> rfl
  all_goals rfl

def itSlow (it : AIt) : Kc := fun k fn nt T dfs hp nx P rn ro => stepS P rn ro ⟨fn, nt, T, it :: k, dfs, hp, nx⟩
def regGo (l : List Oper) : Array Oper → Nat → Kc :=
  List.rec (motive := fun _ => Array Oper → Nat → Kc) (fun _ _ => kGo) (fun o l _ ops i => opF o ops i l) l
def itF (it : AIt) : Kc :=
  AIt.rec (motive := fun _ => Kc) codeF (fun _ => kGo) (fun b k => kGo (.code b :: .inLoop b :: k)) (fun _ => kGo) (fun ops i l => regGo l ops i) (fun l => itSlow (.inRange l)) (fun l => itSlow (.endRange l)) (itSlow .beginRound) it
def todoF (l : List AIt) : Kt :=
  List.rec (motive := fun _ => Kt) (fun fn nt T dfs hp nx P rn ro => stepS P rn ro ⟨fn, nt, T, [], dfs, hp, nx⟩) (fun it k _ => itF it k) l
def stepF (s : FrS) : Program → Rn → Option Nat → Option (List Res) :=
  FrS.rec (motive := fun _ => Program → Rn → Option Nat → Option (List Res)) (fun fn nt T todo dfs hp nx => todoF todo fn nt T dfs hp nx) s

theorem stepF_eq (s : FrS) (P : Program) (rn : Rn) (ro : Option Nat) : stepF s P rn ro = stepS P rn ro s := by
  obtain ⟨fn, nt, T, todo, dfs, hp, nx⟩ := s
  cases todo with
  | nil => rfl
  | cons it k =>
    cases it
    case code c => exact codeF_eq ..
    case inReg ops i l =>
      cases l with
      | nil => rfl
      | cons o l => exact opF_eq ..
    all_goals rfl

def runF (P : Program) (f : Nat) : Rn :=
  Nat.rec (motive := fun _ => Rn) (fun _ _ _ => none)
    (fun _ ih ro lv s => Bool.rec (motive := fun _ => Option (List Res)) (stepF (normFS s) P ih ro) (Option.rec (motive := fun _ => Option (List Res)) (finS P ih s) (fun _ => none) ro) lv) f

theorem runF_eq (P : Program) : ∀ f, runF P f = run P f
  | 0 => rfl
  | f + 1 => by
    funext ro lv s
    cases lv with
    | false =>
      show stepF (normFS s) P (runF P f) ro = stepS P (run P f) ro (normFS s)
      rw [stepF_eq, runF_eq P f]
    | true =>
      show Option.rec (motive := fun _ => Option (List Res)) (finS P (runF P f) s) (fun _ => none) ro = Option.rec (motive := fun _ => Option (List Res)) (finS P (run P f) s) (fun _ => none) ro
      rw [runF_eq P f]

def provesF (P : Program) (fuel : Nat) (f : FuncId) : Bool :=
  bif P.follows .mixedOrders then match callS P (runF P fuel) f [] .nil 0 with
    | some (r :: rs) => isTrue (r :: rs)
    | _ => false
  else false
theorem provesF_eq (P : Program) (fuel : Nat) (f : FuncId) : provesF P fuel f = proves P fuel f := by
  unfold provesF proves
  rw [runF_eq]
  rfl
theorem provesF_ok {P : Program} {fuel : Nat} {f : FuncId} (h : provesF P fuel f = true) (w : World) : Calls P f #[] w fun e w' => e = .returned (.bool true) ∧ Below w.heap.size w w' :=
  proves_ok (provesF_eq P fuel f ▸ h) w
end
end Go.Ex

