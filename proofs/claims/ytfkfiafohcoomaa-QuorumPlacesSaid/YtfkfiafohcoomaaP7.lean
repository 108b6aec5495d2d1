/-
  Texts of the proof, merged: ExS SyEx Qk Q19 Post SyBr Qa.
-/
import Derived.WalkKit
import Derived.ProofKit
import Derived.OpenShut
import Derived.Below
import Derived.ChangeSame
import Derived.Carry
import Derived.ChangeArms
import Derived.Test.YtfkfiafohcoomaaChecked
import Derived.Test.YtfkfiafohcoomaaP6
set_option linter.unusedVariables false
set_option linter.unusedSimpArgs false
section
namespace Go.Ex
open Go Go.Sl Go.RowKit
noncomputable section
def limK (k : IntKind) : Nat := IntKind.rec 128 32768 2147483648 9223372036854775808 128 32768 2147483648 9223372036854775808 k
def nrK (k : IntKind) : Nat := IntKind.rec 0 1 2 3 4 5 6 7 k
theorem nrK_inj {a b : IntKind} (h : Nat.beq (nrK a) (nrK b) = true) : a = b := by cases a <;> cases b <;> first | rfl | exact absurd h (by decide)
theorem wrap_small {k : IntKind} {n : Nat} (h : Nat.blt n (limK k) = true) : k.wrap (n : Int) = (n : Int) := by
  have h : n < limK k := Nat.le_of_ble_eq_true h
  cases k <;> simp only [limK] at h <;> simp [IntKind.wrap, IntKind.bits, IntKind.signed] <;> omega
def yesN (b : Bool) (v : Value) : Option Value := Bool.rec none (some v) b
theorem yesN_some {b : Bool} {v r : Value} (h : yesN b v = some r) : b = true ∧ r = v := by
  cases b
  · cases h
  · exact ⟨rfl, (Option.some.inj h).symm⟩
def binN (op : BinOp) : IntKind → Nat → Nat → Option Value :=
  BinOp.rec (motive := fun _ => IntKind → Nat → Nat → Option Value)
    (fun k m n => yesN (Nat.blt (Nat.add m n) (limK k)) (.int k (.ofNat (Nat.add m n))))
    (fun k m n => yesN (and (Nat.ble n m) (Nat.blt m (limK k))) (.int k (.ofNat (Nat.sub m n))))
    (fun k m n => yesN (Nat.blt (Nat.mul m n) (limK k)) (.int k (.ofNat (Nat.mul m n))))
    (fun _ _ _ => none) (fun _ _ _ => none) (fun _ _ _ => none) (fun _ _ _ => none) (fun _ _ _ => none) (fun _ _ _ => none) (fun _ _ _ => none) (fun _ _ _ => none)
    (fun _ m n => some (.bool (Nat.beq m n))) (fun _ m n => some (.bool (not (Nat.beq m n))))
    (fun _ m n => some (.bool (Nat.blt m n))) (fun _ m n => some (.bool (Nat.ble m n))) (fun _ m n => some (.bool (Nat.blt n m))) (fun _ m n => some (.bool (Nat.ble n m))) op
theorem beq_dec (m n : Nat) : Nat.beq m n = ((m : Int) == (n : Int)) := by
  cases h : Nat.beq m n with
  | true => have := Nat.eq_of_beq_eq_true h; subst this; simp
  | false => have := Nat.ne_of_beq_eq_false h; symm; simp; omega
theorem blt_dec (m n : Nat) : Nat.blt m n = decide ((m : Int) < (n : Int)) := by
  cases h : Nat.blt m n with
  | true => have : m < n := Nat.le_of_ble_eq_true h; symm; simp; omega
  | false =>
    symm; simp only [decide_eq_false_iff_not]; intro h2
    have : Nat.blt m n = true := Nat.ble_eq_true_of_le (by omega)
    rw [h] at this; cases this
theorem ble_dec (m n : Nat) : Nat.ble m n = decide ((m : Int) ≤ (n : Int)) := by
  cases h : Nat.ble m n with
  | true => have : m ≤ n := Nat.le_of_ble_eq_true h; symm; simp; omega
  | false =>
    symm; simp only [decide_eq_false_iff_not]; intro h2
    have : Nat.ble m n = true := Nat.ble_eq_true_of_le (by omega)
    rw [h] at this; cases this
theorem binN_ok {P : Program} {op : BinOp} {k : IntKind} {m n : Nat} {v : Value} (h : binN op k m n = some v) (t : TypeId) (xo yo : Operand) (dst ty pos after guard) (yt : TypeId) (ev : Operand → Value) (hx : ev xo = .int k (m : Int)) (hy : ev yo = .int k (n : Int)) :
    pureRun P (execOp ev ⟨dst, .binOp op t xo yo yt, ty, pos, after, guard⟩) = some (.value v) := by
  have key : eqGuard op t xo yo (.int k (m : Int)) (.int k (n : Int)) = pure () ∧ Go.binOp op t (.int k (m : Int)) (.int k (n : Int)) = pure v := by
    cases op
    case add =>
      obtain ⟨h1, rfl⟩ := yesN_some h
      refine ⟨rfl, ?_⟩
      simp only [Go.binOp, Op.intArith]
      rw [show ((m : Int) + (n : Int)) = ((Nat.add m n : Nat) : Int) from rfl, wrap_small h1]
      simp
    case sub =>
      obtain ⟨h1, rfl⟩ := yesN_some h
      refine ⟨rfl, ?_⟩
      simp only [Go.binOp, Op.intArith]
      have h1' := (Bool.and_eq_true _ _).mp h1
      have hle : n ≤ m := Nat.le_of_ble_eq_true h1'.1
      have hlt : m < limK k := Nat.le_of_ble_eq_true h1'.2
      rw [show ((m : Int) - (n : Int)) = ((Nat.sub m n : Nat) : Int) from (Int.ofNat_sub hle).symm, wrap_small (Nat.ble_eq_true_of_le (by have : Nat.sub m n ≤ m := Nat.sub_le m n; omega))]
      simp
    case mul =>
      obtain ⟨h1, rfl⟩ := yesN_some h
      refine ⟨rfl, ?_⟩
      simp only [Go.binOp, Op.intArith]
      rw [show ((m : Int) * (n : Int)) = ((Nat.mul m n : Nat) : Int) from rfl, wrap_small h1]
      simp
    case eql => cases h; refine ⟨rfl, ?_⟩; simp only [Go.binOp, Op.intCmp, beq_dec]; simp
    case neq => cases h; refine ⟨rfl, ?_⟩; simp only [Go.binOp, Op.intCmp, beq_dec]; simp [bne]
    case lss => cases h; refine ⟨rfl, ?_⟩; simp only [Go.binOp, Op.intCmp, blt_dec]; simp
    case leq => cases h; refine ⟨rfl, ?_⟩; simp only [Go.binOp, Op.intCmp, ble_dec]; simp
    case gtr => cases h; refine ⟨rfl, ?_⟩; simp only [Go.binOp, Op.intCmp, blt_dec]; simp
    case geq => cases h; refine ⟨rfl, ?_⟩; simp only [Go.binOp, Op.intCmp, ble_dec]; simp
    all_goals (have h : (none : Option Value) = some _ := h; cases h)
  simp only [execOp, hx, hy, key.1, key.2]
  rfl
abbrev FRes := Option (SV × Heap × Nat)
abbrev FR := Tr SV → Heap → Nat → Program → FRes
def evalF (x : Operand) : Tr SV → Option SV :=
  Operand.rec (motive := fun _ => Tr SV → Option SV) (fun t T => T.get t 0) (fun v _ => some (.sc v)) (fun g _ => some (.sc (.pointer (some ⟨g, 0, none⟩)))) (fun f _ => some (.sc (.func (.func f) #[] #[]))) x
theorem evalF_eq (x : Operand) (T : Tr SV) : evalF x T = evalS T x := by cases x <;> rfl
def fin1 (o : Option SV) : Heap → Nat → FRes :=
  Option.rec (motive := fun _ => Heap → Nat → FRes) (fun _ _ => none) (fun v H nx => some (v, H, nx)) o
theorem fin1_some {o : Option SV} {H : Heap} {nx : Nat} {r : SV × Heap × Nat} (h : fin1 o H nx = some r) : ∃ v, o = some v ∧ r = (v, H, nx) := by
  cases o with
  | none => cases h
  | some v => exact ⟨v, rfl, (Option.some.inj h).symm⟩
def bindF (o : Option SV) : (SV → Option SV) → Option SV :=
  Option.rec (motive := fun _ => (SV → Option SV) → Option SV) (fun _ => none) (fun v f => f v) o
theorem bindF_eq (o : Option SV) (f : SV → Option SV) : bindF o f = o.bind f := by cases o <;> rfl
def sMove (x : Operand) : FR := fun T H nx _ => fin1 (evalF x T) H nx
def ptrF (o : Option SV) : (Nat → Nat → FR) → (Tr SV → Heap → Nat → Program → FRes) :=
  Option.rec (motive := fun _ => (Nat → Nat → FR) → FR) (fun _ _ _ _ _ => none)
    (fun v => SV.casesOn (motive_1 := fun _ => (Nat → Nat → FR) → FR) v (fun _ _ _ _ _ _ => none) (fun b o f => f b o) (fun _ _ _ _ _ _ _ _ _ => none) (fun _ _ _ _ _ _ _ _ _ => none)
      (fun _ _ _ _ _ _ => none) (fun _ _ _ _ _ _ => none) (fun _ _ _ _ _ _ => none) (fun _ _ _ _ _ _ => none) (fun _ _ _ _ _ _ _ => none) (fun _ _ _ _ _ _ _ _ => none)) o
def sLoad (t : TypeId) (x : Operand) : FR := fun T H nx P => ptrF (evalF x T) (fun b o _ H nx P => fin1 (loadS P H t b o) H nx) T H nx P
def stF (o : Option Heap) : Nat → FRes := Option.rec (motive := fun _ => Nat → FRes) (fun _ => none) (fun H nx => some (undefS, H, nx)) o
def sStore (t : TypeId) (a x : Operand) : FR := fun T H nx P => ptrF (evalF a T) (fun b o T H nx P =>
  Option.rec (motive := fun _ => Heap → Nat → Program → FRes) (fun _ _ _ => none) (fun v H nx P => Bool.rec none (stF (storeS H b o v.cells) nx) (sizeIs P t v.cells.length)) (evalF x T) H nx P) T H nx P
def sNil (x : Operand) : FR := fun T H nx _ => fin1 (bindF (evalF x T) checkedS) H nx
def sFieldAddr (t : TypeId) (x : Operand) (f : Nat) : FR := fun T H nx P => fin1 (bindF (evalF x T) (fieldAddrS P t f)) H nx
def natF (o : Option SV) : Option Nat := match o with
  | some (.sc (.int _ (.ofNat n))) => some n
  | _ => none
def sIndexAddr (t : TypeId) (x i : Operand) : FR := fun T H nx P =>
  Option.rec (motive := fun _ => FR) (fun _ _ _ _ => none) (fun n T H nx P => fin1 (bindF (evalF x T) (indexAddrS P t n)) H nx) (natF (evalF i T)) T H nx P
def sField (t : TypeId) (x : Operand) (f : Nat) : FR := fun T H nx P => fin1 (bindF (evalF x T) (fun v => match v with
  | .agg l => fieldS P t f l
  | _ => none)) H nx
def sExtract (x : Operand) (i : Nat) : FR := fun T H nx _ => fin1 (bindF (evalF x T) (nthS i)) H nx
abbrev KN := IntKind × Nat
def asI (o : Option SV) : Option KN :=
  Option.rec (motive := fun _ => Option KN) none (fun v => SV.casesOn (motive_1 := fun _ => Option KN) v
    (fun x => Value.casesOn (motive_1 := fun _ => Option KN) x (fun _ => none) (fun k i => Int.rec (motive := fun _ => IntKind → Option KN) (fun n k => some (k, n)) (fun _ _ => none) i k) (fun _ _ => none) (fun _ _ _ => none) (fun _ => none) (fun _ => none) (fun _ _ _ => none) (fun _ => none) (fun _ => none)
      (fun _ _ _ => none) none (fun _ _ => none) none (fun _ => none) (fun _ => none))
    (fun _ _ => none) (fun _ _ _ _ => none) (fun _ _ _ _ => none) (fun _ => none) (fun _ => none) (fun _ => none) (fun _ => none) (fun _ _ => none) (fun _ _ _ => none)) o
theorem asI_some {o : Option SV} {k : IntKind} {n : Nat} (h : asI o = some (k, n)) : o = some (.sc (.int k (.ofNat n))) := by
  cases o with
  | none => cases h
  | some v =>
    cases v
    case sc x =>
      cases x
      case int k' i =>
        cases i with
        | ofNat m => cases h; rfl
        | negSucc m => cases h
      all_goals cases h
    all_goals cases h
def resV (o : Option Value) : Heap → Nat → FRes :=
  Option.rec (motive := fun _ => Heap → Nat → FRes) (fun _ _ => none) (fun v H nx => some (.sc v, H, nx)) o
def binR (a b : Option KN) : BinOp → Heap → Nat → FRes :=
  Option.rec (motive := fun _ => Option KN → BinOp → Heap → Nat → FRes) (fun _ _ _ _ => none)
    (fun p b => Option.rec (motive := fun _ => KN → BinOp → Heap → Nat → FRes) (fun _ _ _ _ => none)
      (fun q p op H nx => Bool.rec (motive := fun _ => FRes) none (resV (binN op p.1 p.2 q.2) H nx) (Nat.beq (nrK p.1) (nrK q.1))) b p) a b
def sBin (op : BinOp) (_ : TypeId) (x y : Operand) (_ : TypeId) : FR := fun T H nx _ => binR (asI (evalF x T)) (asI (evalF y T)) op H nx
theorem isNilS_int (s : SV) (k : IntKind) (i : Int) (d : TypeDesc) : isNilS s (.int k i) d = false := by
  cases s <;> rfl
theorem nilTest_int (P : Program) (op : BinOp) (t : TypeId) (a : SV) (k : IntKind) (i : Int) : nilTest P op t a (.sc (.int k i)) = none := by
  unfold nilTest
  simp only [isNilS_int, cond_false]
  split <;> rfl
def fastOp (o : Op) : FR :=
  Op.rec (motive := fun _ => FR)
    sMove
    sMove
    (fun _ _ _ _ _ _ _ => none)
    (fun _ _ _ _ _ => none)
    (fun _ _ _ _ _ _ => none)
    (fun _ _ _ _ _ _ => none)
    (fun _ _ _ _ _ _ _ => none)
    (fun _ _ _ _ _ _ _ _ => none)
    sLoad
    sStore
    (fun _ _ _ _ _ => none)
    (fun _ _ _ _ _ => none)
    sNil
    sBin
    (fun _ _ _ _ _ _ _ => none)
    (fun _ _ _ _ _ _ _ => none)
    (fun _ _ _ _ _ _ => none)
    (fun _ _ _ _ _ _ => none)
    (fun _ _ _ _ _ _ _ => none)
    (fun _ _ _ _ _ _ => none)
    (fun _ _ _ _ _ _ => none)
    (fun _ _ _ _ _ _ _ => none)
    (fun _ _ _ _ _ _ _ _ _ => none)
    sFieldAddr
    sField
    sIndexAddr
    (fun _ _ _ _ _ _ _ => none)
    (fun _ _ _ _ _ _ _ _ => none)
    (fun _ _ _ _ _ _ _ _ => none)
    (fun _ _ _ _ _ _ _ => none)
    (fun _ _ _ _ _ _ _ _ => none)
    (fun _ _ _ _ _ _ => none)
    (fun _ _ _ _ _ _ => none)
    (fun _ _ _ _ _ => none)
    (fun _ _ _ _ _ _ _ _ => none)
    sExtract
    (fun _ _ _ _ _ => none)
    (fun _ _ _ _ _ => none)
    (fun _ _ _ _ _ => none)
    (fun _ _ _ _ _ => none)
    (fun _ _ _ _ _ _ => none)
    (fun _ _ _ _ _ _ _ => none)
    (fun _ _ _ _ _ _ => none) o
theorem fastOp_ok {P : Program} {T : Tr SV} {H : Heap} {nx : Nat} {o : Oper} {v : SV} {H' : Heap} {nx' : Nat} (h : fastOp o.op T H nx P = some (v, H', nx')) :
    anyOp P T H nx o = some [(.val v, H', nx')] ∨ (anyOp P T H nx o = some [(.skip, H', nx')] ∧ v = undefS) := by
  have viaRead : ∀ {u : SV}, readOp P T H o = some u → (v, H', nx') = (u, H, nx) → anyOp P T H nx o = some [(.val v, H', nx')] := by
    intro u hu he
    cases he
    unfold anyOp
    rw [hu]
  obtain ⟨dst, op, ty, pos, after, guard⟩ := o
  cases op
  case move x =>
    obtain ⟨u, hu, he⟩ := fin1_some h
    rw [evalF_eq] at hu
    exact .inl (viaRead hu he)
  case assign x =>
    obtain ⟨u, hu, he⟩ := fin1_some h
    rw [evalF_eq] at hu
    exact .inl (viaRead hu he)
  case load t x =>
    have h : ptrF (evalF x T) _ T H nx P = _ := h
    rw [evalF_eq] at h
    cases hx : evalS T x with
    | none => rw [hx] at h; cases h
    | some u =>
      rw [hx] at h
      cases u
      case ptr b o =>
        obtain ⟨w, hw, he⟩ := fin1_some h
        refine .inl (viaRead (u := w) ?_ he)
        show (match evalS T x with
          | some (.ptr b o) => loadS P H t b o
          | _ => none) = _
        rw [hx]
        exact hw
      all_goals cases h
  case store t a x =>
    have h : ptrF (evalF a T) _ T H nx P = _ := h
    rw [evalF_eq] at h
    cases ha : evalS T a with
    | none => rw [ha] at h; cases h
    | some u =>
      rw [ha] at h
      cases u
      case ptr b o =>
        have h : Option.rec (motive := fun _ => Heap → Nat → Program → FRes) _ _ (evalF x T) H nx P = _ := h
        rw [evalF_eq] at h
        cases hx : evalS T x with
        | none => rw [hx] at h; cases h
        | some y =>
          rw [hx] at h
          have h : @Bool.rec (fun _ => FRes) none (stF (storeS H b o y.cells) nx) (sizeIs P t y.cells.length) = _ := h
          cases hs : sizeIs P t y.cells.length with
          | false => rw [hs] at h; cases h
          | true =>
            rw [hs] at h
            cases hst : storeS H b o y.cells with
            | none => rw [hst] at h; cases h
            | some H2 =>
              rw [hst] at h
              cases h
              refine .inr ⟨?_, rfl⟩
              unfold anyOp
              have h1 : readOp P T H ⟨dst, .store t a x, ty, pos, after, guard⟩ = none := rfl
              have h2 : pureOp P T ⟨dst, .store t a x, ty, pos, after, guard⟩ = none := rfl
              have h3 : effOp P T H nx ⟨dst, .store t a x, ty, pos, after, guard⟩ = some (.skip, H', nx) := by
                unfold effOp
                simp only [ha, hx, hs, hst, cond_true]
              rw [h1, h2, h3]
      all_goals cases h
  case binOp op t x y yt =>
    have h : binR (asI (evalF x T)) (asI (evalF y T)) op H nx = _ := h
    rw [evalF_eq, evalF_eq] at h
    cases ha : asI (evalS T x) with
    | none => rw [ha] at h; cases h
    | some p =>
      cases hb : asI (evalS T y) with
      | none => rw [ha, hb] at h; cases h
      | some q =>
        obtain ⟨k, m⟩ := p
        obtain ⟨k', n⟩ := q
        rw [ha, hb] at h
        have h5 : @Bool.rec (fun _ => FRes) none (resV (binN op k m n) H nx) (Nat.beq (nrK k) (nrK k')) = some (v, H', nx') := h
        clear h
        cases hk : Nat.beq (nrK k) (nrK k') with
        | false => rw [hk] at h5; cases h5
        | true =>
          rw [hk] at h5
          have h6 : resV (binN op k m n) H nx = some (v, H', nx') := h5
          clear h5
          cases nrK_inj hk
          cases hv : binN op k m n with
          | none => rw [hv] at h6; cases h6
          | some u =>
            rw [hv] at h6
            cases h6
            have hx := asI_some ha
            have hy := asI_some hb
            refine .inl ?_
            unfold anyOp
            have h1 : readOp P T H ⟨dst, .binOp op t x y yt, ty, pos, after, guard⟩ = none := by
              show (evalS T x).bind (fun a => (evalS T y).bind (nilTest P op t a)) = none
              rw [hx, hy]
              exact nilTest_int P op t _ k _
            have lx : litS T x = some (.int k (.ofNat m)) := by unfold litS; rw [hx]; rfl
            have ly : litS T y = some (.int k (.ofNat n)) := by unfold litS; rw [hy]; rfl
            have h2 : pureOp P T ⟨dst, .binOp op t x y yt, ty, pos, after, guard⟩ = some (.sc u) := by
              unfold pureOp
              have hl : litOps T [x, y] = true := by simp [litOps, lx, ly]
              rw [show (pureKind (Op.binOp op t x y yt) && litOps T (Op.binOp op t x y yt).operands.toList) = litOps T [x, y] from rfl, hl]
              rw [binN_ok hv t x y dst ty pos after guard yt (litEval T) (by unfold litEval; rw [lx]; rfl) (by unfold litEval; rw [ly]; rfl)]
              rfl
            rw [h1, h2]
  case nilCheck x =>
    obtain ⟨u, hu, he⟩ := fin1_some h
    rw [bindF_eq, evalF_eq] at hu
    exact .inl (viaRead hu he)
  case fieldAddr t x f =>
    obtain ⟨u, hu, he⟩ := fin1_some h
    rw [bindF_eq, evalF_eq] at hu
    exact .inl (viaRead hu he)
  case extract x i =>
    obtain ⟨u, hu, he⟩ := fin1_some h
    rw [bindF_eq, evalF_eq] at hu
    exact .inl (viaRead hu he)
  case field t x f =>
    obtain ⟨u, hu, he⟩ := fin1_some h
    rw [bindF_eq, evalF_eq] at hu
    refine .inl (viaRead (u := u) ?_ he)
    show (match evalS T x with
      | some (.agg l) => fieldS P t f l
      | _ => none) = _
    cases hx : evalS T x with
    | none => rw [hx] at hu; cases hu
    | some y =>
      rw [hx] at hu
      cases y <;> first | exact hu | cases hu
  case indexAddr t x i =>
    have h : Option.rec (motive := fun _ => FR) _ _ (natF (evalF i T)) T H nx P = _ := h
    rw [evalF_eq] at h
    cases hn : natF (evalS T i) with
    | none => rw [hn] at h; cases h
    | some n =>
      rw [hn] at h
      obtain ⟨u, hu, he⟩ := fin1_some h
      rw [bindF_eq, evalF_eq] at hu
      refine .inl (viaRead (u := u) ?_ he)
      show (natS T i).bind _ = _
      rw [show natS T i = some n from hn]
      exact hu
  all_goals (have h : (none : FRes) = some _ := h; cases h)
abbrev Kt := FuncId → Nat → Tr SV → List ADf → Heap → Nat → Program → Rn → Option Nat → Option (List Res)
abbrev Kc := List AIt → Kt
abbrev Ko := Oper → Array Oper → Nat → List Oper → Kc
def putF (nt : Nat) (T : Tr SV) (dst : Option Tmp) (v : SV) : Tr SV :=
  Option.rec (motive := fun _ => Nat → Tr SV → SV → Tr SV) (fun _ T _ => T) (fun d nt T v => Bool.rec (motive := fun _ => Tr SV) T (T.ins d v 0) (Nat.ble (Nat.succ d) nt)) dst nt T v
theorem putF_eq (nt : Nat) (T : Tr SV) (dst : Option Tmp) (v : SV) : putF nt T dst v = putS nt T dst v := by
  cases dst with
  | none => rfl
  | some d =>
    show @Bool.rec (fun _ => Tr SV) T (T.set d v) (Nat.blt d nt) = cond (Nat.blt d nt) (T.set d v) T
    cases Nat.blt d nt <;> rfl
def opSlow : Ko := fun o ops i l k fn nt T dfs hp nx P rn ro => opS P rn ro ⟨fn, nt, T, .inReg ops i (o :: l) :: k, dfs, hp, nx⟩ k ops i o l
def opPut : SV → Heap → Nat → Ko := fun v H nx' o ops i l k fn nt T dfs _ _ _ rn ro => rn ro false ⟨fn, nt, putF nt T o.dst v, .inReg ops (Nat.succ i) l :: k, dfs, H, nx'⟩
def opEnd (r : FRes) : Ko :=
  Option.rec (motive := fun _ => Ko) opSlow (fun r => Prod.rec (motive := fun _ => Ko) (fun v q => Prod.rec (motive := fun _ => Ko) (fun H n => opPut v H n) q) r) r
def opGo : Ko := fun o ops i l k fn nt T dfs hp nx P rn ro => opEnd (fastOp o.op T hp nx P) o ops i l k fn nt T dfs hp nx P rn ro
def opF : Ko := fun o => Option.rec (motive := fun _ => Ko) opGo (fun _ => opSlow) o.guard o
theorem flat_one {A : Type} (f : A → Option (List Res)) (x : A) : flat f [x] = f x := by
  unfold flat
  cases f x with
  | none => rfl
  | some r => simp [flat]
theorem opF_eq (o : Oper) (ops : Array Oper) (i : Nat) (l : List Oper) (k : List AIt) (fn nt T dfs hp nx P rn ro) :
    opF o ops i l k fn nt T dfs hp nx P rn ro = opS P rn ro ⟨fn, nt, T, .inReg ops i (o :: l) :: k, dfs, hp, nx⟩ k ops i o l := by
  unfold opF
  cases hg : o.guard with
  | some g => rfl
  | none =>
    show opEnd (fastOp o.op T hp nx P) o ops i l k fn nt T dfs hp nx P rn ro = _
    cases hf : fastOp o.op T hp nx P with
    | none => rfl
    | some r =>
      obtain ⟨v, H', nx'⟩ := r
      show rn ro false ⟨fn, nt, putF nt T o.dst v, .inReg ops (i + 1) l :: k, dfs, H', nx'⟩ = _
      rw [putF_eq]
      unfold opS
      have hw : wantedS T ops o = some true := by unfold wantedS; rw [hg]
      simp only [hw]
      rcases fastOp_ok hf with h | ⟨h, rfl⟩
      · simp only [h, flat_one]
        rfl
      · simp only [h, flat_one]
        rfl
def asB (o : Option SV) : Option Bool :=
  Option.rec (motive := fun _ => Option Bool) none (fun v => SV.casesOn (motive_1 := fun _ => Option Bool) v
    (fun x => Value.casesOn (motive_1 := fun _ => Option Bool) x some (fun _ _ => none) (fun _ _ => none) (fun _ _ _ => none) (fun _ => none) (fun _ => none) (fun _ _ _ => none) (fun _ => none) (fun _ => none)
      (fun _ _ _ => none) none (fun _ _ => none) none (fun _ => none) (fun _ => none))
    (fun _ _ => none) (fun _ _ _ _ => none) (fun _ _ _ _ => none) (fun _ => none) (fun _ => none) (fun _ => none) (fun _ => none) (fun _ _ => none) (fun _ _ _ => none)) o
def kGo : Kc := fun k fn nt T dfs hp nx P rn ro => rn ro false ⟨fn, nt, T, k, dfs, hp, nx⟩
def kCode (c : Code) : Kc := fun k => kGo (.code c :: k)
def cSlow (c : Code) : Kc := fun k fn nt T dfs hp nx P rn ro => codeS P rn ro ⟨fn, nt, T, .code c :: k, dfs, hp, nx⟩ k c
def cSeq (a b : Code) : Kc := fun k => kGo (.code a :: .code b :: k)
def cRegion (id : Nat) (ops : Array Oper) (draw : Bool) : Kc :=
  Bool.rec (motive := fun _ => Nat → Array Oper → Kc) (fun _ ops k => kGo (.inReg ops 0 ops.toList :: k)) (fun id ops => cSlow (.region id ops true)) draw id ops
def condGo (o : Option Bool) : Code → Code → Kc :=
  Option.rec (motive := fun _ => Code → Code → Kc) (fun _ _ _ _ _ _ _ _ _ _ _ _ => none) (fun t => Bool.rec (motive := fun _ => Code → Code → Kc) (fun _ b => kCode b) (fun a _ => kCode a) t) o
def cCond (c : Operand) (a b : Code) : Kc := fun k fn nt T => condGo (asB (evalF c T)) a b k fn nt T
def codeF (c : Code) : Kc :=
  Code.rec (motive := fun _ => Kc) kGo cRegion (fun a b _ _ => cSeq a b) (fun c a b _ _ => cCond c a b)
    (fun id b _ k => kGo (.code b :: .inBlock id :: k)) (fun b _ k => kGo (.code b :: .inLoop b :: k)) (fun f p a b _ _ => cSlow (.rangeFunc f p a b))
    (fun id => cSlow (.exit id)) (fun b _ k => kGo (.code b :: .inScope b :: k)) (fun _ => kGo) (fun l => cSlow (.goto l)) (cSlow .ret) (fun w => cSlow (.refuse w)) c
theorem codeF_eq (c : Code) (k : List AIt) (fn nt T dfs hp nx P rn ro) : codeF c k fn nt T dfs hp nx P rn ro = codeS P rn ro ⟨fn, nt, T, .code c :: k, dfs, hp, nx⟩ k c := by
  cases c
  case cond c a b =>
    show condGo (asB (evalF c T)) a b k fn nt T dfs hp nx P rn ro = (match evalS T c with
      | some (.sc (.bool t)) => rn ro false ⟨fn, nt, T, .code (bif t then a else b) :: k, dfs, hp, nx⟩
      | _ => none)
    rw [evalF_eq]
    cases evalS T c with
    | none => rfl
    | some v =>
      cases v
      case sc x =>
        cases x
        case bool t => cases t <;> rfl
        all_goals rfl
      all_goals rfl
  case region id ops draw => cases draw <;> rfl
  all_goals rfl
def itSlow (it : AIt) : Kc := fun k fn nt T dfs hp nx P rn ro => stepS P rn ro ⟨fn, nt, T, it :: k, dfs, hp, nx⟩
def regGo (l : List Oper) : Array Oper → Nat → Kc :=
  List.rec (motive := fun _ => Array Oper → Nat → Kc) (fun _ _ => kGo) (fun o l _ ops i => opF o ops i l) l
def itF (it : AIt) : Kc :=
  AIt.rec (motive := fun _ => Kc) codeF (fun _ => kGo) (fun b k => kGo (.code b :: .inLoop b :: k)) (fun _ => kGo) (fun ops i l => regGo l ops i) (fun l => itSlow (.inRange l)) (fun l => itSlow (.endRange l)) (itSlow .beginRound) it
def todoF (l : List AIt) : Kt :=
  List.rec (motive := fun _ => Kt) (fun fn nt T dfs hp nx P rn ro => stepS P rn ro ⟨fn, nt, T, [], dfs, hp, nx⟩) (fun it k _ => itF it k) l
def stepF (s : FrS) : Program → Rn → Option Nat → Option (List Res) :=
  FrS.rec (motive := fun _ => Program → Rn → Option Nat → Option (List Res)) (fun fn nt T todo dfs hp nx => todoF todo fn nt T dfs hp nx) s
theorem stepF_eq (s : FrS) (P : Program) (rn : Rn) (ro : Option Nat) : stepF s P rn ro = stepS P rn ro s := by
  obtain ⟨fn, nt, T, todo, dfs, hp, nx⟩ := s
  cases todo with
  | nil => rfl
  | cons it k =>
    cases it
    case code c => exact codeF_eq ..
    case inReg ops i l =>
      cases l with
      | nil => rfl
      | cons o l => exact opF_eq ..
    all_goals rfl
def runF (P : Program) (f : Nat) : Rn :=
  Nat.rec (motive := fun _ => Rn) (fun _ _ _ => none)
    (fun _ ih ro lv s => Bool.rec (motive := fun _ => Option (List Res)) (stepF (normFS s) P ih ro) (Option.rec (motive := fun _ => Option (List Res)) (finS P ih s) (fun _ => none) ro) lv) f
theorem runF_eq (P : Program) : ∀ f, runF P f = run P f
  | 0 => rfl
  | f + 1 => by
    funext ro lv s
    cases lv with
    | false =>
      show stepF (normFS s) P (runF P f) ro = stepS P (run P f) ro (normFS s)
      rw [stepF_eq, runF_eq P f]
    | true =>
      show Option.rec (motive := fun _ => Option (List Res)) (finS P (runF P f) s) (fun _ => none) ro = Option.rec (motive := fun _ => Option (List Res)) (finS P (run P f) s) (fun _ => none) ro
      rw [runF_eq P f]
def provesF (P : Program) (fuel : Nat) (f : FuncId) : Bool :=
  bif P.follows .mixedOrders then match callS P (runF P fuel) f [] .nil 0 with
    | some (r :: rs) => isTrue (r :: rs)
    | _ => false
  else false
theorem provesF_eq (P : Program) (fuel : Nat) (f : FuncId) : provesF P fuel f = proves P fuel f := by
  unfold provesF proves
  rw [runF_eq]
  rfl
end
end Go.Ex
end
section
namespace Go.Sy
open Go Go.Sl Go.RowKit
theorem sure_of {P : Program} {fuel : Nat} {f : FuncId} (h : Ex.provesF P fuel f = true) : Sure P f (.bool true) := by
  intro w kd cs hk
  have h := Ex.provesF_eq P fuel f ▸ h
  unfold Ex.proves at h
  cases hm : P.follows .mixedOrders with
  | false => rw [hm] at h; cases h
  | true =>
    rw [hm] at h
    simp only [cond_true] at h
    split at h
    · rename_i r rs hcall
      have hS : Ex.St w.heap.size w (fun _ => none) .nil 0 w := ⟨Below.refl _ _, Nat.le_refl _, fun id vo hv => (by rw [Ex.Tr.at_nil] at hv; cases hv), fun id id' vo vo' x x' hv => (by rw [Ex.Tr.at_nil] at hv; cases hv), fun _ _ => rfl⟩
      have hrun := (Ex.run_ok (P := P) (B := w.heap.size) (w0 := w) (fun rn hrn => Ex.drawOK hm hrn) fuel).1
      obtain ⟨r', hr', e', w', v, h1, h2, h3, tmps, todo, g1, fn, g2, g3⟩ := Ex.callS_ok hrun hcall hS (vs := #[]) rfl (kd := kd) (cs := cs) ⟨rfl, hk⟩
      have htrue : ∀ (l : List Ex.Res), Ex.isTrue l = true → ∀ x ∈ l, ∃ H n, x = (.sc (.bool true), H, n) := by
        intro l
        induction l with
        | nil => intro _ x hx; cases hx
        | cons a l ih =>
          intro hl x hx
          unfold Ex.isTrue at hl
          split at hl
          · rename_i heq; cases heq
          · rename_i H n l' heq
            simp only [List.cons.injEq] at heq
            obtain ⟨rfl, rfl⟩ := heq
            rcases List.mem_cons.1 hx with rfl | hx
            · exact ⟨H, n, rfl⟩
            · exact ih hl x hx
          · cases hl
      obtain ⟨H1, n1, rfl⟩ := htrue _ h r' hr'
      simp only [Ex.SV.conc, Option.some.injEq] at h3
      subst h3
      exact ⟨w', tmps, h2.below, ⟨todo, g1⟩, fn, g2, g3⟩
    · cases h
section
variable {P : Program} {ro : Option Nat} {fn nt nx : Nat} {T : Tr SV} {k : List AIt} {dfs : List ADf} {H : Heap} {Q : Pst} {ops : Array Oper} {i : Nat} {l : List Oper} {ty : TypeId} {pos : String} {af : Array Edge} {gd : Option (Nat × Bool)}
theorem w_sure {g : FuncId} {v : Value} {ats : Array TypeId} {dd : Nat} (hs : Sure P g v) (hw : wantedS T ops ⟨some dd, .call { callee := .value (.func g), args := #[], argTypes := ats }, ty, pos, af, gd⟩ = some true) (hd : Nat.blt dd nt = true) (hm : mayEnter P g = true)
    (h : Wp P ro ⟨fn, nt, T.set dd (.sc v), .inReg ops (i + 1) l :: k, dfs, H, nx⟩ Q) :
    Wp P ro ⟨fn, nt, T, .inReg ops i (⟨some dd, .call { callee := .value (.func g), args := #[], argTypes := ats }, ty, pos, af, gd⟩ :: l) :: k, dfs, H, nx⟩ Q :=
  w_call (as1 := []) hw hd rfl hm (.sure hs h)
end
end Go.Sy
end
section
namespace Go.Proofs.Ytfkfiafohcoomaa
open Go Go.Sy
theorem known_sure : Sure Try.prog 8 (.bool true) := sure_of (fuel := 20000) (by kernel_rfl)
end Go.Proofs.Ytfkfiafohcoomaa
end
section
namespace Go.Proofs.Ytfkfiafohcoomaa
open Go Go.Sy Go.Sl Go.RowKit
section
variable {P : Program} {H : Heap} {T : Tr SV} {d : Option Tmp} {ty : TypeId} {pos : String} {af : Array Edge} {gd : Option (Nat × Bool)}
theorem rd_neqB {t : TypeId} {x y : Operand} {yt : TypeId} {a b : Bool} (hx : evalS T x = some (.sc (.bool a))) (hy : evalS T y = some (.sc (.bool b))) (hu : P.underlying t = some .bool) : ReadDoes P T H ⟨d, .binOp .neq t x y yt, ty, pos, af, gd⟩ (.sc (.bool (!(a == b)))) := by
  refine rd_pure fun ev w he => ?_
  have e1 := he x _ hx _ rfl
  have e2 := he y _ hy _ rfl
  have hg : (eqGuard .neq t x y (.bool a) (.bool b)).run P w = .ok () w := rfl
  simp only [execOp, e1, e2, Sem.run_bind, hg, run_neq_bool w t a b hu, Result.andThen_ok, Sem.run_pure]
end
section
variable {P : Program} {nt nx : Nat} {T : Tr SV} {H : Heap} {ops : Array Oper} {i : Nat} {l : List Oper} {ty : TypeId} {pos : String} {af : Array Edge} {gd : Option (Nat × Bool)} {K : DS → Prop} {rs : List Rec} {Hs : List (Heap × Nat)} {stg : Nat}
theorem dw_neqB {t : TypeId} {x y : Operand} {yt : TypeId} {a b : Bool} {dd : Nat} (hw : wantedS (onlyT T (needs ops.toList ⟨some dd, .binOp .neq t x y yt, ty, pos, af, gd⟩)) ops ⟨some dd, .binOp .neq t x y yt, ty, pos, af, gd⟩ = some true) (hd : Nat.blt dd nt = true)
    (hx : evalS (onlyT T (needs ops.toList ⟨some dd, .binOp .neq t x y yt, ty, pos, af, gd⟩)) x = some (.sc (.bool a))) (hy : evalS (onlyT T (needs ops.toList ⟨some dd, .binOp .neq t x y yt, ty, pos, af, gd⟩)) y = some (.sc (.bool b))) (hu : P.underlying t = some .bool)
    (h : DrawK P nt ops (i + 1) l ⟨T.set dd (.sc (.bool (!(a == b)))), H, nx, ⟨i, ⟨some dd, .binOp .neq t x y yt, ty, pos, af, gd⟩, (onlyT T (needs ops.toList ⟨some dd, .binOp .neq t x y yt, ty, pos, af, gd⟩)), stg, false, true, (.sc (.bool (!(a == b))))⟩ :: rs, Hs, stg⟩ K) :
    DrawK P nt ops i (⟨some dd, .binOp .neq t x y yt, ty, pos, af, gd⟩ :: l) ⟨T, H, nx, rs, Hs, stg⟩ K :=
  dk_read hw hd (fun _ h => by cases h) (rd_neqB hx hy hu) h
end
theorem sameSelf (a : Int × Int) : (!samePl a a) = false := by rw [samePl_iff.2 rfl]; rfl
theorem boolSelf (a : Bool) : (!(a == a)) = false := by cases a <;> rfl
theorem less_same (a b : Int × Int) : lessP a b = (uptoP a b && !samePl a b) := less_is a b
set_option maxRecDepth 100000 in
set_option maxHeartbeats 0 in
theorem places_spec (ro : Bool) (k : Int) (l : List (Int × Int)) (a b : Int × Int) :
    Ctr Try.prog 3 [.sc (.int .i64 k), .slu 0 0 l.length, plS a, plS b] [plR ro l] (fun c => c = ⟨.sc (.bool true), [some (plR ro l)]⟩) := by
  refine Fnc.start Try.func3 rfl rfl ?_
  (repeat (first | refine y_seq ?_ | refine w_region ?_ | refine y_regEnd ?_ | refine w_move rfl rfl rfl ?_ | refine w_assign rfl rfl rfl ?_ | refine w_boxN rfl rfl rfl ?_ | refine w_lenSl rfl rfl rfl (F.un _ rfl) ?_))
  refine w_gtrS rfl rfl rfl rfl ?_ ?_
  all_goals intro h1
  · (repeat (first | (first | refine y_seq ?_ | refine w_region ?_ | refine y_regEnd ?_ | refine y_condT rfl ?_ | refine w_assign rfl rfl rfl ?_) | (refine w_sure known_sure rfl rfl (by kernel_rfl) ?_)))
    (apply w_ret Try.func3 (congrArg Array.toList Try.results3); (focus (repeat (first | exact ResIs.nil | apply ResIs.tmp rfl))))
    (refine ⟨_, rfl, Ends.val (ExtOk.of rfl) rfl ?_ ?_⟩)
    · rfl
    · exact (by repeat (first | exact trivial | refine ⟨at_dat rfl, ?_⟩))
  have hl : l.length < 4611686018427387904 := by omega
  have hq := qleast_spec false k l (by omega)
  have hr := rleast_spec ro k l hl
  rw [least_same] at hq
  have hch := choose_spec false l hl
  have hrc := rchoose_spec ro l hl
  rw [choose_same] at hch
  have hls := less_spec a b
  rw [less_same] at hls
  have hup := upto_spec a b
  generalize leastR k l = p at hq hr
  obtain ⟨p, is⟩ := p
  simp only at hq hr
  (repeat (first | (first | refine y_seq ?_ | refine w_region ?_ | refine y_regEnd ?_ | refine y_skip ?_ | refine y_condF rfl ?_ | refine w_move rfl rfl rfl ?_ | refine w_assign rfl rfl rfl ?_ | refine w_extract rfl rfl rfl rfl ?_ | refine w_alloc rfl rfl (F.zl _ rfl) ?_ | refine w_storeN rfl rfl rfl (F.sz _ rfl) rfl rfl (by decide) rfl rfl ?_) | (refine w_appendNil (b := 16) rfl rfl rfl rfl (F.un _ rfl) (.inl ⟨_, F.un _ rfl⟩) (F.sz _ rfl) rfl (by kernel_rfl) (by kernel_rfl) (rdv_pl l rfl) (flat_one1 l) (by omega) (by omega) ?_) | refine w_callFn rfl rfl rfl (by kernel_rfl) (Ctr.callD (hq) [3] rfl (ExtOk.of rfl) rfl (by repeat (first | exact trivial | refine ⟨at_dat rfl, ?_⟩)) rfl (by repeat (first | exact trivial | refine ⟨closed_dat, ?_⟩)) (fun _ => rfl) rfl rfl) ?_ | refine w_callFn rfl rfl rfl (by kernel_rfl) (Ctr.callD (hr) [0] rfl (ExtOk.of rfl) rfl (by repeat (first | exact trivial | refine ⟨at_dat rfl, ?_⟩)) rfl (by repeat (first | exact trivial | refine ⟨closed_dat, ?_⟩)) (fun _ => rfl) rfl rfl) ?_))
  refine w_draw (by kernel_rfl) (by kernel_rfl) ?_
  (repeat (refine dw_loadBN rfl rfl rfl (F.ag _ rfl) rfl rfl ?_))
  refine dw_neqPl rfl rfl rfl rfl ?_
  rw [sameSelf]
  (repeat (refine dw_move rfl rfl rfl ?_))
  refine dw_neqB rfl rfl rfl rfl (F.un _ rfl) ?_
  rw [boolSelf]
  (repeat (first | refine dw_move rfl rfl rfl ?_ | refine dw_pickF rfl rfl rfl rfl ?_ | refine dk_call rfl rfl rfl (by kernel_rfl) (Ctr.callV (hch) [3] rfl (ExtOk.of rfl) rfl (by repeat (first | exact trivial | refine ⟨at_dat rfl, ?_⟩)) rfl) ?_ | refine dk_call rfl rfl rfl (by kernel_rfl) (Ctr.callV (hrc) [0] rfl (ExtOk.of rfl) rfl (by repeat (first | exact trivial | refine ⟨at_dat rfl, ?_⟩)) rfl) ?_))
  refine dw_neqS rfl rfl rfl rfl ?_ ?_
  all_goals intro hne
  · exact absurd rfl hne
  cases hu : uptoP a b
  all_goals rw [hu] at hup hls
  all_goals simp only [Bool.false_and, Bool.true_and] at hls
  all_goals (repeat (first | refine dw_move rfl rfl rfl ?_ | refine dw_pickT rfl rfl rfl rfl ?_ | refine dw_pickF rfl rfl rfl rfl ?_ | refine dw_loadBN rfl rfl rfl (F.ag _ rfl) rfl rfl ?_ | refine dk_skip rfl rfl ?_ | refine dk_call rfl rfl rfl (by kernel_rfl) (Ctr.callV (hls) [] rfl (ExtOk.of rfl) rfl trivial rfl) ?_ | refine dk_call rfl rfl rfl (by kernel_rfl) (Ctr.callV (hup) [] rfl (ExtOk.of rfl) rfl trivial rfl) ?_ | (refine dw_neqPl rfl rfl rfl rfl ?_)))
  all_goals (refine dw_neqB rfl rfl rfl rfl (F.un _ rfl) ?_)
  all_goals rw [boolSelf]
  all_goals (repeat (refine dw_pickF rfl rfl rfl rfl ?_))
  all_goals (refine dk_nil ?_); (refine ⟨by kernel_rfl, ?_, ?_⟩); (focus (repeat (first | exact trivial | refine ⟨.inl rfl, ?_⟩ | refine ⟨.inr (by (repeat (refine ⟨(by first | exact rd_idxN (F.un _ rfl) (F.sz _ rfl) rfl rfl rfl (by omega) (by omega) (by omega) | exact rd_arith rfl rfl (.inl ⟨rfl, (Go.IntWalk.i64_in _ ⟨by omega, by omega⟩).symm⟩) | exact rd_arith rfl rfl (.inr (.inl ⟨rfl, (Go.IntWalk.i64_in _ ⟨by omega, by omega⟩).symm⟩)) | exact rd_fieldAddr (F.fo _ _ rfl rfl) rfl | exact rd_move rfl | exact rd_assign rfl | exact rd_load1 (F.ag _ rfl) rfl rfl (cell_box rfl) | exact rd_loadN (F.ag _ rfl) rfl rfl (cellsFrom_box _ 0 rfl rfl) | exact rd_extract rfl rfl | exact rd_lenSl (F.un _ rfl) rfl | exact rd_lenStr (F.un _ rfl) rfl | exact rd_nilCheck rfl | exact rd_pickT rfl rfl | exact rd_pickF rfl rfl), ?_⟩)); exact trivial), ?_⟩ | refine ⟨.inl (by kernel_rfl), ?_⟩)))
  all_goals (repeat (first | refine y_seq ?_ | refine w_region ?_ | refine y_regEnd ?_ | refine y_block ?_ | refine y_skip ?_ | refine y_condF rfl ?_ | refine w_assign rfl rfl rfl ?_))
  all_goals
    refine y_loopC 2 (fun i : Nat => [(1, .slu 0 0 l.length), (9, .slu 1 0 l.length), (14, .sc (.int .i64 (i : Int)))]) (fun _ => [some (plR ro l), some (plR false l)]) (fun i => i ≤ l.length) (fun i => l.length - i) 0 [3]
      (fun _ => rfl) (Nat.zero_le _) ?_ (fun _ => rfl) (fun _ => rfl) ?_
  all_goals first
    | ((refine ⟨(ExtOk.of rfl), rfl, (by repeat (first | exact trivial | refine ⟨rfl, ?_⟩)), (by repeat (first | exact trivial | refine ⟨at_dat rfl, ?_⟩))⟩); done)
    | (intro i hi ih
       (repeat (first | refine y_seq ?_ | refine w_region ?_ | refine w_move rfl rfl rfl ?_ | refine w_lenSl rfl rfl rfl (F.un _ rfl) ?_))
       refine w_lssS rfl rfl rfl rfl ?_ ?_
       all_goals intro h2
       · obtain ⟨c, hc⟩ : ∃ c, l[i]? = some c := ⟨_, List.getElem?_eq_getElem (by omega)⟩
         (repeat (first | refine y_seq ?_ | refine y_regEnd ?_ | refine y_block ?_ | refine y_skip ?_ | refine y_condT rfl ?_))
         refine w_draw (by kernel_rfl) (by kernel_rfl) ?_
         (repeat (first | refine dw_move rfl rfl rfl ?_ | refine dw_index rfl rfl rfl rfl (F.un _ rfl) (F.sz _ rfl) rfl (by omega) (by omega) (by omega) ?_ | (refine dw_loadDN rfl rfl rfl (F.ag _ rfl) rfl (show _ = plV c by simpa using flat_one plV_len hc) rfl (by simp; omega) ?_)))
         refine dw_neqPl (a := c) (b := c) rfl rfl rfl rfl ?_
         rw [sameSelf]
         (refine dk_nil ?_); (refine ⟨by kernel_rfl, ?_, ?_⟩); (focus (repeat (first | exact trivial | refine ⟨.inl rfl, ?_⟩)))
         (repeat (first | refine w_region ?_ | refine y_regEnd ?_ | refine y_inBlock ?_ | refine y_skip ?_ | refine y_condF rfl ?_ | refine w_move rfl rfl rfl ?_ | refine w_assign rfl rfl rfl ?_ | refine w_add rfl rfl rfl rfl (by omega) (by omega) ?_))
         refine ih _ _ _ (i + 1) [1] (by omega) (by omega) ?_
         (refine ⟨(ExtOk.of rfl), rfl, (by repeat (first | exact trivial | refine ⟨rfl, ?_⟩)), (by repeat (first | exact trivial | refine ⟨at_dat rfl, ?_⟩))⟩)
       · (repeat (first | (first | refine y_seq ?_ | refine w_region ?_ | refine y_regEnd ?_ | refine y_exit rfl ?_ | refine y_condF rfl ?_ | refine w_assign rfl rfl rfl ?_) | (refine w_sure known_sure rfl rfl (by kernel_rfl) ?_)))
         (apply w_ret Try.func3 (congrArg Array.toList Try.results3)); (focus (repeat (first | exact ResIs.nil | apply ResIs.tmp rfl))); refine ⟨_, rfl, Ends.mk [] (ExtOk.of rfl) rfl rfl ?_⟩
         exact (by repeat (first | exact trivial | refine ⟨at_dat rfl, ?_⟩)))
    | fail
end Go.Proofs.Ytfkfiafohcoomaa
end
section
namespace Go.Sl
open Go Go.RowKit Go.WideShapes Go.ChangeShapes
theorem post_new {H : Type} {enc : TypeId × Value → H} {P : Program} {f : Func} {s : ChangeSpec} {apart fresh handsOn again : Bool} {W W' : World} {args : Array Value} {v : Value} {ds gs : List (DataW H)} {before pa pv : List MemPlace}
    (hW : DataW.Whole enc P f.params.toList s.vars apart W args.toList ds gs before) (hb : Below W.heap.size W W') (hps : before = pa ++ pv)
    (hres : ∀ (b : Nat) (sp : Nat → Bool) (hd : Bool), DataW.TrodAll enc P W' b sp hd f.resultTypes.toList (v.resultList f.resultTypes.size) (s.fn H (ds ++ gs)).results [])
    (hargs : ∀ sp : Nat → Bool, (∀ p ∈ before, sp p.block = true) → DataW.TrodAll enc P W' 0 sp true f.params.toList args.toList (s.fn H (ds ++ gs)).args pa)
    (hvars : ∀ sp : Nat → Bool, (∀ p ∈ before, sp p.block = true) → DataW.TrodVars enc P W' sp s.vars (s.fn H (ds ++ gs)).vars pv)
    (hok : ∀ (j : Nat) (t : TypeId) (r : Value), f.resultTypes[j]? = some t → (v.resultList f.resultTypes.size)[j]? = some r → Value.okWide P W' .any 0 t r) :
    s.post enc P f apart fresh handsOn again W args v W' := by
  have hsp : ∀ p ∈ before, (fun b => decide (b < W.heap.size)) p.block = true := fun p hp => by simpa using hW.lt p hp
  have hmem : ∀ p, p ∈ pa ++ pv ↔ p ∈ before := fun p => by rw [hps]
  refine ⟨ds, gs, before, [], pa, pv, hW, hres _ _ _, hargs _ hsp, hvars _ hsp, World.keptBut_mono (fun p hp => ⟨hp, ?_⟩) (hb.frame (· ∈ before)), fun _ => ?_⟩
  · have := (hmem p).2 hp
    rw [List.mem_append] at this
    exact .inr this
  obtain ⟨_, _, _, _, _, hz, hn⟩ := id hW
  refine ⟨hok, _, _, ([] ++ pa) ++ pv, ⟨[] ++ pa, pv, trodAll_append (hargs _ (fun _ _ => rfl)) (hres _ _ _), hvars _ (fun _ _ => rfl), rfl, fun b off hp => ?_, fun ha => ?_⟩, fun p hp _ => ?_⟩
  · have hin : MemPlace.cell b off ∈ before := (hmem _).1 (by simpa using hp)
    rw [hb.frozen (hW.lt _ hin)]
    exact hz b off hin
  · have := hn ha
    rw [hps] at this
    simpa using this
  · exact (hmem p).1 (by simpa using hp)
end Go.Sl
end
section
namespace Go.Sy
open Go Go.Sl Go.RowKit Go.WideShapes
theorem rowAt_off (p : Program) (fits : TypeId → Bool) (d : Nat) (e : TypeId) (count off n : Nat) (h : rowAt p fits d e count off n = true) : off ≤ count * p.cellsOf e := by
  cases d with
  | zero => simp [rowAt] at h
  | succ d =>
    unfold rowAt at h
    simp only at h
    split at h
    · cases h
    · rename_i hs
      have hdiv := Nat.div_add_mod off (p.cellsOf e)
      rw [Bool.or_eq_true] at h
      rcases h with h | h
      · simp only [Bool.and_eq_true, beq_iff_eq, decide_eq_true_eq] at h
        obtain ⟨⟨h1, h2⟩, _⟩ := h
        have : p.cellsOf e * (off / p.cellsOf e) ≤ p.cellsOf e * count := Nat.mul_le_mul_left _ (by omega)
        rw [Nat.mul_comm count]
        omega
      · rw [Bool.and_eq_true, decide_eq_true_eq] at h
        have hm := Nat.mod_lt off (Nat.pos_of_ne_zero hs)
        have : p.cellsOf e * (off / p.cellsOf e + 1) ≤ p.cellsOf e * count := Nat.mul_le_mul_left _ (by omega)
        rw [Nat.mul_add, Nat.mul_one] at this
        rw [Nat.mul_comm count]
        omega
theorem liesAt_off (p : Program) : ∀ (d : Nat) (e : TypeId) (count off : Nat) (u : TypeId) (n : Nat), liesAt p d e count off u n = true → off ≤ count * p.cellsOf e
  | 0, _, _, _, _, _, h => by simp [liesAt] at h
  | d + 1, e, count, off, u, n, h => by
    unfold liesAt at h
    rw [Bool.or_eq_true] at h
    rcases h with h | h
    · exact rowAt_off p _ _ e count off n h
    · split at h
      · exact liesAt_off p d e count off _ _ h
      · cases h
theorem mapM_range {A : Type} {f : Nat → Option A} : ∀ {n : Nat} {l : List A}, (List.range n).mapM f = some l → l.length = n ∧ ∀ i, i < n → f i = l[i]? := by
  intro n
  induction n with
  | zero => intro l h; simp at h; subst h; exact ⟨rfl, fun i hi => by omega⟩
  | succ n ih =>
    intro l h
    rw [List.range_succ, List.mapM_append] at h
    simp only [Option.bind_eq_bind, Option.bind_eq_some_iff] at h
    obtain ⟨a, ha, b, hb, hl⟩ := h
    obtain ⟨h1, h2⟩ := ih ha
    cases hf : f n with
    | none => simp [hf] at hb
    | some x =>
      simp [hf] at hb
      subst hb
      simp at hl
      subst hl
      refine ⟨by simp [h1], fun i hi => ?_⟩
      rcases Nat.lt_or_ge i n with h | h
      · rw [List.getElem?_append_left (by omega)]; exact h2 i h
      · obtain rfl : i = n := by omega
        rw [hf, List.getElem?_append_right (by omega), h1]
        simp
theorem slice_arg {b0 : Nat} {H : Type} {enc : TypeId × Value → H} {P : Program} {w : World} {t e : TypeId} {sz : Nat} {v : Value} {dd : DataW H} {p : List MemPlace} (ht : P.underlying t = some (.slice e)) (hc : P.cellsOf e = sz) (h0 : 0 < sz)
    (hT : DataW.Trod enc P w 0 (fun _ => true) true t v dd p) (hok : Value.okWide P w .any b0 t v) :
    (v = .slice none 0 0) ∨ ∃ (b o len cap : Nat) (cs : Array Value) (tt : TypeId) (fz : Nat × Nat), v = .slice (some ⟨b, o, none⟩) len cap ∧ w.heap[b]? = some (.cells cs tt fz) ∧ len ≤ cap ∧ cap ≤ maxLen ∧ o + cap * sz ≤ cs.size ∧
      ∀ i, i < len → ∃ us : List Value, us.length = sz ∧ (∀ j, j < sz → cs[o + i * sz + j]? = us[j]?) ∧ ∃ n y, DataW.trod enc P w 0 (fun _ => true) true n e us = some y := by
  obtain ⟨fuel, hT⟩ := hT
  obtain ⟨a0, len0, cap0, rfl⟩ := okWide_slice ht hok
  have hcells : (Value.slice a0 len0 cap0).cells.toList = [.slice a0 len0 cap0] := rfl
  rw [hcells] at hT
  rcases DataW.trod_slice ht hT with ⟨h1, _⟩ | ⟨a, len, cap, elems, rest, n, _, h1, _, _, h3, h4, h5, h6, h7, _⟩
  · left
    simpa using h1
  · right
    simp only [List.cons.injEq, and_true, Value.slice.injEq] at h1
    obtain ⟨rfl, rfl, rfl⟩ := h1
    unfold Value.okWide at hok
    rw [ht] at hok
    simp only at hok
    unfold Cell.okWide at hok
    rw [ht] at hok
    simp only at hok
    unfold Cell.ok at hok
    rw [ht] at hok
    simp only at hok
    obtain ⟨_, _, _, hsp, row, cells, hsh, hli⟩ := hok
    obtain ⟨b, o, sp⟩ := a
    simp only at hsp hsh hli h6 h7
    subst hsp
    unfold World.shape? at hsh
    cases hob : w.heap[b]? with
    | none => rw [hob] at hsh; cases hsh
    | some ob =>
      rw [hob] at hsh
      cases ob with
      | cells cs tt fz =>
        simp only [Option.some.injEq, Prod.mk.injEq] at hsh
        obtain ⟨rfl, rfl⟩ := hsh
        have hoff := liesAt_off P _ _ _ _ _ _ hli
        have hoff2 : o ≤ cs.size := Nat.le_trans hoff (Nat.div_mul_le_self _ _)
        have hcell : ∀ q : Nat, w.cell? ⟨b, q, none⟩ = cs[q]? := fun q => by simp [World.cell?, hob]
        have hget : ∀ (q : Nat) (us : List Value), w.cells? 0 ((⟨b, o, none⟩ : Addr).add (q * P.cellsOf e)) (P.cellsOf e) = some us → us.length = sz ∧ ∀ j, j < sz → cs[o + q * sz + j]? = us[j]? := by
          intro q us hus
          rw [add_plain] at hus
          unfold World.cells? at hus
          rw [if_pos (Nat.zero_le _)] at hus
          obtain ⟨g1, g2⟩ := mapM_range hus
          rw [hc] at g1 g2 hus
          refine ⟨g1, fun j hj => ?_⟩
          have := g2 j hj
          rw [add_plain, hcell] at this
          exact this
        refine ⟨b, o, len0, cap0, cs, tt, fz, rfl, hob, h3, h4, ?_, fun i hi => ?_⟩
        · rcases Nat.eq_zero_or_pos cap0 with hz | hz
          · subst hz; simpa using hoff2
          · have hlast : ∃ us, w.cells? 0 ((⟨b, o, none⟩ : Addr).add ((cap0 - 1) * P.cellsOf e)) (P.cellsOf e) = some us := by
              rcases Nat.lt_or_ge (cap0 - 1) len0 with hl | hl
              · have h8 := h6 (cap0 - 1) hl
                rw [List.getElem?_eq_getElem (by omega)] at h8
                cases hcs : w.cells? 0 ((⟨b, o, none⟩ : Addr).add ((cap0 - 1) * P.cellsOf e)) (P.cellsOf e) with
                | none => rw [hcs] at h8; cases h8
                | some us => exact ⟨us, rfl⟩
              · obtain ⟨h9, h10⟩ := h7 trivial
                have h8 := h10 (cap0 - 1 - len0) (by omega)
                rw [List.getElem?_eq_getElem (by omega), show len0 + (cap0 - 1 - len0) = cap0 - 1 by omega] at h8
                cases hcs : w.cells? 0 ((⟨b, o, none⟩ : Addr).add ((cap0 - 1) * P.cellsOf e)) (P.cellsOf e) with
                | none => rw [hcs] at h8; cases h8
                | some us => exact ⟨us, rfl⟩
            obtain ⟨us, hus⟩ := hlast
            obtain ⟨g1, g2⟩ := hget _ _ hus
            have g3 := g2 (sz - 1) (by omega)
            rw [List.getElem?_eq_getElem (show sz - 1 < us.length by omega)] at g3
            have g4 := (Array.getElem?_eq_some_iff.1 g3).1
            have : cap0 * sz = (cap0 - 1) * sz + sz := by
              conv => lhs; rw [show cap0 = cap0 - 1 + 1 by omega, Nat.add_mul, Nat.one_mul]
            omega
        · have h8 := h6 i hi
          rw [List.getElem?_eq_getElem (by omega)] at h8
          cases hcs : w.cells? 0 ((⟨b, o, none⟩ : Addr).add (i * P.cellsOf e)) (P.cellsOf e) with
          | none => rw [hcs] at h8; cases h8
          | some us =>
            rw [hcs] at h8
            simp only [Option.bind_some] at h8
            obtain ⟨g1, g2⟩ := hget _ _ hcs
            exact ⟨us, g1, g2, n, _, h8⟩
      | _ => cases hsh
def oldZone (w : World) : Zone := ⟨fun j => j < w.heap.size, fun j => j < w.heap.size, fun _ h => h⟩
theorem kept_refl (w : World) : Kept (oldZone w) w w := ⟨rfl, rfl, rfl, Nat.le_refl _, fun _ h => h, fun _ _ => rfl⟩
theorem below_of {w0 w : World} (h : Kept (oldZone w0) w0 w) : Below w0.heap.size w0 w := ⟨h.os, h.tape, h.output, h.size, fun j hj => h.block j hj⟩
def argEnt (sz : Nat) : Value → Ent
  | .slice (some a) _ cap => ⟨a.block, a.off, cap, sz, false⟩
  | _ => ⟨0, 0, 0, sz, true⟩
def ArgRow {A : Type} (w : World) (sz : Nat) (f : A → List Value) (v : Value) (l : List A) : Prop :=
  (v = .slice none 0 0 ∧ l = []) ∨ ∃ (b o len cap : Nat) (cs : Array Value) (tt : TypeId) (fz : Nat × Nat), v = .slice (some ⟨b, o, none⟩) len cap ∧ w.heap[b]? = some (.cells cs tt fz) ∧ len = l.length ∧ len ≤ cap ∧ cap ≤ maxLen ∧ o + cap * sz ≤ cs.size ∧
    ∀ i c, l[i]? = some c → ∀ j, j < sz → cs[o + i * sz + j]? = (f c)[j]?
theorem argRow_of {b0 : Nat} {A : Type} {H : Type} {enc : TypeId × Value → H} {P : Program} {w : World} {t e : TypeId} {sz : Nat} {v : Value} {dd : DataW H} {p : List MemPlace} {f : A → List Value} (ht : P.underlying t = some (.slice e)) (hc : P.cellsOf e = sz) (h0 : 0 < sz)
    (hT : DataW.Trod enc P w 0 (fun _ => true) true t v dd p) (hok : Value.okWide P w .any b0 t v) (hf : ∀ n us y, DataW.trod enc P w 0 (fun _ => true) true n e us = some y → ∃ a, us = f a) : ∃ l : List A, ArgRow w sz f v l := by
  rcases slice_arg ht hc h0 hT hok with h | ⟨b, o, len, cap, cs, tt, fz, h1, h2, h3, h4, h5, h6⟩
  · exact ⟨[], .inl ⟨h, rfl⟩⟩
  · have hex : ∀ i, i < len → ∃ a : A, ∀ j, j < sz → cs[o + i * sz + j]? = (f a)[j]? := by
      intro i hi
      obtain ⟨us, g1, g2, n, y, g3⟩ := h6 i hi
      obtain ⟨a, rfl⟩ := hf n us y g3
      exact ⟨a, g2⟩
    refine ⟨(List.range len).attach.map (fun i => Classical.choose (hex i.1 (List.mem_range.1 i.2))), .inr ⟨b, o, len, cap, cs, tt, fz, h1, h2, by simp, h3, h4, h5, ?_⟩⟩
    intro i c hi j hj
    rw [List.getElem?_map] at hi
    obtain ⟨q, hq, rfl⟩ := Option.map_eq_some_iff.1 hi
    have hq1 : q.1 = i := by
      obtain ⟨hlt, hh⟩ := List.getElem?_eq_some_iff.1 hq
      rw [← hh]
      simp
    have := Classical.choose_spec (hex q.1 (List.mem_range.1 q.2)) j hj
    rw [← hq1]
    exact this
theorem ArgRow.conc {A : Type} {w : World} {sz : Nat} {f : A → List Value} {v : Value} {l : List A} (h : ArgRow w sz f v l) {e : Env} {b : Nat} (he : e b = some (argEnt sz v)) : (SV.slu b 0 l.length).conc e = some v := by
  rcases h with ⟨rfl, rfl⟩ | ⟨b', o, len, cap, cs, tt, fz, rfl, h2, rfl, h3, h4, h5, h6⟩
  · simp [SV.conc, he, argEnt, Ent.at]
  · simp [SV.conc, he, argEnt, Ent.at]
theorem flat_get {A : Type} {f : A → List Value} {sz : Nat} (hf : ∀ a, (f a).length = sz) : ∀ (l : List A) (i j : Nat), j < sz → (l.flatMap f)[i * sz + j]? = (l[i]?).bind (fun c => (f c)[j]?)
  | [], i, j, _ => by simp
  | a :: l, 0, j, hj => by
    rw [List.flatMap_cons, List.getElem?_append_left (by rw [hf]; omega)]
    simp
  | a :: l, i + 1, j, hj => by
    rw [List.flatMap_cons, List.getElem?_append_right (by rw [hf, Nat.add_mul]; omega), hf, show (i + 1) * sz + j - sz = i * sz + j by rw [Nat.add_mul]; omega, flat_get hf l i j hj]
    simp
theorem ArgRow.lies {A : Type} {w : World} {sz : Nat} {f : A → List Value} {v : Value} {l : List A} (h : ArgRow w sz f v l) (hf : ∀ a, (f a).length = sz) (h0 : 0 < sz) (rt : TypeId) (e : Env) : Lies (oldZone w) w e (dat true l.length sz rt (l.flatMap f)) (argEnt sz v) := by
  rcases h with ⟨rfl, rfl⟩ | ⟨b, o, len, cap, cs, tt, fz, rfl, h2, rfl, h3, h4, h5, h6⟩
  · exact .inr ⟨rfl, rfl, true, rt, _, rfl, h0⟩
  · refine .inl ⟨rfl, .cells cs tt fz, ⟨fun _ => lt_of_heap h2, fun h => by cases h⟩, h2, rfl, cs, fz, tt, rfl, h3, h5, h4, (fun h => by cases h), h0, fun i hi s hs => ?_⟩
    have hs' : ((l.flatMap f)[i]?).map SV.sc = some s := hs
    obtain ⟨u, hu, rfl⟩ := Option.map_eq_some_iff.1 hs'
    refine ⟨u, rfl, ?_⟩
    have hdm := Nat.div_add_mod i sz
    have hm := Nat.mod_lt i h0
    have e1 : i = i / sz * sz + i % sz := by rw [Nat.mul_comm]; omega
    rw [e1, flat_get hf l _ _ hm] at hu
    obtain ⟨c, hc, hcu⟩ := Option.bind_eq_some_iff.1 hu
    have := h6 (i / sz) c hc (i % sz) hm
    show cs[o + i]? = some u
    rw [e1, ← Nat.add_assoc, this]
    exact hcu
theorem St.init {w : World} {e : Env} {H : Heap} {nx : Nat} (h1 : ∀ id vo, H.at' id = some vo → vo.ro = true ∧ ∃ x, e id = some x ∧ Lies (oldZone w) w e vo x) (h2 : ∀ i, nx ≤ i → e i = none) : St (oldZone w) w e H nx w :=
  ⟨kept_refl w, fun id vo h => (h1 id vo h).2, fun id id' vo vo' x x' h _ _ _ _ _ _ hr _ => by (rw [(h1 id vo h).1] at hr; cases hr), h2⟩
end Go.Sy
end
section
namespace Go.Proofs.Ytfkfiafohcoomaa
open Go Go.Sy Go.ChangeShapes Go.WideShapes Go.ChangeAt Go.RowKit
theorem trod_int_is {H : Type} {enc : TypeId × Value → H} {P : Program} {w : World} {base : Nat} {sp : Nat → Bool} {held : Bool} {n : Nat} {t : TypeId} {k : IntKind} {cs : List Value} {y : DataW H × List MemPlace} (hu : P.underlying t = some (.int k)) (h : DataW.trod enc P w base sp held n t cs = some y) : ∃ x, cs = [.int k x] := by
  cases n with
  | zero => simp [DataW.trod] at h
  | succ n =>
    unfold DataW.trod at h
    rw [hu] at h
    split at h <;> simp_all
theorem trod_pl {H : Type} {enc : TypeId × Value → H} {w : World} {base : Nat} {sp : Nat → Bool} {held : Bool} {n : Nat} {us : List Value} {y : DataW H × List MemPlace} (h : DataW.trod enc Try.prog w base sp held n 25 us = some y) : ∃ a : Int × Int, us = plV a := by
  obtain ⟨f, g, hl, _, f2, f3, _, g2, g3⟩ := fPl2
  have ht : Try.prog.underlying 25 = some (.struct #[f, g]) := by
    rw [uPl, show Try.prog.fieldsOf 25 = #[f, g] from Array.ext' hl]
  have hu : Try.prog.underlying 23 = some (.int .u64) := by kernel_rfl
  have h1 : Try.prog.cellsOf 23 = 1 := by kernel_rfl
  have h2 : Try.prog.cellsOf 25 = 2 := by kernel_rfl
  obtain ⟨y0, y1, m, _, hlen, g4, g5⟩ := trod_struct2 ht h
  rw [f2, f3, h1] at g4
  rw [g2, g3, h1] at g5
  rw [h2] at hlen
  obtain ⟨a, ha⟩ := trod_int_is hu g4
  obtain ⟨b, hb⟩ := trod_int_is hu g5
  rcases us with _ | ⟨x, _ | ⟨z, _ | ⟨_, _⟩⟩⟩
  · simp at hlen
  · simp at hlen
  · simp at ha hb
    exact ⟨(a, b), by rw [ha, hb]; rfl⟩
  · simp at hlen
set_option maxRecDepth 100000 in
theorem arg_pl {b0 : Nat} {H : Type} {enc : TypeId × Value → H} {w : World} {sp : Nat → Bool} {held : Bool} {v : Value} {d : DataW H} {p : List MemPlace} (h : DataW.Trod enc Try.prog w 0 sp held 25 v d p) (hok : Value.okWide Try.prog w .any b0 25 v) : ∃ a : Int × Int, v = .agg #[.int .u64 a.1, .int .u64 a.2] := by
  obtain ⟨cs, rfl, _⟩ := okWide_struct uPl hok
  obtain ⟨n, h⟩ := h
  obtain ⟨a, ha⟩ := trod_pl h
  exact ⟨a, congrArg Value.agg (Array.ext' ha)⟩
theorem own : ownKnob Try.prog.godebug = none := by kernel_rfl
theorem laid : laidOutB Try.prog = true := by kernel_rfl
end Go.Proofs.Ytfkfiafohcoomaa
end
