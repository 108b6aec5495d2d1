/-
  Texts of the proof, merged: ExS SyEx Qk Q19 SyMp Q21 Q22 Q23 Q24 Q25 Q26 Post SyBr Qa Qb SyCl Q27 Q28 Q29 Q30.
-/
import Derived.WalkKit
import Derived.ProofKit
import Derived.OpenShut
import Derived.Below
import Derived.ChangeSame
import Derived.Carry
import Derived.ChangeArms
import Derived.Test.YtfkfiafohcoomaaChecked
import Derived.Test.YtfkfiafohcoomaaK5
set_option linter.unusedVariables false
set_option linter.unusedSimpArgs false
section
namespace Go.Ex
open Go Go.Sl Go.RowKit
noncomputable section
def limK (k : IntKind) : Nat := IntKind.rec 128 32768 2147483648 9223372036854775808 128 32768 2147483648 9223372036854775808 k
def nrK (k : IntKind) : Nat := IntKind.rec 0 1 2 3 4 5 6 7 k
theorem nrK_inj {a b : IntKind} (h : Nat.beq (nrK a) (nrK b) = true) : a = b := by cases a <;> cases b <;> first | rfl | exact absurd h (by decide)
theorem wrap_small {k : IntKind} {n : Nat} (h : Nat.blt n (limK k) = true) : k.wrap (n : Int) = (n : Int) := by
  have h : n < limK k := Nat.le_of_ble_eq_true h
  cases k <;> simp only [limK] at h <;> simp [IntKind.wrap, IntKind.bits, IntKind.signed] <;> omega
def yesN (b : Bool) (v : Value) : Option Value := Bool.rec none (some v) b
theorem yesN_some {b : Bool} {v r : Value} (h : yesN b v = some r) : b = true ∧ r = v := by
  cases b
  · cases h
  · exact ⟨rfl, (Option.some.inj h).symm⟩
def binN (op : BinOp) : IntKind → Nat → Nat → Option Value :=
  BinOp.rec (motive := fun _ => IntKind → Nat → Nat → Option Value)
    (fun k m n => yesN (Nat.blt (Nat.add m n) (limK k)) (.int k (.ofNat (Nat.add m n))))
    (fun k m n => yesN (and (Nat.ble n m) (Nat.blt m (limK k))) (.int k (.ofNat (Nat.sub m n))))
    (fun k m n => yesN (Nat.blt (Nat.mul m n) (limK k)) (.int k (.ofNat (Nat.mul m n))))
    (fun _ _ _ => none) (fun _ _ _ => none) (fun _ _ _ => none) (fun _ _ _ => none) (fun _ _ _ => none) (fun _ _ _ => none) (fun _ _ _ => none) (fun _ _ _ => none)
    (fun _ m n => some (.bool (Nat.beq m n))) (fun _ m n => some (.bool (not (Nat.beq m n))))
    (fun _ m n => some (.bool (Nat.blt m n))) (fun _ m n => some (.bool (Nat.ble m n))) (fun _ m n => some (.bool (Nat.blt n m))) (fun _ m n => some (.bool (Nat.ble n m))) op
theorem beq_dec (m n : Nat) : Nat.beq m n = ((m : Int) == (n : Int)) := by
  cases h : Nat.beq m n with
  | true => have := Nat.eq_of_beq_eq_true h; subst this; simp
  | false => have := Nat.ne_of_beq_eq_false h; symm; simp; omega
theorem blt_dec (m n : Nat) : Nat.blt m n = decide ((m : Int) < (n : Int)) := by
  cases h : Nat.blt m n with
  | true => have : m < n := Nat.le_of_ble_eq_true h; symm; simp; omega
  | false =>
    symm; simp only [decide_eq_false_iff_not]; intro h2
    have : Nat.blt m n = true := Nat.ble_eq_true_of_le (by omega)
    rw [h] at this; cases this
theorem ble_dec (m n : Nat) : Nat.ble m n = decide ((m : Int) ≤ (n : Int)) := by
  cases h : Nat.ble m n with
  | true => have : m ≤ n := Nat.le_of_ble_eq_true h; symm; simp; omega
  | false =>
    symm; simp only [decide_eq_false_iff_not]; intro h2
    have : Nat.ble m n = true := Nat.ble_eq_true_of_le (by omega)
    rw [h] at this; cases this
theorem binN_ok {P : Program} {op : BinOp} {k : IntKind} {m n : Nat} {v : Value} (h : binN op k m n = some v) (t : TypeId) (xo yo : Operand) (dst ty pos after guard) (yt : TypeId) (ev : Operand → Value) (hx : ev xo = .int k (m : Int)) (hy : ev yo = .int k (n : Int)) :
    pureRun P (execOp ev ⟨dst, .binOp op t xo yo yt, ty, pos, after, guard⟩) = some (.value v) := by
  have key : eqGuard op t xo yo (.int k (m : Int)) (.int k (n : Int)) = pure () ∧ Go.binOp op t (.int k (m : Int)) (.int k (n : Int)) = pure v := by
    cases op
    case add =>
      obtain ⟨h1, rfl⟩ := yesN_some h
      refine ⟨rfl, ?_⟩
      simp only [Go.binOp, Op.intArith]
      rw [show ((m : Int) + (n : Int)) = ((Nat.add m n : Nat) : Int) from rfl, wrap_small h1]
      simp
    case sub =>
      obtain ⟨h1, rfl⟩ := yesN_some h
      refine ⟨rfl, ?_⟩
      simp only [Go.binOp, Op.intArith]
      have h1' := (Bool.and_eq_true _ _).mp h1
      have hle : n ≤ m := Nat.le_of_ble_eq_true h1'.1
      have hlt : m < limK k := Nat.le_of_ble_eq_true h1'.2
      rw [show ((m : Int) - (n : Int)) = ((Nat.sub m n : Nat) : Int) from (Int.ofNat_sub hle).symm, wrap_small (Nat.ble_eq_true_of_le (by have : Nat.sub m n ≤ m := Nat.sub_le m n; omega))]
      simp
    case mul =>
      obtain ⟨h1, rfl⟩ := yesN_some h
      refine ⟨rfl, ?_⟩
      simp only [Go.binOp, Op.intArith]
      rw [show ((m : Int) * (n : Int)) = ((Nat.mul m n : Nat) : Int) from rfl, wrap_small h1]
      simp
    case eql => cases h; refine ⟨rfl, ?_⟩; simp only [Go.binOp, Op.intCmp, beq_dec]; simp
    case neq => cases h; refine ⟨rfl, ?_⟩; simp only [Go.binOp, Op.intCmp, beq_dec]; simp [bne]
    case lss => cases h; refine ⟨rfl, ?_⟩; simp only [Go.binOp, Op.intCmp, blt_dec]; simp
    case leq => cases h; refine ⟨rfl, ?_⟩; simp only [Go.binOp, Op.intCmp, ble_dec]; simp
    case gtr => cases h; refine ⟨rfl, ?_⟩; simp only [Go.binOp, Op.intCmp, blt_dec]; simp
    case geq => cases h; refine ⟨rfl, ?_⟩; simp only [Go.binOp, Op.intCmp, ble_dec]; simp
    all_goals (have h : (none : Option Value) = some _ := h; cases h)
  simp only [execOp, hx, hy, key.1, key.2]
  rfl
abbrev FRes := Option (SV × Heap × Nat)
abbrev FR := Tr SV → Heap → Nat → Program → FRes
def evalF (x : Operand) : Tr SV → Option SV :=
  Operand.rec (motive := fun _ => Tr SV → Option SV) (fun t T => T.get t 0) (fun v _ => some (.sc v)) (fun g _ => some (.sc (.pointer (some ⟨g, 0, none⟩)))) (fun f _ => some (.sc (.func (.func f) #[] #[]))) x
theorem evalF_eq (x : Operand) (T : Tr SV) : evalF x T = evalS T x := by cases x <;> rfl
def fin1 (o : Option SV) : Heap → Nat → FRes :=
  Option.rec (motive := fun _ => Heap → Nat → FRes) (fun _ _ => none) (fun v H nx => some (v, H, nx)) o
theorem fin1_some {o : Option SV} {H : Heap} {nx : Nat} {r : SV × Heap × Nat} (h : fin1 o H nx = some r) : ∃ v, o = some v ∧ r = (v, H, nx) := by
  cases o with
  | none => cases h
  | some v => exact ⟨v, rfl, (Option.some.inj h).symm⟩
def bindF (o : Option SV) : (SV → Option SV) → Option SV :=
  Option.rec (motive := fun _ => (SV → Option SV) → Option SV) (fun _ => none) (fun v f => f v) o
theorem bindF_eq (o : Option SV) (f : SV → Option SV) : bindF o f = o.bind f := by cases o <;> rfl
def sMove (x : Operand) : FR := fun T H nx _ => fin1 (evalF x T) H nx
def ptrF (o : Option SV) : (Nat → Nat → FR) → (Tr SV → Heap → Nat → Program → FRes) :=
  Option.rec (motive := fun _ => (Nat → Nat → FR) → FR) (fun _ _ _ _ _ => none)
    (fun v => SV.casesOn (motive_1 := fun _ => (Nat → Nat → FR) → FR) v (fun _ _ _ _ _ _ => none) (fun b o f => f b o) (fun _ _ _ _ _ _ _ _ _ => none) (fun _ _ _ _ _ _ _ _ _ => none)
      (fun _ _ _ _ _ _ => none) (fun _ _ _ _ _ _ => none) (fun _ _ _ _ _ _ => none) (fun _ _ _ _ _ _ => none) (fun _ _ _ _ _ _ _ => none) (fun _ _ _ _ _ _ _ _ => none)) o
def sLoad (t : TypeId) (x : Operand) : FR := fun T H nx P => ptrF (evalF x T) (fun b o _ H nx P => fin1 (loadS P H t b o) H nx) T H nx P
def stF (o : Option Heap) : Nat → FRes := Option.rec (motive := fun _ => Nat → FRes) (fun _ => none) (fun H nx => some (undefS, H, nx)) o
def sStore (t : TypeId) (a x : Operand) : FR := fun T H nx P => ptrF (evalF a T) (fun b o T H nx P =>
  Option.rec (motive := fun _ => Heap → Nat → Program → FRes) (fun _ _ _ => none) (fun v H nx P => Bool.rec none (stF (storeS H b o v.cells) nx) (sizeIs P t v.cells.length)) (evalF x T) H nx P) T H nx P
def sNil (x : Operand) : FR := fun T H nx _ => fin1 (bindF (evalF x T) checkedS) H nx
def sFieldAddr (t : TypeId) (x : Operand) (f : Nat) : FR := fun T H nx P => fin1 (bindF (evalF x T) (fieldAddrS P t f)) H nx
def natF (o : Option SV) : Option Nat := match o with
  | some (.sc (.int _ (.ofNat n))) => some n
  | _ => none
def sIndexAddr (t : TypeId) (x i : Operand) : FR := fun T H nx P =>
  Option.rec (motive := fun _ => FR) (fun _ _ _ _ => none) (fun n T H nx P => fin1 (bindF (evalF x T) (indexAddrS P t n)) H nx) (natF (evalF i T)) T H nx P
def sField (t : TypeId) (x : Operand) (f : Nat) : FR := fun T H nx P => fin1 (bindF (evalF x T) (fun v => match v with
  | .agg l => fieldS P t f l
  | _ => none)) H nx
def sExtract (x : Operand) (i : Nat) : FR := fun T H nx _ => fin1 (bindF (evalF x T) (nthS i)) H nx
abbrev KN := IntKind × Nat
def asI (o : Option SV) : Option KN :=
  Option.rec (motive := fun _ => Option KN) none (fun v => SV.casesOn (motive_1 := fun _ => Option KN) v
    (fun x => Value.casesOn (motive_1 := fun _ => Option KN) x (fun _ => none) (fun k i => Int.rec (motive := fun _ => IntKind → Option KN) (fun n k => some (k, n)) (fun _ _ => none) i k) (fun _ _ => none) (fun _ _ _ => none) (fun _ => none) (fun _ => none) (fun _ _ _ => none) (fun _ => none) (fun _ => none)
      (fun _ _ _ => none) none (fun _ _ => none) none (fun _ => none) (fun _ => none))
    (fun _ _ => none) (fun _ _ _ _ => none) (fun _ _ _ _ => none) (fun _ => none) (fun _ => none) (fun _ => none) (fun _ => none) (fun _ _ => none) (fun _ _ _ => none)) o
theorem asI_some {o : Option SV} {k : IntKind} {n : Nat} (h : asI o = some (k, n)) : o = some (.sc (.int k (.ofNat n))) := by
  cases o with
  | none => cases h
  | some v =>
    cases v
    case sc x =>
      cases x
      case int k' i =>
        cases i with
        | ofNat m => cases h; rfl
        | negSucc m => cases h
      all_goals cases h
    all_goals cases h
def resV (o : Option Value) : Heap → Nat → FRes :=
  Option.rec (motive := fun _ => Heap → Nat → FRes) (fun _ _ => none) (fun v H nx => some (.sc v, H, nx)) o
def binR (a b : Option KN) : BinOp → Heap → Nat → FRes :=
  Option.rec (motive := fun _ => Option KN → BinOp → Heap → Nat → FRes) (fun _ _ _ _ => none)
    (fun p b => Option.rec (motive := fun _ => KN → BinOp → Heap → Nat → FRes) (fun _ _ _ _ => none)
      (fun q p op H nx => Bool.rec (motive := fun _ => FRes) none (resV (binN op p.1 p.2 q.2) H nx) (Nat.beq (nrK p.1) (nrK q.1))) b p) a b
def sBin (op : BinOp) (_ : TypeId) (x y : Operand) (_ : TypeId) : FR := fun T H nx _ => binR (asI (evalF x T)) (asI (evalF y T)) op H nx
theorem isNilS_int (s : SV) (k : IntKind) (i : Int) (d : TypeDesc) : isNilS s (.int k i) d = false := by
  cases s <;> rfl
theorem nilTest_int (P : Program) (op : BinOp) (t : TypeId) (a : SV) (k : IntKind) (i : Int) : nilTest P op t a (.sc (.int k i)) = none := by
  unfold nilTest
  simp only [isNilS_int, cond_false]
  split <;> rfl
def fastOp (o : Op) : FR :=
  Op.rec (motive := fun _ => FR)
    sMove
    sMove
    (fun _ _ _ _ _ _ _ => none)
    (fun _ _ _ _ _ => none)
    (fun _ _ _ _ _ _ => none)
    (fun _ _ _ _ _ _ => none)
    (fun _ _ _ _ _ _ _ => none)
    (fun _ _ _ _ _ _ _ _ => none)
    sLoad
    sStore
    (fun _ _ _ _ _ => none)
    (fun _ _ _ _ _ => none)
    sNil
    sBin
    (fun _ _ _ _ _ _ _ => none)
    (fun _ _ _ _ _ _ _ => none)
    (fun _ _ _ _ _ _ => none)
    (fun _ _ _ _ _ _ => none)
    (fun _ _ _ _ _ _ _ => none)
    (fun _ _ _ _ _ _ => none)
    (fun _ _ _ _ _ _ => none)
    (fun _ _ _ _ _ _ _ => none)
    (fun _ _ _ _ _ _ _ _ _ => none)
    sFieldAddr
    sField
    sIndexAddr
    (fun _ _ _ _ _ _ _ => none)
    (fun _ _ _ _ _ _ _ _ => none)
    (fun _ _ _ _ _ _ _ _ => none)
    (fun _ _ _ _ _ _ _ => none)
    (fun _ _ _ _ _ _ _ _ => none)
    (fun _ _ _ _ _ _ => none)
    (fun _ _ _ _ _ _ => none)
    (fun _ _ _ _ _ => none)
    (fun _ _ _ _ _ _ _ _ => none)
    sExtract
    (fun _ _ _ _ _ => none)
    (fun _ _ _ _ _ => none)
    (fun _ _ _ _ _ => none)
    (fun _ _ _ _ _ => none)
    (fun _ _ _ _ _ _ => none)
    (fun _ _ _ _ _ _ _ => none)
    (fun _ _ _ _ _ _ => none) o
theorem fastOp_ok {P : Program} {T : Tr SV} {H : Heap} {nx : Nat} {o : Oper} {v : SV} {H' : Heap} {nx' : Nat} (h : fastOp o.op T H nx P = some (v, H', nx')) :
    anyOp P T H nx o = some [(.val v, H', nx')] ∨ (anyOp P T H nx o = some [(.skip, H', nx')] ∧ v = undefS) := by
  have viaRead : ∀ {u : SV}, readOp P T H o = some u → (v, H', nx') = (u, H, nx) → anyOp P T H nx o = some [(.val v, H', nx')] := by
    intro u hu he
    cases he
    unfold anyOp
    rw [hu]
  obtain ⟨dst, op, ty, pos, after, guard⟩ := o
  cases op
  case move x =>
    obtain ⟨u, hu, he⟩ := fin1_some h
    rw [evalF_eq] at hu
    exact .inl (viaRead hu he)
  case assign x =>
    obtain ⟨u, hu, he⟩ := fin1_some h
    rw [evalF_eq] at hu
    exact .inl (viaRead hu he)
  case load t x =>
    have h : ptrF (evalF x T) _ T H nx P = _ := h
    rw [evalF_eq] at h
    cases hx : evalS T x with
    | none => rw [hx] at h; cases h
    | some u =>
      rw [hx] at h
      cases u
      case ptr b o =>
        obtain ⟨w, hw, he⟩ := fin1_some h
        refine .inl (viaRead (u := w) ?_ he)
        show (match evalS T x with
          | some (.ptr b o) => loadS P H t b o
          | _ => none) = _
        rw [hx]
        exact hw
      all_goals cases h
  case store t a x =>
    have h : ptrF (evalF a T) _ T H nx P = _ := h
    rw [evalF_eq] at h
    cases ha : evalS T a with
    | none => rw [ha] at h; cases h
    | some u =>
      rw [ha] at h
      cases u
      case ptr b o =>
        have h : Option.rec (motive := fun _ => Heap → Nat → Program → FRes) _ _ (evalF x T) H nx P = _ := h
        rw [evalF_eq] at h
        cases hx : evalS T x with
        | none => rw [hx] at h; cases h
        | some y =>
          rw [hx] at h
          have h : @Bool.rec (fun _ => FRes) none (stF (storeS H b o y.cells) nx) (sizeIs P t y.cells.length) = _ := h
          cases hs : sizeIs P t y.cells.length with
          | false => rw [hs] at h; cases h
          | true =>
            rw [hs] at h
            cases hst : storeS H b o y.cells with
            | none => rw [hst] at h; cases h
            | some H2 =>
              rw [hst] at h
              cases h
              refine .inr ⟨?_, rfl⟩
              unfold anyOp
              have h1 : readOp P T H ⟨dst, .store t a x, ty, pos, after, guard⟩ = none := rfl
              have h2 : pureOp P T ⟨dst, .store t a x, ty, pos, after, guard⟩ = none := rfl
              have h3 : effOp P T H nx ⟨dst, .store t a x, ty, pos, after, guard⟩ = some (.skip, H', nx) := by
                unfold effOp
                simp only [ha, hx, hs, hst, cond_true]
              rw [h1, h2, h3]
      all_goals cases h
  case binOp op t x y yt =>
    have h : binR (asI (evalF x T)) (asI (evalF y T)) op H nx = _ := h
    rw [evalF_eq, evalF_eq] at h
    cases ha : asI (evalS T x) with
    | none => rw [ha] at h; cases h
    | some p =>
      cases hb : asI (evalS T y) with
      | none => rw [ha, hb] at h; cases h
      | some q =>
        obtain ⟨k, m⟩ := p
        obtain ⟨k', n⟩ := q
        rw [ha, hb] at h
        have h5 : @Bool.rec (fun _ => FRes) none (resV (binN op k m n) H nx) (Nat.beq (nrK k) (nrK k')) = some (v, H', nx') := h
        clear h
        cases hk : Nat.beq (nrK k) (nrK k') with
        | false => rw [hk] at h5; cases h5
        | true =>
          rw [hk] at h5
          have h6 : resV (binN op k m n) H nx = some (v, H', nx') := h5
          clear h5
          cases nrK_inj hk
          cases hv : binN op k m n with
          | none => rw [hv] at h6; cases h6
          | some u =>
            rw [hv] at h6
            cases h6
            have hx := asI_some ha
            have hy := asI_some hb
            refine .inl ?_
            unfold anyOp
            have h1 : readOp P T H ⟨dst, .binOp op t x y yt, ty, pos, after, guard⟩ = none := by
              show (evalS T x).bind (fun a => (evalS T y).bind (nilTest P op t a)) = none
              rw [hx, hy]
              exact nilTest_int P op t _ k _
            have lx : litS T x = some (.int k (.ofNat m)) := by unfold litS; rw [hx]; rfl
            have ly : litS T y = some (.int k (.ofNat n)) := by unfold litS; rw [hy]; rfl
            have h2 : pureOp P T ⟨dst, .binOp op t x y yt, ty, pos, after, guard⟩ = some (.sc u) := by
              unfold pureOp
              have hl : litOps T [x, y] = true := by simp [litOps, lx, ly]
              rw [show (pureKind (Op.binOp op t x y yt) && litOps T (Op.binOp op t x y yt).operands.toList) = litOps T [x, y] from rfl, hl]
              rw [binN_ok hv t x y dst ty pos after guard yt (litEval T) (by unfold litEval; rw [lx]; rfl) (by unfold litEval; rw [ly]; rfl)]
              rfl
            rw [h1, h2]
  case nilCheck x =>
    obtain ⟨u, hu, he⟩ := fin1_some h
    rw [bindF_eq, evalF_eq] at hu
    exact .inl (viaRead hu he)
  case fieldAddr t x f =>
    obtain ⟨u, hu, he⟩ := fin1_some h
    rw [bindF_eq, evalF_eq] at hu
    exact .inl (viaRead hu he)
  case extract x i =>
    obtain ⟨u, hu, he⟩ := fin1_some h
    rw [bindF_eq, evalF_eq] at hu
    exact .inl (viaRead hu he)
  case field t x f =>
    obtain ⟨u, hu, he⟩ := fin1_some h
    rw [bindF_eq, evalF_eq] at hu
    refine .inl (viaRead (u := u) ?_ he)
    show (match evalS T x with
      | some (.agg l) => fieldS P t f l
      | _ => none) = _
    cases hx : evalS T x with
    | none => rw [hx] at hu; cases hu
    | some y =>
      rw [hx] at hu
      cases y <;> first | exact hu | cases hu
  case indexAddr t x i =>
    have h : Option.rec (motive := fun _ => FR) _ _ (natF (evalF i T)) T H nx P = _ := h
    rw [evalF_eq] at h
    cases hn : natF (evalS T i) with
    | none => rw [hn] at h; cases h
    | some n =>
      rw [hn] at h
      obtain ⟨u, hu, he⟩ := fin1_some h
      rw [bindF_eq, evalF_eq] at hu
      refine .inl (viaRead (u := u) ?_ he)
      show (natS T i).bind _ = _
      rw [show natS T i = some n from hn]
      exact hu
  all_goals (have h : (none : FRes) = some _ := h; cases h)
abbrev Kt := FuncId → Nat → Tr SV → List ADf → Heap → Nat → Program → Rn → Option Nat → Option (List Res)
abbrev Kc := List AIt → Kt
abbrev Ko := Oper → Array Oper → Nat → List Oper → Kc
def putF (nt : Nat) (T : Tr SV) (dst : Option Tmp) (v : SV) : Tr SV :=
  Option.rec (motive := fun _ => Nat → Tr SV → SV → Tr SV) (fun _ T _ => T) (fun d nt T v => Bool.rec (motive := fun _ => Tr SV) T (T.ins d v 0) (Nat.ble (Nat.succ d) nt)) dst nt T v
theorem putF_eq (nt : Nat) (T : Tr SV) (dst : Option Tmp) (v : SV) : putF nt T dst v = putS nt T dst v := by
  cases dst with
  | none => rfl
  | some d =>
    show @Bool.rec (fun _ => Tr SV) T (T.set d v) (Nat.blt d nt) = cond (Nat.blt d nt) (T.set d v) T
    cases Nat.blt d nt <;> rfl
def opSlow : Ko := fun o ops i l k fn nt T dfs hp nx P rn ro => opS P rn ro ⟨fn, nt, T, .inReg ops i (o :: l) :: k, dfs, hp, nx⟩ k ops i o l
def opPut : SV → Heap → Nat → Ko := fun v H nx' o ops i l k fn nt T dfs _ _ _ rn ro => rn ro false ⟨fn, nt, putF nt T o.dst v, .inReg ops (Nat.succ i) l :: k, dfs, H, nx'⟩
def opEnd (r : FRes) : Ko :=
  Option.rec (motive := fun _ => Ko) opSlow (fun r => Prod.rec (motive := fun _ => Ko) (fun v q => Prod.rec (motive := fun _ => Ko) (fun H n => opPut v H n) q) r) r
def opGo : Ko := fun o ops i l k fn nt T dfs hp nx P rn ro => opEnd (fastOp o.op T hp nx P) o ops i l k fn nt T dfs hp nx P rn ro
def opF : Ko := fun o => Option.rec (motive := fun _ => Ko) opGo (fun _ => opSlow) o.guard o
theorem flat_one {A : Type} (f : A → Option (List Res)) (x : A) : flat f [x] = f x := by
  unfold flat
  cases f x with
  | none => rfl
  | some r => simp [flat]
theorem opF_eq (o : Oper) (ops : Array Oper) (i : Nat) (l : List Oper) (k : List AIt) (fn nt T dfs hp nx P rn ro) :
    opF o ops i l k fn nt T dfs hp nx P rn ro = opS P rn ro ⟨fn, nt, T, .inReg ops i (o :: l) :: k, dfs, hp, nx⟩ k ops i o l := by
  unfold opF
  cases hg : o.guard with
  | some g => rfl
  | none =>
    show opEnd (fastOp o.op T hp nx P) o ops i l k fn nt T dfs hp nx P rn ro = _
    cases hf : fastOp o.op T hp nx P with
    | none => rfl
    | some r =>
      obtain ⟨v, H', nx'⟩ := r
      show rn ro false ⟨fn, nt, putF nt T o.dst v, .inReg ops (i + 1) l :: k, dfs, H', nx'⟩ = _
      rw [putF_eq]
      unfold opS
      have hw : wantedS T ops o = some true := by unfold wantedS; rw [hg]
      simp only [hw]
      rcases fastOp_ok hf with h | ⟨h, rfl⟩
      · simp only [h, flat_one]
        rfl
      · simp only [h, flat_one]
        rfl
def asB (o : Option SV) : Option Bool :=
  Option.rec (motive := fun _ => Option Bool) none (fun v => SV.casesOn (motive_1 := fun _ => Option Bool) v
    (fun x => Value.casesOn (motive_1 := fun _ => Option Bool) x some (fun _ _ => none) (fun _ _ => none) (fun _ _ _ => none) (fun _ => none) (fun _ => none) (fun _ _ _ => none) (fun _ => none) (fun _ => none)
      (fun _ _ _ => none) none (fun _ _ => none) none (fun _ => none) (fun _ => none))
    (fun _ _ => none) (fun _ _ _ _ => none) (fun _ _ _ _ => none) (fun _ => none) (fun _ => none) (fun _ => none) (fun _ => none) (fun _ _ => none) (fun _ _ _ => none)) o
def kGo : Kc := fun k fn nt T dfs hp nx P rn ro => rn ro false ⟨fn, nt, T, k, dfs, hp, nx⟩
def kCode (c : Code) : Kc := fun k => kGo (.code c :: k)
def cSlow (c : Code) : Kc := fun k fn nt T dfs hp nx P rn ro => codeS P rn ro ⟨fn, nt, T, .code c :: k, dfs, hp, nx⟩ k c
def cSeq (a b : Code) : Kc := fun k => kGo (.code a :: .code b :: k)
def cRegion (id : Nat) (ops : Array Oper) (draw : Bool) : Kc :=
  Bool.rec (motive := fun _ => Nat → Array Oper → Kc) (fun _ ops k => kGo (.inReg ops 0 ops.toList :: k)) (fun id ops => cSlow (.region id ops true)) draw id ops
def condGo (o : Option Bool) : Code → Code → Kc :=
  Option.rec (motive := fun _ => Code → Code → Kc) (fun _ _ _ _ _ _ _ _ _ _ _ _ => none) (fun t => Bool.rec (motive := fun _ => Code → Code → Kc) (fun _ b => kCode b) (fun a _ => kCode a) t) o
def cCond (c : Operand) (a b : Code) : Kc := fun k fn nt T => condGo (asB (evalF c T)) a b k fn nt T
def codeF (c : Code) : Kc :=
  Code.rec (motive := fun _ => Kc) kGo cRegion (fun a b _ _ => cSeq a b) (fun c a b _ _ => cCond c a b)
    (fun id b _ k => kGo (.code b :: .inBlock id :: k)) (fun b _ k => kGo (.code b :: .inLoop b :: k)) (fun f p a b _ _ => cSlow (.rangeFunc f p a b))
    (fun id => cSlow (.exit id)) (fun b _ k => kGo (.code b :: .inScope b :: k)) (fun _ => kGo) (fun l => cSlow (.goto l)) (cSlow .ret) (fun w => cSlow (.refuse w)) c
theorem codeF_eq (c : Code) (k : List AIt) (fn nt T dfs hp nx P rn ro) : codeF c k fn nt T dfs hp nx P rn ro = codeS P rn ro ⟨fn, nt, T, .code c :: k, dfs, hp, nx⟩ k c := by
  cases c
  case cond c a b =>
    show condGo (asB (evalF c T)) a b k fn nt T dfs hp nx P rn ro = (match evalS T c with
      | some (.sc (.bool t)) => rn ro false ⟨fn, nt, T, .code (bif t then a else b) :: k, dfs, hp, nx⟩
      | _ => none)
    rw [evalF_eq]
    cases evalS T c with
    | none => rfl
    | some v =>
      cases v
      case sc x =>
        cases x
        case bool t => cases t <;> rfl
        all_goals rfl
      all_goals rfl
  case region id ops draw => cases draw <;> rfl
  all_goals rfl
def itSlow (it : AIt) : Kc := fun k fn nt T dfs hp nx P rn ro => stepS P rn ro ⟨fn, nt, T, it :: k, dfs, hp, nx⟩
def regGo (l : List Oper) : Array Oper → Nat → Kc :=
  List.rec (motive := fun _ => Array Oper → Nat → Kc) (fun _ _ => kGo) (fun o l _ ops i => opF o ops i l) l
def itF (it : AIt) : Kc :=
  AIt.rec (motive := fun _ => Kc) codeF (fun _ => kGo) (fun b k => kGo (.code b :: .inLoop b :: k)) (fun _ => kGo) (fun ops i l => regGo l ops i) (fun l => itSlow (.inRange l)) (fun l => itSlow (.endRange l)) (itSlow .beginRound) it
def todoF (l : List AIt) : Kt :=
  List.rec (motive := fun _ => Kt) (fun fn nt T dfs hp nx P rn ro => stepS P rn ro ⟨fn, nt, T, [], dfs, hp, nx⟩) (fun it k _ => itF it k) l
def stepF (s : FrS) : Program → Rn → Option Nat → Option (List Res) :=
  FrS.rec (motive := fun _ => Program → Rn → Option Nat → Option (List Res)) (fun fn nt T todo dfs hp nx => todoF todo fn nt T dfs hp nx) s
theorem stepF_eq (s : FrS) (P : Program) (rn : Rn) (ro : Option Nat) : stepF s P rn ro = stepS P rn ro s := by
  obtain ⟨fn, nt, T, todo, dfs, hp, nx⟩ := s
  cases todo with
  | nil => rfl
  | cons it k =>
    cases it
    case code c => exact codeF_eq ..
    case inReg ops i l =>
      cases l with
      | nil => rfl
      | cons o l => exact opF_eq ..
    all_goals rfl
def runF (P : Program) (f : Nat) : Rn :=
  Nat.rec (motive := fun _ => Rn) (fun _ _ _ => none)
    (fun _ ih ro lv s => Bool.rec (motive := fun _ => Option (List Res)) (stepF (normFS s) P ih ro) (Option.rec (motive := fun _ => Option (List Res)) (finS P ih s) (fun _ => none) ro) lv) f
theorem runF_eq (P : Program) : ∀ f, runF P f = run P f
  | 0 => rfl
  | f + 1 => by
    funext ro lv s
    cases lv with
    | false =>
      show stepF (normFS s) P (runF P f) ro = stepS P (run P f) ro (normFS s)
      rw [stepF_eq, runF_eq P f]
    | true =>
      show Option.rec (motive := fun _ => Option (List Res)) (finS P (runF P f) s) (fun _ => none) ro = Option.rec (motive := fun _ => Option (List Res)) (finS P (run P f) s) (fun _ => none) ro
      rw [runF_eq P f]
def provesF (P : Program) (fuel : Nat) (f : FuncId) : Bool :=
  bif P.follows .mixedOrders then match callS P (runF P fuel) f [] .nil 0 with
    | some (r :: rs) => isTrue (r :: rs)
    | _ => false
  else false
theorem provesF_eq (P : Program) (fuel : Nat) (f : FuncId) : provesF P fuel f = proves P fuel f := by
  unfold provesF proves
  rw [runF_eq]
  rfl
end
end Go.Ex
end
section
namespace Go.Sy
open Go Go.Sl Go.RowKit
theorem sure_of {P : Program} {fuel : Nat} {f : FuncId} (h : Ex.provesF P fuel f = true) : Sure P f (.bool true) := by
  intro w kd cs hk
  have h := Ex.provesF_eq P fuel f ▸ h
  unfold Ex.proves at h
  cases hm : P.follows .mixedOrders with
  | false => rw [hm] at h; cases h
  | true =>
    rw [hm] at h
    simp only [cond_true] at h
    split at h
    · rename_i r rs hcall
      have hS : Ex.St w.heap.size w (fun _ => none) .nil 0 w := ⟨Below.refl _ _, Nat.le_refl _, fun id vo hv => (by rw [Ex.Tr.at_nil] at hv; cases hv), fun id id' vo vo' x x' hv => (by rw [Ex.Tr.at_nil] at hv; cases hv), fun _ _ => rfl⟩
      have hrun := (Ex.run_ok (P := P) (B := w.heap.size) (w0 := w) (fun rn hrn => Ex.drawOK hm hrn) fuel).1
      obtain ⟨r', hr', e', w', v, h1, h2, h3, tmps, todo, g1, fn, g2, g3⟩ := Ex.callS_ok hrun hcall hS (vs := #[]) rfl (kd := kd) (cs := cs) ⟨rfl, hk⟩
      have htrue : ∀ (l : List Ex.Res), Ex.isTrue l = true → ∀ x ∈ l, ∃ H n, x = (.sc (.bool true), H, n) := by
        intro l
        induction l with
        | nil => intro _ x hx; cases hx
        | cons a l ih =>
          intro hl x hx
          unfold Ex.isTrue at hl
          split at hl
          · rename_i heq; cases heq
          · rename_i H n l' heq
            simp only [List.cons.injEq] at heq
            obtain ⟨rfl, rfl⟩ := heq
            rcases List.mem_cons.1 hx with rfl | hx
            · exact ⟨H, n, rfl⟩
            · exact ih hl x hx
          · cases hl
      obtain ⟨H1, n1, rfl⟩ := htrue _ h r' hr'
      simp only [Ex.SV.conc, Option.some.injEq] at h3
      subst h3
      exact ⟨w', tmps, h2.below, ⟨todo, g1⟩, fn, g2, g3⟩
    · cases h
section
variable {P : Program} {ro : Option Nat} {fn nt nx : Nat} {T : Tr SV} {k : List AIt} {dfs : List ADf} {H : Heap} {Q : Pst} {ops : Array Oper} {i : Nat} {l : List Oper} {ty : TypeId} {pos : String} {af : Array Edge} {gd : Option (Nat × Bool)}
theorem w_sure {g : FuncId} {v : Value} {ats : Array TypeId} {dd : Nat} (hs : Sure P g v) (hw : wantedS T ops ⟨some dd, .call { callee := .value (.func g), args := #[], argTypes := ats }, ty, pos, af, gd⟩ = some true) (hd : Nat.blt dd nt = true) (hm : mayEnter P g = true)
    (h : Wp P ro ⟨fn, nt, T.set dd (.sc v), .inReg ops (i + 1) l :: k, dfs, H, nx⟩ Q) :
    Wp P ro ⟨fn, nt, T, .inReg ops i (⟨some dd, .call { callee := .value (.func g), args := #[], argTypes := ats }, ty, pos, af, gd⟩ :: l) :: k, dfs, H, nx⟩ Q :=
  w_call (as1 := []) hw hd rfl hm (.sure hs h)
end
section
variable {P : Program} {nt nx : Nat} {T : Tr SV} {H : Heap} {ops : Array Oper} {i : Nat} {l : List Oper} {ty : TypeId} {pos : String} {af : Array Edge} {gd : Option (Nat × Bool)} {K : DS → Prop} {rs : List Rec} {Hs : List (Heap × Nat)} {stg : Nat}
theorem dw_sure {g : FuncId} {v : Value} {ats : Array TypeId} {dd : Nat} (hs : Sure P g v) (hw : wantedS (onlyT T (needs ops.toList ⟨some dd, .call { callee := .value (.func g), args := #[], argTypes := ats }, ty, pos, af, gd⟩)) ops ⟨some dd, .call { callee := .value (.func g), args := #[], argTypes := ats }, ty, pos, af, gd⟩ = some true) (hd : Nat.blt dd nt = true) (hm : mayEnter P g = true)
    (h : DrawK P nt ops (i + 1) l ⟨T.set dd (.sc v), H, nx, ⟨i, ⟨some dd, .call { callee := .value (.func g), args := #[], argTypes := ats }, ty, pos, af, gd⟩, (onlyT T (needs ops.toList ⟨some dd, .call { callee := .value (.func g), args := #[], argTypes := ats }, ty, pos, af, gd⟩)), stg, true, true, .sc v⟩ :: rs, (H, nx) :: Hs, stg + 1⟩ K) :
    DrawK P nt ops i (⟨some dd, .call { callee := .value (.func g), args := #[], argTypes := ats }, ty, pos, af, gd⟩ :: l) ⟨T, H, nx, rs, Hs, stg⟩ K :=
  dk_call (as1 := []) hw hd rfl hm (.sure hs rfl) h
end
end Go.Sy
end
section
namespace Go.Proofs.Ytfkfiafohcoomaa
open Go Go.Sy
theorem known_sure : Sure Try.prog 8 (.bool true) := sure_of (fuel := 20000) (by kernel_rfl)
end Go.Proofs.Ytfkfiafohcoomaa
end
section
namespace Go.Proofs.Ytfkfiafohcoomaa
open Go Go.Sy Go.Sl Go.RowKit
section
variable {P : Program} {H : Heap} {T : Tr SV} {d : Option Tmp} {ty : TypeId} {pos : String} {af : Array Edge} {gd : Option (Nat × Bool)}
theorem rd_neqB {t : TypeId} {x y : Operand} {yt : TypeId} {a b : Bool} (hx : evalS T x = some (.sc (.bool a))) (hy : evalS T y = some (.sc (.bool b))) (hu : P.underlying t = some .bool) : ReadDoes P T H ⟨d, .binOp .neq t x y yt, ty, pos, af, gd⟩ (.sc (.bool (!(a == b)))) := by
  refine rd_pure fun ev w he => ?_
  have e1 := he x _ hx _ rfl
  have e2 := he y _ hy _ rfl
  have hg : (eqGuard .neq t x y (.bool a) (.bool b)).run P w = .ok () w := rfl
  simp only [execOp, e1, e2, Sem.run_bind, hg, run_neq_bool w t a b hu, Result.andThen_ok, Sem.run_pure]
end
theorem sameSelf (a : Int × Int) : (!samePl a a) = false := by rw [samePl_iff.2 rfl]; rfl
theorem boolSelf (a : Bool) : (!(a == a)) = false := by cases a <;> rfl
end Go.Proofs.Ytfkfiafohcoomaa
end
section
namespace Go.Sy
open Go Go.Sl Go.RowKit
theorem pureRun_under {P : Program} {t : TypeId} {d : TypeDesc} {A : Type} (f : TypeDesc → Sem A) (h : P.underlying t = some d) : pureRun P (underlying t >>= f) = pureRun P (f d) := by
  show pureRun P ((match P.underlying t with | some d => (pure d : Sem TypeDesc) | none => stuck "no such type").bind f) = _
  rw [h]
  rfl
section
variable {K V : Type} [DecidableEq K]
structure KEnc (P : Program) (kt : TypeId) (enc : K → Value) : Prop where
  find : ∀ (l : List (K × SV × Nat)) (k : K), findK P kt (enc k) (l.map fun x => (enc x.1, x.2)) = some (l.findIdx? fun x => decide (x.1 = k))
  check : ∀ k, pureRun P (Instr.checkKey false 10000 kt (enc k)) = some ()
  bits : ∀ k, Instr.sameBits 10000 (enc k) (enc k) = true
theorem findNow_enc {enc : K → Value} {kd : TypeDesc} (hs : ∀ a b, Instr.sameNow kd (enc a) (enc b) = some (decide (a = b))) (k : K) : ∀ (l : List (K × SV × Nat)) (i : Nat),
    Instr.findNow kd (enc k) (dummies (l.map fun x => (enc x.1, x.2))) i = some ((l.findIdx? fun x => decide (x.1 = k)).map fun j => (i + j, .nilFunc))
  | [], i => rfl
  | x :: l, i => by
    simp only [dummies, List.map_cons, Instr.findNow, hs, List.findIdx?_cons]
    by_cases h : x.1 = k
    · simp [h]
    · have h' : ¬ k = x.1 := fun e => h e.symm
      have ih := findNow_enc hs k l (i + 1)
      simp only [dummies] at ih
      simp only [h, h', decide_false, ih, Option.map_map, Bool.false_eq_true, if_false]
      congr 2
      funext j
      simp only [Function.comp_apply, Prod.mk.injEq, and_true]
      omega
theorem check_plain {P : Program} {kt : TypeId} {kd : TypeDesc} {v : Value} (h : P.underlying kt = some kd) (hk : (match kd with | .interface _ | .array .. | .struct _ => false | _ => true) = true) (e : Bool) (n : Nat) :
    pureRun P (Instr.checkKey e (n + 1) kt v) = some () := by
  unfold Instr.checkKey
  rw [pureRun_under _ h]
  cases kd <;> first | rfl | simp at hk
theorem kenc_of {P : Program} {kt : TypeId} {kd : TypeDesc} {enc : K → Value} (h : P.underlying kt = some kd) (hk : (match kd with | .interface _ | .array .. | .struct _ => false | _ => true) = true) (hs : ∀ a b, Instr.sameNow kd (enc a) (enc b) = some (decide (a = b)))
    (hb : ∀ k, Instr.sameBits 10000 (enc k) (enc k) = true) : KEnc P kt enc := by
  refine ⟨fun l k => ?_, fun k => check_plain h hk _ _, hb⟩
  unfold findK
  rw [check_plain h hk]
  simp only
  unfold Instr.findKey
  rw [pureRun_under _ h]
  simp only [findNow_enc hs]
  cases l.findIdx? fun x => decide (x.1 = k) <;> simp [pure, pureRun]
theorem kenc_i64 {P : Program} {kt : TypeId} (h : P.underlying kt = some (.int .i64)) : KEnc P kt (fun n : Int => .int .i64 n) :=
  kenc_of h rfl (fun a b => by simp only [Instr.sameNow, if_true, Option.some.injEq]; rw [Bool.eq_iff_iff]; simp) (fun k => by simp [Instr.sameBits])
def kget (m : List (K × V × Nat)) (k : K) : Option V := (m.find? fun x => decide (x.1 = k)).map (·.2.1)
def kput : List (K × V × Nat) → K → V → Nat → List (K × V × Nat)
  | [], k, v, c => [(k, v, c)]
  | x :: m, k, v, c => if x.1 = k then (k, v, x.2.2) :: m else x :: kput m k v c
def kclk (m : List (K × V × Nat)) (k : K) (c : Nat) : Nat := match kget m k with
  | some _ => c
  | none => c + 1
def kdel : List (K × V × Nat) → K → List (K × V × Nat)
  | [], _ => []
  | x :: m, k => if x.1 = k then m else x :: kdel m k
abbrev mapL (enc : K → Value) (val : V → SV) (m : List (K × V × Nat)) : List (Value × SV × Nat) := m.map fun x => (enc x.1, val x.2.1, x.2.2)
abbrev mapV (enc : K → Value) (val : V → SV) (m : List (K × V × Nat)) (c : Nat) : VO := .map (mapL enc val m) c
structure KOk (m : List (K × V × Nat)) (c : Nat) : Prop where
  keys : (m.map (·.1)).Nodup
  born : (m.map (·.2.2)).Nodup
  lt : ∀ x ∈ m, x.2.2 < c
omit [DecidableEq K] in
theorem KOk.nil (c : Nat) : KOk ([] : List (K × V × Nat)) c := ⟨by simp, by simp, by simp⟩
theorem kidx (m : List (K × V × Nat)) (k : K) : match m.findIdx? fun x => decide (x.1 = k) with
    | none => kget m k = none ∧ kdel m k = m ∧ ∀ v c, kput m k v c = m ++ [(k, v, c)]
    | some i => ∃ x, m[i]? = some x ∧ x.1 = k ∧ kget m k = some x.2.1 ∧ kdel m k = m.eraseIdx i ∧ ∀ v c, kput m k v c = m.set i (k, v, x.2.2) := by
  induction m with
  | nil => simp [kget, kdel, kput]
  | cons y m ih =>
    rw [List.findIdx?_cons]
    by_cases h : y.1 = k
    · simp [h, kget, kdel, kput]
    · simp only [h, decide_false, Bool.false_eq_true, if_false]
      cases hi : m.findIdx? fun x => decide (x.1 = k) with
      | none =>
        rw [hi] at ih
        obtain ⟨h1, h2, h3⟩ := ih
        refine ⟨?_, ?_, fun v c => ?_⟩
        · simpa [kget, h] using h1
        · simp [kdel, h, h2]
        · simp [kput, h, h3]
      | some i =>
        rw [hi] at ih
        obtain ⟨x, h1, h2, h3, h4, h5⟩ := ih
        refine ⟨x, by simpa using h1, h2, ?_, ?_, fun v c => ?_⟩
        · simpa [kget, h] using h3
        · simp [kdel, h, h4]
        · simp [kput, h, h5]
theorem kget_none {m : List (K × V × Nat)} {k : K} : kget m k = none ↔ k ∉ m.map (·.1) := by
  induction m with
  | nil => simp [kget]
  | cons y m ih =>
    by_cases h : y.1 = k
    · simp [kget, h]
    · have : kget (y :: m) k = kget m k := by simp [kget, h]
      rw [this, ih]
      simp [Ne.symm h]
theorem kput_none {m : List (K × V × Nat)} {k : K} (h : kget m k = none) (v : V) (c : Nat) : kput m k v c = m ++ [(k, v, c)] := by
  have hk := kidx m k
  cases hi : m.findIdx? fun x => decide (x.1 = k) with
  | none => rw [hi] at hk; exact hk.2.2 v c
  | some i => rw [hi] at hk; obtain ⟨x, _, _, h3, _⟩ := hk; rw [h] at h3; cases h3
theorem kclk_none {m : List (K × V × Nat)} {k : K} (h : kget m k = none) (c : Nat) : kclk m k c = c + 1 := by unfold kclk; rw [h]
theorem kclk_some {m : List (K × V × Nat)} {k : K} {v : V} (h : kget m k = some v) (c : Nat) : kclk m k c = c := by unfold kclk; rw [h]
theorem kput_some {m : List (K × V × Nat)} {k : K} {w : V} (h : kget m k = some w) : ∃ A B s, m = A ++ (k, w, s) :: B ∧ ∀ v c, kput m k v c = A ++ (k, v, s) :: B := by
  induction m with
  | nil => simp [kget] at h
  | cons y m ih =>
    by_cases hy : y.1 = k
    · refine ⟨[], m, y.2.2, ?_, fun v c => by simp [kput, hy]⟩
      simp [kget, hy] at h
      obtain ⟨y1, y2, y3⟩ := y
      simp at hy h
      simp [hy, h]
    · have h' : kget m k = some w := by simpa [kget, hy] using h
      obtain ⟨A, B, s, h1, h2⟩ := ih h'
      exact ⟨y :: A, B, s, by rw [h1]; rfl, fun v c => by simp [kput, hy, h2]⟩
theorem mem_kput {m : List (K × V × Nat)} {k : K} {v : V} {c : Nat} {x : K} : x ∈ (kput m k v c).map (·.1) ↔ x = k ∨ x ∈ m.map (·.1) := by
  induction m with
  | nil => simp [kput]
  | cons y m ih =>
    unfold kput
    by_cases h : y.1 = k
    · simp [h]
    · simp only [h, if_false, List.map_cons, List.mem_cons, ih]
      constructor <;> (intro h'; rcases h' with h' | h' | h' <;> simp [h'])
theorem KOk.put {m : List (K × V × Nat)} {c : Nat} (h : KOk m c) (k : K) (v : V) : KOk (kput m k v c) (kclk m k c) := by
  have hk := kidx m k
  cases hi : m.findIdx? fun x => decide (x.1 = k) with
  | none =>
    rw [hi] at hk
    obtain ⟨h1, _, h3⟩ := hk
    rw [h3, show kclk m k c = c + 1 by simp [kclk, h1]]
    refine ⟨?_, ?_, ?_⟩
    · rw [List.map_append, List.nodup_append]
      exact ⟨h.keys, by simp, fun a ha b hb => by simp at hb; subst hb; intro e; subst e; exact kget_none.1 h1 ha⟩
    · rw [List.map_append, List.nodup_append]
      refine ⟨h.born, by simp, fun a ha b hb => ?_⟩
      simp at hb
      subst hb
      obtain ⟨x, hx, rfl⟩ := List.mem_map.1 ha
      have := h.lt x hx
      omega
    · intro x hx
      rcases List.mem_append.1 hx with hx | hx
      · have := h.lt x hx; omega
      · simp at hx; subst hx; show c < c + 1; omega
  | some i =>
    rw [hi] at hk
    obtain ⟨x, h1, h2, h3, _, h5⟩ := hk
    rw [h5, show kclk m k c = c by simp [kclk, h3]]
    obtain ⟨hlt, rfl⟩ := List.getElem?_eq_some_iff.1 h1
    refine ⟨?_, ?_, ?_⟩
    · rw [List.map_set]
      rw [show (m.map (·.1)).set i k = m.map (·.1) by rw [← h2]; apply List.ext_getElem?; intro j; rw [List.getElem?_set]; by_cases hj : i = j
                                                      · subst hj; simp [hlt]
                                                      · simp [hj]]
      exact h.keys
    · rw [List.map_set]
      rw [show (m.map (·.2.2)).set i m[i].2.2 = m.map (·.2.2) by apply List.ext_getElem?; intro j; rw [List.getElem?_set]; by_cases hj : i = j
                                                                 · subst hj; simp [hlt]
                                                                 · simp [hj]]
      exact h.born
    · intro y hy
      rcases List.mem_or_eq_of_mem_set hy with hy | rfl
      · exact h.lt y hy
      · exact h.lt m[i] (List.getElem_mem hlt)
omit [DecidableEq K] in
theorem KOk.sub {m m' : List (K × V × Nat)} {c : Nat} (h : KOk m c) (hs : m'.Sublist m) : KOk m' c := ⟨h.keys.sublist (hs.map _), h.born.sublist (hs.map _), fun x hx => h.lt x (hs.subset hx)⟩
theorem kdel_sub (m : List (K × V × Nat)) (k : K) : (kdel m k).Sublist m := by
  induction m with
  | nil => exact List.Sublist.refl _
  | cons y m ih =>
    unfold kdel
    split
    · exact List.sublist_cons_self _ _
    · exact ih.cons_cons _
theorem KOk.del {m : List (K × V × Nat)} {c : Nat} (h : KOk m c) (k : K) : KOk (kdel m k) c := h.sub (kdel_sub m k)
omit [DecidableEq K] in
theorem KOk.eq {m : List (K × V × Nat)} {c : Nat} (h : KOk m c) {x y : K × V × Nat} (hx : x ∈ m) (hy : y ∈ m) (hb : x.2.2 = y.2.2) : x = y := by
  obtain ⟨i, hi⟩ := List.getElem?_of_mem hx
  obtain ⟨j, hj⟩ := List.getElem?_of_mem hy
  obtain ⟨hi', rfl⟩ := List.getElem?_eq_some_iff.1 hi
  obtain ⟨hj', rfl⟩ := List.getElem?_eq_some_iff.1 hj
  have : i = j := by
    refine (List.getElem_inj (h₀ := by simpa using hi') (h₁ := by simpa using hj') h.born).1 ?_
    simpa using hb
  subst this
  rfl
omit [DecidableEq K] in
theorem KOk.nodup {m : List (K × V × Nat)} {c : Nat} (h : KOk m c) : m.Nodup := by
  have := h.born
  exact List.Pairwise.of_map (·.2.2) (fun a b hab e => hab (by rw [e])) this
abbrev itV (b c : Nat) (done : List (K × V × Nat)) : VO := .iter (some b) c (done.map (·.2.2)) c
variable {P : Program} {T : Tr SV} {H : Heap} {nx : Nat} {d : Option Tmp} {ty : TypeId} {pos : String} {af : Array Edge} {gd : Option (Nat × Bool)}
theorem findK_map {kt : TypeId} {enc : K → Value} {val : V → SV} (hE : KEnc P kt enc) (m : List (K × V × Nat)) (k : K) : findK P kt (enc k) (mapL enc val m) = some (m.findIdx? fun x => decide (x.1 = k)) := by
  have := hE.find (m.map fun x => (x.1, val x.2.1, x.2.2)) k
  rw [List.map_map] at this
  rw [show mapL enc val m = m.map ((fun x : K × SV × Nat => (enc x.1, x.2)) ∘ fun x : K × V × Nat => (x.1, val x.2.1, x.2.2)) from rfl, this]
  congr 1
  rw [List.findIdx?_map]
  rfl
theorem rd_look {enc : K → Value} {val : V → SV} {m : List (K × V × Nat)} {c : Nat} {t kt e : TypeId} {x y : Operand} {b : Nat} {kk : K} {v : V} {ok : Bool} (hx : evalS T x = some (.mp b)) (hy : evalS T y = some (.sc (enc kk))) (hu : P.underlying t = some (.map kt e)) (hE : KEnc P kt enc)
    (hb : H.at' b = some (mapV enc val m c)) (hg : kget m kk = some v) : ReadDoes P T H ⟨d, .lookup t x y ok, ty, pos, af, gd⟩ (bif ok then .tup [val v, .sc (.bool true)] else val v) := by
  refine rd_of ?_
  have hk := kidx m kk
  unfold readOp
  simp only [litS, hy, SV.lit, Option.bind_some, hx, lookupS, hu, hb, findK_map hE]
  cases hi : m.findIdx? fun x => decide (x.1 = kk) with
  | none => rw [hi] at hk; rw [hk.1] at hg; cases hg
  | some i =>
    rw [hi] at hk
    obtain ⟨z, h1, _, h3, _⟩ := hk
    rw [hg] at h3
    simp only [Option.some.injEq] at h3
    subst h3
    simp only [List.getElem?_map, h1, Option.map_some]
theorem rd_lookZ {enc : K → Value} {val : V → SV} {m : List (K × V × Nat)} {c : Nat} {t kt e : TypeId} {x y : Operand} {b : Nat} {kk : K} {z : Value} {ok : Bool} (hx : evalS T x = some (.mp b)) (hy : evalS T y = some (.sc (enc kk))) (hu : P.underlying t = some (.map kt e)) (hE : KEnc P kt enc)
    (hb : H.at' b = some (mapV enc val m c)) (hg : kget m kk = none) (hz : zeroT P e = some z) : ReadDoes P T H ⟨d, .lookup t x y ok, ty, pos, af, gd⟩ (bif ok then .tup [.sc z, .sc (.bool false)] else .sc z) := by
  refine rd_of ?_
  have hk := kidx m kk
  unfold readOp
  simp only [litS, hy, SV.lit, Option.bind_some, hx, lookupS, hu, hb, findK_map hE]
  cases hi : m.findIdx? fun x => decide (x.1 = kk) with
  | none => simp only [hz]
  | some i =>
    rw [hi] at hk
    obtain ⟨z, h1, _, h3, _⟩ := hk
    rw [hg] at h3
    cases h3
theorem op_mapUp {enc : K → Value} {val : V → SV} {m : List (K × V × Nat)} {c : Nat} {t kt e : TypeId} {x y w : Operand} {b : Nat} {kk : K} {v : V} (hx : evalS T x = some (.mp b)) (hy : evalS T y = some (.sc (enc kk))) (hu : P.underlying t = some (.map kt e)) (hE : KEnc P kt enc)
    (hb : H.at' b = some (mapV enc val m c)) (hw : evalS T w = some (val v)) : OpDoes P T H nx ⟨d, .mapUpdate t x y w, ty, pos, af, gd⟩ (.skip, H.set b (mapV enc val (kput m kk v c) (kclk m kk c)), nx) := by
  refine ed_of ?_
  have hk := kidx m kk
  unfold effOp
  simp only [litS, hy, SV.lit, Option.bind_some, hx, hw, mapUpS, hu, hb, putK, hE.check, findK_map hE]
  cases hi : m.findIdx? fun x => decide (x.1 = kk) with
  | none =>
    rw [hi] at hk
    obtain ⟨h1, _, h3⟩ := hk
    simp only [mapV, mapL, h3, kclk, h1, List.map_append, List.map_cons, List.map_nil]
  | some i =>
    rw [hi] at hk
    obtain ⟨z, h1, h2, h3, _, h5⟩ := hk
    simp only [mapV, mapL, h5, kclk, h3, List.getElem?_map, h1, Option.map_some, h2, hE.bits, cond_true, List.map_set]
omit [DecidableEq K] in
theorem op_range {enc : K → Value} {val : V → SV} {m : List (K × V × Nat)} {c : Nat} {t kt e : TypeId} {x : Operand} {b : Nat} (hx : evalS T x = some (.mp b)) (hu : P.underlying t = some (.map kt e)) (hb : H.at' b = some (mapV enc val m c)) :
    OpDoes P T H nx ⟨d, .range t x, ty, pos, af, gd⟩ (.val (.ptr nx 0), H.set nx (itV b c ([] : List (K × V × Nat))), nx + 1) := by
  refine ed_of ?_
  unfold effOp
  simp only [hx, Option.bind_some, rangeS, hu, hb]
  rfl
omit [DecidableEq K] in
theorem rd_entry {enc : K → Value} {val : V → SV} {m : List (K × V × Nat)} {c : Nat} {it : Operand} {b r : Nat} {done : List (K × V × Nat)} {x : K × V × Nat} (hx : evalS T it = some (.ptr r 0)) (hr : H.at' r = some (itV b c (done ++ [x]))) (hb : H.at' b = some (mapV enc val m c)) (hok : KOk m c) (hm : x ∈ m) :
    ReadDoes P T H ⟨d, .entry it, ty, pos, af, gd⟩ (.tup [.sc (enc x.1), val x.2.1]) := by
  refine rd_of ?_
  unfold readOp
  simp only [hx, Option.bind_some, entryS, hr, List.map_append, List.map_cons, List.map_nil, List.getLast?_append, List.getLast?_singleton, Option.some_or, hb, Nat.beq_refl, cond_true]
  have hf : (mapL enc val m).find? (fun y => Nat.beq y.2.2 x.2.2) = some (enc x.1, val x.2.1, x.2.2) := by
    have : m.find? (fun y => Nat.beq y.2.2 x.2.2) = some x := by
      cases hh : m.find? (fun y => Nat.beq y.2.2 x.2.2) with
      | none => exact absurd (List.find?_eq_none.1 hh x hm) (by simp)
      | some y =>
        have h1 := List.find?_some hh
        exact congrArg some (hok.eq (List.mem_of_find?_eq_some hh) hm (Nat.eq_of_beq_eq_true h1))
    rw [mapL, List.find?_map, show ((fun y : Value × SV × Nat => Nat.beq y.2.2 x.2.2) ∘ fun x : K × V × Nat => (enc x.1, val x.2.1, x.2.2)) = fun y : K × V × Nat => Nat.beq y.2.2 x.2.2 from rfl, this]
    rfl
  rw [hf]
end
section
variable {P : Program} {T : Tr SV} {H : Heap} {nx : Nat} {d : Option Tmp} {ty : TypeId} {pos : String} {af : Array Edge} {gd : Option (Nat × Bool)}
theorem rd_eqNil {t yt : TypeId} {x y : Operand} {s : SV} {v : Value} {d0 : TypeDesc} (hx : evalS T x = some s) (hy : evalS T y = some (.sc v)) (hu : P.underlying t = some d0) (hn : isNilS s v d0 = true) : ReadDoes P T H ⟨d, .binOp .eql t x y yt, ty, pos, af, gd⟩ (.sc (.bool false)) := by
  refine rd_of ?_
  unfold readOp
  simp only [hx, hy, Option.bind_some, nilTest, hu, hn, cond_true]
theorem rd_neNil {t yt : TypeId} {x y : Operand} {s : SV} {v : Value} {d0 : TypeDesc} (hx : evalS T x = some s) (hy : evalS T y = some (.sc v)) (hu : P.underlying t = some d0) (hn : isNilS s v d0 = true) : ReadDoes P T H ⟨d, .binOp .neq t x y yt, ty, pos, af, gd⟩ (.sc (.bool true)) := by
  refine rd_of ?_
  unfold readOp
  simp only [hx, hy, Option.bind_some, nilTest, hu, hn, cond_true]
def nilV : Value → Bool
  | .pointer none => true
  | .map none => true
  | _ => false
def nilK : Value → TypeDesc → Bool
  | .pointer none, .pointer _ => true
  | .map none, .map _ _ => true
  | _, _ => false
theorem equalIn_nilP {t e : TypeId} (n : Nat) (hu : P.underlying t = some (.pointer e)) (w : World) : (Op.equalIn (n + 1) t (.pointer none) (.pointer none)).run P w = .ok true w := by
  simp [Op.equalIn, run_underlying hu]
theorem equalIn_nilM {t k e : TypeId} (n : Nat) (hu : P.underlying t = some (.map k e)) (w : World) : (Op.equalIn (n + 1) t (.map none) (.map none)).run P w = .ok true w := by
  simp [Op.equalIn, run_underlying hu]
theorem equal_nil {t : TypeId} {v : Value} {d0 : TypeDesc} (hv : nilV v = true) (hu : P.underlying t = some d0) (hk : nilK v d0 = true) (w : World) : (Op.equal t v v).run P w = .ok true w := by
  cases v with
  | pointer a =>
    cases a with
    | some a => cases hv
    | none => cases d0 with
      | pointer e => exact equalIn_nilP 9999 hu w
      | _ => cases hk
  | map a =>
    cases a with
    | some a => cases hv
    | none => cases d0 with
      | map k e => exact equalIn_nilM 9999 hu w
      | _ => cases hk
  | _ => cases hv
theorem rd_isNil {t yt : TypeId} {x y : Operand} {v : Value} {d0 : TypeDesc} (hx : evalS T x = some (.sc v)) (hy : evalS T y = some (.sc v)) (hv : nilV v = true) (hu : P.underlying t = some d0) (hk : nilK v d0 = true) : ReadDoes P T H ⟨d, .binOp .eql t x y yt, ty, pos, af, gd⟩ (.sc (.bool true)) := by
  refine rd_pure fun ev w he => ?_
  have e1 := he x _ hx _ rfl
  have e2 := he y _ hy _ rfl
  have hg : (eqGuard .eql t x y v v).run P w = .ok () w := by cases v <;> first | rfl | cases hv
  have hq : (Op.equal t v v).run P w = .ok true w := equal_nil hv hu hk w
  have hb : (binOp .eql t v v).run P w = .ok (.bool true) w := by
    cases v <;> first | (simp only [binOp, Sem.run_bind, hq, Result.andThen_ok, Sem.run_pure]; done) | cases hv
  simp only [execOp, e1, e2, Sem.run_bind, hg, hb, Result.andThen_ok, Sem.run_pure]
theorem rd_extractV {x : Operand} {i : Nat} {xs : Array Value} {v : Value} (h : evalS T x = some (.sc (.tuple xs))) (hi : xs[i]? = some v) : ReadDoes P T H ⟨d, .extract x i, ty, pos, af, gd⟩ (.sc v) := by
  refine rd_of ?_
  unfold readOp
  simp only [h, Option.bind_some, nthS, hi, Option.map_some]
theorem op_makeMap {t : TypeId} : OpDoes P T H nx ⟨d, .makeMap t none, ty, pos, af, gd⟩ (.val (.mp nx), H.set nx (.map [] 0), nx + 1) := ed_of rfl
end
section
variable {P : Program} {T : Tr SV} {H : Heap} {nx : Nat} {d0 : Option Tmp} {ty : TypeId} {pos : String} {af : Array Edge} {gd : Option (Nat × Bool)}
theorem rd_idxA {t e : TypeId} {x y : Operand} {b o n sz : Nat} {k : IntKind} {j : Int} {q : Nat} (hx : evalS T x = some (.ptr b o)) (hy : evalS T y = some (.sc (.int k j))) (hu : P.underlying t = some (.array n e)) (hs : sizeT P e = some sz) (hq : j = (q : Int)) (hi : q < n) :
    ReadDoes P T H ⟨d0, .indexAddr t x y, ty, pos, af, gd⟩ (.ptr b (o + q * sz)) := by
  refine rd_of ?_
  subst hq
  unfold readOp
  simp only [natS, hx, hy, Option.bind_some]
  show (indexAddrS P H t q (.ptr b o)) = _
  simp only [indexAddrS, hu, hs]
  rw [show Nat.blt q n = true from Nat.ble_eq_true_of_le hi]
  rfl
end
section
variable {P : Program} {T : Tr SV} {H : Heap} {nx : Nat} {d : Option Tmp} {ty : TypeId} {pos : String} {af : Array Edge} {gd : Option (Nat × Bool)}
theorem rdv_row {b m sz : Nat} {ro : Bool} {t : TypeId} {l : List SV} {vs : List Value} (hb : H.at' b = some (.row ro m sz t (listC l))) (hl : l = vs.map .sc) (hlen : vs.length = m * sz) : RdV P H sz (.slu b 0 m) m vs := by
  subst hl
  rw [dat_list] at hb
  exact rdv_dat hb (by omega) (by rw [Nat.zero_mul, List.drop_zero]; exact List.take_of_length_le (by omega)) hlen
theorem op_push {A : Type} {f : A → List Value} {xs : List A} {a : A} {t tx el : TypeId} {sz b r q : Nat} {s x : Operand} {rq : Bool} {tq : TypeId} {cs : List SV} (hx0 : evalS T s = some (.slu r 0 xs.length)) (hx : evalS T x = some (.slu q 0 1)) (hu : P.underlying t = some (.slice el))
    (hk : (∃ e', P.underlying tx = some (.slice e')) ∨ P.underlying tx = some .string) (hs : sizeT P el = some sz) (h0 : Nat.blt 0 sz = true) (hz : zeroIs P el sz = true) (hb : (P.info? el).map (·.bytes) = some b) (hro : H.at' r = some (dat false xs.length sz el (xs.flatMap f)))
    (hq : H.at' q = some (.row rq 1 sz tq (listC cs))) (hcs : cs = (f a).map .sc) (hf : RecOf f sz) (hm1 : (xs.length + 1) * b ≤ 140737488355328) (hm2 : xs.length + 1 ≤ 1000000000) :
    OpDoes P T H nx ⟨d, .call { callee := .builtin .append, args := #[s, x], argTypes := #[t, tx] }, ty, pos, af, gd⟩ (.val (.slu nx 0 (xs ++ [a]).length), (H.del r).set nx (dat false (xs ++ [a]).length sz el ((xs ++ [a]).flatMap f)), nx + 1) := by
  have h := op_append (P := P) (T := T) (H := H) (nx := nx) (d := d) (ty := ty) (pos := pos) (af := af) (gd := gd) (eo := 0) (n := xs.length) (m := 1) (vs := f a) (ws := xs.flatMap f) hu hk hs (lt_of_blt h0) hz hb hx0 hx (by rw [Nat.zero_add]; exact hro)
    (by rw [Nat.zero_mul, List.drop_zero]; exact List.take_of_length_le (by rw [flat_len hf.len]; omega)) (flat_len hf.len xs) (rdv_row hq hcs (by rw [hf.len]; omega)) (hf.one a) (by decide) hm1 hm2
  rw [show (xs ++ [a]).length = xs.length + 1 by simp, show (xs ++ [a]).flatMap f = xs.flatMap f ++ f a by simp]
  exact h
end
section
variable {P : Program} {T : Tr SV} {H : Heap} {nx : Nat} {d0 : Option Tmp} {ty : TypeId} {pos : String} {af : Array Edge} {gd : Option (Nat × Bool)}
theorem rd_ldFN {A : Type} [Inhabited A] {f : A → List Value} {t rt : TypeId} {x : Operand} {b o n ne sz : Nat} {ro : Bool} {d : Array A} {q j : Nat} {us : List Value} (ha : aggSize P t = some (some n)) (hx : evalS T x = some (.ptr b o)) (ho : o = q * sz + j) (hf : RecOf f sz) (hb : H.at' b = some (arr ro ne sz rt f d))
    (hi : q < d.size) (hne : d.size ≤ ne) (hus : ((f d[q]!).drop j).take n = us) (hl : us.length = n) (hj : j + n ≤ sz) : ReadDoes P T H ⟨d0, .load t x, ty, pos, af, gd⟩ (.agg (us.map .sc)) := by
  subst ho
  have hfit := arr_fit (sz := sz) hi hne
  refine rd_loadN ha hx hb (cellsFrom_dat n (q * sz + j) ?_ hl (by omega))
  have h1 := flat_one hf.len (arr_get hi)
  rw [← hus, ← h1, List.drop_take, List.take_take, List.drop_drop, Nat.min_eq_left (by omega)]
theorem rd_ldF {A : Type} [Inhabited A] {f : A → List Value} {t rt : TypeId} {x : Operand} {b o ne sz : Nat} {ro : Bool} {d : Array A} {q j : Nat} {v : Value} (ha : aggSize P t = some none) (hx : evalS T x = some (.ptr b o)) (ho : o = q * sz + j) (hf : RecOf f sz) (hb : H.at' b = some (arr ro ne sz rt f d))
    (hi : q < d.size) (hne : d.size ≤ ne) (hv : (f d[q]!)[j]? = some v) : ReadDoes P T H ⟨d0, .load t x, ty, pos, af, gd⟩ (.sc v) := by
  subst ho
  have hfit := arr_fit (sz := sz) hi hne
  have hj : j < sz := by have := (List.getElem?_eq_some_iff.1 hv).1; rwa [hf.len] at this
  refine rd_load1 ha hx hb (cell_dat (by omega) ?_)
  rw [flat_cell hf.len (arr_get hi) hj]
  exact hv
end
section
variable {P : Program} {T : Tr SV} {H : Heap} {nx : Nat} {d0 : Option Tmp} {ty : TypeId} {pos : String} {af : Array Edge} {gd : Option (Nat × Bool)}
theorem seg_get {A : Type} [Inhabited A] {f : A → List Value} {sz l0 : Nat} (hf : RecOf f sz) {d : Array A} {pre post : List Value} (hl : pre.length = l0) {q : Nat} (hi : q < d.size) : ((pre ++ d.toList.flatMap f ++ post).drop (l0 + q * sz)).take sz = f d[q]! := by
  subst hl
  have hlen : (d.toList.flatMap f).length = d.size * sz := by rw [flat_len hf.len]; rfl
  have hfit := arr_fit (sz := sz) hi (Nat.le_refl _)
  rw [List.append_assoc, List.drop_length_add_append, List.drop_append_of_le_length (by omega), List.take_append_of_le_length (by rw [List.length_drop]; omega)]
  exact flat_one hf.len (arr_get hi)
theorem rd_ldG {A : Type} [Inhabited A] {f : A → List Value} {t rt : TypeId} {x : Operand} {b sz o q l0 : Nat} {d : Array A} {cs : List SV} {pre post : List Value} (hx : evalS T x = some (.ptr b o)) (ha : aggSize P t = some (some sz)) (hf : RecOf f sz) (hb : H.at' b = some (newCells rt cs))
    (hcs : cs = (pre ++ d.toList.flatMap f ++ post).map .sc) (hl : pre.length = l0) (ho : o = l0 + q * sz) (hi : q < d.size) : ReadDoes P T H ⟨d0, .load t x, ty, pos, af, gd⟩ (.agg ((f d[q]!).map .sc)) := by
  subst ho hcs
  refine rd_loadN ha hx hb (cellsFrom_box sz (l0 + q * sz) ?_ ?_)
  · rw [← List.map_drop, ← List.map_take, seg_get hf hl hi]
  · rw [List.length_map, hf.len]
theorem rd_ldG1 {A : Type} [Inhabited A] {g : A → Value} {t rt : TypeId} {x : Operand} {b o q l0 : Nat} {d : Array A} {cs : List SV} {pre post : List Value} (hx : evalS T x = some (.ptr b o)) (ha : aggSize P t = some none) (hg : ∀ a, (g a).oneCell' = true) (hb : H.at' b = some (newCells rt cs))
    (hcs : cs = (pre ++ d.toList.flatMap (fun a => [g a]) ++ post).map .sc) (hl : pre.length = l0) (ho : o = l0 + q * 1) (hi : q < d.size) : ReadDoes P T H ⟨d0, .load t x, ty, pos, af, gd⟩ (.sc (g d[q]!)) := by
  subst ho hcs
  have h := seg_get (f := fun a => [g a]) (sz := 1) (recOne hg) (d := d) (post := post) hl hi
  refine rd_load1 ha hx hb (cell_box ?_)
  have h2 : (pre ++ d.toList.flatMap (fun a => [g a]) ++ post)[l0 + q * 1]? = some (g d[q]!) := by
    have := congrArg List.head? h
    rw [List.head?_take, if_neg (by decide), List.head?_drop] at this
    simpa using this
  rw [List.getElem?_map, h2]
  rfl
theorem op_stG {A : Type} [Inhabited A] {f : A → List Value} {t rt : TypeId} {a x : Operand} {b sz o q l0 : Nat} {d : Array A} {v : A} {u : SV} {cs cs' : List SV} {pre post : List Value} (ha : evalS T a = some (.ptr b o)) (hx : evalS T x = some u) (hu : u.cells = (f v).map .sc) (hs : sizeT P t = some sz) (hf : RecOf f sz) (hb : H.at' b = some (newCells rt cs))
    (hcs : cs = (pre ++ d.toList.flatMap f ++ post).map .sc) (hcs' : cs' = (pre ++ (d.setIfInBounds q v).toList.flatMap f ++ post).map .sc) (hl : pre.length = l0) (ho : o = l0 + q * sz) (hi : q < d.size) :
    OpDoes P T H nx ⟨d0, .store t a x, ty, pos, af, gd⟩ (.skip, H.set b (newCells rt cs'), nx) := by
  subst ho hcs hcs' hl
  have hlen : (d.toList.flatMap f).length = d.size * sz := by rw [flat_len hf.len]; rfl
  have hfit := arr_fit (sz := sz) hi (Nat.le_refl _)
  have h := op_store (d := d0) (ty := ty) (pos := pos) (af := af) (gd := gd) (nx := nx) hs ha hx hu hb (by rw [List.length_map, hf.len]) (by simp only [List.length_map, List.length_append, hlen]; omega) (allOne_sc (hf.one v))
  have e := flat_set hf.len (xs := d.toList) (i := q) hi v
  rw [← List.map_take, ← List.map_drop, ← List.map_append, ← List.map_append] at h
  have e2 : (pre ++ d.toList.flatMap f ++ post).take (pre.length + q * sz) ++ f v ++ (pre ++ d.toList.flatMap f ++ post).drop (pre.length + q * sz + sz) = pre ++ (d.setIfInBounds q v).toList.flatMap f ++ post := by
    rw [Array.toList_setIfInBounds, ← e, List.append_assoc pre, List.take_length_add_append, Nat.add_assoc, List.drop_length_add_append, List.take_append_of_le_length (by omega), List.drop_append_of_le_length (by omega)]
    simp only [List.append_assoc]
  rw [e2] at h
  exact h
end
section
variable {P : Program} {ro : Option Nat} {fn nt nx : Nat} {T : Tr SV} {k : List AIt} {dfs : List ADf} {H : Heap} {Q : Pst} {ops : Array Oper} {i : Nat} {l : List Oper} {d : Option Tmp} {ty : TypeId} {pos : String} {af : Array Edge} {gd : Option (Nat × Bool)}
theorem w_makeMap {t : TypeId} {dd : Nat} (hw : wantedS T ops ⟨some dd, .makeMap t none, ty, pos, af, gd⟩ = some true) (hd : Nat.blt dd nt = true) 
    (h : Wp P ro ⟨fn, nt, T.set dd (.mp nx), .inReg ops (i + 1) l :: k, dfs, (H.set nx (.map [] 0)), (nx + 1)⟩ Q) : Wp P ro ⟨fn, nt, T, .inReg ops i (⟨some dd, .makeMap t none, ty, pos, af, gd⟩ :: l) :: k, dfs, H, nx⟩ Q :=
  y_val hw (.inr (fun _ h => by cases h)) (op_makeMap) (by rw [putS_some hd]; exact h)
theorem w_lookT {K V : Type} [DecidableEq K] {enc : K → Value} {val : V → SV} {m : List (K × V × Nat)} {c : Nat} {t kt e : TypeId} {x y : Operand} {b : Nat} {kk : K} {v : V} {dd : Nat} (hw : wantedS T ops ⟨some dd, .lookup t x y true, ty, pos, af, gd⟩ = some true) (hd : Nat.blt dd nt = true) (hx : evalS T x = some (.mp b)) (hy : evalS T y = some (.sc (enc kk))) (hu : P.underlying t = some (.map kt e)) (hE : KEnc P kt enc) (hb : H.at' b = some (mapV enc val m c)) (hg : kget m kk = some v)
    (h : Wp P ro ⟨fn, nt, T.set dd (.tup [val v, .sc (.bool true)]), .inReg ops (i + 1) l :: k, dfs, H, nx⟩ Q) : Wp P ro ⟨fn, nt, T, .inReg ops i (⟨some dd, .lookup t x y true, ty, pos, af, gd⟩ :: l) :: k, dfs, H, nx⟩ Q :=
  y_val hw (.inr (fun _ h => by cases h)) ((rd_look (ok := true) hx hy hu hE hb hg).does) (by rw [putS_some hd]; exact h)
theorem w_lookF {K V : Type} [DecidableEq K] {enc : K → Value} {val : V → SV} {m : List (K × V × Nat)} {c : Nat} {t kt e : TypeId} {x y : Operand} {b : Nat} {kk : K} {z : Value} {dd : Nat} (hw : wantedS T ops ⟨some dd, .lookup t x y true, ty, pos, af, gd⟩ = some true) (hd : Nat.blt dd nt = true) (hx : evalS T x = some (.mp b)) (hy : evalS T y = some (.sc (enc kk))) (hu : P.underlying t = some (.map kt e)) (hE : KEnc P kt enc) (hb : H.at' b = some (mapV enc val m c)) (hg : kget m kk = none) (hz : zeroT P e = some z)
    (h : Wp P ro ⟨fn, nt, T.set dd (.tup [.sc z, .sc (.bool false)]), .inReg ops (i + 1) l :: k, dfs, H, nx⟩ Q) : Wp P ro ⟨fn, nt, T, .inReg ops i (⟨some dd, .lookup t x y true, ty, pos, af, gd⟩ :: l) :: k, dfs, H, nx⟩ Q :=
  y_val hw (.inr (fun _ h => by cases h)) ((rd_lookZ (ok := true) hx hy hu hE hb hg hz).does) (by rw [putS_some hd]; exact h)
theorem w_mapUp {K V : Type} [DecidableEq K] {enc : K → Value} {val : V → SV} {m : List (K × V × Nat)} {c : Nat} {t kt e : TypeId} {x y : Operand} {b : Nat} {kk : K} {w : Operand} {v : V}  (hw : wantedS T ops ⟨none, .mapUpdate t x y w, ty, pos, af, gd⟩ = some true)  (hx : evalS T x = some (.mp b)) (hy : evalS T y = some (.sc (enc kk))) (hu : P.underlying t = some (.map kt e)) (hE : KEnc P kt enc) (hb : H.at' b = some (mapV enc val m c)) (hw2 : evalS T w = some (val v))
    (h : Wp P ro ⟨fn, nt, T, .inReg ops (i + 1) l :: k, dfs, (H.set b (mapV enc val (kput m kk v c) (kclk m kk c))), nx⟩ Q) : Wp P ro ⟨fn, nt, T, .inReg ops i (⟨none, .mapUpdate t x y w, ty, pos, af, gd⟩ :: l) :: k, dfs, H, nx⟩ Q :=
  y_none hw (.inr (fun _ h => by cases h)) (op_mapUp hx hy hu hE hb hw2) h
theorem w_range {K V : Type} [DecidableEq K] {enc : K → Value} {val : V → SV} {m : List (K × V × Nat)} {c : Nat} {t kt e : TypeId} {x : Operand} {b : Nat} {dd : Nat} (hw : wantedS T ops ⟨some dd, .range t x, ty, pos, af, gd⟩ = some true) (hd : Nat.blt dd nt = true) (hx : evalS T x = some (.mp b)) (hu : P.underlying t = some (.map kt e)) (hb : H.at' b = some (mapV enc val m c))
    (h : Wp P ro ⟨fn, nt, T.set dd (.ptr nx 0), .inReg ops (i + 1) l :: k, dfs, (H.set nx (itV b c ([] : List (K × V × Nat)))), (nx + 1)⟩ Q) : Wp P ro ⟨fn, nt, T, .inReg ops i (⟨some dd, .range t x, ty, pos, af, gd⟩ :: l) :: k, dfs, H, nx⟩ Q :=
  y_val hw (.inr (fun _ h => by cases h)) (op_range hx hu hb) (by rw [putS_some hd]; exact h)
theorem w_entry {K V : Type} [DecidableEq K] {enc : K → Value} {val : V → SV} {m : List (K × V × Nat)} {c : Nat} {it : Operand} {b r : Nat} {done : List (K × V × Nat)} {x : K × V × Nat} {dd : Nat} (hw : wantedS T ops ⟨some dd, .entry it, ty, pos, af, gd⟩ = some true) (hd : Nat.blt dd nt = true) (hx : evalS T it = some (.ptr r 0)) (hr : H.at' r = some (itV b c (done ++ [x]))) (hb : H.at' b = some (mapV enc val m c)) (hok : KOk m c) (hm : x ∈ m)
    (h : Wp P ro ⟨fn, nt, T.set dd (.tup [.sc (enc x.1), val x.2.1]), .inReg ops (i + 1) l :: k, dfs, H, nx⟩ Q) : Wp P ro ⟨fn, nt, T, .inReg ops i (⟨some dd, .entry it, ty, pos, af, gd⟩ :: l) :: k, dfs, H, nx⟩ Q :=
  y_val hw (.inr (fun _ h => by cases h)) ((rd_entry hx hr hb hok hm).does) (by rw [putS_some hd]; exact h)
theorem w_eqNil {t yt : TypeId} {x y : Operand} {s : SV} {v : Value} {d0 : TypeDesc} {dd : Nat} (hw : wantedS T ops ⟨some dd, .binOp .eql t x y yt, ty, pos, af, gd⟩ = some true) (hd : Nat.blt dd nt = true) (hx : evalS T x = some s) (hy : evalS T y = some (.sc v)) (hu : P.underlying t = some d0) (hn : isNilS s v d0 = true)
    (h : Wp P ro ⟨fn, nt, T.set dd (.sc (.bool false)), .inReg ops (i + 1) l :: k, dfs, H, nx⟩ Q) : Wp P ro ⟨fn, nt, T, .inReg ops i (⟨some dd, .binOp .eql t x y yt, ty, pos, af, gd⟩ :: l) :: k, dfs, H, nx⟩ Q :=
  y_val hw (.inr (fun _ h => by cases h)) ((rd_eqNil hx hy hu hn).does) (by rw [putS_some hd]; exact h)
theorem w_isNil {t yt : TypeId} {x y : Operand} {v : Value} {d0 : TypeDesc} {dd : Nat} (hw : wantedS T ops ⟨some dd, .binOp .eql t x y yt, ty, pos, af, gd⟩ = some true) (hd : Nat.blt dd nt = true) (hx : evalS T x = some (.sc v)) (hy : evalS T y = some (.sc v)) (hv : nilV v = true) (hu : P.underlying t = some d0) (hk : nilK v d0 = true)
    (h : Wp P ro ⟨fn, nt, T.set dd (.sc (.bool true)), .inReg ops (i + 1) l :: k, dfs, H, nx⟩ Q) : Wp P ro ⟨fn, nt, T, .inReg ops i (⟨some dd, .binOp .eql t x y yt, ty, pos, af, gd⟩ :: l) :: k, dfs, H, nx⟩ Q :=
  y_val hw (.inr (fun _ h => by cases h)) ((rd_isNil hx hy hv hu hk).does) (by rw [putS_some hd]; exact h)
theorem w_extractV {x : Operand} {j : Nat} {xs : Array Value} {v : Value} {dd : Nat} (hw : wantedS T ops ⟨some dd, .extract x j, ty, pos, af, gd⟩ = some true) (hd : Nat.blt dd nt = true) (hx : evalS T x = some (.sc (.tuple xs))) (hj : xs[j]? = some v)
    (h : Wp P ro ⟨fn, nt, T.set dd (.sc v), .inReg ops (i + 1) l :: k, dfs, H, nx⟩ Q) : Wp P ro ⟨fn, nt, T, .inReg ops i (⟨some dd, .extract x j, ty, pos, af, gd⟩ :: l) :: k, dfs, H, nx⟩ Q :=
  y_val hw (.inr (fun _ h => by cases h)) ((rd_extractV hx hj).does) (by rw [putS_some hd]; exact h)
theorem w_idxA {t e : TypeId} {x y : Operand} {b o n sz : Nat} {kd : IntKind} {j : Int} {q : Nat} {dd : Nat} (hw : wantedS T ops ⟨some dd, .indexAddr t x y, ty, pos, af, gd⟩ = some true) (hd : Nat.blt dd nt = true) (hx : evalS T x = some (.ptr b o)) (hy : evalS T y = some (.sc (.int kd j))) (hu : P.underlying t = some (.array n e)) (hs : sizeT P e = some sz) (hq : j = (q : Int)) (hi : q < n)
    (h : Wp P ro ⟨fn, nt, T.set dd (.ptr b (o + q * sz)), .inReg ops (i + 1) l :: k, dfs, H, nx⟩ Q) : Wp P ro ⟨fn, nt, T, .inReg ops i (⟨some dd, .indexAddr t x y, ty, pos, af, gd⟩ :: l) :: k, dfs, H, nx⟩ Q :=
  y_val hw (.inr (fun _ h => by cases h)) ((rd_idxA hx hy hu hs hq hi).does) (by rw [putS_some hd]; exact h)
theorem w_storeC {t bt : TypeId} {a x : Operand} {b o n : Nat} {cs vs : List SV} {v : SV}  (hw : wantedS T ops ⟨none, .store t a x, ty, pos, af, gd⟩ = some true)  (ha : evalS T a = some (.ptr b o)) (hx : evalS T x = some v) (hv : v.cells = vs) (hs : sizeT P t = some n) (hb : H.at' b = some (newCells bt cs)) (hn : vs.length = n) (ho : o + n ≤ cs.length) (h1 : allOne vs = true)
    (h : Wp P ro ⟨fn, nt, T, .inReg ops (i + 1) l :: k, dfs, (H.set b (newCells bt (cs.take o ++ vs ++ cs.drop (o + n)))), nx⟩ Q) : Wp P ro ⟨fn, nt, T, .inReg ops i (⟨none, .store t a x, ty, pos, af, gd⟩ :: l) :: k, dfs, H, nx⟩ Q :=
  y_none hw (.inr (fun _ h => by cases h)) (op_store hs ha hx hv hb hn ho h1) h
theorem w_ldFN {A : Type} [Inhabited A] {f : A → List Value} {t rt : TypeId} {x : Operand} {b o ne sz : Nat} {rr : Bool} {d : Array A} {us : List Value} {n : Nat} (q j : Nat) {dd : Nat} (hw : wantedS T ops ⟨some dd, .load t x, ty, pos, af, gd⟩ = some true) (hd : Nat.blt dd nt = true) (hx : evalS T x = some (.ptr b o)) (ha : aggSize P t = some (some n)) (hf : RecOf f sz) (hb : H.at' b = some (arr rr ne sz rt f d)) (ho : o = q * sz + j) (hi : q < d.size) (hne : d.size ≤ ne) (hv : ((f d[q]!).drop j).take n = us) (hl : us.length = n) (hj : j + n ≤ sz)
    (h : Wp P ro ⟨fn, nt, T.set dd (.agg (us.map .sc)), .inReg ops (i + 1) l :: k, dfs, H, nx⟩ Q) : Wp P ro ⟨fn, nt, T, .inReg ops i (⟨some dd, .load t x, ty, pos, af, gd⟩ :: l) :: k, dfs, H, nx⟩ Q :=
  y_val hw (.inr (fun _ h => by cases h)) ((rd_ldFN (q := q) (j := j) ha hx ho hf hb hi hne hv hl hj).does) (by rw [putS_some hd]; exact h)
theorem w_ldG {A : Type} [Inhabited A] {f : A → List Value} {x : Operand} {t rt : TypeId} {b sz o l0 : Nat} {d : Array A} {cs : List SV} (q : Nat) (pre post : List Value) {dd : Nat} (hw : wantedS T ops ⟨some dd, .load t x, ty, pos, af, gd⟩ = some true) (hd : Nat.blt dd nt = true) (hx : evalS T x = some (.ptr b o)) (ha : aggSize P t = some (some sz)) (hf : RecOf f sz) (hb : H.at' b = some (newCells rt cs)) (hcs : cs = (pre ++ d.toList.flatMap f ++ post).map .sc) (hl : pre.length = l0) (ho : o = l0 + q * sz) (hi : q < d.size)
    (h : Wp P ro ⟨fn, nt, T.set dd (.agg ((f d[q]!).map .sc)), .inReg ops (i + 1) l :: k, dfs, H, nx⟩ Q) : Wp P ro ⟨fn, nt, T, .inReg ops i (⟨some dd, .load t x, ty, pos, af, gd⟩ :: l) :: k, dfs, H, nx⟩ Q :=
  y_val hw (.inr (fun _ h => by cases h)) ((rd_ldG (q := q) hx ha hf hb hcs hl ho hi).does) (by rw [putS_some hd]; exact h)
theorem w_ldG1 {A : Type} [Inhabited A] {g : A → Value} {x : Operand} {t rt : TypeId} {b o l0 : Nat} {d : Array A} {cs : List SV} (q : Nat) (pre post : List Value) {dd : Nat} (hw : wantedS T ops ⟨some dd, .load t x, ty, pos, af, gd⟩ = some true) (hd : Nat.blt dd nt = true) (hx : evalS T x = some (.ptr b o)) (ha : aggSize P t = some none) (hg : ∀ a, (g a).oneCell' = true) (hb : H.at' b = some (newCells rt cs)) (hcs : cs = (pre ++ d.toList.flatMap (fun a => [g a]) ++ post).map .sc) (hl : pre.length = l0) (ho : o = l0 + q * 1) (hi : q < d.size)
    (h : Wp P ro ⟨fn, nt, T.set dd (.sc (g d[q]!)), .inReg ops (i + 1) l :: k, dfs, H, nx⟩ Q) : Wp P ro ⟨fn, nt, T, .inReg ops i (⟨some dd, .load t x, ty, pos, af, gd⟩ :: l) :: k, dfs, H, nx⟩ Q :=
  y_val hw (.inr (fun _ h => by cases h)) ((rd_ldG1 (q := q) hx ha hg hb hcs hl ho hi).does) (by rw [putS_some hd]; exact h)
theorem w_push {A : Type} {f : A → List Value} {xs : List A} {a : A} {t tx el : TypeId} {sz b r q : Nat} {s x : Operand} {rq : Bool} {tq : TypeId} {cs : List SV} {dd : Nat} (hw : wantedS T ops ⟨some dd, .call { callee := .builtin .append, args := #[s, x], argTypes := #[t, tx] }, ty, pos, af, gd⟩ = some true) (hd : Nat.blt dd nt = true) (hx0 : evalS T s = some (.slu r 0 xs.length)) (hx : evalS T x = some (.slu q 0 1)) (hu : P.underlying t = some (.slice el)) (hk : (∃ e', P.underlying tx = some (.slice e')) ∨ P.underlying tx = some .string) (hs : sizeT P el = some sz) (h0 : Nat.blt 0 sz = true) (hz : zeroIs P el sz = true) (hb : (P.info? el).map (·.bytes) = some b) (hro : H.at' r = some (dat false xs.length sz el (xs.flatMap f))) (hq : H.at' q = some (.row rq 1 sz tq (listC cs))) (hcs : cs = (f a).map .sc) (hf : RecOf f sz) (hm1 : (xs.length + 1) * b ≤ 140737488355328) (hm2 : xs.length + 1 ≤ 1000000000)
    (h : Wp P ro ⟨fn, nt, T.set dd (.slu nx 0 (xs ++ [a]).length), .inReg ops (i + 1) l :: k, dfs, ((H.del r).set nx (dat false (xs ++ [a]).length sz el ((xs ++ [a]).flatMap f))), (nx + 1)⟩ Q) : Wp P ro ⟨fn, nt, T, .inReg ops i (⟨some dd, .call { callee := .builtin .append, args := #[s, x], argTypes := #[t, tx] }, ty, pos, af, gd⟩ :: l) :: k, dfs, H, nx⟩ Q :=
  y_val hw (.inr (fun _ h => by cases h)) (op_push hx0 hx hu hk hs h0 hz hb hro hq hcs hf hm1 hm2) (by rw [putS_some hd]; exact h)
end
section
variable {P : Program} {nt nx : Nat} {T : Tr SV} {H : Heap} {ops : Array Oper} {i : Nat} {l : List Oper} {ty : TypeId} {pos : String} {af : Array Edge} {gd : Option (Nat × Bool)} {K : DS → Prop} {rs : List Rec} {Hs : List (Heap × Nat)} {stg : Nat}
theorem dw_mapUp {K0 V : Type} [DecidableEq K0] {enc : K0 → Value} {val : V → SV} {m : List (K0 × V × Nat)} {c : Nat} {t kt e : TypeId} {x y : Operand} {b : Nat} {kk : K0} {w : Operand} {v : V}  (hw : wantedS (onlyT T (needs ops.toList ⟨none, .mapUpdate t x y w, ty, pos, af, gd⟩)) ops ⟨none, .mapUpdate t x y w, ty, pos, af, gd⟩ = some true) (hx : evalS (onlyT T (needs ops.toList ⟨none, .mapUpdate t x y w, ty, pos, af, gd⟩)) x = some (.mp b)) (hy : evalS (onlyT T (needs ops.toList ⟨none, .mapUpdate t x y w, ty, pos, af, gd⟩)) y = some (.sc (enc kk))) (hu : P.underlying t = some (.map kt e)) (hE : KEnc P kt enc) (hb : H.at' b = some (mapV enc val m c)) (hw2 : evalS (onlyT T (needs ops.toList ⟨none, .mapUpdate t x y w, ty, pos, af, gd⟩)) w = some (val v))
    (h : DrawK P nt ops (i + 1) l ⟨T, (H.set b (mapV enc val (kput m kk v c) (kclk m kk c))), nx, ⟨i, ⟨none, .mapUpdate t x y w, ty, pos, af, gd⟩, (onlyT T (needs ops.toList ⟨none, .mapUpdate t x y w, ty, pos, af, gd⟩)), stg, true, true, undefS⟩ :: rs, ((H.set b (mapV enc val (kput m kk v c) (kclk m kk c))), nx) :: Hs, stg + 1⟩ K) : DrawK P nt ops i (⟨none, .mapUpdate t x y w, ty, pos, af, gd⟩ :: l) ⟨T, H, nx, rs, Hs, stg⟩ K :=
  dk_none hw (fun _ h => by cases h) (op_mapUp hx hy hu hE hb hw2) h
theorem dw_neNil {t yt : TypeId} {x y : Operand} {s : SV} {v : Value} {d0 : TypeDesc} {dd : Nat} (hw : wantedS (onlyT T (needs ops.toList ⟨some dd, .binOp .neq t x y yt, ty, pos, af, gd⟩)) ops ⟨some dd, .binOp .neq t x y yt, ty, pos, af, gd⟩ = some true) (hd : Nat.blt dd nt = true) (hx : evalS (onlyT T (needs ops.toList ⟨some dd, .binOp .neq t x y yt, ty, pos, af, gd⟩)) x = some s) (hy : evalS (onlyT T (needs ops.toList ⟨some dd, .binOp .neq t x y yt, ty, pos, af, gd⟩)) y = some (.sc v)) (hu : P.underlying t = some d0) (hn : isNilS s v d0 = true)
    (h : DrawK P nt ops (i + 1) l ⟨T.set dd (.sc (.bool true)), H, nx, ⟨i, ⟨some dd, .binOp .neq t x y yt, ty, pos, af, gd⟩, (onlyT T (needs ops.toList ⟨some dd, .binOp .neq t x y yt, ty, pos, af, gd⟩)), stg, false, true, (.sc (.bool true))⟩ :: rs, Hs, stg⟩ K) : DrawK P nt ops i (⟨some dd, .binOp .neq t x y yt, ty, pos, af, gd⟩ :: l) ⟨T, H, nx, rs, Hs, stg⟩ K :=
  dk_read hw hd (fun _ h => by cases h) (rd_neNil hx hy hu hn) h
theorem dw_idxA {t e : TypeId} {x y : Operand} {b o n sz : Nat} {kd : IntKind} {j : Int} {q : Nat} {dd : Nat} (hw : wantedS (onlyT T (needs ops.toList ⟨some dd, .indexAddr t x y, ty, pos, af, gd⟩)) ops ⟨some dd, .indexAddr t x y, ty, pos, af, gd⟩ = some true) (hd : Nat.blt dd nt = true) (hx : evalS (onlyT T (needs ops.toList ⟨some dd, .indexAddr t x y, ty, pos, af, gd⟩)) x = some (.ptr b o)) (hy : evalS (onlyT T (needs ops.toList ⟨some dd, .indexAddr t x y, ty, pos, af, gd⟩)) y = some (.sc (.int kd j))) (hu : P.underlying t = some (.array n e)) (hs : sizeT P e = some sz) (hq : j = (q : Int)) (hi : q < n)
    (h : DrawK P nt ops (i + 1) l ⟨T.set dd (.ptr b (o + q * sz)), H, nx, ⟨i, ⟨some dd, .indexAddr t x y, ty, pos, af, gd⟩, (onlyT T (needs ops.toList ⟨some dd, .indexAddr t x y, ty, pos, af, gd⟩)), stg, false, true, (.ptr b (o + q * sz))⟩ :: rs, Hs, stg⟩ K) : DrawK P nt ops i (⟨some dd, .indexAddr t x y, ty, pos, af, gd⟩ :: l) ⟨T, H, nx, rs, Hs, stg⟩ K :=
  dk_read hw hd (fun _ h => by cases h) (rd_idxA hx hy hu hs hq hi) h
theorem dw_ldF {A : Type} [Inhabited A] {f : A → List Value} {t rt : TypeId} {x : Operand} {b o ne sz : Nat} {rr : Bool} {d : Array A} {v : Value} (q j : Nat) {dd : Nat} (hw : wantedS (onlyT T (needs ops.toList ⟨some dd, .load t x, ty, pos, af, gd⟩)) ops ⟨some dd, .load t x, ty, pos, af, gd⟩ = some true) (hd : Nat.blt dd nt = true) (hx : evalS (onlyT T (needs ops.toList ⟨some dd, .load t x, ty, pos, af, gd⟩)) x = some (.ptr b o)) (ha : aggSize P t = some none) (hf : RecOf f sz) (hb : H.at' b = some (arr rr ne sz rt f d)) (ho : o = q * sz + j) (hi : q < d.size) (hne : d.size ≤ ne) (hv : (f d[q]!)[j]? = some v)
    (h : DrawK P nt ops (i + 1) l ⟨T.set dd (.sc v), H, nx, ⟨i, ⟨some dd, .load t x, ty, pos, af, gd⟩, (onlyT T (needs ops.toList ⟨some dd, .load t x, ty, pos, af, gd⟩)), stg, false, true, (.sc v)⟩ :: rs, Hs, stg⟩ K) : DrawK P nt ops i (⟨some dd, .load t x, ty, pos, af, gd⟩ :: l) ⟨T, H, nx, rs, Hs, stg⟩ K :=
  dk_read hw hd (fun _ h => by cases h) (rd_ldF (q := q) (j := j) ha hx ho hf hb hi hne hv) h
theorem dw_ldFN {A : Type} [Inhabited A] {f : A → List Value} {t rt : TypeId} {x : Operand} {b o ne sz : Nat} {rr : Bool} {d : Array A} {us : List Value} {n : Nat} (q j : Nat) {dd : Nat} (hw : wantedS (onlyT T (needs ops.toList ⟨some dd, .load t x, ty, pos, af, gd⟩)) ops ⟨some dd, .load t x, ty, pos, af, gd⟩ = some true) (hd : Nat.blt dd nt = true) (hx : evalS (onlyT T (needs ops.toList ⟨some dd, .load t x, ty, pos, af, gd⟩)) x = some (.ptr b o)) (ha : aggSize P t = some (some n)) (hf : RecOf f sz) (hb : H.at' b = some (arr rr ne sz rt f d)) (ho : o = q * sz + j) (hi : q < d.size) (hne : d.size ≤ ne) (hv : ((f d[q]!).drop j).take n = us) (hl : us.length = n) (hj : j + n ≤ sz)
    (h : DrawK P nt ops (i + 1) l ⟨T.set dd (.agg (us.map .sc)), H, nx, ⟨i, ⟨some dd, .load t x, ty, pos, af, gd⟩, (onlyT T (needs ops.toList ⟨some dd, .load t x, ty, pos, af, gd⟩)), stg, false, true, (.agg (us.map .sc))⟩ :: rs, Hs, stg⟩ K) : DrawK P nt ops i (⟨some dd, .load t x, ty, pos, af, gd⟩ :: l) ⟨T, H, nx, rs, Hs, stg⟩ K :=
  dk_read hw hd (fun _ h => by cases h) (rd_ldFN (q := q) (j := j) ha hx ho hf hb hi hne hv hl hj) h
theorem dw_ldG {A : Type} [Inhabited A] {f : A → List Value} {x : Operand} {t rt : TypeId} {b sz o l0 : Nat} {d : Array A} {cs : List SV} (q : Nat) (pre post : List Value) {dd : Nat} (hw : wantedS (onlyT T (needs ops.toList ⟨some dd, .load t x, ty, pos, af, gd⟩)) ops ⟨some dd, .load t x, ty, pos, af, gd⟩ = some true) (hd : Nat.blt dd nt = true) (hx : evalS (onlyT T (needs ops.toList ⟨some dd, .load t x, ty, pos, af, gd⟩)) x = some (.ptr b o)) (ha : aggSize P t = some (some sz)) (hf : RecOf f sz) (hb : H.at' b = some (newCells rt cs)) (hcs : cs = (pre ++ d.toList.flatMap f ++ post).map .sc) (hl : pre.length = l0) (ho : o = l0 + q * sz) (hi : q < d.size)
    (h : DrawK P nt ops (i + 1) l ⟨T.set dd (.agg ((f d[q]!).map .sc)), H, nx, ⟨i, ⟨some dd, .load t x, ty, pos, af, gd⟩, (onlyT T (needs ops.toList ⟨some dd, .load t x, ty, pos, af, gd⟩)), stg, false, true, (.agg ((f d[q]!).map .sc))⟩ :: rs, Hs, stg⟩ K) : DrawK P nt ops i (⟨some dd, .load t x, ty, pos, af, gd⟩ :: l) ⟨T, H, nx, rs, Hs, stg⟩ K :=
  dk_read hw hd (fun _ h => by cases h) (rd_ldG (q := q) hx ha hf hb hcs hl ho hi) h
theorem dw_ldG1 {A : Type} [Inhabited A] {g : A → Value} {x : Operand} {t rt : TypeId} {b o l0 : Nat} {d : Array A} {cs : List SV} (q : Nat) (pre post : List Value) {dd : Nat} (hw : wantedS (onlyT T (needs ops.toList ⟨some dd, .load t x, ty, pos, af, gd⟩)) ops ⟨some dd, .load t x, ty, pos, af, gd⟩ = some true) (hd : Nat.blt dd nt = true) (hx : evalS (onlyT T (needs ops.toList ⟨some dd, .load t x, ty, pos, af, gd⟩)) x = some (.ptr b o)) (ha : aggSize P t = some none) (hg : ∀ a, (g a).oneCell' = true) (hb : H.at' b = some (newCells rt cs)) (hcs : cs = (pre ++ d.toList.flatMap (fun a => [g a]) ++ post).map .sc) (hl : pre.length = l0) (ho : o = l0 + q * 1) (hi : q < d.size)
    (h : DrawK P nt ops (i + 1) l ⟨T.set dd (.sc (g d[q]!)), H, nx, ⟨i, ⟨some dd, .load t x, ty, pos, af, gd⟩, (onlyT T (needs ops.toList ⟨some dd, .load t x, ty, pos, af, gd⟩)), stg, false, true, (.sc (g d[q]!))⟩ :: rs, Hs, stg⟩ K) : DrawK P nt ops i (⟨some dd, .load t x, ty, pos, af, gd⟩ :: l) ⟨T, H, nx, rs, Hs, stg⟩ K :=
  dk_read hw hd (fun _ h => by cases h) (rd_ldG1 (q := q) hx ha hg hb hcs hl ho hi) h
theorem dw_stG {A : Type} [Inhabited A] {f : A → List Value} {a x : Operand} {v : A} {u : SV} {cs' : List SV} {t rt : TypeId} {b sz o l0 : Nat} {d : Array A} {cs : List SV} (q : Nat) (pre post : List Value)  (hw : wantedS (onlyT T (needs ops.toList ⟨none, .store t a x, ty, pos, af, gd⟩)) ops ⟨none, .store t a x, ty, pos, af, gd⟩ = some true) (hx : evalS (onlyT T (needs ops.toList ⟨none, .store t a x, ty, pos, af, gd⟩)) a = some (.ptr b o)) (hv : evalS (onlyT T (needs ops.toList ⟨none, .store t a x, ty, pos, af, gd⟩)) x = some u) (hu : u.cells = (f v).map .sc) (hs : sizeT P t = some sz) (hf : RecOf f sz) (hb : H.at' b = some (newCells rt cs)) (hcs : cs = (pre ++ d.toList.flatMap f ++ post).map .sc) (hcs' : cs' = (pre ++ (d.setIfInBounds q v).toList.flatMap f ++ post).map .sc) (hl : pre.length = l0) (ho : o = l0 + q * sz) (hi : q < d.size)
    (h : DrawK P nt ops (i + 1) l ⟨T, (H.set b (newCells rt cs')), nx, ⟨i, ⟨none, .store t a x, ty, pos, af, gd⟩, (onlyT T (needs ops.toList ⟨none, .store t a x, ty, pos, af, gd⟩)), stg, true, true, undefS⟩ :: rs, ((H.set b (newCells rt cs')), nx) :: Hs, stg + 1⟩ K) : DrawK P nt ops i (⟨none, .store t a x, ty, pos, af, gd⟩ :: l) ⟨T, H, nx, rs, Hs, stg⟩ K :=
  dk_none hw (fun _ h => by cases h) (op_stG (q := q) hx hv hu hs hf hb hcs hcs' hl ho hi) h
end
section
variable {P : Program} {ro : Option Nat} {fn nt nx : Nat} {T : Tr SV} {k : List AIt} {dfs : List ADf} {H : Heap} {Q : Pst} {ops : Array Oper} {i : Nat} {l : List Oper} {d : Option Tmp} {ty : TypeId} {pos : String} {af : Array Edge} {gd : Option (Nat × Bool)}
theorem y_next {it : Operand} {b : Bool} {outs : List Out} (hw : wantedS T ops ⟨d, .next it b, ty, pos, af, gd⟩ = some true) (ho : nextOp T H nx ⟨d, .next it b, ty, pos, af, gd⟩ = some outs)
    (h : ∀ out ∈ outs, outS P (wpr P) ro ⟨fn, nt, T, .inReg ops i (⟨d, .next it b, ty, pos, af, gd⟩ :: l) :: k, dfs, H, nx⟩ d (.inReg ops (i + 1) l :: k) out Q) :
    Wp P ro ⟨fn, nt, T, .inReg ops i (⟨d, .next it b, ty, pos, af, gd⟩ :: l) :: k, dfs, H, nx⟩ Q :=
  .step (.inr ⟨hw, .inr (fun c h => by cases h), fun K w0 e w ev hS hE => let ⟨out, hm, hd⟩ := nextOp_ok hS hE ho; ⟨out, h out hm, hd⟩⟩)
theorem w_next {K V : Type} [DecidableEq K] {enc : K → Value} {val : V → SV} {m : List (K × V × Nat)} {c : Nat} {it : Operand} {b r : Nat} {done : List (K × V × Nat)} {dd : Nat}
    (hw : wantedS T ops ⟨some dd, .next it false, ty, pos, af, gd⟩ = some true) (hd : Nat.blt dd nt = true) (hx : evalS T it = some (.ptr r 0)) (hr : H.at' r = some (itV b c done)) (hb : H.at' b = some (mapV enc val m c)) (hok : KOk m c) (hdn : done.Nodup ∧ ∀ x ∈ done, x ∈ m)
    (h1 : done.Perm m → Wp P ro ⟨fn, nt, T.set dd (.sc (.tuple #[.bool false])), .inReg ops (i + 1) l :: k, dfs, H, nx⟩ Q)
    (h2 : ∀ x ∈ m, x ∉ done → (done ++ [x]).Nodup ∧ (∀ y ∈ done ++ [x], y ∈ m) → Wp P ro ⟨fn, nt, T.set dd (.tup [.sc (.bool true), .sc (enc x.1), val x.2.1]), .inReg ops (i + 1) l :: k, dfs, H.set r (itV b c (done ++ [x])), nx⟩ Q) :
    Wp P ro ⟨fn, nt, T, .inReg ops i (⟨some dd, .next it false, ty, pos, af, gd⟩ :: l) :: k, dfs, H, nx⟩ Q := by
  have hseen : ∀ x ∈ m, ((done.map (·.2.2)).contains x.2.2 = true ↔ x ∈ done) := by
    intro x hx
    rw [List.contains_iff_mem]
    constructor
    · intro h
      obtain ⟨y, hy, he⟩ := List.mem_map.1 h
      rw [hok.eq hx (hdn.2 y hy) he.symm]
      exact hy
    · intro h
      exact List.mem_map.2 ⟨x, h, rfl⟩
  refine y_next hw (outs := ?_) ?_ ?_
  rotate_left
  · simp only [nextOp, hx, hr, hb]
    have hg : (!(done.map (·.2.2)).isEmpty && !(mapL enc val m).isEmpty && (mapL enc val m).all (fun x => Nat.ble c x.2.2)) = false := by
      cases m with
      | nil => simp
      | cons x m =>
        have := hok.lt x (by simp)
        have hb : Nat.ble c x.2.2 = false := by
          cases hh : Nat.ble c x.2.2 with
          | false => rfl
          | true => have := Nat.le_of_ble_eq_true hh; omega
        simp [hb]
    rw [hg]
    rfl
  · intro out hm
    simp only [outS] at *
    rcases List.mem_append.1 hm with hm | hm
    · cases he : (((mapL enc val m).filter fun x => !((done.map (·.2.2)).contains x.2.2)).filter fun x => Nat.blt x.2.2 c).isEmpty with
      | false => rw [he] at hm; cases hm
      | true =>
        rw [he] at hm
        simp only [cond_true, List.mem_singleton] at hm
        subst hm
        simp only [putS_some hd]
        refine h1 ?_
        refine (List.perm_ext_iff_of_nodup hdn.1 hok.nodup).2 fun x => ⟨hdn.2 x, fun hx => ?_⟩
        rw [← hseen x hx]
        cases hc : (done.map (·.2.2)).contains x.2.2 with
        | true => rfl
        | false =>
          exfalso
          have hin : (enc x.1, val x.2.1, x.2.2) ∈ ((mapL enc val m).filter fun x => !((done.map (·.2.2)).contains x.2.2)).filter fun x => Nat.blt x.2.2 c := by
            refine List.mem_filter.2 ⟨List.mem_filter.2 ⟨List.mem_map.2 ⟨x, hx, rfl⟩, by simp only [hc]; rfl⟩, ?_⟩
            exact Nat.ble_eq_true_of_le (hok.lt x hx)
          have := List.isEmpty_iff.1 he
          rw [this] at hin
          cases hin
    · obtain ⟨y, hy, rfl⟩ := List.mem_map.1 hm
      have hy' : y ∈ (mapL enc val m).filter fun x => !((done.map (·.2.2)).contains x.2.2) := by
        rcases List.mem_append.1 hy with hy | hy
        · exact (List.mem_filter.1 hy).1
        · exact (List.mem_filter.1 hy).1
      obtain ⟨hy1, hy2⟩ := List.mem_filter.1 hy'
      obtain ⟨x, hx, rfl⟩ := List.mem_map.1 hy1
      simp only [putS_some hd]
      have hnd : x ∉ done := by
        intro h
        rw [(hseen x hx).2 h] at hy2
        cases hy2
      have := h2 x hx hnd ⟨by rw [List.nodup_append]; exact ⟨hdn.1, by simp, fun a ha b hb => by simp at hb; subst hb; intro e; subst e; exact hnd ha⟩, fun y hy => by
        rcases List.mem_append.1 hy with hy | hy
        · exact hdn.2 y hy
        · simp at hy; subst hy; exact hx⟩
      have e : itV b c (done ++ [x]) = .iter (some b) c (done.map (·.2.2) ++ [x.2.2]) c := by unfold itV; rw [List.map_append]; rfl
      rw [e] at this
      exact this
theorem ren_map {K V : Type} {enc : K → Value} {val : V → SV} {m : List (K × V × Nat)} {c : Nat} {ρ : Nat → Nat} (hc : ∀ v, (val v).ren ρ = val v) : (mapV enc val m c).ren ρ = mapV enc val m c := by
  simp only [mapV, mapL, VO.ren, renM, List.map_map]
  congr 1
  refine List.map_congr_left fun x _ => ?_
  simp only [Function.comp_apply, hc]
theorem at_map {K V : Type} {H : Heap} {n : Nat} {enc : K → Value} {val : V → SV} {m : List (K × V × Nat)} {c : Nat} {ρ : Nat → Nat} (hc : ∀ v, (val v).ren ρ = val v) (h : H.at' n = some (mapV enc val m c)) : H.at' n = some ((mapV enc val m c).ren ρ) := by rw [ren_map hc]; exact h
theorem renL_sc (ρ : Nat → Nat) : ∀ vs : List Value, SV.renL ρ (vs.map .sc) = vs.map .sc
  | [] => rfl
  | v :: vs => by rw [List.map_cons, SV.renL, renL_sc ρ vs]; rfl
theorem ren_scs {t : TypeId} {vs : List Value} {ρ : Nat → Nat} : (newCells t (vs.map .sc)).ren ρ = newCells t (vs.map .sc) := by rw [ren_box, renL_sc]
theorem at_scs {H : Heap} {n : Nat} {t : TypeId} {vs : List Value} {ρ : Nat → Nat} (h : H.at' n = some (newCells t (vs.map .sc))) : H.at' n = some ((newCells t (vs.map .sc)).ren ρ) := by rw [ren_scs]; exact h
theorem St.loopLess {K : Zone} {w0 w : World} {e : Env} {n : Nat} {st : LoopState} {pend : Option Code} {f2 nt2 : Nat} {T2 T3 : Tr SV} {ps : Array Tmp} {as1 bd : Code} {dr : Nat} (hl : T3.le T2)
    (hS : St K w0 e (H.set n (.loop st pend f2 nt2 T2 ps as1 bd dr)) nx w) : St K w0 e (H.set n (.loop st pend f2 nt2 T3 ps as1 bd dr)) nx w := by
  have key : ∀ id vo, (H.set n (.loop st pend f2 nt2 T3 ps as1 bd dr)).at' id = some vo → ∃ vo', (H.set n (.loop st pend f2 nt2 T2 ps as1 bd dr)).at' id = some vo' ∧ vo'.ro = vo.ro ∧ ∀ x, Lies K w e vo' x → Lies K w e vo x := by
    intro id vo hv
    rcases Tr.at_set hv with ⟨rfl, rfl⟩ | ⟨hne, hv⟩
    · refine ⟨_, Tr.at_set_same _ _ _, rfl, fun x hx => ?_⟩
      rcases hx with ⟨h0, o, h1, h2, tmps, y, h3, h4, h5⟩ | ⟨_, _, _, _, _, h, _⟩
      · exact .inl ⟨h0, o, h1, h2, tmps, y, h3, h4.less hl, h5⟩
      · cases h
    · exact ⟨vo, by rw [Tr.at_set_other _ _ hne]; exact hv, rfl, fun x hx => hx⟩
  refine ⟨hS.below, fun id vo hv => ?_, fun id id' vo vo' x x' h1 h2 h3 h4 h5 h6 h7 h8 h9 => ?_, hS.fresh⟩
  · obtain ⟨vo', g1, _, g3⟩ := key id vo hv
    obtain ⟨x, hx, hl⟩ := hS.rel id vo' g1
    exact ⟨x, hx, g3 x hl⟩
  · obtain ⟨u, g1, g2, _⟩ := key id vo h1
    obtain ⟨u', g1', g2', _⟩ := key id' vo' h2
    exact hS.inj _ _ _ _ _ _ g1 g1' h3 h4 h5 h6 h7 (by rw [g2]; exact h8) (by rw [g2']; exact h9)
theorem Fnc.weak {f : FuncId} {args : List SV} {H H' : Heap} {nx : Nat} {Q : Pst} (hs : ∀ K w0 e w, St K w0 e H nx w → St K w0 e H' nx w) (h : Fnc P f args H' nx Q) : Fnc P f args H nx Q := by
  unfold Fnc callS at h ⊢
  rcases h with ⟨h0, v, r, h1, h2, h3⟩ | h
  · exact .inl ⟨h0, v, r, h1, h2, fun K w0 e w hS => h3 K w0 e w (hs _ _ _ _ hS)⟩
  · refine .inr ?_
    split at h
    · rename_i c hb
      exact ⟨fun K w0 e w tmps todo ds kd rof cs a b c d f => h.run K w0 e w tmps todo ds kd rof cs (hs _ _ _ _ a) b c d f⟩
    · exact h.elim
theorem y_rangeFunc {fo : Operand} {ps : Array Tmp} {as1 bd : Code} {g : FuncId} {a b : List SV} {sf : SV} (sl : List (Nat × SV)) (hf : evalS T fo = some sf) (ht : fnTarget sf = some (g, a, b)) (hg : mayEnter P g = true) (hsl : ∀ n x, (slT sl).at' n = some x → T.at' n = some x)
    (h : ∀ as' bd', as' = as1 → bd' = bd → Fnc P g (a ++ [.yld (nx + 1)] ++ b) ((H.set nx (.dfd (some []))).set (nx + 1) (.loop .ready none fn nt (slT sl) ps as' bd' nx)) (nx + 1 + 1) (fun r => Wp P none ⟨fn, nt, T, .endRange (nx + 1) :: k, .taken nx :: dfs, r.2.1, r.2.2⟩ Q)) :
    Wp P none ⟨fn, nt, T, .code (.rangeFunc fo ps as1 bd) :: k, dfs, H, nx⟩ Q :=
  .step ⟨nx, H.set nx (.dfd (some [])), nx + 1, [.taken nx], sf, g, a, b, rfl, hf, ht, hg, Fnc.weak (fun K w0 e w hS => hS.loopLess hsl) (h _ _ rfl rfl)⟩
theorem y_cast {a b : Code} (h : a = b) (hw : Wp P ro ⟨fn, nt, T, .code b :: k, dfs, H, nx⟩ Q) : Wp P ro ⟨fn, nt, T, .code a :: k, dfs, H, nx⟩ Q := h ▸ hw
theorem y_endRange {n : Nat} {st : LoopState} {pend : Option Code} {f2 nt2 : Nat} {T2 : Tr SV} {ps : Array Tmp} {as1 bd : Code} {dr : Nat} (hl : H.at' n = some (.loop st pend f2 nt2 T2 ps as1 bd dr)) (hs : st ≠ .busy)
    (h : Wp P ro ⟨fn, nt, T, withPend pend k, dfs, H.set n (.loop .exhausted pend f2 nt2 T2 ps as1 bd dr), nx⟩ Q) : Wp P ro ⟨fn, nt, T, .endRange n :: k, dfs, H, nx⟩ Q := by
  refine .step ?_
  simp only [stepS, hl]
  exact ⟨hs, h⟩
theorem y_begin {n : Nat} {pend : Option Code} {f2 nt2 : Nat} {T2 : Tr SV} {ps : Array Tmp} {as1 bd : Code} {dr : Nat} (hl : H.at' n = some (.loop .ready pend f2 nt2 T2 ps as1 bd dr))
    (h : Wp P (some n) ⟨fn, nt, T, k, dfs, H.set n (.loop .busy pend f2 nt2 T2 ps as1 bd dr), nx⟩ Q) : Wp P (some n) ⟨fn, nt, T, .beginRound :: k, dfs, H, nx⟩ Q := by
  refine .step ?_
  simp only [stepS, hl]
  exact ⟨trivial, h⟩
theorem y_roundEnd {n : Nat} {st : LoopState} {pend : Option Code} {f2 nt2 : Nat} {T2 : Tr SV} {ps : Array Tmp} {as1 bd : Code} {dr : Nat} (hl : H.at' n = some (.loop st pend f2 nt2 T2 ps as1 bd dr))
    (h : Q (.sc (.bool true), H.set n (.loop .ready none f2 nt2 T2 ps as1 bd dr), nx)) : Wp P (some n) ⟨fn, nt, T, [], dfs, H, nx⟩ Q := by
  refine .step ?_
  simp only [stepS, leaveR, leaveS, hl]
  exact h
theorem w_round {x : Operand} {as1 : List Operand} {ats : Array TypeId} {args : List SV} {n dd : Nat} {st : LoopState} {pend : Option Code} {f2 nt2 : Nat} {T2 : Tr SV} {ps : Array Tmp} {as2 bd : Code} {dr : Nat}
    (hw : wantedS T ops ⟨some dd, .call { callee := .value x, args := as1.toArray, argTypes := ats }, ty, pos, af, gd⟩ = some true) (hd : Nat.blt dd nt = true) (hx : evalS T x = some (.yld n)) (ha : evalL T as1 = some args) (hl : H.at' n = some (.loop st pend f2 nt2 T2 ps as2 bd dr)) (hp : Nat.beq ps.size args.length = true)
    (h : Wp P (some n) ⟨f2, nt2, (ps.toList.zip args).foldl (fun T x => putS nt2 T (some x.1) x.2) T2, [.code as2, .beginRound, .code bd], [], H, nx⟩ (fun r => Wp P ro ⟨fn, nt, T.set dd r.1, .inReg ops (i + 1) l :: k, dfs, r.2.1, r.2.2⟩ Q)) :
    Wp P ro ⟨fn, nt, T, .inReg ops i (⟨some dd, .call { callee := .value x, args := as1.toArray, argTypes := ats }, ty, pos, af, gd⟩ :: l) :: k, dfs, H, nx⟩ Q := by
  refine .step (.inr ⟨hw, .inr (fun c hc => by cases hc), OpDoes.any (out := (.round n args, H, nx)) ?_ ?_⟩)
  · intro K w0 e w ev hS hE
    refine effOp_ok hS hE ?_
    unfold effOp
    simp only [callTarget, ha, hx, Option.map_some]
  · simp only [outS, roundS, hl, putS_some hd]
    exact ⟨hp, h⟩
def SameO (ρ : Nat → Nat) : List (Option VO) → List (Option VO) → Prop
  | [], [] => True
  | none :: l, none :: m => SameO ρ l m
  | some vo :: l, some vo' :: m => vo.ren ρ = vo' ∧ SameO ρ l m
  | _, _ => False
theorem SameO.map {ρ : Nat → Nat} : ∀ {l m : List (Option VO)}, SameO ρ l m → l.map (Option.map (VO.ren ρ)) = m
  | [], [], _ => rfl
  | none :: l, none :: m, h => by simp only [List.map_cons, Option.map_none, SameO.map (l := l) (m := m) h]
  | some vo :: l, some vo' :: m, h => by simp only [List.map_cons, Option.map_some, h.1, SameO.map h.2]
  | [], _ :: _, h => by simp [SameO] at h
  | none :: _, some _ :: _, h => by simp [SameO] at h
  | some _ :: _, none :: _, h => by simp [SameO] at h
  | none :: _, [], h => by simp [SameO] at h
  | some _ :: _, [], h => by simp [SameO] at h
theorem wrO_wrL2 {ρ : Nat → Nat} : ∀ (L : List Nat) (l : List (Option VO)) (i : Nat) (H : Heap), (∀ j, j < L.length → ρ (i + j) = L.getD j 0) → l.length = L.length → wrO ρ H i l = wrL L H l
  | [], [], i, H, _, _ => rfl
  | [], _ :: _, i, H, _, h => by simp at h
  | _ :: _, [], i, H, _, h => by simp at h
  | b :: L, o :: l, i, H, he, hl => by
    have e0 : ρ i = b := by simpa using he 0 (by simp)
    have et : ∀ j, j < L.length → ρ (i + 1 + j) = L.getD j 0 := fun j hj => by
      have := he (j + 1) (by simpa using hj)
      rw [show i + 1 + j = i + (j + 1) by omega, this]
      simp
    cases o with
    | none => simp only [wrO, wrL, e0]; exact wrO_wrL2 L l (i + 1) _ et (by simpa using hl)
    | some vo => simp only [wrO, wrL, e0]; exact wrO_wrL2 L l (i + 1) _ et (by simpa using hl)
theorem Ctr.callX {f : FuncId} {args0 args : List SV} {pre : List VO} {Q0 : Cz → Prop} (h : Ctr P f args0 pre Q0) (L : List Nat) {Q : Pst} (hlen : L.length = pre.length) (hL : ExtOk L nx) (ha : args = args0.map (SV.ren (ext L nx))) (hp : HasO (ext L nx) H 0 (pre.map some))
    (hQ : ∀ c, Q0 c → ∃ v m L2 objs, L2 = L ++ (List.range m).map (fun i => nx + i) ∧ SameO (ext L nx) c.objs objs ∧ objs.length = L2.length ∧ c.v.ren (ext L nx) = v ∧ Q (v, wrL L2 H objs, nx + m)) : Fnc P f args H nx Q := by
  refine h.call L hlen hL ha hp fun c hc hpl => ?_
  obtain ⟨v, m, L2, objs, e1, e2, e3, e4, hq⟩ := hQ c hc
  have hlo : c.objs.length = objs.length := by rw [← e2.map, List.length_map]
  have hl2 : L2.length = L.length + m := by rw [e1]; simp
  rw [e2.map, e4, wrO_wrL2 (ρ := ext L nx) L2 objs 0 H (fun j hj => ?_) e3, show nx + (c.objs.length - pre.length) = nx + m by omega]
  · exact hq
  · rw [Nat.zero_add]
    by_cases hjl : j < L.length
    · rw [ext_lt hjl, e1]
      simp only [List.getD_eq_getElem?_getD]
      rw [List.getElem?_append_left hjl]
    · rw [ext_ge (by omega), e1]
      simp only [List.getD_eq_getElem?_getD]
      rw [List.getElem?_append_right (by omega), List.getElem?_map, List.getElem?_range (by omega)]
      rfl
theorem Ctr.callY {f : FuncId} {args0 args : List SV} {pre : List VO} {c : Cz} (h : Ctr P f args0 pre (fun c' => c' = c)) (L L2 : List Nat) (m : Nat) (objs : List (Option VO)) {v : SV} {H' : Heap} {nx' : Nat} (hlen : L.length = pre.length) (hL : ExtOk L nx) (ha : args = args0.map (SV.ren (ext L nx))) (hp : HasO (ext L nx) H 0 (pre.map some))
    (e1 : L2 = L ++ (List.range m).map (fun i => nx + i)) (e2 : SameO (ext L nx) c.objs objs) (e3 : objs.length = L2.length) (e4 : c.v.ren (ext L nx) = v) (e5 : wrL L2 H objs = H') (e6 : nx + m = nx') : Fnc P f args H nx (fun r => r = (v, H', nx')) :=
  h.callX L hlen hL ha hp (by rintro _ rfl; exact ⟨v, m, L2, objs, e1, e2, e3, e4, by rw [e5, e6]⟩)
theorem ren_boxT {ρ : Nat → Nat} {t : TypeId} {l l' : List SV} (h : SV.renL ρ l = l') : (newCells t l).ren ρ = newCells t l' := by rw [ren_box, h]
theorem Ctr.at {f : FuncId} {args : List SV} {pre : List VO} {Q : Cz → Prop} (n : Nat) (hn : pre.length = n) (h : Fnc P f args (heapOf pre) n (fun r => ∃ c, Q c ∧ Ends n c r)) : Ctr P f args pre Q := by
  subst hn
  exact h
theorem y_loopT {α : Type} {b : Code} (sl : α → List (Nat × SV)) (I : α → Heap → Nat → Prop) (μ : α → Nat) (a0 : α) (h0 : I a0 H nx) (hs : ∀ n x, (slT (sl a0)).at' n = some x → T.at' n = some x)
    (body : ∀ a H nx, I a H nx → (∀ T' H' nx' a', I a' H' nx' → μ a' < μ a → (∀ n x, (slT (sl a')).at' n = some x → T'.at' n = some x) → Wp P ro ⟨fn, nt, T', .inLoop b :: k, dfs, H', nx'⟩ Q) →
      Wp P ro ⟨fn, nt, slT (sl a), .code b :: .inLoop b :: k, dfs, H, nx⟩ Q) : Wp P ro ⟨fn, nt, T, .code (.loop b) :: k, dfs, H, nx⟩ Q := by
  have main : ∀ m a H nx, μ a = m → I a H nx → Wp P ro ⟨fn, nt, slT (sl a), .code b :: .inLoop b :: k, dfs, H, nx⟩ Q := by
    intro m
    induction m using Nat.strongRecOn with
    | _ m ih =>
      intro a H nx hm ha
      refine body a H nx ha fun T' H' nx' a' ha' hlt hs' => y_again ?_
      exact Wp.less (ih (μ a') (by omega) a' H' nx' rfl ha') hs' (Tr.le_refl _)
  exact y_unroll (Wp.less (main _ a0 H nx rfl h0) hs (Tr.le_refl _))
def SlIn (T : Tr SV) : List (Nat × SV) → Prop
  | [] => True
  | (t, s) :: l => T.at' t = some s ∧ SlIn T l
theorem SlIn.sub {T : Tr SV} : ∀ {l : List (Nat × SV)}, SlIn T l → ∀ n x, (slT l).at' n = some x → T.at' n = some x
  | [], _, n, x, h => by rw [slT, Tr.at_nil] at h; cases h
  | (t0, s0) :: l, hh, n, x, h => by
    rcases Tr.at_set h with ⟨rfl, rfl⟩ | ⟨_, h⟩
    · exact hh.1
    · exact SlIn.sub hh.2 n x h
theorem lv_takens {rs : List Nat} (hr : ∀ r ∈ rs, H.at' r = some (.dfd (some []))) (hnd : rs.Nodup) (h : ∀ H', (∀ n, n ∉ rs → H'.at' n = H.at' n) → Lv P ⟨fn, nt, T, k, dfs, H', nx⟩ Q) : Lv P ⟨fn, nt, T, k, rs.map .taken ++ dfs, H, nx⟩ Q := by
  induction rs generalizing H with
  | nil => exact h H fun _ _ => rfl
  | cons r rs ih =>
    refine lv_taken (hr r (by simp)) ?_
    rw [List.nil_append]
    rw [List.nodup_cons] at hnd
    refine ih (fun r' hr' => ?_) hnd.2 fun H' hH' => h H' fun n hn => ?_
    · rw [Tr.at_set_other _ _ (by intro e; subst e; exact hnd.1 hr')]
      exact hr r' (List.mem_cons_of_mem _ hr')
    · rw [List.mem_cons, not_or] at hn
      rw [hH' n hn.2, Tr.at_set_other _ _ hn.1]
theorem y_retT {rl : List ResultVar} {F : Func} (hf : P.funcs[fn]? = some F) (hl : F.results.toList = rl) {rs : List Nat} (hdf : dfs = rs.map .taken) (hr : ∀ r ∈ rs, H.at' r = some (.dfd (some []))) (hnd : rs.Nodup)
    (h : ∀ H', (∀ n, n ∉ rs → H'.at' n = H.at' n) → ∃ vs, ResIs P H' T rl vs ∧ Q (valueOf vs, H', nx)) : Wp P none ⟨fn, nt, T, .code .ret :: k, dfs, H, nx⟩ Q := by
  subst hdf
  refine y_retD ?_
  have := lv_takens (P := P) (fn := fn) (nt := nt) (nx := nx) (T := T) (k := .code .ret :: k) (dfs := []) (Q := Q) hr hnd fun H' hH' => by
    obtain ⟨vs, h1, h2⟩ := h H' hH'
    exact lv_end (by simp only [resultsOf, hf, hl]) h1.res h2
  simpa using this
end
end Go.Sy
end
section
namespace Go.Proofs.Ytfkfiafohcoomaa
open Go Go.Sy Go.Sl Go.RowKit
abbrev mkE : Int → Value := fun n => .int .i64 n
abbrev mkV : Int × Int → SV := fun a => plS a
abbrev MkL := List (Int × (Int × Int) × Nat)
abbrev marksV (m : MkL) (c : Nat) : VO := mapV mkE mkV m c
abbrev tPl : Nat := 25
theorem nodup_len {A : Type} : ∀ (l m : List A), l.Nodup → (∀ x ∈ l, x ∈ m) → l.length ≤ m.length
  | [], m, _, _ => Nat.zero_le _
  | x :: l, m, hn, hs => by
    obtain ⟨a, b, rfl⟩ := List.append_of_mem (hs x (by simp))
    rw [List.nodup_cons] at hn
    have := nodup_len l (a ++ b) hn.2 fun y hy => by
      have := hs y (List.mem_cons_of_mem _ hy)
      rcases List.mem_append.1 this with h | h
      · exact List.mem_append_left _ h
      · rcases List.mem_cons.1 h with rfl | h
        · exact absurd hy hn.1
        · exact List.mem_append_right _ h
    simp only [List.length_cons, List.length_append] at this ⊢
    omega
set_option maxRecDepth 100000 in
set_option maxHeartbeats 0 in
theorem collect_spec (m : MkL) (c : Nat) (hok : KOk m c) (hl : m.length < 1000) :
    Ctr Try.prog 34 [.fn (.func 47) [] [.ptr 0 0]] [newCells 63 [.mp 1], marksV m c]
      (fun cz => ∃ done : MkL, done.Perm m ∧ cz = ⟨.slu 2 0 (done.map (·.2.1)).length, [some (newCells 63 [.mp 1]), some (marksV m c), some (plR false (done.map (·.2.1)))]⟩) := by
  refine Ctr.at 2 rfl ?_
  refine Fnc.start Try.func34 rfl rfl ?_
  (repeat (first | refine y_seq ?_ | refine w_region ?_ | refine y_regEnd ?_ | refine w_move rfl rfl rfl ?_ | refine w_assign rfl rfl rfl ?_))
  refine w_call rfl rfl rfl (by kernel_rfl) ?_
  refine Fnc.start Try.func46 rfl rfl ?_
  refine y_nilRow (d := 0) 2 tPl rfl rfl ?_
  (repeat (first | refine y_seq ?_ | refine w_region ?_ | refine y_regEnd ?_ | refine y_block ?_ | refine w_move rfl rfl rfl ?_ | refine w_assign rfl rfl rfl ?_ | refine w_box rfl rfl rfl rfl ?_))
  refine y_rangeFunc [(2, .ptr 3 0)] rfl rfl (by kernel_rfl) (SlIn.sub ⟨rfl, trivial⟩) ?_
  intro cA cB hcA hcB
  refine Fnc.start Try.func47 rfl rfl ?_
  (repeat (first | (first | refine y_seq ?_ | refine w_region ?_ | refine y_regEnd ?_ | refine y_block ?_ | refine w_loadB1 rfl rfl rfl (F.ag _ rfl) rfl rfl ?_) | (refine w_range (m := m) (enc := mkE) (val := mkV) rfl rfl rfl (F.un _ rfl) rfl ?_)))
  refine y_loopT (α := MkL) (fun _ => [(0, .yld 5), (1, .ptr 0 0), (6, .ptr 6 0)]) (fun done H nx => (done.Nodup ∧ ∀ x ∈ done, x ∈ m) ∧ 7 ≤ nx ∧ H.at' 0 = some (newCells 63 [.mp 1]) ∧ H.at' 1 = some (marksV m c) ∧ H.at' 4 = some (.dfd (some [])) ∧ H.at' 5 = some (.loop .ready none 46 13 (slT [(2, .ptr 3 0)]) #[7] cA cB 4)
      ∧ H.at' 6 = some (itV 1 c done) ∧ ∃ r, r < nx ∧ (r = 2 ∨ 7 ≤ r) ∧ H.at' 3 = some (newCells 22 [.slu r 0 (done.map (·.2.1)).length]) ∧ H.at' r = some (plR false (done.map (·.2.1)))) (fun done => m.length - done.length) []
    ⟨⟨List.nodup_nil, fun _ h => by cases h⟩, Nat.le_refl _, rfl, rfl, rfl, rfl, rfl, 2, (show 2 < 7 by decide), .inl rfl, rfl, rfl⟩ (SlIn.sub ⟨rfl, rfl, rfl, trivial⟩) ?_
  rintro done H nx ⟨hdn, hnx, h0, h1, h4, h5, h6, r, hr, hr2, h3, hrow⟩ ih
  have hlen := nodup_len done m hdn.1 hdn.2
  (repeat (first | refine y_seq ?_ | refine w_region ?_))
  refine w_next (b := 1) (m := m) (c := c) (enc := mkE) (val := mkV) (done := done) rfl rfl rfl ?_ ?_ hok hdn ?_ ?_
  · (focus (skip; first | exact Tr.at_set_same _ _ _ | assumption))
  · (focus (skip; first | exact Tr.at_set_same _ _ _ | assumption))
  · intro hp
    (repeat (first | refine y_seq ?_ | refine y_regEnd ?_ | refine y_exit rfl ?_ | refine y_condF rfl ?_ | refine w_extractV rfl rfl rfl rfl ?_))
    apply w_end Try.func47 (congrArg Array.toList Try.results47) ResIs.nil
    dsimp only
    refine y_endRange h5 (fun h => by cases h) ?_
    (repeat (first | refine y_seq ?_ | refine w_region ?_ | refine y_regEnd ?_ | refine y_inBlock ?_ | refine w_assign rfl rfl rfl ?_ | refine w_loadB1 rfl rfl rfl (F.ag _ rfl) (by (focus ((repeat (refine (Tr.at_set_other _ _ (by omega)).trans ?_)); first | exact Tr.at_set_same _ _ _ | assumption))) (by exact rfl) ?_))
    refine y_retT Try.func46 (congrArg Array.toList Try.results46) (rs := [4]) rfl (fun r hr => by rw [List.mem_singleton] at hr; subst hr; (focus ((repeat (refine (Tr.at_set_other _ _ (by omega)).trans ?_)); first | exact Tr.at_set_same _ _ _ | assumption))) (by simp) ?_
    intro H1 hH1
    refine ⟨_, (by (repeat (first | exact ResIs.nil | apply ResIs.tmp rfl))), ?_⟩
    dsimp only
    (repeat (first | refine y_regEnd ?_ | refine w_assign rfl rfl rfl ?_))
    apply w_ret Try.func34 (congrArg Array.toList Try.results34)
    · (repeat (first | exact ResIs.nil | apply ResIs.tmp rfl))
    refine ⟨_, ⟨done, hp, rfl⟩, Ends.mk [r] ⟨by intro n hn; simp [nms, List.range_succ] at hn; omega, by simp [nms, List.range_succ]; omega⟩ rfl rfl ⟨at_box ?_, at_map (fun _ => rfl) ?_, at_dat ?_, trivial⟩⟩
    · exact (hH1 0 (by simp)).trans (by (focus ((repeat (refine (Tr.at_set_other _ _ (by omega)).trans ?_)); first | exact Tr.at_set_same _ _ _ | assumption)))
    · exact (hH1 1 (by simp)).trans (by (focus ((repeat (refine (Tr.at_set_other _ _ (by omega)).trans ?_)); first | exact Tr.at_set_same _ _ _ | assumption)))
    · exact (hH1 r (by simp; omega)).trans (by (focus ((repeat (refine (Tr.at_set_other _ _ (by omega)).trans ?_)); first | exact Tr.at_set_same _ _ _ | assumption)))
  · intro x hx hxn hdn2
    have hlm : (done.map (·.2.1)).length = done.length := List.length_map ..
    have hlen2 := nodup_len _ m hdn2.1 hdn2.2
    rw [List.length_append, List.length_singleton] at hlen2
    (repeat (first | (first | refine y_seq ?_ | refine w_region ?_ | refine y_regEnd ?_ | refine y_block ?_ | refine y_skip ?_ | refine y_condT rfl ?_ | refine w_move rfl rfl rfl ?_ | refine w_extract rfl rfl rfl rfl ?_ | refine w_storeC rfl rfl rfl rfl (F.sz _ rfl) (by first | exact rfl | (focus (skip; first | exact Tr.at_set_same _ _ _ | assumption))) rfl (by exact Nat.le_of_ble_eq_true rfl) rfl ?_ | refine w_alloc rfl rfl (F.zl _ rfl) ?_ | refine w_loadBN rfl rfl rfl (F.ag _ rfl) (by (focus (skip; first | exact Tr.at_set_same _ _ _ | assumption))) (by exact rfl) ?_) | (refine w_entry (b := 1) (m := m) (c := c) (enc := mkE) (val := mkV) (x := x) (done := done) rfl rfl rfl ?_ ?_ hok hx ?_; (focus (skip; first | exact Tr.at_set_same _ _ _ | assumption)); (focus ((repeat (refine (Tr.at_set_other _ _ (by omega)).trans ?_)); first | exact Tr.at_set_same _ _ _ | assumption)))))
    refine w_round (n := 5) rfl rfl rfl rfl (by (focus ((repeat (refine (Tr.at_set_other _ _ (by omega)).trans ?_)); first | exact Tr.at_set_same _ _ _ | assumption))) (by exact rfl) ?_
    refine y_cast hcA ?_
    (repeat (first | refine w_region ?_ | refine y_regEnd ?_ | refine w_storeC rfl rfl rfl rfl (F.sz _ rfl) (by first | exact rfl | (focus (skip; first | exact Tr.at_set_same _ _ _ | assumption))) rfl (by exact Nat.le_of_ble_eq_true rfl) rfl ?_ | refine w_alloc rfl rfl (F.zl _ rfl) ?_))
    refine y_begin (by (focus ((repeat (refine (Tr.at_set_other _ _ (by omega)).trans ?_)); first | exact Tr.at_set_same _ _ _ | assumption))) ?_
    refine y_cast hcB ?_
    (repeat (first | (first | refine w_region ?_ | refine y_block ?_ | refine w_loadB1 rfl rfl rfl (F.ag _ rfl) (by (focus ((repeat (refine (Tr.at_set_other _ _ (by omega)).trans ?_)); first | exact Tr.at_set_same _ _ _ | assumption))) (by exact rfl) ?_ | refine w_loadBN rfl rfl rfl (F.ag _ rfl) (by (focus ((repeat (refine (Tr.at_set_other _ _ (by omega)).trans ?_)); first | exact Tr.at_set_same _ _ _ | assumption))) (by exact rfl) ?_) | refine w_buildSlice rfl rfl (F.un _ rfl) (F.sz _ rfl) rfl (F.ze _ rfl) rfl rfl rfl rfl rfl ?_))
    refine w_push (b := 16) (xs := done.map (·.2.1)) (a := x.2.1) rfl rfl rfl rfl (F.un _ rfl) (.inl ⟨_, F.un _ rfl⟩) (F.sz _ rfl) rfl (by kernel_rfl) (by kernel_rfl) (by (focus ((repeat (refine (Tr.at_set_other _ _ (by omega)).trans ?_)); first | exact Tr.at_set_same _ _ _ | assumption))) (by (focus (skip; first | exact Tr.at_set_same _ _ _ | assumption))) (by exact rfl) (recP) (by omega) (by omega) ?_
    (repeat (first | refine y_regEnd ?_ | refine y_inBlock ?_ | refine w_storeC rfl rfl rfl rfl (F.sz _ rfl) (by first | exact rfl | (focus ((repeat (first | refine (Tr.at_set_other _ _ (by omega)).trans ?_ | refine (Tr.at_del_other _ (by omega)).trans ?_)); first | exact Tr.at_set_same _ _ _ | assumption))) rfl (by exact Nat.le_of_ble_eq_true rfl) rfl ?_))
    refine y_roundEnd (by (focus ((repeat (first | refine (Tr.at_set_other _ _ (by omega)).trans ?_ | refine (Tr.at_del_other _ (by omega)).trans ?_)); first | exact Tr.at_set_same _ _ _ | assumption))) ?_
    dsimp only
    (repeat (first | refine y_regEnd ?_ | refine y_inBlock ?_ | refine y_skip ?_ | refine y_condF rfl ?_ | refine w_notB rfl rfl rfl ?_))
    have e : done.map (·.2.1) ++ [x.2.1] = (done ++ [x]).map (·.2.1) := by simp
    refine ih _ _ _ (done ++ [x]) ⟨hdn2, by omega, by (focus ((repeat (first | refine (Tr.at_set_other _ _ (by omega)).trans ?_ | refine (Tr.at_del_other _ (by omega)).trans ?_)); first | exact Tr.at_set_same _ _ _ | assumption)), by (focus ((repeat (first | refine (Tr.at_set_other _ _ (by omega)).trans ?_ | refine (Tr.at_del_other _ (by omega)).trans ?_)); first | exact Tr.at_set_same _ _ _ | assumption)), by (focus ((repeat (first | refine (Tr.at_set_other _ _ (by omega)).trans ?_ | refine (Tr.at_del_other _ (by omega)).trans ?_)); first | exact Tr.at_set_same _ _ _ | assumption)), by (focus (skip; first | exact Tr.at_set_same _ _ _ | assumption)), by (focus ((repeat (first | refine (Tr.at_set_other _ _ (by omega)).trans ?_ | refine (Tr.at_del_other _ (by omega)).trans ?_)); first | exact Tr.at_set_same _ _ _ | assumption)), nx + 1 + 1 + 1, by omega, .inr (by omega), ?_, ?_⟩ (by simp only [List.length_append, List.length_singleton]; omega) (SlIn.sub ⟨rfl, rfl, rfl, trivial⟩)
    · rw [← e]
      (focus ((repeat (refine (Tr.at_set_other _ _ (by omega)).trans ?_)); first | exact Tr.at_set_same _ _ _ | assumption))
    · rw [← e]
      (focus ((repeat (refine (Tr.at_set_other _ _ (by omega)).trans ?_)); first | exact Tr.at_set_same _ _ _ | assumption))
end Go.Proofs.Ytfkfiafohcoomaa
end
section
namespace Go.Proofs.Ytfkfiafohcoomaa
open Go Go.Sy Go.Sl Go.RowKit
theorem desc_perm {l l' : List (Int × Int)} (h : l.Perm l') : descP l = descP l' := by
  have hb : ∀ (p : Int × Int) (k : Nat), (∃ a, (descP l)[k]? = some a ∧ uptoP p a = true) ↔ ∃ a, (descP l')[k]? = some a ∧ uptoP p a = true := fun p k => by
    rw [← have_desc, ← have_desc, haveP_perm h]
  have hlen : (descP l).length = (descP l').length := by rw [desc_length, desc_length]; exact h.length_eq
  refine List.ext_getElem hlen fun k h1 h2 => ?_
  obtain ⟨a, ha, hu⟩ := (hb _ k).1 ⟨_, List.getElem?_eq_getElem h1, upto_refl _⟩
  obtain ⟨b, hb', hu'⟩ := (hb _ k).2 ⟨_, List.getElem?_eq_getElem h2, upto_refl _⟩
  rw [List.getElem?_eq_getElem h2, Option.some.injEq] at ha
  rw [List.getElem?_eq_getElem h1, Option.some.injEq] at hb'
  subst ha hb'
  exact upto_anti hu hu'
theorem leastQ_perm (k : Int) {l l' : List (Int × Int)} (h : l.Perm l') : leastQ k l = leastQ k l' := by
  unfold leastQ
  rw [desc_perm h, h.length_eq]
abbrev plcs (m : MkL) : List (Int × Int) := m.map (·.2.1)
abbrev mkB : VO := newCells 65 [.mp 1]
theorem mkK : KEnc Try.prog 3 mkE := kenc_i64 (F.un _ rfl)
set_option maxRecDepth 100000 in
theorem none_spec (m : MkL) (c : Nat) : Ctr Try.prog 33 [.ptr 0 0] [mkB, marksV m c] (fun cz => cz = ⟨.sc (.bool false), [mkB, marksV m c].map some⟩) := by
  refine Ctr.at 2 rfl ?_
  refine Fnc.start Try.func33 rfl rfl ?_
  (repeat (first | refine y_seq ?_ | refine w_region ?_ | refine y_regEnd ?_ | refine w_move rfl rfl rfl ?_ | refine w_assign rfl rfl rfl ?_ | refine w_pickF rfl rfl rfl rfl ?_ | refine w_nilCheck rfl rfl rfl ?_ | refine w_fieldAddr rfl rfl rfl (F.fo _ _ rfl rfl) ?_ | refine w_eqNil rfl rfl rfl rfl (F.un _ rfl) rfl ?_ | refine w_loadB1 rfl rfl rfl (F.ag _ rfl) rfl rfl ?_))
  (apply w_ret Try.func33 (congrArg Array.toList Try.results33); (focus (repeat (first | exact ResIs.nil | apply ResIs.tmp rfl))))
  (refine ⟨_, rfl, Ends.val (ExtOk.of rfl) rfl ?_ ?_⟩)
  · rfl
  · exact (by repeat (first | exact trivial | refine ⟨at_box rfl, ?_⟩ | refine ⟨at_map (fun _ => rfl) rfl, ?_⟩))
set_option maxRecDepth 100000 in
theorem num_spec (e : Int) : Ctr Try.prog 18 [.sc (.int .i64 e)] [] (fun cz => cz = ⟨.sc (.int .i64 e), []⟩) := by
  refine Ctr.at 0 rfl ?_
  refine Fnc.start Try.func18 rfl rfl ?_
  (repeat (first | refine y_seq ?_ | refine w_region ?_ | refine y_regEnd ?_ | refine w_move rfl rfl rfl ?_ | refine w_assign rfl rfl rfl ?_))
  (apply w_ret Try.func18 (congrArg Array.toList Try.results18); (focus (repeat (first | exact ResIs.nil | apply ResIs.tmp rfl))))
  (refine ⟨_, rfl, Ends.val (ExtOk.of rfl) rfl ?_ ?_⟩)
  · rfl
  · trivial
def tellR (m : MkL) (c : Nat) (k : Int) (p : Int × Int) : MkL × Bool × Int := match kget m k with
  | none => (m, false, 2)
  | some w => if lessP w p then (kput m k p c, true, 0) else (m, false, 0)
set_option maxRecDepth 100000 in
set_option maxHeartbeats 0 in
theorem tell_spec (m : MkL) (c : Nat) (k : Int) (p : Int × Int) : Ctr Try.prog 19 [.ptr 0 0, .sc (.int .i64 k), plS p] [mkB, marksV m c]
    (fun cz => cz = ⟨.tup [.sc (.bool (tellR m c k p).2.1), .sc (.int .i64 (tellR m c k p).2.2)], [some mkB, some (marksV (tellR m c k p).1 c)]⟩) := by
  refine Ctr.at 2 rfl ?_
  refine Fnc.start Try.func19 rfl rfl ?_
  (repeat (first | (first | refine y_seq ?_ | refine w_region ?_ | refine y_regEnd ?_ | refine y_skip ?_ | refine y_condF rfl ?_ | refine w_move rfl rfl rfl ?_ | refine w_assign rfl rfl rfl ?_ | refine w_nilCheck rfl rfl rfl ?_ | refine w_fieldAddr rfl rfl rfl (F.fo _ _ rfl rfl) ?_ | refine w_loadB1 rfl rfl rfl (F.ag _ rfl) rfl rfl ?_ | refine w_boxN rfl rfl rfl ?_) | refine w_callV (none_spec m c) [0, 1] rfl rfl rfl (by kernel_rfl) rfl (ExtOk.of rfl) rfl (by repeat (first | exact trivial | refine ⟨at_box rfl, ?_⟩ | refine ⟨at_map (fun _ => rfl) rfl, ?_⟩)) ?_))
  cases hg : kget m k with
  | none =>
    rw [show tellR m c k p = (m, false, 2) by unfold tellR; rw [hg]]
    refine w_lookF (m := m) (enc := mkE) (val := mkV) rfl rfl rfl rfl (F.un _ rfl) (mkK) (by first | exact rfl | (focus (skip; first | exact Tr.at_set_same _ _ _ | assumption))) (hg) (F.ze _ rfl) ?_
    (repeat (first | refine y_seq ?_ | refine w_region ?_ | refine y_regEnd ?_ | refine y_condT rfl ?_ | refine w_move rfl rfl rfl ?_ | refine w_assign rfl rfl rfl ?_ | refine w_extract rfl rfl rfl rfl ?_ | refine w_storeC rfl rfl rfl rfl (F.sz _ rfl) (by first | exact rfl | (focus (skip; first | exact Tr.at_set_same _ _ _ | assumption))) rfl (by exact Nat.le_of_ble_eq_true rfl) rfl ?_ | refine w_alloc rfl rfl (F.zl _ rfl) ?_ | refine w_notB rfl rfl rfl ?_))
    ((apply w_ret Try.func19 (congrArg Array.toList Try.results19)); (focus (repeat (first | exact ResIs.nil | apply ResIs.tmp rfl))); refine ⟨_, rfl, Ends.mk [] (ExtOk.of rfl) rfl rfl ?_⟩)
    exact (by repeat (first | exact trivial | refine ⟨at_box rfl, ?_⟩ | refine ⟨at_map (fun _ => rfl) rfl, ?_⟩))
  | some w =>
    have hls := less_spec w p
    refine w_lookT (m := m) (enc := mkE) (val := mkV) rfl rfl rfl rfl (F.un _ rfl) (mkK) (by first | exact rfl | (focus (skip; first | exact Tr.at_set_same _ _ _ | assumption))) (hg) ?_
    cases hb : lessP w p
    all_goals rw [hb] at hls
    all_goals (repeat (first | (first | refine y_seq ?_ | refine w_region ?_ | refine y_regEnd ?_ | refine y_skip ?_ | refine y_condT rfl ?_ | refine y_condF rfl ?_ | refine w_move rfl rfl rfl ?_ | refine w_assign rfl rfl rfl ?_ | refine w_extract rfl rfl rfl rfl ?_ | refine w_storeC rfl rfl rfl rfl (F.sz _ rfl) (by first | exact rfl | (focus (skip; first | exact Tr.at_set_same _ _ _ | assumption))) rfl (by exact Nat.le_of_ble_eq_true rfl) rfl ?_ | refine w_loadBN rfl rfl rfl (F.ag _ rfl) rfl rfl ?_ | refine w_alloc rfl rfl (F.zl _ rfl) ?_ | refine w_notB rfl rfl rfl ?_) | refine w_callV (hls) [] rfl rfl rfl (by kernel_rfl) rfl (ExtOk.of rfl) rfl trivial ?_))
    · rw [show tellR m c k p = (m, false, 0) by unfold tellR; rw [hg]; simp only [hb]; rfl]
      ((apply w_ret Try.func19 (congrArg Array.toList Try.results19)); (focus (repeat (first | exact ResIs.nil | apply ResIs.tmp rfl))); refine ⟨_, rfl, Ends.mk [] (ExtOk.of rfl) rfl rfl ?_⟩)
      exact (by repeat (first | exact trivial | refine ⟨at_box rfl, ?_⟩ | refine ⟨at_map (fun _ => rfl) rfl, ?_⟩))
    · rw [show tellR m c k p = (kput m k p c, true, 0) by unfold tellR; rw [hg]; simp only [hb]; rfl]
      have hc : kclk m k c = c := by unfold kclk; rw [hg]
      refine w_draw (by kernel_rfl) (by kernel_rfl) ?_
      (repeat (first | (first | refine dw_move rfl rfl rfl ?_ | refine dw_nilCheck rfl rfl rfl ?_ | refine dw_fieldAddr rfl rfl rfl (F.fo _ _ rfl rfl) ?_ | refine dw_loadB1 rfl rfl rfl (F.ag _ rfl) rfl rfl ?_ | refine dw_loadBN rfl rfl rfl (F.ag _ rfl) rfl rfl ?_) | refine dw_mapUp (m := m) (enc := mkE) (val := mkV) (kk := k) (v := p) rfl rfl rfl (F.un _ rfl) (mkK) (by first | exact rfl | (focus (skip; first | exact Tr.at_set_same _ _ _ | assumption))) rfl ?_))
      (refine dk_nil ?_); (refine ⟨by kernel_rfl, ?_, ?_⟩); (focus (repeat (first | exact trivial | refine ⟨.inl rfl, ?_⟩ | refine ⟨.inr (by (repeat (refine ⟨(by first | exact rd_idxN (F.un _ rfl) (F.sz _ rfl) rfl rfl rfl (by omega) (by omega) (by omega) | exact rd_arith rfl rfl (.inl ⟨rfl, (Go.IntWalk.i64_in _ ⟨by omega, by omega⟩).symm⟩) | exact rd_arith rfl rfl (.inr (.inl ⟨rfl, (Go.IntWalk.i64_in _ ⟨by omega, by omega⟩).symm⟩)) | exact rd_fieldAddr (F.fo _ _ rfl rfl) rfl | exact rd_move rfl | exact rd_assign rfl | exact rd_load1 (F.ag _ rfl) rfl rfl (cell_box rfl) | exact rd_loadN (F.ag _ rfl) rfl rfl (cellsFrom_box _ 0 rfl rfl) | exact rd_extract rfl rfl | exact rd_lenSl (F.un _ rfl) rfl | exact rd_lenStr (F.un _ rfl) rfl | exact rd_nilCheck rfl | exact rd_pickT rfl rfl | exact rd_pickF rfl rfl), ?_⟩)); exact trivial), ?_⟩)))
      (repeat (first | refine y_seq ?_ | refine w_region ?_ | refine y_regEnd ?_ | refine w_assign rfl rfl rfl ?_))
      rw [hc]
      ((apply w_ret Try.func19 (congrArg Array.toList Try.results19)); (focus (repeat (first | exact ResIs.nil | apply ResIs.tmp rfl))); refine ⟨_, rfl, Ends.mk [] (ExtOk.of rfl) rfl rfl ?_⟩)
      exact (by repeat (first | exact trivial | refine ⟨at_box rfl, ?_⟩ | refine ⟨at_map (fun _ => rfl) rfl, ?_⟩))
set_option maxRecDepth 100000 in
set_option maxHeartbeats 0 in
theorem values_spec (m : MkL) (c : Nat) : Ctr Try.prog 35 [.mp 0] [marksV m c]
    (fun cz => cz = ⟨.fn (.func 47) [] [.ptr 1 0], [some (marksV m c), some (newCells 63 [.mp 0])]⟩) := by
  refine Ctr.at 1 rfl ?_
  refine Fnc.start Try.func35 rfl rfl ?_
  (repeat (first | refine y_seq ?_ | refine w_region ?_ | refine y_regEnd ?_ | refine w_assign rfl rfl rfl ?_ | refine w_makeFunc rfl rfl rfl rfl ?_ | refine w_box rfl rfl rfl rfl ?_))
  (apply w_ret Try.func35 (congrArg Array.toList Try.results35)); (focus (repeat (first | exact ResIs.nil | apply ResIs.tmp rfl))); refine ⟨_, rfl, Ends.mk [1] (ExtOk.of rfl) rfl rfl ?_⟩
  exact (by repeat (first | exact trivial | refine ⟨at_box rfl, ?_⟩ | refine ⟨at_map (fun _ => rfl) rfl, ?_⟩))
set_option maxRecDepth 100000 in
set_option maxHeartbeats 0 in
theorem mleast_spec (m : MkL) (c : Nat) (k : Int) (hok : KOk m c) (hl : m.length ≤ 12) : Ctr Try.prog 20 [.ptr 0 0, .sc (.int .i64 k)] [mkB, marksV m c]
    (fun cz => cz = ⟨.tup [plS (leastQ k (plcs m)).1, .sc (.bool (leastQ k (plcs m)).2)], [mkB, marksV m c].map some⟩) := by
  refine Ctr.at 2 rfl ?_
  refine Fnc.start Try.func20 rfl rfl ?_
  (repeat (first | (first | refine y_seq ?_ | refine w_region ?_ | refine y_regEnd ?_ | refine y_skip ?_ | refine y_condF rfl ?_ | refine w_move rfl rfl rfl ?_ | refine w_assign rfl rfl rfl ?_ | refine w_nilCheck rfl rfl rfl ?_ | refine w_fieldAddr rfl rfl rfl (F.fo _ _ rfl rfl) ?_ | refine w_loadB1 rfl rfl rfl (F.ag _ rfl) rfl rfl ?_ | refine w_alloc rfl rfl (F.zl _ rfl) ?_) | refine w_callV (none_spec m c) [0, 1] rfl rfl rfl (by kernel_rfl) rfl (ExtOk.of rfl) rfl (by repeat (first | exact trivial | refine ⟨at_box rfl, ?_⟩ | refine ⟨at_map (fun _ => rfl) rfl, ?_⟩)) ?_))
  (refine w_call rfl rfl rfl (by kernel_rfl) (Ctr.callX (values_spec m c) [1] rfl (ExtOk.of rfl) rfl (by repeat (first | exact trivial | refine ⟨at_map (fun _ => rfl) rfl, ?_⟩)) ?_); rintro _ rfl; refine ⟨_, 1, [1, 3], [some _, some _], rfl, (by repeat (first | exact trivial | refine ⟨ren_map (fun _ => rfl), ?_⟩ | refine ⟨ren_boxT rfl, ?_⟩)), rfl, rfl, ?_⟩; dsimp only [wrL])
  (refine w_call rfl rfl rfl (by kernel_rfl) (Ctr.callX (collect_spec m c hok (by omega)) [3, 1] rfl (ExtOk.of rfl) rfl (by repeat (first | exact trivial | refine ⟨at_box rfl, ?_⟩ | refine ⟨at_map (fun _ => rfl) rfl, ?_⟩)) ?_); rintro _ ⟨done, hp, rfl⟩; refine ⟨_, 1, [3, 1, 4], [some _, some _, some _], rfl, (by repeat (first | exact trivial | refine ⟨ren_dat _ _ _ _ _ _, ?_⟩ | refine ⟨ren_map (fun _ => rfl), ?_⟩ | refine ⟨ren_boxT rfl, ?_⟩)), rfl, rfl, ?_⟩; dsimp only [wrL])
  have hq := qleast_spec false k (done.map (·.2.1)) (by rw [List.length_map, hp.length_eq]; omega)
  rw [leastQ_perm k (hp.map (·.2.1))] at hq
  (refine w_call rfl rfl rfl (by kernel_rfl) (Ctr.callX (hq) [4] rfl (ExtOk.of rfl) rfl (by repeat (first | exact trivial | refine ⟨at_dat rfl, ?_⟩)) ?_); rintro _ rfl; refine ⟨_, 0, [4], [some _], rfl, (by repeat (first | exact trivial | refine ⟨ren_dat _ _ _ _ _ _, ?_⟩)), rfl, rfl, ?_⟩; dsimp only [wrL])
  (repeat (first | refine y_regEnd ?_ | refine w_assign rfl rfl rfl ?_ | refine w_extract rfl rfl rfl rfl ?_ | refine w_storeC rfl rfl rfl rfl (F.sz _ rfl) (by first | exact rfl | (focus (skip; first | exact Tr.at_set_same _ _ _ | assumption))) rfl (by exact Nat.le_of_ble_eq_true rfl) rfl ?_))
  ((apply w_ret Try.func20 (congrArg Array.toList Try.results20)); (focus (repeat (first | exact ResIs.nil | apply ResIs.tmp rfl | apply ResIs.cell rfl (LoadIs.many (F.ag _ rfl) rfl (cellsFrom_box _ 0 rfl rfl))))); refine ⟨_, rfl, Ends.mk [] (ExtOk.of rfl) rfl rfl ?_⟩)
  exact (by repeat (first | exact trivial | refine ⟨at_box rfl, ?_⟩ | refine ⟨at_map (fun _ => rfl) rfl, ?_⟩))
end Go.Proofs.Ytfkfiafohcoomaa
end
section
namespace Go.Proofs.Ytfkfiafohcoomaa
open Go Go.Sy Go.Sl Go.RowKit
def mhaveR (m : MkL) (k : Int) (p : Int × Int) : Bool := if k < 1 then true else (leastQ k (plcs m)).2 && !lessP (leastQ k (plcs m)).1 p
set_option maxRecDepth 100000 in
set_option maxHeartbeats 0 in
theorem mhave_spec (m : MkL) (c : Nat) (k : Int) (p : Int × Int) (hok : KOk m c) (hl : m.length ≤ 12) : Ctr Try.prog 21 [.ptr 0 0, .sc (.int .i64 k), plS p] [mkB, marksV m c]
    (fun cz => cz = ⟨.sc (.bool (mhaveR m k p)), [mkB, marksV m c].map some⟩) := by
  refine Ctr.at 2 rfl ?_
  refine Fnc.start Try.func21 rfl rfl ?_
  (repeat (first | refine y_seq ?_ | refine w_region ?_ | refine y_regEnd ?_ | refine w_move rfl rfl rfl ?_ | refine w_assign rfl rfl rfl ?_ | refine w_boxN rfl rfl rfl ?_))
  refine w_lssS rfl rfl rfl rfl ?_ ?_
  all_goals intro h1
  · rw [show mhaveR m k p = true by unfold mhaveR; rw [if_pos h1]]
    (repeat (first | refine y_seq ?_ | refine w_region ?_ | refine y_regEnd ?_ | refine y_condT rfl ?_ | refine w_assign rfl rfl rfl ?_))
    ((apply w_ret Try.func21 (congrArg Array.toList Try.results21)); (focus (repeat (first | exact ResIs.nil | apply ResIs.tmp rfl))); refine ⟨_, rfl, Ends.mk [] (ExtOk.of rfl) rfl rfl ?_⟩)
    exact (by repeat (first | exact trivial | refine ⟨at_box rfl, ?_⟩ | refine ⟨at_map (fun _ => rfl) rfl, ?_⟩))
  have hq := mleast_spec m c k hok hl
  have hr : mhaveR m k p = ((leastQ k (plcs m)).2 && !lessP (leastQ k (plcs m)).1 p) := by unfold mhaveR; rw [if_neg (by omega)]
  rw [hr]
  generalize leastQ k (plcs m) = q at hq ⊢
  obtain ⟨q, is⟩ := q
  simp only at hq ⊢
  (repeat (first | refine y_seq ?_ | refine w_region ?_ | refine y_regEnd ?_ | refine y_skip ?_ | refine y_condF rfl ?_ | refine w_move rfl rfl rfl ?_))
  (refine w_call rfl rfl rfl (by kernel_rfl) (Ctr.callX (hq) [0, 1] rfl (ExtOk.of rfl) rfl (by repeat (first | exact trivial | refine ⟨at_box rfl, ?_⟩ | refine ⟨at_map (fun _ => rfl) rfl, ?_⟩)) ?_); rintro _ rfl; refine ⟨_, 0, [0, 1], [some _, some _], rfl, (by repeat (first | exact trivial | refine ⟨ren_map (fun _ => rfl), ?_⟩ | refine ⟨ren_boxT rfl, ?_⟩)), rfl, rfl, ?_⟩; dsimp only [wrL])
  have hls := less_spec q p
  generalize lessP q p = b at hls ⊢
  cases is
  all_goals cases b
  all_goals (repeat (first | (first | refine y_seq ?_ | refine w_region ?_ | refine y_regEnd ?_ | refine w_move rfl rfl rfl ?_ | refine w_assign rfl rfl rfl ?_ | refine w_pickT rfl rfl rfl rfl ?_ | refine w_pickF rfl rfl rfl rfl ?_ | refine w_extract rfl rfl rfl rfl ?_ | refine w_not rfl ?_ | refine w_storeC rfl rfl rfl rfl (F.sz _ rfl) (by first | exact rfl | (focus (skip; first | exact Tr.at_set_same _ _ _ | assumption))) rfl (by exact Nat.le_of_ble_eq_true rfl) rfl ?_ | refine w_loadBN rfl rfl rfl (F.ag _ rfl) rfl rfl ?_ | refine w_alloc rfl rfl (F.zl _ rfl) ?_ | refine w_notB rfl rfl rfl ?_) | refine w_callV (hls) [] rfl rfl rfl (by kernel_rfl) rfl (ExtOk.of rfl) rfl trivial ?_))
  all_goals (((apply w_ret Try.func21 (congrArg Array.toList Try.results21)); (focus (repeat (first | exact ResIs.nil | apply ResIs.tmp rfl))); refine ⟨_, rfl, Ends.mk [] (ExtOk.of rfl) rfl rfl ?_⟩); exact (by repeat (first | exact trivial | refine ⟨at_box rfl, ?_⟩ | refine ⟨at_map (fun _ => rfl) rfl, ?_⟩)))
end Go.Proofs.Ytfkfiafohcoomaa
end
section
namespace Go.Proofs.Ytfkfiafohcoomaa
open Go Go.Sy Go.Sl Go.RowKit
abbrev inV : Int → List Value := fun x => [.int .i64 x]
abbrev inR (ro : Bool) (a : Array Int) : VO := arr ro a.size 1 3 inV a
def okAt (a : Array Int) (j : Nat) : Prop := (1 ≤ a[j]! ∧ a[j]! ≤ 5) ∧ ∀ k, k < j → a[k]! ≠ a[j]!
instance (a : Array Int) (j : Nat) : Decidable (okAt a j) := by unfold okAt; infer_instance
def mayB (a : Array Int) : Bool := decide (∀ j, j < a.size → okAt a j)
theorem may_no {a : Array Int} {j : Nat} (hj : j < a.size) (h : ¬ okAt a j) : mayB a = false := decide_eq_false fun h' => h (h' j hj)
theorem may_yes {a : Array Int} (h : ∀ j, j < a.size → okAt a j) : mayB a = true := decide_eq_true h
set_option maxRecDepth 100000 in
set_option maxHeartbeats 0 in
theorem may_spec (ro : Bool) (a : Array Int) (hn : a.size < 4611686018427387904) : Ctr Try.prog 16 [.slu 0 0 a.size] [inR ro a] (fun cz => cz = ⟨.sc (.bool (mayB a)), [some (inR ro a)]⟩) := by
  refine Ctr.at 1 rfl ?_
  refine Fnc.start Try.func16 rfl rfl ?_
  (repeat (first | refine y_seq ?_ | refine w_region ?_ | refine y_regEnd ?_ | refine y_block ?_ | refine w_assign rfl rfl rfl ?_))
  refine y_loopC 1 (fun i : Nat => [(0, .slu 0 0 a.size), (3, .sc (.int .i64 (i : Int)))]) (fun _ => [some (inR ro a)]) (fun i => i ≤ a.size ∧ ∀ j, j < i → okAt a j) (fun i => a.size - i) 0 []
    (fun _ => rfl) ⟨Nat.zero_le _, fun _ h => absurd h (Nat.not_lt_zero _)⟩ ?_ (fun _ => rfl) (fun _ => rfl) ?_
  · (refine ⟨(ExtOk.of rfl), rfl, (by repeat (first | exact trivial | refine ⟨rfl, ?_⟩)), (by repeat (first | exact trivial | refine ⟨at_dat rfl, ?_⟩))⟩)
  rintro i ⟨hi, hp⟩ ih
  (repeat (first | refine y_seq ?_ | refine w_region ?_ | refine w_move rfl rfl rfl ?_ | refine w_lenSl rfl rfl rfl (F.un _ rfl) ?_))
  refine w_lssS rfl rfl rfl rfl ?_ ?_
  all_goals intro h1
  · (repeat (first | (first | refine y_seq ?_ | refine w_region ?_ | refine y_regEnd ?_ | refine y_block ?_ | refine y_skip ?_ | refine y_condT rfl ?_ | refine w_move rfl rfl rfl ?_) | refine w_idxN (q := i) rfl rfl rfl rfl (F.un _ rfl) (F.sz _ rfl) rfl (by omega) (by omega) (by omega) ?_ | (refine w_ldS (g := fun x => Value.int .i64 x) rfl rfl rfl (F.ag _ rfl) rfl (by omega) (Nat.le_refl _) ?_)))
    refine w_lssS rfl rfl rfl rfl ?_ ?_
    all_goals intro h2
    · (repeat (first | refine y_seq ?_ | refine w_region ?_ | refine y_regEnd ?_ | refine y_condT rfl ?_ | refine w_move rfl rfl rfl ?_ | refine w_assign rfl rfl rfl ?_ | refine w_pickT rfl rfl rfl rfl ?_ | refine w_not rfl ?_))
      rw [may_no (a := a) (j := i) (by omega) (fun h => by have := h.1; omega)]
      ((apply w_ret Try.func16 (congrArg Array.toList Try.results16)); (focus (repeat (first | exact ResIs.nil | apply ResIs.tmp rfl))); refine ⟨_, rfl, Ends.mk [] (ExtOk.of rfl) rfl rfl ?_⟩)
      exact (by repeat (first | exact trivial | refine ⟨at_dat rfl, ?_⟩))
    (repeat (first | (refine w_move rfl rfl rfl ?_) | refine w_idxN (q := i) rfl rfl rfl rfl (F.un _ rfl) (F.sz _ rfl) rfl (by omega) (by omega) (by omega) ?_ | (refine w_ldS (g := fun x => Value.int .i64 x) rfl rfl rfl (F.ag _ rfl) rfl (by omega) (Nat.le_refl _) ?_)))
    refine w_gtrS rfl rfl rfl rfl ?_ ?_
    all_goals intro h3
    · (repeat (first | refine y_seq ?_ | refine w_region ?_ | refine y_regEnd ?_ | refine y_condT rfl ?_ | refine w_assign rfl rfl rfl ?_ | refine w_pickF rfl rfl rfl rfl ?_))
      rw [may_no (a := a) (j := i) (by omega) (fun h => by have := h.1; omega)]
      ((apply w_ret Try.func16 (congrArg Array.toList Try.results16)); (focus (repeat (first | exact ResIs.nil | apply ResIs.tmp rfl))); refine ⟨_, rfl, Ends.mk [] (ExtOk.of rfl) rfl rfl ?_⟩)
      exact (by repeat (first | exact trivial | refine ⟨at_dat rfl, ?_⟩))
    (repeat (first | refine y_seq ?_ | refine w_region ?_ | refine y_regEnd ?_ | refine y_block ?_ | refine y_skip ?_ | refine y_condF rfl ?_ | refine w_assign rfl rfl rfl ?_ | refine w_pickF rfl rfl rfl rfl ?_))
    refine y_loopC 1 (fun k : Nat => [(0, .slu 0 0 a.size), (3, .sc (.int .i64 (i : Int))), (4, .sc (.int .i64 (k : Int)))]) (fun _ => [some (inR ro a)]) (fun k => k ≤ i ∧ ∀ j, j < k → a[j]! ≠ a[i]!) (fun k => i - k) 0 []
      (fun _ => rfl) ⟨Nat.zero_le _, fun _ h => absurd h (Nat.not_lt_zero _)⟩ ?_ (fun _ => rfl) (fun _ => rfl) ?_
    · (refine ⟨(ExtOk.of rfl), rfl, (by repeat (first | exact trivial | refine ⟨rfl, ?_⟩)), (by repeat (first | exact trivial | refine ⟨at_dat rfl, ?_⟩))⟩)
    rintro k ⟨hk, hq⟩ ih2
    (repeat (first | refine y_seq ?_ | refine w_region ?_ | refine w_move rfl rfl rfl ?_))
    refine w_lssS rfl rfl rfl rfl ?_ ?_
    all_goals intro h4
    · (repeat (first | refine y_seq ?_ | refine y_regEnd ?_ | refine y_block ?_ | refine y_skip ?_ | refine y_condT rfl ?_))
      refine w_draw (by kernel_rfl) (by kernel_rfl) ?_
      (repeat (first | (refine dw_move rfl rfl rfl ?_) | refine dw_idxN (q := k) rfl rfl rfl rfl (F.un _ rfl) (F.sz _ rfl) rfl (by omega) (by omega) (by omega) ?_ | refine dw_idxN (q := i) rfl rfl rfl rfl (F.un _ rfl) (F.sz _ rfl) rfl (by omega) (by omega) (by omega) ?_ | (refine dw_ldS (g := fun x => Value.int .i64 x) rfl rfl rfl (F.ag _ rfl) rfl (by omega) (Nat.le_refl _) ?_)))
      refine dw_eqlS rfl rfl rfl rfl ?_ ?_
      all_goals intro h5
      · skip
        (refine dk_nil ?_); (refine ⟨by kernel_rfl, ?_, ?_⟩); (focus (repeat (first | exact trivial | refine ⟨.inl rfl, ?_⟩)))
        (repeat (first | refine y_seq ?_ | refine w_region ?_ | refine y_regEnd ?_ | refine y_condT rfl ?_ | refine w_assign rfl rfl rfl ?_))
        rw [may_no (a := a) (j := i) (by omega) (fun h => h.2 k (by omega) h5)]
        ((apply w_ret Try.func16 (congrArg Array.toList Try.results16)); (focus (repeat (first | exact ResIs.nil | apply ResIs.tmp rfl))); refine ⟨_, rfl, Ends.mk [] (ExtOk.of rfl) rfl rfl ?_⟩)
        exact (by repeat (first | exact trivial | refine ⟨at_dat rfl, ?_⟩))
      · skip
        (refine dk_nil ?_); (refine ⟨by kernel_rfl, ?_, ?_⟩); (focus (repeat (first | exact trivial | refine ⟨.inl rfl, ?_⟩)))
        (repeat (first | refine w_region ?_ | refine y_regEnd ?_ | refine y_inBlock ?_ | refine y_skip ?_ | refine y_condF rfl ?_ | refine w_move rfl rfl rfl ?_ | refine w_assign rfl rfl rfl ?_ | refine w_add rfl rfl rfl rfl (by omega) (by omega) ?_))
        refine ih2 _ _ _ (k + 1) [] ⟨by omega, fun j hj => ?_⟩ (by omega) ?_
        · rcases Nat.lt_or_ge j k with h | h
          · exact hq j h
          · rw [show j = k by omega]; exact h5
        · (refine ⟨(ExtOk.of rfl), rfl, (by repeat (first | exact trivial | refine ⟨rfl, ?_⟩)), (by repeat (first | exact trivial | refine ⟨at_dat rfl, ?_⟩))⟩)
    · (repeat (first | refine w_region ?_ | refine y_regEnd ?_ | refine y_inBlock ?_ | refine y_exit rfl ?_ | refine y_condF rfl ?_ | refine w_move rfl rfl rfl ?_ | refine w_assign rfl rfl rfl ?_ | refine w_add rfl rfl rfl rfl (by omega) (by omega) ?_))
      refine ih _ _ _ (i + 1) [] ⟨by omega, fun j hj => ?_⟩ (by omega) ?_
      · rcases Nat.lt_or_ge j i with h | h
        · exact hp j h
        · rw [show j = i by omega]; exact ⟨by omega, fun q hq' => hq q (by omega)⟩
      · (refine ⟨(ExtOk.of rfl), rfl, (by repeat (first | exact trivial | refine ⟨rfl, ?_⟩)), (by repeat (first | exact trivial | refine ⟨at_dat rfl, ?_⟩))⟩)
  · (repeat (first | refine y_seq ?_ | refine w_region ?_ | refine y_regEnd ?_ | refine y_exit rfl ?_ | refine y_condF rfl ?_ | refine w_assign rfl rfl rfl ?_))
    rw [may_yes (a := a) (fun j hj => hp j (by omega))]
    ((apply w_ret Try.func16 (congrArg Array.toList Try.results16)); (focus (repeat (first | exact ResIs.nil | apply ResIs.tmp rfl))); refine ⟨_, rfl, Ends.mk [] (ExtOk.of rfl) rfl rfl ?_⟩)
    exact (by repeat (first | exact trivial | refine ⟨at_dat rfl, ?_⟩))
end Go.Proofs.Ytfkfiafohcoomaa
end
section
namespace Go.Proofs.Ytfkfiafohcoomaa
open Go Go.Sy Go.Sl Go.RowKit
def newM (a : Array Int) (i : Nat) : MkL := (List.range i).map fun j => (a[j]!, (0, 0), j)
theorem newM_get {a : Array Int} {i : Nat} {k : Int} : kget (newM a i) k = none ↔ ∀ j, j < i → a[j]! ≠ k := by
  rw [kget_none]
  simp [newM]
theorem newM_put {a : Array Int} {i : Nat} (h : ∀ j, j < i → a[j]! ≠ a[i]!) : kput (newM a i) a[i]! (0, 0) i = newM a (i + 1) ∧ kclk (newM a i) a[i]! i = i + 1 := by
  have h' := newM_get.2 h
  refine ⟨?_, kclk_none h' _⟩
  rw [kput_none h']
  simp [newM, List.range_succ]
theorem newM_ok {a : Array Int} {i : Nat} (h : ∀ j, j < i → ∀ k, k < j → a[k]! ≠ a[j]!) : KOk (newM a i) i := by
  induction i with
  | zero => exact KOk.nil 0
  | succ i ih =>
    have e := newM_put (a := a) (i := i) (fun j hj => h i (by omega) j hj)
    have := (ih fun j hj k hk => h j (by omega) k hk).put a[i]! (0, 0)
    rw [e.1, e.2] at this
    exact this
set_option maxRecDepth 100000 in
set_option maxHeartbeats 0 in
theorem new_spec (ro : Bool) (a : Array Int) (hn : a.size < 1000) : Ctr Try.prog 17 [.slu 0 0 a.size] [inR ro a]
    (fun cz => cz = if mayB a then ⟨.tup [.ptr 1 0, .sc (.int .i64 0)], [some (inR ro a), some (newCells 65 [.mp 2]), some (marksV (newM a a.size) a.size)]⟩ else ⟨.tup [.sc (.pointer none), .sc (.int .i64 2)], [some (inR ro a)]⟩) := by
  refine Ctr.at 1 rfl ?_
  refine Fnc.start Try.func17 rfl rfl ?_
  (repeat (first | refine y_seq ?_ | refine w_region ?_ | refine y_regEnd ?_ | refine y_block ?_ | refine w_move rfl rfl rfl ?_ | refine w_assign rfl rfl rfl ?_ | refine w_makeMap rfl rfl ?_ | refine w_boxN rfl rfl rfl ?_ | refine w_lenSl rfl rfl rfl (F.un _ rfl) ?_ | refine w_build rfl rfl rfl (F.ze _ rfl) (F.pl _ rfl) rfl ?_))
  refine y_loopC 3 (fun i : Nat => [(0, .slu 0 0 a.size), (2, .sc (.pointer none)), (3, .sc (.int .i64 0)), (4, .ptr 1 0), (12, .slu 0 0 a.size), (13, .sc (.int .i64 (a.size : Int))), (14, .sc (.int .i64 (i : Int)))]) (fun i => [some (inR ro a), some (newCells 65 [.mp 2]), some (marksV (newM a i) i)]) (fun i => i ≤ a.size ∧ ∀ j, j < i → okAt a j) (fun i => a.size - i) 0 [2, 1]
    (fun _ => rfl) ⟨Nat.zero_le _, fun _ h => absurd h (Nat.not_lt_zero _)⟩ ?_ (fun _ => rfl) (fun _ => rfl) ?_
  · exact ⟨(ExtOk.of rfl), rfl, (by repeat (first | exact trivial | refine ⟨rfl, ?_⟩)), (by repeat (first | exact trivial | refine ⟨rfl, ?_⟩ | refine ⟨at_dat rfl, ?_⟩ | refine ⟨at_box rfl, ?_⟩))⟩
  rintro i ⟨hi, hp⟩ ih
  (repeat (first | refine y_seq ?_ | refine w_region ?_))
  refine w_lssS rfl rfl rfl rfl ?_ ?_
  all_goals intro h1
  · (repeat (first | (first | refine y_seq ?_ | refine w_region ?_ | refine y_regEnd ?_ | refine y_block ?_ | refine y_skip ?_ | refine y_condT rfl ?_ | refine w_move rfl rfl rfl ?_ | refine w_assign rfl rfl rfl ?_ | refine w_nilCheck rfl rfl rfl ?_ | refine w_fieldAddr rfl rfl rfl (F.fo _ _ rfl rfl) ?_ | refine w_loadB1 rfl rfl rfl (F.ag _ rfl) rfl rfl ?_) | refine w_idxN (q := i) rfl rfl rfl rfl (F.un _ rfl) (F.sz _ rfl) rfl (by omega) (by omega) (by omega) ?_ | (refine w_ldS (g := fun x => Value.int .i64 x) rfl rfl rfl (F.ag _ rfl) rfl (by omega) (Nat.le_refl _) ?_)))
    cases hg : kget (newM a i) a[i]! with
    | some w =>
      refine w_lookT (m := newM a i) (enc := mkE) (val := mkV) rfl rfl rfl rfl (F.un _ rfl) (mkK) (by first | exact rfl | (focus (skip; first | exact Tr.at_set_same _ _ _ | assumption))) (hg) ?_
      (repeat (first | refine y_seq ?_ | refine w_region ?_ | refine y_regEnd ?_ | refine y_condT rfl ?_ | refine w_move rfl rfl rfl ?_ | refine w_assign rfl rfl rfl ?_ | refine w_pickT rfl rfl rfl rfl ?_ | refine w_extract rfl rfl rfl rfl ?_ | refine w_not rfl ?_ | refine w_storeC rfl rfl rfl rfl (F.sz _ rfl) (by first | exact rfl | (focus (skip; first | exact Tr.at_set_same _ _ _ | assumption))) rfl (by exact Nat.le_of_ble_eq_true rfl) rfl ?_ | refine w_alloc rfl rfl (F.zl _ rfl) ?_))
      have hno : ¬ okAt a i := fun h => by
        have := newM_get.2 h.2
        rw [hg] at this
        cases this
      rw [may_no (a := a) (j := i) (by omega) hno, if_neg (by decide)]
      ((apply w_ret Try.func17 (congrArg Array.toList Try.results17)); (focus (repeat (first | exact ResIs.nil | apply ResIs.tmp rfl))); refine ⟨_, rfl, Ends.mk [] (ExtOk.of rfl) rfl rfl ?_⟩)
      exact (by repeat (first | exact trivial | refine ⟨at_dat rfl, ?_⟩))
    | none =>
      have hd := newM_get.1 hg
      have hpu := newM_put hd
      refine w_lookF (m := newM a i) (enc := mkE) (val := mkV) rfl rfl rfl rfl (F.un _ rfl) (mkK) (by first | exact rfl | (focus (skip; first | exact Tr.at_set_same _ _ _ | assumption))) (hg) (F.ze _ rfl) ?_
      (repeat (first | refine y_seq ?_ | refine w_region ?_ | refine y_regEnd ?_ | refine w_move rfl rfl rfl ?_ | refine w_assign rfl rfl rfl ?_ | refine w_extract rfl rfl rfl rfl ?_ | refine w_storeC rfl rfl rfl rfl (F.sz _ rfl) (by first | exact rfl | (focus (skip; first | exact Tr.at_set_same _ _ _ | assumption))) rfl (by exact Nat.le_of_ble_eq_true rfl) rfl ?_ | refine w_alloc rfl rfl (F.zl _ rfl) ?_))
      refine w_lssS rfl rfl rfl rfl ?_ ?_
      all_goals intro h2
      · (repeat (first | refine y_seq ?_ | refine w_region ?_ | refine y_regEnd ?_ | refine y_condT rfl ?_ | refine w_move rfl rfl rfl ?_ | refine w_assign rfl rfl rfl ?_ | refine w_pickT rfl rfl rfl rfl ?_ | refine w_pickF rfl rfl rfl rfl ?_ | refine w_not rfl ?_))
        rw [may_no (a := a) (j := i) (by omega) (fun h => by have := h.1; omega), if_neg (by decide)]
        ((apply w_ret Try.func17 (congrArg Array.toList Try.results17)); (focus (repeat (first | exact ResIs.nil | apply ResIs.tmp rfl))); refine ⟨_, rfl, Ends.mk [] (ExtOk.of rfl) rfl rfl ?_⟩)
        exact (by repeat (first | exact trivial | refine ⟨at_dat rfl, ?_⟩))
      (repeat (first | refine w_move rfl rfl rfl ?_ | refine w_pickF rfl rfl rfl rfl ?_))
      refine w_gtrS rfl rfl rfl rfl ?_ ?_
      all_goals intro h3
      · (repeat (first | refine y_seq ?_ | refine w_region ?_ | refine y_regEnd ?_ | refine y_condT rfl ?_ | refine w_assign rfl rfl rfl ?_ | refine w_pickF rfl rfl rfl rfl ?_))
        rw [may_no (a := a) (j := i) (by omega) (fun h => by have := h.1; omega), if_neg (by decide)]
        ((apply w_ret Try.func17 (congrArg Array.toList Try.results17)); (focus (repeat (first | exact ResIs.nil | apply ResIs.tmp rfl))); refine ⟨_, rfl, Ends.mk [] (ExtOk.of rfl) rfl rfl ?_⟩)
        exact (by repeat (first | exact trivial | refine ⟨at_dat rfl, ?_⟩))
      (repeat (first | (first | refine w_region ?_ | refine y_regEnd ?_ | refine y_inBlock ?_ | refine y_skip ?_ | refine y_condF rfl ?_ | refine w_move rfl rfl rfl ?_ | refine w_pickF rfl rfl rfl rfl ?_ | refine w_nilCheck rfl rfl rfl ?_ | refine w_fieldAddr rfl rfl rfl (F.fo _ _ rfl rfl) ?_ | refine w_loadB1 rfl rfl rfl (F.ag _ rfl) rfl rfl ?_ | refine w_add rfl rfl rfl rfl (by omega) (by omega) ?_ | refine w_build rfl rfl rfl (F.ze _ rfl) (F.pl _ rfl) rfl ?_) | refine w_mapUp (m := newM a i) (enc := mkE) (val := mkV) (kk := a[i]!) (v := (0, 0)) rfl rfl rfl (F.un _ rfl) (mkK) (by first | exact rfl | (focus (skip; first | exact Tr.at_set_same _ _ _ | assumption))) rfl ?_))
      rw [hpu.1, hpu.2]
      refine ih _ _ _ (i + 1) [1, 2] ⟨by omega, fun j hj => ?_⟩ (by omega) ?_
      · rcases Nat.lt_or_ge j i with h | h
        · exact hp j h
        · rw [show j = i by omega]; exact ⟨by omega, hd⟩
      · exact ⟨(ExtOk.of rfl), rfl, (by repeat (first | exact trivial | refine ⟨rfl, ?_⟩)), (by repeat (first | exact trivial | refine ⟨at_dat rfl, ?_⟩ | refine ⟨at_box rfl, ?_⟩ | refine ⟨at_map (fun _ => rfl) rfl, ?_⟩))⟩
  · (repeat (first | refine y_seq ?_ | refine w_region ?_ | refine y_regEnd ?_ | refine y_exit rfl ?_ | refine y_condF rfl ?_ | refine w_move rfl rfl rfl ?_ | refine w_assign rfl rfl rfl ?_))
    obtain rfl : i = a.size := by omega
    rw [may_yes (a := a) hp, if_pos rfl]
    apply w_ret Try.func17 (congrArg Array.toList Try.results17)
    · (repeat (first | exact ResIs.nil | apply ResIs.tmp rfl))
    refine ⟨_, rfl, Ends.mk [1, 2] (ExtOk.of rfl) rfl rfl ?_⟩
    exact (by repeat (first | exact trivial | refine ⟨at_dat rfl, ?_⟩ | refine ⟨at_box rfl, ?_⟩ | refine ⟨at_map (fun _ => rfl) rfl, ?_⟩))
end Go.Proofs.Ytfkfiafohcoomaa
end
section
namespace Go.Proofs.Ytfkfiafohcoomaa
open Go Go.Sy Go.Sl Go.RowKit
abbrev Td := Int × (Int × Int)
abbrev tdV : Td → List Value := fun x => [.int .i64 x.1, .int .u64 x.2.1, .int .u64 x.2.2]
theorem recT : RecOf tdV 3 := ⟨fun _ => rfl, fun a v hv => by
  simp only [tdV, List.mem_cons, List.not_mem_nil, or_false] at hv
  rcases hv with rfl | rfl | rfl <;> rfl⟩
abbrev tdR (ro : Bool) (t : Array Td) : VO := arr ro t.size 3 49 tdV t
theorem least_yes {l : List (Int × Int)} {k : Nat} (h1 : 1 ≤ k) (h2 : k ≤ l.length) : (leastQ (k : Int) l).2 = true ∧ ∀ p, k ≤ haveP l p ↔ uptoP p (leastQ (k : Int) l).1 = true := by
  have e : leastQ (k : Int) l = ((descP l).getD (k - 1) (0, 0), true) := by
    unfold leastQ
    rw [if_neg (by omega), show ((k : Int) - 1).toNat = k - 1 by omega]
  rw [e]
  refine ⟨rfl, fun p => ?_⟩
  obtain ⟨q, hq⟩ : ∃ q, (descP l)[k - 1]? = some q := ⟨_, List.getElem?_eq_getElem (by rw [desc_length]; omega)⟩
  have := have_desc l p (k - 1)
  rw [hq] at this
  simp only [Option.some.injEq, exists_eq_left'] at this
  rw [getD_of hq, ← this]
  omega
theorem tell_facts (m : MkL) (c : Nat) (k : Int) (p : Int × Int) (hok : KOk m c) : KOk (tellR m c k p).1 c ∧ (tellR m c k p).1.length = m.length ∧ ∀ x, haveP (plcs m) x ≤ haveP (plcs (tellR m c k p).1) x := by
  cases hg : kget m k with
  | none =>
    rw [show tellR m c k p = (m, false, 2) by unfold tellR; rw [hg]]
    exact ⟨hok, rfl, fun x => Nat.le_refl _⟩
  | some w =>
    cases hb : lessP w p with
    | false =>
      rw [show tellR m c k p = (m, false, 0) by unfold tellR; rw [hg]; simp only [hb]; rfl]
      exact ⟨hok, rfl, fun x => Nat.le_refl _⟩
    | true =>
      rw [show tellR m c k p = (kput m k p c, true, 0) by unfold tellR; rw [hg]; simp only [hb]; rfl]
      have h1 := hok.put k p
      rw [kclk_some hg] at h1
      obtain ⟨A, B, s, h2, h3⟩ := kput_some hg
      refine ⟨h1, ?_, fun x => ?_⟩
      · rw [h3, h2]
        simp
      · rw [h3, h2]
        simp only [plcs, haveP, List.map_append, List.map_cons, List.filter_append, List.filter_cons, List.length_append]
        have hu : uptoP x w = true → uptoP x p = true := fun h => upto_trans h (by rw [less_not] at hb; exact upto_of_not (by simpa using hb))
        cases h1 : uptoP x w <;> cases h2 : uptoP x p <;> simp_all <;> omega
end Go.Proofs.Ytfkfiafohcoomaa
end
section
namespace Go.Sl
open Go Go.RowKit Go.WideShapes Go.ChangeShapes
theorem post_new {H : Type} {enc : TypeId × Value → H} {P : Program} {f : Func} {s : ChangeSpec} {apart fresh handsOn again : Bool} {W W' : World} {args : Array Value} {v : Value} {ds gs : List (DataW H)} {before pa pv : List MemPlace}
    (hW : DataW.Whole enc P f.params.toList s.vars apart W args.toList ds gs before) (hb : Below W.heap.size W W') (hps : before = pa ++ pv)
    (hres : ∀ (b : Nat) (sp : Nat → Bool) (hd : Bool), DataW.TrodAll enc P W' b sp hd f.resultTypes.toList (v.resultList f.resultTypes.size) (s.fn H (ds ++ gs)).results [])
    (hargs : ∀ sp : Nat → Bool, (∀ p ∈ before, sp p.block = true) → DataW.TrodAll enc P W' 0 sp true f.params.toList args.toList (s.fn H (ds ++ gs)).args pa)
    (hvars : ∀ sp : Nat → Bool, (∀ p ∈ before, sp p.block = true) → DataW.TrodVars enc P W' sp s.vars (s.fn H (ds ++ gs)).vars pv)
    (hok : ∀ (j : Nat) (t : TypeId) (r : Value), f.resultTypes[j]? = some t → (v.resultList f.resultTypes.size)[j]? = some r → Value.okWide P W' .any 0 t r) :
    s.post enc P f apart fresh handsOn again W args v W' := by
  have hsp : ∀ p ∈ before, (fun b => decide (b < W.heap.size)) p.block = true := fun p hp => by simpa using hW.lt p hp
  have hmem : ∀ p, p ∈ pa ++ pv ↔ p ∈ before := fun p => by rw [hps]
  refine ⟨ds, gs, before, [], pa, pv, hW, hres _ _ _, hargs _ hsp, hvars _ hsp, World.keptBut_mono (fun p hp => ⟨hp, ?_⟩) (hb.frame (· ∈ before)), fun _ => ?_⟩
  · have := (hmem p).2 hp
    rw [List.mem_append] at this
    exact .inr this
  obtain ⟨_, _, _, _, _, hz, hn⟩ := id hW
  refine ⟨hok, _, _, ([] ++ pa) ++ pv, ⟨[] ++ pa, pv, trodAll_append (hargs _ (fun _ _ => rfl)) (hres _ _ _), hvars _ (fun _ _ => rfl), rfl, fun b off hp => ?_, fun ha => ?_⟩, fun p hp _ => ?_⟩
  · have hin : MemPlace.cell b off ∈ before := (hmem _).1 (by simpa using hp)
    rw [hb.frozen (hW.lt _ hin)]
    exact hz b off hin
  · have := hn ha
    rw [hps] at this
    simpa using this
  · exact (hmem p).1 (by simpa using hp)
end Go.Sl
end
section
namespace Go.Sy
open Go Go.Sl Go.RowKit Go.WideShapes
theorem rowAt_off (p : Program) (fits : TypeId → Bool) (d : Nat) (e : TypeId) (count off n : Nat) (h : rowAt p fits d e count off n = true) : off ≤ count * p.cellsOf e := by
  cases d with
  | zero => simp [rowAt] at h
  | succ d =>
    unfold rowAt at h
    simp only at h
    split at h
    · cases h
    · rename_i hs
      have hdiv := Nat.div_add_mod off (p.cellsOf e)
      rw [Bool.or_eq_true] at h
      rcases h with h | h
      · simp only [Bool.and_eq_true, beq_iff_eq, decide_eq_true_eq] at h
        obtain ⟨⟨h1, h2⟩, _⟩ := h
        have : p.cellsOf e * (off / p.cellsOf e) ≤ p.cellsOf e * count := Nat.mul_le_mul_left _ (by omega)
        rw [Nat.mul_comm count]
        omega
      · rw [Bool.and_eq_true, decide_eq_true_eq] at h
        have hm := Nat.mod_lt off (Nat.pos_of_ne_zero hs)
        have : p.cellsOf e * (off / p.cellsOf e + 1) ≤ p.cellsOf e * count := Nat.mul_le_mul_left _ (by omega)
        rw [Nat.mul_add, Nat.mul_one] at this
        rw [Nat.mul_comm count]
        omega
theorem liesAt_off (p : Program) : ∀ (d : Nat) (e : TypeId) (count off : Nat) (u : TypeId) (n : Nat), liesAt p d e count off u n = true → off ≤ count * p.cellsOf e
  | 0, _, _, _, _, _, h => by simp [liesAt] at h
  | d + 1, e, count, off, u, n, h => by
    unfold liesAt at h
    rw [Bool.or_eq_true] at h
    rcases h with h | h
    · exact rowAt_off p _ _ e count off n h
    · split at h
      · exact liesAt_off p d e count off _ _ h
      · cases h
theorem mapM_range {A : Type} {f : Nat → Option A} : ∀ {n : Nat} {l : List A}, (List.range n).mapM f = some l → l.length = n ∧ ∀ i, i < n → f i = l[i]? := by
  intro n
  induction n with
  | zero => intro l h; simp at h; subst h; exact ⟨rfl, fun i hi => by omega⟩
  | succ n ih =>
    intro l h
    rw [List.range_succ, List.mapM_append] at h
    simp only [Option.bind_eq_bind, Option.bind_eq_some_iff] at h
    obtain ⟨a, ha, b, hb, hl⟩ := h
    obtain ⟨h1, h2⟩ := ih ha
    cases hf : f n with
    | none => simp [hf] at hb
    | some x =>
      simp [hf] at hb
      subst hb
      simp at hl
      subst hl
      refine ⟨by simp [h1], fun i hi => ?_⟩
      rcases Nat.lt_or_ge i n with h | h
      · rw [List.getElem?_append_left (by omega)]; exact h2 i h
      · obtain rfl : i = n := by omega
        rw [hf, List.getElem?_append_right (by omega), h1]
        simp
theorem slice_arg {b0 : Nat} {H : Type} {enc : TypeId × Value → H} {P : Program} {w : World} {t e : TypeId} {sz : Nat} {v : Value} {dd : DataW H} {p : List MemPlace} (ht : P.underlying t = some (.slice e)) (hc : P.cellsOf e = sz) (h0 : 0 < sz)
    (hT : DataW.Trod enc P w 0 (fun _ => true) true t v dd p) (hok : Value.okWide P w .any b0 t v) :
    (v = .slice none 0 0) ∨ ∃ (b o len cap : Nat) (cs : Array Value) (tt : TypeId) (fz : Nat × Nat), v = .slice (some ⟨b, o, none⟩) len cap ∧ w.heap[b]? = some (.cells cs tt fz) ∧ len ≤ cap ∧ cap ≤ maxLen ∧ o + cap * sz ≤ cs.size ∧
      ∀ i, i < len → ∃ us : List Value, us.length = sz ∧ (∀ j, j < sz → cs[o + i * sz + j]? = us[j]?) ∧ ∃ n y, DataW.trod enc P w 0 (fun _ => true) true n e us = some y := by
  obtain ⟨fuel, hT⟩ := hT
  obtain ⟨a0, len0, cap0, rfl⟩ := okWide_slice ht hok
  have hcells : (Value.slice a0 len0 cap0).cells.toList = [.slice a0 len0 cap0] := rfl
  rw [hcells] at hT
  rcases DataW.trod_slice ht hT with ⟨h1, _⟩ | ⟨a, len, cap, elems, rest, n, _, h1, _, _, h3, h4, h5, h6, h7, _⟩
  · left
    simpa using h1
  · right
    simp only [List.cons.injEq, and_true, Value.slice.injEq] at h1
    obtain ⟨rfl, rfl, rfl⟩ := h1
    unfold Value.okWide at hok
    rw [ht] at hok
    simp only at hok
    unfold Cell.okWide at hok
    rw [ht] at hok
    simp only at hok
    unfold Cell.ok at hok
    rw [ht] at hok
    simp only at hok
    obtain ⟨_, _, _, hsp, row, cells, hsh, hli⟩ := hok
    obtain ⟨b, o, sp⟩ := a
    simp only at hsp hsh hli h6 h7
    subst hsp
    unfold World.shape? at hsh
    cases hob : w.heap[b]? with
    | none => rw [hob] at hsh; cases hsh
    | some ob =>
      rw [hob] at hsh
      cases ob with
      | cells cs tt fz =>
        simp only [Option.some.injEq, Prod.mk.injEq] at hsh
        obtain ⟨rfl, rfl⟩ := hsh
        have hoff := liesAt_off P _ _ _ _ _ _ hli
        have hoff2 : o ≤ cs.size := Nat.le_trans hoff (Nat.div_mul_le_self _ _)
        have hcell : ∀ q : Nat, w.cell? ⟨b, q, none⟩ = cs[q]? := fun q => by simp [World.cell?, hob]
        have hget : ∀ (q : Nat) (us : List Value), w.cells? 0 ((⟨b, o, none⟩ : Addr).add (q * P.cellsOf e)) (P.cellsOf e) = some us → us.length = sz ∧ ∀ j, j < sz → cs[o + q * sz + j]? = us[j]? := by
          intro q us hus
          rw [add_plain] at hus
          unfold World.cells? at hus
          rw [if_pos (Nat.zero_le _)] at hus
          obtain ⟨g1, g2⟩ := mapM_range hus
          rw [hc] at g1 g2 hus
          refine ⟨g1, fun j hj => ?_⟩
          have := g2 j hj
          rw [add_plain, hcell] at this
          exact this
        refine ⟨b, o, len0, cap0, cs, tt, fz, rfl, hob, h3, h4, ?_, fun i hi => ?_⟩
        · rcases Nat.eq_zero_or_pos cap0 with hz | hz
          · subst hz; simpa using hoff2
          · have hlast : ∃ us, w.cells? 0 ((⟨b, o, none⟩ : Addr).add ((cap0 - 1) * P.cellsOf e)) (P.cellsOf e) = some us := by
              rcases Nat.lt_or_ge (cap0 - 1) len0 with hl | hl
              · have h8 := h6 (cap0 - 1) hl
                rw [List.getElem?_eq_getElem (by omega)] at h8
                cases hcs : w.cells? 0 ((⟨b, o, none⟩ : Addr).add ((cap0 - 1) * P.cellsOf e)) (P.cellsOf e) with
                | none => rw [hcs] at h8; cases h8
                | some us => exact ⟨us, rfl⟩
              · obtain ⟨h9, h10⟩ := h7 trivial
                have h8 := h10 (cap0 - 1 - len0) (by omega)
                rw [List.getElem?_eq_getElem (by omega), show len0 + (cap0 - 1 - len0) = cap0 - 1 by omega] at h8
                cases hcs : w.cells? 0 ((⟨b, o, none⟩ : Addr).add ((cap0 - 1) * P.cellsOf e)) (P.cellsOf e) with
                | none => rw [hcs] at h8; cases h8
                | some us => exact ⟨us, rfl⟩
            obtain ⟨us, hus⟩ := hlast
            obtain ⟨g1, g2⟩ := hget _ _ hus
            have g3 := g2 (sz - 1) (by omega)
            rw [List.getElem?_eq_getElem (show sz - 1 < us.length by omega)] at g3
            have g4 := (Array.getElem?_eq_some_iff.1 g3).1
            have : cap0 * sz = (cap0 - 1) * sz + sz := by
              conv => lhs; rw [show cap0 = cap0 - 1 + 1 by omega, Nat.add_mul, Nat.one_mul]
            omega
        · have h8 := h6 i hi
          rw [List.getElem?_eq_getElem (by omega)] at h8
          cases hcs : w.cells? 0 ((⟨b, o, none⟩ : Addr).add (i * P.cellsOf e)) (P.cellsOf e) with
          | none => rw [hcs] at h8; cases h8
          | some us =>
            rw [hcs] at h8
            simp only [Option.bind_some] at h8
            obtain ⟨g1, g2⟩ := hget _ _ hcs
            exact ⟨us, g1, g2, n, _, h8⟩
      | _ => cases hsh
def oldZone (w : World) : Zone := ⟨fun j => j < w.heap.size, fun j => j < w.heap.size, fun _ h => h⟩
theorem kept_refl (w : World) : Kept (oldZone w) w w := ⟨rfl, rfl, rfl, Nat.le_refl _, fun _ h => h, fun _ _ => rfl⟩
theorem below_of {w0 w : World} (h : Kept (oldZone w0) w0 w) : Below w0.heap.size w0 w := ⟨h.os, h.tape, h.output, h.size, fun j hj => h.block j hj⟩
def argEnt (sz : Nat) : Value → Ent
  | .slice (some a) _ cap => ⟨a.block, a.off, cap, sz, false⟩
  | _ => ⟨0, 0, 0, sz, true⟩
def ArgRow {A : Type} (w : World) (sz : Nat) (f : A → List Value) (v : Value) (l : List A) : Prop :=
  (v = .slice none 0 0 ∧ l = []) ∨ ∃ (b o len cap : Nat) (cs : Array Value) (tt : TypeId) (fz : Nat × Nat), v = .slice (some ⟨b, o, none⟩) len cap ∧ w.heap[b]? = some (.cells cs tt fz) ∧ len = l.length ∧ len ≤ cap ∧ cap ≤ maxLen ∧ o + cap * sz ≤ cs.size ∧
    ∀ i c, l[i]? = some c → ∀ j, j < sz → cs[o + i * sz + j]? = (f c)[j]?
theorem argRow_of {b0 : Nat} {A : Type} {H : Type} {enc : TypeId × Value → H} {P : Program} {w : World} {t e : TypeId} {sz : Nat} {v : Value} {dd : DataW H} {p : List MemPlace} {f : A → List Value} (ht : P.underlying t = some (.slice e)) (hc : P.cellsOf e = sz) (h0 : 0 < sz)
    (hT : DataW.Trod enc P w 0 (fun _ => true) true t v dd p) (hok : Value.okWide P w .any b0 t v) (hf : ∀ n us y, DataW.trod enc P w 0 (fun _ => true) true n e us = some y → ∃ a, us = f a) : ∃ l : List A, ArgRow w sz f v l := by
  rcases slice_arg ht hc h0 hT hok with h | ⟨b, o, len, cap, cs, tt, fz, h1, h2, h3, h4, h5, h6⟩
  · exact ⟨[], .inl ⟨h, rfl⟩⟩
  · have hex : ∀ i, i < len → ∃ a : A, ∀ j, j < sz → cs[o + i * sz + j]? = (f a)[j]? := by
      intro i hi
      obtain ⟨us, g1, g2, n, y, g3⟩ := h6 i hi
      obtain ⟨a, rfl⟩ := hf n us y g3
      exact ⟨a, g2⟩
    refine ⟨(List.range len).attach.map (fun i => Classical.choose (hex i.1 (List.mem_range.1 i.2))), .inr ⟨b, o, len, cap, cs, tt, fz, h1, h2, by simp, h3, h4, h5, ?_⟩⟩
    intro i c hi j hj
    rw [List.getElem?_map] at hi
    obtain ⟨q, hq, rfl⟩ := Option.map_eq_some_iff.1 hi
    have hq1 : q.1 = i := by
      obtain ⟨hlt, hh⟩ := List.getElem?_eq_some_iff.1 hq
      rw [← hh]
      simp
    have := Classical.choose_spec (hex q.1 (List.mem_range.1 q.2)) j hj
    rw [← hq1]
    exact this
theorem ArgRow.conc {A : Type} {w : World} {sz : Nat} {f : A → List Value} {v : Value} {l : List A} (h : ArgRow w sz f v l) {e : Env} {b : Nat} (he : e b = some (argEnt sz v)) : (SV.slu b 0 l.length).conc e = some v := by
  rcases h with ⟨rfl, rfl⟩ | ⟨b', o, len, cap, cs, tt, fz, rfl, h2, rfl, h3, h4, h5, h6⟩
  · simp [SV.conc, he, argEnt, Ent.at]
  · simp [SV.conc, he, argEnt, Ent.at]
theorem flat_get {A : Type} {f : A → List Value} {sz : Nat} (hf : ∀ a, (f a).length = sz) : ∀ (l : List A) (i j : Nat), j < sz → (l.flatMap f)[i * sz + j]? = (l[i]?).bind (fun c => (f c)[j]?)
  | [], i, j, _ => by simp
  | a :: l, 0, j, hj => by
    rw [List.flatMap_cons, List.getElem?_append_left (by rw [hf]; omega)]
    simp
  | a :: l, i + 1, j, hj => by
    rw [List.flatMap_cons, List.getElem?_append_right (by rw [hf, Nat.add_mul]; omega), hf, show (i + 1) * sz + j - sz = i * sz + j by rw [Nat.add_mul]; omega, flat_get hf l i j hj]
    simp
theorem ArgRow.lies {A : Type} {w : World} {sz : Nat} {f : A → List Value} {v : Value} {l : List A} (h : ArgRow w sz f v l) (hf : ∀ a, (f a).length = sz) (h0 : 0 < sz) (rt : TypeId) (e : Env) : Lies (oldZone w) w e (dat true l.length sz rt (l.flatMap f)) (argEnt sz v) := by
  rcases h with ⟨rfl, rfl⟩ | ⟨b, o, len, cap, cs, tt, fz, rfl, h2, rfl, h3, h4, h5, h6⟩
  · exact .inr ⟨rfl, rfl, true, rt, _, rfl, h0⟩
  · refine .inl ⟨rfl, .cells cs tt fz, ⟨fun _ => lt_of_heap h2, fun h => by cases h⟩, h2, rfl, cs, fz, tt, rfl, h3, h5, h4, (fun h => by cases h), h0, fun i hi s hs => ?_⟩
    have hs' : ((l.flatMap f)[i]?).map SV.sc = some s := hs
    obtain ⟨u, hu, rfl⟩ := Option.map_eq_some_iff.1 hs'
    refine ⟨u, rfl, ?_⟩
    have hdm := Nat.div_add_mod i sz
    have hm := Nat.mod_lt i h0
    have e1 : i = i / sz * sz + i % sz := by rw [Nat.mul_comm]; omega
    rw [e1, flat_get hf l _ _ hm] at hu
    obtain ⟨c, hc, hcu⟩ := Option.bind_eq_some_iff.1 hu
    have := h6 (i / sz) c hc (i % sz) hm
    show cs[o + i]? = some u
    rw [e1, ← Nat.add_assoc, this]
    exact hcu
theorem St.init {w : World} {e : Env} {H : Heap} {nx : Nat} (h1 : ∀ id vo, H.at' id = some vo → vo.ro = true ∧ ∃ x, e id = some x ∧ Lies (oldZone w) w e vo x) (h2 : ∀ i, nx ≤ i → e i = none) : St (oldZone w) w e H nx w :=
  ⟨kept_refl w, fun id vo h => (h1 id vo h).2, fun id id' vo vo' x x' h _ _ _ _ _ _ hr _ => by (rw [(h1 id vo h).1] at hr; cases hr), h2⟩
end Go.Sy
end
section
namespace Go.Proofs.Ytfkfiafohcoomaa
open Go Go.Sy Go.ChangeShapes Go.WideShapes Go.ChangeAt Go.RowKit
theorem trod_int_is {H : Type} {enc : TypeId × Value → H} {P : Program} {w : World} {base : Nat} {sp : Nat → Bool} {held : Bool} {n : Nat} {t : TypeId} {k : IntKind} {cs : List Value} {y : DataW H × List MemPlace} (hu : P.underlying t = some (.int k)) (h : DataW.trod enc P w base sp held n t cs = some y) : ∃ x, cs = [.int k x] := by
  cases n with
  | zero => simp [DataW.trod] at h
  | succ n =>
    unfold DataW.trod at h
    rw [hu] at h
    split at h <;> simp_all
theorem trod_pl {H : Type} {enc : TypeId × Value → H} {w : World} {base : Nat} {sp : Nat → Bool} {held : Bool} {n : Nat} {us : List Value} {y : DataW H × List MemPlace} (h : DataW.trod enc Try.prog w base sp held n 25 us = some y) : ∃ a : Int × Int, us = plV a := by
  obtain ⟨f, g, hl, _, f2, f3, _, g2, g3⟩ := fPl2
  have ht : Try.prog.underlying 25 = some (.struct #[f, g]) := by
    rw [uPl, show Try.prog.fieldsOf 25 = #[f, g] from Array.ext' hl]
  have hu : Try.prog.underlying 23 = some (.int .u64) := by kernel_rfl
  have h1 : Try.prog.cellsOf 23 = 1 := by kernel_rfl
  have h2 : Try.prog.cellsOf 25 = 2 := by kernel_rfl
  obtain ⟨y0, y1, m, _, hlen, g4, g5⟩ := trod_struct2 ht h
  rw [f2, f3, h1] at g4
  rw [g2, g3, h1] at g5
  rw [h2] at hlen
  obtain ⟨a, ha⟩ := trod_int_is hu g4
  obtain ⟨b, hb⟩ := trod_int_is hu g5
  rcases us with _ | ⟨x, _ | ⟨z, _ | ⟨_, _⟩⟩⟩
  · simp at hlen
  · simp at hlen
  · simp at ha hb
    exact ⟨(a, b), by rw [ha, hb]; rfl⟩
  · simp at hlen
set_option maxRecDepth 100000 in
theorem arg_pl {b0 : Nat} {H : Type} {enc : TypeId × Value → H} {w : World} {sp : Nat → Bool} {held : Bool} {v : Value} {d : DataW H} {p : List MemPlace} (h : DataW.Trod enc Try.prog w 0 sp held 25 v d p) (hok : Value.okWide Try.prog w .any b0 25 v) : ∃ a : Int × Int, v = .agg #[.int .u64 a.1, .int .u64 a.2] := by
  obtain ⟨cs, rfl, _⟩ := okWide_struct uPl hok
  obtain ⟨n, h⟩ := h
  obtain ⟨a, ha⟩ := trod_pl h
  exact ⟨a, congrArg Value.agg (Array.ext' ha)⟩
theorem own : ownKnob Try.prog.godebug = none := by kernel_rfl
theorem laid : laidOutB Try.prog = true := by kernel_rfl
end Go.Proofs.Ytfkfiafohcoomaa
end
section
namespace Go.Proofs.Ytfkfiafohcoomaa
open Go Go.Sy Go.ChangeShapes Go.WideShapes Go.ChangeAt Go.RowKit
theorem trod_in {H : Type} {enc : TypeId × Value → H} {w : World} {base : Nat} {sp : Nat → Bool} {held : Bool} {n : Nat} {us : List Value} {y : DataW H × List MemPlace} (h : DataW.trod enc Try.prog w base sp held n 3 us = some y) : ∃ a : Int, us = inV a :=
  trod_int_is (F.un 3 rfl) h
theorem uTd : Try.prog.underlying 49 = some (.struct (Try.prog.fieldsOf 49)) := by kernel_rfl
def fdsTd : List (Bool × TypeId × Nat) := [(true, 3, 0), (true, 25, 1)]
theorem fTd : (Try.prog.fieldsOf 49).toList.map (fun f => (f.name != "_", f.type, f.offset)) = fdsTd := by kernel_rfl
theorem fTd2 : ∃ f g : Field, (Try.prog.fieldsOf 49).toList = [f, g] ∧ f.type = 3 ∧ f.offset = 0 ∧ g.type = 25 ∧ g.offset = 1 := by
  have h := fTd
  generalize (Try.prog.fieldsOf 49).toList = l at h
  have hl : l.length = 2 := by simpa [fdsTd] using congrArg List.length h
  rcases l with _ | ⟨f, _ | ⟨g, _ | ⟨x, l⟩⟩⟩
  · simp at hl
  · simp at hl
  · simp only [List.map_cons, List.map_nil, fdsTd, List.cons.injEq, Prod.mk.injEq, and_true, bne_iff_ne] at h
    exact ⟨f, g, rfl, h.1.2.1, h.1.2.2, h.2.2.1, h.2.2.2⟩
  · simp at hl
theorem trod_td {H : Type} {enc : TypeId × Value → H} {w : World} {base : Nat} {sp : Nat → Bool} {held : Bool} {n : Nat} {us : List Value} {y : DataW H × List MemPlace} (h : DataW.trod enc Try.prog w base sp held n 49 us = some y) : ∃ a : Td, us = tdV a := by
  obtain ⟨f, g, hl, f2, f3, g2, g3⟩ := fTd2
  have ht : Try.prog.underlying 49 = some (.struct #[f, g]) := by
    rw [uTd, show Try.prog.fieldsOf 49 = #[f, g] from Array.ext' hl]
  have h1 : Try.prog.cellsOf 3 = 1 := by kernel_rfl
  have h2 : Try.prog.cellsOf 25 = 2 := by kernel_rfl
  have h3 : Try.prog.cellsOf 49 = 3 := by kernel_rfl
  obtain ⟨y0, y1, m, _, hlen, g4, g5⟩ := trod_struct2 ht h
  rw [f2, f3, h1] at g4
  rw [g2, g3, h2] at g5
  rw [h3] at hlen
  obtain ⟨a, ha⟩ := trod_in g4
  obtain ⟨b, hb⟩ := trod_pl g5
  rcases us with _ | ⟨x, _ | ⟨z, _ | ⟨u, _ | ⟨_, _⟩⟩⟩⟩
  · simp at hlen
  · simp at hlen
  · simp at hlen
  · simp [inV] at ha
    simp [plV] at hb
    exact ⟨(a, b), by simp [tdV, ha, hb]⟩
  · simp at hlen
end Go.Proofs.Ytfkfiafohcoomaa
end
section
namespace Go.Sy
open Go Go.Sl Go.RowKit
section
variable {P : Program} {ro : Option Nat} {fn nt nx : Nat} {T : Tr SV} {k : List AIt} {dfs : List ADf} {H : Heap} {Q : Pst} {ops : Array Oper} {i : Nat} {l : List Oper} {d : Option Tmp} {ty : TypeId} {pos : String} {af : Array Edge} {gd : Option (Nat × Bool)}
theorem rd_assert {x : Operand} {xt t : TypeId} {v : SV} {d0 : TypeDesc} (hx : evalS T x = some (.ifc t v)) (hu : P.underlying t = some d0) (hn : (match d0 with | .interface _ => false | _ => true) = true) :
    ReadDoes P T H ⟨d, .typeAssert x xt t false, ty, pos, af, gd⟩ v := by
  intro K w0 e nx w ev hS hE
  have hc := hE x _ hx
  simp only [SV.conc, Option.map_eq_some_iff] at hc
  obtain ⟨u, hu1, hu2⟩ := hc
  refine ⟨u, hu1, ?_⟩
  have : (Instr.typeAssert (.iface t u) xt t false).run P w = .ok u w := by
    cases d0 <;> first | (simp at hn; done) | (simp [Instr.typeAssert, run_underlying hu]; done)
  simp only [execOp, ← hu2, Sem.run_bind, this, Result.andThen_ok, Sem.run_pure]
theorem op_mclone {K V : Type} {enc : K → Value} {val : V → SV} {m : List (K × V × Nat)} {c : Nat} {g : FuncId} {F : Func} {x : Operand} {t : TypeId} {b : Nat} {ats : Array TypeId} (hF : P.funcs[g]? = some F) (hb0 : F.body.isNone = true) (hn : F.name = "maps.clone") (h1 : Extern.findNext F = none) (h2 : Extern.find F = some Extern.MapsClone.clone)
    (hx : evalS T x = some (.ifc t (.mp b))) (hb : H.at' b = some (mapV enc val m c)) : OpDoes P T H nx ⟨d, .call { callee := .value (.func g), args := #[x], argTypes := ats }, ty, pos, af, gd⟩ (.val (.ifc t (.mp nx)), H.set nx (mapV enc val m c), nx + 1) := by
  intro K w0 e w ev hS hE
  have hc := hE x _ hx
  simp only [SV.conc, Option.map_eq_some_iff] at hc
  obtain ⟨u, ⟨y, hy, rfl⟩, hu2⟩ := hc
  have hfun := hE (.func g) _ rfl
  simp only [SV.conc, Option.some.injEq] at hfun
  obtain ⟨hn0, o, hK, ho, es, rfl, hes⟩ := hS.at hb hy (fun _ _ _ _ _ h => by cases h)
  have hf := hS.fresh nx (Nat.le_refl _)
  refine alloc_does (o := .map es c) (x := ⟨w.heap.size, 0, 0, 1, false⟩) (w' := { w with heap := w.heap.push (.map es c) }) (v := .iface t (.map (some w.heap.size))) hS rfl rfl rfl rfl rfl rfl rfl ⟨es, rfl, hes.mono (Env.le_put hf)⟩ (by simp [SV.conc, Env.put_same]) ?_
  have hg := Go.MapKept.run_getObj_map (P := P) ho
  have hcl : (Extern.MapsClone.clone #[.iface t (.map (some y.blk))]).run P w = .ok (.iface t (.map (some w.heap.size))) { w with heap := w.heap.push (.map es c) } := by
    obtain ⟨g0, e1, e2⟩ : ∃ g0 : Obj → Sem Value, Extern.MapsClone.clone #[.iface t (.map (some y.blk))] = (getObj y.blk >>= g0) ∧ ∀ es c, g0 (.map es c) = (do pure (.iface t (.map (some (← newObj (.map es c)))))) := ⟨_, rfl, fun _ _ => rfl⟩
    rw [e1]
    simp only [Sem.run_bind, hg, Result.andThen_ok, e2]
    simp
  have hcf : (callFunc g #[.iface t (.map (some y.blk))]).run P w = .ok (.value (.iface t (.map (some w.heap.size)))) { w with heap := w.heap.push (.map es c) } := by
    have hnn : (F.name == "runtime.NumGoroutine") = false := by rw [hn]; decide
    unfold callFunc
    simp only [Sem.run_bind, run_program, Result.andThen_ok, hF, hnn, hb0, if_true, Bool.false_eq_true, if_false, h1, h2]
    simp [hcl]
  simp [execOp, resolve, ← hfun, ← hu2, Deferred.ofValue, invoke, hcf]
end
section
variable {P : Program} {ro : Option Nat} {fn nt nx : Nat} {T : Tr SV} {k : List AIt} {dfs : List ADf} {H : Heap} {Q : Pst} {ops : Array Oper} {i : Nat} {l : List Oper} {ty : TypeId} {pos : String} {af : Array Edge} {gd : Option (Nat × Bool)}
theorem w_assert {x : Operand} {xt t : TypeId} {v : SV} {d0 : TypeDesc} {dd : Nat} (hw : wantedS T ops ⟨some dd, .typeAssert x xt t false, ty, pos, af, gd⟩ = some true) (hd : Nat.blt dd nt = true) (hx : evalS T x = some (.ifc t v)) (hu : P.underlying t = some d0) (hn : (match d0 with | .interface _ => false | _ => true) = true)
    (h : Wp P ro ⟨fn, nt, T.set dd v, .inReg ops (i + 1) l :: k, dfs, H, nx⟩ Q) : Wp P ro ⟨fn, nt, T, .inReg ops i (⟨some dd, .typeAssert x xt t false, ty, pos, af, gd⟩ :: l) :: k, dfs, H, nx⟩ Q :=
  y_val hw (.inr (fun _ h => by cases h)) (rd_assert hx hu hn).does (by rw [putS_some hd]; exact h)
theorem w_makeI {x : Operand} {t : TypeId} {v : SV} {d0 : TypeDesc} {dd : Nat} (hw : wantedS T ops ⟨some dd, .makeInterface t x, ty, pos, af, gd⟩ = some true) (hd : Nat.blt dd nt = true) (hx : evalS T x = some v) (hu : P.underlying t = some d0) (hn : (match d0 with | .interface _ => false | _ => true) = true)
    (h : Wp P ro ⟨fn, nt, T.set dd (ifaceV t v), .inReg ops (i + 1) l :: k, dfs, H, nx⟩ Q) : Wp P ro ⟨fn, nt, T, .inReg ops i (⟨some dd, .makeInterface t x, ty, pos, af, gd⟩ :: l) :: k, dfs, H, nx⟩ Q :=
  y_val hw (.inr (fun _ h => by cases h)) (rd_makeInterface hx (by unfold ifaceS; rw [hu]; cases d0 <;> first | rfl | simp at hn)).does (by rw [putS_some hd]; exact h)
theorem w_mclone {K V : Type} {enc : K → Value} {val : V → SV} {m : List (K × V × Nat)} {c : Nat} {g : FuncId} {F : Func} {x : Operand} {t : TypeId} {b : Nat} {ats : Array TypeId} {dd : Nat} (hw : wantedS T ops ⟨some dd, .call { callee := .value (.func g), args := #[x], argTypes := ats }, ty, pos, af, gd⟩ = some true) (hd : Nat.blt dd nt = true)
    (hF : P.funcs[g]? = some F) (hb0 : F.body.isNone = true) (hn : F.name = "maps.clone") (h1 : Extern.findNext F = none) (h2 : Extern.find F = some Extern.MapsClone.clone) (hx : evalS T x = some (.ifc t (.mp b))) (hb : H.at' b = some (mapV enc val m c))
    (h : Wp P ro ⟨fn, nt, T.set dd (.ifc t (.mp nx)), .inReg ops (i + 1) l :: k, dfs, H.set nx (mapV enc val m c), nx + 1⟩ Q) :
    Wp P ro ⟨fn, nt, T, .inReg ops i (⟨some dd, .call { callee := .value (.func g), args := #[x], argTypes := ats }, ty, pos, af, gd⟩ :: l) :: k, dfs, H, nx⟩ Q :=
  y_val hw (.inr (fun _ h => by cases h)) (op_mclone hF hb0 hn h1 h2 hx hb) (by rw [putS_some hd]; exact h)
end
end Go.Sy
end
section
namespace Go.Proofs.Ytfkfiafohcoomaa
open Go Go.Sy Go.Sl Go.RowKit
abbrev collK_f : Int → List Value := fun x => [.int .i64 x]
theorem collK_rec : RecOf collK_f 1 := recOne (fun _ => rfl)
abbrev collK_row (ro : Bool) (l : List Int) : VO := dat ro l.length 1 3 (l.flatMap collK_f)
set_option maxRecDepth 100000 in
theorem collK_keys {V : Type} (val : V → SV) (m : List (Int × V × Nat)) (c : Nat) {H : Heap} {nx b : Nat} : Fnc Try.prog 41 [.mp b] H nx
    (fun r => r = (.fn (.func 52) [] [.ptr nx 0], H.set nx (newCells 63 [.mp b]), nx + 1)) := by
  refine Fnc.start Try.func41 rfl rfl ?_
  (repeat (first | refine y_seq ?_ | refine w_region ?_ | refine y_regEnd ?_ | refine w_assign rfl rfl rfl ?_ | refine w_makeFunc rfl rfl rfl rfl ?_ | refine w_box rfl rfl rfl rfl ?_))
  apply w_ret Try.func41 (congrArg Array.toList Try.results41)
  · (repeat (first | exact ResIs.nil | apply ResIs.tmp rfl))
  rfl
set_option maxRecDepth 100000 in
set_option maxHeartbeats 0 in
theorem collK {V : Type} (val : V → SV) (m : List (Int × V × Nat)) (c : Nat) (hok : KOk m c) (hl : m.length < 1000000) {H : Heap} {nx bx b : Nat} (hbx : H.at' bx = some (newCells 63 [.mp b])) (hb : H.at' b = some (mapV (fun x => .int .i64 x) val m c)) (g1 : bx < nx) (g2 : b < nx) :
    Fnc Try.prog 50 [.fn (.func 52) [] [.ptr bx 0]] H nx
      (fun r => ∃ (done : List (Int × V × Nat)) (nm : Nat), done.Perm m ∧ r.1 = .slu nm 0 (done.map (·.1)).length ∧ nx ≤ nm ∧ nm < r.2.2 ∧ r.2.1.at' nm = some (collK_row false (done.map (·.1))) ∧ ∀ n, n < nx → r.2.1.at' n = H.at' n) := by
  refine Fnc.start Try.func50 rfl rfl ?_
  (repeat (first | refine y_seq ?_ | refine w_region ?_ | refine y_regEnd ?_ | refine w_move rfl rfl rfl ?_ | refine w_assign rfl rfl rfl ?_))
  refine w_call rfl rfl rfl (by kernel_rfl) ?_
  refine Fnc.start Try.func64 rfl rfl ?_
  refine y_nilRow (d := 0) 1 3 rfl rfl ?_
  (repeat (first | refine y_seq ?_ | refine w_region ?_ | refine y_regEnd ?_ | refine y_block ?_ | refine w_move rfl rfl rfl ?_ | refine w_assign rfl rfl rfl ?_ | refine w_box rfl rfl rfl rfl ?_))
  refine y_rangeFunc [(2, .ptr (nx + 1) 0)] rfl rfl (by kernel_rfl) (SlIn.sub ⟨rfl, trivial⟩) ?_
  intro cA cB hcA hcB
  refine Fnc.start Try.func52 rfl rfl ?_
  (repeat (first | (first | refine y_seq ?_ | refine w_region ?_ | refine y_regEnd ?_ | refine y_block ?_ | refine w_loadB1 rfl rfl rfl (F.ag _ rfl) (by (focus ((repeat (refine (Tr.at_set_other _ _ (by omega)).trans ?_)); first | exact Tr.at_set_same _ _ _ | assumption))) (by exact rfl) ?_) | (refine w_range (b := b) (m := m) (c := c) (enc := fun x => .int .i64 x) (val := val) rfl rfl rfl (F.un _ rfl) (by (focus ((repeat (refine (Tr.at_set_other _ _ (by omega)).trans ?_)); first | exact Tr.at_set_same _ _ _ | assumption))) ?_)))
  refine y_loopT (α := List (Int × V × Nat)) (fun _ => [(0, .yld (nx + 1 + 1 + 1)), (1, .ptr bx 0), (5, .ptr (nx + 1 + 1 + 1 + 1) 0)]) (fun done H1 nx1 => (done.Nodup ∧ ∀ x ∈ done, x ∈ m) ∧ nx + 1 + 1 + 1 + 1 + 1 ≤ nx1 ∧ (∀ n, n < nx → H1.at' n = H.at' n) ∧ H1.at' (nx + 1 + 1) = some (.dfd (some [])) ∧ H1.at' (nx + 1 + 1 + 1) = some (.loop .ready none 64 13 (slT [(2, .ptr (nx + 1) 0)]) #[7] cA cB (nx + 1 + 1))
      ∧ H1.at' (nx + 1 + 1 + 1 + 1) = some (itV b c done) ∧ ∃ r, r < nx1 ∧ (r = nx ∨ nx + 1 + 1 + 1 + 1 + 1 ≤ r) ∧ H1.at' (nx + 1) = some (newCells 37 [.slu r 0 (done.map (·.1)).length]) ∧ H1.at' r = some (collK_row false (done.map (·.1)))) (fun done => m.length - done.length) []
    ⟨⟨List.nodup_nil, fun _ h => by cases h⟩, Nat.le_refl _, fun n hn => by (focus ((repeat (refine (Tr.at_set_other _ _ (by omega)).trans ?_)); exact rfl)), by (focus ((repeat (refine (Tr.at_set_other _ _ (by omega)).trans ?_)); first | exact Tr.at_set_same _ _ _ | assumption)), by (focus ((repeat (refine (Tr.at_set_other _ _ (by omega)).trans ?_)); first | exact Tr.at_set_same _ _ _ | assumption)), by (focus (skip; first | exact Tr.at_set_same _ _ _ | assumption)), nx, by omega, .inl rfl, by (focus ((repeat (refine (Tr.at_set_other _ _ (by omega)).trans ?_)); first | exact Tr.at_set_same _ _ _ | assumption)), by (focus ((repeat (refine (Tr.at_set_other _ _ (by omega)).trans ?_)); first | exact Tr.at_set_same _ _ _ | assumption))⟩ (SlIn.sub ⟨rfl, rfl, rfl, trivial⟩) ?_
  rintro done H1 nx1 ⟨hdn, hnx, hold, h4, h5, h6, r, hr, hr2, h3, hrow⟩ ih
  have hlen := nodup_len done m hdn.1 hdn.2
  have hb1 : H1.at' b = some (mapV (fun x => .int .i64 x) val m c) := (hold b g2).trans hb
  have hbx1 : H1.at' bx = some (newCells 63 [.mp b]) := (hold bx g1).trans hbx
  (repeat (first | refine y_seq ?_ | refine w_region ?_))
  refine w_next (b := b) (m := m) (c := c) (enc := fun x => .int .i64 x) (val := val) (done := done) rfl rfl rfl ?_ ?_ hok hdn ?_ ?_
  · (focus (skip; first | exact Tr.at_set_same _ _ _ | assumption))
  · (focus (skip; first | exact Tr.at_set_same _ _ _ | assumption))
  · intro hp
    (repeat (first | refine y_seq ?_ | refine y_regEnd ?_ | refine y_exit rfl ?_ | refine y_condF rfl ?_ | refine w_extractV rfl rfl rfl rfl ?_))
    apply w_end Try.func52 (congrArg Array.toList Try.results52) ResIs.nil
    dsimp only
    refine y_endRange h5 (fun h => by cases h) ?_
    (repeat (first | refine y_seq ?_ | refine w_region ?_ | refine y_regEnd ?_ | refine y_inBlock ?_ | refine w_assign rfl rfl rfl ?_ | refine w_loadB1 rfl rfl rfl (F.ag _ rfl) (by (focus ((repeat (refine (Tr.at_set_other _ _ (by omega)).trans ?_)); first | exact Tr.at_set_same _ _ _ | assumption))) (by exact rfl) ?_))
    refine y_retT Try.func64 (congrArg Array.toList Try.results64) (rs := [nx + 1 + 1]) rfl (fun r hr => by rw [List.mem_singleton] at hr; subst hr; (focus ((repeat (refine (Tr.at_set_other _ _ (by omega)).trans ?_)); first | exact Tr.at_set_same _ _ _ | assumption))) (by simp) ?_
    intro H2 hH2
    refine ⟨_, (by (repeat (first | exact ResIs.nil | apply ResIs.tmp rfl))), ?_⟩
    dsimp only
    (repeat (first | refine y_regEnd ?_ | refine w_assign rfl rfl rfl ?_))
    apply w_ret Try.func50 (congrArg Array.toList Try.results50)
    · (repeat (first | exact ResIs.nil | apply ResIs.tmp rfl))
    refine ⟨done, r, hp, rfl, by omega, hr, ?_, fun n hn => ?_⟩
    · exact (hH2 r (by simp; omega)).trans (by (focus ((repeat (refine (Tr.at_set_other _ _ (by omega)).trans ?_)); first | exact Tr.at_set_same _ _ _ | assumption)))
    · refine (hH2 n (by simp; omega)).trans ((Tr.at_set_other _ _ (by omega)).trans (hold n hn))
  · intro x hx hxn hdn2
    have hlm : (done.map (·.1)).length = done.length := List.length_map ..
    have hlen2 := nodup_len _ m hdn2.1 hdn2.2
    rw [List.length_append, List.length_singleton] at hlen2
    (repeat (first | (first | refine y_seq ?_ | refine w_region ?_ | refine y_regEnd ?_ | refine y_block ?_ | refine y_skip ?_ | refine y_condT rfl ?_ | refine w_move rfl rfl rfl ?_ | refine w_assign rfl rfl rfl ?_ | refine w_extract rfl rfl rfl rfl ?_) | (refine w_entry (b := b) (m := m) (c := c) (enc := fun x => .int .i64 x) (val := val) (x := x) (done := done) rfl rfl rfl ?_ ?_ hok hx ?_; (focus (skip; first | exact Tr.at_set_same _ _ _ | assumption)); (focus ((repeat (refine (Tr.at_set_other _ _ (by omega)).trans ?_)); first | exact Tr.at_set_same _ _ _ | assumption)))))
    refine w_round (n := nx + 1 + 1 + 1) rfl rfl rfl rfl (by (focus ((repeat (refine (Tr.at_set_other _ _ (by omega)).trans ?_)); first | exact Tr.at_set_same _ _ _ | assumption))) (by exact rfl) ?_
    refine y_cast hcA ?_
    (repeat (first | refine w_region ?_ | refine y_regEnd ?_ | refine w_assign rfl rfl rfl ?_))
    refine y_begin (by (focus ((repeat (refine (Tr.at_set_other _ _ (by omega)).trans ?_)); first | exact Tr.at_set_same _ _ _ | assumption))) ?_
    refine y_cast hcB ?_
    (repeat (first | (first | refine w_region ?_ | refine y_block ?_ | refine w_move rfl rfl rfl ?_ | refine w_loadB1 rfl rfl rfl (F.ag _ rfl) (by (focus ((repeat (refine (Tr.at_set_other _ _ (by omega)).trans ?_)); first | exact Tr.at_set_same _ _ _ | assumption))) (by exact rfl) ?_) | refine w_buildSlice rfl rfl (F.un _ rfl) (F.sz _ rfl) rfl (F.ze _ rfl) rfl rfl rfl rfl rfl ?_))
    refine w_push (b := 8) (xs := done.map (·.1)) (a := x.1) rfl rfl rfl rfl (F.un _ rfl) (.inl ⟨_, F.un _ rfl⟩) (F.sz _ rfl) rfl (by kernel_rfl) (by kernel_rfl) (by (focus ((repeat (refine (Tr.at_set_other _ _ (by omega)).trans ?_)); first | exact Tr.at_set_same _ _ _ | assumption))) (by (focus (skip; first | exact Tr.at_set_same _ _ _ | assumption))) (by exact rfl) (collK_rec) (by omega) (by omega) ?_
    (repeat (first | refine y_regEnd ?_ | refine y_inBlock ?_ | refine w_storeC rfl rfl rfl rfl (F.sz _ rfl) (by first | exact rfl | (focus ((repeat (first | refine (Tr.at_set_other _ _ (by omega)).trans ?_ | refine (Tr.at_del_other _ (by omega)).trans ?_)); first | exact Tr.at_set_same _ _ _ | assumption))) rfl (by exact Nat.le_of_ble_eq_true rfl) rfl ?_))
    refine y_roundEnd (by (focus ((repeat (first | refine (Tr.at_set_other _ _ (by omega)).trans ?_ | refine (Tr.at_del_other _ (by omega)).trans ?_)); first | exact Tr.at_set_same _ _ _ | assumption))) ?_
    dsimp only
    (repeat (first | refine y_regEnd ?_ | refine y_inBlock ?_ | refine y_skip ?_ | refine y_condF rfl ?_ | refine w_notB rfl rfl rfl ?_))
    have e : done.map (·.1) ++ [x.1] = (done ++ [x]).map (·.1) := by simp
    refine ih _ _ _ (done ++ [x]) ⟨hdn2, by omega, fun n hn => ?_, by (focus ((repeat (first | refine (Tr.at_set_other _ _ (by omega)).trans ?_ | refine (Tr.at_del_other _ (by omega)).trans ?_)); first | exact Tr.at_set_same _ _ _ | assumption)), by (focus (skip; first | exact Tr.at_set_same _ _ _ | assumption)), by (focus ((repeat (first | refine (Tr.at_set_other _ _ (by omega)).trans ?_ | refine (Tr.at_del_other _ (by omega)).trans ?_)); first | exact Tr.at_set_same _ _ _ | assumption)), nx1 + 1, by omega, .inr (by omega), ?_, ?_⟩ (by simp only [List.length_append, List.length_singleton]; omega) (SlIn.sub ⟨rfl, rfl, rfl, trivial⟩)
    · (focus ((repeat (first | refine (Tr.at_set_other _ _ (by omega)).trans ?_ | refine (Tr.at_del_other _ (by omega)).trans ?_)); exact hold n hn))
    · rw [← e]
      (focus ((repeat (refine (Tr.at_set_other _ _ (by omega)).trans ?_)); first | exact Tr.at_set_same _ _ _ | assumption))
    · rw [← e]
      (focus ((repeat (refine (Tr.at_set_other _ _ (by omega)).trans ?_)); first | exact Tr.at_set_same _ _ _ | assumption))
end Go.Proofs.Ytfkfiafohcoomaa
end
section
namespace Go.Proofs.Ytfkfiafohcoomaa
open Go Go.Sy Go.Sl Go.RowKit
abbrev oIV : Int → List Value := fun x => [.int .i64 x]
abbrev oIrow (n : Nat) (d : Array Int) : VO := arr false n 1 3 oIV d
def oIlt (x y : Int) : Bool := decide (x < y)
set_option maxRecDepth 100000 in
theorem oInan (a : Int) : Ctr Try.prog 84 [.sc (.int .i64 a)] [] (fun c => c = ⟨.sc (.bool false), []⟩) := by
  refine Fnc.start Try.func84 rfl rfl ?_
  (repeat (first | (first | refine y_seq ?_ | refine w_region ?_ | refine y_regEnd ?_ | refine w_move rfl rfl rfl ?_ | refine w_assign rfl rfl rfl ?_) | refine w_neq rfl rfl rfl rfl ?_))
  (apply w_ret Try.func84 (congrArg Array.toList Try.results84); (focus (repeat (first | exact ResIs.nil | apply ResIs.tmp rfl))))
  (refine ⟨_, rfl, Ends.val (ExtOk.of rfl) rfl ?_ ?_⟩)
  · simp
  · trivial
set_option maxRecDepth 100000 in
theorem oIless (a b : Int) : Ctr Try.prog 77 [.sc (.int .i64 a), .sc (.int .i64 b)] [] (fun c => c = ⟨.sc (.bool (oIlt a b)), []⟩) := by
  refine Fnc.start Try.func77 rfl rfl ?_
  (repeat (first | (first | refine y_seq ?_ | refine w_region ?_ | refine y_regEnd ?_ | refine w_move rfl rfl rfl ?_ | refine w_assign rfl rfl rfl ?_ | refine w_pickF rfl rfl rfl rfl ?_ | refine w_not rfl ?_) | refine w_callV (oInan _) [] rfl rfl rfl (by kernel_rfl) rfl (ExtOk.of rfl) rfl trivial ?_ | refine w_lss rfl rfl rfl rfl ?_))
  (apply w_ret Try.func77 (congrArg Array.toList Try.results77); (focus (repeat (first | exact ResIs.nil | apply ResIs.tmp rfl))))
  (refine ⟨_, rfl, Ends.val (ExtOk.of rfl) rfl ?_ ?_⟩)
  · rfl
  · trivial
set_option maxRecDepth 100000 in
set_option maxHeartbeats 0 in
theorem oIins (n a b : Nat) (d : Array Int) (hn : n < 4611686018427387904) (hd : d.size = n) (hab : a ≤ b) (hb : b ≤ n) :
    Ctr Try.prog 71 [.slu 0 0 n, .sc (.int .i64 (a : Int)), .sc (.int .i64 (b : Int))] [oIrow n d] (fun c => c = ⟨.tup [], [some (oIrow n (Sort.insertionSort oIlt d a b))]⟩) := by
  refine Fnc.start Try.func71 rfl rfl ?_
  (repeat (first | refine y_seq ?_ | refine w_region ?_ | refine y_regEnd ?_ | refine y_block ?_ | refine w_move rfl rfl rfl ?_ | refine w_assign rfl rfl rfl ?_ | refine w_add rfl rfl rfl rfl (by omega) (by omega) ?_))
  refine y_loopC 1 (fun s : Nat × Array Int => [(0, .slu 0 0 n), (1, .sc (.int .i64 (a : Int))), (2, .sc (.int .i64 (b : Int))), (6, .sc (.int .i64 (s.1 : Int)))]) (fun s => [some (oIrow n s.2)]) (fun s => s.1 ≤ n + 1 ∧ a < s.1 ∧ s.2.size = n ∧ Sort.insOuter oIlt a b s.1 s.2 = Sort.insertionSort oIlt d a b) (fun s => n + 1 - s.1) (a + 1, d) []
    (fun _ => rfl) ⟨by omega, by omega, hd, rfl⟩ ?_ (fun _ => rfl) (fun _ => rfl) ?_
  · (refine ⟨(ExtOk.of rfl), rfl, (by repeat (first | exact trivial | refine ⟨rfl, ?_⟩)), (by repeat (first | exact trivial | refine ⟨at_dat rfl, ?_⟩))⟩)
  rintro ⟨i, d1⟩ ⟨hi, hai, hd1, ho⟩ ih
  simp only at hi hai hd1 ho ih ⊢
  (repeat (first | refine y_seq ?_ | refine w_region ?_ | refine w_move rfl rfl rfl ?_))
  refine w_lssS rfl rfl rfl rfl ?_ ?_
  all_goals intro h1
  · (repeat (first | refine y_seq ?_ | refine w_region ?_ | refine y_regEnd ?_ | refine y_block ?_ | refine y_skip ?_ | refine y_condT rfl ?_ | refine w_move rfl rfl rfl ?_ | refine w_assign rfl rfl rfl ?_))
    have ho2 : Sort.insOuter oIlt a b (i + 1) (Sort.insInner oIlt a i d1) = Sort.insertionSort oIlt d a b := by
      rw [← ho]
      conv => rhs; rw [Sort.insOuter, if_pos (by omega)]
    refine y_loopC 1 (fun s : Nat × Array Int => [(0, .slu 0 0 n), (1, .sc (.int .i64 (a : Int))), (2, .sc (.int .i64 (b : Int))), (6, .sc (.int .i64 (i : Int))), (7, .sc (.int .i64 (s.1 : Int)))]) (fun s => [some (oIrow n s.2)]) (fun s => s.1 ≤ i ∧ s.2.size = n ∧ Sort.insInner oIlt a s.1 s.2 = Sort.insInner oIlt a i d1) (fun s => s.1) (i, d1) []
      (fun _ => rfl) ⟨by omega, hd1, rfl⟩ ?_ (fun _ => rfl) (fun _ => rfl) ?_
    · (refine ⟨(ExtOk.of rfl), rfl, (by repeat (first | exact trivial | refine ⟨rfl, ?_⟩)), (by repeat (first | exact trivial | refine ⟨at_dat rfl, ?_⟩))⟩)
    rintro ⟨j, d2⟩ ⟨hj, hd2, hin⟩ ihj
    simp only at hj hd2 hin ihj ⊢
    (repeat (refine y_seq ?_))
    refine w_draw (by kernel_rfl) (by kernel_rfl) ?_
    (repeat (refine dw_move rfl rfl rfl ?_))
    refine dw_gtrS rfl rfl rfl rfl ?_ ?_
    all_goals intro h2
    · obtain ⟨j, rfl⟩ : ∃ j', j = j' + 1 := ⟨j - 1, by omega⟩
      have hls := oIless d2[j + 1]! d2[j]!
      cases h3 : oIlt d2[j + 1]! d2[j]!
      all_goals rw [h3] at hls
      all_goals (repeat (first | refine dw_move rfl rfl rfl ?_ | refine dw_pickT rfl rfl rfl rfl ?_ | refine dw_sub rfl rfl rfl rfl (by omega) (by omega) ?_ | refine dw_idxN (q := j + 1) rfl rfl rfl rfl (F.un _ rfl) (F.sz _ rfl) rfl (by omega) (by omega) (by omega) ?_ | refine dw_idxN (q := j) rfl rfl rfl rfl (F.un _ rfl) (F.sz _ rfl) rfl (by omega) (by omega) (by omega) ?_ | (refine dw_ldS (g := fun x => .int .i64 x) rfl rfl rfl (F.ag _ rfl) rfl (by omega) (by omega) ?_) | refine dk_call rfl rfl rfl (by kernel_rfl) (Ctr.callV (hls) [] rfl (ExtOk.of rfl) rfl trivial rfl) ?_))
      · (refine dk_nil ?_); (refine ⟨by kernel_rfl, ?_, ?_⟩); (focus (repeat (first | exact trivial | refine ⟨.inl rfl, ?_⟩ | refine ⟨.inr (by (repeat (refine ⟨(by first | exact rd_not rfl | exact rd_cmp rfl rfl (.inr (.inr (.inr (.inr (.inl ⟨rfl, rfl⟩))))) | exact rd_idxN (F.un _ rfl) (F.sz _ rfl) rfl rfl rfl (by omega) (by omega) (by omega) | exact rd_arith rfl rfl (.inl ⟨rfl, (Go.IntWalk.i64_in _ ⟨by omega, by omega⟩).symm⟩) | exact rd_arith rfl rfl (.inr (.inl ⟨rfl, (Go.IntWalk.i64_in _ ⟨by omega, by omega⟩).symm⟩)) | exact rd_fieldAddr (F.fo _ _ rfl rfl) rfl | exact rd_move rfl | exact rd_assign rfl | exact rd_load1 (F.ag _ rfl) rfl rfl (cell_box rfl) | exact rd_loadN (F.ag _ rfl) rfl rfl (cellsFrom_box _ 0 rfl rfl) | exact rd_extract rfl rfl | exact rd_lenSl (F.un _ rfl) rfl | exact rd_lenStr (F.un _ rfl) rfl | exact rd_nilCheck rfl | exact rd_pickT rfl rfl | exact rd_pickF rfl rfl), ?_⟩)); exact trivial), ?_⟩ | refine ⟨.inl (by kernel_rfl), ?_⟩)))
        (repeat (first | refine w_region ?_ | refine y_regEnd ?_ | refine y_inBlock ?_ | refine y_exit rfl ?_ | refine y_condF rfl ?_ | refine w_move rfl rfl rfl ?_ | refine w_assign rfl rfl rfl ?_ | refine w_add rfl rfl rfl rfl (by omega) (by omega) ?_))
        have hin2 : Sort.insInner oIlt a i d1 = d2 := by
          rw [← hin, Sort.insInner, if_neg (by rw [h3]; simp)]
        refine ih _ _ _ (i + 1, d2) [] ⟨by omega, by omega, hd2, by rw [← hin2]; exact ho2⟩ (by simp only; omega) ?_
        (refine ⟨(ExtOk.of rfl), rfl, (by repeat (first | exact trivial | refine ⟨rfl, ?_⟩)), (by repeat (first | exact trivial | refine ⟨at_dat rfl, ?_⟩))⟩)
      · (refine dk_nil ?_); (refine ⟨by kernel_rfl, ?_, ?_⟩); (focus (repeat (first | exact trivial | refine ⟨.inl rfl, ?_⟩ | refine ⟨.inr (by (repeat (refine ⟨(by first | exact rd_not rfl | exact rd_cmp rfl rfl (.inr (.inr (.inr (.inr (.inl ⟨rfl, rfl⟩))))) | exact rd_idxN (F.un _ rfl) (F.sz _ rfl) rfl rfl rfl (by omega) (by omega) (by omega) | exact rd_arith rfl rfl (.inl ⟨rfl, (Go.IntWalk.i64_in _ ⟨by omega, by omega⟩).symm⟩) | exact rd_arith rfl rfl (.inr (.inl ⟨rfl, (Go.IntWalk.i64_in _ ⟨by omega, by omega⟩).symm⟩)) | exact rd_fieldAddr (F.fo _ _ rfl rfl) rfl | exact rd_move rfl | exact rd_assign rfl | exact rd_load1 (F.ag _ rfl) rfl rfl (cell_box rfl) | exact rd_loadN (F.ag _ rfl) rfl rfl (cellsFrom_box _ 0 rfl rfl) | exact rd_extract rfl rfl | exact rd_lenSl (F.un _ rfl) rfl | exact rd_lenStr (F.un _ rfl) rfl | exact rd_nilCheck rfl | exact rd_pickT rfl rfl | exact rd_pickF rfl rfl), ?_⟩)); exact trivial), ?_⟩ | refine ⟨.inl (by kernel_rfl), ?_⟩)))
        (repeat (first | refine y_seq ?_ | refine y_block ?_ | refine y_skip ?_ | refine y_condT rfl ?_))
        refine w_draw (by kernel_rfl) (by kernel_rfl) ?_
        (repeat (first | refine dw_move rfl rfl rfl ?_ | refine dw_sub rfl rfl rfl rfl (by omega) (by omega) ?_ | refine dw_idxN (q := j + 1) rfl rfl rfl rfl (F.un _ rfl) (F.sz _ rfl) rfl (by omega) (by omega) (by omega) ?_ | refine dw_idxN (q := j) rfl rfl rfl rfl (F.un _ rfl) (F.sz _ rfl) rfl (by omega) (by omega) (by omega) ?_ | (refine dw_ldS (g := fun x => .int .i64 x) rfl rfl rfl (F.ag _ rfl) rfl (by omega) (by omega) ?_) | (refine dw_stS (g := fun x => .int .i64 x) rfl rfl rfl (fun _ => rfl) (F.sz _ rfl) rfl (by first | omega | (simp only [Array.size_setIfInBounds, swp_size]; omega)) (by first | omega | (simp only [Array.size_setIfInBounds, swp_size]; omega)) ?_)))
        (refine dk_nil ?_); (refine ⟨by kernel_rfl, ?_, ?_⟩); (focus (repeat (first | exact trivial | refine ⟨.inl rfl, ?_⟩ | refine ⟨.inr (by (repeat (refine ⟨(by first | exact rd_not rfl | exact rd_cmp rfl rfl (.inr (.inr (.inr (.inr (.inl ⟨rfl, rfl⟩))))) | exact rd_idxN (F.un _ rfl) (F.sz _ rfl) rfl rfl rfl (by omega) (by omega) (by omega) | exact rd_arith rfl rfl (.inl ⟨rfl, (Go.IntWalk.i64_in _ ⟨by omega, by omega⟩).symm⟩) | exact rd_arith rfl rfl (.inr (.inl ⟨rfl, (Go.IntWalk.i64_in _ ⟨by omega, by omega⟩).symm⟩)) | exact rd_fieldAddr (F.fo _ _ rfl rfl) rfl | exact rd_move rfl | exact rd_assign rfl | exact rd_load1 (F.ag _ rfl) rfl rfl (cell_box rfl) | exact rd_loadN (F.ag _ rfl) rfl rfl (cellsFrom_box _ 0 rfl rfl) | exact rd_extract rfl rfl | exact rd_lenSl (F.un _ rfl) rfl | exact rd_lenStr (F.un _ rfl) rfl | exact rd_nilCheck rfl | exact rd_pickT rfl rfl | exact rd_pickF rfl rfl), ?_⟩)); exact trivial), ?_⟩ | refine ⟨.inl (by kernel_rfl), ?_⟩)))
        (repeat (first | refine w_region ?_ | refine y_regEnd ?_ | refine y_inBlock ?_ | refine w_move rfl rfl rfl ?_ | refine w_assign rfl rfl rfl ?_ | refine w_sub rfl rfl rfl rfl (by omega) (by omega) ?_))
        refine ihj _ _ _ (j, Sort.swp d2 (j + 1) j) [] ⟨by omega, by rw [swp_size]; exact hd2, ?_⟩ (by simp only; omega) ?_
        · rw [← hin]
          conv => rhs; rw [Sort.insInner, if_pos (by simp only [h3, Bool.and_eq_true, decide_eq_true_eq, and_true]; omega)]
        · (refine ⟨(ExtOk.of rfl), rfl, (by repeat (first | exact trivial | refine ⟨rfl, ?_⟩ | refine ⟨sl_eq (by first | omega | (simp only; omega)), ?_⟩)), (by repeat (first | exact trivial | refine ⟨at_dat rfl, ?_⟩))⟩)
    · (repeat (first | refine dw_move rfl rfl rfl ?_ | refine dw_pickF rfl rfl rfl rfl ?_ | refine dk_skip rfl rfl ?_))
      (refine dk_nil ?_); (refine ⟨by kernel_rfl, ?_, ?_⟩); (focus (repeat (first | exact trivial | refine ⟨.inl rfl, ?_⟩)))
      (repeat (first | refine w_region ?_ | refine y_regEnd ?_ | refine y_inBlock ?_ | refine y_exit rfl ?_ | refine y_condF rfl ?_ | refine w_move rfl rfl rfl ?_ | refine w_assign rfl rfl rfl ?_ | refine w_add rfl rfl rfl rfl (by omega) (by omega) ?_))
      have hin2 : Sort.insInner oIlt a i d1 = d2 := by
        rw [← hin]
        cases j with
        | zero => rfl
        | succ j => rw [Sort.insInner, if_neg (by simp only [Bool.and_eq_true, decide_eq_true_eq]; omega)]
      refine ih _ _ _ (i + 1, d2) [] ⟨by omega, by omega, hd2, by rw [← hin2]; exact ho2⟩ (by simp only; omega) ?_
      (refine ⟨(ExtOk.of rfl), rfl, (by repeat (first | exact trivial | refine ⟨rfl, ?_⟩)), (by repeat (first | exact trivial | refine ⟨at_dat rfl, ?_⟩))⟩)
  · (repeat (first | refine y_regEnd ?_ | refine y_exit rfl ?_ | refine y_condF rfl ?_))
    have ho2 : d1 = Sort.insertionSort oIlt d a b := by rw [← ho, Sort.insOuter, if_neg (by omega)]
    (apply w_end Try.func71 (congrArg Array.toList Try.results71); (focus (repeat (exact ResIs.nil))); refine ⟨_, rfl, Ends.mk [] (ExtOk.of rfl) rfl rfl ?_⟩)
    rw [← ho2]
    exact (by repeat (first | exact trivial | refine ⟨at_dat rfl, ?_⟩))
end Go.Proofs.Ytfkfiafohcoomaa
end
section
namespace Go.Proofs.Ytfkfiafohcoomaa
open Go Go.Sy Go.Sl Go.RowKit
theorem oI_swo : Sort.SWO oIlt where
  irrefl := fun a => by simp [oIlt]
  trans := fun a b c h h' => by simp only [oIlt, decide_eq_true_eq] at h h' ⊢; omega
  ntrans := fun a b c h h' => by simp only [oIlt, decide_eq_false_iff_not] at h h' ⊢; omega
theorem oI_sorted (l : List Int) : (Sort.sort oIlt l.toArray).toList.Perm l ∧ (Sort.sort oIlt l.toArray).toList.Pairwise (fun x y => x ≤ y) := by
  obtain ⟨⟨h1, h2, h3⟩, h4⟩ := Sort.sort_sorts oIlt oI_swo l.toArray
  constructor
  · have e1 : ((Sort.sort oIlt l.toArray).extract 0 l.toArray.size) = Sort.sort oIlt l.toArray := by
      rw [show l.toArray.size = (Sort.sort oIlt l.toArray).size by simpa using h1.symm]
      exact Array.extract_size
    have e2 : (l.toArray.extract 0 l.toArray.size) = l.toArray := Array.extract_size
    rw [e1, e2] at h3
    exact h3
  · rw [List.pairwise_iff_getElem]
    intro i j hi hj hij
    have hi' : i < (Sort.sort oIlt l.toArray).size := hi
    have hj' : j < (Sort.sort oIlt l.toArray).size := hj
    have h1' : (Sort.sort oIlt l.toArray).size = l.length := by simpa using h1
    have := h4 i j (Nat.zero_le _) hij (by simp; omega)
    rw [getElem!_pos _ i hi', getElem!_pos _ j hj'] at this
    simp only [oIlt, decide_eq_false_iff_not] at this
    simp only [Array.getElem_toList]
    omega
theorem rising_unique : ∀ {l l' : List Int}, l.Pairwise (· < ·) → l'.Pairwise (· < ·) → (∀ x, x ∈ l ↔ x ∈ l') → l = l'
  | [], [], _, _, _ => rfl
  | [], a :: l', _, _, h => absurd ((h a).2 (by simp)) (by simp)
  | a :: l, [], _, _, h => absurd ((h a).1 (by simp)) (by simp)
  | a :: l, b :: l', h1, h2, h => by
    rw [List.pairwise_cons] at h1 h2
    have hab : a = b := by
      rcases List.mem_cons.1 ((h a).1 (by simp)) with e | e
      · exact e
      · rcases List.mem_cons.1 ((h b).2 (by simp)) with e' | e'
        · exact e'.symm
        · have := h1.1 _ e'; have := h2.1 _ e; omega
    subst hab
    congr 1
    refine rising_unique h1.2 h2.2 fun x => ⟨fun hx => ?_, fun hx => ?_⟩
    · rcases List.mem_cons.1 ((h x).1 (List.mem_cons_of_mem _ hx)) with e | e
      · have := h1.1 _ hx; omega
      · exact e
    · rcases List.mem_cons.1 ((h x).2 (List.mem_cons_of_mem _ hx)) with e | e
      · have := h2.1 _ hx; omega
      · exact e
set_option maxRecDepth 100000 in
set_option maxHeartbeats 0 in
theorem pdqI_spec (n limit : Nat) (d : Array Int) (hn : n ≤ 12) (hd : d.size = n) (hl : limit < 1000) :
    Ctr Try.prog 65 [.slu 0 0 n, .sc (.int .i64 0), .sc (.int .i64 (n : Int)), .sc (.int .i64 (limit : Int))] [oIrow n d] (fun c => c = ⟨.tup [], [some (oIrow n (Sort.insertionSort oIlt d 0 n))]⟩) := by
  refine Ctr.at 1 rfl ?_
  refine Fnc.start Try.func65 rfl rfl ?_
  have hi := oIins n 0 n d (by omega) hd (by omega) (by omega)
  (repeat (first | (first | refine y_seq ?_ | refine w_region ?_ | refine y_regEnd ?_ | refine y_block ?_ | refine w_move rfl rfl rfl ?_ | refine w_assign rfl rfl rfl ?_ | refine w_sub rfl rfl rfl rfl (by omega) (by omega) ?_) | refine y_unroll ?_))
  refine w_leqS rfl rfl rfl rfl ?_ ?_
  all_goals intro h1
  · (repeat (first | (first | refine y_seq ?_ | refine w_region ?_ | refine y_regEnd ?_ | refine y_condT rfl ?_ | refine w_move rfl rfl rfl ?_) | (refine w_call rfl rfl rfl (by kernel_rfl) (Ctr.callX (hi) [0] rfl (ExtOk.of rfl) rfl (by repeat (first | exact trivial | refine ⟨at_dat rfl, ?_⟩)) ?_); rintro _ rfl; refine ⟨_, 0, [0], [some _], rfl, (by repeat (first | exact trivial | refine ⟨ren_dat _ _ _ _ _ _, ?_⟩)), rfl, rfl, ?_⟩; dsimp only [wrL])))
    ((apply w_ret Try.func65 (congrArg Array.toList Try.results65)); (focus (repeat (exact ResIs.nil))); refine ⟨_, rfl, Ends.mk [] (ExtOk.of rfl) rfl rfl ?_⟩)
    exact (by repeat (first | exact trivial | refine ⟨at_dat rfl, ?_⟩))
  · exact absurd h1 (by omega)
theorem bitsLen_le {x : Nat} (h : x ≤ 12) : Sort.bitsLen x < 1000 := by
  have : ∀ x : Fin 13, Sort.bitsLen x.val < 1000 := by decide
  exact this ⟨x, by omega⟩
set_option maxRecDepth 100000 in
set_option maxHeartbeats 0 in
theorem sortI_spec (n : Nat) (d : Array Int) (hn : n ≤ 12) (hd : d.size = n) :
    Ctr Try.prog 51 [.slu 0 0 n] [oIrow n d] (fun c => c = ⟨.tup [], [some (oIrow n (Sort.sort oIlt d))]⟩) := by
  have hp := pdqI_spec n (Sort.bitsLen n) d hn hd (bitsLen_le hn)
  have hs : Sort.sort oIlt d = Sort.insertionSort oIlt d 0 n := by unfold Sort.sort; rw [hd, Sort.pdq, if_pos (by omega)]
  rw [hs]
  refine Ctr.at 1 rfl ?_
  refine Fnc.start Try.func51 rfl rfl ?_
  (repeat (first | (first | refine y_seq ?_ | refine w_region ?_ | refine y_regEnd ?_ | refine w_move rfl rfl rfl ?_ | refine w_assign rfl rfl rfl ?_ | refine w_lenSl rfl rfl rfl (F.un _ rfl) ?_) | refine w_conv rfl rfl rfl (F.un _ rfl) (F.un _ rfl) (show _ = (n : Int) from Go.IntWalk.u64_in _ ⟨by omega, by omega⟩) ?_ | refine w_callV (len_spec n (by omega)) [] rfl rfl rfl (by kernel_rfl) rfl (ExtOk.of rfl) rfl trivial ?_ | (refine w_call rfl rfl rfl (by kernel_rfl) (Ctr.callX (hp) [0] rfl (ExtOk.of rfl) rfl (by repeat (first | exact trivial | refine ⟨at_dat rfl, ?_⟩)) ?_); rintro _ rfl; refine ⟨_, 0, [0], [some _], rfl, (by repeat (first | exact trivial | refine ⟨ren_dat _ _ _ _ _ _, ?_⟩)), rfl, rfl, ?_⟩; dsimp only [wrL])))
  ((apply w_end Try.func51 (congrArg Array.toList Try.results51)); (focus (repeat (exact ResIs.nil))); refine ⟨_, rfl, Ends.mk [] (ExtOk.of rfl) rfl rfl ?_⟩)
  exact (by repeat (first | exact trivial | refine ⟨at_dat rfl, ?_⟩))
abbrev keysM (m : MkL) : List Int := m.map (·.1)
set_option maxRecDepth 100000 in
set_option maxHeartbeats 0 in
theorem members_spec (m : MkL) (c : Nat) (hok : KOk m c) (hl : m.length ≤ 12) : Ctr Try.prog 26 [.ptr 0 0] [mkB, marksV m c]
    (fun cz => ∃ l : List Int, (l.Pairwise (· < ·) ∧ (∀ x, x ∈ l ↔ x ∈ keysM m)) ∧ cz = ⟨.slu 2 0 l.length, [some mkB, some (marksV m c), some (collK_row false l)]⟩) := by
  refine Ctr.at 2 rfl ?_
  refine Fnc.start Try.func26 rfl rfl ?_
  (repeat (first | (first | refine y_seq ?_ | refine w_region ?_ | refine y_regEnd ?_ | refine y_skip ?_ | refine y_condF rfl ?_ | refine w_move rfl rfl rfl ?_ | refine w_assign rfl rfl rfl ?_ | refine w_nilCheck rfl rfl rfl ?_ | refine w_fieldAddr rfl rfl rfl (F.fo _ _ rfl rfl) ?_ | refine w_loadB1 rfl rfl rfl (F.ag _ rfl) rfl rfl ?_) | refine w_callV (none_spec m c) [0, 1] rfl rfl rfl (by kernel_rfl) rfl (ExtOk.of rfl) rfl (by repeat (first | exact trivial | refine ⟨at_box rfl, ?_⟩ | refine ⟨at_map (fun _ => rfl) rfl, ?_⟩)) ?_))
  refine w_call rfl rfl rfl (by kernel_rfl) ((collK_keys mkV m c).mono ?_)
  rintro _ rfl
  dsimp only
  refine w_call rfl rfl rfl (by kernel_rfl) ?_
  refine Fnc.start Try.func40 rfl rfl ?_
  (repeat (first | refine y_seq ?_ | refine w_region ?_ | refine y_regEnd ?_ | refine w_move rfl rfl rfl ?_ | refine w_assign rfl rfl rfl ?_))
  refine w_call rfl rfl rfl (by kernel_rfl) ((collK mkV m c hok (by omega) (bx := 2) (b := 1) rfl rfl (by omega) (by omega)).mono ?_)
  rintro ⟨v, H, nx⟩ ⟨done, nm, hp, hv, g1, g2, hrow, hold⟩
  simp only at hv g1 g2 hrow hold ⊢
  subst hv
  have hk : (done.map (·.1)).Perm (keysM m) := hp.map _
  have hkl : (done.map (·.1)).length ≤ 12 := by rw [hk.length_eq, List.length_map]; exact hl
  have hnd : (done.map (·.1)).Nodup := hk.nodup_iff.2 hok.keys
  generalize done.map (·.1) = ks at hrow hk hkl hnd ⊢
  obtain ⟨hs1, hs2⟩ := oI_sorted ks
  have hso := sortI_spec ks.length ks.toArray hkl (by simp)
  have hsl : (Sort.sort oIlt ks.toArray).toList.length = ks.length := hs1.length_eq
  generalize hS : Sort.sort oIlt ks.toArray = S at hso hs1 hs2 hsl
  (repeat (first | refine y_seq ?_ | refine w_region ?_ | refine y_regEnd ?_ | refine w_move rfl rfl rfl ?_ | refine w_assign rfl rfl rfl ?_))
  (refine w_call rfl rfl rfl (by kernel_rfl) (Ctr.callX (hso) [nm] rfl ⟨by intro n hn; simp at hn; omega, by simp; try omega⟩ rfl (by repeat (first | exact trivial | refine ⟨at_dat (by (focus (skip; first | exact Tr.at_set_same _ _ _ | assumption))), ?_⟩)) ?_); rintro _ rfl; refine ⟨_, 0, [nm], [some _], rfl, (by repeat (first | exact trivial | refine ⟨ren_dat _ _ _ _ _ _, ?_⟩)), rfl, rfl, ?_⟩; dsimp only [wrL])
  (repeat (first | refine y_seq ?_ | refine w_region ?_ | refine y_regEnd ?_ | refine w_move rfl rfl rfl ?_ | refine w_assign rfl rfl rfl ?_))
  apply w_ret Try.func40 (congrArg Array.toList Try.results40)
  · (repeat (first | exact ResIs.nil | apply ResIs.tmp rfl))
  dsimp only
  (repeat (first | refine y_regEnd ?_ | refine w_assign rfl rfl rfl ?_))
  apply w_ret Try.func26 (congrArg Array.toList Try.results26)
  · (repeat (first | exact ResIs.nil | apply ResIs.tmp rfl))
  have hstrict : S.toList.Pairwise (· < ·) := by
    have hnd2 : S.toList.Nodup := hs1.nodup_iff.2 hnd
    exact (hs2.and hnd2).imp fun {x y} h => by have := h.1; have := h.2; omega
  refine ⟨_, ⟨S.toList, ⟨hstrict, fun x => (hs1.mem_iff).trans hk.mem_iff⟩, rfl⟩, Ends.mk [nm] ⟨by intro n hn; simp [nms, List.range_succ] at hn; omega, by simp [nms, List.range_succ]; omega⟩ rfl (by rw [hsl]; rfl) ⟨at_box ?_, at_map (fun _ => rfl) ?_, at_dat ?_, trivial⟩⟩
  · exact (Tr.at_set_other _ _ (by show (0 : Nat) ≠ nm; omega)).trans ((hold 0 (by omega)).trans rfl)
  · exact (Tr.at_set_other _ _ (by show (1 : Nat) ≠ nm; omega)).trans ((hold 1 (by omega)).trans rfl)
  · rw [hsl]
    exact Tr.at_set_same _ _ _
end Go.Proofs.Ytfkfiafohcoomaa
end
section
namespace Go.Proofs.Ytfkfiafohcoomaa
open Go Go.Sy Go.Sl Go.RowKit
abbrev boV : Bool → List Value := fun b => [.bool b]
theorem recB : RecOf boV 1 := recOne (fun _ => rfl)
abbrev psV (ps : Array (Int × Int)) : List Value := ps.toList.flatMap plV
abbrev isV (is : Array Bool) : List Value := is.toList.flatMap boV
abbrev rfV (ps : Array (Int × Int)) (is : Array Bool) : VO := newCells 76 ((psV ps ++ isV is).map .sc)
theorem psV_len {ps : Array (Int × Int)} (h : ps.size = 5) : (psV ps).length = 10 := by
  rw [psV, Sy.flat_len recP.len, Array.length_toList, h]
theorem cs_is (ps : Array (Int × Int)) (is : Array Bool) : (psV ps ++ isV is).map SV.sc = (psV ps ++ is.toList.flatMap boV ++ []).map SV.sc := by rw [List.append_nil]
def ps0 : Array (Int × Int) := #[(0, 0), (0, 0), (0, 0), (0, 0), (0, 0)]
def isOf (a : Array Int) : Nat → Array Bool
  | 0 => #[false, false, false, false, false]
  | i + 1 => (isOf a i).setIfInBounds (a[i]! - 1).toNat true
theorem isOf_size (a : Array Int) : ∀ i, (isOf a i).size = 5
  | 0 => rfl
  | i + 1 => by rw [isOf, Array.size_setIfInBounds, isOf_size a i]
set_option maxRecDepth 100000 in
set_option maxHeartbeats 0 in
theorem rnew_spec (ro : Bool) (a : Array Int) (hn : a.size < 1000) (hm : ∀ j, j < a.size → 1 ≤ a[j]! ∧ a[j]! ≤ 5) : Ctr Try.prog 22 [.slu 0 0 a.size] [inR ro a] (fun cz => cz = ⟨.ptr 1 0, [some (inR ro a), some (rfV ps0 (isOf a a.size))]⟩) := by
  refine Ctr.at 1 rfl ?_
  refine Fnc.start Try.func22 rfl rfl ?_
  (repeat (first | refine y_seq ?_ | refine w_region ?_ | refine y_regEnd ?_ | refine y_block ?_ | refine w_assign rfl rfl rfl ?_ | refine w_boxN rfl rfl rfl ?_ | refine w_build rfl rfl rfl (F.ze _ rfl) (F.pl _ rfl) rfl ?_))
  refine y_loopC 2 (fun i : Nat => [(0, .slu 0 0 a.size), (3, .ptr 1 0), (4, .sc (.int .i64 (i : Int)))]) (fun i => [some (inR ro a), some (rfV ps0 (isOf a i))]) (fun i => i ≤ a.size) (fun i => a.size - i) 0 [1]
    (fun _ => rfl) (Nat.zero_le _) ?_ (fun _ => rfl) (fun _ => rfl) ?_
  · (exact ⟨(ExtOk.of rfl), rfl, (by repeat (first | exact trivial | refine ⟨rfl, ?_⟩)), (by repeat (first | exact trivial | refine ⟨at_dat rfl, ?_⟩ | refine ⟨at_box rfl, ?_⟩))⟩)
  intro i hi ih
  (repeat (first | refine y_seq ?_ | refine w_region ?_ | refine w_move rfl rfl rfl ?_ | refine w_lenSl rfl rfl rfl (F.un _ rfl) ?_))
  refine w_lssS rfl rfl rfl rfl ?_ ?_
  all_goals intro h1
  · have hr := hm i (by omega)
    (repeat (first | refine y_seq ?_ | refine y_regEnd ?_ | refine y_block ?_ | refine y_skip ?_ | refine y_condT rfl ?_))
    refine w_draw (by kernel_rfl) (by kernel_rfl) ?_
    (repeat (first | (first | refine dw_move rfl rfl rfl ?_ | refine dw_nilCheck rfl rfl rfl ?_ | refine dw_fieldAddr rfl rfl rfl (F.fo _ _ rfl rfl) ?_ | refine dw_sub rfl rfl rfl rfl (by omega) (by omega) ?_) | refine dw_idxN (q := i) rfl rfl rfl rfl (F.un _ rfl) (F.sz _ rfl) rfl (by omega) (by omega) (by omega) ?_ | (refine dw_ldS (g := fun x => Value.int .i64 x) rfl rfl rfl (F.ag _ rfl) rfl (by omega) (Nat.le_refl _) ?_) | refine dw_idxA (q := (a[i]! - 1).toNat) rfl rfl rfl rfl (F.un _ rfl) (F.sz _ rfl) (by omega) (by omega) ?_ | (refine dw_stG (v := true) (f := boV) (l0 := 10) (d := isOf a i) (cs' := (psV ps0 ++ isV (isOf a (i + 1))).map .sc) (a[i]! - 1).toNat (psV ps0) [] rfl rfl rfl rfl (F.sz _ rfl) recB rfl (cs_is _ _) (cs_is _ _) rfl (by omega) (by rw [isOf_size]; omega) ?_)))
    (refine dk_nil ?_); (refine ⟨by kernel_rfl, ?_, ?_⟩); (focus (repeat (first | exact trivial | refine ⟨.inl rfl, ?_⟩ | refine ⟨.inr (by (repeat (refine ⟨(by first | exact rd_not rfl | exact rd_cmp rfl rfl (.inr (.inr (.inr (.inr (.inl ⟨rfl, rfl⟩))))) | exact rd_idxN (F.un _ rfl) (F.sz _ rfl) rfl rfl rfl (by omega) (by omega) (by omega) | exact rd_arith rfl rfl (.inl ⟨rfl, (Go.IntWalk.i64_in _ ⟨by omega, by omega⟩).symm⟩) | exact rd_arith rfl rfl (.inr (.inl ⟨rfl, (Go.IntWalk.i64_in _ ⟨by omega, by omega⟩).symm⟩)) | exact rd_fieldAddr (F.fo _ _ rfl rfl) rfl | exact rd_move rfl | exact rd_assign rfl | exact rd_load1 (F.ag _ rfl) rfl rfl (cell_box rfl) | exact rd_loadN (F.ag _ rfl) rfl rfl (cellsFrom_box _ 0 rfl rfl) | exact rd_extract rfl rfl | exact rd_lenSl (F.un _ rfl) rfl | exact rd_lenStr (F.un _ rfl) rfl | exact rd_nilCheck rfl | exact rd_pickT rfl rfl | exact rd_pickF rfl rfl), ?_⟩)); exact trivial), ?_⟩ | refine ⟨.inl (by kernel_rfl), ?_⟩)))
    (repeat (first | refine w_region ?_ | refine y_regEnd ?_ | refine y_inBlock ?_ | refine w_move rfl rfl rfl ?_ | refine w_assign rfl rfl rfl ?_ | refine w_add rfl rfl rfl rfl (by omega) (by omega) ?_))
    refine ih _ _ _ (i + 1) [1] (by omega) (by omega) ?_
    (exact ⟨(ExtOk.of rfl), rfl, (by repeat (first | exact trivial | refine ⟨rfl, ?_⟩)), (by repeat (first | exact trivial | refine ⟨at_dat rfl, ?_⟩ | refine ⟨at_scs rfl, ?_⟩))⟩)
  · obtain rfl : i = a.size := by omega
    (repeat (first | refine y_seq ?_ | refine w_region ?_ | refine y_regEnd ?_ | refine y_exit rfl ?_ | refine y_condF rfl ?_ | refine w_move rfl rfl rfl ?_ | refine w_assign rfl rfl rfl ?_))
    apply w_ret Try.func22 (congrArg Array.toList Try.results22)
    · (repeat (first | exact ResIs.nil | apply ResIs.tmp rfl))
    exact ⟨_, rfl, Ends.mk [1] (ExtOk.of rfl) rfl rfl (by repeat (first | exact trivial | refine ⟨at_dat rfl, ?_⟩ | refine ⟨at_scs rfl, ?_⟩))⟩
def rtellR (ps : Array (Int × Int)) (is : Array Bool) (k : Int) (p : Int × Int) : Array (Int × Int) × Bool × Int :=
  if k < 1 ∨ 5 < k then (ps, false, 2) else if is[(k - 1).toNat]! then (if uptoP p ps[(k - 1).toNat]! then (ps, false, 0) else (ps.setIfInBounds (k - 1).toNat p, true, 0)) else (ps, false, 2)
set_option maxRecDepth 100000 in
set_option maxHeartbeats 0 in
theorem rtell_spec (ps : Array (Int × Int)) (is : Array Bool) (hps : ps.size = 5) (his : is.size = 5) (k : Int) (p : Int × Int) : Ctr Try.prog 25 [.ptr 0 0, .sc (.int .i64 k), plS p] [rfV ps is]
    (fun cz => cz = ⟨.tup [.sc (.bool (rtellR ps is k p).2.1), .sc (.int .i64 (rtellR ps is k p).2.2)], [some (rfV (rtellR ps is k p).1 is)]⟩) := by
  refine Ctr.at 1 rfl ?_
  refine Fnc.start Try.func25 rfl rfl ?_
  (repeat (first | refine y_seq ?_ | refine w_region ?_ | refine y_regEnd ?_ | refine w_move rfl rfl rfl ?_ | refine w_assign rfl rfl rfl ?_ | refine w_boxN rfl rfl rfl ?_))
  refine w_lssS rfl rfl rfl rfl ?_ ?_
  all_goals intro h1
  · rw [show rtellR ps is k p = (ps, false, 2) by unfold rtellR; rw [if_pos (.inl h1)]]
    (repeat (first | refine y_seq ?_ | refine w_region ?_ | refine y_regEnd ?_ | refine y_condT rfl ?_ | refine w_move rfl rfl rfl ?_ | refine w_assign rfl rfl rfl ?_ | refine w_pickT rfl rfl rfl rfl ?_ | refine w_not rfl ?_))
    ((apply w_ret Try.func25 (congrArg Array.toList Try.results25)); (focus (repeat (first | exact ResIs.nil | apply ResIs.tmp rfl))); refine ⟨_, rfl, Ends.mk [] (ExtOk.of rfl) rfl rfl ?_⟩)
    exact (by repeat (first | exact trivial | refine ⟨at_scs rfl, ?_⟩))
  (repeat (refine w_move rfl rfl rfl ?_))
  refine w_gtrS rfl rfl rfl rfl ?_ ?_
  all_goals intro h2
  · rw [show rtellR ps is k p = (ps, false, 2) by unfold rtellR; rw [if_pos (.inr h2)]]
    (repeat (first | refine y_seq ?_ | refine w_region ?_ | refine y_regEnd ?_ | refine y_condT rfl ?_ | refine w_move rfl rfl rfl ?_ | refine w_assign rfl rfl rfl ?_ | refine w_pickT rfl rfl rfl rfl ?_ | refine w_pickF rfl rfl rfl rfl ?_ | refine w_not rfl ?_))
    ((apply w_ret Try.func25 (congrArg Array.toList Try.results25)); (focus (repeat (first | exact ResIs.nil | apply ResIs.tmp rfl))); refine ⟨_, rfl, Ends.mk [] (ExtOk.of rfl) rfl rfl ?_⟩)
    exact (by repeat (first | exact trivial | refine ⟨at_scs rfl, ?_⟩))
  obtain ⟨q, rfl⟩ : ∃ q : Nat, k = (q : Int) + 1 := ⟨(k - 1).toNat, by omega⟩
  have hq : ((q : Int) + 1 - 1).toNat = q := by omega
  have hr : rtellR ps is ((q : Int) + 1) p = if is[q]! then (if uptoP p ps[q]! then (ps, false, 0) else (ps.setIfInBounds q p, true, 0)) else (ps, false, 2) := by
    unfold rtellR
    rw [if_neg (by omega), hq]
  rw [hr]
  (repeat (first | (first | refine y_regEnd ?_ | refine w_move rfl rfl rfl ?_ | refine w_pickF rfl rfl rfl rfl ?_ | refine w_nilCheck rfl rfl rfl ?_ | refine w_fieldAddr rfl rfl rfl (F.fo _ _ rfl rfl) ?_ | refine w_sub rfl rfl rfl rfl (by omega) (by omega) ?_ | refine w_notB rfl rfl rfl ?_) | refine w_idxA (q := q) rfl rfl rfl rfl (F.un _ rfl) (F.sz _ rfl) (by omega) (by omega) ?_ | (refine w_ldG1 (g := fun b => Value.bool b) (l0 := 10) (d := is) (q) (psV ps) [] rfl rfl rfl (F.ag _ rfl) (fun _ => rfl) rfl (cs_is ps is) (psV_len hps) (by omega) (by omega) ?_)))
  cases hb : is[q]!
  · (repeat (first | refine y_seq ?_ | refine w_region ?_ | refine y_regEnd ?_ | refine y_condT rfl ?_ | refine w_assign rfl rfl rfl ?_))
    ((apply w_ret Try.func25 (congrArg Array.toList Try.results25)); (focus (repeat (first | exact ResIs.nil | apply ResIs.tmp rfl))); refine ⟨_, rfl, Ends.mk [] (ExtOk.of rfl) rfl rfl ?_⟩)
    exact (by repeat (first | exact trivial | refine ⟨at_scs rfl, ?_⟩))
  have hup := upto_spec p ps[q]!
  (repeat (first | refine y_seq ?_ | refine y_skip ?_ | refine y_condF rfl ?_))
  cases hu : uptoP p ps[q]!
  all_goals rw [hu] at hup
  all_goals refine w_draw (by kernel_rfl) (by kernel_rfl) ?_
  all_goals (repeat (first | (first | refine dw_move rfl rfl rfl ?_ | refine dw_nilCheck rfl rfl rfl ?_ | refine dw_fieldAddr rfl rfl rfl (F.fo _ _ rfl rfl) ?_ | refine dw_loadBN rfl rfl rfl (F.ag _ rfl) rfl rfl ?_ | refine dw_sub rfl rfl rfl rfl (by omega) (by omega) ?_) | refine dw_idxA (q := q) rfl rfl rfl rfl (F.un _ rfl) (F.sz _ rfl) (by omega) (by omega) ?_ | (refine dw_ldG (f := plV) (l0 := 0) (d := ps) (q) [] (isV is) rfl rfl rfl (F.ag _ rfl) recP rfl rfl rfl (by omega) (by omega) ?_) | refine dk_call rfl rfl rfl (by kernel_rfl) (Ctr.callV (hup) [] rfl (ExtOk.of rfl) rfl trivial rfl) ?_))
  all_goals (refine dk_nil ?_); (refine ⟨by kernel_rfl, ?_, ?_⟩); (focus (repeat (first | exact trivial | refine ⟨.inl rfl, ?_⟩ | refine ⟨.inr (by (repeat (refine ⟨(by first | exact rd_not rfl | exact rd_cmp rfl rfl (.inr (.inr (.inr (.inr (.inl ⟨rfl, rfl⟩))))) | exact rd_idxN (F.un _ rfl) (F.sz _ rfl) rfl rfl rfl (by omega) (by omega) (by omega) | exact rd_arith rfl rfl (.inl ⟨rfl, (Go.IntWalk.i64_in _ ⟨by omega, by omega⟩).symm⟩) | exact rd_arith rfl rfl (.inr (.inl ⟨rfl, (Go.IntWalk.i64_in _ ⟨by omega, by omega⟩).symm⟩)) | exact rd_fieldAddr (F.fo _ _ rfl rfl) rfl | exact rd_move rfl | exact rd_assign rfl | exact rd_load1 (F.ag _ rfl) rfl rfl (cell_box rfl) | exact rd_loadN (F.ag _ rfl) rfl rfl (cellsFrom_box _ 0 rfl rfl) | exact rd_extract rfl rfl | exact rd_lenSl (F.un _ rfl) rfl | exact rd_lenStr (F.un _ rfl) rfl | exact rd_nilCheck rfl | exact rd_pickT rfl rfl | exact rd_pickF rfl rfl), ?_⟩)); exact trivial), ?_⟩ | refine ⟨.inl (by kernel_rfl), ?_⟩)))
  all_goals (repeat (first | refine y_seq ?_ | refine w_region ?_ | refine y_regEnd ?_ | refine y_skip ?_ | refine y_condT rfl ?_ | refine y_condF rfl ?_ | refine w_assign rfl rfl rfl ?_))
  · refine w_draw (by kernel_rfl) (by kernel_rfl) ?_
    (repeat (first | (first | refine dw_move rfl rfl rfl ?_ | refine dw_nilCheck rfl rfl rfl ?_ | refine dw_fieldAddr rfl rfl rfl (F.fo _ _ rfl rfl) ?_ | refine dw_loadBN rfl rfl rfl (F.ag _ rfl) rfl rfl ?_ | refine dw_sub rfl rfl rfl rfl (by omega) (by omega) ?_) | refine dw_idxA (q := q) rfl rfl rfl rfl (F.un _ rfl) (F.sz _ rfl) (by omega) (by omega) ?_ | (refine dw_stG (v := p) (f := plV) (l0 := 0) (d := ps) (cs' := (psV (ps.setIfInBounds q p) ++ isV is).map .sc) q [] (isV is) rfl rfl rfl rfl (F.sz _ rfl) recP rfl rfl rfl rfl (by omega) (by omega) ?_)))
    (refine dk_nil ?_); (refine ⟨by kernel_rfl, ?_, ?_⟩); (focus (repeat (first | exact trivial | refine ⟨.inl rfl, ?_⟩ | refine ⟨.inr (by (repeat (refine ⟨(by first | exact rd_not rfl | exact rd_cmp rfl rfl (.inr (.inr (.inr (.inr (.inl ⟨rfl, rfl⟩))))) | exact rd_idxN (F.un _ rfl) (F.sz _ rfl) rfl rfl rfl (by omega) (by omega) (by omega) | exact rd_arith rfl rfl (.inl ⟨rfl, (Go.IntWalk.i64_in _ ⟨by omega, by omega⟩).symm⟩) | exact rd_arith rfl rfl (.inr (.inl ⟨rfl, (Go.IntWalk.i64_in _ ⟨by omega, by omega⟩).symm⟩)) | exact rd_fieldAddr (F.fo _ _ rfl rfl) rfl | exact rd_move rfl | exact rd_assign rfl | exact rd_load1 (F.ag _ rfl) rfl rfl (cell_box rfl) | exact rd_loadN (F.ag _ rfl) rfl rfl (cellsFrom_box _ 0 rfl rfl) | exact rd_extract rfl rfl | exact rd_lenSl (F.un _ rfl) rfl | exact rd_lenStr (F.un _ rfl) rfl | exact rd_nilCheck rfl | exact rd_pickT rfl rfl | exact rd_pickF rfl rfl), ?_⟩)); exact trivial), ?_⟩ | refine ⟨.inl (by kernel_rfl), ?_⟩)))
    (repeat (first | refine y_seq ?_ | refine w_region ?_ | refine y_regEnd ?_ | refine w_assign rfl rfl rfl ?_))
    ((apply w_ret Try.func25 (congrArg Array.toList Try.results25)); (focus (repeat (first | exact ResIs.nil | apply ResIs.tmp rfl))); refine ⟨_, rfl, Ends.mk [] (ExtOk.of rfl) rfl rfl ?_⟩)
    exact (by repeat (first | exact trivial | refine ⟨at_scs rfl, ?_⟩))
  · ((apply w_ret Try.func25 (congrArg Array.toList Try.results25)); (focus (repeat (first | exact ResIs.nil | apply ResIs.tmp rfl))); refine ⟨_, rfl, Ends.mk [] (ExtOk.of rfl) rfl rfl ?_⟩)
    exact (by repeat (first | exact trivial | refine ⟨at_scs rfl, ?_⟩))
def placesR (ps : Array (Int × Int)) (is : Array Bool) : Nat → List (Int × Int)
  | 0 => []
  | i + 1 => if is[i]! then placesR ps is i ++ [ps[i]!] else placesR ps is i
def membR (is : Array Bool) : Nat → List Int
  | 0 => []
  | i + 1 => if is[i]! then membR is i ++ [(i : Int) + 1] else membR is i
theorem placesR_len (ps : Array (Int × Int)) (is : Array Bool) : ∀ i, (placesR ps is i).length ≤ i
  | 0 => Nat.le_refl _
  | i + 1 => by
    have := placesR_len ps is i
    unfold placesR
    split
    · rw [List.length_append, List.length_singleton]; omega
    · omega
theorem membR_len (is : Array Bool) : ∀ i, (membR is i).length ≤ i
  | 0 => Nat.le_refl _
  | i + 1 => by
    have := membR_len is i
    unfold membR
    split
    · rw [List.length_append, List.length_singleton]; omega
    · omega
set_option maxRecDepth 100000 in
set_option maxHeartbeats 0 in
theorem places_r (ps : Array (Int × Int)) (is : Array Bool) (hps : ps.size = 5) (his : is.size = 5) : Ctr Try.prog 36 [.ptr 0 0] [rfV ps is]
    (fun cz => cz = ⟨.slu 1 0 (placesR ps is 5).length, [some (rfV ps is), some (plR false (placesR ps is 5))]⟩) := by
  refine Ctr.at 1 rfl ?_
  refine Fnc.start Try.func36 rfl rfl ?_
  (repeat (first | refine y_seq ?_ | refine w_region ?_ | refine y_regEnd ?_ | refine y_block ?_ | refine w_assign rfl rfl rfl ?_))
  refine y_nilRow (d := 3) 2 25 rfl rfl ?_
  refine y_loopC 2 (fun i : Nat => [(0, .ptr 0 0), (3, .slu 1 0 (placesR ps is i).length), (4, .sc (.int .i64 (i : Int)))]) (fun i => [some (rfV ps is), some (plR false (placesR ps is i))]) (fun i => i ≤ 5) (fun i => 5 - i) 0 [1]
    (fun _ => rfl) (Nat.zero_le _) ?_ (fun _ => rfl) (fun _ => rfl) ?_
  · (exact ⟨(ExtOk.of rfl), rfl, (by repeat (first | exact trivial | refine ⟨rfl, ?_⟩)), (by repeat (first | exact trivial | refine ⟨rfl, ?_⟩ | refine ⟨at_scs rfl, ?_⟩))⟩)
  intro i hi ih
  have hpl := placesR_len ps is i
  (repeat (first | refine y_seq ?_ | refine w_region ?_ | refine w_move rfl rfl rfl ?_))
  refine w_lssS rfl rfl rfl rfl ?_ ?_
  all_goals intro h1
  · (repeat (first | (first | refine y_seq ?_ | refine w_region ?_ | refine y_regEnd ?_ | refine y_block ?_ | refine y_skip ?_ | refine y_condT rfl ?_ | refine w_move rfl rfl rfl ?_ | refine w_nilCheck rfl rfl rfl ?_ | refine w_fieldAddr rfl rfl rfl (F.fo _ _ rfl rfl) ?_) | refine w_idxA (q := i) rfl rfl rfl rfl (F.un _ rfl) (F.sz _ rfl) (by omega) (by omega) ?_ | (refine w_ldG1 (g := fun b => Value.bool b) (l0 := 10) (d := is) (i) (psV ps) [] rfl rfl rfl (F.ag _ rfl) (fun _ => rfl) rfl (cs_is ps is) (psV_len hps) (by omega) (by omega) ?_)))
    cases hb : is[i]!
    · (repeat (first | refine w_region ?_ | refine y_regEnd ?_ | refine y_inBlock ?_ | refine y_skip ?_ | refine y_condF rfl ?_ | refine w_move rfl rfl rfl ?_ | refine w_assign rfl rfl rfl ?_ | refine w_add rfl rfl rfl rfl (by omega) (by omega) ?_))
      refine ih _ _ _ (i + 1) [1] (by omega) (by omega) ?_
      rw [show placesR ps is (i + 1) = placesR ps is i by rw [placesR, hb]; rfl]
      (exact ⟨(ExtOk.of rfl), rfl, (by repeat (first | exact trivial | refine ⟨rfl, ?_⟩)), (by repeat (first | exact trivial | refine ⟨at_dat rfl, ?_⟩ | refine ⟨at_scs rfl, ?_⟩))⟩)
    · (repeat (first | (first | refine w_region ?_ | refine y_condT rfl ?_ | refine w_move rfl rfl rfl ?_ | refine w_nilCheck rfl rfl rfl ?_ | refine w_fieldAddr rfl rfl rfl (F.fo _ _ rfl rfl) ?_) | refine w_idxA (q := i) rfl rfl rfl rfl (F.un _ rfl) (F.sz _ rfl) (by omega) (by omega) ?_ | (refine w_ldG (f := plV) (l0 := 0) (d := ps) (i) [] (isV is) rfl rfl rfl (F.ag _ rfl) recP rfl rfl rfl (by omega) (by omega) ?_) | refine w_buildSlice rfl rfl (F.un _ rfl) (F.sz _ rfl) rfl (F.ze _ rfl) rfl rfl rfl rfl rfl ?_))
      refine w_push (b := 16) (xs := placesR ps is i) (a := ps[i]!) rfl rfl rfl rfl (F.un _ rfl) (.inl ⟨_, F.un _ rfl⟩) (F.sz _ rfl) rfl (by kernel_rfl) (by kernel_rfl) rfl rfl rfl recP (by omega) (by omega) ?_
      (repeat (first | refine w_region ?_ | refine y_regEnd ?_ | refine y_inBlock ?_ | refine w_move rfl rfl rfl ?_ | refine w_assign rfl rfl rfl ?_ | refine w_add rfl rfl rfl rfl (by omega) (by omega) ?_))
      refine ih _ _ _ (i + 1) [3] (by omega) (by omega) ?_
      rw [show placesR ps is (i + 1) = placesR ps is i ++ [ps[i]!] by rw [placesR, hb]; rfl]
      (exact ⟨(ExtOk.of rfl), rfl, (by repeat (first | exact trivial | refine ⟨rfl, ?_⟩)), (by repeat (first | exact trivial | refine ⟨at_dat rfl, ?_⟩ | refine ⟨at_scs rfl, ?_⟩))⟩)
  · obtain rfl : i = 5 := by omega
    (repeat (first | refine y_seq ?_ | refine w_region ?_ | refine y_regEnd ?_ | refine y_exit rfl ?_ | refine y_condF rfl ?_ | refine w_move rfl rfl rfl ?_ | refine w_assign rfl rfl rfl ?_))
    apply w_ret Try.func36 (congrArg Array.toList Try.results36)
    · (repeat (first | exact ResIs.nil | apply ResIs.tmp rfl))
    exact ⟨_, rfl, Ends.mk [1] (ExtOk.of rfl) rfl rfl (by repeat (first | exact trivial | refine ⟨at_dat rfl, ?_⟩ | refine ⟨at_scs rfl, ?_⟩))⟩
set_option maxRecDepth 100000 in
set_option maxHeartbeats 0 in
theorem members_r (ps : Array (Int × Int)) (is : Array Bool) (hps : ps.size = 5) (his : is.size = 5) : Ctr Try.prog 48 [.ptr 0 0] [rfV ps is]
    (fun cz => cz = ⟨.slu 1 0 (membR is 5).length, [some (rfV ps is), some (collK_row false (membR is 5))]⟩) := by
  refine Ctr.at 1 rfl ?_
  refine Fnc.start Try.func48 rfl rfl ?_
  (repeat (first | refine y_seq ?_ | refine w_region ?_ | refine y_regEnd ?_ | refine y_block ?_ | refine w_assign rfl rfl rfl ?_))
  refine y_nilRow (d := 3) 1 3 rfl rfl ?_
  refine y_loopC 2 (fun i : Nat => [(0, .ptr 0 0), (3, .slu 1 0 (membR is i).length), (4, .sc (.int .i64 (i : Int)))]) (fun i => [some (rfV ps is), some (collK_row false (membR is i))]) (fun i => i ≤ 5) (fun i => 5 - i) 0 [1]
    (fun _ => rfl) (Nat.zero_le _) ?_ (fun _ => rfl) (fun _ => rfl) ?_
  · (exact ⟨(ExtOk.of rfl), rfl, (by repeat (first | exact trivial | refine ⟨rfl, ?_⟩)), (by repeat (first | exact trivial | refine ⟨rfl, ?_⟩ | refine ⟨at_scs rfl, ?_⟩))⟩)
  intro i hi ih
  have hpl := membR_len is i
  (repeat (first | refine y_seq ?_ | refine w_region ?_ | refine w_move rfl rfl rfl ?_))
  refine w_lssS rfl rfl rfl rfl ?_ ?_
  all_goals intro h1
  · (repeat (first | (first | refine y_seq ?_ | refine w_region ?_ | refine y_regEnd ?_ | refine y_block ?_ | refine y_skip ?_ | refine y_condT rfl ?_ | refine w_move rfl rfl rfl ?_ | refine w_nilCheck rfl rfl rfl ?_ | refine w_fieldAddr rfl rfl rfl (F.fo _ _ rfl rfl) ?_) | refine w_idxA (q := i) rfl rfl rfl rfl (F.un _ rfl) (F.sz _ rfl) (by omega) (by omega) ?_ | (refine w_ldG1 (g := fun b => Value.bool b) (l0 := 10) (d := is) (i) (psV ps) [] rfl rfl rfl (F.ag _ rfl) (fun _ => rfl) rfl (cs_is ps is) (psV_len hps) (by omega) (by omega) ?_)))
    cases hb : is[i]!
    · (repeat (first | refine w_region ?_ | refine y_regEnd ?_ | refine y_inBlock ?_ | refine y_skip ?_ | refine y_condF rfl ?_ | refine w_move rfl rfl rfl ?_ | refine w_assign rfl rfl rfl ?_ | refine w_add rfl rfl rfl rfl (by omega) (by omega) ?_))
      refine ih _ _ _ (i + 1) [1] (by omega) (by omega) ?_
      rw [show membR is (i + 1) = membR is i by rw [membR, hb]; rfl]
      (exact ⟨(ExtOk.of rfl), rfl, (by repeat (first | exact trivial | refine ⟨rfl, ?_⟩)), (by repeat (first | exact trivial | refine ⟨at_dat rfl, ?_⟩ | refine ⟨at_scs rfl, ?_⟩))⟩)
    · (repeat (first | (first | refine w_region ?_ | refine y_condT rfl ?_ | refine w_move rfl rfl rfl ?_ | refine w_add rfl rfl rfl rfl (by omega) (by omega) ?_) | refine w_buildSlice rfl rfl (F.un _ rfl) (F.sz _ rfl) rfl (F.ze _ rfl) rfl rfl rfl rfl rfl ?_))
      refine w_push (b := 8) (xs := membR is i) (a := (i : Int) + 1) rfl rfl rfl rfl (F.un _ rfl) (.inl ⟨_, F.un _ rfl⟩) (F.sz _ rfl) rfl (by kernel_rfl) (by kernel_rfl) rfl rfl rfl collK_rec (by omega) (by omega) ?_
      (repeat (first | refine w_region ?_ | refine y_regEnd ?_ | refine y_inBlock ?_ | refine w_move rfl rfl rfl ?_ | refine w_assign rfl rfl rfl ?_ | refine w_add rfl rfl rfl rfl (by omega) (by omega) ?_))
      refine ih _ _ _ (i + 1) [3] (by omega) (by omega) ?_
      rw [show membR is (i + 1) = membR is i ++ [(i : Int) + 1] by rw [membR, hb]; rfl]
      (exact ⟨(ExtOk.of rfl), rfl, (by repeat (first | exact trivial | refine ⟨rfl, ?_⟩)), (by repeat (first | exact trivial | refine ⟨at_dat rfl, ?_⟩ | refine ⟨at_scs rfl, ?_⟩))⟩)
  · obtain rfl : i = 5 := by omega
    (repeat (first | refine y_seq ?_ | refine w_region ?_ | refine y_regEnd ?_ | refine y_exit rfl ?_ | refine y_condF rfl ?_ | refine w_move rfl rfl rfl ?_ | refine w_assign rfl rfl rfl ?_))
    apply w_ret Try.func48 (congrArg Array.toList Try.results48)
    · (repeat (first | exact ResIs.nil | apply ResIs.tmp rfl))
    exact ⟨_, rfl, Ends.mk [1] (ExtOk.of rfl) rfl rfl (by repeat (first | exact trivial | refine ⟨at_dat rfl, ?_⟩ | refine ⟨at_scs rfl, ?_⟩))⟩
def ofR (m : MkL) (k : Int) : (Int × Int) × Bool := match kget m k with
  | some p => (p, true)
  | none => ((0, 0), false)
set_option maxRecDepth 100000 in
set_option maxHeartbeats 0 in
theorem of_spec (m : MkL) (c : Nat) (k : Int) : Ctr Try.prog 37 [.ptr 0 0, .sc (.int .i64 k)] [mkB, marksV m c]
    (fun cz => cz = ⟨.tup [plS (ofR m k).1, .sc (.bool (ofR m k).2)], [mkB, marksV m c].map some⟩) := by
  refine Ctr.at 2 rfl ?_
  refine Fnc.start Try.func37 rfl rfl ?_
  (repeat (first | (first | refine y_seq ?_ | refine w_region ?_ | refine y_regEnd ?_ | refine y_skip ?_ | refine y_condF rfl ?_ | refine w_move rfl rfl rfl ?_ | refine w_assign rfl rfl rfl ?_ | refine w_nilCheck rfl rfl rfl ?_ | refine w_fieldAddr rfl rfl rfl (F.fo _ _ rfl rfl) ?_ | refine w_loadB1 rfl rfl rfl (F.ag _ rfl) rfl rfl ?_ | refine w_alloc rfl rfl (F.zl _ rfl) ?_) | refine w_callV (none_spec m c) [0, 1] rfl rfl rfl (by kernel_rfl) rfl (ExtOk.of rfl) rfl (by repeat (first | exact trivial | refine ⟨at_box rfl, ?_⟩ | refine ⟨at_map (fun _ => rfl) rfl, ?_⟩)) ?_))
  cases hg : kget m k with
  | none =>
    rw [show ofR m k = ((0, 0), false) by unfold ofR; rw [hg]]
    refine w_lookF (m := m) (enc := mkE) (val := mkV) rfl rfl rfl rfl (F.un _ rfl) (mkK) (by first | exact rfl | (focus (skip; first | exact Tr.at_set_same _ _ _ | assumption))) (hg) (F.ze _ rfl) ?_
    (repeat (first | refine y_seq ?_ | refine w_region ?_ | refine y_regEnd ?_ | refine w_move rfl rfl rfl ?_ | refine w_assign rfl rfl rfl ?_ | refine w_extract rfl rfl rfl rfl ?_ | refine w_storeC rfl rfl rfl rfl (F.sz _ rfl) (by first | exact rfl | (focus (skip; first | exact Tr.at_set_same _ _ _ | assumption))) rfl (by exact Nat.le_of_ble_eq_true rfl) rfl ?_ | refine w_loadBN rfl rfl rfl (F.ag _ rfl) rfl rfl ?_ | refine w_alloc rfl rfl (F.zl _ rfl) ?_))
    ((apply w_ret Try.func37 (congrArg Array.toList Try.results37)); (focus (repeat (first | exact ResIs.nil | apply ResIs.tmp rfl | apply ResIs.cell rfl (LoadIs.many (F.ag _ rfl) rfl (cellsFrom_box _ 0 rfl rfl))))); refine ⟨_, rfl, Ends.mk [] (ExtOk.of rfl) rfl rfl ?_⟩)
    exact (by repeat (first | exact trivial | refine ⟨at_box rfl, ?_⟩ | refine ⟨at_map (fun _ => rfl) rfl, ?_⟩))
  | some w =>
    rw [show ofR m k = (w, true) by unfold ofR; rw [hg]]
    refine w_lookT (m := m) (enc := mkE) (val := mkV) rfl rfl rfl rfl (F.un _ rfl) (mkK) (by first | exact rfl | (focus (skip; first | exact Tr.at_set_same _ _ _ | assumption))) (hg) ?_
    (repeat (first | refine y_seq ?_ | refine w_region ?_ | refine y_regEnd ?_ | refine w_move rfl rfl rfl ?_ | refine w_assign rfl rfl rfl ?_ | refine w_extract rfl rfl rfl rfl ?_ | refine w_storeC rfl rfl rfl rfl (F.sz _ rfl) (by first | exact rfl | (focus (skip; first | exact Tr.at_set_same _ _ _ | assumption))) rfl (by exact Nat.le_of_ble_eq_true rfl) rfl ?_ | refine w_loadBN rfl rfl rfl (F.ag _ rfl) rfl rfl ?_ | refine w_alloc rfl rfl (F.zl _ rfl) ?_))
    ((apply w_ret Try.func37 (congrArg Array.toList Try.results37)); (focus (repeat (first | exact ResIs.nil | apply ResIs.tmp rfl | apply ResIs.cell rfl (LoadIs.many (F.ag _ rfl) rfl (cellsFrom_box _ 0 rfl rfl))))); refine ⟨_, rfl, Ends.mk [] (ExtOk.of rfl) rfl rfl ?_⟩)
    exact (by repeat (first | exact trivial | refine ⟨at_box rfl, ?_⟩ | refine ⟨at_map (fun _ => rfl) rfl, ?_⟩))
set_option maxRecDepth 100000 in
set_option maxHeartbeats 0 in
theorem copy_spec (m : MkL) (c : Nat) : Ctr Try.prog 24 [.ptr 0 0] [mkB, marksV m c]
    (fun cz => cz = ⟨.ptr 2 0, [some mkB, some (marksV m c), some (newCells 65 [.mp 3]), some (marksV m c)]⟩) := by
  refine Ctr.at 2 rfl ?_
  refine Fnc.start Try.func24 rfl rfl ?_
  (repeat (first | (first | refine y_seq ?_ | refine w_region ?_ | refine y_regEnd ?_ | refine y_skip ?_ | refine y_condF rfl ?_ | refine w_move rfl rfl rfl ?_ | refine w_assign rfl rfl rfl ?_ | refine w_nilCheck rfl rfl rfl ?_ | refine w_fieldAddr rfl rfl rfl (F.fo _ _ rfl rfl) ?_ | refine w_loadB1 rfl rfl rfl (F.ag _ rfl) rfl rfl ?_) | refine w_callV (none_spec m c) [0, 1] rfl rfl rfl (by kernel_rfl) rfl (ExtOk.of rfl) rfl (by repeat (first | exact trivial | refine ⟨at_box rfl, ?_⟩ | refine ⟨at_map (fun _ => rfl) rfl, ?_⟩)) ?_))
  refine w_call rfl rfl rfl (by kernel_rfl) ?_
  refine Fnc.start Try.func39 rfl rfl ?_
  (repeat (first | (first | refine y_seq ?_ | refine w_region ?_ | refine y_regEnd ?_ | refine y_skip ?_ | refine y_condF rfl ?_ | refine w_move rfl rfl rfl ?_ | refine w_assign rfl rfl rfl ?_ | refine w_eqNil rfl rfl rfl rfl (F.un _ rfl) rfl ?_) | (refine w_makeI rfl rfl rfl (F.un _ rfl) rfl ?_)))
  refine w_mclone (m := m) (c := c) (enc := mkE) (val := mkV) rfl rfl Try.func49 rfl (by kernel_rfl) (by kernel_rfl) rfl rfl rfl ?_
  (repeat (first | (first | refine y_regEnd ?_ | refine w_assign rfl rfl rfl ?_) | (refine w_assert rfl rfl rfl (F.un _ rfl) rfl ?_)))
  apply w_ret Try.func39 (congrArg Array.toList Try.results39)
  · (repeat (first | exact ResIs.nil | apply ResIs.tmp rfl))
  dsimp only
  (repeat (first | refine y_regEnd ?_ | refine w_assign rfl rfl rfl ?_ | refine w_boxN rfl rfl rfl ?_ | refine w_build rfl rfl rfl (F.ze _ rfl) (F.pl _ rfl) rfl ?_))
  apply w_ret Try.func24 (congrArg Array.toList Try.results24)
  · (repeat (first | exact ResIs.nil | apply ResIs.tmp rfl))
  exact ⟨_, rfl, Ends.mk [3, 2] (ExtOk.of rfl) rfl rfl (by repeat (first | exact trivial | refine ⟨at_box rfl, ?_⟩ | refine ⟨at_map (fun _ => rfl) rfl, ?_⟩))⟩
end Go.Proofs.Ytfkfiafohcoomaa
end
