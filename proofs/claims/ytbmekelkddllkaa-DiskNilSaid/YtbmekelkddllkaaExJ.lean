/-
  The machine of names: frames, and the model's single steps. Over any program.
-/
import Derived.Test.YtbmekelkddllkaaExI
import Derived.Calls
namespace Go.Ex
open Go Go.Sl Go.RowKit

/-! ### what is to be done -/
def IRel (e : Env) : AIt → Item → Prop
  | .code c, i => i = .code c
  | .inBlock id, i => i = .inBlock id
  | .inLoop b, i => i = .inLoop b
  | .inScope b, i => i = .inScope b
  | .inReg ops k l, i => i = .inRegion ops (List.range' k (ops.size - k)) ∧ l = ops.toList.drop k
  | .inRange l, i => ∃ x, e l = some x ∧ i = .inRangeFunc x.blk
  | .endRange l, i => ∃ x, e l = some x ∧ i = .endRangeFunc x.blk
  | .beginRound, i => i = .beginRound
def IsRel (e : Env) : List AIt → List Item → Prop
  | [], [] => True
  | a :: l, i :: m => IRel e a i ∧ IsRel e l m
  | _, _ => False

theorem IRel.mono {e e' : Env} (h : e.le e') {a : AIt} {i : Item} (hr : IRel e a i) : IRel e' a i := by
  cases a <;> first
    | exact hr
    | (obtain ⟨x, hx, hi⟩ := hr; exact ⟨x, h _ _ hx, hi⟩)
theorem IsRel.mono {e e' : Env} (h : e.le e') : ∀ {l : List AIt} {m : List Item}, IsRel e l m → IsRel e' l m
  | [], [], _ => trivial
  | _ :: _, _ :: _, hr => ⟨hr.1.mono h, IsRel.mono h hr.2⟩
  | [], _ :: _, hr => hr.elim
  | _ :: _, [], hr => hr.elim
theorem IsRel.cons {e : Env} {a : AIt} {l : List AIt} {m : List Item} (h : IsRel e (a :: l) m) : ∃ i m', m = i :: m' ∧ IRel e a i ∧ IsRel e l m' := by
  cases m with
  | nil => exact h.elim
  | cons i m' => exact ⟨i, m', rfl, h.1, h.2⟩
theorem IsRel.nil {e : Env} {m : List Item} (h : IsRel e [] m) : m = [] := by
  cases m with
  | nil => rfl
  | cons i m' => exact h.elim

theorem exitS_ok {e : Env} {id : Nat} : ∀ {l : List AIt} {m : List Item}, IsRel e l m → (∀ l', exitS id l = some l' → ∃ m', exitTo id m = some m' ∧ IsRel e l' m') ∧ (exitS id l = none → exitTo id m = none)
  | [], m, h => by
    have := h.nil
    subst this
    exact ⟨fun l' hl => by simp [exitS] at hl, fun _ => rfl⟩
  | a :: l, m, h => by
    obtain ⟨i, m', rfl, ha, hl⟩ := h.cons
    have ih := exitS_ok (id := id) hl
    cases a with
    | inBlock id' =>
      simp only [IRel] at ha
      subst ha
      simp only [exitS, exitTo]
      cases hb : Nat.beq id' id with
      | true =>
        have := eq_of_beq hb
        subst this
        simp only [cond_true, beq_self_eq_true, if_true]
        exact ⟨fun l' hl' => ⟨m', rfl, by simp only [Option.some.injEq] at hl'; subst hl'; exact hl⟩, fun hn => by cases hn⟩
      | false =>
        have : (id' == id) = false := by
          rw [beq_eq_false_iff_ne]
          rintro rfl
          rw [show Nat.beq id' id' = true from Nat.beq_refl id'] at hb
          cases hb
        simp only [cond_false, this, Bool.false_eq_true, if_false]
        exact ih
    | inReg ops k l2 => obtain ⟨rfl, _⟩ := ha; exact ih
    | inRange l2 => obtain ⟨x, _, rfl⟩ := ha; exact ih
    | endRange l2 => obtain ⟨x, _, rfl⟩ := ha; exact ih
    | _ => simp only [IRel] at ha; subst ha; exact ih

theorem gotoS_ok {e : Env} {id : Nat} : ∀ {l : List AIt} {m : List Item}, IsRel e l m → (∀ l', gotoS id l = some l' → ∃ m', gotoIn id m = some m' ∧ IsRel e l' m') ∧ (gotoS id l = none → gotoIn id m = none)
  | [], m, h => by
    have := h.nil
    subst this
    exact ⟨fun l' hl => by simp [gotoS] at hl, fun _ => rfl⟩
  | a :: l, m, h => by
    obtain ⟨i, m', rfl, ha, hl⟩ := h.cons
    have ih := gotoS_ok (id := id) hl
    cases a with
    | inScope b =>
      simp only [IRel] at ha
      subst ha
      simp only [gotoS, gotoIn]
      cases hf : findLabel b id with
      | some rest =>
        simp only
        exact ⟨fun l' hl' => ⟨_, rfl, by simp only [Option.some.injEq] at hl'; subst hl'; exact ⟨rfl, rfl, hl⟩⟩, fun hn => by cases hn⟩
      | none => exact ih
    | inReg ops k l2 => obtain ⟨rfl, _⟩ := ha; exact ih
    | inRange l2 => obtain ⟨x, _, rfl⟩ := ha; exact ih
    | endRange l2 => obtain ⟨x, _, rfl⟩ := ha; exact ih
    | _ => simp only [IRel] at ha; subst ha; exact ih

structure FRel (e : Env) (s : FrS) (fr : Frame) : Prop where
  fn : fr.fn = s.fn
  tmps : TRel e s.nt s.T fr.tmps
  todo : IsRel e s.todo fr.todo
  dfs : DsRel e s.dfs fr.defers
theorem FRel.mono {e e' : Env} (h : e.le e') {s : FrS} {fr : Frame} (hr : FRel e s fr) : FRel e' s fr := ⟨hr.fn, hr.tmps.mono h, hr.todo.mono h, hr.dfs.mono h⟩

theorem TRel.put {e : Env} {nt : Nat} {T : Tr SV} {tmps : Array Value} (h : TRel e nt T tmps) {s : SV} {v : Value} (hv : s.conc e = some v) (d : Tmp) : TRel e nt (putS nt T (some d) s) (tmps.setIfInBounds d v) := by
  refine ⟨by simpa using h.1, fun t u hu => ?_⟩
  simp only [putS] at hu
  cases hb : Nat.blt d nt with
  | true =>
    rw [hb] at hu
    simp only [cond_true] at hu
    have hlt := lt_of_blt hb
    rcases Tr.at_set hu with ⟨rfl, rfl⟩ | ⟨hne, hu⟩
    · refine ⟨v, hv, ?_⟩
      rw [Array.getD_eq_getD_getElem?, Array.getElem?_setIfInBounds_self_of_lt (by rw [h.1]; exact hlt)]
      rfl
    · obtain ⟨v', hv', hg⟩ := h.2 t u hu
      refine ⟨v', hv', ?_⟩
      rw [Array.getD_eq_getD_getElem?, Array.getElem?_setIfInBounds_ne (Ne.symm hne), ← Array.getD_eq_getD_getElem?]
      exact hg
  | false =>
    rw [hb] at hu
    simp only [cond_false] at hu
    obtain ⟨v', hv', hg⟩ := h.2 t u hu
    refine ⟨v', hv', ?_⟩
    have : tmps.size ≤ d := by
      rw [h.1]
      rcases Nat.lt_or_ge d nt with h' | h'
      · have : Nat.blt d nt = true := Nat.ble_eq_true_of_le h'
        rw [this] at hb; cases hb
      · exact h'
    rw [Array.setIfInBounds_eq_of_size_le this]
    exact hg

/-- The slots, where a value comes to its slot. -/
def putV (tmps : Array Value) (dst : Option Tmp) (v : Value) : Array Value := match dst with
  | some d => tmps.setIfInBounds d v
  | none => tmps
theorem TRel.putO {e : Env} {nt : Nat} {T : Tr SV} {tmps : Array Value} (h : TRel e nt T tmps) {s : SV} {v : Value} (hv : s.conc e = some v) (dst : Option Tmp) : TRel e nt (putS nt T dst s) (putV tmps dst v) := by
  cases dst with
  | none => exact h
  | some d => exact h.put hv d

theorem TRel.fold {e : Env} {nt : Nat} : ∀ {ps : List Tmp} {ss : List SV} {vs : List Value} {T : Tr SV} {tmps : Array Value}, SV.concL e ss = some vs → TRel e nt T tmps →
    TRel e nt ((ps.zip ss).foldl (fun T x => putS nt T (some x.1) x.2) T) ((ps.zip vs).foldl (fun tmps x => tmps.setIfInBounds x.1 x.2) tmps)
  | [], ss, vs, T, tmps, hc, h => by simpa using h
  | p :: ps, [], vs, T, tmps, hc, h => by
    simp only [SV.concL, Option.some.injEq] at hc
    subst hc
    simpa using h
  | p :: ps, s :: ss, vs, T, tmps, hc, h => by
    obtain ⟨v, ws, rfl, hv, hl⟩ := concL_cons hc
    simp only [List.zip_cons_cons, List.foldl_cons]
    exact TRel.fold hl (h.put hv p)

theorem enterT_at : ∀ (l : List SV) (T : Tr SV) (i t : Nat) (s : SV), (enterT T i l).at' t = some s → (i ≤ t ∧ l[t - i]? = some s) ∨ T.at' t = some s
  | [], T, i, t, s, h => .inr h
  | x :: l, T, i, t, s, h => by
    rcases enterT_at l (T.set i x) (i + 1) t s h with ⟨h1, h2⟩ | h
    · refine .inl ⟨by omega, ?_⟩
      rw [show t - i = (t - (i + 1)) + 1 by omega]
      simpa using h2
    · rcases Tr.at_set h with ⟨rfl, rfl⟩ | ⟨_, h⟩
      · exact .inl ⟨Nat.le_refl _, by simp⟩
      · exact .inr h

theorem enter_rel {e : Env} {args : List SV} {vs : Array Value} (hc : SV.concL e args = some vs.toList) (n : Nat) : TRel e (max args.length n) (enterT .nil 0 args) (vs ++ Array.replicate (n - vs.size) undef) := by
  have hl := concL_length hc
  simp only [Array.length_toList] at hl
  refine ⟨by simp only [Array.size_append, Array.size_replicate]; omega, fun t s hs => ?_⟩
  rcases enterT_at args .nil 0 t s hs with ⟨_, h⟩ | h
  · obtain ⟨v, hv, hg⟩ := concL_get hc h
    refine ⟨v, hv, ?_⟩
    simp only [Nat.sub_zero] at hg h
    have hlt : t < vs.size := by
      have := (List.getElem?_eq_some_iff.1 hg).1
      simpa using this
    rw [Array.getD_eq_getD_getElem?, Array.getElem?_append_left hlt]
    simp only [Array.getElem?_toList] at hg
    rw [hg]
    rfl
  · rw [Tr.at_nil] at h; cases h

/-! ### single steps -/
section
variable {P : Program} {fn : FuncId} {tmps : Array Value} {k : List Item} {ds : List Deferred} {kd : CallKind} {ro : Option Nat} {cs : List Frame} {w : World}

/-- A frame that runs. -/
def fr0 (fn : FuncId) (tmps : Array Value) (todo : List Item) (ds : List Deferred) (kd : CallKind) (ro : Option Nat) : Frame := { fn := fn, tmps := tmps, todo := todo, defers := ds, mode := .run, kind := kd, roundOf := ro }

theorem st_skip : step P (lone (fr0 fn tmps (.code .skip :: k) ds kd ro) cs w) = .next (lone (fr0 fn tmps k ds kd ro) cs w) := step_lone_go (by simp [stepG, stepG.exec, fr0])
theorem st_label {l : Nat} : step P (lone (fr0 fn tmps (.code (.label l) :: k) ds kd ro) cs w) = .next (lone (fr0 fn tmps k ds kd ro) cs w) := step_lone_go (by simp [stepG, stepG.exec, fr0])
theorem st_inBlock {l : Nat} : step P (lone (fr0 fn tmps (.inBlock l :: k) ds kd ro) cs w) = .next (lone (fr0 fn tmps k ds kd ro) cs w) := step_lone_go (by simp [stepG, stepG.exec, fr0])
theorem st_inScope {b : Code} : step P (lone (fr0 fn tmps (.inScope b :: k) ds kd ro) cs w) = .next (lone (fr0 fn tmps k ds kd ro) cs w) := step_lone_go (by simp [stepG, stepG.exec, fr0])
theorem st_seq {a b : Code} : step P (lone (fr0 fn tmps (.code (.seq a b) :: k) ds kd ro) cs w) = .next (lone (fr0 fn tmps (.code a :: .code b :: k) ds kd ro) cs w) := step_lone_go (by simp [stepG, stepG.exec, fr0])
theorem st_block {id : Nat} {b : Code} : step P (lone (fr0 fn tmps (.code (.block id b) :: k) ds kd ro) cs w) = .next (lone (fr0 fn tmps (.code b :: .inBlock id :: k) ds kd ro) cs w) := step_lone_go (by simp [stepG, stepG.exec, fr0])
theorem st_loop {b : Code} : step P (lone (fr0 fn tmps (.code (.loop b) :: k) ds kd ro) cs w) = .next (lone (fr0 fn tmps (.code b :: .inLoop b :: k) ds kd ro) cs w) := step_lone_go (by simp [stepG, stepG.exec, fr0])
theorem st_inLoop {b : Code} : step P (lone (fr0 fn tmps (.inLoop b :: k) ds kd ro) cs w) = .next (lone (fr0 fn tmps (.code b :: .inLoop b :: k) ds kd ro) cs w) := step_lone_go (by simp [stepG, stepG.exec, fr0])
theorem st_scope {b : Code} : step P (lone (fr0 fn tmps (.code (.scope b) :: k) ds kd ro) cs w) = .next (lone (fr0 fn tmps (.code b :: .inScope b :: k) ds kd ro) cs w) := step_lone_go (by simp [stepG, stepG.exec, fr0])
theorem st_cond {c : Operand} {a b : Code} {t : Bool} (h : (fr0 fn tmps (.code (.cond c a b) :: k) ds kd ro).eval c = .bool t) : step P (lone (fr0 fn tmps (.code (.cond c a b) :: k) ds kd ro) cs w) = .next (lone (fr0 fn tmps (.code (if t then a else b) :: k) ds kd ro) cs w) := by
  unfold fr0 at h ⊢
  exact step_lone_go (by simp [stepG, stepG.exec, h])
theorem st_exit {id : Nat} {k' : List Item} (h : exitTo id k = some k') : step P (lone (fr0 fn tmps (.code (.exit id) :: k) ds kd ro) cs w) = .next (lone (fr0 fn tmps k' ds kd ro) cs w) := step_lone_go (by simp [stepG, stepG.exec, fr0, h])
theorem st_goto {id : Nat} {k' : List Item} (h : gotoIn id k = some k') : step P (lone (fr0 fn tmps (.code (.goto id) :: k) ds kd ro) cs w) = .next (lone (fr0 fn tmps k' ds kd ro) cs w) := step_lone_go (by simp [stepG, stepG.exec, fr0, h])
theorem st_region {id : Nat} {ops : Array Oper} : step P (lone (fr0 fn tmps (.code (.region id ops false) :: k) ds kd ro) cs w) = .next (lone (fr0 fn tmps (.inRegion ops (List.range' 0 ops.size) :: k) ds kd ro) cs w) :=
  step_lone_go (by simp [stepG, stepG.exec, fr0, List.range_eq_range'])
theorem st_regionEnd {ops : Array Oper} : step P (lone (fr0 fn tmps (.inRegion ops [] :: k) ds kd ro) cs w) = .next (lone (fr0 fn tmps k ds kd ro) cs w) := step_lone_go (by simp [stepG, stepG.exec, fr0])
theorem st_draw {id : Nat} {ops : Array Oper} : step P (lone (fr0 fn tmps (.code (.region id ops true) :: k) ds kd ro) cs w) =
    .next (lone (fr0 fn tmps (.inRegion ops (Region.schedule (P.follows .mixedOrders) ops (w.tape w.drawn (.order fn id))) :: k) ds kd ro) cs { w with drawn := w.drawn + 1 }) :=
  step_lone_go (by simp [stepG, stepG.exec, fr0, choose, Sem.run, Question.forced, Question.cut])

/-- A frame that returns. -/
def frL (fn : FuncId) (tmps : Array Value) (todo : List Item) (ds : List Deferred) (kd : CallKind) : Frame := { fn := fn, tmps := tmps, todo := todo, defers := ds, mode := .returning, kind := kd, roundOf := none }
theorem st_ret : step P (lone (fr0 fn tmps (.code .ret :: k) ds kd none) cs w) = .next (lone (frL fn tmps (.code .ret :: k) ds kd) cs w) := step_lone_go (by simp [stepG, stepG.exec, fr0, frL])
theorem st_end : step P (lone (fr0 fn tmps [] ds kd none) cs w) = .next (lone (frL fn tmps [] ds kd) cs w) := step_lone_go (by simp [stepG, stepG.exec, fr0, frL])

/-- A round is left. -/
def leaves (jump : Option Code) (todo : List Item) : Prop :=
  (todo = [] ∧ jump = none) ∨ (∃ k, todo = .code .ret :: k ∧ jump = some .ret) ∨ (∃ id k, todo = .code (.exit id) :: k ∧ exitTo id k = none ∧ jump = some (.exit id)) ∨ (∃ id k, todo = .code (.goto id) :: k ∧ gotoIn id k = none ∧ jump = some (.goto id))
theorem st_leave {l : Nat} {jump : Option Code} {todo : List Item} {c : Frame} {v : Value} {w' : World} (h : leaves jump todo) (hr : (Instr.endRound l jump).run P w = .ok v w') :
    step P (lone (fr0 fn tmps todo ds .normal (some l)) (c :: cs) w) = .next (lone (c.finish v) cs w') := by
  rcases h with ⟨rfl, rfl⟩ | ⟨k, rfl, rfl⟩ | ⟨id, k, rfl, hx, rfl⟩ | ⟨id, k, rfl, hx, rfl⟩
  · exact step_lone_go (by simp [stepG, stepG.exec, fr0, hr, doReturn])
  · exact step_lone_go (by simp [stepG, stepG.exec, fr0, hr, doReturn])
  · exact step_lone_go (by simp [stepG, stepG.exec, fr0, hx, hr, doReturn])
  · exact step_lone_go (by simp [stepG, stepG.exec, fr0, hx, hr, doReturn])

theorem fr0_eval {todo : List Item} (x : Operand) : (fr0 fn tmps todo ds kd ro).eval x = (match x with | .tmp t => tmps.getD t undef | .const v => v | .global g => .pointer (some ⟨g, 0, none⟩) | .func f => .func (.func f) #[] #[]) := by cases x <;> rfl

/-- An operation that is not carried out. -/
theorem st_notWanted {ops : Array Oper} {i : Nat} {rest : List Nat} {o : Oper} (ho : ops[i]? = some o) (hw : Region.wanted o (yielded ops tmps) = false) :
    step P (lone (fr0 fn tmps (.inRegion ops (i :: rest) :: k) ds kd ro) cs w) = .next (lone (fr0 fn (putV tmps o.dst undef) (.inRegion ops rest :: k) ds kd ro) cs w) := by
  refine step_lone_go ?_
  simp only [fr0, stepG, stepG.exec, ho, Option.map_some, Option.getD_some, hw, Bool.false_eq_true, if_false, GStep.bare_go, Frame.finish, Option.bind_some]
  cases o.dst <;> rfl

/-- An operation. -/
theorem stepG_oper {ops : Array Oper} {i : Nat} {rest : List Nat} {o : Oper} (ho : ops[i]? = some o) (hw : Region.wanted o (yielded ops tmps) = true) (hd : ro = none ∨ ∀ c, o.op ≠ .defer c) :
    stepG P true { frame := fr0 fn tmps (.inRegion ops (i :: rest) :: k) ds kd ro, callers := cs, status := .running, dying := none } w =
      stepG.apply P true (fr0 fn tmps (.inRegion ops (i :: rest) :: k) ds kd ro) cs none (execOp (fr0 fn tmps (.inRegion ops (i :: rest) :: k) ds kd ro).eval o) w := by
  simp only [fr0, stepG, stepG.exec, ho, Option.map_some, Option.getD_some, hw, if_true, stepG.oper, Frame.oper?]
  rcases hd with rfl | hd
  · rfl
  · cases ro with
    | none => rfl
    | some l =>
      cases hop : o.op <;> first
        | exact absurd hop (hd _)
        | rfl

theorem finish_region {ops : Array Oper} {i : Nat} {rest : List Nat} {o : Oper} (ho : ops[i]? = some o) (v : Value) :
    (fr0 fn tmps (.inRegion ops (i :: rest) :: k) ds kd ro).finish v = fr0 fn (putV tmps o.dst v) (.inRegion ops rest :: k) ds kd ro := by
  simp only [fr0, Frame.finish, ho, Option.bind_some]
  cases o.dst <;> rfl
end
end Go.Ex
