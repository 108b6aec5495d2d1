/-
  The machine of names: calls and rounds, by a way to run frames. Over any program.
-/
import Derived.Test.YtbmekelkddllkaaExJ
namespace Go.Ex
open Go Go.Sl Go.RowKit

section
variable (P : Program) (B : Nat) (w0 : World)

/-- A function's frame has come to its end. -/
def RetOK (fr : Frame) (cs : List Frame) (w : World) (v : Value) (w' : World) : Prop :=
  ∃ tmps todo, Steps P (lone fr cs w) (lone (frL fr.fn tmps todo [] fr.kind) cs w') ∧ ∃ fn, P.funcs[fr.fn]? = some fn ∧ (results fn tmps).run P w' = .ok v w'

/-- A frame comes to an end that was foretold. -/
def FrOK (e : Env) (ro : Option Nat) (fr : Frame) (cs : List Frame) (w : World) (outs : List Res) : Prop :=
  ∃ r, r ∈ outs ∧ ∃ e' w' v, e.le e' ∧ St B w0 e' r.2.1 r.2.2 w' ∧ r.1.conc e' = some v ∧
    match ro with
    | none => RetOK P fr cs w v w'
    | some _ => ∃ c cs', cs = c :: cs' ∧ Steps P (lone fr cs w) (lone (c.finish v) cs' w')

/-- Where a frame stands. -/
def Ctx (e : Env) (ro : Option Nat) (kd : CallKind) (rof : Option Nat) (cs : List Frame) : Prop :=
  match ro with
  | none => rof = none ∧ (kd = .normal ∨ (kd = .deferred ∧ ∃ c cs', cs = c :: cs' ∧ c.mode = .returning))
  | some l => ∃ x, e l = some x ∧ rof = some x.blk ∧ kd = .normal ∧ ∃ c cs', cs = c :: cs'

def RunOK (rn : Rn) : Prop :=
  ∀ ro s outs, rn ro false s = some outs → ∀ e w tmps todo ds kd rof cs, St B w0 e s.hp s.nx w → TRel e s.nt s.T tmps → IsRel e s.todo todo → DsRel e s.dfs ds → Ctx e ro kd rof cs →
    FrOK P B w0 e ro (fr0 s.fn tmps todo ds kd rof) cs w outs
def LeaveOK (rn : Rn) : Prop :=
  ∀ s outs, rn none true s = some outs → ∀ e w tmps todo ds kd cs, St B w0 e s.hp s.nx w → TRel e s.nt s.T tmps → DsRel e s.dfs ds → Ctx e none kd none cs →
    FrOK P B w0 e none (frL s.fn tmps todo ds kd) cs w outs
end

section
variable {P : Program} {B : Nat} {w0 w : World} {e : Env} {H : Heap} {nx : Nat} {rn : Rn}

theorem Ctx.mono {e e' : Env} (h : e.le e') {ro : Option Nat} {kd : CallKind} {rof : Option Nat} {cs : List Frame} (hc : Ctx e ro kd rof cs) : Ctx e' ro kd rof cs := by
  cases ro with
  | none => exact hc
  | some l => obtain ⟨x, hx, h1⟩ := hc; exact ⟨x, h _ _ hx, h1⟩

theorem FrOK.pre {e1 : Env} {ro : Option Nat} {fr fr1 : Frame} {cs : List Frame} {w1 : World} {outs outs1 : List Res} (hs : Steps P (lone fr cs w) (lone fr1 cs w1)) (he : e.le e1) (h : FrOK P B w0 e1 ro fr1 cs w1 outs1)
    (hfn : fr1.fn = fr.fn) (hk : fr1.kind = fr.kind) (hsub : ∀ r ∈ outs1, r ∈ outs) : FrOK P B w0 e ro fr cs w outs := by
  obtain ⟨r, hr, e', w', v, h1, h2, h3, h4⟩ := h
  refine ⟨r, hsub r hr, e', w', v, Env.le_trans he h1, h2, h3, ?_⟩
  cases ro with
  | none =>
    obtain ⟨tmps, todo, g1, fn, g2, g3⟩ := h4
    rw [hfn, hk] at g1
    rw [hfn] at g2
    exact ⟨tmps, todo, hs.trans g1, fn, g2, g3⟩
  | some l =>
    obtain ⟨c, cs', hc, g1⟩ := h4
    exact ⟨c, cs', hc, hs.trans g1⟩

theorem flat_mem {A : Type} {f : A → Option (List Res)} : ∀ {l : List A} {outs : List Res}, flat f l = some outs → ∀ x ∈ l, ∃ r, f x = some r ∧ ∀ y ∈ r, y ∈ outs
  | [], outs, _, x, hx => by cases hx
  | a :: l, outs, h, x, hx => by
    simp only [flat] at h
    cases ha : f a with
    | none => rw [ha] at h; cases h
    | some r =>
      rw [ha] at h
      simp only at h
      cases hl : flat f l with
      | none => rw [hl] at h; cases h
      | some r' =>
        rw [hl] at h
        simp only [Option.some.injEq] at h
        subst h
        rcases List.mem_cons.1 hx with rfl | hx
        · exact ⟨r, ha, fun y hy => List.mem_append_left _ hy⟩
        · obtain ⟨r2, g1, g2⟩ := flat_mem hl x hx
          exact ⟨r2, g1, fun y hy => List.mem_append_right _ (g2 y hy)⟩

/-- A call, by names. -/
theorem callS_ok (hrn : RunOK P B w0 rn) {g : FuncId} {args : List SV} {vs : Array Value} {outs : List Res} (h : callS P rn g args H nx = some outs) (hS : St B w0 e H nx w) (hargs : SV.concL e args = some vs.toList)
    {kd : CallKind} {cs : List Frame} (hc : Ctx e none kd none cs) : FrOK P B w0 e none (Frame.enter P g vs kd) cs w outs := by
  unfold callS bodyOf at h
  cases hf : P.funcs[g]? with
  | none => rw [hf] at h; cases h
  | some fn =>
    rw [hf] at h
    simp only at h
    cases hb : fn.body with
    | none => rw [hb] at h; cases h
    | some c =>
      rw [hb] at h
      simp only at h
      have := hrn _ _ _ h e w (vs ++ Array.replicate (fn.ntmps - vs.size) undef) [.code c] [] kd none cs hS
        (by simp only [ntOf, hf]; exact enter_rel hargs fn.ntmps) ⟨rfl, trivial⟩ trivial hc
      have he : Frame.enter P g vs kd = fr0 g (vs ++ Array.replicate (fn.ntmps - vs.size) undef) [.code c] [] kd none := by
        simp [Frame.enter, fr0, hf, hb]
      rw [he]
      exact this

/-- A call comes back to its caller. -/
theorem call_back {g : FuncId} {vs : Array Value} {fr : Frame} {cs : List Frame} {outs : List Res} (h : FrOK P B w0 e none (Frame.enter P g vs .normal) (fr :: cs) w outs) :
    ∃ r, r ∈ outs ∧ ∃ e' w' v, e.le e' ∧ St B w0 e' r.2.1 r.2.2 w' ∧ r.1.conc e' = some v ∧ Steps P (lone (Frame.enter P g vs .normal) (fr :: cs) w) (lone (fr.finish v) cs w') := by
  obtain ⟨r, hr, e', w', v, h1, h2, h3, tmps, todo, g1, fn, g2, g3⟩ := h
  refine ⟨r, hr, e', w', v, h1, h2, h3, g1.trans (.one (step_leave_returned ⟨rfl, rfl, rfl, fn, g2, g3⟩))⟩

/-- A deferred call comes back. -/
theorem deferred_back {g : FuncId} {vs : Array Value} {fr : Frame} {cs : List Frame} {outs : List Res} (hm : fr.mode = .returning) (h : FrOK P B w0 e none (Frame.enter P g vs .deferred) (fr :: cs) w outs) :
    ∃ r, r ∈ outs ∧ ∃ e' w', e.le e' ∧ St B w0 e' r.2.1 r.2.2 w' ∧ Steps P (lone (Frame.enter P g vs .deferred) (fr :: cs) w) (lone fr cs w') := by
  obtain ⟨r, hr, e', w', v, h1, h2, h3, tmps, todo, g1, fn, g2, g3⟩ := h
  refine ⟨r, hr, e', w', h1, h2, g1.trans (.one (step_lone_go ?_))⟩
  have hk : (Frame.enter P g vs .deferred).kind = .deferred := rfl
  have hfn : (Frame.enter P g vs .deferred).fn = g := rfl
  rw [hfn] at g2
  simp [stepG, unwind, doReturn, frL, hfn, g2, g3, hk, hm]

theorem conc_loop {l : Nat} {st : LoopState} {pend : Option Code} {fn : FuncId} {nt : Nat} {T : Tr SV} {params : Array Tmp} {assign body : Code} {dr : Nat} {x : Ent} (hS : St B w0 e H nx w) (hl : H.at' l = some (.loop st pend fn nt T params assign body dr)) (hx : e l = some x) :
    ∃ tmps y, e dr = some y ∧ TRel e nt T tmps ∧ w.heap[x.blk]? = some (.loop { state := st, pending := pend, fn := fn, tmps := tmps, params := params, assign := assign, body := body, defers := y.blk }) := by
  obtain ⟨o, _, hw, ho⟩ := hS.at hl hx
  obtain ⟨tmps, y, h1, h2, rfl⟩ := ho
  exact ⟨tmps, y, h1, h2, hw⟩

/-- A round, by names: it comes back to its caller. -/
theorem roundS_ok (hrn : RunOK P B w0 rn) {l : Nat} {args : List SV} {vs : List Value} {outs : List Res} {x : Ent} (h : roundS rn l args H nx = some outs) (hS : St B w0 e H nx w) (hargs : SV.concL e args = some vs) (hx : e l = some x) :
    ∃ fn tmps assign body, (Instr.yield x.blk vs.toArray).run P w = .ok (.round x.blk fn tmps assign body) w ∧ ∀ (fr : Frame) (cs : List Frame),
      ∃ r, r ∈ outs ∧ ∃ e' w' v, e.le e' ∧ St B w0 e' r.2.1 r.2.2 w' ∧ r.1.conc e' = some v ∧ Steps P (lone (Frame.round x.blk fn tmps assign body .normal) (fr :: cs) w) (lone (fr.finish v) cs w') := by
  unfold roundS at h
  split at h
  · rename_i st pend fn nt T params assign body dr hl
    obtain ⟨tmps, y, hy, hT, hw⟩ := conc_loop hS hl hx
    cases hb : Nat.beq params.size args.length with
    | false => rw [hb] at h; cases h
    | true =>
      rw [hb] at h
      simp only [cond_true] at h
      have hsz := eq_of_beq hb
      have hlen := concL_length hargs
      refine ⟨fn, (params.zip vs.toArray).foldl (fun tmps (t, a) => tmps.setIfInBounds t a) tmps, assign, body, ?_, fun fr cs => ?_⟩
      · have hg := run_getObj_any (P := P) hw (by simp)
        have hne : ¬ (vs.toArray.size ≠ params.size) := by simp; omega
        simp only [Instr.yield, Instr.getLoop, Sem.run_bind, hg, Result.andThen, Sem.run_pure]
        rw [if_neg hne]
        rfl
      · have hfold : (params.zip vs.toArray).foldl (fun tmps (t, a) => tmps.setIfInBounds t a) tmps = (params.toList.zip vs).foldl (fun tmps x => tmps.setIfInBounds x.1 x.2) tmps := by
          rw [← Array.foldl_toList]
          simp
        have := hrn _ _ _ h e w _ [.code assign, .beginRound, .code body] [] .normal (some x.blk) (fr :: cs) hS (hT.fold hargs) ⟨rfl, rfl, rfl, trivial⟩ trivial ⟨x, hx, rfl, rfl, fr, cs, rfl⟩
        obtain ⟨r, hr, e', w', v, h1, h2, h3, c, cs', hc, g⟩ := this
        simp only [List.cons.injEq] at hc
        obtain ⟨rfl, rfl⟩ := hc
        refine ⟨r, hr, e', w', v, h1, h2, h3, ?_⟩
        rw [hfold]
        exact g
  · cases h
end
end Go.Ex
