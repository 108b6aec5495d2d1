/-
  The machine of names: operations in a frame; a step. Over any program.
-/
import Derived.Test.YtbmekelkddllkaaExM
namespace Go.Ex
open Go Go.Sl Go.RowKit

section
variable {P : Program} {B : Nat} {w0 w : World} {e : Env} {H : Heap} {nx : Nat} {rn : Rn}

theorem tryRecover_none {fr : Frame} {cs : List Frame} (h : fr.kind = .normal ∨ (fr.kind = .deferred ∧ ∃ c cs', cs = c :: cs' ∧ c.mode = .returning)) : tryRecover fr cs = none := by
  rcases h with h | ⟨h, c, cs', rfl, hm⟩
  · cases cs <;> simp [tryRecover, h]
  · simp [tryRecover, h, hm]

/-- What an operation of a region hands back, and what comes of it: the operation's place is 'i'. -/
theorem outS_ok (hr : RunOK P B w0 rn) {ro : Option Nat} {s : FrS} {outs : List Res} {out : Out} {tmps : Array Value} {ops : Array Oper} {i : Nat} {rest : List Nat} {o : Oper} {k : List Item} {kA : List AIt} {ds : List Deferred} {kd : CallKind} {rof : Option Nat} {cs : List Frame}
    (h : outS P rn ro s o.dst kA out = some outs) (ho : ops[i]? = some o) (hw : Region.wanted o (yielded ops tmps) = true) (hT : TRel e s.nt s.T tmps) (hk : IsRel e kA (.inRegion ops rest :: k)) (hd : DsRel e s.dfs ds) (hc : Ctx e ro kd rof cs)
    (hdf : ro = none ∨ ∀ c, o.op ≠ .defer c) (hdo : Does P B w0 e out ((execOp (fr0 s.fn tmps (.inRegion ops (i :: rest) :: k) ds kd rof).eval o).run P w)) :
    FrOK P B w0 e ro (fr0 s.fn tmps (.inRegion ops (i :: rest) :: k) ds kd rof) cs w outs := by
  obtain ⟨e', w', hle, hS', hrun⟩ := hdo
  obtain ⟨a, H', nx'⟩ := out
  have hdf' : rof = none ∨ ∀ c, o.op ≠ .defer c := by
    rcases hdf with rfl | hdf
    · exact .inl hc.1
    · exact .inr hdf
  have hoper := stepG_oper (P := P) (fn := s.fn) (k := k) (ds := ds) (kd := kd) (cs := cs) (w := w) (rest := rest) ho hw hdf'
  have hfin := fun v => finish_region (fn := s.fn) (tmps := tmps) (k := k) (ds := ds) (kd := kd) (ro := rof) (rest := rest) ho v
  have hkind : ∀ {A : Type} (x y : A), (match (fr0 s.fn tmps (.inRegion ops (i :: rest) :: k) ds kd rof).todo with | .call _ true _ _ :: _ => x | _ => y) = y := fun _ _ => rfl
  have value : ∀ (sv : SV) (v : Value) (e2 : Env) (w2 : World) (H2 : Heap) (nx2 : Nat) (outs2 : List Res), e.le e2 → St B w0 e2 H2 nx2 w2 → sv.conc e2 = some v →
      Steps P (lone (fr0 s.fn tmps (.inRegion ops (i :: rest) :: k) ds kd rof) cs w) (lone ((fr0 s.fn tmps (.inRegion ops (i :: rest) :: k) ds kd rof).finish v) cs w2) →
      rn ro false { s with T := putS s.nt s.T o.dst sv, todo := kA, hp := H2, nx := nx2 } = some outs2 → (∀ r ∈ outs2, r ∈ outs) → FrOK P B w0 e ro (fr0 s.fn tmps (.inRegion ops (i :: rest) :: k) ds kd rof) cs w outs := by
    intro sv v e2 w2 H2 nx2 outs2 hle2 hS2 hv hst hrn hsub
    rw [hfin] at hst
    exact (hr _ _ _ hrn e2 w2 (putV tmps o.dst v) (.inRegion ops rest :: k) ds kd rof cs hS2 ((hT.mono hle2).putO hv o.dst) (hk.mono hle2) (hd.mono hle2) (hc.mono hle2)).pre hst hle2 rfl rfl hsub
  cases a with
  | val sv =>
    obtain ⟨v, hv, hres⟩ := hrun
    refine value sv v e' w' H' nx' outs hle hS' hv (.one (step_lone_go ?_)) h (fun r hr => hr)
    rw [hoper]
    simp only [stepG.apply, Sem.runT_eq, if_true, hres, GStep.bare_after, GStep.bare_go]
  | skip =>
    refine value undefS undef e' w' H' nx' outs hle hS' rfl (.one (step_lone_go ?_)) h (fun r hr => hr)
    have hres : Sem.run P (execOp (fr0 s.fn tmps (.inRegion ops (i :: rest) :: k) ds kd rof).eval o) w = .ok .skip w' := hrun
    rw [hoper]
    simp only [stepG.apply, Sem.runT_eq, if_true, hres, GStep.bare_after, GStep.bare_go]
  | recover =>
    cases ro with
    | some l => cases h
    | none =>
      refine value (.sc .nilIface) .nilIface e' w' H' nx' outs hle hS' rfl (.one (step_lone_go ?_)) h (fun r hr => hr)
      have hres : Sem.run P (execOp (fr0 s.fn tmps (.inRegion ops (i :: rest) :: k) ds kd rof).eval o) w = .ok .recover w' := hrun
      obtain ⟨rfl, hkd⟩ := hc
      have htr : tryRecover (fr0 s.fn tmps (.inRegion ops (i :: rest) :: k) ds kd none) cs = none := tryRecover_none hkd
      have hro : (fr0 s.fn tmps (.inRegion ops (i :: rest) :: k) ds kd none).roundOf = none := rfl
      rw [hoper]
      simp only [stepG.apply, Sem.runT_eq, if_true, hres, hro, htr, GStep.bare_after, GStep.bare_go]
  | dfr d =>
    cases ro with
    | some l => cases h
    | none =>
      obtain ⟨dd, hdd, hres⟩ := hrun
      simp only [outS] at h
      refine (hr _ _ _ h e' w' (putV tmps o.dst undef) (.inRegion ops rest :: k) (dd :: ds) kd rof cs hS' ((hT.mono hle).putO rfl o.dst) (hk.mono hle) ⟨hdd, hd.mono hle⟩ (hc.mono hle)).pre (.one (step_lone_go ?_)) hle rfl rfl (fun r hr => hr)
      rw [hoper]
      have := finish_region (fn := s.fn) (tmps := tmps) (k := k) (ds := dd :: ds) (kd := kd) (ro := rof) (rest := rest) ho undef
      simp only [stepG.apply, Sem.runT_eq, if_true, hres, GStep.bare_after, GStep.bare_go]
      rw [← this]
      rfl
  | enter g args =>
    obtain ⟨vs, hvs, hres⟩ := hrun
    simp only [outS] at h
    cases hcall : callS P rn g args H' nx' with
    | none => rw [hcall] at h; cases h
    | some rs =>
      rw [hcall] at h
      simp only at h
      obtain ⟨r, hr1, e2, w2, v, g1, g2, g3, g4⟩ := call_back (callS_ok hr hcall hS' hvs (kd := .normal) (cs := fr0 s.fn tmps (.inRegion ops (i :: rest) :: k) ds kd rof :: cs) ⟨rfl, .inl rfl⟩)
      obtain ⟨outs', q1, q2⟩ := flat_mem h r hr1
      refine value r.1 v e2 w2 r.2.1 r.2.2 outs' (Env.le_trans hle g1) g2 g3 (.head (step_lone_go ?_) g4) q1 q2
      rw [hoper]
      simp only [stepG.apply, Sem.runT_eq, if_true, hres, GStep.bare_after, GStep.bare_go]
      first | done | rfl
  | round l args =>
    obtain ⟨x, vs, hx, hvs, hres⟩ := hrun
    simp only [outS] at h
    cases hround : roundS rn l args H' nx' with
    | none => rw [hround] at h; cases h
    | some rs =>
      rw [hround] at h
      simp only at h
      obtain ⟨fn2, tmps2, assign, body, hy, hback⟩ := roundS_ok (P := P) hr hround hS' hvs hx
      rw [hy] at hres
      obtain ⟨r, hr1, e2, w2, v, g1, g2, g3, g4⟩ := hback (fr0 s.fn tmps (.inRegion ops (i :: rest) :: k) ds kd rof) cs
      obtain ⟨outs', q1, q2⟩ := flat_mem h r hr1
      refine value r.1 v e2 w2 r.2.1 r.2.2 outs' (Env.le_trans hle g1) g2 g3 (.head (step_lone_go ?_) g4) q1 q2
      rw [hoper]
      simp only [stepG.apply, Sem.runT_eq, if_true, hres, GStep.bare_after, GStep.bare_go]
      first | done | rfl

/-- A deferred call in a round is not foretold. -/
theorem defer_any {T : Tr SV} {o : Oper} {c : Call} {outs : List Out} (hop : o.op = .defer c) (h : anyOp P T H nx o = some outs) : ∃ d, outs = [(.dfr d, H, nx)] := by
  unfold anyOp at h
  have h1 : readOp P T H o = none := by unfold readOp; rw [hop]
  have h2 : pureOp P T o = none := by unfold pureOp; rw [hop]; rfl
  rw [h1, h2] at h
  simp only at h
  cases he : effOp P T H nx o with
  | none =>
    rw [he] at h
    unfold nextOp at h
    rw [hop] at h
    cases h
  | some r =>
    rw [he] at h
    simp only [Option.some.injEq] at h
    subst h
    unfold effOp at he
    rw [hop] at he
    simp only at he
    cases hc : c.callee with
    | builtin b => rw [hc] at he; cases he
    | invoke a b => rw [hc] at he; cases he
    | value f =>
      rw [hc] at he
      simp only at he
      split at he
      · simp only [Option.some.injEq] at he
        exact ⟨_, by rw [← he]⟩
      · cases he

theorem opS_ok (hr : RunOK P B w0 rn) {ro : Option Nat} {s : FrS} {kA : List AIt} {outs : List Res} {tmps : Array Value} {ops : Array Oper} {i : Nat} {o : Oper} {l : List Oper} {k : List Item} {ds : List Deferred} {kd : CallKind} {rof : Option Nat} {cs : List Frame}
    (h : opS P rn ro s kA ops i o l = some outs) (hl : o :: l = ops.toList.drop i) (hS : St B w0 e s.hp s.nx w) (hT : TRel e s.nt s.T tmps) (hk : IsRel e kA k) (hd : DsRel e s.dfs ds) (hc : Ctx e ro kd rof cs) :
    FrOK P B w0 e ro (fr0 s.fn tmps (.inRegion ops (List.range' i (ops.size - i)) :: k) ds kd rof) cs w outs := by
  have hlt : i < ops.size := by
    have := congrArg List.length hl
    simp at this
    omega
  have ho : ops[i]? = some o := by
    have : ops.toList[i]? = some o := by
      have := congrArg List.head? hl
      simpa using this.symm
    simpa using this
  have hl' : l = ops.toList.drop (i + 1) := by
    have := congrArg List.tail hl
    simpa using this
  have hrange : List.range' i (ops.size - i) = i :: List.range' (i + 1) (ops.size - (i + 1)) := by
    rw [show ops.size - i = (ops.size - (i + 1)) + 1 by omega, List.range'_succ]
  rw [hrange]
  have hk2 : IsRel e (.inReg ops (i + 1) l :: kA) (.inRegion ops (List.range' (i + 1) (ops.size - (i + 1))) :: k) := ⟨⟨rfl, hl'⟩, hk⟩
  unfold opS at h
  cases hw : wantedS s.T ops o with
  | none => rw [hw] at h; cases h
  | some b =>
    have hwr := wantedS_ok hw hT
    rw [hw] at h
    cases b with
    | false => exact (hr _ _ _ h e w (putV tmps o.dst undef) _ ds kd rof cs hS (hT.putO rfl o.dst) hk2 hd hc).pre (.one (st_notWanted ho hwr)) (Env.le_refl e) rfl rfl (fun r hr => hr)
    | true =>
      simp only at h
      cases ha : anyOp P s.T s.hp s.nx o with
      | none => rw [ha] at h; cases h
      | some os =>
        rw [ha] at h
        simp only at h
        have hE := TRel.ev (fr := fr0 s.fn tmps (.inRegion ops (i :: List.range' (i + 1) (ops.size - (i + 1))) :: k) ds kd rof) hT
        obtain ⟨out, hout, hdo⟩ := anyOp_ok hS hE ha
        obtain ⟨outs', q1, q2⟩ := flat_mem h out hout
        have hdf : ro = none ∨ ∀ c, o.op ≠ .defer c := by
          cases ro with
          | none => exact .inl rfl
          | some lp =>
            refine .inr (fun c hop => ?_)
            obtain ⟨d, rfl⟩ := defer_any hop ha
            simp [flat, outS] at h
        have := outS_ok hr q1 ho hwr hT hk2 hd hc hdf hdo
        exact this.pre (.refl P _) (Env.le_refl e) rfl rfl q2

theorem stepS_ok (hr : RunOK P B w0 rn) (hL : LeaveOK P B w0 rn) (hD : DrawOK P B w0 rn) {ro : Option Nat} {s : FrS} {outs : List Res} (h : stepS P rn ro s = some outs) {tmps : Array Value} {todo : List Item} {ds : List Deferred} {kd : CallKind} {rof : Option Nat} {cs : List Frame}
    (hS : St B w0 e s.hp s.nx w) (hT : TRel e s.nt s.T tmps) (ht : IsRel e s.todo todo) (hd : DsRel e s.dfs ds) (hc : Ctx e ro kd rof cs) : FrOK P B w0 e ro (fr0 s.fn tmps todo ds kd rof) cs w outs := by
  unfold stepS at h
  cases hs : s.todo with
  | nil =>
    rw [hs] at h ht
    have := ht.nil
    subst this
    exact leaveR_ok hL h (.inl ⟨rfl, rfl⟩) hS hT hd hc
  | cons it kA =>
    rw [hs] at h ht
    obtain ⟨i, k, rfl, hi, hk⟩ := ht.cons
    cases it with
    | code c =>
      simp only [IRel] at hi
      subst hi
      exact codeS_ok hr hL hD h hS hT hk hd hc
    | inBlock id =>
      simp only [IRel] at hi
      subst hi
      exact (hr _ _ _ h e w tmps k ds kd rof cs hS hT hk hd hc).pre (.one st_inBlock) (Env.le_refl e) rfl rfl (fun r hr => hr)
    | inScope b =>
      simp only [IRel] at hi
      subst hi
      exact (hr _ _ _ h e w tmps k ds kd rof cs hS hT hk hd hc).pre (.one st_inScope) (Env.le_refl e) rfl rfl (fun r hr => hr)
    | inLoop b =>
      simp only [IRel] at hi
      subst hi
      exact (hr _ _ _ h e w tmps (.code b :: .inLoop b :: k) ds kd rof cs hS hT ⟨rfl, rfl, hk⟩ hd hc).pre (.one st_inLoop) (Env.le_refl e) rfl rfl (fun r hr => hr)
    | inReg ops j l =>
      obtain ⟨rfl, hl⟩ := hi
      cases l with
      | nil =>
        have : ops.size - j = 0 := by
          have := congrArg List.length hl
          simp at this
          omega
        rw [this]
        exact (hr _ _ _ h e w tmps k ds kd rof cs hS hT hk hd hc).pre (.one st_regionEnd) (Env.le_refl e) rfl rfl (fun r hr => hr)
      | cons o l => exact opS_ok hr h hl hS hT hk hd hc
    | inRange l => cases h
    | endRange l =>
      obtain ⟨x, hx, rfl⟩ := hi
      simp only at h
      split at h
      · rename_i st pend fn nt T params assign body dr hlp
        obtain ⟨tm, y, hy, hTm, hw⟩ := conc_loop hS hlp hx
        have hg := run_getObj_any (P := P) hw (by simp)
        have hset := fun o' => run_setObj_any (P := P) o' hw (by simp)
        have key : st ≠ .busy → rn ro false { s with todo := withPend pend kA, hp := s.hp.set l (.loop .exhausted pend fn nt T params assign body dr) } = some outs →
            FrOK P B w0 e ro (fr0 s.fn tmps (.endRangeFunc x.blk :: k) ds kd rof) cs w outs := by
          intro hne h
          have hS' := hS.upd (vo' := .loop .exhausted pend fn nt T params assign body dr) (o' := .loop { state := .exhausted, pending := pend, fn := fn, tmps := tm, params := params, assign := assign, body := body, defers := y.blk })
            hlp hx (turned_setObj x.blk _) (set_heap_same hw) ⟨tm, y, hy, hTm, rfl⟩
          have hstb : (st == LoopState.busy) = false := beq_eq_false_iff_ne.2 hne
          have hend : (Instr.endLoop x.blk).run P w = .ok pend { w with heap := w.heap.setIfInBounds x.blk (.loop { state := .exhausted, pending := pend, fn := fn, tmps := tm, params := params, assign := assign, body := body, defers := y.blk }) } := by
            simp [Instr.endLoop, Instr.getLoop, hg, hne, hset]
          refine (hr _ _ _ h e _ tmps ((pend.map Item.code).toList ++ k) ds kd rof cs hS' hT ?_ hd hc).pre (.one (step_lone_go ?_)) (Env.le_refl e) rfl rfl (fun r hr => hr)
          · cases pend with
            | none => exact hk
            | some c => exact ⟨rfl, hk⟩
          · simp [stepG, stepG.exec, fr0, hend]
        cases st with
        | busy => cases h
        | ready => exact key (by simp) h
        | done => exact key (by simp) h
        | exhausted => exact key (by simp) h
      · cases h
    | beginRound =>
      simp only [IRel] at hi
      subst hi
      cases ro with
      | none => cases h
      | some l =>
        obtain ⟨x, hx, rfl, rfl, c, cs', rfl⟩ := hc
        simp only at h
        split at h
        · rename_i st pend fn nt T params assign body dr hlp
          obtain ⟨tm, y, hy, hTm, hw⟩ := conc_loop hS hlp hx
          have hg := run_getObj_any (P := P) hw (by simp)
          have hset := fun o' => run_setObj_any (P := P) o' hw (by simp)
          cases st with
          | ready =>
            have hS' := hS.upd (vo' := .loop .busy pend fn nt T params assign body dr) (o' := .loop { state := .busy, pending := pend, fn := fn, tmps := tm, params := params, assign := assign, body := body, defers := y.blk })
              hlp hx (turned_setObj x.blk _) (set_heap_same hw) ⟨tm, y, hy, hTm, rfl⟩
            have hbeg : (Instr.beginRound x.blk).run P w = .ok () { w with heap := w.heap.setIfInBounds x.blk (.loop { state := .busy, pending := pend, fn := fn, tmps := tm, params := params, assign := assign, body := body, defers := y.blk }) } := by
              simp [Instr.beginRound, Instr.getLoop, hg, hset]
            refine (hr _ _ _ h e _ tmps k ds .normal (some x.blk) (c :: cs') hS' hT hk hd ⟨x, hx, rfl, rfl, c, cs', rfl⟩).pre (.one (step_lone_go ?_)) (Env.le_refl e) rfl rfl (fun r hr => hr)
            simp [stepG, stepG.exec, fr0, stepG.apply, hbeg, Frame.finish]
          | _ => cases h
        · cases h

theorem run_ok (hD : ∀ rn, RunOK P B w0 rn → DrawOK P B w0 rn) : ∀ f, RunOK P B w0 (run P f) ∧ LeaveOK P B w0 (run P f)
  | 0 => ⟨fun ro s outs h => (by cases h), fun s outs h => (by cases h)⟩
  | f + 1 => by
    obtain ⟨ih1, ih2⟩ := run_ok hD f
    refine ⟨fun ro s outs h e w tmps todo ds kd rof cs hS hT ht hd hc => ?_, fun s outs h e w tmps todo ds kd cs hS hT hd hc => ?_⟩
    · rw [show run P (f + 1) ro false s = stepS P (run P f) ro (normFS s) from rfl, normFS_eq] at h
      exact stepS_ok ih1 ih2 (hD _ ih1) h hS hT ht hd hc
    · exact finS_ok ih1 ih2 h hS hT hd hc
end
end Go.Ex
