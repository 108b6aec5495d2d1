/-
  The machine of names: what it finds of a frame holds in the model. Over any program.
-/
import Derived.Test.YtbmekelkddllkaaExK
namespace Go.Ex
open Go Go.Sl Go.RowKit

section
variable {P : Program} {B : Nat} {w0 w : World} {e : Env} {H : Heap} {nx : Nat} {rn : Rn}

/-- What a region that draws its order must do. -/
def DrawOK (P : Program) (B : Nat) (w0 : World) (rn : Rn) : Prop :=
  ∀ ops nt T H nx T' H' nx', drawRegion P rn ops nt T H nx = some (T', H', nx') → ∀ e w tmps, St B w0 e H nx w → TRel e nt T tmps → ∀ (t fn : Nat) (k : List Item) (ds : List Deferred) (kd : CallKind) (rof : Option Nat) (cs : List Frame),
    ∃ e' w' tmps', e.le e' ∧ St B w0 e' H' nx' w' ∧ TRel e' nt T' tmps' ∧
      Steps P (lone (fr0 fn tmps (.inRegion ops (Region.schedule (P.follows .mixedOrders) ops t) :: k) ds kd rof) cs w) (lone (fr0 fn tmps' (.inRegion ops [] :: k) ds kd rof) cs w')

/-- A result's value. -/
def rvF (tmps : Array Value) : ResultVar → Sem Value
  | .tmp t => pure (tmps.getD t undef)
  | .cell a t => do loadVar t (← asAddr (tmps.getD a undef))
theorem results_eq (fn : Func) (tmps : Array Value) : results fn tmps = (do
    let vs ← fn.results.mapM (rvF tmps)
    pure (if h : vs.size = 1 then vs[0] else .tuple vs)) := rfl

theorem resS_ok (hS : St B w0 e H nx w) {nt : Nat} {T : Tr SV} {tmps : Array Value} (hT : TRel e nt T tmps) : ∀ (l : List ResultVar) (ss : List SV), resS P H T l = some ss →
    ∃ vs, SV.concL e ss = some vs ∧ (l.mapM (rvF tmps)).run P w = .ok vs w
  | [], ss, h => by
    simp only [resS, Option.some.injEq] at h
    subst h
    exact ⟨[], rfl, by simp⟩
  | .tmp t :: l, ss, h => by
    simp only [resS] at h
    cases ht : T.at' t with
    | none => rw [ht] at h; cases h
    | some s =>
      rw [ht] at h
      simp only at h
      cases hl : resS P H T l with
      | none => rw [hl] at h; cases h
      | some r =>
        rw [hl] at h
        simp only [Option.some.injEq] at h
        subst h
        obtain ⟨v, hv, hg⟩ := hT.2 t s ht
        obtain ⟨vs, h1, h2⟩ := resS_ok hS hT l r hl
        refine ⟨v :: vs, concL_cons_mk hv h1, ?_⟩
        rw [List.mapM_cons]
        have h0 : (rvF tmps (.tmp t)).run P w = .ok v w := by show (pure (tmps.getD t undef) : Sem Value).run P w = _; rw [hg]; rfl
        simp only [Sem.run_bind, h0, Result.andThen, h2, Sem.run_pure]
  | .cell a t :: l, ss, h => by
    simp only [resS] at h
    split at h
    · rename_i b o ha
      obtain ⟨v0, hv0, hg⟩ := hT.2 a _ ha
      obtain ⟨x, hx, rfl⟩ := conc_ptr hv0
      have key : ∀ s, loadS P H t b o = some s → ∃ u, s.conc e = some u ∧ (rvF tmps (.cell a t)).run P w = .ok u w := by
        intro s hs
        obtain ⟨u, hu, hr⟩ := loadS_ok (P := P) hS hs hx
        exact ⟨u, hu, by show (do loadVar t (← asAddr (tmps.getD a undef)) : Sem Value).run P w = _; rw [hg]; simp [asAddr, hr]⟩
      have fin : ∀ s r, loadS P H t b o = some s → resS P H T l = some r → ss = s :: r → ∃ vs, SV.concL e ss = some vs ∧ ((ResultVar.cell a t :: l).mapM (rvF tmps)).run P w = .ok vs w := by
        intro s r hs hr hss
        subst hss
        obtain ⟨u, hu, hru⟩ := key s hs
        obtain ⟨vs, h1, h2⟩ := resS_ok hS hT l r hr
        refine ⟨u :: vs, concL_cons_mk hu h1, ?_⟩
        rw [List.mapM_cons]
        simp only [Sem.run_bind, hru, Result.andThen, h2, Sem.run_pure]
      cases hb : H.at' b with
      | none => rw [hb] at h; cases h
      | some vo =>
        rw [hb] at h
        cases hag : aggSize P t with
        | none => rw [hag] at h; cases h
        | some q =>
          rw [hag] at h
          cases q with
          | none =>
            simp only at h
            cases hc : vo.cell o with
            | none => rw [hc] at h; cases h
            | some s =>
              cases hl : resS P H T l with
              | none => rw [hc, hl] at h; cases h
              | some r =>
                rw [hc, hl] at h
                simp only [Option.some.injEq] at h
                exact fin s r (by simp [loadS, hb, hag, hc]) hl h.symm
          | some n =>
            simp only at h
            cases hc : vo.cellsFrom o n with
            | none => rw [hc] at h; cases h
            | some s =>
              cases hl : resS P H T l with
              | none => rw [hc, hl] at h; cases h
              | some r =>
                rw [hc, hl] at h
                simp only [Option.some.injEq] at h
                exact fin (.agg s) r (by simp [loadS, hb, hag, hc]) hl h.symm
    · cases h

theorem valueOf_ok {ss : List SV} {vs : List Value} (h : SV.concL e ss = some vs) : (valueOf ss).conc e = some (if h : vs.length = 1 then vs[0]'(by omega) else .tuple vs.toArray) := by
  have hl := concL_length h
  match ss, h with
  | [], h => simp only [SV.concL, Option.some.injEq] at h; subst h; rfl
  | [s], h =>
    obtain ⟨v, ws, rfl, hv, hw⟩ := concL_cons h
    simp only [SV.concL, Option.some.injEq] at hw
    subst hw
    exact hv
  | s1 :: s2 :: ss, h =>
    have : ¬ (vs.length = 1) := by rw [hl]; simp
    rw [dif_neg this]
    simp [valueOf, SV.conc, h]

theorem finS_ok (hr : RunOK P B w0 rn) (hL : LeaveOK P B w0 rn) {s : FrS} {outs : List Res} (h : finS P rn s = some outs) {tmps : Array Value} {todo : List Item} {ds : List Deferred} {kd : CallKind} {cs : List Frame}
    (hS : St B w0 e s.hp s.nx w) (hT : TRel e s.nt s.T tmps) (hd : DsRel e s.dfs ds) (hc : Ctx e none kd none cs) : FrOK P B w0 e none (frL s.fn tmps todo ds kd) cs w outs := by
  unfold finS at h
  cases hdf : s.dfs with
  | nil =>
    rw [hdf] at h hd
    have : ds = [] := by
      cases ds with
      | nil => rfl
      | cons _ _ => exact hd.elim
    subst this
    simp only at h
    unfold resultsOf at h
    cases hf : P.funcs[s.fn]? with
    | none => rw [hf] at h; cases h
    | some fn =>
      rw [hf] at h
      simp only at h
      cases hres : resS P s.hp s.T fn.results.toList with
      | none => rw [hres] at h; cases h
      | some vs =>
        rw [hres] at h
        simp only [Option.some.injEq] at h
        subst h
        obtain ⟨us, h1, h2⟩ := resS_ok (P := P) hS hT _ _ hres
        refine ⟨_, List.mem_cons_self .., e, w, _, Env.le_refl e, hS, valueOf_ok h1, tmps, todo, .refl P _, fn, hf, ?_⟩
        rw [results_eq]
        have hm : (fn.results.mapM (rvF tmps)).run P w = .ok us.toArray w := by
          have ha : fn.results = fn.results.toList.toArray := by simp
          rw [ha, List.mapM_toArray]
          simp only [Sem.run_map, h2]
          rfl
        simp only [Sem.run_bind, hm, Result.andThen, Sem.run_pure]
        simp
  | cons a l =>
    rw [hdf] at h hd
    cases ds with
    | nil => exact hd.elim
    | cons d ds' =>
      obtain ⟨hda, hdl⟩ := hd
      cases a with
      | taken r =>
        obtain ⟨x, hx, rfl⟩ := hda
        simp only at h
        split at h
        · rename_i l2 hr2
          obtain ⟨o, _, hw, ho⟩ := hS.at hr2 hx
          obtain ⟨ds2, rfl, hds2⟩ := ho
          have hg := run_getObj_any (P := P) hw (by simp)
          have hset := run_setObj_any (P := P) (.deferred none) hw (by simp)
          have hS' := hS.upd (vo' := .dfd none) (o' := .deferred none) hr2 hx (turned_setObj x.blk _) (set_heap_same hw) rfl
          have := hL _ _ h e _ tmps todo (ds2 ++ ds') kd cs hS' hT (hds2.append hdl) hc
          refine this.pre (.one (step_lone_go ?_)) (Env.le_refl e) rfl rfl (fun r hr => hr)
          simp [stepG, unwind, frL, Instr.takeDeferred, hg, hset]
        · cases h
      | call g args =>
        obtain ⟨av, cap, rfl, hargs⟩ := hda
        simp only at h
        cases hm : mayEnter P g with
        | false => rw [hm] at h; cases h
        | true =>
          rw [hm] at h
          simp only [cond_true] at h
          cases hcall : callS P rn g args s.hp s.nx with
          | none => rw [hcall] at h; cases h
          | some rs =>
            rw [hcall] at h
            simp only at h
            have hvs : SV.concL e args = some (av ++ cap).toList := by simpa using hargs
            obtain ⟨r, hr1, e', w', h1, h2, h3⟩ := deferred_back (fr := frL s.fn tmps todo ds' kd) rfl (callS_ok hr hcall hS hvs (kd := .deferred) (cs := frL s.fn tmps todo ds' kd :: cs) ⟨rfl, .inr ⟨rfl, _, _, rfl, rfl⟩⟩)
            obtain ⟨outs', g1, g2⟩ := flat_mem h r hr1
            have := hL _ _ g1 e' w' tmps todo ds' kd cs h2 (hT.mono h1) (hdl.mono h1) (hc.mono h1)
            refine this.pre (.head (step_lone_go ?_) h3) h1 rfl rfl g2
            have hinv : (invoke (.fn (.func g) cap) av).run P w = .ok (.enter g (av ++ cap)) w := run_callFunc hm w
            simp [stepG, unwind, frL, callDeferred, hinv]
end
end Go.Ex
