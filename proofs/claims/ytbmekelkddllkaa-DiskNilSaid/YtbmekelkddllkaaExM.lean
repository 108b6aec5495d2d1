/-
  The machine of names: code, operation by operation. Over any program.
-/
import Derived.Test.YtbmekelkddllkaaExL
namespace Go.Ex
open Go Go.Sl Go.RowKit

section
variable {P : Program} {B : Nat} {w0 w : World} {e : Env} {H : Heap} {nx : Nat} {rn : Rn}

theorem wantedS_ok {nt : Nat} {T : Tr SV} {tmps : Array Value} {ops : Array Oper} {o : Oper} {b : Bool} (h : wantedS T ops o = some b) (hT : TRel e nt T tmps) : Region.wanted o (yielded ops tmps) = b := by
  unfold wantedS at h
  unfold Region.wanted
  cases hg : o.guard with
  | none => rw [hg] at h; simpa using h
  | some q =>
    obtain ⟨j, want⟩ := q
    rw [hg] at h
    simp only at h ⊢
    cases hj : ops[j]? with
    | none =>
      rw [hj] at h
      simp only [Option.some.injEq] at h
      subst h
      simp [yielded, hj]
    | some oj =>
      rw [hj] at h
      simp only at h
      cases hd : oj.dst with
      | none =>
        rw [hd] at h
        simp only [Option.some.injEq] at h
        subst h
        simp [yielded, hj, hd]
      | some d =>
        rw [hd] at h
        simp only at h
        split at h
        · rename_i t ht
          obtain ⟨v, hv, hg2⟩ := hT.2 d _ ht
          simp only [SV.conc, Option.some.injEq] at hv
          subst hv
          simp only [Option.some.injEq] at h
          subst h
          have : tmps[d]? = some (.bool t) := by
            rw [Array.getD_eq_getD_getElem?] at hg2
            cases ht2 : tmps[d]? with
            | none => rw [ht2] at hg2; cases hg2
            | some v => rw [ht2] at hg2; simpa using hg2
          simp [yielded, hj, hd, this]
        · rename_i vs ht
          obtain ⟨v, hv, hg2⟩ := hT.2 d _ ht
          simp only [SV.conc, Option.some.injEq] at hv
          subst hv
          simp only [Option.some.injEq] at h
          subst h
          have : yielded ops tmps j = none := by
            rw [Array.getD_eq_getD_getElem?] at hg2
            cases ht2 : tmps[d]? with
            | none => simp [yielded, hj, hd, ht2]
            | some v => rw [ht2] at hg2; simp only [Option.getD_some] at hg2; subst hg2; simp [yielded, hj, hd, ht2]
          simp [this]
        · cases h

theorem leaveR_ok (hL : LeaveOK P B w0 rn) {ro : Option Nat} {jump : Option Code} {s : FrS} {outs : List Res} (h : leaveR rn ro jump s = some outs) {tmps : Array Value} {todo : List Item} {ds : List Deferred} {kd : CallKind} {rof : Option Nat} {cs : List Frame}
    (hl : leaves jump todo) (hS : St B w0 e s.hp s.nx w) (hT : TRel e s.nt s.T tmps) (hd : DsRel e s.dfs ds) (hc : Ctx e ro kd rof cs) : FrOK P B w0 e ro (fr0 s.fn tmps todo ds kd rof) cs w outs := by
  cases ro with
  | none =>
    obtain ⟨rfl, hk⟩ := hc
    rcases hl with ⟨rfl, rfl⟩ | ⟨k, rfl, rfl⟩ | ⟨id, k, rfl, hx, rfl⟩ | ⟨id, k, rfl, hx, rfl⟩
    · exact (hL _ _ h e w tmps [] ds kd cs hS hT hd ⟨rfl, hk⟩).pre (.one st_end) (Env.le_refl e) rfl rfl (fun r hr => hr)
    · exact (hL _ _ h e w tmps _ ds kd cs hS hT hd ⟨rfl, hk⟩).pre (.one st_ret) (Env.le_refl e) rfl rfl (fun r hr => hr)
    · cases h
    · cases h
  | some l =>
    obtain ⟨x, hx, rfl, rfl, c, cs', rfl⟩ := hc
    simp only [leaveR, leaveS] at h
    split at h
    · rename_i st pend fn nt T params assign body dr hlp
      simp only [Option.some.injEq] at h
      subst h
      obtain ⟨tm, y, hy, hTm, hw⟩ := conc_loop hS hlp hx
      have hg := run_getObj_any (P := P) hw (by simp)
      have hset := fun o' => run_setObj_any (P := P) o' hw (by simp)
      have hS' := hS.upd (vo' := .loop (if jump.isNone then .ready else .done) jump fn nt T params assign body dr)
        (o' := .loop { state := if jump.isNone then .ready else .done, pending := jump, fn := fn, tmps := tm, params := params, assign := assign, body := body, defers := y.blk }) hlp hx (turned_setObj x.blk _) (set_heap_same hw) ⟨tm, y, hy, hTm, rfl⟩
      refine ⟨_, List.mem_cons_self .., e, _, .bool jump.isNone, Env.le_refl e, hS', rfl, c, cs', rfl, .one (st_leave hl ?_)⟩
      simp only [Instr.endRound, Instr.getLoop, Sem.run_bind, hg, Result.andThen, Sem.run_pure, hset]
    · cases h

theorem enterLoop_ok {ro : Option Nat} {dr nx1 : Nat} {H1 : Heap} {mark : List ADf} {kd : CallKind} {rof : Option Nat} {cs : List Frame} (h : loopDefers ro H nx = some (dr, H1, nx1, mark)) (hS : St B w0 e H nx w) (hc : Ctx e ro kd rof cs)
    {nt : Nat} {T : Tr SV} {tmps : Array Value} (hT : TRel e nt T tmps) (fn : FuncId) (params : Array Tmp) (assign body : Code) :
    ∃ e' w' x mk, e.le e' ∧ St B w0 e' (H1.set nx1 (.loop .ready none fn nt T params assign body dr)) (nx1 + 1) w' ∧ e' nx1 = some x ∧ DsRel e' mark mk ∧ (Instr.enterLoop fn tmps params assign body rof).run P w = .ok (x.blk, mk) w' := by
  cases ro with
  | none =>
    obtain ⟨rfl, _⟩ := hc
    simp only [loopDefers, Option.some.injEq, Prod.mk.injEq] at h
    obtain ⟨rfl, rfl, rfl, rfl⟩ := h
    have hf := hS.fresh nx (Nat.le_refl _)
    have hS1 := hS.new (vo := .dfd (some [])) (x := ⟨w.heap.size, 0, 0⟩) (o := .deferred (some [])) (w' := { w with heap := w.heap.push (.deferred (some [])) }) rfl rfl rfl rfl rfl ⟨[], rfl, trivial⟩
    have hf1 := hS1.fresh (nx + 1) (Nat.le_refl _)
    have hle1 := Env.le_put (x := ⟨w.heap.size, 0, 0⟩) hf
    have hle2 := Env.le_put (x := ⟨w.heap.size + 1, 0, 0⟩) hf1
    have hdr : ((e.put nx ⟨w.heap.size, 0, 0⟩).put (nx + 1) ⟨w.heap.size + 1, 0, 0⟩) nx = some ⟨w.heap.size, 0, 0⟩ := hle2 _ _ (Env.put_same _ _ _)
    have hS2 := hS1.new (vo := .loop .ready none fn nt T params assign body nx) (x := ⟨w.heap.size + 1, 0, 0⟩)
      (o := .loop { state := .ready, pending := none, fn := fn, tmps := tmps, params := params, assign := assign, body := body, defers := w.heap.size })
      (w' := { w with heap := (w.heap.push (.deferred (some []))).push (.loop { state := .ready, pending := none, fn := fn, tmps := tmps, params := params, assign := assign, body := body, defers := w.heap.size }) })
      (by simp) rfl rfl rfl rfl ⟨tmps, ⟨w.heap.size, 0, 0⟩, hdr, hT.mono (Env.le_trans hle1 hle2), rfl⟩
    refine ⟨_, _, ⟨w.heap.size + 1, 0, 0⟩, [{ target := .collected w.heap.size, args := #[] }], Env.le_trans hle1 hle2, hS2, Env.put_same _ _ _, ⟨⟨⟨w.heap.size, 0, 0⟩, hdr, rfl⟩, trivial⟩, ?_⟩
    simp [Instr.enterLoop]
    rfl
  | some l =>
    obtain ⟨x, hx, rfl, _⟩ := hc
    simp only [loopDefers] at h
    split at h
    · rename_i st pend fn2 nt2 T2 params2 assign2 body2 dr2 hlp
      simp only [Option.some.injEq, Prod.mk.injEq] at h
      obtain ⟨rfl, rfl, rfl, rfl⟩ := h
      obtain ⟨tm, y, hy, hTm, hw⟩ := conc_loop hS hlp hx
      have hg := run_getObj_any (P := P) hw (by simp)
      have hf := hS.fresh nx (Nat.le_refl _)
      have hle1 := Env.le_put (x := ⟨w.heap.size, 0, 0⟩) hf
      have hS1 := hS.new (vo := .loop .ready none fn nt T params assign body dr2) (x := ⟨w.heap.size, 0, 0⟩)
        (o := .loop { state := .ready, pending := none, fn := fn, tmps := tmps, params := params, assign := assign, body := body, defers := y.blk })
        (w' := { w with heap := w.heap.push (.loop { state := .ready, pending := none, fn := fn, tmps := tmps, params := params, assign := assign, body := body, defers := y.blk }) })
        rfl rfl rfl rfl rfl ⟨tmps, y, hle1 _ _ hy, hT.mono hle1, rfl⟩
      refine ⟨_, _, ⟨w.heap.size, 0, 0⟩, [], hle1, hS1, Env.put_same _ _ _, trivial, ?_⟩
      simp [Instr.enterLoop, Instr.getLoop, hg]
    · cases h

theorem codeS_ok (hr : RunOK P B w0 rn) (hL : LeaveOK P B w0 rn) (hD : DrawOK P B w0 rn) {ro : Option Nat} {s : FrS} {k : List AIt} {c : Code} {outs : List Res} (h : codeS P rn ro s k c = some outs) {tmps : Array Value} {k' : List Item} {ds : List Deferred} {kd : CallKind}
    {rof : Option Nat} {cs : List Frame} (hS : St B w0 e s.hp s.nx w) (hT : TRel e s.nt s.T tmps) (hk : IsRel e k k') (hd : DsRel e s.dfs ds) (hc : Ctx e ro kd rof cs) :
    FrOK P B w0 e ro (fr0 s.fn tmps (.code c :: k') ds kd rof) cs w outs := by
  cases c with
  | ret => exact leaveR_ok (jump := some .ret) hL h (.inr (.inl ⟨k', rfl, rfl⟩)) hS hT hd hc
  | skip => exact (hr _ _ _ h e w tmps k' ds kd rof cs hS hT hk hd hc).pre (.one st_skip) (Env.le_refl e) rfl rfl (fun r hr => hr)
  | label l => exact (hr _ _ _ h e w tmps k' ds kd rof cs hS hT hk hd hc).pre (.one st_label) (Env.le_refl e) rfl rfl (fun r hr => hr)
  | seq a b => exact (hr _ _ _ h e w tmps (.code a :: .code b :: k') ds kd rof cs hS hT ⟨rfl, rfl, hk⟩ hd hc).pre (.one st_seq) (Env.le_refl e) rfl rfl (fun r hr => hr)
  | block id b => exact (hr _ _ _ h e w tmps (.code b :: .inBlock id :: k') ds kd rof cs hS hT ⟨rfl, rfl, hk⟩ hd hc).pre (.one st_block) (Env.le_refl e) rfl rfl (fun r hr => hr)
  | loop b => exact (hr _ _ _ h e w tmps (.code b :: .inLoop b :: k') ds kd rof cs hS hT ⟨rfl, rfl, hk⟩ hd hc).pre (.one st_loop) (Env.le_refl e) rfl rfl (fun r hr => hr)
  | scope b => exact (hr _ _ _ h e w tmps (.code b :: .inScope b :: k') ds kd rof cs hS hT ⟨rfl, rfl, hk⟩ hd hc).pre (.one st_scope) (Env.le_refl e) rfl rfl (fun r hr => hr)
  | cond c a b =>
    simp only [codeS] at h
    split at h
    · rename_i t hcd
      have hE := TRel.ev (fr := fr0 s.fn tmps (.code (.cond c a b) :: k') ds kd rof) hT
      have hv := hE c _ hcd
      simp only [SV.conc, Option.some.injEq] at hv
      refine (hr _ _ _ h e w tmps (.code (if t then a else b) :: k') ds kd rof cs hS hT ⟨?_, hk⟩ hd hc).pre (.one (st_cond hv.symm)) (Env.le_refl e) rfl rfl (fun r hr => hr)
      cases t <;> rfl
    · cases h
  | exit id =>
    simp only [codeS] at h
    have hx := exitS_ok (id := id) hk
    cases he : exitS id k with
    | some l' =>
      rw [he] at h
      obtain ⟨m', h1, h2⟩ := hx.1 l' he
      exact (hr _ _ _ h e w tmps m' ds kd rof cs hS hT h2 hd hc).pre (.one (st_exit h1)) (Env.le_refl e) rfl rfl (fun r hr => hr)
    | none =>
      rw [he] at h
      exact leaveR_ok hL h (.inr (.inr (.inl ⟨id, k', rfl, hx.2 he, rfl⟩))) hS hT hd hc
  | goto id =>
    simp only [codeS] at h
    have hx := gotoS_ok (id := id) hk
    cases he : gotoS id k with
    | some l' =>
      rw [he] at h
      obtain ⟨m', h1, h2⟩ := hx.1 l' he
      exact (hr _ _ _ h e w tmps m' ds kd rof cs hS hT h2 hd hc).pre (.one (st_goto h1)) (Env.le_refl e) rfl rfl (fun r hr => hr)
    | none =>
      rw [he] at h
      exact leaveR_ok hL h (.inr (.inr (.inr ⟨id, k', rfl, hx.2 he, rfl⟩))) hS hT hd hc
  | refuse why => cases h
  | region id ops draw =>
    cases draw with
    | false => exact (hr _ _ _ h e w tmps (.inRegion ops (List.range' 0 ops.size) :: k') ds kd rof cs hS hT ⟨⟨rfl, by simp⟩, hk⟩ hd hc).pre (.one st_region) (Env.le_refl e) rfl rfl (fun r hr => hr)
    | true =>
      simp only [codeS] at h
      cases hdr : drawRegion P rn ops s.nt s.T s.hp s.nx with
      | none => rw [hdr] at h; cases h
      | some q =>
        obtain ⟨T', H', nx'⟩ := q
        rw [hdr] at h
        simp only at h
        obtain ⟨e', w', tmps', h1, h2, h3, h4⟩ := hD _ _ _ _ _ _ _ _ hdr e { w with drawn := w.drawn + 1 } tmps hS.drew hT (w.tape w.drawn (.order s.fn id)) s.fn k' ds kd rof cs
        refine (hr _ _ _ h e' w' tmps' k' ds kd rof cs h2 h3 (hk.mono h1) (hd.mono h1) (hc.mono h1)).pre (.head st_draw (h4.trans (.one st_regionEnd))) h1 rfl rfl (fun r hr => hr)
  | rangeFunc fo params assign body =>
    simp only [codeS] at h
    cases hld : loopDefers ro s.hp s.nx with
    | none => rw [hld] at h; cases h
    | some q =>
      obtain ⟨dr, H1, nx1, mark⟩ := q
      rw [hld] at h
      simp only at h
      cases hfo : evalS s.T fo with
      | none => rw [hfo] at h; cases h
      | some sf =>
        rw [hfo] at h
        simp only at h
        cases hft : fnTarget sf with
        | none => rw [hft] at h; cases h
        | some q =>
          obtain ⟨g, a, b⟩ := q
          rw [hft] at h
          simp only at h
          cases hm : mayEnter P g with
          | false => rw [hm] at h; cases h
          | true =>
            rw [hm] at h
            simp only [cond_true] at h
            cases hcall : callS P rn g (a ++ [.yld nx1] ++ b) (H1.set nx1 (.loop .ready none s.fn s.nt s.T params assign body dr)) (nx1 + 1) with
            | none => rw [hcall] at h; cases h
            | some rs =>
              rw [hcall] at h
              simp only at h
              obtain ⟨e1, w1, x, mk, h1, h2, h3, h4, h5⟩ := enterLoop_ok (P := P) hld hS hc hT s.fn params assign body
              have hE := TRel.ev (fr := fr0 s.fn tmps (.inRangeFunc x.blk :: k') (mk ++ ds) kd rof) hT
              obtain ⟨xs, ys, hev, hxs, hys⟩ := fnTarget_ok hft (hE fo sf hfo)
              have hargs : SV.concL e1 (a ++ [.yld nx1] ++ b) = some (xs ++ #[Value.func (.yield x.blk) #[] #[]] ++ ys).toList := by
                have := concL_append (concL_append (SV.concL_mono h1 _ _ hxs) (concL_cons_mk (x := .yld nx1) (v := .func (.yield x.blk) #[] #[]) (by simp [SV.conc, h3]) (show SV.concL e1 [] = some [] from rfl))) (SV.concL_mono h1 _ _ hys)
                simpa using this
              obtain ⟨r, hr1, e', w', v, g1, g2, g3, g4⟩ := call_back (callS_ok hr hcall h2 hargs (kd := .normal) (cs := fr0 s.fn tmps (.inRangeFunc x.blk :: k') (mk ++ ds) kd rof :: cs) ⟨rfl, .inl rfl⟩)
              obtain ⟨outs', q1, q2⟩ := flat_mem h r hr1
              have hle := Env.le_trans h1 g1
              refine (hr _ _ _ q1 e' w' tmps (.endRangeFunc x.blk :: k') (mk ++ ds) kd rof cs g2 (hT.mono hle) ⟨⟨x, g1 _ _ h3, rfl⟩, hk.mono hle⟩ ((h4.append (hd.mono h1)).mono g1) (hc.mono hle)).pre (.head (step_lone_go ?_) g4) hle rfl rfl q2
              have hpush : xs ++ #[Value.func (.yield x.blk) #[] #[]] ++ ys = xs.push (Value.func (.yield x.blk) #[] #[]) ++ ys := by simp
              have hinv : (callFunc g (xs.push (Value.func (.yield x.blk) #[] #[]) ++ ys)).run P w1 = .ok (.enter g (xs.push (Value.func (.yield x.blk) #[] #[]) ++ ys)) w1 := run_callFunc hm w1
              have hcon : ∀ v, (fr0 s.fn tmps (.inRangeFunc x.blk :: k') (mk ++ ds) kd rof).eval (.const v) = v := fun _ => rfl
              rw [hpush]
              simp only [fr0] at hev hcon
              simp [stepG, stepG.exec, fr0, h5, stepG.apply, resolve, hev, hcon, Deferred.ofValue, invoke, hinv]
end
end Go.Ex
