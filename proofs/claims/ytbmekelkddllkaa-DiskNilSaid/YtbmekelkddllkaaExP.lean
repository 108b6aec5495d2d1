/-
  The machine of names: a region that draws its order comes to one end in whatever order. Over any program.
-/
import Derived.Test.YtbmekelkddllkaaExO
namespace Go.Ex
open Go Go.Sl Go.RowKit

/-! ### the same value -/
mutual
theorem SV.same_eq : ∀ (a b : SV), SV.same a b = true → a = b
  | .sc x, b, h => by
    unfold SV.same at h
    split at h <;> first
      | (rename_i h1 h2; simp only [SV.sc.injEq] at h1; subst h1; simp_all; done)
      | (simp_all; done)
      | skip
    all_goals first
      | (simp only [Bool.and_eq_true, decide_eq_true_eq] at h; simp_all; done)
      | (simp only [Bool.and_eq_true] at h; have q1 := eq_of_beq h.1; have q2 := eq_of_beq h.2; simp_all; done)
  | .ptr b o, y, h => by
    cases y <;> simp only [SV.same, Bool.and_eq_true, Bool.false_eq_true] at h
    have q1 := eq_of_beq h.1
    have q2 := eq_of_beq h.2
    subst q1 q2; rfl
  | .sl b o n c, y, h => by
    cases y <;> simp only [SV.same, Bool.and_eq_true, Bool.false_eq_true] at h
    have q1 := eq_of_beq h.1.1.1
    have q2 := eq_of_beq h.1.1.2
    have q3 := eq_of_beq h.1.2
    have q4 := eq_of_beq h.2
    subst q1 q2 q3 q4; rfl
  | .slu b o n c, y, h => by
    cases y <;> simp only [SV.same, Bool.and_eq_true, Bool.false_eq_true] at h
    have q1 := eq_of_beq h.1.1.1
    have q2 := eq_of_beq h.1.1.2
    have q3 := eq_of_beq h.1.2
    have q4 := eq_of_beq h.2
    subst q1 q2 q3 q4; rfl
  | .mp b, y, h => by
    cases y <;> simp only [SV.same, Bool.false_eq_true] at h
    have q1 := eq_of_beq h
    subst q1; rfl
  | .yld b, y, h => by
    cases y <;> simp only [SV.same, Bool.false_eq_true] at h
    have q1 := eq_of_beq h
    subst q1; rfl
  | .agg l, y, h => by
    cases y <;> simp only [SV.same, Bool.false_eq_true] at h
    rw [SV.sameL_eq _ _ h]
  | .tup l, y, h => by
    cases y <;> simp only [SV.same, Bool.false_eq_true] at h
    rw [SV.sameL_eq _ _ h]
  | .ifc t v, y, h => by
    cases y <;> simp only [SV.same, Bool.and_eq_true, Bool.false_eq_true] at h
    have q1 := eq_of_beq h.1
    subst q1
    rw [SV.same_eq _ _ h.2]
  | .fn f a b, y, h => by
    cases y <;> simp only [SV.same, Bool.false_eq_true] at h
theorem SV.sameL_eq : ∀ (a b : List SV), SV.sameL a b = true → a = b
  | [], b, h => by
    cases b with
    | nil => rfl
    | cons _ _ => simp [SV.sameL] at h
  | x :: l, b, h => by
    cases b with
    | nil => simp [SV.sameL] at h
    | cons y l' =>
      simp only [SV.sameL, Bool.and_eq_true] at h
      rw [SV.same_eq _ _ h.1, SV.sameL_eq _ _ h.2]
end

section
variable {P : Program} {B : Nat} {w0 w : World} {e : Env} {H : Heap} {nx : Nat} {rn : Rn}

theorem stableAt_ok {T : Tr SV} {o : Oper} {v : SV} : ∀ {l : List Heap}, stableAt P T o v l = true → ∀ H ∈ l, floatOp P T H o = some v
  | [], _, H, hm => by cases hm
  | H0 :: l, h, H, hm => by
    simp only [stableAt, Bool.and_eq_true] at h
    rcases List.mem_cons.1 hm with rfl | hm
    · cases hf : floatOp P T H o with
      | none => rw [hf] at h; simp at h
      | some u =>
        rw [hf] at h
        rw [SV.same_eq v u h.1]
    · exact stableAt_ok h.2 H hm

theorem floatOp_heap {T : Tr SV} {o : Oper} (h : looksAtHeap o.op = false) (H H' : Heap) : floatOp P T H o = floatOp P T H' o := by
  have : readOp P T H o = readOp P T H' o := by
    unfold readOp
    cases hop : o.op <;> rw [hop] at h <;> first
      | rfl
      | simp [looksAtHeap] at h
  unfold floatOp
  rw [this]

theorem lowOf_ok {anc : Nat} : ∀ {l : List Nat} (j : Nat), j < lowOf anc l → ∃ c, l[j]? = some c ∧ anc.testBit c = true
  | [], j, h => by simp [lowOf] at h
  | c :: l, j, h => by
    simp only [lowOf] at h
    cases hb : anc.testBit c with
    | false => rw [hb] at h; simp at h
    | true =>
      rw [hb] at h
      simp only [cond_true] at h
      cases j with
      | zero => exact ⟨c, rfl, hb⟩
      | succ j =>
        obtain ⟨c', h1, h2⟩ := lowOf_ok (anc := anc) (l := l) j (by omega)
        exact ⟨c', by simpa using h1, h2⟩
theorem highOf_ok {ancs : List Nat} {i : Nat} : ∀ {l : List Nat}, highOf ancs i l < l.length → ∃ c, l[highOf ancs i l]? = some c ∧ (ancs.getD c 0).testBit i = true
  | [], h => by simp at h
  | c :: l, h => by
    simp only [highOf] at h ⊢
    cases hb : (ancs.getD c 0).testBit i with
    | true => simp only [cond_true]; exact ⟨c, rfl, hb⟩
    | false =>
      rw [hb] at h
      simp only [cond_false, List.length_cons] at h
      obtain ⟨c', h1, h2⟩ := highOf_ok (ancs := ancs) (i := i) (l := l) (by omega)
      exact ⟨c', by simpa using h1, h2⟩
theorem chainOk_ok {ancs : List Nat} : ∀ {l : List Nat}, chainOk ancs l = true → ∀ (j : Nat) c c', l[j]? = some c → l[j + 1]? = some c' → (ancs.getD c' 0).testBit c = true
  | [], _, j, c, c', h, _ => by simp at h
  | [a], _, j, c, c', _, h => by simp at h
  | a :: b :: l, h, j, c, c', h1, h2 => by
    simp only [chainOk, Bool.and_eq_true] at h
    cases j with
    | zero =>
      simp only [List.getElem?_cons_zero, Option.some.injEq, Nat.zero_add, List.getElem?_cons_succ] at h1 h2
      subst h1 h2
      exact h.1
    | succ j => exact chainOk_ok h.2 j c c' (by simpa using h1) (by simpa using h2)

theorem floatsOk_ok {ancs C : List Nat} {Q : List (Heap × Nat)} : ∀ {l : List Rec}, floatsOk P ancs C Q l = true → ∀ r ∈ l, r.chain = false → r.wanted = true → (∃ H n, Q[r.stg]? = some (H, n) ∧ floatOp P r.T H r.o = some r.val) →
    ∀ s, lowOf (ancs.getD r.i 0) C ≤ s → s ≤ highOf ancs r.i C → ∀ H n, Q[s]? = some (H, n) → floatOp P r.T H r.o = some r.val
  | [], _, r, hm, _, _, _, _, _, _, _, _, _ => by cases hm
  | r0 :: l, h, r, hm, hc, hw, hst, s, hlo, hhi, H, n, hQ => by
    simp only [floatsOk, Bool.and_eq_true] at h
    rcases List.mem_cons.1 hm with rfl | hm
    · obtain ⟨H0, n0, hQ0, hf0⟩ := hst
      cases hlk : looksAtHeap r.o.op with
      | false => rw [floatOp_heap hlk H H0]; exact hf0
      | true =>
        have h1 := h.1
        rw [hc, hw, hlk] at h1
        simp only [Bool.not_true, Bool.or_false, cond_false] at h1
        cases hq : (Nat.beq (lowOf (ancs.getD r.i 0) C) r.stg && Nat.beq (highOf ancs r.i C) r.stg) with
        | true =>
          rw [Bool.and_eq_true] at hq
          have q1 := eq_of_beq hq.1
          have q2 := eq_of_beq hq.2
          have : s = r.stg := by omega
          subst this
          rw [hQ] at hQ0
          simp only [Option.some.injEq, Prod.mk.injEq] at hQ0
          rw [hQ0.1]
          exact hf0
        | false =>
          rw [hq] at h1
          simp only [cond_false] at h1
          refine stableAt_ok h1 H (List.mem_map.2 ⟨(H, n), ?_, rfl⟩)
          refine List.mem_iff_getElem?.2 ⟨s - lowOf (ancs.getD r.i 0) C, ?_⟩
          rw [List.getElem?_take, if_pos (by omega), List.getElem?_drop, show lowOf (ancs.getD r.i 0) C + (s - lowOf (ancs.getD r.i 0) C) = s by omega]
          exact hQ
    · exact floatsOk_ok h.2 r hm hc hw hst s hlo hhi H n hQ

/-! ### one operation's steps -/
theorem val_steps {fn : FuncId} {tmps : Array Value} {ops : Array Oper} {i : Nat} {rest : List Nat} {o : Oper} {k : List Item} {ds : List Deferred} {kd : CallKind} {rof : Option Nat} {cs : List Frame} {v : Value} {nxt : Next} {w' : World}
    (ho : ops[i]? = some o) (hw : Region.wanted o (yielded ops tmps) = true) (hnd : ∀ c, o.op ≠ .defer c) (hn : nxt = .value v ∨ (nxt = .skip ∧ v = undef))
    (hr : (execOp (fr0 fn tmps (.inRegion ops (i :: rest) :: k) ds kd rof).eval o).run P w = .ok nxt w') :
    Steps P (lone (fr0 fn tmps (.inRegion ops (i :: rest) :: k) ds kd rof) cs w) (lone (fr0 fn (putV tmps o.dst v) (.inRegion ops rest :: k) ds kd rof) cs w') := by
  refine .one (step_lone_go ?_)
  rw [stepG_oper ho hw (.inr hnd), ← finish_region ho]
  rcases hn with rfl | ⟨rfl, rfl⟩
  · simp only [stepG.apply, Sem.runT_eq, if_true, hr, GStep.bare_after, GStep.bare_go]
  · simp only [stepG.apply, Sem.runT_eq, if_true, hr, GStep.bare_after, GStep.bare_go]

theorem float_steps {nt : Nat} {T : Tr SV} {fn : FuncId} {tmps : Array Value} {ops : Array Oper} {i : Nat} {rest : List Nat} {o : Oper} {k : List Item} {ds : List Deferred} {kd : CallKind} {rof : Option Nat} {cs : List Frame} {v : SV}
    (hS : St B w0 e H nx w) (hT : TRel e nt T tmps) (ho : ops[i]? = some o) (hw : Region.wanted o (yielded ops tmps) = true) (h : floatOp P T H o = some v) :
    ∃ u, v.conc e = some u ∧ Steps P (lone (fr0 fn tmps (.inRegion ops (i :: rest) :: k) ds kd rof) cs w) (lone (fr0 fn (putV tmps o.dst u) (.inRegion ops rest :: k) ds kd rof) cs w) := by
  have hE := TRel.ev (fr := fr0 fn tmps (.inRegion ops (i :: rest) :: k) ds kd rof) hT
  have hnd : ∀ c, o.op ≠ .defer c := by
    intro c hop
    have h1 : readOp P T H o = none := by unfold readOp; rw [hop]
    have h2 : pureOp P T o = none := by unfold pureOp; rw [hop]; rfl
    unfold floatOp at h
    rw [h1, h2] at h
    cases h
  unfold floatOp at h
  cases hr : readOp P T H o with
  | some v' =>
    rw [hr] at h
    simp only [Option.some.injEq] at h
    subst h
    obtain ⟨u, hu, hrun⟩ := readOp_ok hS hE hr
    exact ⟨u, hu, val_steps ho hw hnd (.inl rfl) hrun⟩
  | none =>
    rw [hr] at h
    obtain ⟨u, hu, hrun⟩ := pureOp_ok hE h w
    exact ⟨u, hu, val_steps ho hw hnd (.inl rfl) hrun⟩

theorem eff_steps (hrn : RunOK P B w0 rn) {nt : Nat} {T : Tr SV} {fn : FuncId} {tmps : Array Value} {ops : Array Oper} {i : Nat} {rest : List Nat} {o : Oper} {k : List Item} {ds : List Deferred} {kd : CallKind} {rof : Option Nat} {cs : List Frame} {v : SV} {H' : Heap} {nx' : Nat}
    (hS : St B w0 e H nx w) (hT : TRel e nt T tmps) (ho : ops[i]? = some o) (hw : Region.wanted o (yielded ops tmps) = true) (h : drawEff P rn T H nx o = some (v, H', nx')) :
    ∃ e' w' u, e.le e' ∧ St B w0 e' H' nx' w' ∧ v.conc e' = some u ∧ Steps P (lone (fr0 fn tmps (.inRegion ops (i :: rest) :: k) ds kd rof) cs w) (lone (fr0 fn (putV tmps o.dst u) (.inRegion ops rest :: k) ds kd rof) cs w') := by
  have hE := TRel.ev (fr := fr0 fn tmps (.inRegion ops (i :: rest) :: k) ds kd rof) hT
  unfold drawEff at h
  cases he : effOp P T H nx o with
  | none => rw [he] at h; cases h
  | some out =>
    obtain ⟨a, H1, nx1⟩ := out
    rw [he] at h
    have hnd : ∀ c, o.op ≠ .defer c := by
      intro c hop
      unfold effOp at he
      rw [hop] at he
      simp only at he
      cases hc : c.callee with
      | builtin b => rw [hc] at he; cases he
      | invoke x y => rw [hc] at he; cases he
      | value f =>
        rw [hc] at he
        simp only at he
        split at he
        · simp only [Option.some.injEq, Prod.mk.injEq] at he
          obtain ⟨rfl, rfl, rfl⟩ := he
          cases h
        · cases he
    obtain ⟨e1, w1, hle, hS1, hrun⟩ := effOp_ok hS hE he
    have hcall : ∀ {A : Type} (x y : A), (match (fr0 fn tmps (.inRegion ops (i :: rest) :: k) ds kd rof).todo with | .call _ true _ _ :: _ => x | _ => y) = y := fun _ _ => rfl
    cases a with
    | val s =>
      simp only [Option.some.injEq, Prod.mk.injEq] at h
      obtain ⟨rfl, rfl, rfl⟩ := h
      obtain ⟨u, hu, hres⟩ := hrun
      exact ⟨e1, w1, u, hle, hS1, hu, val_steps ho hw hnd (.inl rfl) hres⟩
    | skip =>
      simp only [Option.some.injEq, Prod.mk.injEq] at h
      obtain ⟨rfl, rfl, rfl⟩ := h
      exact ⟨e1, w1, undef, hle, hS1, rfl, val_steps ho hw hnd (.inr ⟨rfl, rfl⟩) hrun⟩
    | enter f args =>
      simp only at h
      obtain ⟨vs, hvs, hres⟩ := hrun
      split at h
      · rename_i r hcs
        simp only [Option.some.injEq] at h
        subst h
        obtain ⟨r, hr1, e2, w2, u, g1, g2, g3, g4⟩ := call_back (callS_ok hrn hcs hS1 hvs (kd := .normal) (cs := fr0 fn tmps (.inRegion ops (i :: rest) :: k) ds kd rof :: cs) ⟨rfl, .inl rfl⟩)
        simp only [List.mem_singleton] at hr1
        subst hr1
        refine ⟨e2, w2, u, Env.le_trans hle g1, g2, g3, ?_⟩
        rw [finish_region ho] at g4
        refine .head (step_lone_go ?_) g4
        rw [stepG_oper ho hw (.inr hnd)]
        simp only [stepG.apply, Sem.runT_eq, if_true, hres, GStep.bare_after, GStep.bare_go]
        rfl
      · cases h
    | round l args =>
      simp only at h
      obtain ⟨x, vs, hx, hvs, hres⟩ := hrun
      split at h
      · rename_i r hcs
        simp only [Option.some.injEq] at h
        subst h
        obtain ⟨fn2, tmps2, assign, body, hy, hback⟩ := roundS_ok (P := P) hrn hcs hS1 hvs hx
        rw [hy] at hres
        obtain ⟨r, hr1, e2, w2, u, g1, g2, g3, g4⟩ := hback (fr0 fn tmps (.inRegion ops (i :: rest) :: k) ds kd rof) cs
        simp only [List.mem_singleton] at hr1
        subst hr1
        refine ⟨e2, w2, u, Env.le_trans hle g1, g2, g3, ?_⟩
        rw [finish_region ho] at g4
        refine .head (step_lone_go ?_) g4
        rw [stepG_oper ho hw (.inr hnd)]
        simp only [stepG.apply, Sem.runT_eq, if_true, hres, GStep.bare_after, GStep.bare_go]
      · cases h
    | _ => cases h
end
end Go.Ex
