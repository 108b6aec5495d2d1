/-
  The machine of names: new slices, calls; every operation. Over any program.
-/
import Derived.Test.YtbmekelkddllkaaExG
namespace Go.Ex
open Go Go.Sl Go.RowKit

section
variable {P : Program} {B : Nat} {w0 w : World} {e : Env} {H : Heap} {nx : Nat} {T : Tr SV} {ev : Operand → Value}

theorem newV_does {t : TypeId} {l : List SV} {vs : List Value} {r : SV} {v : Value} {s : Sem Value} (hS : St B w0 e H nx w) (hl : SV.concL e l = some vs)
    (hv : r.conc (e.put nx ⟨w.heap.size, 0, 0⟩) = some v) (hrun : s.run P w = .ok v { w with heap := w.heap.push (.cells vs.toArray t) }) : DoesV P B w0 e (.val r, H.set nx (newCells t l), nx + 1) s w := by
  have hf := hS.fresh nx (Nat.le_refl _)
  refine ⟨e.put nx ⟨w.heap.size, 0, 0⟩, _, r, v, rfl, Env.le_put hf, ?_, hv, hrun⟩
  exact hS.new (o := .cells vs.toArray t) rfl rfl rfl rfl rfl (newCells_rel (SV.concL_mono (Env.le_put hf) _ _ hl) rfl)

theorem buildSliceS_ok {t : TypeId} {len : Nat} {ps : List (Nat × SV)} {qs : Array (Nat × Value)} {out : Out} (hS : St B w0 e H nx w) (h : buildSliceS P H nx t len ps = some out) (hp : PRel e ps qs.toList) : DoesV P B w0 e out (Instr.buildSlice t len qs) w := by
  unfold buildSliceS at h
  cases hu : P.underlying t with
  | none => rw [hu] at h; cases h
  | some d =>
    rw [hu] at h
    cases d with
    | slice el =>
      simp only at h
      cases hs : sizeT P el with
      | none => rw [hs] at h; cases h
      | some sz =>
        rw [hs] at h
        simp only at h
        cases h0 : Nat.beq (len * sz) 0 with
        | true =>
          rw [h0] at h
          simp only [cond_true] at h
          cases ps with
          | cons _ _ => cases h
          | nil =>
            simp only [List.isEmpty_nil, cond_true, Option.some.injEq] at h
            subst h
            have h00 := eq_of_beq h0
            have hq : qs.toList = [] := by
              cases hq : qs.toList with
              | nil => rfl
              | cons _ _ => rw [hq] at hp; exact hp.elim
            refine newV_does (vs := []) hS rfl (v := .slice (some ⟨w.heap.size, 0, none⟩) len len) (by simp [SV.conc, Env.put_same]) ?_
            have hle : ¬ (16777216 < len * sz) := by omega
            simp [Instr.buildSlice, run_underlying hu, run_sizeT hs, h00, hq, Instr.fill, newRow, show Array.range 0 = (#[] : Array Nat) from by decide]
        | false =>
          rw [h0] at h
          simp only [cond_false] at h
          cases hz : zeroT P el with
          | none => rw [hz] at h; cases h
          | some z =>
            rw [hz] at h
            simp only at h
            cases hle : Nat.ble (len * sz) 16777216 with
            | false => rw [hle] at h; cases h
            | true =>
              rw [hle] at h
              simp only [cond_true] at h
              cases hf : fillS (fun i => some (i * sz, sz)) (((Array.range (len * sz)).map (z.cells[· % z.cells.size]!)).toList.map .sc) ps with
              | none => rw [hf] at h; cases h
              | some l =>
                rw [hf] at h
                simp only at h
                cases ho : allOne l with
                | false => rw [ho] at h; cases h
                | true =>
                  rw [ho] at h
                  simp only [cond_true, Option.some.injEq] at h
                  subst h
                  obtain ⟨vs, g1, g2⟩ := fill_S (e := e) ps qs.toList _ l _ hf hp (concL_sc _)
                  have hle' := le_of_ble hle
                  have h0' : ¬ (len * sz = 0) := by intro hc; rw [hc] at h0; cases h0
                  refine newV_does hS g2 (v := .slice (some ⟨w.heap.size, 0, none⟩) len len) (by simp [SV.conc, Env.put_same]) ?_
                  simp only [Array.toArray_toList] at g1
                  simp only [Instr.buildSlice, run_underlying hu, Sem.run_bind, Result.andThen, run_sizeT hs]
                  rw [if_neg (by omega)]
                  simp only [Sem.run_pure, if_neg h0', Sem.run_bind, Result.andThen, run_zeroT hz, g1, newRow, run_newObj]
    | _ => cases h

theorem makeSliceS_ok {t : TypeId} {n m : Nat} {k k' : IntKind} {out : Out} (hS : St B w0 e H nx w) (h : makeSliceS P H nx t n m = some out) : DoesV P B w0 e out (Instr.makeSlice t (.int k (n : Int)) (.int k' (m : Int))) w := by
  unfold makeSliceS at h
  cases hu : P.underlying t with
  | none => rw [hu] at h; cases h
  | some d =>
    rw [hu] at h
    cases d with
    | slice el =>
      simp only at h
      cases hs : sizeT P el with
      | none => rw [hs] at h; cases h
      | some sz =>
        rw [hs] at h
        simp only at h
        cases hz : zeroT P el with
        | none => rw [hz] at h; cases h
        | some z =>
          rw [hz] at h
          simp only at h
          cases hq : (Nat.ble n m && bytesOk P el m && Nat.beq z.cells.size sz && Nat.blt 0 (m * sz)) with
          | false => rw [hq] at h; cases h
          | true =>
            rw [hq] at h
            simp only [cond_true, Option.some.injEq] at h
            subst h
            simp only [Bool.and_eq_true] at hq
            obtain ⟨⟨⟨q1, q2⟩, q3⟩, q4⟩ := hq
            have q1 := le_of_ble q1
            obtain ⟨i, hi, hb, hmx⟩ := bytesOk_ok q2
            have q3 := eq_of_beq q3
            have q4 := lt_of_blt q4
            refine newV_does hS (zerosL_conc z m) (v := .slice (some ⟨w.heap.size, 0, none⟩) n m) (by simp [SV.conc, Env.put_same]) ?_
            have hwn : IntKind.i64.wrap (n : Int) = (n : Int) := IntWalk.i64_in _ (by omega)
            have hwm : IntKind.i64.wrap (m : Int) = (m : Int) := IntWalk.i64_in _ (by omega)
            have hbi : (i.bytes : Int) * (m : Int) = ((m * i.bytes : Nat) : Int) := by rw [Int.natCast_mul, Int.mul_comm]
            have hnb : ¬ ((2 : Int) ^ 48 < (i.bytes : Int) * (m : Int)) := by rw [hbi]; omega
            have hi' : (typeInfo el).run P w = .ok i w := by simp [typeInfo, hi]
            have hcond : (decide ((m : Int) < 0) || decide ((i.bytes : Int) * (m : Int) > 2 ^ 48) || decide ((n : Int) < 0) || decide ((n : Int) > (m : Int))) = false := by
              simp only [Bool.or_eq_false_iff, decide_eq_false_iff_not]
              exact ⟨⟨⟨by omega, hnb⟩, by omega⟩, by omega⟩
            simp only [Instr.makeSlice, run_underlying hu, Sem.run_bind, Result.andThen, asInt, asIntOf, Sem.run_pure, hi', hwn, hwm, hcond, Bool.false_eq_true, if_false, run_askRoom, run_sizeT hs, Int.toNat_natCast]
            rw [if_neg (by omega)]
            simp only [Sem.run_bind, Result.andThen, run_zeroT hz, Sem.run_pure, newRow, run_newObj]
            congr 4
            simp only [Builtin.zeroCells, q3, Array.toArray_toList]
    | _ => cases h

/-! ### calls -/
theorem run_callFunc {f : FuncId} {args : Array Value} (h : mayEnter P f = true) (w : World) : (callFunc f args).run P w = .ok (.enter f args) w := by
  unfold mayEnter at h
  cases hf : P.funcs[f]? with
  | none => rw [hf] at h; cases h
  | some fn =>
    rw [hf] at h
    simp only [Bool.and_eq_true, Bool.not_eq_true', beq_eq_false_iff_ne] at h
    have hn : ¬ (fn.body.isNone = true) := by
      cases hb : fn.body with
      | none => rw [hb] at h; simp at h
      | some c => simp
    have h2 : ¬ ((fn.name == "runtime.NumGoroutine") = true) := by simpa using h.2
    simp only [callFunc, Sem.run_bind, run_program, Result.andThen, hf]
    rw [if_neg h2, if_neg hn]
    rfl

theorem fnTarget_ok {s : SV} {v : Value} {g : FuncId} {a b : List SV} (h : fnTarget s = some (g, a, b)) (hv : s.conc e = some v) : ∃ x y, v = .func (.func g) x y ∧ SV.concL e a = some x.toList ∧ SV.concL e b = some y.toList := by
  unfold fnTarget at h
  split at h
  · simp only [Option.some.injEq, Prod.mk.injEq] at h
    obtain ⟨rfl, rfl, rfl⟩ := h
    simp only [SV.conc, Option.some.injEq] at hv
    subst hv
    exact ⟨_, _, rfl, concL_sc _, concL_sc _⟩
  · simp only [Option.some.injEq, Prod.mk.injEq] at h
    obtain ⟨rfl, rfl, rfl⟩ := h
    obtain ⟨x, y, hx, hy, rfl⟩ := conc_fn hv
    exact ⟨_, _, rfl, by simpa using hx, by simpa using hy⟩
  · cases h

theorem methodS_ok {t : TypeId} {name : String} {g : FuncId} (h : methodS P t name = some g) (v : Value) (args : Array Value) (w : World) : (callMethod (.iface t v) name args).run P w = .ok (.enter g (#[v] ++ args)) w := by
  unfold methodS at h
  cases hi : P.info? t with
  | none => rw [hi] at h; cases h
  | some i =>
    rw [hi] at h
    simp only at h
    cases hm : i.methods.find? (fun m => m.name == name) with
    | none => rw [hm] at h; cases h
    | some m =>
      rw [hm] at h
      simp only at h
      cases hmf : m.func with
      | none => rw [hmf] at h; cases h
      | some q =>
        obtain ⟨g', pr⟩ := q
        rw [hmf] at h
        cases pr with
        | false => cases h
        | true =>
          simp only at h
          cases hu : P.underlying t with
          | none => rw [hu] at h; cases h
          | some d =>
            rw [hu] at h
            cases d with
            | pointer el =>
              simp only at h
              cases hq : (m.path.isEmpty && mayEnter P g') with
              | false => rw [hq] at h; cases h
              | true =>
                rw [hq] at h
                simp only [cond_true, Option.some.injEq] at h
                subst h
                rw [Bool.and_eq_true] at hq
                obtain ⟨n, hn⟩ : ∃ n, P.types.size + Made.depth = n + 1 := ⟨P.types.size + 99, by unfold Made.depth; omega⟩
                have hpath : m.path.toList = [] := by
                  have := hq.1
                  cases hp : m.path.toList with
                  | nil => rfl
                  | cons a l => rw [Array.isEmpty_iff] at this; rw [this] at hp; cases hp
                have hi' : (typeInfo t).run P w = .ok i w := by simp [typeInfo, hi]
                simp only [callMethod, Sem.run_bind, run_program, Result.andThen, hn, Go.method, hi', hm, hpath, follow, Sem.run_pure, hmf, receiverAt, run_underlying hu, Place.get]
                exact run_callFunc hq.2 w
            | _ => cases h

theorem callTarget_ok {c : Call} {a : ANx} {ty : TypeId} (hE : EvRel e T ev) (h : callTarget P T c = some a) (w : World) : ORun P e a ((do let d ← resolve ev c ty; invoke d.target d.args : Sem Next).run P w) w := by
  unfold callTarget at h
  cases hl : evalL T c.args.toList with
  | none => rw [hl] at h; cases h
  | some args =>
    rw [hl] at h
    simp only at h
    have hargs := hE.list _ _ hl
    cases hc : c.callee with
    | builtin b => rw [hc] at h; cases h
    | value f =>
      rw [hc] at h
      simp only at h
      cases hf : evalS T f with
      | none => rw [hf] at h; cases h
      | some s =>
        have hv := hE f s hf
        rw [hf] at h
        have gen : (match fnTarget s with
            | some (g, x, y) => bif mayEnter P g then some (ANx.enter g (x ++ args ++ y)) else none
            | none => none) = some a → ORun P e a ((do let d ← resolve ev c ty; invoke d.target d.args : Sem Next).run P w) w := by
          intro h
          cases ht : fnTarget s with
          | none => rw [ht] at h; cases h
          | some q =>
            obtain ⟨g, x, y⟩ := q
            rw [ht] at h
            simp only at h
            cases hm : mayEnter P g with
            | false => rw [hm] at h; cases h
            | true =>
              rw [hm] at h
              simp only [cond_true, Option.some.injEq] at h
              subst h
              obtain ⟨xs, ys, hev, hx, hy⟩ := fnTarget_ok ht hv
              refine ⟨xs ++ c.args.map ev ++ ys, ?_, ?_⟩
              · have := concL_append (concL_append hx hargs) hy
                simpa using this
              · simp [resolve, hc, hev, Deferred.ofValue, invoke, run_callFunc hm]
        cases s with
        | yld l =>
          simp only [Option.some.injEq] at h
          subst h
          obtain ⟨x, hx, hev⟩ := conc_yld hv
          refine ⟨x, c.args.toList.map ev, hx, hargs, ?_⟩
          simp [resolve, hc, hev, Deferred.ofValue, invoke]
          congr 1
          congr 1
          apply Array.ext'
          simp
        | _ => exact gen h
    | invoke r name =>
      rw [hc] at h
      simp only at h
      split at h
      · rename_i t v hr
        have hv := hE r _ hr
        obtain ⟨u, hu, hev⟩ := conc_ifc hv
        cases hm : methodS P t name with
        | none => rw [hm] at h; cases h
        | some g =>
          rw [hm] at h
          simp only [Option.some.injEq] at h
          subst h
          refine ⟨#[u] ++ c.args.map ev, ?_, ?_⟩
          · simpa using concL_cons_mk hu hargs
          · have hex : (#[ev r] ++ Array.map ev c.args).extract 1 (#[ev r] ++ Array.map ev c.args).size = Array.map ev c.args := by
              obtain ⟨l⟩ := Array.map ev c.args
              simp
            have h0 : (#[ev r] ++ Array.map ev c.args)[0]? = some (ev r) := by
              obtain ⟨l⟩ := Array.map ev c.args
              simp
            simp only [resolve, hc, Sem.run_bind, Sem.run_pure, Result.andThen, invoke, h0, hex]
            rw [hev]
            exact methodS_ok hm u _ w
      · cases h

theorem does_of_v {out : Out} {s : Sem Value} {res : Result Next} (h : DoesV P B w0 e out s w) (hr : ∀ v w', s.run P w = .ok v w' → res = .ok (.value v) w') : Does P B w0 e out res := by
  obtain ⟨e', w', r, v, h1, h2, h3, h4, h5⟩ := h
  exact ⟨e', w', h2, h3, by rw [h1]; exact ⟨v, h4, hr v w' h5⟩⟩
theorem does_of_u {out : Out} {s : Sem Unit} {res : Result Next} (h : DoesU P B w0 e out s w) (hr : ∀ w', s.run P w = .ok () w' → res = .ok .skip w') : Does P B w0 e out res := by
  obtain ⟨e', w', h1, h2, h3, h4⟩ := h
  exact ⟨e', w', h2, h3, by rw [h1]; exact hr w' h4⟩

theorem appendAt_ok {t u ty : TypeId} {s x : SV} {vs vx : Value} {out : Out} (hS : St B w0 e H nx w) (h : appendAt P H nx t u s x = some out) (hs : s.conc e = some vs) (hx : x.conc e = some vx) : DoesV P B w0 e out (Builtin.append_ #[t, u] ty #[vs, vx]) w := by
  unfold appendAt at h
  cases ht : P.underlying t with
  | none => rw [ht] at h; cases h
  | some d =>
    rw [ht] at h
    cases d with
    | slice el =>
      simp only at h
      cases hu : P.underlying u with
      | none => rw [hu] at h; cases h
      | some d2 =>
        rw [hu] at h
        have key : (∃ e', P.underlying u = some (.slice e')) ∨ P.underlying u = some .string → appendS P H nx el s x = some out → DoesV P B w0 e out (Builtin.append_ #[t, u] ty #[vs, vx]) w := by
          intro hk h
          obtain ⟨e', w', r, v, h1, h2, h3, h4, h5⟩ := appendS_ok (ty := ty) ht hk hS h hs hx
          exact ⟨e', w', r, v, h1, h2, h3, h4, h5⟩
        cases d2 with
        | slice e2 => exact key (.inl ⟨e2, hu⟩) h
        | string => exact key (.inr hu) h
        | _ => cases h
    | _ => cases h

theorem builtinS_ok {b : Builtin} {ts : Array TypeId} {xs : List SV} {vs : Array Value} {ty : TypeId} {cs : Array Bool} {out : Out} (hS : St B w0 e H nx w) (h : builtinS P H nx b ts.toList xs = some out) (hx : SV.concL e xs = some vs.toList) :
    Does P B w0 e out ((builtin b ts ty cs vs).run P w) := by
  unfold builtinS at h
  obtain ⟨tl⟩ := ts
  obtain ⟨vl⟩ := vs
  simp only at h hx
  cases b with
  | append =>
    simp only at h
    split at h
    · rename_i t u s x
      obtain ⟨v1, l1, rfl, h1, hx⟩ := concL_cons hx
      obtain ⟨v2, l2, rfl, h2, hx⟩ := concL_cons hx
      simp only [SV.concL, Option.some.injEq] at hx
      subst hx
      exact does_of_v (appendAt_ok (ty := ty) hS h h1 h2) (fun v w' hr => by simp [builtin, hr])
    · cases h
  | copy =>
    simp only at h
    split at h
    · rename_i t tl d x
      obtain ⟨v1, l1, rfl, h1, hx⟩ := concL_cons hx
      obtain ⟨v2, l2, rfl, h2, hx⟩ := concL_cons hx
      simp only [SV.concL, Option.some.injEq] at hx
      subst hx
      exact does_of_v (copyS_ok (ts := ⟨t :: tl⟩) (ty := ty) (by simp) hS h h1 h2) (fun v w' hr => by simp [builtin, hr])
    · cases h
  | clear =>
    simp only at h
    split at h
    · rename_i t tl d
      obtain ⟨v1, l1, rfl, h1, hx⟩ := concL_cons hx
      simp only [SV.concL, Option.some.injEq] at hx
      subst hx
      exact does_of_v (clearS_ok (ts := ⟨t :: tl⟩) (ty := ty) (by simp) hS h h1) (fun v w' hr => by simp [builtin, hr])
    · cases h
  | delete =>
    simp only at h
    split at h
    · rename_i t tl m k
      obtain ⟨v1, l1, rfl, h1, hx⟩ := concL_cons hx
      obtain ⟨v2, l2, rfl, h2, hx⟩ := concL_cons hx
      simp only [SV.concL, Option.some.injEq] at hx
      subst hx
      cases hk : k.lit with
      | none => rw [hk] at h; cases h
      | some kv =>
        rw [hk] at h
        have := SV.lit_conc e k kv hk
        rw [h2] at this
        simp only [Option.some.injEq] at this
        subst this
        exact does_of_v (mapDelS_ok (ts := ⟨t :: tl⟩) (ty := ty) (by simp) hS h h1) (fun v w' hr => by simp [builtin, hr])
    · cases h
  | recover =>
    simp only at h
    split at h
    · simp only [Option.some.injEq] at h
      subst h
      exact ⟨e, w, Env.le_refl e, hS, rfl⟩
    · cases h
  | _ => cases h

/-- An operation that turns memory, or calls. -/
theorem effOp_ok {o : Oper} {out : Out} (hS : St B w0 e H nx w) (hE : EvRel e T ev) (h : effOp P T H nx o = some out) : Does P B w0 e out ((execOp ev o).run P w) := by
  unfold effOp at h
  cases hop : o.op with
  | alloc t =>
    rw [hop] at h
    simp only at h
    cases hz : zeroT P t with
    | none => rw [hz] at h; cases h
    | some z =>
      rw [hz] at h
      simp only [Option.some.injEq] at h
      subst h
      refine new_does hS (concL_sc _) (v := .pointer (some ⟨w.heap.size, 0, none⟩)) (by simp [SV.conc, Env.put_same]) ?_
      simp [execOp, hop, Instr.alloc, run_zeroT hz, newVar, newRow]
  | box t x =>
    rw [hop] at h
    simp only at h
    cases hx : evalS T x with
    | none => rw [hx] at h; cases h
    | some s =>
      rw [hx] at h
      simp only [Option.some.injEq] at h
      subst h
      refine new_does hS (cells_conc (hE x s hx)) (v := .pointer (some ⟨w.heap.size, 0, none⟩)) (by simp [SV.conc, Env.put_same]) ?_
      simp [execOp, hop, Instr.box, newVar, newRow]
  | store t a x =>
    rw [hop] at h
    simp only at h
    split at h
    · rename_i b off ha
      obtain ⟨y, hy, hv⟩ := conc_ptr (hE a _ ha)
      cases hx : evalS T x with
      | none => rw [hx] at h; cases h
      | some s =>
        rw [hx] at h
        simp only at h
        cases hsz : sizeIs P t s.cells.length with
        | false => rw [hsz] at h; cases h
        | true =>
          rw [hsz] at h
          simp only [cond_true] at h
          cases hst : storeS H b off s.cells with
          | none => rw [hst] at h; cases h
          | some H' =>
            rw [hst] at h
            simp only [Option.some.injEq] at h
            subst h
            have hcs := cells_conc (hE x s hx)
            have hlen := concL_length hcs
            obtain ⟨w', k1, k2⟩ := storeS_ok (P := P) hS hst hy hcs
            unfold sizeIs at hsz
            cases hs : sizeT P t with
            | none => rw [hs] at hsz; cases hsz
            | some n =>
              rw [hs] at hsz
              have hn := eq_of_beq hsz
              refine ⟨e, w', Env.le_refl e, k2, ?_⟩
              have hcz : (ev x).cells.size = n := by simp only [Array.length_toList] at hlen; omega
              show (execOp ev o).run P w = _
              simp [execOp, hop, hv, Instr.storeAt, Instr.sureAddr, storeVar, run_sizeT hs, hcz, k1]
    · cases h
  | buildSlice t len parts =>
    rw [hop] at h
    obtain ⟨ps, hps, h⟩ := obind h
    have hp := hE.parts _ _ hps
    exact does_of_v (buildSliceS_ok (qs := parts.map fun x => (x.1, ev x.2)) hS h (by simpa using hp)) (fun v w' hr => by simp [execOp, hop, hr])
  | makeMap t r =>
    rw [hop] at h
    cases r with
    | some r => cases h
    | none =>
      simp only [Option.some.injEq] at h
      subst h
      have hf := hS.fresh nx (Nat.le_refl _)
      refine alloc_does (o := .map #[] 0) (x := ⟨w.heap.size, 0, 0⟩) (w' := { w with heap := w.heap.push (.map #[] 0) }) (v := .map (some w.heap.size)) hS rfl rfl rfl rfl rfl ⟨#[], rfl, trivial⟩ (by simp [SV.conc, Env.put_same]) ?_
      simp [execOp, hop, Instr.makeMap]
  | makeSlice t l c =>
    rw [hop] at h
    obtain ⟨n, hn, h⟩ := obind h
    obtain ⟨m, hm, h⟩ := obind h
    obtain ⟨k, hk⟩ := hE.nat hn
    obtain ⟨k', hk'⟩ := hE.nat hm
    exact does_of_v (makeSliceS_ok (k := k) (k' := k') hS h) (fun v w' hr => by simp [execOp, hop, hk, hk', hr])
  | slice t x lo hi mx =>
    rw [hop] at h
    cases mx with
    | some mx => cases h
    | none =>
      obtain ⟨s, hs, h⟩ := obind h
      exact does_of_v (emptyS_ok hS hE h (hE x s hs)) (fun v w' hr => by simp [execOp, hop, hr])
  | mapUpdate t m k x =>
    rw [hop] at h
    obtain ⟨kv, hk, h⟩ := obind h
    obtain ⟨s, hs, h⟩ := obind h
    obtain ⟨sm, hsm, h⟩ := obind h
    exact does_of_u (mapUpS_ok hS h (hE x s hs) (hE m sm hsm)) (fun w' hr => by simp [execOp, hop, hE.lit hk, hr])
  | insert t m k x =>
    rw [hop] at h
    obtain ⟨kv, hk, h⟩ := obind h
    obtain ⟨s, hs, h⟩ := obind h
    obtain ⟨sm, hsm, h⟩ := obind h
    exact does_of_u (mapUpS_ok hS h (hE x s hs) (hE m sm hsm)) (fun w' hr => by simp [execOp, hop, hE.lit hk, hr])
  | convert s t x =>
    rw [hop] at h
    obtain ⟨q, hq, h⟩ := obind h
    exact does_of_v (bytesOfS_ok hS h (hE x q hq)) (fun v w' hr => by simp [execOp, hop, hr])
  | range t x =>
    rw [hop] at h
    obtain ⟨q, hq, h⟩ := obind h
    exact does_of_v (rangeS_ok hS h (hE x q hq)) (fun v w' hr => by simp [execOp, hop, hr])
  | call c =>
    rw [hop] at h
    simp only at h
    have gen : (callTarget P T c).map (fun a => ((a, H, nx) : Out)) = some out → Does P B w0 e out ((execOp ev o).run P w) := by
      intro h
      simp only [Option.map_eq_some_iff] at h
      obtain ⟨a, ha, rfl⟩ := h
      refine ⟨e, w, Env.le_refl e, hS, ?_⟩
      have := callTarget_ok (ty := o.type) hE ha w
      simpa [execOp, hop] using this
    cases hc : c.callee with
    | builtin b =>
      rw [hc] at h
      obtain ⟨xs, hxs, h⟩ := obind h
      have hargs := hE.list _ _ hxs
      have := fun cs => builtinS_ok (ty := o.type) (cs := cs) (vs := c.args.map ev) (w := w) hS h (by simpa using hargs)
      simp only [execOp, hop, resolve, hc, Sem.run_bind, Sem.run_pure, Result.andThen, invoke]
      exact this _
    | value f => rw [hc] at h; exact gen h
    | invoke r n => rw [hc] at h; exact gen h
  | defer c =>
    rw [hop] at h
    simp only at h
    cases hc : c.callee with
    | builtin b => rw [hc] at h; cases h
    | invoke r n => rw [hc] at h; cases h
    | value f =>
      rw [hc] at h
      simp only at h
      unfold callTarget at h
      cases hl : evalL T c.args.toList with
      | none => rw [hl] at h; cases h
      | some args =>
        rw [hl] at h
        simp only [hc] at h
        have hargs := hE.list _ _ hl
        cases hf : evalS T f with
        | none => rw [hf] at h; cases h
        | some s =>
          have hv := hE f s hf
          rw [hf] at h
          cases ht : fnTarget s with
          | none =>
            exfalso
            cases s <;> simp [ht] at h
          | some q =>
            obtain ⟨g, x, y⟩ := q
            obtain ⟨xs, ys, hev, hx, hy⟩ := fnTarget_ok ht hv
            have hny : ∀ l, s ≠ .yld l := by rintro l rfl; simp [fnTarget] at ht
            have h2 : (match (bif mayEnter P g then some (ANx.enter g (x ++ args ++ y)) else none : Option ANx) with
                | some (.enter f args) => some ((.dfr (.call f args), H, nx) : Out)
                | _ => none) = some out := by
              cases s <;> first
                | exact absurd rfl (hny _)
                | (simp only [ht] at h; exact h)
            cases hm : mayEnter P g with
            | false => rw [hm] at h2; cases h2
            | true =>
              rw [hm] at h2
              simp only [cond_true, Option.some.injEq] at h2
              subst h2
              refine ⟨e, w, Env.le_refl e, hS, { target := .fn (.func g) ys, args := xs ++ c.args.map ev }, ⟨_, _, rfl, ?_⟩, ?_⟩
              · have := concL_append (concL_append hx hargs) hy
                simpa using this
              · simp [execOp, hop, resolve, hc, hev, Deferred.ofValue]
  | _ => rw [hop] at h; cases h
end
end Go.Ex
