/-
  The machine of names: each operation that only reads. Over any program.
-/
import Derived.Test.YtbmekelkddllkaaExB
namespace Go.Ex
open Go Go.Sl Go.RowKit

/-! ### trees with no memory in them -/
theorem pureRun_run {P : Program} {A : Type} : ∀ (s : Sem A) (a : A), pureRun P s = some a → ∀ w, s.run P w = .ok a w
  | .pure b, a, h, w => by simp only [pureRun, Option.some.injEq] at h; subst h; rfl
  | .program k, a, h, w => pureRun_run (k P) a h w
  | .mark m k, a, h, w => pureRun_run k a h w
  | .choose q k, a, h, w => by
    simp only [pureRun] at h
    cases hq : q.forced with
    | false => rw [hq] at h; cases h
    | true =>
      rw [hq] at h
      simp only [Sem.run, hq, if_true]
      exact pureRun_run (k 0) a h w
  | .load .., a, h, w => by simp [pureRun] at h
  | .store .., a, h, w => by simp [pureRun] at h
  | .new .., a, h, w => by simp [pureRun] at h
  | .shape .., a, h, w => by simp [pureRun] at h
  | .freeze .., a, h, w => by simp [pureRun] at h
  | .frozen .., a, h, w => by simp [pureRun] at h
  | .getObj .., a, h, w => by simp [pureRun] at h
  | .setObj .., a, h, w => by simp [pureRun] at h
  | .sys .., a, h, w => by simp [pureRun] at h
  | .halt .., a, h, w => by simp [pureRun] at h

section
variable {P : Program} {B : Nat} {w0 w : World} {e : Env} {H : Heap} {nx : Nat} {T : Tr SV} {ev : Operand → Value}

theorem conc_ptr {b o : Nat} {v : Value} (h : (SV.ptr b o).conc e = some v) : ∃ x, e b = some x ∧ v = .pointer (some ⟨x.blk, x.base + o, none⟩) := by
  simp only [SV.conc, Option.map_eq_some_iff] at h
  obtain ⟨x, hx, rfl⟩ := h
  exact ⟨x, hx, rfl⟩
theorem conc_sl {b o n c : Nat} {v : Value} (h : (SV.sl b o n c).conc e = some v) : ∃ x, e b = some x ∧ v = .slice (some ⟨x.blk, x.base + o, none⟩) n c := by
  simp only [SV.conc, Option.map_eq_some_iff] at h
  obtain ⟨x, hx, rfl⟩ := h
  exact ⟨x, hx, rfl⟩
theorem conc_slu {b o eo n : Nat} {v : Value} (h : (SV.slu b o eo n).conc e = some v) : ∃ x, e b = some x ∧ v = .slice (some ⟨x.blk, x.base + o, none⟩) n (x.cap - eo) := by
  simp only [SV.conc, Option.map_eq_some_iff] at h
  obtain ⟨x, hx, rfl⟩ := h
  exact ⟨x, hx, rfl⟩
theorem conc_mp {b : Nat} {v : Value} (h : (SV.mp b).conc e = some v) : ∃ x, e b = some x ∧ v = .map (some x.blk) := by
  simp only [SV.conc, Option.map_eq_some_iff] at h
  obtain ⟨x, hx, rfl⟩ := h
  exact ⟨x, hx, rfl⟩
theorem conc_agg {l : List SV} {v : Value} (h : (SV.agg l).conc e = some v) : ∃ vs, SV.concL e l = some vs ∧ v = .agg vs.toArray := by
  simp only [SV.conc, Option.map_eq_some_iff] at h
  obtain ⟨x, hx, rfl⟩ := h
  exact ⟨x, hx, rfl⟩
theorem conc_tup {l : List SV} {v : Value} (h : (SV.tup l).conc e = some v) : ∃ vs, SV.concL e l = some vs ∧ v = .tuple vs.toArray := by
  simp only [SV.conc, Option.map_eq_some_iff] at h
  obtain ⟨x, hx, rfl⟩ := h
  exact ⟨x, hx, rfl⟩
theorem conc_ifc {t : TypeId} {s : SV} {v : Value} (h : (SV.ifc t s).conc e = some v) : ∃ u, s.conc e = some u ∧ v = .iface t u := by
  simp only [SV.conc, Option.map_eq_some_iff] at h
  obtain ⟨x, hx, rfl⟩ := h
  exact ⟨x, hx, rfl⟩
theorem conc_fn {f : Fn} {a b : List SV} {v : Value} (h : (SV.fn f a b).conc e = some v) : ∃ x y, SV.concL e a = some x ∧ SV.concL e b = some y ∧ v = .func f x.toArray y.toArray := by
  simp only [SV.conc] at h
  cases ha : SV.concL e a with
  | none => rw [ha] at h; cases h
  | some x =>
    cases hb : SV.concL e b with
    | none => rw [ha, hb] at h; cases h
    | some y => rw [ha, hb] at h; simp only [Option.some.injEq] at h; exact ⟨x, y, rfl, rfl, h.symm⟩
theorem conc_yld {b : Nat} {v : Value} (h : (SV.yld b).conc e = some v) : ∃ x, e b = some x ∧ v = .func (.yield x.blk) #[] #[] := by
  simp only [SV.conc, Option.map_eq_some_iff] at h
  obtain ⟨x, hx, rfl⟩ := h
  exact ⟨x, hx, rfl⟩

theorem nthS_ok {i : Nat} {s r : SV} {v : Value} (h : nthS i s = some r) (hv : s.conc e = some v) (w : World) : ∃ u, r.conc e = some u ∧ (Instr.extract v i).run P w = .ok u w := by
  cases s with
  | tup l =>
    obtain ⟨vs, hl, rfl⟩ := conc_tup hv
    obtain ⟨u, hu, hg⟩ := concL_get hl h
    exact ⟨u, hu, by simp [Instr.extract, hg]⟩
  | sc c =>
    cases c with
    | tuple vs =>
      simp only [SV.conc, Option.some.injEq] at hv
      subst hv
      simp only [nthS, Option.map_eq_some_iff] at h
      obtain ⟨u, hu, rfl⟩ := h
      exact ⟨u, rfl, by simp [Instr.extract, hu]⟩
    | _ => simp [nthS] at h
  | _ => simp [nthS] at h

theorem run_nilCheck {o : Oper} {x : Operand} (hop : o.op = .nilCheck x) {s r : SV} (h : checkedS s = some r) (hv : s.conc e = some (ev x)) (w : World) :
    ∃ u, r.conc e = some u ∧ (execOp ev o).run P w = .ok (.value u) w := by
  cases s with
  | ptr b off =>
    obtain ⟨y, hy, hx⟩ := conc_ptr hv
    simp only [checkedS, Option.some.injEq] at h
    subst h
    exact ⟨_, hv, by simp [execOp, hop, hx]⟩
  | yld l =>
    obtain ⟨y, hy, hx⟩ := conc_yld hv
    simp only [checkedS, Option.some.injEq] at h
    subst h
    exact ⟨_, hv, by simp [execOp, hop, hx]⟩
  | ifc t u =>
    obtain ⟨y, hy, hx⟩ := conc_ifc hv
    simp only [checkedS, Option.some.injEq] at h
    subst h
    exact ⟨_, hv, by simp [execOp, hop, hx]⟩
  | fn f a c =>
    cases f with
    | func g =>
      obtain ⟨x1, y1, _, _, hx⟩ := conc_fn hv
      simp only [checkedS, Option.some.injEq] at h
      subst h
      exact ⟨_, hv, by simp [execOp, hop, hx]⟩
    | _ => simp [checkedS] at h
  | _ => simp [checkedS] at h

theorem run_fieldPlace {f : Field} {n : Nat} (h : sizeT P f.type = some (n + 1)) (b o : Nat) (w : World) : (fieldPlace ⟨b, o, none⟩ f).run P w = .ok ⟨b, o + f.offset, none⟩ w := by
  simp [fieldPlace, run_sizeT h, addr_add]

theorem fieldAddrS_ok {t : TypeId} {f : Nat} {s r : SV} {v : Value} (h : fieldAddrS P t f s = some r) (hv : s.conc e = some v) (w : World) : ∃ u, r.conc e = some u ∧ (Instr.fieldAt t v f).run P w = .ok u w := by
  cases s with
  | ptr b off =>
    obtain ⟨y, hy, rfl⟩ := conc_ptr hv
    simp only [fieldAddrS] at h
    cases hu : P.underlying t with
    | none => rw [hu] at h; cases h
    | some d =>
      rw [hu] at h
      cases d with
      | struct fields =>
        simp only at h
        cases hf : fields[f]? with
        | none => rw [hf] at h; cases h
        | some fd =>
          rw [hf] at h
          simp only at h
          cases hs : sizeT P fd.type with
          | none => rw [hs] at h; cases h
          | some n =>
            rw [hs] at h
            cases n with
            | zero => cases h
            | succ n =>
              simp only [Option.some.injEq] at h
              subst h
              refine ⟨.pointer (some ⟨y.blk, y.base + (off + fd.offset), none⟩), by simp [SV.conc, hy], ?_⟩
              simp [Instr.fieldAt, run_underlying hu, hf, Instr.sureAddr, run_fieldPlace hs, Nat.add_assoc]
      | _ => cases h
  | _ => simp [fieldAddrS] at h

theorem int_bounds {n len : Nat} (h : n < len) : 0 ≤ (n : Int) ∧ (n : Int) < (len : Int) := by omega

theorem indexAddrS_ok {t : TypeId} {n : Nat} {k : IntKind} {s r : SV} {v : Value} (h : indexAddrS P t n s = some r) (hv : s.conc e = some v) (w : World) : ∃ u, r.conc e = some u ∧ (Instr.indexAt t v (.int k (n : Int))).run P w = .ok u w := by
  cases s with
  | ptr b off =>
    obtain ⟨y, hy, rfl⟩ := conc_ptr hv
    simp only [indexAddrS] at h
    cases hu : P.underlying t with
    | none => rw [hu] at h; cases h
    | some d =>
      rw [hu] at h
      cases d with
      | array len el =>
        simp only at h
        cases hs : sizeT P el with
        | none => rw [hs] at h; cases h
        | some sz =>
          rw [hs] at h
          simp only at h
          cases hb : Nat.blt n len with
          | false => rw [hb] at h; cases h
          | true =>
            rw [hb] at h
            simp only [cond_true, Option.some.injEq] at h
            subst h
            have hlt := lt_of_blt hb
            refine ⟨.pointer (some ⟨y.blk, y.base + (off + n * sz), none⟩), by simp [SV.conc, hy], ?_⟩
            simp [Instr.indexAt, asIntOf, run_underlying hu, Instr.sureAddr, run_sizeT hs, addr_add, Nat.add_assoc]
            intro hc; omega
      | _ => cases h
  | sl b off len cap =>
    obtain ⟨y, hy, rfl⟩ := conc_sl hv
    simp only [indexAddrS] at h
    cases hu : P.underlying t with
    | none => rw [hu] at h; cases h
    | some d =>
      rw [hu] at h
      cases d with
      | slice el =>
        simp only at h
        cases hs : sizeT P el with
        | none => rw [hs] at h; cases h
        | some sz =>
          rw [hs] at h
          simp only at h
          cases hb : Nat.blt n len with
          | false => rw [hb] at h; cases h
          | true =>
            rw [hb] at h
            simp only [cond_true, Option.some.injEq] at h
            subst h
            have hlt := lt_of_blt hb
            refine ⟨.pointer (some ⟨y.blk, y.base + (off + n * sz), none⟩), by simp [SV.conc, hy], ?_⟩
            simp [Instr.indexAt, asIntOf, run_underlying hu, run_sizeT hs, addr_add, Nat.add_assoc]
            intro hc; omega
      | _ => cases h
  | slu b off eo len =>
    obtain ⟨y, hy, rfl⟩ := conc_slu hv
    simp only [indexAddrS] at h
    cases hu : P.underlying t with
    | none => rw [hu] at h; cases h
    | some d =>
      rw [hu] at h
      cases d with
      | slice el =>
        simp only at h
        cases hs : sizeT P el with
        | none => rw [hs] at h; cases h
        | some sz =>
          rw [hs] at h
          simp only at h
          cases hb : Nat.blt n len with
          | false => rw [hb] at h; cases h
          | true =>
            rw [hb] at h
            simp only [cond_true, Option.some.injEq] at h
            subst h
            have hlt := lt_of_blt hb
            refine ⟨.pointer (some ⟨y.blk, y.base + (off + n * sz), none⟩), by simp [SV.conc, hy], ?_⟩
            simp [Instr.indexAt, asIntOf, run_underlying hu, run_sizeT hs, addr_add, Nat.add_assoc]
            intro hc; omega
      | _ => cases h
  | _ => simp [indexAddrS] at h

theorem loadS_ok {t : TypeId} {b o : Nat} {r : SV} {x : Ent} (hS : St B w0 e H nx w) (h : loadS P H t b o = some r) (hx : e b = some x) : ∃ u, r.conc e = some u ∧ (loadVar t ⟨x.blk, x.base + o, none⟩).run P w = .ok u w := by
  unfold loadS at h
  cases hb : H.at' b with
  | none => rw [hb] at h; cases h
  | some vo =>
    rw [hb] at h
    obtain ⟨y, ob, h1, h2, h3, h4⟩ := hS.rel b vo hb
    rw [hx] at h1
    simp only [Option.some.injEq] at h1
    subst h1
    exact run_load_S h4 h3 h

theorem partS_ok {t : TypeId} {l : List SV} {off : Nat} {r : SV} {vs : List Value} (h : partS P t l off = some r) (hl : SV.concL e l = some vs) (w : World) : ∃ u, r.conc e = some u ∧ (part t vs.toArray off).run P w = .ok u w := by
  unfold partS at h
  cases ha : aggSize P t with
  | none => rw [ha] at h; cases h
  | some q =>
    rw [ha] at h
    cases q with
    | none =>
      obtain ⟨u, hu, hg⟩ := concL_get hl h
      exact ⟨u, hu, by simp [part, run_isAggS ha, hg]⟩
    | some n =>
      simp only [Option.some.injEq] at h
      subst h
      refine ⟨.agg ((vs.drop off).take n).toArray, by simp [SV.conc, concL_take n (concL_drop off hl)], ?_⟩
      simp only [part, run_isAggS ha, run_sizeT (aggSize_size ha), Sem.run_bind, Result.andThen, Option.isSome_some, if_true, Sem.run_pure]
      congr 2
      apply Array.ext'
      simp [List.take_drop, Nat.add_comm]

theorem fieldS_ok {t : TypeId} {f : Nat} {l : List SV} {r : SV} {vs : List Value} (h : fieldS P t f l = some r) (hl : SV.concL e l = some vs) (w : World) : ∃ u, r.conc e = some u ∧ (Instr.field t (.agg vs.toArray) f).run P w = .ok u w := by
  unfold fieldS at h
  cases hu : P.underlying t with
  | none => rw [hu] at h; cases h
  | some d =>
    rw [hu] at h
    cases d with
    | struct fields =>
      simp only at h
      cases hf : fields[f]? with
      | none => rw [hf] at h; cases h
      | some fd =>
        rw [hf] at h
        obtain ⟨u, hu', hr⟩ := partS_ok h hl w
        exact ⟨u, hu', by simp [Instr.field, run_underlying hu, hf, asAgg, hr]⟩
    | _ => cases h

theorem ifaceV_ok {t : TypeId} {s : SV} {v : Value} (hv : s.conc e = some v) : (ifaceV t s).conc e = some (.iface t v) := by
  cases s <;> first
    | (simp only [SV.conc, Option.some.injEq] at hv; subst hv; rfl)
    | (simp only [ifaceV]; rw [SV.conc, hv]; rfl)
theorem ifaceS_ok {t : TypeId} {s r : SV} {v : Value} (h : ifaceS P t s = some r) (hv : s.conc e = some v) (w : World) : ∃ u, r.conc e = some u ∧ (Instr.makeInterface t v).run P w = .ok u w := by
  unfold ifaceS at h
  cases hu : P.underlying t with
  | none => rw [hu] at h; cases h
  | some d =>
    rw [hu] at h
    cases d <;> first
      | (simp only [Option.some.injEq] at h
         subst h
         exact ⟨_, ifaceV_ok hv, by simp [Instr.makeInterface, run_underlying hu]⟩)
      | cases h

theorem places_ok : ∀ (fs : List Field) (pl : List (Nat × Nat)), places P fs = some pl → fs.mapM (fun f => (P.info? f.type).map fun i => (f.offset, i.size)) = some pl
  | [], pl, h => by simp only [places, Option.some.injEq] at h; subst h; rfl
  | f :: fs, pl, h => by
    simp only [places, sizeT] at h
    cases hi : P.info? f.type with
    | none => rw [hi] at h; cases h
    | some i =>
      rw [hi] at h
      simp only [Option.map_some] at h
      cases hr : places P fs with
      | none => rw [hr] at h; cases h
      | some r =>
        rw [hr] at h
        simp only [Option.some.injEq] at h
        subst h
        simp [List.mapM_cons, hi, places_ok fs r hr]

theorem buildS_ok {t : TypeId} {ps : List (Nat × SV)} {qs : Array (Nat × Value)} {r : SV} (h : buildS P t ps = some r) (hp : PRel e ps qs.toList) (w : World) : ∃ u, r.conc e = some u ∧ (Instr.build t qs).run P w = .ok u w := by
  unfold buildS zeroT at h
  cases hi : P.info? t with
  | none => rw [hi] at h; cases h
  | some it =>
    rw [hi] at h
    simp only [Option.bind_some] at h
    cases hz : it.zero with
    | none => rw [hz] at h; cases h
    | some z =>
      rw [hz] at h
      simp only at h
      have hzl : SV.concL e (z.cells.toList.map .sc) = some z.cells.toList := concL_sc _
      cases hu : P.underlying t with
      | none => rw [hu] at h; cases h
      | some d =>
        rw [hu] at h
        cases d with
        | struct fields =>
          simp only at h
          cases hpl : places P fields.toList with
          | none => rw [hpl] at h; cases h
          | some pl =>
            rw [hpl] at h
            simp only [Option.map_eq_some_iff] at h
            obtain ⟨cs, hf, rfl⟩ := h
            obtain ⟨vs, g1, g2⟩ := fill_S ps qs.toList _ cs _ hf hp hzl
            refine ⟨.agg vs.toArray, by simp [SV.conc, g2], run_build w t qs vs.toArray ?_⟩
            unfold Program.built
            rw [hi, hu]
            simp only [hz, places_ok _ _ hpl]
            rw [← g1]
            congr 1
            funext i
            simp
        | array len el =>
          simp only at h
          cases hs : sizeT P el with
          | none => rw [hs] at h; cases h
          | some sz =>
            rw [hs] at h
            simp only [Option.map_eq_some_iff] at h
            obtain ⟨cs, hf, rfl⟩ := h
            obtain ⟨vs, g1, g2⟩ := fill_S ps qs.toList _ cs _ hf hp hzl
            refine ⟨.agg vs.toArray, by simp [SV.conc, g2], run_build w t qs vs.toArray ?_⟩
            unfold sizeT at hs
            cases hie : P.info? el with
            | none => rw [hie] at hs; cases hs
            | some ie =>
              rw [hie] at hs
              simp only [Option.map_some, Option.some.injEq] at hs
              subst hs
              unfold Program.built
              rw [hi, hu]
              simp only [hz, hie]
              rw [← g1]
        | _ => cases h

/-! ### maps -/
theorem MRel.dummies : ∀ {l : List (Value × SV × Nat)} {ms : List MapEntry}, MRel e l ms → dummies l = ms.map fun m => { m with val := .nilFunc }
  | [], [], _ => rfl
  | (k, s, b) :: l, m :: ms, h => by
    obtain ⟨rfl, rfl, _, h4⟩ := h
    simp only [Ex.dummies, List.map_cons, List.cons.injEq]
    exact ⟨trivial, MRel.dummies h4⟩
  | [], _ :: _, h => h.elim
  | (_, _, _) :: _, [], h => by simp [MRel] at h
theorem MRel.length : ∀ {l : List (Value × SV × Nat)} {ms : List MapEntry}, MRel e l ms → ms.length = l.length
  | [], [], _ => rfl
  | (k, s, b) :: l, m :: ms, h => by simp [MRel.length h.2.2.2]
  | [], _ :: _, h => h.elim
  | (_, _, _) :: _, [], h => by simp [MRel] at h
theorem MRel.get : ∀ {l : List (Value × SV × Nat)} {ms : List MapEntry}, MRel e l ms → ∀ {i : Nat} {k : Value} {s : SV} {b : Nat}, l[i]? = some (k, s, b) → ∃ m, ms[i]? = some m ∧ m.key = k ∧ m.born = b ∧ s.conc e = some m.val
  | [], [], _, i, k, s, b, hg => by simp at hg
  | (k', s', b') :: l, m :: ms, h, i, k, s, b, hg => by
    cases i with
    | zero =>
      simp only [List.getElem?_cons_zero, Option.some.injEq, Prod.mk.injEq] at hg
      obtain ⟨rfl, rfl, rfl⟩ := hg
      exact ⟨m, rfl, h.1, h.2.1, h.2.2.1⟩
    | succ i => simpa using MRel.get h.2.2.2 (i := i) (by simpa using hg)
  | [], _ :: _, h, _, _, _, _, _ => h.elim
  | (_, _, _) :: _, [], h, _, _, _, _, _ => by simp [MRel] at h

theorem findNow_dummy (d : TypeDesc) (k : Value) : ∀ (ms : List MapEntry) (i : Nat), Instr.findNow d k (ms.map fun m => { m with val := .nilFunc }) i = (Instr.findNow d k ms i).map (·.map fun x => (x.1, .nilFunc))
  | [], i => rfl
  | m :: ms, i => by
    simp only [List.map_cons, Instr.findNow]
    cases Instr.sameNow d k m.key with
    | none => rfl
    | some b => cases b <;> simp [findNow_dummy d k ms (i + 1)]

theorem pureRun_bind {A C : Type} (f : A → Sem C) (c : C) : ∀ (s : Sem A), pureRun P (s.bind f) = some c → ∃ a, pureRun P s = some a ∧ pureRun P (f a) = some c
  | .pure a, h => ⟨a, rfl, h⟩
  | .program k, h => pureRun_bind f c (k P) h
  | .mark m k, h => pureRun_bind f c k h
  | .choose q k, h => by
    simp only [Sem.bind, pureRun] at h ⊢
    cases hq : q.forced with
    | false => rw [hq] at h; cases h
    | true => rw [hq] at h; exact pureRun_bind f c (k 0) h
  | .load .., h => by simp [Sem.bind, pureRun] at h
  | .store .., h => by simp [Sem.bind, pureRun] at h
  | .new .., h => by simp [Sem.bind, pureRun] at h
  | .shape .., h => by simp [Sem.bind, pureRun] at h
  | .freeze .., h => by simp [Sem.bind, pureRun] at h
  | .frozen .., h => by simp [Sem.bind, pureRun] at h
  | .getObj .., h => by simp [Sem.bind, pureRun] at h
  | .setObj .., h => by simp [Sem.bind, pureRun] at h
  | .sys .., h => by simp [Sem.bind, pureRun] at h
  | .halt .., h => by simp [Sem.bind, pureRun] at h

theorem findAsking_dummy (kt : TypeId) (k : Value) (w : World) : ∀ (ms : List MapEntry) (i : Nat) (r : Option (Nat × Value)), pureRun P (Instr.findAsking kt k (ms.map fun m => { m with val := .nilFunc }) i) = some r →
    ∃ r', (Instr.findAsking kt k ms i).run P w = .ok r' w ∧ r = r'.map fun x => (x.1, .nilFunc)
  | [], i, r, h => by
    simp only [List.map_nil, Instr.findAsking] at h
    have : r = none := by
      change some none = some r at h
      simpa using h.symm
    subst this
    exact ⟨none, rfl, rfl⟩
  | m :: ms, i, r, h => by
    simp only [List.map_cons, Instr.findAsking] at h
    obtain ⟨b, h1, h2⟩ := pureRun_bind _ _ _ h
    have hr := pureRun_run _ _ h1 w
    simp only [Instr.findAsking, Sem.run_bind, hr, Result.andThen]
    cases b with
    | true =>
      simp only [if_true] at h2 ⊢
      have : r = some (i, .nilFunc) := by
        change some _ = some r at h2
        simpa using h2.symm
      subst this
      exact ⟨some (i, m.val), rfl, rfl⟩
    | false =>
      simp only [Bool.false_eq_true, if_false] at h2 ⊢
      exact findAsking_dummy kt k w ms (i + 1) r h2

theorem findKey_dummy (kt : TypeId) (k : Value) (w : World) (ms : List MapEntry) (r : Option (Nat × Value)) (h : pureRun P (Instr.findKey kt k (ms.map fun m => { m with val := .nilFunc })) = some r) :
    ∃ r', (Instr.findKey kt k ms).run P w = .ok r' w ∧ r = r'.map fun x => (x.1, .nilFunc) := by
  unfold Instr.findKey at h ⊢
  obtain ⟨d, h1, h2⟩ := pureRun_bind _ _ _ h
  have hr := pureRun_run _ _ h1 w
  simp only [Sem.run_bind, hr, Result.andThen]
  rw [findNow_dummy] at h2
  cases hf : Instr.findNow d k ms 0 with
  | none =>
    rw [hf] at h2
    exact findAsking_dummy kt k w ms 0 r h2
  | some q =>
    rw [hf] at h2
    refine ⟨q, rfl, ?_⟩
    change some _ = some r at h2
    simpa using h2.symm

theorem findNow_get (d : TypeDesc) (k : Value) : ∀ (ms : List MapEntry) (i j : Nat) (v : Value), Instr.findNow d k ms i = some (some (j, v)) → i ≤ j ∧ ∃ m, ms[j - i]? = some m ∧ m.val = v
  | [], i, j, v, h => by simp [Instr.findNow] at h
  | m :: ms, i, j, v, h => by
    simp only [Instr.findNow] at h
    cases hs : Instr.sameNow d k m.key with
    | none => rw [hs] at h; cases h
    | some b =>
      rw [hs] at h
      cases b with
      | true =>
        simp only [Option.some.injEq, Prod.mk.injEq] at h
        obtain ⟨rfl, rfl⟩ := h
        exact ⟨Nat.le_refl _, m, by simp, rfl⟩
      | false =>
        obtain ⟨h1, n, h2, h3⟩ := findNow_get d k ms (i + 1) j v h
        exact ⟨by omega, n, by rw [show j - i = (j - (i + 1)) + 1 by omega]; simpa using h2, h3⟩

theorem findAsking_get (kt : TypeId) (k : Value) (w : World) : ∀ (ms : List MapEntry) (i : Nat) (r : Option (Nat × Value)), pureRun P (Instr.findAsking kt k (ms.map fun m => { m with val := .nilFunc }) i) = some r → ∀ j v, (Instr.findAsking kt k ms i).run P w = .ok (some (j, v)) w → i ≤ j ∧ ∃ m, ms[j - i]? = some m ∧ m.val = v
  | [], i, r, _, j, v, h => by simp [Instr.findAsking] at h
  | m :: ms, i, r, hp, j, v, h => by
    simp only [List.map_cons, Instr.findAsking] at hp
    obtain ⟨b, h1, h2⟩ := pureRun_bind _ _ _ hp
    have hr := pureRun_run _ _ h1 w
    simp only [Instr.findAsking, Sem.run_bind, hr, Result.andThen] at h
    cases b with
    | true =>
      simp only [if_true, Sem.run_pure, Result.ok.injEq, Option.some.injEq, Prod.mk.injEq, and_true] at h
      obtain ⟨rfl, rfl⟩ := h
      exact ⟨Nat.le_refl _, m, by simp, rfl⟩
    | false =>
      simp only [Bool.false_eq_true, if_false] at h2 h
      obtain ⟨g1, n, g2, g3⟩ := findAsking_get kt k w ms (i + 1) r h2 j v h
      exact ⟨by omega, n, by rw [show j - i = (j - (i + 1)) + 1 by omega]; simpa using g2, g3⟩

/-- What findK says. -/
theorem findK_ok {kt : TypeId} {k : Value} {l : List (Value × SV × Nat)} {ms : List MapEntry} {r : Option Nat} (h : findK P kt k l = some r) (hm : MRel e l ms) (w : World) :
    (∀ b, b = ms.isEmpty → (Instr.checkKey b 10000 kt k).run P w = .ok () w) ∧ ∃ r', (Instr.findKey kt k ms).run P w = .ok r' w ∧ r = r'.map (·.1) ∧ ∀ j v, r' = some (j, v) → ∃ m, ms[j]? = some m ∧ m.val = v := by
  unfold findK at h
  have hlen := hm.length
  have hemp : l.isEmpty = ms.isEmpty := by
    cases l <;> cases ms <;> simp at hlen ⊢
  rw [hemp] at h
  cases hc : pureRun P (Instr.checkKey ms.isEmpty 10000 kt k) with
  | none => rw [hc] at h; cases h
  | some u =>
    rw [hc] at h
    simp only at h
    rw [hm.dummies] at h
    cases hf : pureRun P (Instr.findKey kt k (ms.map fun m => { m with val := .nilFunc })) with
    | none => rw [hf] at h; cases h
    | some q =>
      rw [hf] at h
      refine ⟨fun b hb => by subst hb; exact pureRun_run _ _ hc w, ?_⟩
      obtain ⟨r', h1, h2⟩ := findKey_dummy kt k w ms q hf
      refine ⟨r', h1, ?_, ?_⟩
      · subst h2
        cases r' with
        | none => simpa using h.symm
        | some x => simpa using h.symm
      · rintro j v rfl
        unfold Instr.findKey at hf h1
        obtain ⟨d, g1, g2⟩ := pureRun_bind _ _ _ hf
        have hr := pureRun_run _ _ g1 w
        simp only [Sem.run_bind, hr, Result.andThen] at h1
        rw [findNow_dummy] at g2
        cases hn : Instr.findNow d k ms 0 with
        | none =>
          rw [hn] at g2 h1
          obtain ⟨_, m, a, b⟩ := findAsking_get kt k w ms 0 q g2 j v h1
          exact ⟨m, by simpa using a, b⟩
        | some p =>
          rw [hn] at h1
          simp only [Sem.run_pure, Result.ok.injEq, and_true] at h1
          subst h1
          obtain ⟨_, m, a, b⟩ := findNow_get d k ms 0 j v hn
          exact ⟨m, by simpa using a, b⟩
end
end Go.Ex
