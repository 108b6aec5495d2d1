/-
  The machine of names: operations that turn memory, or call. Over any program.
-/
import Derived.Test.YtbmekelkddllkaaExF
import Derived.Laws.IdiomStrings
namespace Go.Ex
open Go Go.Sl Go.RowKit

section
variable {P : Program} {B : Nat} {w0 w : World} {e : Env} {H : Heap} {nx : Nat} {T : Tr SV} {ev : Operand → Value}

/-- As 'Does', of a tree that hands back a value. -/
def DoesV (P : Program) (B : Nat) (w0 : World) (e : Env) (out : Out) (s : Sem Value) (w : World) : Prop :=
  ∃ e' w' r v, out.1 = .val r ∧ e.le e' ∧ St B w0 e' out.2.1 out.2.2 w' ∧ r.conc e' = some v ∧ s.run P w = .ok v w'
/-- As 'Does', of a tree that hands back nothing. -/
def DoesU (P : Program) (B : Nat) (w0 : World) (e : Env) (out : Out) (s : Sem Unit) (w : World) : Prop :=
  ∃ e' w', out.1 = .skip ∧ e.le e' ∧ St B w0 e' out.2.1 out.2.2 w' ∧ s.run P w = .ok () w'

/-! ### maps -/
theorem turned_setObj (k : Nat) (o : Obj) : Turned w { w with heap := w.heap.setIfInBounds k o } k :=
  ⟨rfl, rfl, rfl, by simp, fun j _ hj => by simp [Array.getElem?_setIfInBounds_ne (Ne.symm hj)]⟩
theorem set_heap_same {k : Nat} {o o' : Obj} (h : w.heap[k]? = some o) : (w.heap.setIfInBounds k o')[k]? = some o' := by
  have := lt_of_heap h
  simp [this]

theorem MRel.append : ∀ {l : List (Value × SV × Nat)} {ms : List MapEntry}, MRel e l ms → ∀ {k : Value} {s : SV} {b : Nat} {v : Value}, s.conc e = some v → MRel e (l ++ [(k, s, b)]) (ms ++ [{ key := k, val := v, born := b }])
  | [], [], _, k, s, b, v, hs => ⟨rfl, rfl, hs, trivial⟩
  | (_, _, _) :: l, m :: ms, h, k, s, b, v, hs => ⟨h.1, h.2.1, h.2.2.1, MRel.append h.2.2.2 hs⟩
  | [], _ :: _, h, _, _, _, _, _ => h.elim
  | (_, _, _) :: _, [], h, _, _, _, _, _ => by simp [MRel] at h
theorem MRel.set : ∀ {l : List (Value × SV × Nat)} {ms : List MapEntry}, MRel e l ms → ∀ (i : Nat) {k k' : Value} {s s' : SV} {b : Nat} {v : Value}, l[i]? = some (k', s', b) → s.conc e = some v → MRel e (l.set i (k, s, b)) (ms.modify i fun m => { m with key := k, val := v })
  | [], [], _, i, k, k', s, s', b, v, hg, hs => by simp at hg
  | (_, _, _) :: l, m :: ms, h, 0, k, k', s, s', b, v, hg, hs => by
    simp only [List.getElem?_cons_zero, Option.some.injEq, Prod.mk.injEq] at hg
    obtain ⟨rfl, rfl, rfl⟩ := hg
    exact ⟨rfl, h.2.1, hs, h.2.2.2⟩
  | (_, _, _) :: l, m :: ms, h, i + 1, k, k', s, s', b, v, hg, hs => ⟨h.1, h.2.1, h.2.2.1, MRel.set h.2.2.2 i (by simpa using hg) hs⟩
  | [], _ :: _, h, _, _, _, _, _, _, _, _, _ => h.elim
  | (_, _, _) :: _, [], h, _, _, _, _, _, _, _, _, _ => by simp [MRel] at h
theorem MRel.erase : ∀ {l : List (Value × SV × Nat)} {ms : List MapEntry}, MRel e l ms → ∀ (i : Nat), MRel e (l.eraseIdx i) (ms.eraseIdx i)
  | [], [], _, i => by simp [MRel]
  | (_, _, _) :: l, m :: ms, h, 0 => h.2.2.2
  | (_, _, _) :: l, m :: ms, h, i + 1 => ⟨h.1, h.2.1, h.2.2.1, MRel.erase h.2.2.2 i⟩
  | [], _ :: _, h, _ => h.elim
  | (_, _, _) :: _, [], h, _ => by simp [MRel] at h

theorem mapUpS_ok {t : TypeId} {k : Value} {s m : SV} {v vm : Value} {out : Out} (hS : St B w0 e H nx w) (h : mapUpS P H nx t k s m = some out) (hs : s.conc e = some v) (hm : m.conc e = some vm) : DoesU P B w0 e out (Instr.mapUpdate t vm k v) w := by
  cases m with
  | mp b =>
    obtain ⟨x, hx, rfl⟩ := conc_mp hm
    simp only [mapUpS] at h
    cases hu : P.underlying t with
    | none => rw [hu] at h; cases h
    | some d =>
      rw [hu] at h
      cases d with
      | map kt el =>
        simp only at h
        cases hb : H.at' b with
        | none => rw [hb] at h; cases h
        | some vo =>
          rw [hb] at h
          cases vo with
          | map l clock =>
            simp only at h
            cases hp : putK P kt k s l clock with
            | none => rw [hp] at h; cases h
            | some q =>
              obtain ⟨l', clock'⟩ := q
              rw [hp] at h
              simp only [Option.some.injEq] at h
              subst h
              obtain ⟨o, _, hw, ho⟩ := hS.at hb hx
              obtain ⟨es, rfl, hmr⟩ := ho
              have hg := Go.MapKept.run_getObj_map (P := P) hw
              unfold putK at hp
              cases hc : pureRun P (Instr.checkKey false 10000 kt k) with
              | none => rw [hc] at hp; cases hp
              | some u =>
                rw [hc] at hp
                have hc' := pureRun_run _ _ hc w
                simp only at hp
                cases hf : findK P kt k l with
                | none => rw [hf] at hp; cases hp
                | some q =>
                  obtain ⟨_, r', hr, hq, hget⟩ := findK_ok hf hmr w
                  rw [hf] at hp
                  cases q with
                  | none =>
                    simp only [Option.some.injEq, Prod.mk.injEq] at hp
                    obtain ⟨rfl, rfl⟩ := hp
                    have : r' = none := by cases r' with | none => rfl | some x => simp at hq
                    subst this
                    refine ⟨e, _, rfl, Env.le_refl e, hS.upd (o' := .map (es.push { key := k, val := v, born := clock }) (clock + 1)) hb hx (turned_setObj x.blk _) (set_heap_same hw) ⟨_, rfl, by simpa using hmr.append hs⟩, ?_⟩
                    simp [Instr.mapUpdate, run_underlying hu, hg, hc', hr, Go.MapKept.run_setObj_map _ hw]
                  | some i =>
                    simp only at hp
                    cases r' with
                    | none => simp at hq
                    | some jv =>
                      obtain ⟨j, u'⟩ := jv
                      simp only [Option.map_some, Option.some.injEq] at hq
                      subst hq
                      cases hl : l[i]? with
                      | none => rw [hl] at hp; cases hp
                      | some y =>
                        obtain ⟨k', s', b'⟩ := y
                        rw [hl] at hp
                        simp only at hp
                        cases hsb : Instr.sameBits 10000 k' k with
                        | false => rw [hsb] at hp; cases hp
                        | true =>
                          rw [hsb] at hp
                          simp only [cond_true, Option.some.injEq, Prod.mk.injEq] at hp
                          obtain ⟨rfl, rfl⟩ := hp
                          obtain ⟨m, g1, g2, _, _⟩ := hmr.get hl
                          have g1' : es[i]? = some m := by simpa using g1
                          refine ⟨e, _, rfl, Env.le_refl e, hS.upd (o' := .map (es.modify i fun e => { e with key := k, val := v }) clock) hb hx (turned_setObj x.blk _) (set_heap_same hw) ⟨_, rfl, by rw [Array.toList_modify]; exact hmr.set i hl hs⟩, ?_⟩
                          simp [Instr.mapUpdate, run_underlying hu, hg, hc', hr, g1', g2, Instr.keyThatStays, hsb, Go.MapKept.run_setObj_map _ hw]
          | _ => cases h
      | _ => cases h
  | _ => simp [mapUpS] at h

theorem mapDelS_ok {t ty : TypeId} {ts : Array TypeId} {k : Value} {m : SV} {vm : Value} {out : Out} (hts : ts[0]? = some t) (hS : St B w0 e H nx w) (h : mapDelS P H nx t k m = some out) (hm : m.conc e = some vm) : DoesV P B w0 e out (Builtin.delete_ ts ty #[vm, k]) w := by
  cases m with
  | mp b =>
    obtain ⟨x, hx, rfl⟩ := conc_mp hm
    simp only [mapDelS] at h
    cases hu : P.underlying t with
    | none => rw [hu] at h; cases h
    | some d =>
      rw [hu] at h
      cases d with
      | map kt el =>
        simp only at h
        cases hb : H.at' b with
        | none => rw [hb] at h; cases h
        | some vo =>
          rw [hb] at h
          cases vo with
          | map l clock =>
            simp only at h
            obtain ⟨o, _, hw, ho⟩ := hS.at hb hx
            obtain ⟨es, rfl, hmr⟩ := ho
            have hg := Go.MapKept.run_getObj_map (P := P) hw
            cases hf : findK P kt k l with
            | none => rw [hf] at h; cases h
            | some q =>
              obtain ⟨hc, r', hr, hq, hget⟩ := findK_ok hf hmr w
              have hc' := hc es.isEmpty (by simp)
              rw [hf] at h
              cases q with
              | none =>
                simp only [Option.some.injEq] at h
                subst h
                have : r' = none := by cases r' with | none => rfl | some x => simp at hq
                subst this
                refine ⟨e, _, _, .tuple #[], rfl, Env.le_refl e, hS.upd (o' := .map es clock) hb hx (turned_setObj x.blk _) (set_heap_same hw) ⟨es, rfl, hmr⟩, rfl, ?_⟩
                simp [Builtin.delete_, hts, run_underlying hu, hg, hc', hr, Go.MapKept.run_setObj_map _ hw]
              | some i =>
                simp only [Option.some.injEq] at h
                subst h
                cases r' with
                | none => simp at hq
                | some jv =>
                  obtain ⟨j, u'⟩ := jv
                  simp only [Option.map_some, Option.some.injEq] at hq
                  subst hq
                  have e1 : (es.eraseIdxIfInBounds i).toList = es.toList.eraseIdx i := by
                    unfold Array.eraseIdxIfInBounds
                    split
                    · simp
                    · rename_i hj; rw [List.eraseIdx_of_length_le (by simpa using hj)]
                  refine ⟨e, _, _, .tuple #[], rfl, Env.le_refl e, hS.upd (o' := .map (es.eraseIdxIfInBounds i) clock) hb hx (turned_setObj x.blk _) (set_heap_same hw) ⟨_, rfl, by rw [e1]; exact hmr.erase i⟩, rfl, ?_⟩
                  simp [Builtin.delete_, hts, run_underlying hu, hg, hc', hr, Go.MapKept.run_setObj_map _ hw]
          | _ => cases h
      | _ => cases h
  | _ => simp [mapDelS] at h

theorem zerosL_conc (z : Value) (n : Nat) : SV.concL e (zerosL z n) = some (Builtin.zeroCells z.cells n).toList := concL_sc _

theorem clearS_ok {t ty : TypeId} {ts : Array TypeId} {s : SV} {v : Value} {out : Out} (hts : ts[0]? = some t) (hS : St B w0 e H nx w) (h : clearS P H nx t s = some out) (hv : s.conc e = some v) : DoesV P B w0 e out (Builtin.clear_ ts ty #[v]) w := by
  have rows : ∀ (b o n c : Nat) (x : Ent) , e b = some x → v = .slice (some ⟨x.blk, x.base + o, none⟩) (n + 1) c → (match P.underlying t with
      | some (.slice el) => match zeroT P el with
        | some z => match storeS H b o (zerosL z (n + 1)) with
          | some H' => some ((.val (.sc (.tuple #[])), H', nx) : Out)
          | none => none
        | none => none
      | _ => none) = some out → DoesV P B w0 e out (Builtin.clear_ ts ty #[v]) w := by
    intro b o n c x hx hv h
    cases hu : P.underlying t with
    | none => rw [hu] at h; cases h
    | some d =>
      rw [hu] at h
      cases d with
      | slice el =>
        simp only at h
        cases hz : zeroT P el with
        | none => rw [hz] at h; cases h
        | some z =>
          rw [hz] at h
          simp only at h
          cases hst : storeS H b o (zerosL z (n + 1)) with
          | none => rw [hst] at h; cases h
          | some H' =>
            rw [hst] at h
            simp only [Option.some.injEq] at h
            subst h
            obtain ⟨w', k1, k2⟩ := storeS_ok (P := P) hS hst hx (zerosL_conc z (n + 1))
            refine ⟨e, w', _, .tuple #[], rfl, Env.le_refl e, k2, rfl, ?_⟩
            subst hv
            simp [Builtin.clear_, hts, run_underlying hu, run_zeroT hz, k1]
      | _ => cases h
  cases s with
  | sl b o n c =>
    obtain ⟨x, hx, hv'⟩ := conc_sl hv
    cases n with
    | zero => simp [clearS] at h
    | succ n => exact rows b o n c x hx hv' h
  | slu b o eo n =>
    obtain ⟨x, hx, hv'⟩ := conc_slu hv
    cases n with
    | zero => simp [clearS] at h
    | succ n => exact rows b o n _ x hx hv' h
  | mp b =>
    obtain ⟨x, hx, rfl⟩ := conc_mp hv
    simp only [clearS] at h
    cases hu : P.underlying t with
    | none => rw [hu] at h; cases h
    | some d =>
      rw [hu] at h
      cases d with
      | map kt el =>
        simp only at h
        cases hb : H.at' b with
        | none => rw [hb] at h; cases h
        | some vo =>
          rw [hb] at h
          cases vo with
          | map l clock =>
            simp only [Option.some.injEq] at h
            subst h
            obtain ⟨o, _, hw, ho⟩ := hS.at hb hx
            obtain ⟨es, rfl, hmr⟩ := ho
            have hg := Go.MapKept.run_getObj_map (P := P) hw
            refine ⟨e, _, _, .tuple #[], rfl, Env.le_refl e, hS.upd (o' := .map #[] clock) hb hx (turned_setObj x.blk _) (set_heap_same hw) ⟨_, rfl, trivial⟩, rfl, ?_⟩
            simp [Builtin.clear_, hts, run_underlying hu, hg, Go.MapKept.run_setObj_map _ hw]
          | _ => cases h
      | _ => cases h
  | _ => simp [clearS] at h

theorem copyS_ok {t ty : TypeId} {ts : Array TypeId} {d x : SV} {vd vx : Value} {out : Out} (hts : ts[0]? = some t) (hS : St B w0 e H nx w) (h : copyS P H nx t d x = some out) (hd : d.conc e = some vd) (hx : x.conc e = some vx) :
    DoesV P B w0 e out (Builtin.copy_ ts ty #[vd, vx]) w := by
  unfold copyS at h
  cases hu : P.underlying t with
  | none => rw [hu] at h; cases h
  | some dd =>
    rw [hu] at h
    cases dd with
    | slice el =>
      simp only at h
      cases hs : sizeT P el with
      | none => rw [hs] at h; cases h
      | some sz =>
        rw [hs] at h
        simp only at h
        cases hc : sliceCells H sz x with
        | none => rw [hc] at h; cases h
        | some q =>
          obtain ⟨m, l⟩ := q
          rw [hc] at h
          simp only at h
          obtain ⟨us, g1, g2, g3, g4⟩ := sliceCells_ok (P := P) hS hc hx
          have rows : ∀ (b o n c : Nat) (y : Ent) , e b = some y → vd = .slice (some ⟨y.blk, y.base + o, none⟩) n c → (match storeS H b o (l.take (min m n * sz)) with
              | some H' => some ((.val (.sc (.int .i64 (min m n : Nat))), H', nx) : Out)
              | none => none) = some out → DoesV P B w0 e out (Builtin.copy_ ts ty #[vd, vx]) w := by
            intro b o n c y hy hv h
            cases hst : storeS H b o (l.take (min m n * sz)) with
            | none => rw [hst] at h; cases h
            | some H' =>
              rw [hst] at h
              simp only [Option.some.injEq] at h
              subst h
              obtain ⟨w', k1, k2⟩ := storeS_ok (P := P) hS hst hy (concL_take _ g1)
              have g5 := g4 (min m n) (Nat.min_le_left _ _)
              refine ⟨e, w', _, .int .i64 (min m n : Nat), rfl, Env.le_refl e, k2, rfl, ?_⟩
              subst hv
              have hmin : Nat.min m n = min m n := rfl
              simp [Builtin.copy_, hts, run_underlying hu, g3, run_sizeT hs, hmin, g5, k1, goInt]
          cases d with
          | sl b o n c => obtain ⟨y, hy, hv⟩ := conc_sl hd; exact rows b o n c y hy hv h
          | slu b o eo n => obtain ⟨y, hy, hv⟩ := conc_slu hd; exact rows b o n _ y hy hv h
          | _ => cases h
    | _ => cases h

theorem emptyS_ok {t : TypeId} {lo hi : Option Operand} {s : SV} {v : Value} {out : Out} (hS : St B w0 e H nx w) (hE : EvRel e T ev) (h : emptyS P T H nx t lo hi s = some out) (hv : s.conc e = some v) :
    DoesV P B w0 e out (Instr.sliceAt t v (lo.map ev) (hi.map ev) none) w := by
  cases s with
  | slu b o eo len =>
    obtain ⟨x, hx, rfl⟩ := conc_slu hv
    simp only [emptyS] at h
    cases hu : P.underlying t with
    | none => rw [hu] at h; cases h
    | some d =>
      rw [hu] at h
      cases d with
      | slice el =>
        simp only at h
        cases hb : H.at' b with
        | none => rw [hb] at h; cases h
        | some vo =>
          rw [hb] at h
          cases vo with
          | row ne sz' t' c =>
            simp only at h
            cases hs : sizeT P el with
            | none => rw [hs] at h; cases h
            | some sz =>
            cases hl : natOr T 0 lo with
            | none => rw [hs, hl] at h; cases h
            | some l =>
            cases hh : natOr T len hi with
            | none => rw [hs, hl, hh] at h; cases h
            | some hb' =>
              rw [hs, hl, hh] at h
              simp only at h
              cases hq : (Nat.beq l hb' && Nat.beq (eo + l) ne && Nat.beq sz sz' && Nat.beq t' el && Nat.beq o (eo * sz)) with
              | false => rw [hq] at h; cases h
              | true =>
                rw [hq] at h
                simp only [cond_true, Option.some.injEq] at h
                subst h
                simp only [Bool.and_eq_true] at hq
                obtain ⟨⟨⟨⟨q1, q2⟩, q3⟩, q4⟩, q5⟩ := hq
                have q1 := eq_of_beq q1
                have q2 := eq_of_beq q2
                have q3 := eq_of_beq q3
                have q4 := eq_of_beq q4
                have q5 := eq_of_beq q5
                subst q1 q2 q3 q4 q5
                obtain ⟨ob, _, hw, ho⟩ := hS.at hb hx
                obtain ⟨cs, fz, rfl, hne, hcap, hmax, hfz, hp', hrd⟩ := ho
                have hbd := run_sliceBounds (P := P) (isS := true) (cap := x.cap - eo) (m := x.cap - eo) (mx := none) (hE.natOr hl) (hE.natOr hh) (.inl ⟨rfl, rfl⟩) (Nat.le_refl _) (by omega) (Nat.le_refl _) (.inr rfl) w
                have hf := hS.fresh nx (Nat.le_refl _)
                have hmul : x.cap * sz = eo * sz + (l * sz + (x.cap - eo - l) * sz) := by rw [← Nat.add_mul, ← Nat.add_mul]; congr 1; omega
                by_cases hml : x.cap - eo = l
                · refine ⟨e.put nx ⟨x.blk, x.base + eo * sz, 0⟩, w, .slu nx 0 0 0, .slice (some ⟨x.blk, x.base + eo * sz, none⟩) 0 0, rfl, Env.le_put hf, hS.move hb hx rfl (Turned.refl _ _) hw ?_, by simp [SV.conc, Env.put_same], ?_⟩
                  · exact ⟨cs, fz, rfl, Nat.zero_le _, by simp only; omega, Nat.zero_le _, hfz, hp', fun i hi => by simp at hi⟩
                  · simp only [Instr.sliceAt, Instr.slice, run_underlying hu, Sem.run_bind, Result.andThen, Sem.run_pure, hbd, run_sizeT hs]
                    rw [if_pos hml]
                    simp [hml]
                · refine ⟨e.put nx ⟨x.blk, x.base + eo * sz + l * sz, x.cap - eo - l⟩, w, .slu nx 0 0 0, .slice (some ⟨x.blk, x.base + eo * sz + l * sz, none⟩) 0 (x.cap - eo - l), rfl, Env.le_put hf, hS.move hb hx rfl (Turned.refl _ _) hw ?_, by simp [SV.conc, Env.put_same], ?_⟩
                  · exact ⟨cs, fz, rfl, Nat.zero_le _, by simp only; omega, by simp only; omega, hfz, hp', fun i hi => by simp at hi⟩
                  · simp only [Instr.sliceAt, Instr.slice, run_underlying hu, Sem.run_bind, Result.andThen, Sem.run_pure, hbd, run_sizeT hs]
                    rw [if_neg hml]
                    simp [addr_add]
          | _ => cases h
      | _ => cases h
  | _ => simp [emptyS] at h

theorem bytesOfS_ok {s t : TypeId} {x : SV} {v : Value} {out : Out} (hS : St B w0 e H nx w) (h : bytesOfS P H nx s t x = some out) (hv : x.conc e = some v) : DoesV P B w0 e out (Go.convert s t v) w := by
  unfold bytesOfS at h
  split at h
  · rename_i b
    simp only [SV.conc, Option.some.injEq] at hv
    subst hv
    cases hs : P.underlying s with
    | none => rw [hs] at h; cases h
    | some d =>
      rw [hs] at h
      cases d with
      | string =>
        simp only at h
        cases ht : P.underlying t with
        | none => rw [ht] at h; cases h
        | some d2 =>
          rw [ht] at h
          cases d2 with
          | slice el =>
            simp only at h
            cases he : P.underlying el with
            | none => rw [he] at h; cases h
            | some d3 =>
              rw [he] at h
              cases d3 with
              | int k =>
                cases k with
                | u8 =>
                  simp only at h
                  cases hby : bytesOk P el b.size with
                  | false => rw [hby] at h; cases h
                  | true =>
                    rw [hby] at h
                    simp only [cond_true, Option.some.injEq] at h
                    subst h
                    obtain ⟨i, _, _, hmx⟩ := bytesOk_ok hby
                    have hrun := run_bytes_of_string w s t el b hs ht he
                    have hge := grownCap_ge w b.size 0 el
                    have hle := grownCap_le_maxLen w b.size 0 el (by unfold maxLen; omega)
                    generalize grownCap w b.size 0 el = gc at hrun hge hle
                    have hf := hS.fresh nx (Nat.le_refl _)
                    have hsz : (bytesRow b gc).size = gc := by
                      have : b.data.size = b.size := rfl
                      simp [bytesRow]; omega
                    rw [hsz] at hrun
                    refine ⟨e.put nx ⟨w.heap.size, 0, gc⟩, _, .slu nx 0 0 b.size, .slice (some ⟨w.heap.size, 0, none⟩) b.size gc, rfl, Env.le_put hf, ?_, by simp [SV.conc, Env.put_same], hrun⟩
                    refine (hS.drew').new (x := ⟨w.heap.size, 0, gc⟩) (o := .cells (bytesRow b gc) el (gc, gc + 1)) rfl rfl rfl rfl rfl ?_
                    refine ⟨_, _, rfl, hge, by rw [hsz]; simp, hle, fun i hi => ?_, by omega, fun i hi s' hs' => ?_⟩
                    · rw [hsz] at hi
                      simp; omega
                    · rcases fillTr_at _ .nil 0 i s' hs' with ⟨_, h2, h3⟩ | ⟨_, h2⟩
                      · simp only [Nat.sub_zero, List.getElem?_map, Option.map_eq_some_iff] at h2
                        obtain ⟨a, ha, rfl⟩ := h2
                        refine ⟨_, rfl, ?_⟩
                        simp only [Nat.zero_add, bytesRow]
                        rw [Array.getElem?_append_left (by rw [Array.size_map]; have : b.data.size = b.size := rfl; omega)]
                        simp only [Array.getElem?_map, Option.map_eq_some_iff]
                        exact ⟨a, by simpa using ha, rfl⟩
                      · rw [Tr.at_nil] at h2; cases h2
                | _ => cases h
              | _ => cases h
          | _ => cases h
      | _ => cases h
  · cases h

theorem rangeS_ok {t : TypeId} {x : SV} {v : Value} {out : Out} (hS : St B w0 e H nx w) (h : rangeS P H nx t x = some out) (hv : x.conc e = some v) : DoesV P B w0 e out (Instr.range t v) w := by
  have hf := hS.fresh nx (Nat.le_refl _)
  have done : ∀ (vo : VO) (o : Obj), ORel (e.put nx ⟨w.heap.size, 0, 0⟩) vo ⟨w.heap.size, 0, 0⟩ o → out = (.val (.ptr nx 0), H.set nx vo, nx + 1) → (Instr.range t v).run P w = .ok (.pointer (some ⟨w.heap.size, 0, none⟩)) { w with heap := w.heap.push o } →
      DoesV P B w0 e out (Instr.range t v) w := by
    intro vo o ho hout hrun
    subst hout
    refine ⟨e.put nx ⟨w.heap.size, 0, 0⟩, _, .ptr nx 0, _, rfl, Env.le_put hf, ?_, by simp [SV.conc, Env.put_same], hrun⟩
    exact hS.new (o := o) rfl rfl rfl rfl rfl ho
  unfold rangeS at h
  split at h
  · rename_i s
    simp only [SV.conc, Option.some.injEq] at hv
    subst hv
    cases hu : P.underlying t with
    | none => rw [hu] at h; cases h
    | some d =>
      rw [hu] at h
      cases d with
      | string =>
        simp only [Option.some.injEq] at h
        exact done (.siter s 0) _ ⟨rfl, rfl⟩ h.symm (by simp [Instr.range, run_underlying hu])
      | _ => cases h
  · simp only [SV.conc, Option.some.injEq] at hv
    subst hv
    cases hu : P.underlying t with
    | none => rw [hu] at h; cases h
    | some d =>
      rw [hu] at h
      cases d with
      | map kt el =>
        simp only [Option.some.injEq] at h
        exact done (.iter none 0 [] 0) (.mapIter none 0 #[] 0) ⟨rfl, rfl⟩ h.symm (by simp [Instr.range, run_underlying hu])
      | _ => cases h
  · rename_i b
    obtain ⟨x, hx, rfl⟩ := conc_mp hv
    cases hu : P.underlying t with
    | none => rw [hu] at h; cases h
    | some d =>
      rw [hu] at h
      cases d with
      | map kt el =>
        simp only at h
        cases hb : H.at' b with
        | none => rw [hb] at h; cases h
        | some vo =>
          rw [hb] at h
          cases vo with
          | map l clock =>
            simp only [Option.some.injEq] at h
            obtain ⟨o, _, hw, ho⟩ := hS.at hb hx
            obtain ⟨es, rfl, hmr⟩ := ho
            have hg := Go.MapKept.run_getObj_map (P := P) hw
            exact done (.iter (some b) clock [] clock) (.mapIter (some x.blk) clock #[] clock) ⟨rfl, x, Env.le_put hf _ _ hx, rfl⟩ h.symm (by simp [Instr.range, run_underlying hu, hg])
          | _ => cases h
      | _ => cases h
  · cases h
end
end Go.Ex
