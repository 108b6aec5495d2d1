/-
  The machine of names: operations that only read do in the model's world what they do here. Over any program.
-/
import Derived.Test.YtbmekelkddllkaaExA
import Derived.Laws.Tables
import Derived.Laws.BytesString
namespace Go.Ex
open Go Go.Sl Go.RowKit

section
variable {P : Program} {w : World} {e : Env}

theorem lt_of_blt {i n : Nat} (h : Nat.blt i n = true) : i < n := Nat.le_of_ble_eq_true h
theorem le_of_ble {i n : Nat} (h : Nat.ble i n = true) : i ≤ n := Nat.le_of_ble_eq_true h
theorem eq_of_beq {i n : Nat} (h : Nat.beq i n = true) : i = n := Nat.eq_of_beq_eq_true h

/-! ### a block's cells -/
theorem ORel.cell {vo : VO} {x : Ent} {o : Obj} {i : Nat} {s : SV} (h : ORel e vo x o) (hc : vo.cell i = some s) (hw : w.heap[x.blk]? = some o) :
    ∃ v, s.conc e = some v ∧ w.cell? ⟨x.blk, x.base + i, none⟩ = some v ∧ w.frozen? ⟨x.blk, x.base + i, none⟩ = false := by
  cases vo with
  | cells n t c =>
    obtain ⟨h0, cs, fz, rfl, h2, h3, h4⟩ := h
    simp only [VO.cell] at hc
    cases hb : Nat.blt i n with
    | false => rw [hb] at hc; cases hc
    | true =>
      rw [hb] at hc
      simp only [cond_true] at hc
      have hi : i < n := lt_of_blt hb
      obtain ⟨v, hv, hg⟩ := h4 i hi s hc
      refine ⟨v, hv, ?_, ?_⟩
      · simp only [World.cell?, hw, h0, Nat.zero_add]; simpa using hg
      · simp only [World.frozen?, hw, h0, Nat.zero_add]; exact h3 i hi
  | row ne sz t c =>
    obtain ⟨cs, fz, rfl, h2, h3, h4, h5, h6, h7⟩ := h
    simp only [VO.cell] at hc
    cases hb : Nat.blt i (ne * sz) with
    | false => rw [hb] at hc; cases hc
    | true =>
      rw [hb] at hc
      simp only [cond_true] at hc
      have hi : i < ne * sz := lt_of_blt hb
      obtain ⟨v, hv, hg⟩ := h7 i hi s hc
      refine ⟨v, hv, ?_, ?_⟩
      · simp only [World.cell?, hw]; simpa using hg
      · simp only [World.frozen?, hw]
        exact h5 _ (Array.getElem?_eq_some_iff.1 hg).1
  | _ => simp [VO.cell] at hc

theorem ORel.cellsFrom {vo : VO} {x : Ent} {o : Obj} (h : ORel e vo x o) (hw : w.heap[x.blk]? = some o) : ∀ (n i : Nat) (l : List SV), vo.cellsFrom i n = some l →
    ∃ vs, SV.concL e l = some vs ∧ vs.length = n ∧ ∀ j v, vs[j]? = some v → w.cell? ⟨x.blk, x.base + i + j, none⟩ = some v
  | 0, i, l, hc => by
    simp only [VO.cellsFrom, Option.some.injEq] at hc
    subst hc
    exact ⟨[], rfl, rfl, by simp⟩
  | n + 1, i, l, hc => by
    simp only [VO.cellsFrom] at hc
    cases h1 : vo.cell i with
    | none => rw [h1] at hc; cases hc
    | some s =>
      rw [h1] at hc
      simp only at hc
      cases h2 : vo.cellsFrom (i + 1) n with
      | none => rw [h2] at hc; cases hc
      | some m =>
        rw [h2] at hc
        simp only [Option.some.injEq] at hc
        subst hc
        obtain ⟨v, hv, hcell, _⟩ := h.cell h1 hw
        obtain ⟨vs, hvs, hl, hj⟩ := ORel.cellsFrom h hw n (i + 1) m h2
        refine ⟨v :: vs, concL_cons_mk hv hvs, by simp [hl], fun j u hu => ?_⟩
        cases j with
        | zero => simp only [List.getElem?_cons_zero, Option.some.injEq] at hu; subst hu; simpa using hcell
        | succ j =>
          have := hj j u (by simpa using hu)
          rw [show x.base + i + (j + 1) = x.base + (i + 1) + j by omega]
          exact this

theorem addr_add (b o j : Nat) : (⟨b, o, none⟩ : Addr).add j = ⟨b, o + j, none⟩ := by
  unfold Addr.add
  by_cases h : j = 0
  · subst h; simp
  · simp [h]

/-! ### types -/
theorem run_sizeT {t : TypeId} {n : Nat} (h : sizeT P t = some n) (w : World) : (sizeOf t).run P w = .ok n w := run_sizeOf_agg h w
theorem run_zeroT {t : TypeId} {z : Value} (h : zeroT P t = some z) (w : World) : (zeroValue t).run P w = .ok z w := run_zero h w
theorem run_isAggS {t : TypeId} {r : Option Nat} (h : aggSize P t = some r) (w : World) : (isAgg t).run P w = .ok r.isSome w := by
  unfold aggSize at h
  cases hu : P.underlying t with
  | none => rw [hu] at h; cases h
  | some d =>
    rw [hu] at h
    cases d <;> simp at h <;> first
      | (subst h; simp [isAgg, run_underlying hu]; done)
      | (obtain ⟨a, _, rfl⟩ := h; simp [isAgg, run_underlying hu])
theorem aggSize_size {t : TypeId} {n : Nat} (h : aggSize P t = some (some n)) : sizeT P t = some n := by
  unfold aggSize at h
  unfold sizeT
  cases hu : P.underlying t with
  | none => rw [hu] at h; cases h
  | some d =>
    rw [hu] at h
    cases d <;> simp at h <;> (obtain ⟨a, h1, h2⟩ := h; simp [h1, h2])

theorem run_load_S {t : TypeId} {vo : VO} {x : Ent} {o : Obj} {off : Nat} {s : SV} (h : ORel e vo x o) (hw : w.heap[x.blk]? = some o)
    (hl : (match aggSize P t with | some none => vo.cell off | some (some n) => (vo.cellsFrom off n).map .agg | none => none) = some s) :
    ∃ v, s.conc e = some v ∧ (loadVar t ⟨x.blk, x.base + off, none⟩).run P w = .ok v w := by
  cases ha : aggSize P t with
  | none => rw [ha] at hl; cases hl
  | some r =>
    rw [ha] at hl
    cases r with
    | none =>
      obtain ⟨v, hv, hc, _⟩ := h.cell hl hw
      exact ⟨v, hv, by simp [loadVar, run_isAggS ha, hc]⟩
    | some n =>
      simp only [Option.map_eq_some_iff] at hl
      obtain ⟨l, hl, rfl⟩ := hl
      obtain ⟨vs, hvs, hlen, hj⟩ := h.cellsFrom hw n off l hl
      refine ⟨.agg vs.toArray, by simp [SV.conc, hvs], ?_⟩
      have := run_loadCells_list (P := P) (w := w) ⟨x.blk, x.base + off, none⟩ vs (fun j v hv => by rw [addr_add]; exact hj j v hv)
      rw [hlen] at this
      simp [loadVar, run_isAggS ha, run_sizeT (aggSize_size ha), this]

/-! ### operands -/
/-- What operands are. -/
def EvRel (e : Env) (T : Tr SV) (ev : Operand → Value) : Prop := ∀ x s, evalS T x = some s → s.conc e = some (ev x)

theorem TRel.ev {nt : Nat} {T : Tr SV} {fr : Frame} (h : TRel e nt T fr.tmps) : EvRel e T fr.eval := by
  intro x s hs
  cases x with
  | tmp t =>
    obtain ⟨v, hv, hg⟩ := h.2 t s hs
    rw [hv]
    simp [Frame.eval, ← hg]
  | const v => simp only [evalS, Option.some.injEq] at hs; subst hs; rfl
  | global g => simp only [evalS, Option.some.injEq] at hs; subst hs; rfl
  | func f => simp only [evalS, Option.some.injEq] at hs; subst hs; rfl

variable {T : Tr SV} {ev : Operand → Value}

theorem EvRel.list (hE : EvRel e T ev) : ∀ (l : List Operand) (ss : List SV), evalL T l = some ss → SV.concL e ss = some (l.map ev)
  | [], ss, h => by simp only [evalL, Option.some.injEq] at h; subst h; rfl
  | x :: l, ss, h => by
    simp only [evalL] at h
    cases hx : evalS T x with
    | none => rw [hx] at h; cases h
    | some s =>
      rw [hx] at h
      simp only at h
      cases hl : evalL T l with
      | none => rw [hl] at h; cases h
      | some r =>
        rw [hl] at h
        simp only [Option.some.injEq] at h
        subst h
        exact concL_cons_mk (hE x s hx) (EvRel.list hE l r hl)

/-- Parts with their places. -/
def PRel (e : Env) : List (Nat × SV) → List (Nat × Value) → Prop
  | [], [] => True
  | (i, s) :: l, (j, v) :: m => i = j ∧ s.conc e = some v ∧ PRel e l m
  | _, _ => False

theorem EvRel.parts (hE : EvRel e T ev) : ∀ (l : List (Nat × Operand)) (ss : List (Nat × SV)), evalP T l = some ss → PRel e ss (l.map fun x => (x.1, ev x.2))
  | [], ss, h => by simp only [evalP, Option.some.injEq] at h; subst h; trivial
  | (i, x) :: l, ss, h => by
    simp only [evalP] at h
    cases hx : evalS T x with
    | none => rw [hx] at h; cases h
    | some s =>
      rw [hx] at h
      simp only at h
      cases hl : evalP T l with
      | none => rw [hl] at h; cases h
      | some r =>
        rw [hl] at h
        simp only [Option.some.injEq] at h
        subst h
        exact ⟨rfl, hE x s hx, EvRel.parts hE l r hl⟩

theorem EvRel.nat (hE : EvRel e T ev) {x : Operand} {n : Nat} (h : natS T x = some n) : ∃ k, ev x = .int k (n : Int) := by
  unfold natS at h
  cases hx : evalS T x with
  | none => rw [hx] at h; cases h
  | some s =>
    have hv := hE x s hx
    rw [hx] at h
    cases s with
    | sc v =>
      cases v with
      | int k i =>
        cases i with
        | ofNat m =>
          simp only [Option.some.injEq] at h
          subst h
          simp only [SV.conc, Option.some.injEq] at hv
          exact ⟨k, hv.symm⟩
        | negSucc m => simp at h
      | _ => simp at h
    | _ => simp at h

theorem EvRel.lit (hE : EvRel e T ev) {x : Operand} {v : Value} (h : litS T x = some v) : ev x = v := by
  unfold litS at h
  cases hx : evalS T x with
  | none => rw [hx] at h; cases h
  | some s =>
    rw [hx] at h
    have h1 := SV.lit_conc e s v h
    rw [hE x s hx] at h1
    simpa using h1

/-! ### filling -/
theorem take_mid {A B : List Value} {v : Value} {k : Nat} (h : A.length = k) : (A ++ v :: B).take (k + 1) = A ++ [v] := by
  subst h
  rw [List.take_append, List.take_of_length_le (by omega)]
  simp
theorem drop_mid {A B : List Value} {v : Value} {k n : Nat} (h : A.length = k) : (A ++ v :: B).drop (k + 1 + n) = B.drop n := by
  subst h
  rw [List.drop_append, List.drop_of_length_le (by omega), show A.length + 1 + n - A.length = n + 1 by omega]
  simp

theorem fill_fold : ∀ (l : List Value) (off j : Nat) (cs : Array Value), off + j + l.length ≤ cs.size →
    ((l.zipIdx j).foldl (fun cs x => cs.setIfInBounds (off + x.2) x.1) cs).toList = cs.toList.take (off + j) ++ l ++ cs.toList.drop (off + j + l.length)
  | [], off, j, cs, _ => by simp
  | v :: l, off, j, cs, h => by
    simp only [List.length_cons] at h
    simp only [List.zipIdx_cons, List.foldl_cons]
    have ih := fill_fold l off (j + 1) (cs.setIfInBounds (off + j) v) (by simp; omega)
    rw [ih]
    have hlt : off + j < cs.toList.length := by simp; omega
    have hk : (cs.toList.take (off + j)).length = off + j := by simp; omega
    simp only [Array.toList_setIfInBounds, List.length_cons]
    rw [List.set_eq_take_append_cons_drop, if_pos hlt]
    rw [show off + (j + 1) = off + j + 1 by omega, take_mid hk, drop_mid hk, List.drop_drop]
    simp only [List.append_assoc, List.cons_append, List.nil_append]
    congr 4
    omega

theorem fill_S {place : Nat → Option (Nat × Nat)} : ∀ (ps : List (Nat × SV)) (qs : List (Nat × Value)) (cells cells' : List SV) (vs : List Value), fillS place cells ps = some cells' → PRel e ps qs → SV.concL e cells = some vs →
    ∃ vs', Instr.fill place vs.toArray qs = some vs'.toArray ∧ SV.concL e cells' = some vs'
  | [], [], cells, cells', vs, h, _, hc => by
    simp only [fillS, Option.some.injEq] at h
    subst h
    exact ⟨vs, rfl, hc⟩
  | [], _ :: _, _, _, _, _, hp, _ => hp.elim
  | (_, _) :: _, [], _, _, _, _, hp, _ => hp.elim
  | (i, s) :: ps, (j, v) :: qs, cells, cells', vs, h, hp, hc => by
    obtain ⟨rfl, hs, hp⟩ := hp
    simp only [fillS] at h
    cases hpl : place i with
    | none => rw [hpl] at h; cases h
    | some x =>
      obtain ⟨off, size⟩ := x
      rw [hpl] at h
      simp only at h
      have hcs := cells_conc hs
      have hl := concL_length hcs
      have hl2 := concL_length hc
      simp only [Array.length_toList] at hl
      cases hb : (Nat.beq s.cells.length size && Nat.ble (off + size) cells.length) with
      | false => rw [hb] at h; cases h
      | true =>
        rw [hb] at h
        simp only [cond_true] at h
        rw [Bool.and_eq_true] at hb
        have h1 := eq_of_beq hb.1
        have h2 := le_of_ble hb.2
        have hnew : SV.concL e (cells.take off ++ s.cells ++ cells.drop (off + size)) = some (vs.take off ++ v.cells.toList ++ vs.drop (off + size)) := concL_append (concL_append (concL_take off hc) hcs) (concL_drop (off + size) hc)
        obtain ⟨vs', g1, g2⟩ := fill_S ps qs _ cells' _ h hp hnew
        refine ⟨vs', ?_, g2⟩
        simp only [Instr.fill, hpl]
        rw [if_neg (by simp; omega)]
        rw [← g1]
        congr 1
        apply Array.ext'
        rw [← Array.foldl_toList, Array.toList_zipIdx]
        have := fill_fold v.cells.toList off 0 vs.toArray (by simp; omega)
        simp only [Nat.add_zero] at this
        rw [this]
        simp only [Array.length_toList, hl, h1]
end
end Go.Ex
