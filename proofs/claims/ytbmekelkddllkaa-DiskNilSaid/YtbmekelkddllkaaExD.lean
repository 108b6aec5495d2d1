/-
  The machine of names: operations that only read, together. Over any program.
-/
import Derived.Test.YtbmekelkddllkaaExC
namespace Go.Ex
open Go Go.Sl Go.RowKit

section
variable {P : Program} {B : Nat} {w0 w : World} {e : Env} {H : Heap} {nx : Nat} {T : Tr SV} {ev : Operand → Value}

theorem St.at (hS : St B w0 e H nx w) {b : Nat} {vo : VO} {x : Ent} (hb : H.at' b = some vo) (hx : e b = some x) : ∃ o, B ≤ x.blk ∧ w.heap[x.blk]? = some o ∧ ORel e vo x o := by
  obtain ⟨y, o, h1, h2, h3, h4⟩ := hS.rel b vo hb
  rw [hx] at h1
  simp only [Option.some.injEq] at h1
  subst h1
  exact ⟨o, h2, h3, h4⟩

theorem okPair {s z : SV} {v : Value} {b ok : Bool} (hs : s.conc e = some v) (hz : (bif ok then SV.tup [s, .sc (.bool b)] else s) = z) : z.conc e = some (if ok then .tuple #[v, .bool b] else v) := by
  subst hz
  cases ok with
  | true => simp [SV.conc, SV.concL, hs]
  | false => simpa using hs

theorem lookupS_ok {t : TypeId} {ok : Bool} {k : Value} {s r : SV} {v : Value} (hS : St B w0 e H nx w) (h : lookupS P H t ok k s = some r) (hv : s.conc e = some v) : ∃ u, r.conc e = some u ∧ (Instr.lookup t v k ok).run P w = .ok u w := by
  cases s with
  | mp b =>
    obtain ⟨x, hx, rfl⟩ := conc_mp hv
    simp only [lookupS] at h
    cases hu : P.underlying t with
    | none => rw [hu] at h; cases h
    | some d =>
      rw [hu] at h
      cases d with
      | map kt el =>
        simp only at h
        cases hb : H.at' b with
        | none => rw [hb] at h; cases h
        | some vo =>
          rw [hb] at h
          cases vo with
          | map l clock =>
            simp only at h
            obtain ⟨o, _, hw, ho⟩ := hS.at hb hx
            obtain ⟨es, rfl, hm⟩ := ho
            have hg := Go.MapKept.run_getObj_map (P := P) hw
            cases hf : findK P kt k l with
            | none => rw [hf] at h; cases h
            | some q =>
              obtain ⟨hc, r', hr, hq, hget⟩ := findK_ok hf hm w
              have hc' := hc es.isEmpty (by simp)
              rw [hf] at h
              cases q with
              | none =>
                simp only at h
                have : r' = none := by cases r' with | none => rfl | some x => simp at hq
                subst this
                cases hz : zeroT P el with
                | none => rw [hz] at h; cases h
                | some z =>
                  rw [hz] at h
                  simp only [Option.some.injEq] at h
                  refine ⟨_, okPair (s := .sc z) rfl h, ?_⟩
                  simp [Instr.lookup, run_underlying hu, hg, hc', hr, run_zeroT hz]
              | some i =>
                simp only at h
                cases r' with
                | none => simp at hq
                | some jv =>
                  obtain ⟨j, u⟩ := jv
                  simp only [Option.map_some, Option.some.injEq] at hq
                  subst hq
                  cases hl : l[i]? with
                  | none => rw [hl] at h; cases h
                  | some y =>
                    obtain ⟨k', s', b'⟩ := y
                    rw [hl] at h
                    simp only [Option.some.injEq] at h
                    obtain ⟨m, g1, _, _, g4⟩ := hm.get hl
                    obtain ⟨m', g5, g6⟩ := hget i u rfl
                    rw [g1] at g5
                    simp only [Option.some.injEq] at g5
                    subst g5
                    rw [g6] at g4
                    refine ⟨_, okPair g4 h, ?_⟩
                    simp [Instr.lookup, run_underlying hu, hg, hc', hr]
          | _ => cases h
      | _ => cases h
  | sc c =>
    simp only [SV.conc, Option.some.injEq] at hv
    subst hv
    cases c with
    | map m =>
      cases m with
      | none =>
        simp only [lookupS] at h
        cases hu : P.underlying t with
        | none => rw [hu] at h; cases h
        | some d =>
          rw [hu] at h
          cases d with
          | map kt el =>
            simp only at h
            cases hf : findK P kt k [] with
            | none => rw [hf] at h; cases h
            | some q =>
              obtain ⟨hc, r', hr, hq, hget⟩ := findK_ok (e := e) (ms := []) hf trivial w
              have hc' := hc true rfl
              rw [hf] at h
              cases q with
              | some i => cases h
              | none =>
                simp only at h
                have : r' = none := by cases r' with | none => rfl | some x => simp at hq
                subst this
                cases hz : zeroT P el with
                | none => rw [hz] at h; cases h
                | some z =>
                  rw [hz] at h
                  simp only [Option.some.injEq] at h
                  refine ⟨_, okPair (s := .sc z) rfl h, ?_⟩
                  simp [Instr.lookup, run_underlying hu, hc', hr, run_zeroT hz]
          | _ => cases h
      | some m => simp [lookupS] at h
    | _ => simp [lookupS] at h
  | _ => simp [lookupS] at h

/-! ### slices of slices -/
/-- A bound: none, or a number. -/
def Bnd (d n : Nat) (x : Option Value) : Prop := (x = none ∧ n = d) ∨ ∃ k, x = some (.int k (n : Int))
theorem EvRel.natOr (hE : EvRel e T ev) {d n : Nat} {x : Option Operand} (h : natOr T d x = some n) : Bnd d n (x.map ev) := by
  cases x with
  | none => simp only [Ex.natOr, Option.some.injEq] at h; exact .inl ⟨rfl, h.symm⟩
  | some x =>
    obtain ⟨k, hk⟩ := hE.nat h
    exact .inr ⟨k, by simp [hk]⟩

theorem run_sliceBound {k : IntKind} {n y : Nat} (h : n ≤ y) (c : BoundsCode) (w : World) : (Instr.sliceBound (.int k (n : Int)) y c).run P w = .ok n w := by
  simp only [Instr.sliceBound, asIntOf, Sem.run_bind, Sem.run_pure, Result.andThen]
  rw [if_pos (by omega)]
  simp

theorem run_sliceBounds {isS : Bool} {len cap l h m : Nat} {lo hi mx : Option Value} (hl : Bnd 0 l lo) (hh : Bnd len h hi) (hm : Bnd cap m mx) (h1 : l ≤ h) (h2 : h ≤ m) (h3 : m ≤ cap) (h4 : hi.isSome = true ∨ mx = none) (w : World) :
    (Instr.sliceBounds isS len cap lo hi mx).run P w = .ok (l, h, m) w := by
  rcases hm with ⟨rfl, rfl⟩ | ⟨km, rfl⟩
  · rcases hh with ⟨rfl, rfl⟩ | ⟨kh, rfl⟩ <;> rcases hl with ⟨rfl, rfl⟩ | ⟨kl, rfl⟩ <;> simp [Instr.sliceBounds, run_sliceBound, h1, h2, h3]
  · rcases hh with ⟨rfl, rfl⟩ | ⟨kh, rfl⟩
    · simp at h4
    · rcases hl with ⟨rfl, rfl⟩ | ⟨kl, rfl⟩ <;> simp [Instr.sliceBounds, run_sliceBound, h1, h2, h3]

theorem isSome_or {A C : Type} {hi : Option A} {mx : Option C} (h : (hi.isSome || mx.isNone) = true) {f : A → Value} {g : C → Value} : (hi.map f).isSome = true ∨ mx.map g = none := by
  rw [Bool.or_eq_true] at h
  rcases h with h | h
  · exact .inl (by simpa using h)
  · exact .inr (by cases mx <;> simp_all)

theorem sliceS_ok {t : TypeId} {lo hi mx : Option Operand} {s r : SV} {v : Value} (hS : St B w0 e H nx w) (hE : EvRel e T ev) (h : sliceS P T H t lo hi mx s = some r) (hv : s.conc e = some v) :
    ∃ u, r.conc e = some u ∧ (Instr.sliceAt t v (lo.map ev) (hi.map ev) (mx.map ev)).run P w = .ok u w := by
  cases s with
  | ptr b off =>
    obtain ⟨x, hx, rfl⟩ := conc_ptr hv
    simp only [sliceS] at h
    cases hu : P.underlying t with
    | none => rw [hu] at h; cases h
    | some d =>
      rw [hu] at h
      cases d with
      | array n el =>
        simp only at h
        cases hs : sizeT P el with
        | none => rw [hs] at h; cases h
        | some sz =>
        cases hl : natOr T 0 lo with
        | none => rw [hs, hl] at h; cases h
        | some l =>
        cases hh : natOr T n hi with
        | none => rw [hs, hl, hh] at h; cases h
        | some hb =>
        cases hm : natOr T n mx with
        | none => rw [hs, hl, hh, hm] at h; cases h
        | some m =>
          rw [hs, hl, hh, hm] at h
          simp only at h
          cases hc : (Nat.ble l hb && Nat.ble hb m && Nat.ble m n && (hi.isSome || mx.isNone)) with
          | false => rw [hc] at h; cases h
          | true =>
            rw [hc] at h
            simp only [cond_true, Option.some.injEq] at h
            subst h
            simp only [Bool.and_eq_true] at hc
            obtain ⟨⟨⟨c1, c2⟩, c3⟩, c4⟩ := hc
            have hbd := run_sliceBounds (P := P) (isS := false) (hE.natOr hl) (hE.natOr hh) (hE.natOr hm) (le_of_ble c1) (le_of_ble c2) (le_of_ble c3) (isSome_or c4) w
            refine ⟨.slice (some ⟨x.blk, x.base + (bif Nat.beq m l then off else off + l * sz), none⟩) (hb - l) (m - l), by simp [SV.conc, hx], ?_⟩
            simp only [Instr.sliceAt, run_underlying hu, Sem.run_bind, Result.andThen, Instr.sureAddr, Sem.run_pure, hbd, run_sizeT hs]
            by_cases hml : m = l
            · subst hml
              simp [show Nat.beq m m = true from Nat.beq_refl m]
            · rw [if_neg hml]
              have : Nat.beq m l = false := by
                cases hbq : Nat.beq m l with
                | false => rfl
                | true => exact absurd (eq_of_beq hbq) hml
              simp [this, addr_add, Nat.add_assoc]
      | _ => cases h
  | sl b off len cap =>
    obtain ⟨x, hx, rfl⟩ := conc_sl hv
    simp only [sliceS] at h
    cases hu : P.underlying t with
    | none => rw [hu] at h; cases h
    | some d =>
      rw [hu] at h
      cases d with
      | slice el =>
        simp only at h
        cases hs : sizeT P el with
        | none => rw [hs] at h; cases h
        | some sz =>
        cases hl : natOr T 0 lo with
        | none => rw [hs, hl] at h; cases h
        | some l =>
        cases hh : natOr T len hi with
        | none => rw [hs, hl, hh] at h; cases h
        | some hb =>
        cases hm : natOr T cap mx with
        | none => rw [hs, hl, hh, hm] at h; cases h
        | some m =>
          rw [hs, hl, hh, hm] at h
          simp only at h
          cases hc : (Nat.ble l hb && Nat.ble hb m && Nat.ble m cap && (hi.isSome || mx.isNone)) with
          | false => rw [hc] at h; cases h
          | true =>
            rw [hc] at h
            simp only [cond_true, Option.some.injEq] at h
            subst h
            simp only [Bool.and_eq_true] at hc
            obtain ⟨⟨⟨c1, c2⟩, c3⟩, c4⟩ := hc
            have hbd := run_sliceBounds (P := P) (isS := true) (hE.natOr hl) (hE.natOr hh) (hE.natOr hm) (le_of_ble c1) (le_of_ble c2) (le_of_ble c3) (isSome_or c4) w
            refine ⟨.slice (some ⟨x.blk, x.base + (bif Nat.beq m l then off else off + l * sz), none⟩) (hb - l) (m - l), by simp [SV.conc, hx], ?_⟩
            simp only [Instr.sliceAt, Instr.slice, run_underlying hu, Sem.run_bind, Result.andThen, Sem.run_pure, hbd, run_sizeT hs]
            by_cases hml : m = l
            · subst hml
              simp [show Nat.beq m m = true from Nat.beq_refl m]
            · rw [if_neg hml]
              have : Nat.beq m l = false := by
                cases hbq : Nat.beq m l with
                | false => rfl
                | true => exact absurd (eq_of_beq hbq) hml
              simp [this, addr_add, Nat.add_assoc]
      | _ => cases h
  | slu b off eo len =>
    obtain ⟨x, hx, rfl⟩ := conc_slu hv
    simp only [sliceS] at h
    cases hu : P.underlying t with
    | none => rw [hu] at h; cases h
    | some d =>
      rw [hu] at h
      cases d with
      | slice el =>
        simp only at h
        cases hb : H.at' b with
        | none => rw [hb] at h; cases h
        | some vo =>
        rw [hb] at h
        cases vo with
        | row ne rsz rt rc =>
          simp only at h
          obtain ⟨o, _, hw, ho⟩ := hS.at hb hx
          obtain ⟨cs, fz, rfl, hne, hcap, hmax, _⟩ := ho
          cases hs : sizeT P el with
          | none => rw [hs] at h; cases h
          | some sz =>
          cases hl : natOr T 0 lo with
          | none => rw [hs, hl] at h; cases h
          | some l =>
          cases hh : natOr T len hi with
          | none => rw [hs, hl, hh] at h; cases h
          | some hb' =>
            rw [hs, hl, hh] at h
            simp only at h
            cases mx with
            | none =>
              simp only at h
              cases hc : (Nat.ble l hb' && Nat.ble (eo + hb') ne && Nat.blt (eo + l) ne) with
              | false => rw [hc] at h; cases h
              | true =>
                rw [hc] at h
                simp only [cond_true, Option.some.injEq] at h
                subst h
                simp only [Bool.and_eq_true] at hc
                obtain ⟨⟨c1, c2⟩, c3⟩ := hc
                have c2' := le_of_ble c2
                have c3' := lt_of_blt c3
                have hbd := run_sliceBounds (P := P) (isS := true) (cap := x.cap - eo) (m := x.cap - eo) (mx := none) (hE.natOr hl) (hE.natOr hh) (.inl ⟨rfl, rfl⟩) (le_of_ble c1) (by omega) (Nat.le_refl _) (.inr rfl) w
                refine ⟨.slice (some ⟨x.blk, x.base + (off + l * sz), none⟩) (hb' - l) (x.cap - (eo + l)), by simp [SV.conc, hx], ?_⟩
                simp only [Instr.sliceAt, Instr.slice, run_underlying hu, Sem.run_bind, Result.andThen, Sem.run_pure, Option.map_none, hbd, run_sizeT hs]
                rw [if_neg (by omega)]
                simp [addr_add, Nat.add_assoc, Nat.sub_sub]
            | some mo =>
              simp only at h
              cases hm : natS T mo with
              | none => rw [hm] at h; cases h
              | some m =>
                rw [hm] at h
                simp only at h
                cases hc : (Nat.ble l hb' && Nat.ble hb' m && Nat.ble (eo + m) ne && hi.isSome) with
                | false => rw [hc] at h; cases h
                | true =>
                  rw [hc] at h
                  simp only [cond_true, Option.some.injEq] at h
                  subst h
                  simp only [Bool.and_eq_true] at hc
                  obtain ⟨⟨⟨c1, c2⟩, c3⟩, c4⟩ := hc
                  have c3' := le_of_ble c3
                  obtain ⟨km, hkm⟩ := hE.nat hm
                  have hbd := run_sliceBounds (P := P) (isS := true) (cap := x.cap - eo) (m := m) (mx := some (.int km m)) (hE.natOr hl) (hE.natOr hh) (.inr ⟨km, rfl⟩) (le_of_ble c1) (le_of_ble c2) (by omega) (.inl (by simpa using c4)) w
                  refine ⟨.slice (some ⟨x.blk, x.base + (bif Nat.beq m l then off else off + l * sz), none⟩) (hb' - l) (m - l), by simp [SV.conc, hx], ?_⟩
                  simp only [Instr.sliceAt, Instr.slice, run_underlying hu, Sem.run_bind, Result.andThen, Sem.run_pure, Option.map_some, hkm, hbd, run_sizeT hs]
                  by_cases hml : m = l
                  · subst hml
                    simp [show Nat.beq m m = true from Nat.beq_refl m]
                  · rw [if_neg hml]
                    have : Nat.beq m l = false := by
                      cases hbq : Nat.beq m l with
                      | false => rfl
                      | true => exact absurd (eq_of_beq hbq) hml
                    simp [this, addr_add, Nat.add_assoc]
        | _ => cases h
      | _ => cases h
  | _ => simp [sliceS] at h
end
end Go.Ex
