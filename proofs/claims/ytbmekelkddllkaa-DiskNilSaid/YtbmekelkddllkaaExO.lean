/-
  The machine of names: a region that draws its order: what is checked of it. Over any program.
-/
import Derived.Test.YtbmekelkddllkaaExN
import Derived.Orders
namespace Go.Ex
open Go Go.Sl Go.RowKit

/-! ### slots -/
theorem dstsOk_ok {nt : Nat} : ∀ {l : List Oper} {seen : List Tmp}, dstsOk nt l seen = true → (∀ (i : Nat) o d, l[i]? = some o → o.dst = some d → d < nt ∧ d ∉ seen) ∧
    (∀ (i j : Nat) oi oj d, l[i]? = some oi → l[j]? = some oj → oi.dst = some d → oj.dst = some d → i = j)
  | [], seen, _ => ⟨fun i o d h => by simp at h, fun i j oi oj d h => by simp at h⟩
  | o :: l, seen, h => by
    simp only [dstsOk] at h
    cases hd : o.dst with
    | none =>
      rw [hd] at h
      obtain ⟨h1, h2⟩ := dstsOk_ok h
      refine ⟨fun i o' d hi hd' => ?_, fun i j oi oj d hi hj hdi hdj => ?_⟩
      · cases i with
        | zero => simp only [List.getElem?_cons_zero, Option.some.injEq] at hi; subst hi; rw [hd] at hd'; cases hd'
        | succ i => exact h1 i o' d (by simpa using hi) hd'
      · cases i with
        | zero => simp only [List.getElem?_cons_zero, Option.some.injEq] at hi; subst hi; rw [hd] at hdi; cases hdi
        | succ i =>
          cases j with
          | zero => simp only [List.getElem?_cons_zero, Option.some.injEq] at hj; subst hj; rw [hd] at hdj; cases hdj
          | succ j => rw [h2 i j oi oj d (by simpa using hi) (by simpa using hj) hdi hdj]
    | some d0 =>
      rw [hd] at h
      simp only [Bool.and_eq_true, Bool.not_eq_true'] at h
      obtain ⟨⟨g1, g2⟩, g3⟩ := h
      obtain ⟨h1, h2⟩ := dstsOk_ok g3
      have hns : d0 ∉ seen := by simpa using g2
      refine ⟨fun i o' d hi hd' => ?_, fun i j oi oj d hi hj hdi hdj => ?_⟩
      · cases i with
        | zero =>
          simp only [List.getElem?_cons_zero, Option.some.injEq] at hi
          subst hi
          rw [hd] at hd'
          simp only [Option.some.injEq] at hd'
          subst hd'
          exact ⟨lt_of_blt g1, hns⟩
        | succ i =>
          obtain ⟨a, b⟩ := h1 i o' d (by simpa using hi) hd'
          exact ⟨a, fun hc => b (List.mem_cons_of_mem _ hc)⟩
      · cases i with
        | zero =>
          simp only [List.getElem?_cons_zero, Option.some.injEq] at hi
          subst hi
          rw [hd] at hdi
          simp only [Option.some.injEq] at hdi
          subst hdi
          cases j with
          | zero => rfl
          | succ j => exact absurd (List.mem_cons_self ..) (h1 j oj d0 (by simpa using hj) hdj).2
        | succ i =>
          cases j with
          | zero =>
            simp only [List.getElem?_cons_zero, Option.some.injEq] at hj
            subst hj
            rw [hd] at hdj
            simp only [Option.some.injEq] at hdj
            subst hdj
            exact absurd (List.mem_cons_self ..) (h1 i oi d0 (by simpa using hi) hdi).2
          | succ j => rw [h2 i j oi oj d (by simpa using hi) (by simpa using hj) hdi hdj]

theorem writer_ok (t : Tmp) : ∀ (l : List Oper) (i0 k : Nat) (o : Oper), l[k]? = some o → o.dst = some t → ∃ (k' : Nat) (o' : Oper), writer t l i0 = some (i0 + k') ∧ l[k']? = some o' ∧ o'.dst = some t
  | [], i0, k, o, h, _ => by simp at h
  | o0 :: l, i0, k, o, h, hd => by
    have rest : ∀ k2 : Nat, k = k2 + 1 → ∃ (k' : Nat) (o' : Oper), writer t l (i0 + 1) = some (i0 + 1 + k') ∧ l[k']? = some o' ∧ o'.dst = some t := by
      rintro k2 rfl
      exact writer_ok t l (i0 + 1) k2 o (by simpa using h) hd
    have lift : (∃ (k' : Nat) (o' : Oper), writer t l (i0 + 1) = some (i0 + 1 + k') ∧ l[k']? = some o' ∧ o'.dst = some t) → writer t (o0 :: l) i0 = writer t l (i0 + 1) → ∃ (k' : Nat) (o' : Oper), writer t (o0 :: l) i0 = some (i0 + k') ∧ (o0 :: l)[k']? = some o' ∧ o'.dst = some t := by
      rintro ⟨k', o', h1, h2, h3⟩ he
      exact ⟨k' + 1, o', by rw [he, h1]; congr 1; omega, by simpa using h2, h3⟩
    cases hd0 : o0.dst with
    | none =>
      cases k with
      | zero => simp only [List.getElem?_cons_zero, Option.some.injEq] at h; subst h; rw [hd0] at hd; cases hd
      | succ k => exact lift (rest k rfl) (by simp [writer, hd0])
    | some d =>
      cases hb : Nat.beq d t with
      | true =>
        have := eq_of_beq hb
        subst this
        exact ⟨0, o0, by simp only [writer, hd0, hb, cond_true, Nat.add_zero], rfl, hd0⟩
      | false =>
        cases k with
        | zero =>
          simp only [List.getElem?_cons_zero, Option.some.injEq] at h
          subst h
          rw [hd0] at hd
          simp only [Option.some.injEq] at hd
          subst hd
          rw [show Nat.beq d d = true from Nat.beq_refl d] at hb
          cases hb
        | succ k => exact lift (rest k rfl) (by simp only [writer, hd0, hb, cond_false])

theorem operandsOk_ok {ops : List Oper} {anc : Nat} (hdist : ∀ (i j : Nat) oi oj d, ops[i]? = some oi → ops[j]? = some oj → oi.dst = some d → oj.dst = some d → i = j) :
    ∀ {l : List Operand}, operandsOk ops anc l = true → ∀ t, Operand.tmp t ∈ l → ∀ (k : Nat) o, ops[k]? = some o → o.dst = some t → anc.testBit k = true
  | [], _, t, h, _, _, _, _ => by cases h
  | x :: l, h, t, hm, k, o, ho, hd => by
    have tail : operandsOk ops anc l = true → Operand.tmp t ∈ l → anc.testBit k = true := fun h1 h2 => operandsOk_ok hdist h1 t h2 k o ho hd
    cases x with
    | tmp u =>
      simp only [operandsOk, Bool.and_eq_true] at h
      rcases List.mem_cons.1 hm with he | hm
      · simp only [Operand.tmp.injEq] at he
        subst he
        obtain ⟨k', o', h1, h2, h3⟩ := writer_ok t ops 0 k o ho hd
        have := hdist k k' o o' t ho h2 hd h3
        subst this
        have h4 := h.1
        rw [h1] at h4
        simpa using h4
      · exact tail h.2 hm
    | _ =>
      simp only [operandsOk] at h
      rcases List.mem_cons.1 hm with he | hm
      · cases he
      · exact tail h hm

theorem opsOk_ok {all : List Oper} : ∀ {l : List Oper} {ancs : List Nat} {i0 : Nat}, opsOk all ancs l i0 = true → ∀ (j : Nat) o, l[j]? = some o → ∃ anc, ancs[j]? = some anc ∧ edgesOk (i0 + j) o.after.toList = true ∧ operandsOk all anc (needs all o) = true
  | [], ancs, i0, _, j, o, h => by simp at h
  | o0 :: l, [], i0, h, j, o, hj => by simp [opsOk] at h
  | o0 :: l, a :: ancs, i0, h, j, o, hj => by
    simp only [opsOk, Bool.and_eq_true] at h
    cases j with
    | zero =>
      simp only [List.getElem?_cons_zero, Option.some.injEq] at hj
      subst hj
      exact ⟨a, rfl, h.1.1, h.1.2⟩
    | succ j =>
      obtain ⟨anc, h1, h2, h3⟩ := opsOk_ok h.2 j o (by simpa using hj)
      exact ⟨anc, by simpa using h1, by rw [show i0 + (j + 1) = i0 + 1 + j by omega]; exact h2, h3⟩

theorem edgesOk_ok {i : Nat} : ∀ {l : List Edge}, edgesOk i l = true → ∀ e ∈ l, Region.binds .any e = true → e.on < i
  | [], _, e, h, _ => by cases h
  | a :: l, h, e, hm, hb => by
    simp only [edgesOk, Bool.and_eq_true] at h
    rcases List.mem_cons.1 hm with rfl | hm
    · have := h.1
      rw [hb] at this
      exact lt_of_blt this
    · exact edgesOk_ok h.2 e hm hb

theorem ancOf_bit {p : List Nat} {j : Nat} : ∀ {l : List Edge}, (ancOf p l).testBit j = true → ∃ e ∈ l, Region.binds .any e = true ∧ (j = e.on ∨ (p.getD e.on 0).testBit j = true)
  | [], h => by simp [ancOf] at h
  | a :: l, h => by
    simp only [ancOf] at h
    cases hb : Region.binds .any a with
    | true =>
      rw [hb] at h
      simp only [cond_true, Nat.testBit_or, Bool.or_eq_true] at h
      rcases h with h | h | h
      · rw [Nat.testBit_two_pow] at h
        exact ⟨a, List.mem_cons_self .., hb, .inl (by simpa [eq_comm] using h)⟩
      · exact ⟨a, List.mem_cons_self .., hb, .inr h⟩
      · obtain ⟨e, h1, h2, h3⟩ := ancOf_bit h
        exact ⟨e, List.mem_cons_of_mem _ h1, h2, h3⟩
    | false =>
      rw [hb] at h
      simp only [cond_false] at h
      obtain ⟨e, h1, h2, h3⟩ := ancOf_bit h
      exact ⟨e, List.mem_cons_of_mem _ h1, h2, h3⟩

theorem ancGo_old : ∀ (l : List Oper) (acc : List Nat) (k : Nat), k < acc.length → (ancGo acc l)[k]? = acc[k]?
  | [], acc, k, _ => rfl
  | o :: l, acc, k, h => by
    rw [ancGo, ancGo_old l _ k (by simp; omega), List.getElem?_append_left h]

theorem ancGo_get : ∀ (l : List Oper) (acc : List Nat) (j : Nat) (o : Oper), l[j]? = some o → ∃ p : List Nat, p.length = acc.length + j ∧ (∀ k, k < p.length → p[k]? = (ancGo acc l)[k]?) ∧ (ancGo acc l)[acc.length + j]? = some (ancOf p o.after.toList)
  | [], acc, j, o, h => by simp at h
  | o0 :: l, acc, j, o, h => by
    cases j with
    | zero =>
      simp only [List.getElem?_cons_zero, Option.some.injEq] at h
      subst h
      refine ⟨acc, rfl, fun k hk => ?_, ?_⟩
      · rw [ancGo, ancGo_old l _ k (by simp; omega), List.getElem?_append_left hk]
      · rw [ancGo, ancGo_old l _ _ (by simp), List.getElem?_append_right (by simp)]
        simp
    | succ j =>
      obtain ⟨p, h1, h2, h3⟩ := ancGo_get l (acc ++ [ancOf acc o0.after.toList]) j o (by simpa using h)
      simp only [List.length_append, List.length_singleton] at h1 h3
      refine ⟨p, by omega, fun k hk => ?_, ?_⟩
      · rw [ancGo]; exact h2 k hk
      · rw [ancGo, show acc.length + (j + 1) = acc.length + 1 + j by omega]
        exact h3

/-- What is ahead of an operation is listed, where all that stands just ahead of it is. -/
theorem anc_listed {ops : List Oper} (L : Nat → Prop) (hE : ∀ (i : Nat) o, ops[i]? = some o → edgesOk i o.after.toList = true) (hL : ∀ (i : Nat) o, L i → ops[i]? = some o → ∀ e ∈ o.after.toList, Region.binds .any e = true → L e.on) :
    ∀ (i : Nat) o, ops[i]? = some o → (∀ e ∈ o.after.toList, Region.binds .any e = true → L e.on) → ∀ j, ((ancGo [] ops).getD i 0).testBit j = true → L j ∧ j < i := by
  intro i
  induction i using Nat.strongRecOn with
  | _ i ih =>
    intro o ho hedges j hj
    obtain ⟨p, h1, h2, h3⟩ := ancGo_get ops [] i o ho
    simp only [List.length_nil, Nat.zero_add] at h1 h3
    rw [List.getD_eq_getElem?_getD, h3] at hj
    simp only [Option.getD_some] at hj
    obtain ⟨e, he, hb, hcase⟩ := ancOf_bit hj
    have hlt := edgesOk_ok (hE i o ho) e he hb
    have hLe := hedges e he hb
    rcases hcase with rfl | hbit
    · exact ⟨hLe, hlt⟩
    · have hlen : i < ops.length := (List.getElem?_eq_some_iff.1 ho).1
      have ho' : ops[e.on]? = some ops[e.on] := List.getElem?_eq_getElem (by omega)
      rw [List.getD_eq_getElem?_getD, h2 e.on (by omega), ← List.getD_eq_getElem?_getD] at hbit
      obtain ⟨g1, g2⟩ := ih e.on hlt _ ho' (hL e.on _ hLe ho') j hbit
      exact ⟨g1, by omega⟩

theorem onlyT_at {T : Tr SV} : ∀ (l : List Operand) (t : Nat) (s : SV), (onlyT T l).at' t = some s → Operand.tmp t ∈ l ∧ T.at' t = some s
  | [], t, s, h => by simp [onlyT, Tr.at_nil] at h
  | x :: l, t, s, h => by
    cases x with
    | tmp u =>
      simp only [onlyT] at h
      cases hu : T.at' u with
      | none =>
        rw [hu] at h
        obtain ⟨h1, h2⟩ := onlyT_at l t s h
        exact ⟨List.mem_cons_of_mem _ h1, h2⟩
      | some v =>
        rw [hu] at h
        rcases Tr.at_set h with ⟨rfl, rfl⟩ | ⟨_, h⟩
        · exact ⟨List.mem_cons_self .., hu⟩
        · obtain ⟨h1, h2⟩ := onlyT_at l t s h
          exact ⟨List.mem_cons_of_mem _ h1, h2⟩
    | _ =>
      simp only [onlyT] at h
      obtain ⟨h1, h2⟩ := onlyT_at l t s h
      exact ⟨List.mem_cons_of_mem _ h1, h2⟩

/-! ### the run in the text's order -/
section
variable (P : Program) (rn : Rn) (nt : Nat) (ops : Array Oper) (T0 : Tr SV)

/-- Where a slot's value comes from. -/
def Src (R : List Rec) (i : Nat) (t : Nat) (s : SV) : Prop :=
  (∃ (k : Nat) (r : Rec), k < i ∧ R[k]? = some r ∧ r.o.dst = some t ∧ r.val = s) ∨ ((∀ (k : Nat) (r : Rec), k < i → R[k]? = some r → r.o.dst ≠ some t) ∧ T0.at' t = some s)

structure RecOK (R : List Rec) (Q : List (Heap × Nat)) (C : List Nat) (i : Nat) (r : Rec) : Prop where
  idx : r.i = i
  op : ops[i]? = some r.o
  slots : ∀ t s, r.T.at' t = some s → Operand.tmp t ∈ needs ops.toList r.o ∧ Src T0 R i t s
  want : wantedS r.T ops r.o = some r.wanted
  skip : r.wanted = false → r.val = undefS ∧ r.chain = false
  float : r.wanted = true → r.chain = false → ∃ H n, Q[r.stg]? = some (H, n) ∧ floatOp P r.T H r.o = some r.val
  eff : r.chain = true → r.wanted = true ∧ C[r.stg]? = some i ∧ ∃ H n H' n', Q[r.stg]? = some (H, n) ∧ Q[r.stg + 1]? = some (H', n') ∧ drawEff P rn r.T H n r.o = some (r.val, H', n')

structure DSOK (i : Nat) (s : DS) : Prop where
  len : s.recs.length = i
  hs : s.Hs.length = s.stg + 1
  last : s.Hs.reverse[s.stg]? = some (s.H, s.nx)
  cnt : ((s.recs.reverse.filter (·.chain)).map (·.i)).length = s.stg
  recs : ∀ (k : Nat) r, s.recs.reverse[k]? = some r → RecOK P rn ops T0 s.recs.reverse s.Hs.reverse ((s.recs.reverse.filter (·.chain)).map (·.i)) k r
  slots : ∀ t v, s.T.at' t = some v → Src T0 s.recs.reverse i t v
end

section
variable {P : Program} {rn : Rn} {nt : Nat} {ops : Array Oper} {T0 : Tr SV}

theorem Src.mono {R R' : List Rec} {i : Nat} {t : Nat} {s : SV} (h : Src T0 R i t s) (hR : ∀ k, k < i → R'[k]? = R[k]?) : Src T0 R' i t s := by
  rcases h with ⟨k, r, h1, h2, h3, h4⟩ | ⟨h1, h2⟩
  · exact .inl ⟨k, r, h1, by rw [hR k h1]; exact h2, h3, h4⟩
  · exact .inr ⟨fun k r hk hr => h1 k r hk (by rw [← hR k hk]; exact hr), h2⟩

theorem RecOK.mono {R R' : List Rec} {Q Q' : List (Heap × Nat)} {C C' : List Nat} {i : Nat} {r : Rec} (h : RecOK P rn ops T0 R Q C i r) (hR : ∀ k, k < i → R'[k]? = R[k]?) (hQ : ∀ (j : Nat) x, Q[j]? = some x → Q'[j]? = some x) (hC : ∀ (j : Nat) x, C[j]? = some x → C'[j]? = some x) :
    RecOK P rn ops T0 R' Q' C' i r :=
  ⟨h.idx, h.op, fun t s hs => let ⟨a, b⟩ := h.slots t s hs; ⟨a, b.mono hR⟩, h.want, h.skip, fun a b => let ⟨H, n, c, d⟩ := h.float a b; ⟨H, n, hQ _ _ c, d⟩,
    fun a => let ⟨b, c, H, n, H', n', d, e, f⟩ := h.eff a; ⟨b, hC _ _ c, H, n, H', n', hQ _ _ d, hQ _ _ e, f⟩⟩

theorem get_snoc {A : Type} {l : List A} {x y : A} {j : Nat} (h : l[j]? = some y) : (l ++ [x])[j]? = some y := by
  rw [List.getElem?_append_left (List.getElem?_eq_some_iff.1 h).1]; exact h
theorem get_last {A : Type} (l : List A) (x : A) : (l ++ [x])[l.length]? = some x := by simp

/-- One record more. -/
theorem DSOK.snoc {i : Nat} {s : DS} (h : DSOK P rn ops T0 i s) (hdst : ∀ (j : Nat) o d, ops.toList[j]? = some o → o.dst = some d → d < nt) {r : Rec} {H : Heap} {nx : Nat} {Hs : List (Heap × Nat)} {stg : Nat} (ho : ops[i]? = some r.o)
    (hlen : Hs.length = stg + 1) (hlast : Hs.reverse[stg]? = some (H, nx)) (hQ : ∀ (j : Nat) x, s.Hs.reverse[j]? = some x → Hs.reverse[j]? = some x) (hcnt : (if r.chain then s.stg + 1 else s.stg) = stg)
    (hrec : RecOK P rn ops T0 (s.recs.reverse ++ [r]) Hs.reverse (((s.recs.reverse ++ [r]).filter (·.chain)).map (·.i)) i r) : DSOK P rn ops T0 (i + 1) ⟨putS nt s.T r.o.dst r.val, H, nx, r :: s.recs, Hs, stg⟩ := by
  have hR : ∀ k, k < i → (s.recs.reverse ++ [r])[k]? = s.recs.reverse[k]? := fun k hk => List.getElem?_append_left (by simp [h.len]; exact hk)
  have hri : (s.recs.reverse ++ [r])[i]? = some r := by have := get_last s.recs.reverse r; rw [List.length_reverse, h.len] at this; exact this
  refine ⟨by simp [h.len], hlen, hlast, ?_, fun k r' hr' => ?_, fun t v hv => ?_⟩
  · simp only [List.reverse_cons, List.filter_append, List.map_append, List.length_append, h.cnt]
    rw [← hcnt]
    cases hc : r.chain <;> simp [List.filter_cons, hc]
  · simp only [List.reverse_cons] at hr' ⊢
    rcases Nat.lt_or_ge k i with hk | hk
    · rw [hR k hk] at hr'
      refine (h.recs k r' hr').mono (fun k' hk' => hR k' (by omega)) hQ (fun j x hj => ?_)
      rw [List.filter_append, List.map_append]
      rw [List.getElem?_append_left (List.getElem?_eq_some_iff.1 hj).1]
      exact hj
    · have : k = i := by
        have := (List.getElem?_eq_some_iff.1 hr').1
        simp [h.len] at this
        omega
      subst this
      rw [hri] at hr'
      simp only [Option.some.injEq] at hr'
      subst hr'
      exact hrec
  · simp only [List.reverse_cons] at hv ⊢
    have old : s.T.at' t = some v → r.o.dst ≠ some t → Src T0 (s.recs.reverse ++ [r]) (i + 1) t v := by
      intro hv hne
      rcases h.slots t v hv with ⟨k, r', h1, h2, h3, h4⟩ | ⟨h1, h2⟩
      · exact .inl ⟨k, r', by omega, by rw [hR k h1]; exact h2, h3, h4⟩
      · refine .inr ⟨fun k r' hk hr' => ?_, h2⟩
        rcases Nat.lt_or_ge k i with hk' | hk'
        · rw [hR k hk'] at hr'
          exact h1 k r' hk' hr'
        · have : k = i := by omega
          subst this
          rw [hri] at hr'
          simp only [Option.some.injEq] at hr'
          subst hr'
          exact hne
    cases hd : r.o.dst with
    | none => rw [hd] at hv old; exact old hv (by simp)
    | some d =>
      rw [hd] at hv
      have hlt := hdst i r.o d (by simpa using ho) hd
      simp only [putS, show Nat.blt d nt = true from Nat.ble_eq_true_of_le hlt, cond_true] at hv
      rcases Tr.at_set hv with ⟨rfl, rfl⟩ | ⟨hne, hv⟩
      · exact .inl ⟨i, r, by omega, hri, hd, rfl⟩
      · exact old hv (by rw [hd]; simp; exact fun hc => hne hc.symm)

theorem drawOne_ok {i : Nat} {o : Oper} {s s' : DS} (h : DSOK P rn ops T0 i s) (hdst : ∀ (j : Nat) o d, ops.toList[j]? = some o → o.dst = some d → d < nt) (ho : ops[i]? = some o) (hd : drawOne P rn nt ops i o s = some s') : DSOK P rn ops T0 (i + 1) s' := by
  unfold drawOne at hd
  simp only at hd
  have hslots : ∀ (R : List Rec), (∀ k, k < i → R[k]? = s.recs.reverse[k]?) → ∀ t v, (onlyT s.T (needs ops.toList o)).at' t = some v → Operand.tmp t ∈ needs ops.toList o ∧ Src T0 R i t v := by
    intro R hR t v hv
    obtain ⟨h1, h2⟩ := onlyT_at _ t v hv
    exact ⟨h1, (h.slots t v h2).mono hR⟩
  have hR : ∀ (r : Rec) k, k < i → (s.recs.reverse ++ [r])[k]? = s.recs.reverse[k]? := fun r k hk => List.getElem?_append_left (by simp [h.len]; exact hk)
  cases hw : wantedS (onlyT s.T (needs ops.toList o)) ops o with
  | none => rw [hw] at hd; cases hd
  | some b =>
    rw [hw] at hd
    cases b with
    | false =>
      simp only [Option.some.injEq] at hd
      subst hd
      exact h.snoc (r := ⟨i, o, _, s.stg, false, false, undefS⟩) hdst ho h.hs h.last (fun _ _ hj => hj) rfl
        ⟨rfl, ho, hslots _ (hR _), hw, fun _ => ⟨rfl, rfl⟩, fun hc _ => (by cases hc), fun hc => (by cases hc)⟩
    | true =>
      simp only at hd
      cases hf : floatOp P (onlyT s.T (needs ops.toList o)) s.H o with
      | some v =>
        rw [hf] at hd
        simp only [Option.some.injEq] at hd
        subst hd
        exact h.snoc (r := ⟨i, o, _, s.stg, false, true, v⟩) hdst ho h.hs h.last (fun _ _ hj => hj) rfl
          ⟨rfl, ho, hslots _ (hR _), hw, fun hc => (by cases hc), fun _ _ => ⟨s.H, s.nx, h.last, hf⟩, fun hc => (by cases hc)⟩
      | none =>
        rw [hf] at hd
        simp only at hd
        cases he : drawEff P rn (onlyT s.T (needs ops.toList o)) s.H s.nx o with
        | none => rw [he] at hd; cases hd
        | some q =>
          obtain ⟨v, H, nx⟩ := q
          rw [he] at hd
          simp only [Option.some.injEq] at hd
          subst hd
          have hl := h.hs
          have hq : ∀ (j : Nat) x, s.Hs.reverse[j]? = some x → ((H, nx) :: s.Hs).reverse[j]? = some x := fun j x hj => by rw [List.reverse_cons]; exact get_snoc hj
          have hlast : ((H, nx) :: s.Hs).reverse[s.stg + 1]? = some (H, nx) := by
            rw [List.reverse_cons]
            have := get_last s.Hs.reverse (H, nx)
            rw [List.length_reverse, hl] at this
            exact this
          refine h.snoc (r := ⟨i, o, _, s.stg, true, true, v⟩) hdst ho (by simp [hl]) hlast hq rfl
            ⟨rfl, ho, hslots _ (hR _), hw, fun hc => (by cases hc), fun _ hc => (by cases hc), fun _ => ⟨rfl, ?_, s.H, s.nx, H, nx, hq _ _ h.last, hlast, he⟩⟩
          simp only [List.filter_append, List.map_append, List.filter_cons, if_true, List.filter_nil, List.map_cons, List.map_nil]
          have := get_last ((s.recs.reverse.filter (·.chain)).map (·.i)) i
          rw [h.cnt] at this
          exact this

theorem drawAll_ok (hdst : ∀ (j : Nat) o d, ops.toList[j]? = some o → o.dst = some d → d < nt) : ∀ (l : List Oper) (i : Nat) (s s' : DS), DSOK P rn ops T0 i s → l = ops.toList.drop i → drawAll P rn nt ops i l s = some s' → DSOK P rn ops T0 ops.size s'
  | [], i, s, s', h, hl, hd => by
    simp only [drawAll, Option.some.injEq] at hd
    subst hd
    have h1 := congrArg List.length hl
    simp at h1
    have h2 : i ≤ ops.size := by
      rcases Nat.lt_or_ge ops.size i with hc | hc
      · exfalso
        have hlen := h.len
        have hr := h.recs (i - 1) (s.recs.reverse[i - 1]'(by simp; omega)) (List.getElem?_eq_getElem (by simp; omega))
        have := (Array.getElem?_eq_some_iff.1 hr.op).1
        omega
      · exact hc
    have : i = ops.size := by omega
    subst this
    exact h
  | o :: l, i, s, s', h, hl, hd => by
    have ho : ops[i]? = some o := by
      have : ops.toList[i]? = some o := by
        have := congrArg List.head? hl
        simpa using this.symm
      simpa using this
    have hl' : l = ops.toList.drop (i + 1) := by
      have := congrArg List.tail hl
      simpa using this
    simp only [drawAll] at hd
    cases hone : drawOne P rn nt ops i o s with
    | none => rw [hone] at hd; cases hd
    | some s1 =>
      rw [hone] at hd
      exact drawAll_ok hdst l (i + 1) s1 s' (drawOne_ok h hdst ho hone) hl' hd
end
end Go.Ex
