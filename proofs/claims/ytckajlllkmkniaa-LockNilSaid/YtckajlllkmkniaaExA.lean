/-
  The machine of names: what a state says of the model's world. Over any program.
-/
import Derived.Test.YtckajlllkmkniaaExR
namespace Go.Ex
open Go Go.Sl Go.RowKit

/-! ### tries -/
abbrev bt (n s : Nat) : Bool := Nat.beq (Nat.land (Nat.shiftRight n s) 1) 0
section
variable {A : Type}
theorem Tr.get_nil (n s : Nat) : (Tr.nil : Tr A).get n s = none := rfl
theorem Tr.get_tip (k : Nat) (v : A) (n s : Nat) : (Tr.tip k v).get n s = bif Nat.beq k n then some v else none := by
  show @Bool.rec (fun _ => Option A) none (some v) (Nat.beq k n) = _
  cases Nat.beq k n <;> rfl
theorem Tr.get_node (l r : Tr A) (n s : Nat) : (Tr.node l r).get n s = bif bt n s then l.get n (s + 1) else r.get n (s + 1) := by
  show @Bool.rec (fun _ => Option A) (r.get n (s + 1)) (l.get n (s + 1)) (bt n s) = _
  cases bt n s <;> rfl
theorem Tr.ins_nil (n : Nat) (v : A) (s : Nat) : (Tr.nil : Tr A).ins n v s = .tip n v := rfl
theorem Tr.ins_tip (k : Nat) (u : A) (n : Nat) (v : A) (s : Nat) : (Tr.tip k u).ins n v s = bif Nat.beq k n then .tip n v else Tr.split k u n v 80 s := by
  show @Bool.rec (fun _ => Tr A) (Tr.split k u n v 80 s) (.tip n v) (Nat.beq k n) = _
  cases Nat.beq k n <;> rfl
theorem Tr.ins_node (l r : Tr A) (n : Nat) (v : A) (s : Nat) : (Tr.node l r).ins n v s = bif bt n s then .node (l.ins n v (s + 1)) r else .node l (r.ins n v (s + 1)) := by
  show @Bool.rec (fun _ => Tr A) (Tr.node l (r.ins n v (s + 1))) (.node (l.ins n v (s + 1)) r) (bt n s) = _
  cases bt n s <;> rfl
theorem Tr.cut_tip (k : Nat) (u : A) (n : Nat) (s : Nat) : (Tr.tip k u).cut n s = bif Nat.beq k n then .nil else .tip k u := by
  show @Bool.rec (fun _ => Tr A) (.tip k u) .nil (Nat.beq k n) = _
  cases Nat.beq k n <;> rfl
theorem Tr.cut_node (l r : Tr A) (n : Nat) (s : Nat) : (Tr.node l r).cut n s = bif bt n s then .node (l.cut n (s + 1)) r else .node l (r.cut n (s + 1)) := by
  show @Bool.rec (fun _ => Tr A) (Tr.node l (r.cut n (s + 1))) (.node (l.cut n (s + 1)) r) (bt n s) = _
  cases bt n s <;> rfl
theorem Tr.split_succ (k : Nat) (u : A) (n : Nat) (v : A) (f s : Nat) : Tr.split k u n v (f + 1) s =
    bif bt k s then (bif bt n s then .node (Tr.split k u n v f (s + 1)) .nil else .node (.tip k u) (.tip n v))
    else (bif bt n s then .node (.tip n v) (.tip k u) else .node .nil (Tr.split k u n v f (s + 1))) := by
  show @Bool.rec (fun _ => Tr A) (@Bool.rec (fun _ => Tr A) (.node .nil (Tr.split k u n v f (s + 1))) (.node (.tip n v) (.tip k u)) (bt n s))
      (@Bool.rec (fun _ => Tr A) (.node (.tip k u) (.tip n v)) (.node (Tr.split k u n v f (s + 1)) .nil) (bt n s)) (bt k s) = _
  cases bt k s <;> cases bt n s <;> rfl

theorem Tr.get_split {k : Nat} {u : A} {n : Nat} {v : A} (hne : Nat.beq k n = false) : ∀ (f s m : Nat) (x : A), (Tr.split k u n v f s).get m s = some x → (m = n ∧ x = v) ∨ (m ≠ n ∧ (Tr.tip k u).get m s = some x)
  | 0, s, m, x, h => by cases h
  | f + 1, s, m, x, h => by
    have tipn : ∀ s', (Tr.tip n v).get m s' = some x → (m = n ∧ x = v) := by
      intro s' h
      rw [Tr.get_tip] at h
      cases hb : Nat.beq n m with
      | true => rw [hb] at h; simp only [cond_true, Option.some.injEq] at h; exact ⟨(Nat.eq_of_beq_eq_true hb).symm, h.symm⟩
      | false => rw [hb] at h; cases h
    have tipk : ∀ s', (Tr.tip k u).get m s' = some x → m ≠ n ∧ (Tr.tip k u).get m s = some x := by
      intro s' h'
      refine ⟨?_, by rw [Tr.get_tip] at h' ⊢; exact h'⟩
      rintro rfl
      rw [Tr.get_tip, hne] at h'
      cases h'
    rw [Tr.split_succ] at h
    cases hk : bt k s <;> cases hn : bt n s <;> rw [hk, hn] at h <;> simp only [cond_true, cond_false] at h <;> rw [Tr.get_node] at h <;>
      (cases hm : bt m s <;> rw [hm] at h <;> simp only [cond_true, cond_false] at h)
    · rcases Tr.get_split hne f (s + 1) m x h with h | ⟨h1, h2⟩
      · exact .inl h
      · exact .inr (tipk _ h2)
    · cases h
    · exact .inr (tipk _ h)
    · exact .inl (tipn _ h)
    · exact .inl (tipn _ h)
    · exact .inr (tipk _ h)
    · cases h
    · rcases Tr.get_split hne f (s + 1) m x h with h | ⟨h1, h2⟩
      · exact .inl h
      · exact .inr (tipk _ h2)

theorem Tr.get_ins : ∀ (t : Tr A) (n : Nat) (v : A) (s m : Nat) (x : A), (t.ins n v s).get m s = some x → (m = n ∧ x = v) ∨ (m ≠ n ∧ t.get m s = some x)
  | .nil, n, v, s, m, x, h => by
    rw [Tr.ins_nil, Tr.get_tip] at h
    cases hb : Nat.beq n m with
    | true => rw [hb] at h; simp only [cond_true, Option.some.injEq] at h; exact .inl ⟨(Nat.eq_of_beq_eq_true hb).symm, h.symm⟩
    | false => rw [hb] at h; cases h
  | .tip k u, n, v, s, m, x, h => by
    rw [Tr.ins_tip] at h
    cases hk : Nat.beq k n with
    | true =>
      have := Nat.eq_of_beq_eq_true hk
      subst this
      rw [hk] at h
      simp only [cond_true, Tr.get_tip] at h
      cases hb : Nat.beq k m with
      | true =>
        rw [hb] at h
        have := Nat.eq_of_beq_eq_true hb
        simp only [cond_true, Option.some.injEq] at h
        exact .inl ⟨this.symm, h.symm⟩
      | false => rw [hb] at h; cases h
    | false =>
      rw [hk] at h
      exact Tr.get_split hk 80 s m x h
  | .node l r, n, v, s, m, x, h => by
    rw [Tr.ins_node] at h
    cases hn : bt n s <;> rw [hn] at h <;> simp only [cond_true, cond_false] at h <;> rw [Tr.get_node] at h <;>
      (cases hm : bt m s <;> rw [hm] at h <;> simp only [cond_true, cond_false] at h)
    · rcases Tr.get_ins r n v (s + 1) m x h with h | ⟨h1, h2⟩
      · exact .inl h
      · exact .inr ⟨h1, by rw [Tr.get_node, hm]; exact h2⟩
    · refine .inr ⟨?_, by rw [Tr.get_node, hm]; exact h⟩
      rintro rfl; rw [hm] at hn; cases hn
    · refine .inr ⟨?_, by rw [Tr.get_node, hm]; exact h⟩
      rintro rfl; rw [hm] at hn; cases hn
    · rcases Tr.get_ins l n v (s + 1) m x h with h | ⟨h1, h2⟩
      · exact .inl h
      · exact .inr ⟨h1, by rw [Tr.get_node, hm]; exact h2⟩

theorem Tr.get_cut : ∀ (t : Tr A) (n s m : Nat) (x : A), (t.cut n s).get m s = some x → m ≠ n ∧ t.get m s = some x
  | .nil, n, s, m, x, h => by cases h
  | .tip k v, n, s, m, x, h => by
    rw [Tr.cut_tip] at h
    cases hk : Nat.beq k n with
    | true => rw [hk] at h; cases h
    | false =>
      rw [hk] at h
      refine ⟨?_, h⟩
      rintro rfl
      simp only [Tr.get_tip, hk, cond_false] at h
      cases h
  | .node l r, n, s, m, x, h => by
    rw [Tr.cut_node] at h
    cases hn : bt n s <;> rw [hn] at h <;> simp only [cond_true, cond_false] at h <;> rw [Tr.get_node] at h <;>
      (cases hm : bt m s <;> rw [hm] at h <;> simp only [cond_true, cond_false] at h)
    · obtain ⟨h1, h2⟩ := Tr.get_cut r n (s + 1) m x h
      exact ⟨h1, by rw [Tr.get_node, hm]; exact h2⟩
    · refine ⟨?_, by rw [Tr.get_node, hm]; exact h⟩
      rintro rfl; rw [hm] at hn; cases hn
    · refine ⟨?_, by rw [Tr.get_node, hm]; exact h⟩
      rintro rfl; rw [hm] at hn; cases hn
    · obtain ⟨h1, h2⟩ := Tr.get_cut l n (s + 1) m x h
      exact ⟨h1, by rw [Tr.get_node, hm]; exact h2⟩
end

theorem Tr.at_set {A : Type} {t : Tr A} {n m : Nat} {v x : A} (h : (t.set n v).at' m = some x) : (m = n ∧ x = v) ∨ (m ≠ n ∧ t.at' m = some x) := Tr.get_ins t n v 0 m x h

theorem Tr.at_del {A : Type} {t : Tr A} {n m : Nat} {x : A} (h : (t.del n).at' m = some x) : m ≠ n ∧ t.at' m = some x := Tr.get_cut t n 0 m x h
theorem Tr.at_nil {A : Type} (m : Nat) : (Tr.nil : Tr A).at' m = none := rfl

theorem fillTr_at : ∀ (l : List SV) (c : Tr SV) (i j : Nat) (x : SV), (fillTr c i l).at' j = some x → (i ≤ j ∧ l[j - i]? = some x ∧ j < i + l.length) ∨ ((j < i ∨ i + l.length ≤ j) ∧ c.at' j = some x)
  | [], c, i, j, x, h => .inr ⟨by simp; omega, h⟩
  | y :: l, c, i, j, x, h => by
    rcases fillTr_at l (c.set i y) (i + 1) j x h with ⟨h1, h2, h3⟩ | ⟨h1, h2⟩
    · refine .inl ⟨by omega, ?_, by simp only [List.length_cons]; omega⟩
      rw [show j - i = (j - (i + 1)) + 1 by omega, List.getElem?_cons_succ]
      exact h2
    · rcases Tr.at_set h2 with ⟨rfl, rfl⟩ | ⟨h3, h4⟩
      · exact .inl ⟨Nat.le_refl _, by simp, by simp⟩
      · refine .inr ⟨?_, h4⟩
        simp only [List.length_cons]
        omega

/-! ### names -/
structure Ent where
  blk : Nat
  base : Nat
  cap : Nat
abbrev Env := Nat → Option Ent
def Env.le (e e' : Env) : Prop := ∀ i x, e i = some x → e' i = some x
def Env.put (e : Env) (n : Nat) (x : Ent) : Env := fun i => if i = n then some x else e i
theorem Env.le_refl (e : Env) : e.le e := fun _ _ h => h
theorem Env.le_trans {a b c : Env} (h : a.le b) (h' : b.le c) : a.le c := fun i x hx => h' i x (h i x hx)
theorem Env.le_put {e : Env} {n : Nat} {x : Ent} (h : e n = none) : e.le (e.put n x) := by
  intro i y hy
  unfold Env.put
  by_cases hi : i = n
  · subst hi; rw [h] at hy; cases hy
  · rw [if_neg hi]; exact hy
theorem Env.put_same (e : Env) (n : Nat) (x : Ent) : (e.put n x) n = some x := by simp [Env.put]
theorem Env.put_other (e : Env) {n m : Nat} (x : Ent) (h : m ≠ n) : (e.put n x) m = e m := by simp [Env.put, h]

mutual
def SV.conc (e : Env) : SV → Option Value
  | .sc v => some v
  | .ptr b o => (e b).map fun x => .pointer (some ⟨x.blk, x.base + o, none⟩)
  | .sl b o n c => (e b).map fun x => .slice (some ⟨x.blk, x.base + o, none⟩) n c
  | .slu b o eo n => (e b).map fun x => .slice (some ⟨x.blk, x.base + o, none⟩) n (x.cap - eo)
  | .mp b => (e b).map fun x => .map (some x.blk)
  | .yld b => (e b).map fun x => .func (.yield x.blk) #[] #[]
  | .agg l => (SV.concL e l).map fun vs => .agg vs.toArray
  | .tup l => (SV.concL e l).map fun vs => .tuple vs.toArray
  | .ifc t v => (SV.conc e v).map fun x => .iface t x
  | .fn f a b => match SV.concL e a, SV.concL e b with
    | some x, some y => some (.func f x.toArray y.toArray)
    | _, _ => none
def SV.concL (e : Env) : List SV → Option (List Value)
  | [] => some []
  | x :: l => match SV.conc e x, SV.concL e l with
    | some v, some vs => some (v :: vs)
    | _, _ => none
end

mutual
theorem SV.conc_mono {e e' : Env} (h : e.le e') : ∀ (s : SV) (v : Value), s.conc e = some v → s.conc e' = some v
  | .sc _, v, hs => by simpa [SV.conc] using hs
  | .ptr b o, v, hs => by
    simp only [SV.conc, Option.map_eq_some_iff] at hs ⊢
    obtain ⟨x, hx, rfl⟩ := hs; exact ⟨x, h _ _ hx, rfl⟩
  | .sl b o n c, v, hs => by
    simp only [SV.conc, Option.map_eq_some_iff] at hs ⊢
    obtain ⟨x, hx, rfl⟩ := hs; exact ⟨x, h _ _ hx, rfl⟩
  | .slu b o eo n, v, hs => by
    simp only [SV.conc, Option.map_eq_some_iff] at hs ⊢
    obtain ⟨x, hx, rfl⟩ := hs; exact ⟨x, h _ _ hx, rfl⟩
  | .mp b, v, hs => by
    simp only [SV.conc, Option.map_eq_some_iff] at hs ⊢
    obtain ⟨x, hx, rfl⟩ := hs; exact ⟨x, h _ _ hx, rfl⟩
  | .yld b, v, hs => by
    simp only [SV.conc, Option.map_eq_some_iff] at hs ⊢
    obtain ⟨x, hx, rfl⟩ := hs; exact ⟨x, h _ _ hx, rfl⟩
  | .agg l, v, hs => by
    simp only [SV.conc, Option.map_eq_some_iff] at hs ⊢
    obtain ⟨x, hx, rfl⟩ := hs; exact ⟨x, SV.concL_mono h l x hx, rfl⟩
  | .tup l, v, hs => by
    simp only [SV.conc, Option.map_eq_some_iff] at hs ⊢
    obtain ⟨x, hx, rfl⟩ := hs; exact ⟨x, SV.concL_mono h l x hx, rfl⟩
  | .ifc t s, v, hs => by
    simp only [SV.conc, Option.map_eq_some_iff] at hs ⊢
    obtain ⟨x, hx, rfl⟩ := hs; exact ⟨x, SV.conc_mono h s x hx, rfl⟩
  | .fn f a b, v, hs => by
    simp only [SV.conc] at hs ⊢
    cases ha : SV.concL e a with
    | none => rw [ha] at hs; cases hs
    | some x =>
      cases hb : SV.concL e b with
      | none => rw [ha, hb] at hs; cases hs
      | some y =>
        rw [ha, hb] at hs
        rw [SV.concL_mono h a x ha, SV.concL_mono h b y hb]
        exact hs
theorem SV.concL_mono {e e' : Env} (h : e.le e') : ∀ (l : List SV) (vs : List Value), SV.concL e l = some vs → SV.concL e' l = some vs
  | [], vs, hs => by simpa [SV.concL] using hs
  | x :: l, vs, hs => by
    simp only [SV.concL] at hs ⊢
    cases hx : SV.conc e x with
    | none => rw [hx] at hs; cases hs
    | some v =>
      cases hl : SV.concL e l with
      | none => rw [hx, hl] at hs; cases hs
      | some ws =>
        rw [hx, hl] at hs
        rw [SV.conc_mono h x v hx, SV.concL_mono h l ws hl]
        exact hs
end

mutual
theorem SV.lit_conc (e : Env) : ∀ (s : SV) (v : Value), s.lit = some v → s.conc e = some v
  | .sc _, v, hs => by simpa [SV.lit, SV.conc] using hs
  | .ptr _ _, v, hs => by simp [SV.lit] at hs
  | .sl _ _ _ _, v, hs => by simp [SV.lit] at hs
  | .slu _ _ _ _, v, hs => by simp [SV.lit] at hs
  | .mp _, v, hs => by simp [SV.lit] at hs
  | .yld _, v, hs => by simp [SV.lit] at hs
  | .agg l, v, hs => by
    simp only [SV.lit] at hs
    cases hl : SV.litL l with
    | none => rw [hl] at hs; cases hs
    | some vs => rw [hl] at hs; simp only [SV.conc, SV.litL_conc e l vs hl, Option.map_some]; exact hs
  | .tup l, v, hs => by
    simp only [SV.lit] at hs
    cases hl : SV.litL l with
    | none => rw [hl] at hs; cases hs
    | some vs => rw [hl] at hs; simp only [SV.conc, SV.litL_conc e l vs hl, Option.map_some]; exact hs
  | .ifc t s, v, hs => by
    simp only [SV.lit] at hs
    cases hl : SV.lit s with
    | none => rw [hl] at hs; cases hs
    | some vs => rw [hl] at hs; simp only [SV.conc, SV.lit_conc e s vs hl, Option.map_some]; exact hs
  | .fn f a b, v, hs => by
    simp only [SV.lit] at hs
    cases ha : SV.litL a with
    | none => rw [ha] at hs; cases hs
    | some x =>
      rw [ha] at hs
      simp only at hs
      cases hb : SV.litL b with
      | none => rw [hb] at hs; cases hs
      | some y => rw [hb] at hs; simp only [SV.conc, SV.litL_conc e a x ha, SV.litL_conc e b y hb]; exact hs
theorem SV.litL_conc (e : Env) : ∀ (l : List SV) (vs : List Value), SV.litL l = some vs → SV.concL e l = some vs
  | [], vs, hs => by simpa [SV.litL, SV.concL] using hs
  | x :: l, vs, hs => by
    simp only [SV.litL] at hs
    cases hx : SV.lit x with
    | none => rw [hx] at hs; cases hs
    | some v =>
      rw [hx] at hs
      simp only at hs
      cases hl : SV.litL l with
      | none => rw [hl] at hs; cases hs
      | some ws => rw [hl] at hs; simp only [SV.concL, SV.lit_conc e x v hx, SV.litL_conc e l ws hl]; exact hs
end

theorem concL_length {e : Env} : ∀ {l : List SV} {vs : List Value}, SV.concL e l = some vs → vs.length = l.length
  | [], vs, h => by simp only [SV.concL, Option.some.injEq] at h; subst h; rfl
  | x :: l, vs, h => by
    simp only [SV.concL] at h
    cases hx : SV.conc e x with
    | none => rw [hx] at h; cases h
    | some v =>
      cases hl : SV.concL e l with
      | none => rw [hx, hl] at h; cases h
      | some ws =>
        rw [hx, hl] at h
        simp only [Option.some.injEq] at h
        subst h
        simp [concL_length hl]
theorem concL_cons {e : Env} {x : SV} {l : List SV} {vs : List Value} (h : SV.concL e (x :: l) = some vs) : ∃ v ws, vs = v :: ws ∧ x.conc e = some v ∧ SV.concL e l = some ws := by
  simp only [SV.concL] at h
  cases hx : SV.conc e x with
  | none => rw [hx] at h; cases h
  | some v =>
    cases hl : SV.concL e l with
    | none => rw [hx, hl] at h; cases h
    | some ws =>
      rw [hx, hl] at h
      simp only [Option.some.injEq] at h
      exact ⟨v, ws, h.symm, rfl, rfl⟩
theorem concL_cons_mk {e : Env} {x : SV} {l : List SV} {v : Value} {ws : List Value} (hx : x.conc e = some v) (hl : SV.concL e l = some ws) : SV.concL e (x :: l) = some (v :: ws) := by
  simp only [SV.concL, hx, hl]
theorem concL_get {e : Env} : ∀ {l : List SV} {vs : List Value}, SV.concL e l = some vs → ∀ {i : Nat} {x : SV}, l[i]? = some x → ∃ v, x.conc e = some v ∧ vs[i]? = some v
  | [], vs, h, i, x, hx => by simp at hx
  | y :: l, vs, h, i, x, hx => by
    obtain ⟨v, ws, rfl, hv, hl⟩ := concL_cons h
    cases i with
    | zero => simp only [List.getElem?_cons_zero, Option.some.injEq] at hx; subst hx; exact ⟨v, hv, rfl⟩
    | succ i => simpa using concL_get hl (i := i) (by simpa using hx)
theorem concL_append {e : Env} : ∀ {l m : List SV} {vs ws : List Value}, SV.concL e l = some vs → SV.concL e m = some ws → SV.concL e (l ++ m) = some (vs ++ ws)
  | [], m, vs, ws, h, h' => by simp only [SV.concL, Option.some.injEq] at h; subst h; exact h'
  | x :: l, m, vs, ws, h, h' => by
    obtain ⟨v, us, rfl, hv, hl⟩ := concL_cons h
    exact concL_cons_mk hv (concL_append hl h')
theorem concL_take {e : Env} : ∀ {l : List SV} {vs : List Value} (n : Nat), SV.concL e l = some vs → SV.concL e (l.take n) = some (vs.take n)
  | [], vs, n, h => by simp only [SV.concL, Option.some.injEq] at h; subst h; simp [SV.concL]
  | x :: l, vs, 0, h => by simp [SV.concL]
  | x :: l, vs, n + 1, h => by
    obtain ⟨v, us, rfl, hv, hl⟩ := concL_cons h
    exact concL_cons_mk hv (concL_take n hl)
theorem concL_drop {e : Env} : ∀ {l : List SV} {vs : List Value} (n : Nat), SV.concL e l = some vs → SV.concL e (l.drop n) = some (vs.drop n)
  | [], vs, n, h => by simp only [SV.concL, Option.some.injEq] at h; subst h; simp [SV.concL]
  | x :: l, vs, 0, h => by simpa using h
  | x :: l, vs, n + 1, h => by
    obtain ⟨v, us, rfl, hv, hl⟩ := concL_cons h
    exact concL_drop n hl
theorem concL_sc {e : Env} : ∀ (vs : List Value), SV.concL e (vs.map .sc) = some vs
  | [] => rfl
  | v :: vs => concL_cons_mk rfl (concL_sc vs)
theorem concL_set {e : Env} : ∀ {l : List SV} {vs : List Value} (i : Nat) {x : SV} {v : Value}, SV.concL e l = some vs → x.conc e = some v → SV.concL e (l.set i x) = some (vs.set i v)
  | [], vs, i, x, v, h, hx => by simp only [SV.concL, Option.some.injEq] at h; subst h; simp [SV.concL]
  | y :: l, vs, 0, x, v, h, hx => by
    obtain ⟨u, us, rfl, hu, hl⟩ := concL_cons h
    exact concL_cons_mk hx hl
  | y :: l, vs, i + 1, x, v, h, hx => by
    obtain ⟨u, us, rfl, hu, hl⟩ := concL_cons h
    exact concL_cons_mk hu (concL_set i hl hx)

theorem cells_conc {e : Env} {s : SV} {v : Value} (h : s.conc e = some v) : SV.concL e s.cells = some v.cells.toList := by
  have one : ∀ s : SV, s.conc e = some v → v.cells = #[v] → SV.concL e [s] = some v.cells.toList := fun s hs hv => by
    rw [hv]; exact concL_cons_mk hs rfl
  cases s with
  | sc u =>
    simp only [SV.conc, Option.some.injEq] at h
    subst h
    cases u with
    | agg cs => exact concL_sc _
    | _ => exact concL_cons_mk rfl rfl
  | agg l =>
    simp only [SV.conc, Option.map_eq_some_iff] at h
    obtain ⟨vs, hvs, rfl⟩ := h
    simpa [SV.cells, Value.cells] using hvs
  | fn f a b =>
    refine one _ h ?_
    simp only [SV.conc] at h
    cases ha : SV.concL e a with
    | none => rw [ha] at h; cases h
    | some x =>
      cases hb : SV.concL e b with
      | none => rw [ha, hb] at h; cases h
      | some y => rw [ha, hb] at h; simp only [Option.some.injEq] at h; subst h; rfl
  | _ =>
    refine one _ h ?_
    simp only [SV.conc, Option.map_eq_some_iff] at h
    obtain ⟨x, _, rfl⟩ := h
    rfl

theorem one_conc {e : Env} {s : SV} {v : Value} (h : s.conc e = some v) (h1 : s.one = true) : v.oneCell' = true := by
  cases s with
  | sc u =>
    simp only [SV.conc, Option.some.injEq] at h
    subst h
    cases u <;> first | rfl | simp [SV.one] at h1
  | agg l => simp [SV.one] at h1
  | tup l => simp [SV.one] at h1
  | fn f a b =>
    simp only [SV.conc] at h
    cases ha : SV.concL e a with
    | none => rw [ha] at h; cases h
    | some x =>
      cases hb : SV.concL e b with
      | none => rw [ha, hb] at h; cases h
      | some y => rw [ha, hb] at h; simp only [Option.some.injEq] at h; subst h; rfl
  | _ =>
    simp only [SV.conc, Option.map_eq_some_iff] at h
    obtain ⟨x, _, rfl⟩ := h
    rfl

/-! ### what a block holds -/
/-- No cell of the block is frozen. -/
def NoFz (fz : Nat × Nat) (n : Nat) : Prop := ∀ i, i < n → (decide (fz.1 ≤ i) && decide (i < fz.2)) = false

/-- The slots' values. -/
def TRel (e : Env) (nt : Nat) (T : Tr SV) (tmps : Array Value) : Prop :=
  tmps.size = nt ∧ ∀ t s, T.at' t = some s → ∃ v, s.conc e = some v ∧ tmps.getD t undef = v

def DRel (e : Env) : ADf → Deferred → Prop
  | .call f args, d => ∃ a cap, d = { target := .fn (.func f) cap, args := a } ∧ SV.concL e args = some (a.toList ++ cap.toList)
  | .taken r, d => ∃ x, e r = some x ∧ d = { target := .collected x.blk, args := #[] }
def DsRel (e : Env) : List ADf → List Deferred → Prop
  | [], [] => True
  | a :: l, d :: m => DRel e a d ∧ DsRel e l m
  | _, _ => False

def MRel (e : Env) : List (Value × SV × Nat) → List MapEntry → Prop
  | [], [] => True
  | (k, s, b) :: l, m :: ms => m.key = k ∧ m.born = b ∧ s.conc e = some m.val ∧ MRel e l ms
  | _, _ => False

def ORel (e : Env) (vo : VO) (x : Ent) (o : Obj) : Prop :=
  match vo with
  | .cells n t c => x.base = 0 ∧ ∃ cs fz, o = .cells cs t fz ∧ cs.size = n ∧ NoFz fz n ∧ ∀ i, i < n → ∀ s, c.at' i = some s → ∃ v, s.conc e = some v ∧ cs[i]? = some v
  | .row ne sz t c => ∃ cs fz, o = .cells cs t fz ∧ ne ≤ x.cap ∧ x.base + x.cap * sz ≤ cs.size ∧ x.cap ≤ maxLen ∧ NoFz fz cs.size ∧ 0 < sz ∧
      ∀ i, i < ne * sz → ∀ s, c.at' i = some s → ∃ v, s.conc e = some v ∧ cs[x.base + i]? = some v
  | .map l clock => ∃ es, o = .map es clock ∧ MRel e l es.toList
  | .iter none since seen stepped => x.base = 0 ∧ o = .mapIter none since seen.toArray stepped
  | .iter (some m) since seen stepped => x.base = 0 ∧ ∃ y, e m = some y ∧ o = .mapIter (some y.blk) since seen.toArray stepped
  | .siter s pos => x.base = 0 ∧ o = .stringIter s pos
  | .loop st pend fn nt T params assign body dr => ∃ tmps y, e dr = some y ∧ TRel e nt T tmps ∧
      o = .loop { state := st, pending := pend, fn := fn, tmps := tmps, params := params, assign := assign, body := body, defers := y.blk }
  | .dfd none => o = .deferred none
  | .dfd (some l) => ∃ ds, o = .deferred (some ds) ∧ DsRel e l ds

theorem TRel.mono {e e' : Env} (h : e.le e') {nt : Nat} {T : Tr SV} {tmps : Array Value} (hT : TRel e nt T tmps) : TRel e' nt T tmps :=
  ⟨hT.1, fun t s hs => let ⟨v, hv, hg⟩ := hT.2 t s hs; ⟨v, SV.conc_mono h s v hv, hg⟩⟩
theorem DRel.mono {e e' : Env} (h : e.le e') {a : ADf} {d : Deferred} (hd : DRel e a d) : DRel e' a d := by
  cases a with
  | call f args => obtain ⟨x, cap, rfl, hl⟩ := hd; exact ⟨x, cap, rfl, SV.concL_mono h _ _ hl⟩
  | taken r => obtain ⟨x, hx, rfl⟩ := hd; exact ⟨x, h _ _ hx, rfl⟩
theorem DsRel.mono {e e' : Env} (h : e.le e') : ∀ {l : List ADf} {m : List Deferred}, DsRel e l m → DsRel e' l m
  | [], [], _ => trivial
  | _ :: _, _ :: _, hd => ⟨hd.1.mono h, DsRel.mono h hd.2⟩
  | [], _ :: _, hd => hd.elim
  | _ :: _, [], hd => hd.elim
theorem DsRel.append {e : Env} : ∀ {l l' : List ADf} {m m' : List Deferred}, DsRel e l m → DsRel e l' m' → DsRel e (l ++ l') (m ++ m')
  | [], l', [], m', _, h => h
  | _ :: _, l', _ :: _, m', h, h' => ⟨h.1, DsRel.append h.2 h'⟩
  | [], _, _ :: _, _, h, _ => h.elim
  | _ :: _, _, [], _, h, _ => h.elim
theorem MRel.mono {e e' : Env} (h : e.le e') : ∀ {l : List (Value × SV × Nat)} {m : List MapEntry}, MRel e l m → MRel e' l m
  | [], [], _ => trivial
  | (_, _, _) :: _, _ :: _, hd => ⟨hd.1, hd.2.1, SV.conc_mono h _ _ hd.2.2.1, MRel.mono h hd.2.2.2⟩
  | [], _ :: _, hd => hd.elim
  | _ :: _, [], hd => by simp [MRel] at hd

theorem ORel.mono {e e' : Env} (h : e.le e') {vo : VO} {x : Ent} {o : Obj} (ho : ORel e vo x o) : ORel e' vo x o := by
  cases vo with
  | cells n t c =>
    obtain ⟨h0, cs, fz, h1, h2, h3, h4⟩ := ho
    exact ⟨h0, cs, fz, h1, h2, h3, fun i hi s hs => let ⟨v, hv, hg⟩ := h4 i hi s hs; ⟨v, SV.conc_mono h _ v hv, hg⟩⟩
  | row ne sz t c =>
    obtain ⟨cs, fz, h1, h2, h3, h4, h5, h6, h7⟩ := ho
    exact ⟨cs, fz, h1, h2, h3, h4, h5, h6, fun i hi s hs => let ⟨v, hv, hg⟩ := h7 i hi s hs; ⟨v, SV.conc_mono h _ v hv, hg⟩⟩
  | map l clock => obtain ⟨es, h1, h2⟩ := ho; exact ⟨es, h1, h2.mono h⟩
  | iter m since seen stepped =>
    cases m with
    | none => exact ho
    | some m => obtain ⟨h0, y, h1, h2⟩ := ho; exact ⟨h0, y, h _ _ h1, h2⟩
  | siter s pos => exact ho
  | loop st pend fn nt T params assign body dr => obtain ⟨tmps, y, h1, h2, h3⟩ := ho; exact ⟨tmps, y, h _ _ h1, h2.mono h, h3⟩
  | dfd calls =>
    cases calls with
    | none => exact ho
    | some l => obtain ⟨ds, h1, h2⟩ := ho; exact ⟨ds, h1, h2.mono h⟩

/-! ### a state -/
structure St (B : Nat) (w0 : World) (e : Env) (H : Heap) (nx : Nat) (w : World) : Prop where
  below : Below B w0 w
  size : B ≤ w.heap.size
  rel : ∀ id vo, H.at' id = some vo → ∃ x o, e id = some x ∧ B ≤ x.blk ∧ w.heap[x.blk]? = some o ∧ ORel e vo x o
  inj : ∀ id id' vo vo' x x', H.at' id = some vo → H.at' id' = some vo' → e id = some x → e id' = some x' → id ≠ id' → x.blk ≠ x'.blk
  fresh : ∀ i, nx ≤ i → e i = none

section
variable {B : Nat} {w0 w w' : World} {e : Env} {H H' : Heap} {nx : Nat}

theorem St.sub (hS : St B w0 e H nx w) (h : ∀ id vo, H'.at' id = some vo → H.at' id = some vo) : St B w0 e H' nx w :=
  ⟨hS.below, hS.size, fun id vo hv => hS.rel id vo (h id vo hv), fun id id' vo vo' x x' a b => hS.inj id id' vo vo' x x' (h _ _ a) (h _ _ b), hS.fresh⟩

/-- One block turns, and nothing else. -/
structure Turned (w w' : World) (k : Nat) : Prop where
  os : w'.os = w.os
  tape : w'.tape = w.tape
  output : w'.output = w.output
  size : w.heap.size ≤ w'.heap.size
  other : ∀ j, j < w.heap.size → j ≠ k → w'.heap[j]? = w.heap[j]?

theorem Turned.refl (w : World) (k : Nat) : Turned w w k := ⟨rfl, rfl, rfl, Nat.le_refl _, fun _ _ _ => rfl⟩
theorem Turned.trans {w1 w2 w3 : World} {k : Nat} (h : Turned w1 w2 k) (h' : Turned w2 w3 k) : Turned w1 w3 k :=
  ⟨h'.os.trans h.os, h'.tape.trans h.tape, h'.output.trans h.output, Nat.le_trans h.size h'.size, fun j hj hk => (h'.other j (by have := h.size; omega) hk).trans (h.other j hj hk)⟩
theorem Turned.setCell (w : World) (a : Addr) (v : Value) : Turned w (w.setCell a v) a.block :=
  ⟨rfl, rfl, rfl, by simp [World.setCell], fun j _ hk => Below.heap_setCell _ _ _ _ hk⟩

theorem lt_of_heap {k : Nat} {o : Obj} (h : w.heap[k]? = some o) : k < w.heap.size := (Array.getElem?_eq_some_iff.1 h).1

theorem below_turned {k : Nat} (hb : Below B w0 w) (hB : B ≤ w.heap.size) (hk : B ≤ k) (ht : Turned w w' k) (hsz : w0.heap.size ≤ w.heap.size) : Below B w0 w' :=
  ⟨ht.os.trans hb.os, ht.tape.trans hb.tape, ht.output.trans hb.output, Nat.le_trans hb.size ht.size, fun j hj => by rw [ht.other j (by omega) (by omega)]; exact hb.block j hj⟩

/-- A known block turns. -/
theorem St.upd (hS : St B w0 e H nx w) {b : Nat} {vo vo' : VO} {x : Ent} {o' : Obj} (hb : H.at' b = some vo) (hx : e b = some x) (ht : Turned w w' x.blk) (ho : w'.heap[x.blk]? = some o') (hr : ORel e vo' x o') :
    St B w0 e (H.set b vo') nx w' := by
  obtain ⟨x1, o1, h1, h2, h3, h4⟩ := hS.rel b vo hb
  rw [hx] at h1
  simp only [Option.some.injEq] at h1
  subst h1
  refine ⟨below_turned hS.below hS.size h2 ht hS.below.size, Nat.le_trans hS.size ht.size, ?_, ?_, hS.fresh⟩
  · intro id v hv
    rcases Tr.at_set hv with ⟨rfl, rfl⟩ | ⟨hne, hv⟩
    · exact ⟨x, o', hx, h2, ho, hr⟩
    · obtain ⟨y, p, g1, g2, g3, g4⟩ := hS.rel id v hv
      refine ⟨y, p, g1, g2, ?_, g4⟩
      rw [ht.other y.blk (lt_of_heap g3) (hS.inj id b v vo y x hv hb g1 hx hne)]
      exact g3
  · intro id id' v v' y y' hv0 hv' hy hy' hne
    rcases Tr.at_set hv0 with ⟨rfl, rfl⟩ | ⟨h5, hv⟩
    · rcases Tr.at_set hv' with ⟨rfl, rfl⟩ | ⟨h6, hv'⟩
      · exact absurd rfl hne
      · exact hS.inj _ _ _ _ _ _ hb hv' hy hy' hne
    · clear hv0
      rcases Tr.at_set hv' with ⟨rfl, rfl⟩ | ⟨h6, hv'⟩
      · exact hS.inj _ _ _ _ _ _ hv hb hy hy' hne
      · exact hS.inj _ _ _ _ _ _ hv hv' hy hy' hne

/-- A new block. -/
theorem St.new (hS : St B w0 e H nx w) {vo : VO} {x : Ent} {o : Obj} (hb : x.blk = w.heap.size) (hos : w'.os = w.os) (htape : w'.tape = w.tape) (hout : w'.output = w.output) (hheap : w'.heap = w.heap.push o)
    (hr : ORel (e.put nx x) vo x o) : St B w0 (e.put nx x) (H.set nx vo) (nx + 1) w' := by
  have hf := hS.fresh nx (Nat.le_refl _)
  have hle := Env.le_put (x := x) hf
  have hold : ∀ {k : Nat} {p : Obj}, w.heap[k]? = some p → w'.heap[k]? = some p := fun {k p} h => by
    have := lt_of_heap h
    rw [hheap, Array.getElem?_push, if_neg (by omega)]
    exact h
  have hsz : w'.heap.size = w.heap.size + 1 := by rw [hheap, Array.size_push]
  refine ⟨⟨hos.trans hS.below.os, htape.trans hS.below.tape, hout.trans hS.below.output, by have := hS.below.size; omega, fun j hj => ?_⟩, by have := hS.size; omega, ?_, ?_, ?_⟩
  · have := hS.size
    rw [hheap, Array.getElem?_push, if_neg (by omega)]
    exact hS.below.block j hj
  · intro id v hv
    rcases Tr.at_set hv with ⟨rfl, rfl⟩ | ⟨hne, hv⟩
    · exact ⟨x, o, Env.put_same _ _ _, by rw [hb]; exact hS.size, by rw [hheap, hb]; simp, hr⟩
    · obtain ⟨y, p, g1, g2, g3, g4⟩ := hS.rel id v hv
      exact ⟨y, p, hle _ _ g1, g2, hold g3, g4.mono hle⟩
  · intro id id' v v' y y' hv0 hv' hy hy' hne
    have key : ∀ {i : Nat} {u : VO} {z : Ent}, H.at' i = some u → (e.put nx x) i = some z → e i = some z ∧ z.blk < w.heap.size := fun {i u z} hu hz => by
      obtain ⟨z1, p, g1, g2, g3, g4⟩ := hS.rel i u hu
      have := hle _ _ g1
      rw [hz] at this
      simp only [Option.some.injEq] at this
      subst this
      exact ⟨g1, lt_of_heap g3⟩
    rcases Tr.at_set hv0 with ⟨rfl, rfl⟩ | ⟨h5, hv⟩
    · rw [Env.put_same] at hy
      simp only [Option.some.injEq] at hy
      subst hy
      rcases Tr.at_set hv' with ⟨rfl, rfl⟩ | ⟨h6, hv'⟩
      · exact absurd rfl hne
      · have := (key hv' hy').2; omega
    · clear hv0
      rcases Tr.at_set hv' with ⟨rfl, rfl⟩ | ⟨h6, hv'⟩
      · rw [Env.put_same] at hy'
        simp only [Option.some.injEq] at hy'
        subst hy'
        have := (key hv hy).2; omega
      · exact hS.inj _ _ _ _ _ _ hv hv' (key hv hy).1 (key hv' hy').1 hne
  · intro i hi
    rw [Env.put_other _ _ (by omega)]
    exact hS.fresh i (by omega)

/-- A known block gets another name. -/
theorem St.move (hS : St B w0 e H nx w) {b : Nat} {vo vo' : VO} {x y : Ent} {o' : Obj} (hb : H.at' b = some vo) (hx : e b = some x) (hy : y.blk = x.blk) (ht : Turned w w' x.blk) (ho : w'.heap[x.blk]? = some o')
    (hr : ORel (e.put nx y) vo' y o') : St B w0 (e.put nx y) ((H.del b).set nx vo') (nx + 1) w' := by
  have hf := hS.fresh nx (Nat.le_refl _)
  have hle := Env.le_put (x := y) hf
  obtain ⟨x1, o1, h1, h2, h3, h4⟩ := hS.rel b vo hb
  rw [hx] at h1
  simp only [Option.some.injEq] at h1
  subst h1
  have key : ∀ {i : Nat} {u : VO} {z : Ent}, H.at' i = some u → (e.put nx y) i = some z → e i = some z := fun {i u z} hu hz => by
    obtain ⟨z1, p, g1, g2, g3, g4⟩ := hS.rel i u hu
    have := hle _ _ g1
    rw [hz] at this
    simp only [Option.some.injEq] at this
    subst this
    exact g1
  refine ⟨below_turned hS.below hS.size h2 ht hS.below.size, Nat.le_trans hS.size ht.size, ?_, ?_, ?_⟩
  · intro id v hv
    rcases Tr.at_set hv with ⟨rfl, rfl⟩ | ⟨hne, hv⟩
    · exact ⟨y, o', Env.put_same _ _ _, by rw [hy]; exact h2, by rw [hy]; exact ho, hr⟩
    · obtain ⟨hnb, hv⟩ := Tr.at_del hv
      obtain ⟨z, p, g1, g2, g3, g4⟩ := hS.rel id v hv
      refine ⟨z, p, hle _ _ g1, g2, ?_, g4.mono hle⟩
      rw [ht.other z.blk (lt_of_heap g3) (hS.inj id b v vo z x hv hb g1 hx hnb)]
      exact g3
  · intro id id' v v' z z' hv0 hv' hz hz' hne
    rcases Tr.at_set hv0 with ⟨rfl, rfl⟩ | ⟨h5, hv⟩
    · rw [Env.put_same] at hz
      simp only [Option.some.injEq] at hz
      subst hz
      rcases Tr.at_set hv' with ⟨rfl, rfl⟩ | ⟨h6, hv'⟩
      · exact absurd rfl hne
      · obtain ⟨hnb, hv'⟩ := Tr.at_del hv'
        rw [hy]
        exact fun h => hS.inj id' b v' vo z' x hv' hb (key hv' hz') hx hnb h.symm
    · clear hv0
      obtain ⟨hnb, hv1⟩ := Tr.at_del hv
      clear hv
      have hv := hv1
      clear hv1
      rcases Tr.at_set hv' with ⟨rfl, rfl⟩ | ⟨h6, hv'⟩
      · rw [Env.put_same] at hz'
        simp only [Option.some.injEq] at hz'
        subst hz'
        rw [hy]
        exact hS.inj id b v vo z x hv hb (key hv hz) hx hnb
      · obtain ⟨hnb', hv'⟩ := Tr.at_del hv'
        exact hS.inj _ _ _ _ _ _ hv hv' (key hv hz) (key hv' hz') hne
  · intro i hi
    rw [Env.put_other _ _ (by omega)]
    exact hS.fresh i (by omega)

theorem St.drew (hS : St B w0 e H nx w) : St B w0 e H nx { w with drawn := w.drawn + 1 } :=
  ⟨⟨hS.below.os, hS.below.tape, hS.below.output, hS.below.size, hS.below.block⟩, hS.size, hS.rel, hS.inj, hS.fresh⟩
end
end Go.Ex
