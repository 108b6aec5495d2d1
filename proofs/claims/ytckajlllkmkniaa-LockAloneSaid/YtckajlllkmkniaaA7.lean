/-
  Texts of the proof, merged: SyNd SyNe L20a Lkf LkA L21 SyFr L22 Post SyBr La.
-/
import Derived.WalkKit
import Derived.ProofKit
import Derived.OpenShut
import Derived.Below
import Derived.ChangeSame
import Derived.Carry
import Derived.ChangeArms
import Derived.Test.YtckajlllkmkniaaChecked
import Derived.Test.YtckajlllkmkniaaA6
set_option linter.unusedVariables false
set_option linter.unusedSimpArgs false
section
namespace Go.Sy.Nd
open Go Go.Sy Go.Sl Go.RowKit
section
variable (P : Program) (E : Nat → Tr SV → Heap → Nat → Oper → Res → Prop) (nt : Nat) (ops : Array Oper) (T0 : Tr SV)
def Src (R : List Rec) (i : Nat) (t : Nat) (s : SV) : Prop :=
  (∃ (k : Nat) (r : Rec), k < i ∧ R[k]? = some r ∧ r.o.dst = some t ∧ r.val = s) ∨ ((∀ (k : Nat) (r : Rec), k < i → R[k]? = some r → r.o.dst ≠ some t) ∧ T0.at' t = some s)
structure RecOK (R : List Rec) (Q : List (Heap × Nat)) (C : List Nat) (i : Nat) (r : Rec) : Prop where
  idx : r.i = i
  op : ops[i]? = some r.o
  slots : ∀ t s, r.T.at' t = some s → Operand.tmp t ∈ needs ops.toList r.o ∧ Src T0 R i t s
  want : wantedS r.T ops r.o = some r.wanted
  skip : r.wanted = false → r.val = undefS ∧ r.chain = false
  float : r.wanted = true → r.chain = false → (∀ c, r.o.op ≠ .defer c) ∧ ∃ H n, Q[r.stg]? = some (H, n) ∧ ReadDoes P r.T H r.o r.val
  eff : r.chain = true → r.wanted = true ∧ C[r.stg]? = some i ∧ ∃ H n H' n', Q[r.stg]? = some (H, n) ∧ Q[r.stg + 1]? = some (H', n') ∧ E i r.T H n r.o (r.val, H', n')
structure DSOK (i : Nat) (s : DS) : Prop where
  len : s.recs.length = i
  hs : s.Hs.length = s.stg + 1
  last : s.Hs.reverse[s.stg]? = some (s.H, s.nx)
  cnt : ((s.recs.reverse.filter (·.chain)).map (·.i)).length = s.stg
  recs : ∀ (k : Nat) r, s.recs.reverse[k]? = some r → RecOK P E ops T0 s.recs.reverse s.Hs.reverse ((s.recs.reverse.filter (·.chain)).map (·.i)) k r
  slots : ∀ t v, s.T.at' t = some v → Src T0 s.recs.reverse i t v
end
section
variable {P : Program} {rn : Rn} {E : Nat → Tr SV → Heap → Nat → Oper → Res → Prop} {nt : Nat} {ops : Array Oper} {T0 : Tr SV}
theorem Src.mono {R R' : List Rec} {i : Nat} {t : Nat} {s : SV} (h : Src T0 R i t s) (hR : ∀ k, k < i → R'[k]? = R[k]?) : Src T0 R' i t s := by
  rcases h with ⟨k, r, h1, h2, h3, h4⟩ | ⟨h1, h2⟩
  · exact .inl ⟨k, r, h1, by rw [hR k h1]; exact h2, h3, h4⟩
  · exact .inr ⟨fun k r hk hr => h1 k r hk (by rw [← hR k hk]; exact hr), h2⟩
theorem RecOK.mono {R R' : List Rec} {Q Q' : List (Heap × Nat)} {C C' : List Nat} {i : Nat} {r : Rec} (h : RecOK P E ops T0 R Q C i r) (hR : ∀ k, k < i → R'[k]? = R[k]?) (hQ : ∀ (j : Nat) x, Q[j]? = some x → Q'[j]? = some x) (hC : ∀ (j : Nat) x, C[j]? = some x → C'[j]? = some x) :
    RecOK P E ops T0 R' Q' C' i r :=
  ⟨h.idx, h.op, fun t s hs => let ⟨a, b⟩ := h.slots t s hs; ⟨a, b.mono hR⟩, h.want, h.skip, fun a b => let ⟨x, H, n, c, d⟩ := h.float a b; ⟨x, H, n, hQ _ _ c, d⟩,
    fun a => let ⟨b, c, H, n, H', n', d, e, f⟩ := h.eff a; ⟨b, hC _ _ c, H, n, H', n', hQ _ _ d, hQ _ _ e, f⟩⟩
theorem get_snoc {A : Type} {l : List A} {x y : A} {j : Nat} (h : l[j]? = some y) : (l ++ [x])[j]? = some y := by
  rw [List.getElem?_append_left (List.getElem?_eq_some_iff.1 h).1]; exact h
theorem get_last {A : Type} (l : List A) (x : A) : (l ++ [x])[l.length]? = some x := by simp
theorem DSOK.snoc {i : Nat} {s : DS} (h : DSOK P E ops T0 i s) (hdst : ∀ (j : Nat) o d, ops.toList[j]? = some o → o.dst = some d → d < nt) {r : Rec} {H : Heap} {nx : Nat} {Hs : List (Heap × Nat)} {stg : Nat} (ho : ops[i]? = some r.o)
    (hlen : Hs.length = stg + 1) (hlast : Hs.reverse[stg]? = some (H, nx)) (hQ : ∀ (j : Nat) x, s.Hs.reverse[j]? = some x → Hs.reverse[j]? = some x) (hcnt : (if r.chain then s.stg + 1 else s.stg) = stg)
    (hrec : RecOK P E ops T0 (s.recs.reverse ++ [r]) Hs.reverse (((s.recs.reverse ++ [r]).filter (·.chain)).map (·.i)) i r) : DSOK P E ops T0 (i + 1) ⟨putS nt s.T r.o.dst r.val, H, nx, r :: s.recs, Hs, stg⟩ := by
  have hR : ∀ k, k < i → (s.recs.reverse ++ [r])[k]? = s.recs.reverse[k]? := fun k hk => List.getElem?_append_left (by simp [h.len]; exact hk)
  have hri : (s.recs.reverse ++ [r])[i]? = some r := by have := get_last s.recs.reverse r; rw [List.length_reverse, h.len] at this; exact this
  refine ⟨by simp [h.len], hlen, hlast, ?_, fun k r' hr' => ?_, fun t v hv => ?_⟩
  · simp only [List.reverse_cons, List.filter_append, List.map_append, List.length_append, h.cnt]
    rw [← hcnt]
    cases hc : r.chain <;> simp [List.filter_cons, hc]
  · simp only [List.reverse_cons] at hr' ⊢
    rcases Nat.lt_or_ge k i with hk | hk
    · rw [hR k hk] at hr'
      refine (h.recs k r' hr').mono (fun k' hk' => hR k' (by omega)) hQ (fun j x hj => ?_)
      rw [List.filter_append, List.map_append]
      rw [List.getElem?_append_left (List.getElem?_eq_some_iff.1 hj).1]
      exact hj
    · have : k = i := by
        have := (List.getElem?_eq_some_iff.1 hr').1
        simp [h.len] at this
        omega
      subst this
      rw [hri] at hr'
      simp only [Option.some.injEq] at hr'
      subst hr'
      exact hrec
  · simp only [List.reverse_cons] at hv ⊢
    have old : s.T.at' t = some v → r.o.dst ≠ some t → Src T0 (s.recs.reverse ++ [r]) (i + 1) t v := by
      intro hv hne
      rcases h.slots t v hv with ⟨k, r', h1, h2, h3, h4⟩ | ⟨h1, h2⟩
      · exact .inl ⟨k, r', by omega, by rw [hR k h1]; exact h2, h3, h4⟩
      · refine .inr ⟨fun k r' hk hr' => ?_, h2⟩
        rcases Nat.lt_or_ge k i with hk' | hk'
        · rw [hR k hk'] at hr'
          exact h1 k r' hk' hr'
        · have : k = i := by omega
          subst this
          rw [hri] at hr'
          simp only [Option.some.injEq] at hr'
          subst hr'
          exact hne
    cases hd : r.o.dst with
    | none => rw [hd] at hv old; exact old hv (by simp)
    | some d =>
      rw [hd] at hv
      have hlt := hdst i r.o d (by simpa using ho) hd
      simp only [putS, show Nat.blt d nt = true from Nat.ble_eq_true_of_le hlt, cond_true] at hv
      rcases Tr.at_set hv with ⟨rfl, rfl⟩ | ⟨hne, hv⟩
      · exact .inl ⟨i, r, by omega, hri, hd, rfl⟩
      · exact old hv (by rw [hd]; simp; exact fun hc => hne hc.symm)
theorem drawOne_ok {i : Nat} {o : Oper} {s s' : DS} (hE : ∀ T H nx r, DrawEff P rn T H nx o r → E i T H nx o r) (h : DSOK P E ops T0 i s) (hdst : ∀ (j : Nat) o d, ops.toList[j]? = some o → o.dst = some d → d < nt) (ho : ops[i]? = some o) (hd : DrawOne P rn nt ops i o s s') : DSOK P E ops T0 (i + 1) s' := by
  have hslots : ∀ (R : List Rec), (∀ k, k < i → R[k]? = s.recs.reverse[k]?) → ∀ t v, (onlyT s.T (needs ops.toList o)).at' t = some v → Operand.tmp t ∈ needs ops.toList o ∧ Src T0 R i t v := by
    intro R hR t v hv
    obtain ⟨h1, h2⟩ := onlyT_at _ t v hv
    exact ⟨h1, (h.slots t v h2).mono hR⟩
  have hR : ∀ (r : Rec) k, k < i → (s.recs.reverse ++ [r])[k]? = s.recs.reverse[k]? := fun r k hk => List.getElem?_append_left (by simp [h.len]; exact hk)
  rcases hd with ⟨hw, rfl⟩ | ⟨hw, hnd, v, hf, rfl⟩ | ⟨hw, v, H, nx, he, rfl⟩
  · exact h.snoc (r := ⟨i, o, _, s.stg, false, false, undefS⟩) hdst ho h.hs h.last (fun _ _ hj => hj) rfl
      ⟨rfl, ho, hslots _ (hR _), hw, fun _ => ⟨rfl, rfl⟩, fun hc _ => (by cases hc), fun hc => (by cases hc)⟩
  · exact h.snoc (r := ⟨i, o, _, s.stg, false, true, v⟩) hdst ho h.hs h.last (fun _ _ hj => hj) rfl
      ⟨rfl, ho, hslots _ (hR _), hw, fun hc => (by cases hc), fun _ _ => ⟨hnd, s.H, s.nx, h.last, hf⟩, fun hc => (by cases hc)⟩
  · have hl := h.hs
    have hq : ∀ (j : Nat) x, s.Hs.reverse[j]? = some x → ((H, nx) :: s.Hs).reverse[j]? = some x := fun j x hj => by rw [List.reverse_cons]; exact get_snoc hj
    have hlast : ((H, nx) :: s.Hs).reverse[s.stg + 1]? = some (H, nx) := by
      rw [List.reverse_cons]
      have := get_last s.Hs.reverse (H, nx)
      rw [List.length_reverse, hl] at this
      exact this
    refine h.snoc (r := ⟨i, o, _, s.stg, true, true, v⟩) hdst ho (by simp [hl]) hlast hq rfl
      ⟨rfl, ho, hslots _ (hR _), hw, fun hc => (by cases hc), fun _ hc => (by cases hc), fun _ => ⟨rfl, ?_, s.H, s.nx, H, nx, hq _ _ h.last, hlast, hE _ _ _ _ he⟩⟩
    simp only [List.filter_append, List.map_append, List.filter_cons, if_true, List.filter_nil, List.map_cons, List.map_nil]
    have := get_last ((s.recs.reverse.filter (·.chain)).map (·.i)) i
    rw [h.cnt] at this
    exact this
theorem drawPart_ok (hdst : ∀ (j : Nat) o d, ops.toList[j]? = some o → o.dst = some d → d < nt) : ∀ (l : List Oper) (i : Nat) (s s' : DS), (∀ (k : Nat) o, l[k]? = some o → ops[i + k]? = some o ∧ ∀ T H nx r, DrawEff P rn T H nx o r → E (i + k) T H nx o r) → DSOK P E ops T0 i s → DrawRun P rn nt ops i l s s' → DSOK P E ops T0 (i + l.length) s'
  | [], i, s, s', _, h, hd => by
    cases hd
    exact h
  | o :: l, i, s, s', hl, h, hd => by
    cases hd with
    | cons hone hd =>
      obtain ⟨ho, hE⟩ := hl 0 o rfl
      have := drawPart_ok hdst l (i + 1) _ s' (fun k o' hk => by
        have := hl (k + 1) o' (by simpa using hk)
        rw [show i + 1 + k = i + (k + 1) by omega]
        exact this) (drawOne_ok hE h hdst ho hone) hd
      rw [List.length_cons, show i + (l.length + 1) = i + 1 + l.length by omega]
      exact this
end
def EffStep (P : Program) (K : Zone) (w0 : World) (nt : Nat) (ops : Array Oper) (E : Nat → Tr SV → Heap → Nat → Oper → Res → Prop) (i : Nat) : Prop :=
  ∀ {e : Env} {w : World} {H : Heap} {n : Nat} {T : Tr SV} {tr : Array Value} {fn : FuncId} {rest : List Nat} {k : List Item} {ds : List Deferred} {kd : CallKind} {rof : Option Nat} {cs : List Frame} {o : Oper} {v : SV} {H2 : Heap} {n2 : Nat}, St K w0 e H n w → TRel e nt T tr → ops[i]? = some o → Region.wanted o (yielded ops tr) = true → E i T H n o (v, H2, n2) →
    ∃ e' w' u, e.le e' ∧ St K w0 e' H2 n2 w' ∧ v.conc e' = some u ∧ Steps P (lone (fr0 fn tr (.inRegion ops (i :: rest) :: k) ds kd rof) cs w) (lone (fr0 fn (putV tr o.dst u) (.inRegion ops rest :: k) ds kd rof) cs w')
section
variable {P : Program} {K : Zone} {w0 w : World} {e : Env} {H : Heap} {nx : Nat} {E : Nat → Tr SV → Heap → Nat → Oper → Res → Prop}
structure RegOK (P : Program) (E : Nat → Tr SV → Heap → Nat → Oper → Res → Prop) (nt : Nat) (ops : Array Oper) (T0 : Tr SV) (R : List Rec) (Q : List (Heap × Nat)) (C : List Nat) : Prop where
  len : R.length = ops.size
  recs : ∀ (k : Nat) r, R[k]? = some r → RecOK P E ops T0 R Q C k r
  stages : Q.length = C.length + 1
  chainR : C = (R.filter (·.chain)).map (·.i)
  chain : chainOk (ancGo [] ops.toList) C = true
  floats : ∀ r ∈ R, r.chain = false → r.wanted = true → (∀ c, r.o.op ≠ .defer c) ∧ ∀ s, lowOf ((ancGo [] ops.toList).getD r.i 0) C ≤ s → s ≤ highOf (ancGo [] ops.toList) r.i C → ∀ H n, Q[s]? = some (H, n) → ReadDoes P r.T H r.o r.val
  small : ∀ (i : Nat) o d, ops.toList[i]? = some o → o.dst = some d → d < nt
  dist : ∀ (i j : Nat) oi oj d, ops.toList[i]? = some oi → ops.toList[j]? = some oj → oi.dst = some d → oj.dst = some d → i = j
  edges : ∀ (i : Nat) o, ops.toList[i]? = some o → edgesOk i o.after.toList = true
  opnds : ∀ (i : Nat) o, ops.toList[i]? = some o → operandsOk ops.toList (ancGo [] ops.toList) i ((ancGo [] ops.toList).getD i 0) (needs ops.toList o) = true
def Good (T0 : Tr SV) (R : List Rec) (L : Nat → Prop) (t : Nat) (s : SV) : Prop :=
  (∃ (k : Nat) (r : Rec), L k ∧ R[k]? = some r ∧ r.o.dst = some t ∧ r.val = s) ∨ ((∀ (k : Nat) (r : Rec), L k → R[k]? = some r → r.o.dst ≠ some t) ∧ T0.at' t = some s)
structure PInv (K : Zone) (w0 : World) (nt : Nat) (ops : Array Oper) (T0 : Tr SV) (R : List Rec) (Q : List (Heap × Nat)) (C : List Nat) (L : Nat → Prop) (s : Nat) (e : Env) (w : World) (tr : Array Value) : Prop where
  st : ∃ H n, Q[s]? = some (H, n) ∧ St K w0 e H n w
  size : tr.size = nt
  good : ∀ t sv, Good T0 R L t sv → ∃ v, sv.conc e = some v ∧ tr.getD t undef = v
  chain : ∀ (j c : Nat), C[j]? = some c → (L c ↔ j < s)
  closed : ∀ (i : Nat) o, L i → ops.toList[i]? = some o → ∀ ed ∈ o.after.toList, Region.binds .any ed = true → L ed.on
variable {nt : Nat} {ops : Array Oper} {T0 : Tr SV} {R : List Rec} {Q : List (Heap × Nat)} {C : List Nat}
theorem PInv.need (hR : RegOK P E nt ops T0 R Q C) {L : Nat → Prop} {s : Nat} {tr : Array Value} (h : PInv K w0 nt ops T0 R Q C L s e w tr) {i : Nat} {o : Oper} (ho : ops[i]? = some o) (hni : ¬ L i)
    (hed : ∀ ed ∈ o.after.toList, Region.binds .any ed = true → L ed.on) {r : Rec} (hr : R[i]? = some r) : TRel e nt r.T tr ∧ Region.wanted o (yielded ops tr) = r.wanted := by
  have hoL : ops.toList[i]? = some o := by simpa using ho
  have hilt : i < ops.size := (Array.getElem?_eq_some_iff.1 ho).1
  have hrec := hR.recs i r hr
  have hro : r.o = o := by
    have := hrec.op
    rw [ho] at this
    simpa using this.symm
  have hanc := anc_listed L hR.edges (fun i o hi ho' => h.closed i o hi ho') i o hoL hed
  -- the slots that it needs
  have hT : TRel e nt r.T tr := by
    refine ⟨h.size, fun t sv ht => ?_⟩
    obtain ⟨hneed, hsrc⟩ := hrec.slots t sv ht
    rw [hro] at hneed
    have hwr : ∀ (k' : Nat) o', ops.toList[k']? = some o' → o'.dst = some t → (L k' ∧ k' < i) ∨ (¬ L k' ∧ i < k') := fun k' o' ho' hd' => by
      rcases operandsOk_ok hR.dist (hR.opnds i o hoL) t hneed k' o' ho' hd' with hb | hb
      · exact .inl (hanc k' hb)
      · refine .inr ⟨fun hL => ?_, ?_⟩
        · exact hni (anc_listed L hR.edges (fun i o hi ho' => h.closed i o hi ho') k' o' ho' (h.closed k' o' hL ho') i hb).1
        · exact (anc_listed (fun _ => True) hR.edges (fun _ _ _ _ _ _ _ => trivial) k' o' ho' (fun _ _ _ => trivial) i hb).2
    refine h.good t sv ?_
    rcases hsrc with ⟨k', r', h1, h2, h3, h4⟩ | ⟨h1, h2⟩
    · have hop := (hR.recs k' r' h2).op
      rcases hwr k' r'.o (by simpa using hop) h3 with g | g
      · exact .inl ⟨k', r', g.1, h2, h3, h4⟩
      · omega
    · refine .inr ⟨fun k' r' hLk hr' hd' => ?_, h2⟩
      have hop := (hR.recs k' r' hr').op
      rcases hwr k' r'.o (by simpa using hop) hd' with g | g
      · exact h1 k' r' g.2 hr' hd'
      · exact g.1 hLk
  have hwant := wantedS_ok hrec.want hT
  rw [hro] at hwant
  exact ⟨hT, hwant⟩
theorem PInv.step (hR : RegOK P E nt ops T0 R Q C) {L : Nat → Prop} {s : Nat} {tr : Array Value} (h : PInv K w0 nt ops T0 R Q C L s e w tr) {i : Nat} {o : Oper} (ho : ops[i]? = some o) (hni : ¬ L i)
    (hed : ∀ ed ∈ o.after.toList, Region.binds .any ed = true → L ed.on) (fn : FuncId) (rest : List Nat) (k : List Item) (ds : List Deferred) (kd : CallKind) (rof : Option Nat) (cs : List Frame) (hX : ∀ r, R[i]? = some r → r.chain = true → ∀ H n H2 n2, Q[s]? = some (H, n) → Q[s + 1]? = some (H2, n2) → E i r.T H n o (r.val, H2, n2) → St K w0 e H n w → TRel e nt r.T tr → Region.wanted o (yielded ops tr) = true → ∃ e' w' u, e.le e' ∧ St K w0 e' H2 n2 w' ∧ r.val.conc e' = some u ∧ Steps P (lone (fr0 fn tr (.inRegion ops (i :: rest) :: k) ds kd rof) cs w) (lone (fr0 fn (putV tr o.dst u) (.inRegion ops rest :: k) ds kd rof) cs w')) :
    ∃ e' w' tr' s', e.le e' ∧ PInv K w0 nt ops T0 R Q C (fun j => L j ∨ j = i) s' e' w' tr' ∧
      Steps P (lone (fr0 fn tr (.inRegion ops (i :: rest) :: k) ds kd rof) cs w) (lone (fr0 fn tr' (.inRegion ops rest :: k) ds kd rof) cs w') := by
  have hoL : ops.toList[i]? = some o := by simpa using ho
  have hilt : i < ops.size := (Array.getElem?_eq_some_iff.1 ho).1
  obtain ⟨r, hr⟩ : ∃ r, R[i]? = some r := ⟨_, List.getElem?_eq_getElem (by rw [hR.len]; exact hilt)⟩
  have hrec := hR.recs i r hr
  have hro : r.o = o := by
    have := hrec.op
    rw [ho] at this
    simpa using this.symm
  have hanc := anc_listed L hR.edges (fun i o hi ho' => h.closed i o hi ho') i o hoL hed
  -- the slots that it needs
  have hT : TRel e nt r.T tr := by
    refine ⟨h.size, fun t sv ht => ?_⟩
    obtain ⟨hneed, hsrc⟩ := hrec.slots t sv ht
    rw [hro] at hneed
    have hwr : ∀ (k' : Nat) o', ops.toList[k']? = some o' → o'.dst = some t → (L k' ∧ k' < i) ∨ (¬ L k' ∧ i < k') := fun k' o' ho' hd' => by
      rcases operandsOk_ok hR.dist (hR.opnds i o hoL) t hneed k' o' ho' hd' with hb | hb
      · exact .inl (hanc k' hb)
      · refine .inr ⟨fun hL => ?_, ?_⟩
        · exact hni (anc_listed L hR.edges (fun i o hi ho' => h.closed i o hi ho') k' o' ho' (h.closed k' o' hL ho') i hb).1
        · exact (anc_listed (fun _ => True) hR.edges (fun _ _ _ _ _ _ _ => trivial) k' o' ho' (fun _ _ _ => trivial) i hb).2
    refine h.good t sv ?_
    rcases hsrc with ⟨k', r', h1, h2, h3, h4⟩ | ⟨h1, h2⟩
    · have hop := (hR.recs k' r' h2).op
      rcases hwr k' r'.o (by simpa using hop) h3 with g | g
      · exact .inl ⟨k', r', g.1, h2, h3, h4⟩
      · omega
    · refine .inr ⟨fun k' r' hLk hr' hd' => ?_, h2⟩
      have hop := (hR.recs k' r' hr').op
      rcases hwr k' r'.o (by simpa using hop) hd' with g | g
      · exact h1 k' r' g.2 hr' hd'
      · exact g.1 hLk
  have hwant := wantedS_ok hrec.want hT
  rw [hro] at hwant
  -- what comes of it
  have build : ∀ (e' : Env) (w' : World) (u : Value) (s' : Nat), e.le e' → (∃ H n, Q[s']? = some (H, n) ∧ St K w0 e' H n w') → r.val.conc e' = some u → (∀ (j c : Nat), C[j]? = some c → ((L c ∨ c = i) ↔ j < s')) →
      PInv K w0 nt ops T0 R Q C (fun j => L j ∨ j = i) s' e' w' (putV tr o.dst u) := by
    intro e' w' u s' hle hst hu hch
    refine ⟨hst, ?_, fun t sv hg => ?_, hch, fun j oj hj hoj ed hed' hb => ?_⟩
    · unfold putV
      cases o.dst with
      | none => exact h.size
      | some d => simpa using h.size
    · have old : (∀ d, o.dst = some d → d ≠ t) → ∃ v, sv.conc e' = some v ∧ (putV tr o.dst u).getD t undef = v := by
        intro hne
        have hg' : Good T0 R L t sv := by
          rcases hg with ⟨k', r', hk', h2, h3, h4⟩ | hg
          · refine .inl ⟨k', r', ?_, h2, h3, h4⟩
            rcases hk' with hk' | rfl
            · exact hk'
            · exfalso
              rw [hr] at h2
              simp only [Option.some.injEq] at h2
              subst h2
              rw [hro] at h3
              exact hne t h3 rfl
          · exact .inr ⟨fun k' r' hLk => hg.1 k' r' (.inl hLk), hg.2⟩
        obtain ⟨v, hv, hgv⟩ := h.good t sv hg'
        refine ⟨v, SV.conc_mono hle _ _ hv, ?_⟩
        cases hd : o.dst with
        | none => exact hgv
        | some d =>
          have := hne d hd
          simp only [putV]
          rw [Array.getD_eq_getD_getElem?, Array.getElem?_setIfInBounds_ne this, ← Array.getD_eq_getD_getElem?]
          exact hgv
      cases hd : o.dst with
      | none => rw [hd] at old; exact old (fun d hd' => by cases hd')
      | some d =>
        by_cases hdt : d = t
        · subst hdt
          have hval : sv = r.val := by
            rcases hg with ⟨k', r', hk', h2, h3, h4⟩ | ⟨h1, _⟩
            · have hop := (hR.recs k' r' h2).op
              have := hR.dist k' i r'.o o d (by simpa using hop) hoL h3 hd
              subst this
              rw [hr] at h2
              simp only [Option.some.injEq] at h2
              subst h2
              exact h4.symm
            · exact absurd (by rw [hro]; exact hd) (h1 i r (.inr rfl) hr)
          subst hval
          refine ⟨u, hu, ?_⟩
          have hlt := hR.small i o d hoL hd
          simp only [putV]
          rw [Array.getD_eq_getD_getElem?, Array.getElem?_setIfInBounds_self_of_lt (by rw [h.size]; exact hlt)]
          rfl
        · rw [hd] at old
          exact old (fun d' hd' => by simp only [Option.some.injEq] at hd'; subst hd'; exact hdt)
    · rcases hj with hj | rfl
      · exact .inl (h.closed j oj hj hoj ed hed' hb)
      · rw [hoL] at hoj
        simp only [Option.some.injEq] at hoj
        subst hoj
        exact .inl (hed ed hed' hb)
  have notChain : r.chain = false → ∀ (j c : Nat), C[j]? = some c → ((L c ∨ c = i) ↔ j < s) := by
    intro hc j c hj
    have hne : c ≠ i := by
      rintro rfl
      rw [hR.chainR] at hj
      rw [List.getElem?_map, Option.map_eq_some_iff] at hj
      obtain ⟨r', hr', hi'⟩ := hj
      have hmem := List.mem_of_getElem? hr'
      rw [List.mem_filter] at hmem
      obtain ⟨k', hk'⟩ := List.mem_iff_getElem?.1 hmem.1
      have := (hR.recs k' r' hk').idx
      rw [hi'] at this
      subst this
      rw [hr] at hk'
      simp only [Option.some.injEq] at hk'
      subst hk'
      rw [hc] at hmem
      simp at hmem
    rw [← h.chain j c hj]
    simp [hne]
  obtain ⟨H, n, hQ, hS⟩ := h.st
  cases hwd : r.wanted with
  | false =>
    rw [hwd] at hwant
    obtain ⟨h1, h2⟩ := hrec.skip hwd
    exact ⟨e, w, _, s, Env.le_refl e, build e w undef s (Env.le_refl e) ⟨H, n, hQ, hS⟩ (by rw [h1]; rfl) (notChain h2), .one (st_notWanted ho hwant)⟩
  | true =>
    rw [hwd] at hwant
    cases hc : r.chain with
    | false =>
      have hri := hrec.idx
      have hlo : lowOf ((ancGo [] ops.toList).getD r.i 0) C ≤ s := by
        rcases Nat.lt_or_ge s (lowOf ((ancGo [] ops.toList).getD r.i 0) C) with hlt | hge
        · exfalso
          obtain ⟨c, h1, h2⟩ := lowOf_ok s hlt
          rw [hri] at h2
          have := (h.chain s c h1).1 (hanc c h2).1
          omega
        · exact hge
      have hhi : s ≤ highOf (ancGo [] ops.toList) r.i C := by
        rcases Nat.lt_or_ge (highOf (ancGo [] ops.toList) r.i C) s with hlt | hge
        · exfalso
          have hsC : s ≤ C.length := by
            have := (List.getElem?_eq_some_iff.1 hQ).1
            have := hR.stages
            omega
          obtain ⟨c, h1, h2⟩ := highOf_ok (ancs := ancGo [] ops.toList) (i := r.i) (l := C) (by omega)
          have hLc := (h.chain _ c h1).2 hlt
          have hcl : c < ops.size := by
            have hcm := List.mem_of_getElem? h1
            rw [hR.chainR, List.mem_map] at hcm
            obtain ⟨r', hr', rfl⟩ := hcm
            rw [List.mem_filter] at hr'
            obtain ⟨k', hk'⟩ := List.mem_iff_getElem?.1 hr'.1
            have hx := hR.recs k' r' hk'
            rw [hx.idx]
            exact (Array.getElem?_eq_some_iff.1 hx.op).1
          have hoc : ops.toList[c]? = some (ops.toList[c]'(by simpa using hcl)) := List.getElem?_eq_getElem (by simpa using hcl)
          have := anc_listed L hR.edges (fun i o hi ho' => h.closed i o hi ho') c _ hoc (h.closed c _ hLc hoc) r.i h2
          rw [hri] at this
          exact hni this.1
        · exact hge
      have hf := (hR.floats r (List.mem_of_getElem? hr) hc hwd).2 s hlo hhi H n hQ
      have hnd := (hR.floats r (List.mem_of_getElem? hr) hc hwd).1
      rw [hro] at hf hnd
      obtain ⟨u, hu, hst⟩ := float_steps (P := P) (fn := fn) (rest := rest) (k := k) (ds := ds) (kd := kd) (rof := rof) (cs := cs) hS hT ho hwant hnd hf
      exact ⟨e, w, _, s, Env.le_refl e, build e w u s (Env.le_refl e) ⟨H, n, hQ, hS⟩ hu (notChain hc), hst⟩
    | true =>
      obtain ⟨_, hC, H1, n1, H2, n2, hQ1, hQ2, heff⟩ := hrec.eff hc
      have hss : r.stg = s := by
        have h1 : ¬ r.stg < s := fun hlt => hni ((h.chain r.stg i hC).2 hlt)
        rcases Nat.eq_zero_or_pos r.stg with h0 | hp
        · omega
        · have hlt : r.stg - 1 < C.length := by
            have := (List.getElem?_eq_some_iff.1 hC).1
            omega
          have hprev : C[r.stg - 1]? = some C[r.stg - 1] := List.getElem?_eq_getElem hlt
          have hbit := chainOk_ok hR.chain (r.stg - 1) C[r.stg - 1] i hprev (by rw [show r.stg - 1 + 1 = r.stg by omega]; exact hC)
          have := (h.chain _ _ hprev).1 (hanc _ hbit).1
          omega
      rw [hss] at hQ1 hQ2 hC
      rw [hQ] at hQ1
      simp only [Option.some.injEq, Prod.mk.injEq] at hQ1
      obtain ⟨rfl, rfl⟩ := hQ1
      rw [hro] at heff
      obtain ⟨e', w', u, hle, hS', hu, hst⟩ := hX r hr hc H n H2 n2 hQ hQ2 heff hS hT hwant
      refine ⟨e', w', _, s + 1, hle, build e' w' u (s + 1) hle ⟨H2, n2, hQ2, hS'⟩ hu (fun j c hj => ?_), hst⟩
      constructor
      · rintro (hL | rfl)
        · have := (h.chain j c hj).1 hL; omega
        · rcases Nat.lt_or_ge j (s + 1) with hlt | hge
          · exact hlt
          · exfalso
            -- the same place twice in the chain
            have hi1 := chain_inj hR hC hj
            omega
      · intro hlt
        rcases Nat.lt_or_ge j s with hj' | hj'
        · exact .inl ((h.chain j c hj).2 hj')
        · have : j = s := by omega
          subst this
          rw [hC] at hj
          simp only [Option.some.injEq] at hj
          exact .inr hj.symm
where
  chain_inj {P : Program} {E : Nat → Tr SV → Heap → Nat → Oper → Res → Prop} {nt : Nat} {ops : Array Oper} {T0 : Tr SV} {R : List Rec} {Q : List (Heap × Nat)} {C : List Nat} (hR : RegOK P E nt ops T0 R Q C) {s j c : Nat} (h1 : C[s]? = some c) (h2 : C[j]? = some c) : s = j := by
    have hnd : C.Nodup := by
      rw [hR.chainR]
      have hall : ((R.filter (·.chain)).map (·.i)).Sublist (R.map (·.i)) := (List.filter_sublist).map _
      refine hall.nodup ?_
      have : R.map (·.i) = List.range R.length := by
        apply List.ext_getElem?
        intro k
        rw [List.getElem?_map]
        cases hk : R[k]? with
        | none =>
          rw [List.getElem?_eq_none_iff] at hk
          simp [hk]
        | some r =>
          have hlt := (List.getElem?_eq_some_iff.1 hk).1
          rw [Option.map_some, (hR.recs k r hk).idx, List.getElem?_range hlt]
      rw [this]
      exact List.nodup_range
    have a := List.getElem?_eq_some_iff.1 h1
    have b := List.getElem?_eq_some_iff.1 h2
    obtain ⟨a1, a2⟩ := a
    obtain ⟨b1, b2⟩ := b
    exact (List.getElem_inj hnd).1 (a2.trans b2.symm)
end
section
variable {P : Program} {K : Zone} {w0 w : World} {e : Env} {E : Nat → Tr SV → Heap → Nat → Oper → Res → Prop} {nt : Nat} {ops : Array Oper} {T0 : Tr SV} {R : List Rec} {Q : List (Heap × Nat)} {C : List Nat}
def Listed (listed : Array Bool) (j : Nat) : Prop := listed[j]? = some true
theorem ready_mem {listed : Array Bool} (hsz : listed.size = ops.size) {i : Nat} (h : i ∈ Region.ready .any ops listed) : ∃ o, ops[i]? = some o ∧ ¬ Listed listed i ∧ ∀ ed ∈ o.after.toList, Region.binds .any ed = true → Listed listed ed.on := by
  unfold Region.ready at h
  rw [List.mem_filter, List.mem_range, Bool.and_eq_true] at h
  obtain ⟨h1, h2, h3⟩ := h
  have ho : ops[i]? = some ops[i] := Array.getElem?_eq_getElem h1
  refine ⟨ops[i], ho, ?_, fun ed hed hb => ?_⟩
  · intro hl
    unfold Listed at hl
    rw [Array.getD_eq_getD_getElem?, hl] at h2
    simp at h2
  · rw [ho] at h3
    simp only [Option.map_some, Option.getD_some] at h3
    rw [Array.all_eq_true_iff_forall_mem] at h3
    have := h3 ed (by simpa using hed)
    rw [hb] at this
    simp only [Bool.not_true, Bool.false_or] at this
    unfold Listed
    rw [Array.getD_eq_getD_getElem?] at this
    cases hx : listed[ed.on]? with
    | none => rw [hx] at this; simp at this
    | some b => rw [hx] at this; simp only [Option.getD_some] at this; rw [this]
theorem ready_of {listed : Array Bool} (hsz : listed.size = ops.size) (hE : ∀ (i : Nat) o, ops.toList[i]? = some o → edgesOk i o.after.toList = true) {i : Nat} (hi : i < ops.size) (hn : ¬ Listed listed i) : ∃ j, j ∈ Region.ready .any ops listed := by
  induction i using Nat.strongRecOn with
  | _ i ih =>
    have ho : ops[i]? = some ops[i] := Array.getElem?_eq_getElem hi
    by_cases hall : ∀ ed ∈ ops[i].after.toList, Region.binds .any ed = true → Listed listed ed.on
    · refine ⟨i, ?_⟩
      unfold Region.ready
      rw [List.mem_filter, List.mem_range, Bool.and_eq_true]
      refine ⟨hi, ?_, ?_⟩
      · unfold Listed at hn
        rw [Array.getD_eq_getD_getElem?]
        have hlt : i < listed.size := by omega
        rw [Array.getElem?_eq_getElem hlt] at hn ⊢
        simp only [Option.some.injEq, Bool.not_eq_true] at hn
        simp [hn]
      · rw [ho]
        simp only [Option.map_some, Option.getD_some]
        rw [Array.all_eq_true_iff_forall_mem]
        intro ed hed
        cases hb : Region.binds .any ed with
        | false => rfl
        | true =>
          have := hall ed (by simpa only [Array.mem_toList_iff] using hed) hb
          unfold Listed at this
          rw [Array.getD_eq_getD_getElem?, this]
          rfl
    · have : ∃ ed, ed ∈ ops[i].after.toList ∧ Region.binds .any ed = true ∧ ¬ Listed listed ed.on := by
        apply Classical.byContradiction
        intro hc
        apply hall
        intro ed h1 h2
        apply Classical.byContradiction
        intro h3
        exact hc ⟨ed, h1, h2, h3⟩
      obtain ⟨ed, h1, h2, h3⟩ := this
      have hlt := edgesOk_ok (hE i ops[i] (by simp)) ed h1 h2
      exact ih ed.on hlt (by omega) h3
def unlisted (listed : Array Bool) : Nat := listed.toList.count false
theorem count_set : ∀ (l : List Bool) (i : Nat), l[i]? = some false → (l.set i true).count false + 1 = l.count false
  | [], i, h => by simp at h
  | b :: l, 0, h => by
    simp only [List.getElem?_cons_zero, Option.some.injEq] at h
    subst h
    simp [List.count_cons]
  | b :: l, i + 1, h => by
    have := count_set l i (by simpa using h)
    simp only [List.set_cons_succ, List.count_cons]
    omega
theorem pi_steps {c : Nat} (hE : ∀ i, i ≠ c → EffStep P K w0 nt ops E i) (hR : RegOK P E nt ops T0 R Q C) (fn : FuncId) (k : List Item) (ds : List Deferred) (kd : CallKind) (rof : Option Nat) (cs : List Frame) : ∀ (fuel t : Nat) (listed : Array Bool) (s : Nat) (e : Env) (w : World) (tr : Array Value),
    listed.size = ops.size → unlisted listed ≤ fuel → Listed listed c → PInv K w0 nt ops T0 R Q C (Listed listed) s e w tr →
    ∃ e' w' tr' s' listed', e.le e' ∧ listed'.size = ops.size ∧ (∀ j, j < ops.size → Listed listed' j) ∧ PInv K w0 nt ops T0 R Q C (Listed listed') s' e' w' tr' ∧
      Steps P (lone (fr0 fn tr (.inRegion ops (Region.linearise.go .any ops fuel t listed []) :: k) ds kd rof) cs w) (lone (fr0 fn tr' (.inRegion ops [] :: k) ds kd rof) cs w') := by
  have allOf : ∀ (listed : Array Bool), listed.size = ops.size → (∀ j, j ∉ Region.ready .any ops listed) → ∀ j, j < ops.size → Listed listed j := by
    intro listed hsz hno j hj
    apply Classical.byContradiction
    intro hn
    obtain ⟨i, hi⟩ := ready_of hsz hR.edges hj hn
    exact hno i hi
  intro fuel
  induction fuel with
  | zero =>
    intro t listed s e w tr hsz hun hcl hI
    refine ⟨e, w, tr, s, listed, Env.le_refl e, hsz, fun j hj => ?_, hI, by simp only [Region.linearise.go, List.reverse_nil]; exact .refl P _⟩
    unfold Listed
    have hlt : j < listed.size := by omega
    rw [Array.getElem?_eq_getElem hlt]
    cases hb : listed[j] with
    | true => rfl
    | false =>
      exfalso
      have : 0 < listed.toList.count false := List.count_pos_iff.2 (by rw [← hb]; simp)
      unfold unlisted at hun
      omega
  | succ fuel ih =>
    intro t listed s e w tr hsz hun hcl hI
    simp only [Region.linearise.go]
    change ∃ e' w' tr' s' listed', _ ∧ _ ∧ _ ∧ _ ∧ Steps P (lone (fr0 fn tr (.inRegion ops (match (Region.ready .any ops listed)[t % (Region.ready .any ops listed).length]? with
      | some i => Region.linearise.go .any ops fuel (t / (Region.ready .any ops listed).length) (listed.setIfInBounds i true) [i]
      | none => [].reverse) :: k) ds kd rof) cs w) _
    cases hpick : (Region.ready .any ops listed)[t % (Region.ready .any ops listed).length]? with
    | none =>
      have hnil : Region.ready .any ops listed = [] := by
        cases hx : Region.ready .any ops listed with
        | nil => rfl
        | cons x xs =>
          rw [hx] at hpick
          have hlt : t % (x :: xs).length < (x :: xs).length := Nat.mod_lt _ (by simp)
          rw [List.getElem?_eq_getElem hlt] at hpick
          cases hpick
      exact ⟨e, w, tr, s, listed, Env.le_refl e, hsz, allOf listed hsz (by rw [hnil]; simp), hI, .refl P _⟩
    | some i =>
      simp only
      have hmem := List.mem_of_getElem? hpick
      obtain ⟨o, ho, hni, hed⟩ := ready_mem hsz hmem
      rw [linearise_go_acc, List.reverse_singleton, List.singleton_append]
      obtain ⟨e1, w1, tr1, s1, hle1, hI1, hst1⟩ := hI.step hR ho hni hed fn (Region.linearise.go .any ops fuel (t / (Region.ready .any ops listed).length) (listed.setIfInBounds i true) []) k ds kd rof cs (fun r _ _ H n H2 n2 _ _ he hS hT hw => hE i (fun hic => hni (hic ▸ hcl)) hS hT ho hw he)
      have hilt : i < ops.size := (Array.getElem?_eq_some_iff.1 ho).1
      have hfalse : listed.toList[i]? = some false := by
        have hlt : i < listed.size := by omega
        unfold Listed at hni
        rw [Array.getElem?_eq_getElem hlt] at hni
        rw [Array.getElem?_toList, Array.getElem?_eq_getElem hlt]
        simpa using hni
      have hcnt : unlisted (listed.setIfInBounds i true) + 1 = unlisted listed := by
        unfold unlisted
        rw [Array.toList_setIfInBounds]
        exact count_set _ _ hfalse
      have hLeq : ∀ j, Listed (listed.setIfInBounds i true) j ↔ (Listed listed j ∨ j = i) := by
        intro j
        unfold Listed
        by_cases hji : j = i
        · subst hji
          rw [Array.getElem?_setIfInBounds_self_of_lt (by omega)]
          simp
        · rw [Array.getElem?_setIfInBounds_ne (Ne.symm hji)]
          simp [hji]
      have hI2 : PInv K w0 nt ops T0 R Q C (Listed (listed.setIfInBounds i true)) s1 e1 w1 tr1 := by
        have : Listed (listed.setIfInBounds i true) = fun j => Listed listed j ∨ j = i := funext fun j => propext (hLeq j)
        rw [this]
        exact hI1
      obtain ⟨e2, w2, tr2, s2, l2, hle2, hs2, ha2, hI3, hst2⟩ := ih _ _ s1 e1 w1 tr1 (by simpa using hsz) (by omega) ((hLeq c).2 (.inl hcl)) hI2
      exact ⟨e2, w2, tr2, s2, l2, Env.le_trans hle1 hle2, hs2, ha2, hI3, hst1.trans hst2⟩
theorem PInv.turn {R' : List Rec} {Q' : List (Heap × Nat)} {L : Nat → Prop} {s : Nat} {tr : Array Value} (h : PInv K w0 nt ops T0 R Q C L s e w tr) (hR : ∀ k, L k → R'[k]? = R[k]?) (hQ : Q'[s]? = Q[s]?) : PInv K w0 nt ops T0 R' Q' C L s e w tr := by
  obtain ⟨⟨H, n, h1, h2⟩, h3, h4, h5, h6⟩ := h
  refine ⟨⟨H, n, hQ.trans h1, h2⟩, h3, fun t sv hg => h4 t sv ?_, h5, h6⟩
  rcases hg with ⟨k, r, g1, g2, g3, g4⟩ | ⟨g1, g2⟩
  · exact .inl ⟨k, r, g1, by rw [← hR k g1]; exact g2, g3, g4⟩
  · exact .inr ⟨fun k r hk hr => g1 k r hk (by rw [hR k hk]; exact hr), g2⟩
theorem pi_stepsN {A : Type} {c m : Nat} {Rf : A → List Rec} {Qf : A → List (Heap × Nat)} {good : A → Prop} (hE : ∀ i, i ≠ c → EffStep P K w0 nt ops E i) (hR : ∀ a, RegOK P E nt ops T0 (Rf a) (Qf a) C)
    (hm : C[m]? = some c) (hcs : c < ops.size) (hRf : ∀ a b k, k < c → (Rf a)[k]? = (Rf b)[k]?) (hQf : ∀ a b k, k ≤ m → (Qf a)[k]? = (Qf b)[k]?)
    (hdesc : ∀ j, c < j → j < ops.size → ((ancGo [] ops.toList).getD j 0).testBit c = true) (fn : FuncId) (k : List Item) (ds : List Deferred) (kd : CallKind) (rof : Option Nat) (cs : List Frame)
    (hX : ∀ (a0 : A) (e : Env) (w : World) (tr : Array Value) (rest : List Nat) (o : Oper) (r : Rec) (H : Heap) (n : Nat), (Rf a0)[c]? = some r → ops[c]? = some o → (Qf a0)[m]? = some (H, n) → St K w0 e H n w → TRel e nt r.T tr → Region.wanted o (yielded ops tr) = true →
      ∃ a, good a ∧ ∃ e' w' u H2 n2 ra, e.le e' ∧ (Qf a)[m + 1]? = some (H2, n2) ∧ St K w0 e' H2 n2 w' ∧ (Rf a)[c]? = some ra ∧ ra.val.conc e' = some u ∧
        Steps P (lone (fr0 fn tr (.inRegion ops (c :: rest) :: k) ds kd rof) cs w) (lone (fr0 fn (putV tr o.dst u) (.inRegion ops rest :: k) ds kd rof) cs w')) (a0 : A) :
    ∀ (fuel t : Nat) (listed : Array Bool) (s : Nat) (e : Env) (w : World) (tr : Array Value),
    listed.size = ops.size → unlisted listed ≤ fuel → ¬ Listed listed c → PInv K w0 nt ops T0 (Rf a0) (Qf a0) C (Listed listed) s e w tr →
    ∃ a, good a ∧ ∃ e' w' tr' s' listed', e.le e' ∧ listed'.size = ops.size ∧ (∀ j, j < ops.size → Listed listed' j) ∧ PInv K w0 nt ops T0 (Rf a) (Qf a) C (Listed listed') s' e' w' tr' ∧
      Steps P (lone (fr0 fn tr (.inRegion ops (Region.linearise.go .any ops fuel t listed []) :: k) ds kd rof) cs w) (lone (fr0 fn tr' (.inRegion ops [] :: k) ds kd rof) cs w') := by
  intro fuel
  induction fuel with
  | zero =>
    intro t listed s e w tr hsz hun hcl hI
    exfalso
    have hlt : c < listed.size := by omega
    unfold Listed at hcl
    rw [Array.getElem?_eq_getElem hlt] at hcl
    cases hb : listed[c] with
    | true => rw [hb] at hcl; exact hcl rfl
    | false =>
      have : 0 < listed.toList.count false := List.count_pos_iff.2 (by rw [← hb]; simp)
      unfold unlisted at hun
      omega
  | succ fuel ih =>
    intro t listed s e w tr hsz hun hcl hI
    simp only [Region.linearise.go]
    change ∃ a, good a ∧ ∃ e' w' tr' s' listed', _ ∧ _ ∧ _ ∧ _ ∧ Steps P (lone (fr0 fn tr (.inRegion ops (match (Region.ready .any ops listed)[t % (Region.ready .any ops listed).length]? with
      | some i => Region.linearise.go .any ops fuel (t / (Region.ready .any ops listed).length) (listed.setIfInBounds i true) [i]
      | none => [].reverse) :: k) ds kd rof) cs w) _
    cases hpick : (Region.ready .any ops listed)[t % (Region.ready .any ops listed).length]? with
    | none =>
      exfalso
      obtain ⟨i, hi⟩ := ready_of hsz (hR a0).edges hcs hcl
      cases hx : Region.ready .any ops listed with
      | nil => rw [hx] at hi; cases hi
      | cons x xs =>
        rw [hx] at hpick
        have hlt : t % (x :: xs).length < (x :: xs).length := Nat.mod_lt _ (by simp)
        rw [List.getElem?_eq_getElem hlt] at hpick
        cases hpick
    | some i =>
      simp only
      have hmem := List.mem_of_getElem? hpick
      obtain ⟨o, ho, hni, hed⟩ := ready_mem hsz hmem
      rw [linearise_go_acc, List.reverse_singleton, List.singleton_append]
      have hilt : i < ops.size := (Array.getElem?_eq_some_iff.1 ho).1
      have hfalse : listed.toList[i]? = some false := by
        have hlt : i < listed.size := by omega
        unfold Listed at hni
        rw [Array.getElem?_eq_getElem hlt] at hni
        rw [Array.getElem?_toList, Array.getElem?_eq_getElem hlt]
        simpa using hni
      have hcnt : unlisted (listed.setIfInBounds i true) + 1 = unlisted listed := by
        unfold unlisted
        rw [Array.toList_setIfInBounds]
        exact count_set _ _ hfalse
      have hLeq : ∀ j, Listed (listed.setIfInBounds i true) j ↔ (Listed listed j ∨ j = i) := by
        intro j
        unfold Listed
        by_cases hji : j = i
        · subst hji
          rw [Array.getElem?_setIfInBounds_self_of_lt (by omega)]
          simp
        · rw [Array.getElem?_setIfInBounds_ne (Ne.symm hji)]
          simp [hji]
      have hLL : Listed (listed.setIfInBounds i true) = fun j => Listed listed j ∨ j = i := funext fun j => propext (hLeq j)
      by_cases hic : i = c
      · subst hic
        have hoL : ops.toList[i]? = some o := by simpa using ho
        obtain ⟨r, hr⟩ : ∃ r, (Rf a0)[i]? = some r := ⟨_, List.getElem?_eq_getElem (by rw [(hR a0).len]; exact hilt)⟩
        obtain ⟨hT, hw⟩ := hI.need (hR a0) ho hni hed hr
        have hrec := (hR a0).recs i r hr
        have hchain : r.chain = true := by
          have hmm := List.mem_of_getElem? hm
          rw [(hR a0).chainR, List.mem_map] at hmm
          obtain ⟨r', hr', hi'⟩ := hmm
          rw [List.mem_filter] at hr'
          obtain ⟨k', hk'⟩ := List.mem_iff_getElem?.1 hr'.1
          have := ((hR a0).recs k' r' hk').idx
          rw [hi'] at this
          subst this
          rw [hr] at hk'
          simp only [Option.some.injEq] at hk'
          subst hk'
          exact hr'.2
        rw [(hrec.eff hchain).1] at hw
        have hanc := anc_listed (Listed listed) (hR a0).edges (fun i o hi ho' => hI.closed i o hi ho') i o hoL hed
        have hs : s = m := by
          have h1 : ¬ m < s := fun hlt => hni ((hI.chain m i hm).2 hlt)
          rcases Nat.eq_zero_or_pos m with h0 | hp
          · omega
          · have hlt : m - 1 < C.length := by
              have := (List.getElem?_eq_some_iff.1 hm).1
              omega
            have hprev : C[m - 1]? = some C[m - 1] := List.getElem?_eq_getElem hlt
            have hbit := chainOk_ok (hR a0).chain (m - 1) C[m - 1] i hprev (by rw [show m - 1 + 1 = m by omega]; exact hm)
            have := (hI.chain _ _ hprev).1 (hanc _ hbit).1
            omega
        subst hs
        obtain ⟨H, n, hQ, hS⟩ := hI.st
        obtain ⟨a, hga, e', w', u, H2, n2, ra, hle, hq2, hS2, hra, hu, hst⟩ := hX a0 e w tr (Region.linearise.go .any ops fuel (t / (Region.ready .any ops listed).length) (listed.setIfInBounds i true) []) o r H n hr ho hQ hS hT hw
        have hless : ∀ j, Listed listed j → j < i := fun j hj => by
          rcases Nat.lt_trichotomy j i with h | h | h
          · exact h
          · exact absurd (h ▸ hj) hni
          · exfalso
            have hjs : j < ops.size := by
              unfold Listed at hj
              have := (Array.getElem?_eq_some_iff.1 hj).1
              omega
            have hoj : ops.toList[j]? = some (ops.toList[j]'(by simpa using hjs)) := List.getElem?_eq_getElem (by simpa using hjs)
            exact hni (anc_listed (Listed listed) (hR a0).edges (fun i o hi ho' => hI.closed i o hi ho') j _ hoj (hI.closed j _ hj hoj) i (hdesc j h hjs)).1
        have hIa := hI.turn (R' := Rf a) (Q' := Qf a) (fun k hk => hRf a a0 k (hless k hk)) (hQf a a0 _ (Nat.le_refl _))
        obtain ⟨e1, w1, tr1, s1, hle1, hI1, hst1⟩ := hIa.step (hR a) ho hni hed fn (Region.linearise.go .any ops fuel (t / (Region.ready .any ops listed).length) (listed.setIfInBounds i true) []) k ds kd rof cs (fun r' hr' _ H' n' H2' n2' _ hQ2' _ _ _ _ => by
          rw [hra] at hr'
          simp only [Option.some.injEq] at hr'
          subst hr'
          rw [hq2] at hQ2'
          simp only [Option.some.injEq, Prod.mk.injEq] at hQ2'
          obtain ⟨rfl, rfl⟩ := hQ2'
          exact ⟨e', w', u, hle, hS2, hu, hst⟩)
        have hI2 : PInv K w0 nt ops T0 (Rf a) (Qf a) C (Listed (listed.setIfInBounds i true)) s1 e1 w1 tr1 := by rw [hLL]; exact hI1
        obtain ⟨e2, w2, tr2, s2, l2, hle2, hs2, ha2, hI3, hst2⟩ := pi_steps hE (hR a) fn k ds kd rof cs fuel _ _ s1 e1 w1 tr1 (by simpa using hsz) (by omega) ((hLeq i).2 (.inr rfl)) hI2
        exact ⟨a, hga, e2, w2, tr2, s2, l2, Env.le_trans hle1 hle2, hs2, ha2, hI3, hst1.trans hst2⟩
      · obtain ⟨e1, w1, tr1, s1, hle1, hI1, hst1⟩ := hI.step (hR a0) ho hni hed fn (Region.linearise.go .any ops fuel (t / (Region.ready .any ops listed).length) (listed.setIfInBounds i true) []) k ds kd rof cs (fun r _ _ H n H2 n2 _ _ he hS hT hw => hE i hic hS hT ho hw he)
        have hI2 : PInv K w0 nt ops T0 (Rf a0) (Qf a0) C (Listed (listed.setIfInBounds i true)) s1 e1 w1 tr1 := by rw [hLL]; exact hI1
        obtain ⟨a, hga, e2, w2, tr2, s2, l2, hle2, hs2, ha2, hI3, hst2⟩ := ih _ _ s1 e1 w1 tr1 (by simpa using hsz) (by omega) (fun h => by
          rcases (hLeq c).1 h with h | h
          · exact hcl h
          · exact hic h.symm) hI2
        exact ⟨a, hga, e2, w2, tr2, s2, l2, Env.le_trans hle1 hle2, hs2, ha2, hI3, hst1.trans hst2⟩
end
theorem drawRun_ext {P : Program} {rn : Rn} {nt : Nat} {ops : Array Oper} : ∀ (l : List Oper) {i : Nat} {s s' : DS}, DrawRun P rn nt ops i l s s' → (∃ x, s'.recs = x ++ s.recs) ∧ ∃ y, s'.Hs = y ++ s.Hs
  | [], i, s, s', h => by cases h; exact ⟨⟨[], rfl⟩, [], rfl⟩
  | o :: l, i, s, s', h => by
    cases h with
    | cons ho h =>
      obtain ⟨⟨x, hx⟩, y, hy⟩ := drawRun_ext l h
      rcases ho with ⟨_, rfl⟩ | ⟨_, _, v, _, rfl⟩ | ⟨_, v, H, nx, _, rfl⟩
      · exact ⟨⟨x ++ [_], by rw [hx]; simp; rfl⟩, y, hy⟩
      · exact ⟨⟨x ++ [_], by rw [hx]; simp; rfl⟩, y, hy⟩
      · exact ⟨⟨x ++ [_], by rw [hx]; simp; rfl⟩, y ++ [_], by rw [hy]; simp; rfl⟩
def descOk (ancs : List Nat) (c n : Nat) : Bool := (List.range n).all fun j => !(Nat.blt c j) || (ancs.getD j 0).testBit c
theorem descOk_ok {ancs : List Nat} {c n : Nat} (h : descOk ancs c n = true) : ∀ j, c < j → j < n → (ancs.getD j 0).testBit c = true := fun j h1 h2 => by
  unfold descOk at h
  have := List.all_eq_true.1 h j (List.mem_range.2 h2)
  rw [Bool.or_eq_true] at this
  rcases this with q | q
  · rw [show Nat.blt c j = true from Nat.ble_eq_true_of_le h1] at q
    cases q
  · exact q
theorem drawN {P : Program} {rn : Rn} {K : Zone} {w0 : World} (hrn : RunOK P K w0 rn) {ops : Array Oper} {nt : Nat} {T : Tr SV} {H : Heap} {nx : Nat} {l1 l2 : List Oper} {oc : Oper} (hops : ops.toList = l1 ++ oc :: l2) (hro : regionOk nt ops.toList = true) {s1 : DS}
    (h1 : DrawRun P rn nt ops 0 l1 ⟨T, H, nx, [], [(H, nx)], 0⟩ s1) (hwt : wantedS (onlyT s1.T (needs ops.toList oc)) ops oc = some true) {f : FuncId} {args : List SV} {Q' : Pst}
    (hdo : OpDoes P (onlyT s1.T (needs ops.toList oc)) s1.H s1.nx oc (.enter f args, s1.H, s1.nx)) (hnd : ∀ c, oc.op ≠ .defer c) (hcall : callS P rn f args s1.H s1.nx Q') (hde : descOk (ancGo [] ops.toList) l1.length ops.size = true) {r0 : Res} {Kt : DS → Prop}
    (h2 : ∀ r : Res, (Q' r ∨ r = r0) → ∃ s, DrawRun P rn nt ops (l1.length + 1) l2 ⟨putS nt s1.T oc.dst r.1, r.2.1, r.2.2, ⟨l1.length, oc, onlyT s1.T (needs ops.toList oc), s1.stg, true, true, r.1⟩ :: s1.recs, (r.2.1, r.2.2) :: s1.Hs, s1.stg + 1⟩ s ∧
      chainOk (ancGo [] ops.toList) (chainOf s) = true ∧ chainOf s = chainOf s1 ++ [l1.length] ∧ FloatsOk P ops s ∧ (Q' r → Kt s))
    (hm : P.follows .mixedOrders = true) {e : Env} {w : World} {tmps : Array Value} (hS : St K w0 e H nx w) (hT : TRel e nt T tmps) (t fn : Nat) (k : List Item) (ds : List Deferred) (kd : CallKind) (rof : Option Nat) (cs : List Frame) :
    ∃ s, Kt s ∧ ∃ e' w' tmps', e.le e' ∧ St K w0 e' s.H s.nx w' ∧ TRel e' nt s.T tmps' ∧
      Steps P (lone (fr0 fn tmps (.inRegion ops (Region.schedule (P.follows .mixedOrders) ops t) :: k) ds kd rof) cs w) (lone (fr0 fn tmps' (.inRegion ops [] :: k) ds kd rof) cs w') := by
  simp only [regionOk, Bool.and_eq_true] at hro
  obtain ⟨hd1, hd2⟩ := dstsOk_ok hro.1
  have hopk := opsOk_ok hro.2
  have hdst : ∀ (j : Nat) o d, ops.toList[j]? = some o → o.dst = some d → d < nt := fun j o d hj hd => (hd1 j o d hj hd).1
  have hsz : ops.size = l1.length + 1 + l2.length := by
    have := congrArg List.length hops
    simp at this
    omega
  have hocat : ops[l1.length]? = some oc := by
    have : ops.toList[l1.length]? = some oc := by rw [hops]; simp
    simpa using this
  let E : Nat → Tr SV → Heap → Nat → Oper → Res → Prop := fun i T H nx o r => i ≠ l1.length → DrawEff P rn T H nx o r
  have h0 : DSOK P E ops T 0 ⟨T, H, nx, [], [(H, nx)], 0⟩ :=
    ⟨rfl, rfl, rfl, rfl, fun k r hr => by simp at hr, fun t v hv => .inr ⟨fun k r hk => by omega, hv⟩⟩
  have hD1 : DSOK P E ops T (0 + l1.length) s1 := drawPart_ok hdst l1 0 _ s1 (fun k o hk => by
    have hkl := (List.getElem?_eq_some_iff.1 hk).1
    refine ⟨?_, fun T H nx r h _ => h⟩
    have : ops.toList[0 + k]? = some o := by rw [hops, Nat.zero_add, List.getElem?_append_left hkl]; exact hk
    simpa using this) h0 h1
  rw [Nat.zero_add] at hD1
  let sf := fun (r : Res) (h : Q' r ∨ r = r0) => Classical.choose (h2 r h)
  have hsf := fun (r : Res) (h : Q' r ∨ r = r0) => Classical.choose_spec (h2 r h)
  let A := { r : Res // Q' r ∨ r = r0 }
  have hD : ∀ a : A, DSOK P E ops T ops.size (sf a.1 a.2) := fun a => by
    have hl := hD1.hs
    have hq : ∀ (j : Nat) x, s1.Hs.reverse[j]? = some x → ((a.1.2.1, a.1.2.2) :: s1.Hs).reverse[j]? = some x := fun j x hj => by rw [List.reverse_cons]; exact get_snoc hj
    have hlast : ((a.1.2.1, a.1.2.2) :: s1.Hs).reverse[s1.stg + 1]? = some (a.1.2.1, a.1.2.2) := by
      rw [List.reverse_cons]
      have := get_last s1.Hs.reverse (a.1.2.1, a.1.2.2)
      rw [List.length_reverse, hl] at this
      exact this
    have hslots : ∀ t v, (onlyT s1.T (needs ops.toList oc)).at' t = some v → Operand.tmp t ∈ needs ops.toList oc ∧ Src T (s1.recs.reverse ++ [⟨l1.length, oc, onlyT s1.T (needs ops.toList oc), s1.stg, true, true, a.1.1⟩]) l1.length t v := by
      intro t v hv
      obtain ⟨h1, h2⟩ := onlyT_at _ t v hv
      exact ⟨h1, (hD1.slots t v h2).mono fun k hk => List.getElem?_append_left (by simp [hD1.len]; exact hk)⟩
    have hS1 := hD1.snoc (r := ⟨l1.length, oc, onlyT s1.T (needs ops.toList oc), s1.stg, true, true, a.1.1⟩) (H := a.1.2.1) (nx := a.1.2.2) hdst hocat (by simp [hl]) hlast hq rfl
      ⟨rfl, hocat, hslots, hwt, fun hc => (by cases hc), fun _ hc => (by cases hc), fun _ => ⟨rfl, by
        simp only [List.filter_append, List.map_append, List.filter_cons, if_true, List.filter_nil, List.map_cons, List.map_nil]
        have := get_last ((s1.recs.reverse.filter (·.chain)).map (·.i)) l1.length
        rw [hD1.cnt] at this
        exact this, s1.H, s1.nx, a.1.2.1, a.1.2.2, hq _ _ hD1.last, hlast, fun h => absurd rfl h⟩⟩
    have := drawPart_ok hdst l2 (l1.length + 1) _ _ (fun k o hk => by
      refine ⟨?_, fun T H nx r h _ => h⟩
      have : ops.toList[l1.length + 1 + k]? = some o := by
        rw [hops, List.getElem?_append_right (by omega), show l1.length + 1 + k - l1.length = k + 1 by omega, List.getElem?_cons_succ]
        exact hk
      simpa using this) hS1 (hsf a.1 a.2).1
    rw [hsz]
    exact this
  have hC : ∀ a : A, ((sf a.1 a.2).recs.reverse.filter (·.chain)).map (·.i) = chainOf s1 ++ [l1.length] := fun a => (hsf a.1 a.2).2.2.1
  have hR : ∀ a : A, RegOK P E nt ops T (sf a.1 a.2).recs.reverse (sf a.1 a.2).Hs.reverse (chainOf s1 ++ [l1.length]) := fun a => by
    obtain ⟨hrun, hch, hcc, hfl, _⟩ := hsf a.1 a.2
    have hDa := hD a
    have hrecs := hDa.recs
    have hcnt := hDa.cnt
    rw [hC a] at hrecs hcnt
    refine ⟨by simp [hDa.len], hrecs, by rw [hcnt]; simp [hDa.hs], (hC a).symm, by rw [← hcc]; exact hch, fun r hr hc hw => ?_, fun i o d hi hd => (hd1 i o d hi hd).1, hd2, fun i o hi => ?_, fun i o hi => ?_⟩
    · obtain ⟨kk, hkk⟩ := List.mem_iff_getElem?.1 hr
      obtain ⟨hnd, H0, n0, hQ0, hf0⟩ := (hrecs kk r hkk).float hw hc
      refine ⟨hnd, fun s1' hlo hhi H1 n1 hQ1 => ?_⟩
      by_cases hs1 : s1' = r.stg
      · subst hs1
        rw [hQ1] at hQ0
        simp only [Option.some.injEq, Prod.mk.injEq] at hQ0
        rw [hQ0.1]
        exact hf0
      · exact hfl r (by simpa using hr) hc hw s1' (by rw [hcc]; exact hlo) (by rw [hcc]; exact hhi) hs1 H1 n1 hQ1
    · obtain ⟨anc, _, g2, _⟩ := hopk i o hi
      simpa using g2
    · obtain ⟨anc, g1, _, g3⟩ := hopk i o hi
      rw [List.getD_eq_getElem?_getD, g1]
      rw [Nat.zero_add] at g3
      exact g3
  have hrec1 : ∀ a : A, ∃ x, (sf a.1 a.2).recs.reverse = s1.recs.reverse ++ (⟨l1.length, oc, onlyT s1.T (needs ops.toList oc), s1.stg, true, true, a.1.1⟩ :: x) := fun a => by
    obtain ⟨⟨x, hx⟩, _⟩ := drawRun_ext l2 (hsf a.1 a.2).1
    exact ⟨x.reverse, by rw [hx]; simp⟩
  have hHs1 : ∀ a : A, ∃ y, (sf a.1 a.2).Hs.reverse = s1.Hs.reverse ++ ((a.1.2.1, a.1.2.2) :: y) := fun a => by
    obtain ⟨_, y, hy⟩ := drawRun_ext l2 (hsf a.1 a.2).1
    exact ⟨y.reverse, by rw [hy]; simp⟩
  have hcl : (chainOf s1).length = s1.stg := hD1.cnt
  have hatc : ∀ a : A, (sf a.1 a.2).recs.reverse[l1.length]? = some ⟨l1.length, oc, onlyT s1.T (needs ops.toList oc), s1.stg, true, true, a.1.1⟩ := fun a => by
    obtain ⟨x, hx⟩ := hrec1 a
    rw [hx, List.getElem?_append_right (by simp [hD1.len])]
    simp [hD1.len]
  have hatQ : ∀ a : A, (sf a.1 a.2).Hs.reverse[s1.stg + 1]? = some (a.1.2.1, a.1.2.2) := fun a => by
    obtain ⟨y, hy⟩ := hHs1 a
    rw [hy, List.getElem?_append_right (by simp [hD1.hs])]
    simp [hD1.hs]
  have hatS : ∀ a : A, (sf a.1 a.2).Hs.reverse[s1.stg]? = some (s1.H, s1.nx) := fun a => by
    obtain ⟨y, hy⟩ := hHs1 a
    rw [hy, List.getElem?_append_left (by simp [hD1.hs])]
    exact hD1.last
  have hE : ∀ i, i ≠ l1.length → EffStep P K w0 nt ops E i := fun i hi => by
    intro e w H n T tr fn rest k ds kd rof cs o v H2 n2 hS hT ho hw he
    exact eff_steps (P := P) hrn hS hT ho hw (he hi)
  have hinit : ∀ a : A, PInv K w0 nt ops T (sf a.1 a.2).recs.reverse (sf a.1 a.2).Hs.reverse (chainOf s1 ++ [l1.length]) (Listed (Array.replicate ops.size false)) 0 e w tmps := fun a => by
    have hno : ∀ j, ¬ Listed (Array.replicate ops.size false) j := by
      intro j hj
      unfold Listed at hj
      rw [Array.getElem?_replicate] at hj
      split at hj <;> simp at hj
    have hQ0 : (sf a.1 a.2).Hs.reverse[0]? = some (H, nx) := by
      obtain ⟨y, hy⟩ := hHs1 a
      obtain ⟨_, z, hz⟩ := drawRun_ext l1 h1
      rw [hy, hz]
      simp
    refine ⟨⟨H, nx, hQ0, hS⟩, hT.1, fun t sv hg => ?_, fun j c hj => ⟨fun hl => absurd hl (hno c), fun hl => by omega⟩, fun i o hi => absurd hi (hno i)⟩
    rcases hg with ⟨k', r', hk', _⟩ | ⟨_, h2⟩
    · exact absurd hk' (hno k')
    · exact hT.2 t sv h2
  have hsched : Region.schedule (P.follows .mixedOrders) ops t = Region.linearise.go .any ops ops.size t (Array.replicate ops.size false) [] := by
    rw [hm]
    rfl
  rw [hsched]
  obtain ⟨a, hga, e', w', tr', s', listed', hle, _, hall, hI, hst⟩ := pi_stepsN (A := A) (c := l1.length) (m := s1.stg) (Rf := fun a => (sf a.1 a.2).recs.reverse) (Qf := fun a => (sf a.1 a.2).Hs.reverse) (good := fun a => Q' a.1) hE hR
    (by rw [List.getElem?_append_right (by omega), hcl]; simp) (by omega)
    (fun a b j hj => by
      obtain ⟨x, hx⟩ := hrec1 a
      obtain ⟨y, hy⟩ := hrec1 b
      simp only [hx, hy]
      rw [List.getElem?_append_left (by simp [hD1.len]; exact hj), List.getElem?_append_left (by simp [hD1.len]; exact hj)])
    (fun a b j hj => by
      obtain ⟨x, hx⟩ := hHs1 a
      obtain ⟨y, hy⟩ := hHs1 b
      simp only [hx, hy]
      rw [List.getElem?_append_left (by simp [hD1.hs]; omega), List.getElem?_append_left (by simp [hD1.hs]; omega)])
    (descOk_ok hde) fn k ds kd rof cs
    (fun a0 e w tr rest o r H n hr ho hQ hS hT hw => by
      rw [hatc a0] at hr
      simp only [Option.some.injEq] at hr
      subst hr
      rw [hocat] at ho
      simp only [Option.some.injEq] at ho
      subst ho
      rw [hatS a0] at hQ
      simp only [Option.some.injEq, Prod.mk.injEq] at hQ
      obtain ⟨rfl, rfl⟩ := hQ
      have hEv := TRel.ev (fr := fr0 fn tr (.inRegion ops (l1.length :: rest) :: k) ds kd rof) hT
      obtain ⟨e1, w1, hle, hS1, hrun⟩ := hdo _ _ _ _ _ hS hEv
      obtain ⟨vs, hvs, hres⟩ := hrun
      obtain ⟨r, hr, e2, w2, u, g1, g2, g3, g4⟩ := call_back (callS_ok hrn hcall hS1 hvs (kd := .normal) (cs := fr0 fn tr (.inRegion ops (l1.length :: rest) :: k) ds kd rof :: cs) ⟨rfl, .inl rfl⟩)
      refine ⟨⟨r, .inl hr⟩, hr, e2, w2, u, r.2.1, r.2.2, _, Env.le_trans hle g1, hatQ ⟨r, .inl hr⟩, g2, hatc ⟨r, .inl hr⟩, g3, ?_⟩
      rw [finish_region hocat] at g4
      refine .head (step_lone_go ?_) g4
      rw [stepG_oper hocat hw (.inr hnd)]
      simp only [stepG.apply, Sem.runT_eq, if_true, hres, GStep.bare_after, GStep.bare_go]
      rfl)
    ⟨r0, .inr rfl⟩ ops.size t (Array.replicate ops.size false) 0 e w tmps (by simp) (by unfold unlisted; simp) (by
      intro hj
      unfold Listed at hj
      rw [Array.getElem?_replicate] at hj
      split at hj <;> simp at hj) (hinit _)
  have hDa := hD a
  have hs' : s' = (sf a.1 a.2).stg := by
    obtain ⟨H1, n1, hQ1, _⟩ := hI.st
    have hle1 : s' ≤ (sf a.1 a.2).stg := by
      have := (List.getElem?_eq_some_iff.1 hQ1).1
      simp [hDa.hs] at this
      omega
    have hcnt := hDa.cnt
    rw [hC a] at hcnt
    rcases Nat.lt_or_ge s' (sf a.1 a.2).stg with hlt | hge
    · exfalso
      obtain ⟨c, hc⟩ : ∃ c, (chainOf s1 ++ [l1.length])[s']? = some c := ⟨_, List.getElem?_eq_getElem (by rw [hcnt]; exact hlt)⟩
      have hcl' : c < ops.size := by
        have hcm := List.mem_of_getElem? hc
        rw [← hC a, List.mem_map] at hcm
        obtain ⟨r', hr', rfl⟩ := hcm
        rw [List.mem_filter] at hr'
        obtain ⟨k', hk'⟩ := List.mem_iff_getElem?.1 hr'.1
        have hx := hDa.recs k' r' hk'
        rw [hx.idx]
        exact (Array.getElem?_eq_some_iff.1 hx.op).1
      have := (hI.chain s' c hc).1 (hall c hcl')
      omega
    · omega
  subst hs'
  obtain ⟨H1, n1, hQ1, hS1⟩ := hI.st
  rw [hDa.last] at hQ1
  simp only [Option.some.injEq, Prod.mk.injEq] at hQ1
  obtain ⟨rfl, rfl⟩ := hQ1
  refine ⟨_, (hsf a.1 a.2).2.2.2.2 hga, e', w', tr', hle, hS1, ⟨hI.size, fun t sv ht => hI.good t sv ?_⟩, hst⟩
  rcases hDa.slots t sv ht with ⟨k', r', h1, h2, h3, h4⟩ | ⟨h1, h2⟩
  · exact .inl ⟨k', r', hall k' h1, h2, h3, h4⟩
  · refine .inr ⟨fun k' r' _ hr' => ?_, h2⟩
    have hlt := (List.getElem?_eq_some_iff.1 hr').1
    rw [List.length_reverse, hDa.len] at hlt
    exact h1 k' r' hlt hr'
end Go.Sy.Nd
end
section
namespace Go.Sy
open Go Go.Sl Go.RowKit
section
variable {P : Program} {ro : Option Nat} {fn nt nx : Nat} {T : Tr SV} {k : List AIt} {dfs : List ADf} {H : Heap} {Q : Pst}
structure TailK (P : Program) (ro : Option Nat) (fn nt : Nat) (k : List AIt) (dfs : List ADf) (Q : Pst) (opl : List Oper) (n : Nat) (oc : Oper) (s1 : DS) : Prop where
  ex : wantedS (onlyT s1.T (needs opl oc)) opl.toArray oc = some true ∧ ∃ (f : FuncId) (args : List SV) (Q' : Pst) (r0 : Res), OpDoes P (onlyT s1.T (needs opl oc)) s1.H s1.nx oc (.enter f args, s1.H, s1.nx) ∧ (∀ c, oc.op ≠ .defer c) ∧ callS P (wpr P) f args s1.H s1.nx Q' ∧
    (∀ r : Res, Q' r → DrawK P nt opl.toArray (n + 1) (opl.drop (n + 1)) ⟨putS nt s1.T oc.dst r.1, r.2.1, r.2.2, ⟨n, oc, onlyT s1.T (needs opl oc), s1.stg, true, true, r.1⟩ :: s1.recs, (r.2.1, r.2.2) :: s1.Hs, s1.stg + 1⟩
      (fun s => chainOk (ancGo [] opl) (chainOf s) = true ∧ chainOf s = chainOf s1 ++ [n] ∧ FlOk P (ancGo [] opl) (chainOf s) s.Hs s.recs ∧ Wp P ro ⟨fn, nt, s.T, k, dfs, s.H, s.nx⟩ Q)) ∧
    DrawK P nt opl.toArray (n + 1) (opl.drop (n + 1)) ⟨putS nt s1.T oc.dst r0.1, r0.2.1, r0.2.2, ⟨n, oc, onlyT s1.T (needs opl oc), s1.stg, true, true, r0.1⟩ :: s1.recs, (r0.2.1, r0.2.2) :: s1.Hs, s1.stg + 1⟩
      (fun s => chainOk (ancGo [] opl) (chainOf s) = true ∧ chainOf s = chainOf s1 ++ [n] ∧ FlOk P (ancGo [] opl) (chainOf s) s.Hs s.recs)
theorem w_drawN {id : Nat} {opl : List Oper} (n : Nat) {oc : Oper} (hm : P.follows .mixedOrders = true) (hr : regionOk nt opl = true) (hde : Nd.descOk (ancGo [] opl) n opl.length = true) (hoc : opl[n]? = some oc)
    (h : DrawK P nt opl.toArray 0 (opl.take n) ⟨T, H, nx, [], [(H, nx)], 0⟩ (TailK P ro fn nt k dfs Q opl n oc)) :
    Wp P ro ⟨fn, nt, T, .code (.region id opl.toArray true) :: k, dfs, H, nx⟩ Q := by
  obtain ⟨s1, hrun1, hK⟩ := h.ex
  obtain ⟨hw, f, args, Q', r0, hdo, hnd, hcall, h1, h0⟩ := hK.ex
  have hlt : n < opl.length := (List.getElem?_eq_some_iff.1 hoc).1
  have hnl : (opl.take n).length = n := by rw [List.length_take]; omega
  have hops : opl = opl.take n ++ oc :: opl.drop (n + 1) := by
    have hg : opl[n] = oc := (List.getElem?_eq_some_iff.1 hoc).2
    rw [← hg, List.getElem_cons_drop, List.take_append_drop]
  refine ⟨fun K w0 e w tmps todo ds kd rof cs hS hT ht hd hc => ?_⟩
  obtain ⟨it, k', rfl, hi, hk⟩ := ht.cons
  have hi : it = Item.code (.region id opl.toArray true) := hi
  subst hi
  obtain ⟨s, hKt, e', w', tmps', g1, g2, g3, g4⟩ := Nd.drawN (ops := opl.toArray) (l1 := opl.take n) (l2 := opl.drop (n + 1)) (oc := oc) (T := T) (H := H) (nx := nx) (nt := nt) (r0 := r0) (Q' := Q') (Kt := fun s => Wp P ro ⟨fn, nt, s.T, k, dfs, s.H, s.nx⟩ Q) (wpr_run K w0) hops hr hrun1 hw hdo hnd hcall (by rw [hnl]; simpa using hde)
    (fun r hr => by
      rw [hnl]
      by_cases hq : Q' r
      · obtain ⟨s, q1, q2, q3, q4, q5⟩ := (h1 r hq).ex
        exact ⟨s, q1, q2, q3, fun r hr => FlOk.ok q4 r hr, fun _ => q5⟩
      · have hr := hr.resolve_left hq
        subst hr
        obtain ⟨s, q1, q2, q3, q4⟩ := h0.ex
        exact ⟨s, q1, q2, q3, fun r hr => FlOk.ok q4 r hr, fun h => absurd h hq⟩) hm (w := { w with drawn := w.drawn + 1 }) hS.drew hT (w.tape w.drawn (.order fn id)) fn k' ds kd rof cs
  exact (hKt.run K w0 e' w' tmps' k' ds kd rof cs g2 g3 (hk.mono g1) (hd.mono g1) (hc.mono g1)).pre (.head st_draw (g4.trans (.one st_regionEnd))) g1 rfl rfl (fun _ hr => hr)
theorem tk_call {opl : List Oper} {n : Nat} {s1 : DS} {ty : TypeId} {pos : String} {af : Array Edge} {gd : Option (Nat × Bool)} {g : FuncId} {as1 : List Operand} {ats : Array TypeId} {args : List SV} {Q' : Pst} {dd : Nat}
    (hw : wantedS (onlyT s1.T (needs opl ⟨some dd, .call { callee := .value (.func g), args := as1.toArray, argTypes := ats }, ty, pos, af, gd⟩)) opl.toArray ⟨some dd, .call { callee := .value (.func g), args := as1.toArray, argTypes := ats }, ty, pos, af, gd⟩ = some true) (hd : Nat.blt dd nt = true)
    (ha : evalL (onlyT s1.T (needs opl ⟨some dd, .call { callee := .value (.func g), args := as1.toArray, argTypes := ats }, ty, pos, af, gd⟩)) as1 = some args) (hm : mayEnter P g = true) (hr : Fnc P g args s1.H s1.nx Q') (r0 : Res)
    (h1 : ∀ r : Res, Q' r → DrawK P nt opl.toArray (n + 1) (opl.drop (n + 1)) ⟨s1.T.set dd r.1, r.2.1, r.2.2, ⟨n, ⟨some dd, .call { callee := .value (.func g), args := as1.toArray, argTypes := ats }, ty, pos, af, gd⟩, onlyT s1.T (needs opl ⟨some dd, .call { callee := .value (.func g), args := as1.toArray, argTypes := ats }, ty, pos, af, gd⟩), s1.stg, true, true, r.1⟩ :: s1.recs, (r.2.1, r.2.2) :: s1.Hs, s1.stg + 1⟩
      (fun s => chainOk (ancGo [] opl) (chainOf s) = true ∧ chainOf s = chainOf s1 ++ [n] ∧ FlOk P (ancGo [] opl) (chainOf s) s.Hs s.recs ∧ Wp P ro ⟨fn, nt, s.T, k, dfs, s.H, s.nx⟩ Q))
    (h0 : DrawK P nt opl.toArray (n + 1) (opl.drop (n + 1)) ⟨s1.T.set dd r0.1, r0.2.1, r0.2.2, ⟨n, ⟨some dd, .call { callee := .value (.func g), args := as1.toArray, argTypes := ats }, ty, pos, af, gd⟩, onlyT s1.T (needs opl ⟨some dd, .call { callee := .value (.func g), args := as1.toArray, argTypes := ats }, ty, pos, af, gd⟩), s1.stg, true, true, r0.1⟩ :: s1.recs, (r0.2.1, r0.2.2) :: s1.Hs, s1.stg + 1⟩
      (fun s => chainOk (ancGo [] opl) (chainOf s) = true ∧ chainOf s = chainOf s1 ++ [n] ∧ FlOk P (ancGo [] opl) (chainOf s) s.Hs s.recs)) :
    TailK P ro fn nt k dfs Q opl n ⟨some dd, .call { callee := .value (.func g), args := as1.toArray, argTypes := ats }, ty, pos, af, gd⟩ s1 :=
  ⟨hw, g, args, Q', r0, op_call ha hm, fun c hc => (by cases hc), hr, fun r hq => by rw [putS_some hd]; exact h1 r hq, by rw [putS_some hd]; exact h0⟩
end
end Go.Sy
end
section
namespace Go.Proofs.Ytckajlllkmkniaa
open Go Go.Sy Go.Sl Go.RowKit
theorem LT.Fine.act2 {T : LT} {N : Nat} (H : T.Fine N) (hN : N < 900) (hb : T.Busy) (x : ActT) : T.actOk x ∧ (T.act x).1.Fine (N + 1) ∧ (T.act x).1.Busy ∧ (T.act x).1.mass ≤ T.mass + 1 := by
  have hk := fun o mark => H.backOk (by omega) o mark
  have hb2 := fun o mark => H.back (by omega) o mark
  have hm := fun o mark => H.backMore (by omega) hb o mark
  have h1 := H.wf.keys_le
  have h2 := H.szL
  refine ⟨⟨H.askOk hN _ _, ⟨by have := h1 x.2.1; omega, (hk _ _).2⟩, ⟨by have := h1 x.2.1; omega, (hk _ _).2⟩⟩, ?_⟩
  unfold LT.act
  split
  · exact ⟨H.ask _ _, hb.ask _ _, LT.mass_ask _ _⟩
  · split
    · exact ⟨(hb2 _ _).mono (Nat.le_succ _), (hm _ _).1, Nat.le_succ_of_le (hm _ _).2.1⟩
    · split
      · exact ⟨(hb2 _ _).mono (Nat.le_succ _), (hm _ _).1, Nat.le_succ_of_le (hm _ _).2.1⟩
      · exact ⟨H.mono (Nat.le_succ _), hb, Nat.le_succ _⟩
theorem not_much2 {a : Array ActT} {m : Nat} (h : muchA a (m : Int) = false) : a.size ≤ m ∧ ∀ x ∈ a.toList, x.2.2.1.size ≤ 300 := by
  unfold muchA at h
  rw [Bool.or_eq_false_iff] at h
  have h1 : a.size ≤ m := by have := of_decide_eq_false h.2; omega
  refine ⟨h1, fun x hx => ?_⟩
  have h2 := h.1
  rw [List.take_of_length_le (by rw [Array.length_toList]; omega), List.any_eq_false] at h2
  have := h2 x hx
  simpa using this
end Go.Proofs.Ytckajlllkmkniaa
end
section
namespace Go.Proofs.Ytckajlllkmkniaa
open Go Go.Sy Go.Sl Go.RowKit
abbrev knA : ByteArray := ⟨#[97]⟩
abbrev knB : ByteArray := ⟨#[98]⟩
abbrev kn0 : ByteArray := ⟨#[]⟩
def kn1 : LT := ⟨[(knA, (1, []))], [(1, ([knA], kn0))]⟩
def kn2 : LT := ⟨[(knA, (1, [])), (knB, (2, []))], [(1, ([knA], kn0)), (2, ([knB], kn0))]⟩
def kn3 : LT := ⟨[(knA, (1, [])), (knB, (2, [1]))], [(1, ([knA], knB)), (2, ([knB], kn0))]⟩
def kn5 : LT := ⟨[(knA, (1, [])), (knB, (1, []))], [(1, ([knA, knB], kn0))]⟩
theorem kn1_is : LT.empty.ask 1 knA = (kn1, 0) := by kernel_rfl
theorem kn2_is : kn1.ask 2 knB = (kn2, 0) := by kernel_rfl
theorem kn3_is : kn2.ask 1 knB = (kn3, 9) := by kernel_rfl
theorem kn4_is : kn3.ask 2 knA = (kn3, 10) := by kernel_rfl
theorem kn5_is : kn3.back 2 0 = (kn5, [1], 0) := by kernel_rfl
theorem kn6_is : kn5.back 1 1 = (kn1, [], 0) := by kernel_rfl
theorem kn1_f : kn1.Fine 1 := by have h := LT.Fine.empty.ask 1 knA; rw [kn1_is] at h; exact h
theorem kn2_f : kn2.Fine 2 := by have h := kn1_f.ask 2 knB; rw [kn2_is] at h; exact h
theorem kn3_f : kn3.Fine 3 := by have h := kn2_f.ask 1 knB; rw [kn3_is] at h; exact h
theorem kn5_f : kn5.Fine 3 := by have h := kn3_f.back (by omega) 2 0; rw [kn5_is] at h; exact h
theorem ask_x {t : Nat} {T T' : LT} {Fp : Nat → Prop} {H : Heap} {nx N : Nat} {e : Int} (hT : TabAt t T Fp H) (hf : T.Fine N) (hN : N < 900) (o : Nat) (k : ByteArray) (hsz : k.size < 4611686018427387904) (he : T.ask o k = (T', e)) :
    Fnc Try.prog 29 [.ptr t 0, .sc (.int .u64 (o : Int)), .sc (.string k)] H nx (Chg t T' (.sc (.int .i64 e)) Fp H nx) := by
  obtain ⟨h1, h2, h3⟩ := hf.askOk hN o k
  have h := ask_t (nx := nx) hT o k h1 h2 hsz h3
  rw [he] at h
  exact h
theorem numbers_e {H : Heap} {nx r1 r2 : Nat} {a1 a2 : Bool} (xs : List Nat) (h1 : H.at' r1 = some (uR a1 xs)) (h2 : H.at' r2 = some (uR a2 xs)) (hl : xs.length < 2000000) : Fnc Try.prog 27 [.slu r1 0 xs.length, .slu r2 0 xs.length] H nx (fun q => q = (.sc (.bool true), H, nx)) := by
  have h := numbers_s (nx := nx) xs xs h1 h2 hl hl
  rw [decide_eq_true rfl] at h
  exact h
theorem texts_e {H : Heap} {nx r1 r2 : Nat} {a1 a2 : Bool} (xs : List ByteArray) (h1 : H.at' r1 = some (sR a1 xs)) (h2 : H.at' r2 = some (sR a2 xs)) (hl : xs.length < 2000000) : Fnc Try.prog 17 [.slu r1 0 xs.length, .slu r2 0 xs.length] H nx (fun q => q = (.sc (.bool true), H, nx)) := by
  have h := texts_s (nx := nx) xs xs h1 h2 hl hl
  rw [decide_eq_true rfl] at h
  exact h
set_option maxRecDepth 100000 in
set_option maxHeartbeats 0 in
theorem known_f {H : Heap} {nx : Nat} : Fnc Try.prog 9 [] H nx (fun q => q.1 = .sc (.bool true) ∧ nx ≤ q.2.2 ∧ ∀ n, n < nx → q.2.1.at' n = H.at' n) := by
  refine Fnc.start Try.func9 rfl rfl ?_
  (repeat (first | (first | refine y_seq ?_ | refine w_region ?_ | refine y_regEnd ?_ | refine y_skip ?_ | refine y_condF rfl ?_ | refine w_move rfl rfl rfl ?_ | refine w_assign rfl rfl rfl ?_ | refine w_eqNil rfl rfl rfl rfl (F.un _ rfl) rfl ?_) | (refine w_call rfl rfl rfl (by kernel_rfl) (Fnc.mono (new_t) ?_); rintro _ rfl; dsimp only)))
  refine w_call rfl rfl rfl (by kernel_rfl) (Fnc.mono (ask_x new_at LT.Fine.empty (by omega) 1 knA (by decide) kn1_is) ?_)
  rintro ⟨_, H1, n1⟩ ⟨rfl, F1, a1, a2⟩
  dsimp only at a1 a2 ⊢
  (repeat (refine w_move rfl rfl rfl ?_))
  refine w_call rfl rfl rfl (by kernel_rfl) (Fnc.mono (ask_x a1 kn1_f (by omega) 2 knB (by decide) kn2_is) ?_)
  rintro ⟨_, H2, n2⟩ ⟨rfl, F2, b1, b2⟩
  dsimp only at b1 b2 ⊢
  (repeat (first | (refine w_move rfl rfl rfl ?_) | (refine w_call rfl rfl rfl (by kernel_rfl) (Fnc.mono (mark_t b1 1) ?_); rintro _ rfl; dsimp only)))
  refine w_call rfl rfl rfl (by kernel_rfl) (Fnc.mono (ask_x b1 kn2_f (by omega) 1 knB (by decide) kn3_is) ?_)
  rintro ⟨_, H3, n3⟩ ⟨rfl, F3, c1, c2⟩
  dsimp only at c1 c2 ⊢
  (repeat (refine w_move rfl rfl rfl ?_))
  refine w_call rfl rfl rfl (by kernel_rfl) (Fnc.mono (ask_x c1 kn3_f (by omega) 2 knA (by decide) kn4_is) ?_)
  rintro ⟨_, H4, n4⟩ ⟨rfl, F4, d1, d2⟩
  dsimp only at d1 d2 ⊢
  (repeat (first | refine y_seq ?_ | refine w_region ?_ | refine y_regEnd ?_ | refine w_move rfl rfl rfl ?_ | refine w_assign rfl rfl rfl ?_))
  have hfr := free_t (nx := n4) d1 2 ⟨by decide, (kn3_f.backOk (by omega) 2 0).2⟩
  rw [kn5_is] at hfr
  refine w_call rfl rfl rfl (by kernel_rfl) (Fnc.mono hfr ?_)
  rintro ⟨_, H5, n5⟩ ⟨r5, rfl, e1, e2, e3, F5, e4, e5, e6⟩
  dsimp only at e1 e3 e4 e6 ⊢
  clear hfr
  refine y_under fun hund5 => ?_
  have hF5 := e4.lt hund5
  (repeat (first | refine y_seq ?_ | refine w_region ?_ | refine y_regEnd ?_ | refine w_move rfl rfl rfl ?_ | refine w_assign rfl rfl rfl ?_))
  refine w_call rfl rfl rfl (by kernel_rfl) (Fnc.mono (keys_t e4 1 (by decide)) ?_)
  rintro ⟨_, H6, n6⟩ ⟨r6, rfl, f1, f2, f3, f4, f5⟩
  dsimp only at f1 f3 f4 f5 ⊢
  (repeat (first | refine y_seq ?_ | refine w_region ?_ | refine y_regEnd ?_ | refine w_move rfl rfl rfl ?_ | refine w_assign rfl rfl rfl ?_))
  have hba := back_t (nx := n6) (e4.frame fun n hn => f5 n (hF5 n hn)) 1 1 ⟨by decide, (kn5_f.backOk (by omega) 1 1).2⟩
  rw [kn6_is] at hba
  refine w_call rfl rfl rfl (by kernel_rfl) (Fnc.mono hba ?_)
  rintro ⟨_, H7, n7⟩ ⟨r7, rfl, g1, g2, g3, F7, g4, g5, g6⟩
  dsimp only at g1 g3 g4 g6 ⊢
  clear hba
  refine y_under fun hund7 => ?_
  have hF7 := g4.lt hund7
  have hr5 : H7.at' r5 = some (uR false [1]) := (g6.2.2 r5 (by omega) fun h => e5 h).trans ((f5 r5 e3).trans e1)
  have hr6 : H7.at' r6 = some (sR false [knA, knB]) := (g6.2.2 r6 f3 fun h => by have := hF5 _ h; omega).trans f1
  (repeat (first | (first | refine y_seq ?_ | refine w_region ?_ | refine y_regEnd ?_ | refine w_move rfl rfl rfl ?_ | refine w_assign rfl rfl rfl ?_ | refine w_pickT rfl rfl rfl rfl ?_ | refine w_extract rfl rfl rfl rfl ?_ | refine w_add rfl rfl rfl rfl (by omega) (by omega) ?_) | (refine w_call rfl rfl rfl (by kernel_rfl) (Fnc.mono (num_s _) ?_); rintro _ rfl; dsimp only) | (refine w_eqlS rfl rfl rfl rfl (fun _ => ?_) (fun hq => absurd (by decide) hq)) | refine w_bsl1 rfl rfl rfl (F.un _ rfl) (F.sz _ rfl) (F.ze _ rfl) rfl ?_))
  (refine w_call rfl rfl rfl (by kernel_rfl) (Fnc.mono (numbers_e (H := H7.set n7 (uR false [1])) [1] (by (focus ((repeat (refine (Tr.at_set_other _ _ (by omega)).trans ?_)); exact hr5))) (Tr.at_set_same _ _ _) (by decide)) ?_); rintro _ rfl; dsimp only)
  (repeat (first | (first | refine w_move rfl rfl rfl ?_ | refine w_pickT rfl rfl rfl rfl ?_) | refine w_bsl2 rfl rfl rfl rfl (F.un _ rfl) (F.sz _ rfl) (F.ze _ rfl) rfl rfl ?_))
  (refine w_call rfl rfl rfl (by kernel_rfl) (Fnc.mono (texts_e (H := (H7.set n7 (uR false [1])).set (n7 + 1) (sR false [knA, knB])) [knA, knB] (by (focus ((repeat (refine (Tr.at_set_other _ _ (by omega)).trans ?_)); exact hr6))) (Tr.at_set_same _ _ _) (by decide)) ?_); rintro _ rfl; dsimp only)
  (repeat (first | (first | refine w_move rfl rfl rfl ?_ | refine w_pickT rfl rfl rfl rfl ?_ | refine w_lenSl rfl rfl rfl (F.un _ rfl) ?_) | (refine w_eqlS rfl rfl rfl rfl (fun _ => ?_) (fun hq => absurd (by decide) hq))))
  refine w_call rfl rfl rfl (by kernel_rfl) (Fnc.mono (keys_t (T := kn1) (Fp := F7) (g4.frame fun n hn => by have := hF7 n hn; (focus ((repeat (refine (Tr.at_set_other _ _ (by omega)).trans ?_)); exact rfl))) 1 (by decide)) ?_)
  rintro ⟨_, H8, n8⟩ ⟨r8, rfl, i1, i2, i3, i4, i5⟩
  dsimp only at i1 i3 i4 i5 ⊢
  (repeat (refine w_bsl1 rfl rfl rfl (F.un _ rfl) (F.sz _ rfl) (F.ze _ rfl) rfl ?_))
  (refine w_call rfl rfl rfl (by kernel_rfl) (Fnc.mono (texts_e (H := H8.set n8 (sR false [knA])) [knA] (by (focus ((repeat (refine (Tr.at_set_other _ _ (by omega)).trans ?_)); exact i1))) (Tr.at_set_same _ _ _) (by decide)) ?_); rintro _ rfl; dsimp only)
  (repeat (first | refine y_regEnd ?_ | refine w_assign rfl rfl rfl ?_ | refine w_pickT rfl rfl rfl rfl ?_))
  ((apply w_ret Try.func9 (congrArg Array.toList Try.results9)); (focus (repeat (first | exact ResIs.nil | apply ResIs.tmp rfl))))
  have s1 := a2.1
  have s2 := b2.1
  have s3 := c2.1
  have s4 := d2.1
  have s5 := e6.1
  have s7 := g6.1
  clear hr5 hr6 hF7 hF5 hund5 hund7
  have k1 : ∀ n, F1 n → nx ≤ n := fun n hn => by
    rcases a2.2.1 n hn with h | h
    · have h : n = nx + 1 + 1 ∨ n = nx ∨ n = nx + 1 := h
      omega
    · omega
  have k2 : ∀ n, F2 n → nx ≤ n := fun n hn => (b2.2.1 n hn).elim (k1 n) fun h => by omega
  have k3 : ∀ n, F3 n → nx ≤ n := fun n hn => (c2.2.1 n hn).elim (k2 n) fun h => by omega
  have k4 : ∀ n, F4 n → nx ≤ n := fun n hn => (d2.2.1 n hn).elim (k3 n) fun h => by omega
  have k5 : ∀ n, F5 n → nx ≤ n := fun n hn => (e6.2.1 n hn).elim (k4 n) fun h => by omega
  refine ⟨rfl, by simp only; omega, fun n hn => ?_⟩
  have m1 : H1.at' n = H.at' n := (a2.2.2 n (by omega) fun h => by
    have h : n = nx + 1 + 1 ∨ n = nx ∨ n = nx + 1 := h
    omega).trans (by (focus ((repeat (refine (Tr.at_set_other _ _ (by omega)).trans ?_)); exact rfl)))
  have m2 := (b2.2.2 n (by omega) fun h => by have := k1 n h; omega).trans m1
  have m3 := (c2.2.2 n (by omega) fun h => by have := k2 n h; omega).trans m2
  have m4 := (d2.2.2 n (by omega) fun h => by have := k3 n h; omega).trans m3
  have m5 := (e6.2.2 n (by omega) fun h => by have := k4 n h; omega).trans m4
  have m6 := (f5 n (by omega)).trans m5
  have m7 := (g6.2.2 n (by omega) fun h => by have := k5 n h; omega).trans m6
  have m8 := (i5 n (by omega)).trans (show _ = H.at' n by (focus ((repeat (refine (Tr.at_set_other _ _ (by omega)).trans ?_)); exact m7)))
  (focus ((repeat (refine (Tr.at_set_other _ _ (by omega)).trans ?_)); exact m8))
end Go.Proofs.Ytckajlllkmkniaa
end
section
namespace Go.Proofs.Ytckajlllkmkniaa
open Go.Sl
theorem flat_nodup {A B : Type} : ∀ {P : List (A × List B)}, (∀ x ∈ P, x.2.Nodup) → P.Pairwise (fun x y => ∀ b ∈ x.2, b ∉ y.2) → (P.flatMap (·.2)).Nodup
  | [], _, _ => List.nodup_nil
  | x :: P, h1, h2 => by
    rw [List.pairwise_cons] at h2
    rw [List.flatMap_cons, List.nodup_append]
    refine ⟨h1 x (List.mem_cons_self ..), flat_nodup (fun y hy => h1 y (List.mem_cons_of_mem _ hy)) h2.2, fun a ha b hb e => ?_⟩
    subst e
    obtain ⟨y, hy, hay⟩ := List.mem_flatMap.1 hb
    exact h2.1 y hy a ha hay
theorem LT.Fine.count {T : LT} {N : Nat} (H : T.Fine N) : (T.parties.map fun x => (T.keys x.1).length).sum = T.locks.length := by
  have hkeys : ∀ x ∈ T.parties, T.keys x.1 = x.2.1 := fun x hx => by
    obtain ⟨o, ks, w⟩ := x
    unfold LT.keys
    rw [mget_perm_mem H.ndP hx]
  have hsum : (T.parties.map fun x => (T.keys x.1).length).sum = ((T.parties.map fun x => (x.1, x.2.1)).flatMap (·.2)).length := by
    rw [List.length_flatMap, List.map_map]
    congr 1
    apply List.map_congr_left
    intro x hx
    simp only [Function.comp]
    rw [hkeys x hx]
  rw [hsum]
  have hnd : ((T.parties.map fun x => (x.1, x.2.1)).flatMap (·.2)).Nodup := by
    refine flat_nodup (fun y hy => ?_) ?_
    · obtain ⟨x, hx, rfl⟩ := List.mem_map.1 hy
      obtain ⟨o, ks, w⟩ := x
      exact (H.wf.par o ks w (mget_perm_mem H.ndP hx)).2.1
    · rw [List.pairwise_map]
      have hp : T.parties.Pairwise fun x y => x.1 ≠ y.1 := by
        have := H.ndP
        unfold List.Nodup at this
        rw [List.pairwise_map] at this
        exact this
      refine List.Pairwise.imp_of_mem (fun {x y} hx hy hne => ?_) hp
      obtain ⟨o, ks, w⟩ := x
      obtain ⟨o2, ks2, w2⟩ := y
      intro b hb hb2
      simp only at hb hb2 hne
      obtain ⟨l, hl⟩ := (H.wf.par o ks w (mget_perm_mem H.ndP hx)).2.2.1 b hb
      obtain ⟨l2, hl2⟩ := (H.wf.par o2 ks2 w2 (mget_perm_mem H.ndP hy)).2.2.1 b hb2
      rw [hl] at hl2
      simp only [Option.some.injEq, Prod.mk.injEq] at hl2
      exact hne hl2.1
  have h1 := nodup_le _ (T.locks.map (·.1)) hnd (fun k hk => by
    obtain ⟨y, hy, hky⟩ := List.mem_flatMap.1 hk
    obtain ⟨x, hx, rfl⟩ := List.mem_map.1 hy
    obtain ⟨o, ks, w⟩ := x
    obtain ⟨l, hl⟩ := (H.wf.par o ks w (mget_perm_mem H.ndP hx)).2.2.1 k hky
    exact mget_mem hl)
  have h2 := nodup_le (T.locks.map (·.1)) ((T.parties.map fun x => (x.1, x.2.1)).flatMap (·.2)) H.ndL (fun k hk => by
    obtain ⟨⟨o, l⟩, hg⟩ := mget_key hk
    obtain ⟨_, _, ⟨ks, w, hp, hkk⟩, _⟩ := H.wf.own k o l hg
    obtain ⟨A, B, hpe, _⟩ := mget_split hp
    refine List.mem_flatMap.2 ⟨(o, ks), ?_, hkk⟩
    rw [hpe]
    simp)
  rw [List.length_map] at h1 h2
  omega
theorem LT.Fine.has_own {T : LT} {N : Nat} (H : T.Fine N) {o : Nat} {k : ByteArray} (hk : k ∈ T.keys o) : T.has k = o := by
  unfold LT.keys at hk
  cases hp : mget T.parties o with
  | none => rw [hp] at hk; cases hk
  | some p =>
    obtain ⟨ks, w⟩ := p
    rw [hp] at hk
    obtain ⟨l, hl⟩ := (H.wf.par o ks w hp).2.2.1 k hk
    unfold LT.has
    rw [hl]
theorem LT.Fine.up {T : LT} {N : Nat} (H : T.Fine N) : ∃ rank : Nat → Nat, ∀ o, (T.waits o).size ≠ 0 → o ∈ T.parties.map (·.1) ∧ rank (T.has (T.waits o)) < rank o := by
  obtain ⟨rank, hr⟩ := H.wf.down
  refine ⟨rank, fun o ho => ?_⟩
  unfold LT.waits at ho ⊢
  cases hp : mget T.parties o with
  | none => rw [hp] at ho; exact absurd rfl ho
  | some p =>
    obtain ⟨ks, w⟩ := p
    rw [hp] at ho
    obtain ⟨h, l, hg, hlt⟩ := hr o ks w hp ho
    refine ⟨mget_mem hp, ?_⟩
    unfold LT.has
    simp only
    rw [hg]
    exact hlt
end Go.Proofs.Ytckajlllkmkniaa
end
section
namespace Go.Proofs.Ytckajlllkmkniaa
open Go Go.Sy Go.Sl Go.RowKit
set_option maxRecDepth 100000 in
set_option maxHeartbeats 0 in
theorem free_s {t : Nat} {T : LT} {Fo : Nat → Prop} {H : Heap} {nx : Nat} (hF : TabAt t T Fo H) (hT : T.Fine 150) (o : Nat) : Fnc Try.prog 24 [.ptr t 0, .sc (.int .u64 (o : Int))] H nx (fun q => q = (.sc (.bool true), H, nx)) := by
  obtain ⟨rank, hr⟩ := hT.up
  have hs := hT.szP
  refine Fnc.start Try.func24 rfl rfl ?_
  (repeat (first | (first | refine y_seq ?_ | refine w_region ?_ | refine y_regEnd ?_ | refine y_block ?_ | refine y_inBlock ?_ | refine y_skip ?_ | refine y_label ?_ | refine y_scope ?_ | refine y_inScope ?_ | refine y_exit rfl ?_ | refine y_condT rfl ?_ | refine y_condF rfl ?_ | refine y_goto rfl ?_ | refine w_move rfl rfl rfl ?_ | refine w_assign rfl rfl rfl ?_ | refine w_pickT rfl rfl rfl rfl ?_ | refine w_pickF rfl rfl rfl rfl ?_ | refine w_extract rfl rfl rfl rfl ?_ | refine w_nilCheck rfl rfl rfl ?_ | refine w_nilCheckF rfl rfl rfl ?_ | refine w_nilCheckI rfl rfl rfl ?_ | refine w_fieldAddr rfl rfl rfl (F.fo _ _ rfl rfl) ?_ | refine w_makeFunc rfl rfl rfl rfl ?_ | refine w_not rfl ?_ | refine w_extractV rfl rfl rfl rfl ?_ | refine w_makeMap rfl rfl ?_ | refine w_eqNil rfl rfl rfl rfl (F.un _ rfl) rfl ?_ | refine w_neNil rfl rfl rfl rfl (F.un _ rfl) rfl ?_ | refine w_isNil rfl rfl rfl rfl rfl (F.un _ rfl) rfl ?_ | refine w_noNil rfl rfl rfl rfl rfl (F.un _ rfl) rfl ?_ | refine w_storeC rfl rfl rfl rfl (F.sz _ rfl) (by first | exact rfl | (focus ((repeat (first | refine (Tr.at_set_other _ _ (by omega)).trans ?_ | refine (Tr.at_del_other _ (by omega)).trans ?_)); first | exact Tr.at_set_same _ _ _ | assumption))) rfl (by exact Nat.le_of_ble_eq_true rfl) rfl ?_ | refine w_loadB1 rfl rfl rfl (F.ag _ rfl) rfl rfl ?_ | refine w_loadBN rfl rfl rfl (F.ag _ rfl) rfl rfl ?_ | refine w_alloc rfl rfl (F.zl _ rfl) ?_ | refine w_boxN rfl rfl rfl ?_ | refine w_box rfl rfl rfl rfl ?_ | refine w_store1 rfl rfl rfl (F.sz _ rfl) rfl rfl rfl ?_ | refine w_storeN rfl rfl rfl (F.sz _ rfl) rfl rfl (by decide) rfl rfl ?_ | refine w_loadB1 rfl rfl rfl (F.ag _ rfl) (by (focus ((repeat (first | refine (Tr.at_set_other _ _ (by omega)).trans ?_ | refine (Tr.at_del_other _ (by omega)).trans ?_)); first | exact Tr.at_set_same _ _ _ | assumption))) (by exact rfl) ?_ | refine w_loadBN rfl rfl rfl (F.ag _ rfl) (by (focus ((repeat (first | refine (Tr.at_set_other _ _ (by omega)).trans ?_ | refine (Tr.at_del_other _ (by omega)).trans ?_)); first | exact Tr.at_set_same _ _ _ | assumption))) (by exact rfl) ?_ | refine w_store1 rfl rfl rfl (F.sz _ rfl) (by (focus ((repeat (first | refine (Tr.at_set_other _ _ (by omega)).trans ?_ | refine (Tr.at_del_other _ (by omega)).trans ?_)); first | exact Tr.at_set_same _ _ _ | assumption))) (by exact rfl) (by exact rfl) ?_ | refine w_storeN rfl rfl rfl (F.sz _ rfl) (by (focus ((repeat (first | refine (Tr.at_set_other _ _ (by omega)).trans ?_ | refine (Tr.at_del_other _ (by omega)).trans ?_)); first | exact Tr.at_set_same _ _ _ | assumption))) rfl (by exact Nat.le_of_ble_eq_true rfl) rfl (by exact rfl) ?_ | refine w_lenSl rfl rfl rfl (F.un _ rfl) ?_ | refine w_lenStr rfl rfl rfl (F.un _ rfl) ?_ | refine w_add rfl rfl rfl rfl (by omega) (by omega) ?_ | refine w_sub rfl rfl rfl rfl (by omega) (by omega) ?_ | refine w_mul rfl rfl rfl rfl (by omega) (by omega) ?_ | refine w_notB rfl rfl rfl ?_ | refine w_quo rfl rfl rfl rfl (by omega) (by omega) (by omega) ?_ | refine w_build rfl rfl rfl (F.ze _ rfl) (F.pl _ rfl) rfl ?_ | fail) | fail))
  refine y_loopT (α := Nat × Nat × List Nat) (fun x => [(0, .ptr t 0), (1, .sc (.int .u64 (o : Int))), (5, .sc (.int .u64 (x.2.1 : Int))), (6, .sc (.int .i64 (x.1 : Int)))]) (fun x H1 nx1 => H1 = H ∧ nx1 = nx ∧ x.2.2.length = x.1 ∧ x.2.2.Nodup ∧ (∀ y ∈ x.2.2, y ∈ T.parties.map (·.1) ∧ rank x.2.1 < rank y) ∧ (x.2.2 = [] ∧ x.2.1 = o ∨ o ∈ x.2.2)) (fun x => 200 - x.1) (0, o, []) ⟨rfl, rfl, rfl, List.nodup_nil, fun y hy => (by cases hy), .inl ⟨rfl, rfl⟩⟩ (SlIn.sub (by repeat (first | exact trivial | refine ⟨rfl, ?_⟩ | refine ⟨sl_eq (by first | omega | (simp only; omega)), ?_⟩ | fail))) ?_
  rintro ⟨i, p, vis⟩ H1 nx1 ⟨rfl, rfl, h1, h2, h3, h4⟩ again
  simp only at h1 h2 h3 h4 again ⊢
  have hle := nodup_le vis (T.parties.map (·.1)) h2 fun y hy => (h3 y hy).1
  rw [List.length_map] at hle
  (repeat (first | (first | refine y_seq ?_ | refine w_region ?_ | refine y_regEnd ?_ | refine y_block ?_ | refine y_inBlock ?_ | refine y_skip ?_ | refine y_label ?_ | refine y_scope ?_ | refine y_inScope ?_ | refine y_exit rfl ?_ | refine y_condT rfl ?_ | refine y_condF rfl ?_ | refine y_goto rfl ?_ | refine w_move rfl rfl rfl ?_ | refine w_assign rfl rfl rfl ?_ | refine w_pickT rfl rfl rfl rfl ?_ | refine w_pickF rfl rfl rfl rfl ?_ | refine w_extract rfl rfl rfl rfl ?_ | refine w_nilCheck rfl rfl rfl ?_ | refine w_nilCheckF rfl rfl rfl ?_ | refine w_nilCheckI rfl rfl rfl ?_ | refine w_fieldAddr rfl rfl rfl (F.fo _ _ rfl rfl) ?_ | refine w_makeFunc rfl rfl rfl rfl ?_ | refine w_not rfl ?_ | refine w_extractV rfl rfl rfl rfl ?_ | refine w_makeMap rfl rfl ?_ | refine w_eqNil rfl rfl rfl rfl (F.un _ rfl) rfl ?_ | refine w_neNil rfl rfl rfl rfl (F.un _ rfl) rfl ?_ | refine w_isNil rfl rfl rfl rfl rfl (F.un _ rfl) rfl ?_ | refine w_noNil rfl rfl rfl rfl rfl (F.un _ rfl) rfl ?_ | refine w_storeC rfl rfl rfl rfl (F.sz _ rfl) (by first | exact rfl | (focus ((repeat (first | refine (Tr.at_set_other _ _ (by omega)).trans ?_ | refine (Tr.at_del_other _ (by omega)).trans ?_)); first | exact Tr.at_set_same _ _ _ | assumption))) rfl (by exact Nat.le_of_ble_eq_true rfl) rfl ?_ | refine w_loadB1 rfl rfl rfl (F.ag _ rfl) rfl rfl ?_ | refine w_loadBN rfl rfl rfl (F.ag _ rfl) rfl rfl ?_ | refine w_alloc rfl rfl (F.zl _ rfl) ?_ | refine w_boxN rfl rfl rfl ?_ | refine w_box rfl rfl rfl rfl ?_ | refine w_store1 rfl rfl rfl (F.sz _ rfl) rfl rfl rfl ?_ | refine w_storeN rfl rfl rfl (F.sz _ rfl) rfl rfl (by decide) rfl rfl ?_ | refine w_loadB1 rfl rfl rfl (F.ag _ rfl) (by (focus ((repeat (first | refine (Tr.at_set_other _ _ (by omega)).trans ?_ | refine (Tr.at_del_other _ (by omega)).trans ?_)); first | exact Tr.at_set_same _ _ _ | assumption))) (by exact rfl) ?_ | refine w_loadBN rfl rfl rfl (F.ag _ rfl) (by (focus ((repeat (first | refine (Tr.at_set_other _ _ (by omega)).trans ?_ | refine (Tr.at_del_other _ (by omega)).trans ?_)); first | exact Tr.at_set_same _ _ _ | assumption))) (by exact rfl) ?_ | refine w_store1 rfl rfl rfl (F.sz _ rfl) (by (focus ((repeat (first | refine (Tr.at_set_other _ _ (by omega)).trans ?_ | refine (Tr.at_del_other _ (by omega)).trans ?_)); first | exact Tr.at_set_same _ _ _ | assumption))) (by exact rfl) (by exact rfl) ?_ | refine w_storeN rfl rfl rfl (F.sz _ rfl) (by (focus ((repeat (first | refine (Tr.at_set_other _ _ (by omega)).trans ?_ | refine (Tr.at_del_other _ (by omega)).trans ?_)); first | exact Tr.at_set_same _ _ _ | assumption))) rfl (by exact Nat.le_of_ble_eq_true rfl) rfl (by exact rfl) ?_ | refine w_lenSl rfl rfl rfl (F.un _ rfl) ?_ | refine w_lenStr rfl rfl rfl (F.un _ rfl) ?_ | refine w_add rfl rfl rfl rfl (by omega) (by omega) ?_ | refine w_sub rfl rfl rfl rfl (by omega) (by omega) ?_ | refine w_mul rfl rfl rfl rfl (by omega) (by omega) ?_ | refine w_notB rfl rfl rfl ?_ | refine w_quo rfl rfl rfl rfl (by omega) (by omega) (by omega) ?_ | refine w_build rfl rfl rfl (F.ze _ rfl) (F.pl _ rfl) rfl ?_ | fail) | (refine w_lssS rfl rfl rfl rfl (fun _ => ?_) (fun hq => absurd hq (by omega))) | (refine w_call rfl rfl rfl (by kernel_rfl) (Fnc.mono (waits_t hF p) ?_); rintro _ rfl; dsimp only) | fail))
  by_cases hw : (T.waits p).size = 0
  · rw [show (T.waits p != (⟨#[]⟩ : ByteArray)) = !(T.waits p == (⟨#[]⟩ : ByteArray)) from rfl, empty_of hw]
    (repeat (first | (first | refine y_seq ?_ | refine w_region ?_ | refine y_regEnd ?_ | refine y_block ?_ | refine y_inBlock ?_ | refine y_skip ?_ | refine y_label ?_ | refine y_scope ?_ | refine y_inScope ?_ | refine y_exit rfl ?_ | refine y_condT rfl ?_ | refine y_condF rfl ?_ | refine y_goto rfl ?_ | refine w_move rfl rfl rfl ?_ | refine w_assign rfl rfl rfl ?_ | refine w_pickT rfl rfl rfl rfl ?_ | refine w_pickF rfl rfl rfl rfl ?_ | refine w_extract rfl rfl rfl rfl ?_ | refine w_nilCheck rfl rfl rfl ?_ | refine w_nilCheckF rfl rfl rfl ?_ | refine w_nilCheckI rfl rfl rfl ?_ | refine w_fieldAddr rfl rfl rfl (F.fo _ _ rfl rfl) ?_ | refine w_makeFunc rfl rfl rfl rfl ?_ | refine w_not rfl ?_ | refine w_extractV rfl rfl rfl rfl ?_ | refine w_makeMap rfl rfl ?_ | refine w_eqNil rfl rfl rfl rfl (F.un _ rfl) rfl ?_ | refine w_neNil rfl rfl rfl rfl (F.un _ rfl) rfl ?_ | refine w_isNil rfl rfl rfl rfl rfl (F.un _ rfl) rfl ?_ | refine w_noNil rfl rfl rfl rfl rfl (F.un _ rfl) rfl ?_ | refine w_storeC rfl rfl rfl rfl (F.sz _ rfl) (by first | exact rfl | (focus ((repeat (first | refine (Tr.at_set_other _ _ (by omega)).trans ?_ | refine (Tr.at_del_other _ (by omega)).trans ?_)); first | exact Tr.at_set_same _ _ _ | assumption))) rfl (by exact Nat.le_of_ble_eq_true rfl) rfl ?_ | refine w_loadB1 rfl rfl rfl (F.ag _ rfl) rfl rfl ?_ | refine w_loadBN rfl rfl rfl (F.ag _ rfl) rfl rfl ?_ | refine w_alloc rfl rfl (F.zl _ rfl) ?_ | refine w_boxN rfl rfl rfl ?_ | refine w_box rfl rfl rfl rfl ?_ | refine w_store1 rfl rfl rfl (F.sz _ rfl) rfl rfl rfl ?_ | refine w_storeN rfl rfl rfl (F.sz _ rfl) rfl rfl (by decide) rfl rfl ?_ | refine w_loadB1 rfl rfl rfl (F.ag _ rfl) (by (focus ((repeat (first | refine (Tr.at_set_other _ _ (by omega)).trans ?_ | refine (Tr.at_del_other _ (by omega)).trans ?_)); first | exact Tr.at_set_same _ _ _ | assumption))) (by exact rfl) ?_ | refine w_loadBN rfl rfl rfl (F.ag _ rfl) (by (focus ((repeat (first | refine (Tr.at_set_other _ _ (by omega)).trans ?_ | refine (Tr.at_del_other _ (by omega)).trans ?_)); first | exact Tr.at_set_same _ _ _ | assumption))) (by exact rfl) ?_ | refine w_store1 rfl rfl rfl (F.sz _ rfl) (by (focus ((repeat (first | refine (Tr.at_set_other _ _ (by omega)).trans ?_ | refine (Tr.at_del_other _ (by omega)).trans ?_)); first | exact Tr.at_set_same _ _ _ | assumption))) (by exact rfl) (by exact rfl) ?_ | refine w_storeN rfl rfl rfl (F.sz _ rfl) (by (focus ((repeat (first | refine (Tr.at_set_other _ _ (by omega)).trans ?_ | refine (Tr.at_del_other _ (by omega)).trans ?_)); first | exact Tr.at_set_same _ _ _ | assumption))) rfl (by exact Nat.le_of_ble_eq_true rfl) rfl (by exact rfl) ?_ | refine w_lenSl rfl rfl rfl (F.un _ rfl) ?_ | refine w_lenStr rfl rfl rfl (F.un _ rfl) ?_ | refine w_add rfl rfl rfl rfl (by omega) (by omega) ?_ | refine w_sub rfl rfl rfl rfl (by omega) (by omega) ?_ | refine w_mul rfl rfl rfl rfl (by omega) (by omega) ?_ | refine w_notB rfl rfl rfl ?_ | refine w_quo rfl rfl rfl rfl (by omega) (by omega) (by omega) ?_ | refine w_build rfl rfl rfl (F.ze _ rfl) (F.pl _ rfl) rfl ?_ | fail) | fail))
    ((first | apply w_end Try.func24 (congrArg Array.toList Try.results24) | apply w_ret Try.func24 (congrArg Array.toList Try.results24)); (focus (repeat (first | exact ResIs.nil | apply ResIs.tmp rfl | apply ResIs.cell rfl (LoadIs.one (F.ag _ rfl) rfl (cell_box rfl)) | apply ResIs.cell rfl (LoadIs.many (F.ag _ rfl) rfl (cellsFrom_box _ 0 rfl rfl))))))
    rfl
  · obtain ⟨g1, g2⟩ := hr p hw
    rw [show (T.waits p != (⟨#[]⟩ : ByteArray)) = !(T.waits p == (⟨#[]⟩ : ByteArray)) from rfl, empty_ne hw]
    have hpn : p ∉ vis := fun hp => Nat.lt_irrefl _ (h3 p hp).2
    have hon : T.has (T.waits p) ≠ o := fun e => by
      rcases h4 with ⟨_, rfl⟩ | h4
      · rw [e] at g2; exact Nat.lt_irrefl _ g2
      · have := (h3 o h4).2; rw [e] at g2; omega
    have hnd : (p :: vis).Nodup := List.nodup_cons.2 ⟨hpn, h2⟩
    have hall : ∀ y ∈ p :: vis, y ∈ T.parties.map (·.1) ∧ rank (T.has (T.waits p)) < rank y := fun y hy => by
      rcases List.mem_cons.1 hy with rfl | hy
      · exact ⟨g1, g2⟩
      · have := h3 y hy; exact ⟨this.1, by omega⟩
    have hle2 := nodup_le (p :: vis) (T.parties.map (·.1)) hnd fun y hy => (hall y hy).1
    rw [List.length_map, List.length_cons] at hle2
    (repeat (first | (first | refine y_seq ?_ | refine w_region ?_ | refine y_regEnd ?_ | refine y_block ?_ | refine y_inBlock ?_ | refine y_skip ?_ | refine y_label ?_ | refine y_scope ?_ | refine y_inScope ?_ | refine y_exit rfl ?_ | refine y_condT rfl ?_ | refine y_condF rfl ?_ | refine y_goto rfl ?_ | refine w_move rfl rfl rfl ?_ | refine w_assign rfl rfl rfl ?_ | refine w_pickT rfl rfl rfl rfl ?_ | refine w_pickF rfl rfl rfl rfl ?_ | refine w_extract rfl rfl rfl rfl ?_ | refine w_nilCheck rfl rfl rfl ?_ | refine w_nilCheckF rfl rfl rfl ?_ | refine w_nilCheckI rfl rfl rfl ?_ | refine w_fieldAddr rfl rfl rfl (F.fo _ _ rfl rfl) ?_ | refine w_makeFunc rfl rfl rfl rfl ?_ | refine w_not rfl ?_ | refine w_extractV rfl rfl rfl rfl ?_ | refine w_makeMap rfl rfl ?_ | refine w_eqNil rfl rfl rfl rfl (F.un _ rfl) rfl ?_ | refine w_neNil rfl rfl rfl rfl (F.un _ rfl) rfl ?_ | refine w_isNil rfl rfl rfl rfl rfl (F.un _ rfl) rfl ?_ | refine w_noNil rfl rfl rfl rfl rfl (F.un _ rfl) rfl ?_ | refine w_storeC rfl rfl rfl rfl (F.sz _ rfl) (by first | exact rfl | (focus ((repeat (first | refine (Tr.at_set_other _ _ (by omega)).trans ?_ | refine (Tr.at_del_other _ (by omega)).trans ?_)); first | exact Tr.at_set_same _ _ _ | assumption))) rfl (by exact Nat.le_of_ble_eq_true rfl) rfl ?_ | refine w_loadB1 rfl rfl rfl (F.ag _ rfl) rfl rfl ?_ | refine w_loadBN rfl rfl rfl (F.ag _ rfl) rfl rfl ?_ | refine w_alloc rfl rfl (F.zl _ rfl) ?_ | refine w_boxN rfl rfl rfl ?_ | refine w_box rfl rfl rfl rfl ?_ | refine w_store1 rfl rfl rfl (F.sz _ rfl) rfl rfl rfl ?_ | refine w_storeN rfl rfl rfl (F.sz _ rfl) rfl rfl (by decide) rfl rfl ?_ | refine w_loadB1 rfl rfl rfl (F.ag _ rfl) (by (focus ((repeat (first | refine (Tr.at_set_other _ _ (by omega)).trans ?_ | refine (Tr.at_del_other _ (by omega)).trans ?_)); first | exact Tr.at_set_same _ _ _ | assumption))) (by exact rfl) ?_ | refine w_loadBN rfl rfl rfl (F.ag _ rfl) (by (focus ((repeat (first | refine (Tr.at_set_other _ _ (by omega)).trans ?_ | refine (Tr.at_del_other _ (by omega)).trans ?_)); first | exact Tr.at_set_same _ _ _ | assumption))) (by exact rfl) ?_ | refine w_store1 rfl rfl rfl (F.sz _ rfl) (by (focus ((repeat (first | refine (Tr.at_set_other _ _ (by omega)).trans ?_ | refine (Tr.at_del_other _ (by omega)).trans ?_)); first | exact Tr.at_set_same _ _ _ | assumption))) (by exact rfl) (by exact rfl) ?_ | refine w_storeN rfl rfl rfl (F.sz _ rfl) (by (focus ((repeat (first | refine (Tr.at_set_other _ _ (by omega)).trans ?_ | refine (Tr.at_del_other _ (by omega)).trans ?_)); first | exact Tr.at_set_same _ _ _ | assumption))) rfl (by exact Nat.le_of_ble_eq_true rfl) rfl (by exact rfl) ?_ | refine w_lenSl rfl rfl rfl (F.un _ rfl) ?_ | refine w_lenStr rfl rfl rfl (F.un _ rfl) ?_ | refine w_add rfl rfl rfl rfl (by omega) (by omega) ?_ | refine w_sub rfl rfl rfl rfl (by omega) (by omega) ?_ | refine w_mul rfl rfl rfl rfl (by omega) (by omega) ?_ | refine w_notB rfl rfl rfl ?_ | refine w_quo rfl rfl rfl rfl (by omega) (by omega) (by omega) ?_ | refine w_build rfl rfl rfl (F.ze _ rfl) (F.pl _ rfl) rfl ?_ | fail) | (refine w_call rfl rfl rfl (by kernel_rfl) (Fnc.mono (has_t hF (T.waits p)) ?_); rintro _ rfl; dsimp only) | (refine w_eqlS rfl rfl rfl rfl (fun hq => absurd hq (by omega)) (fun _ => ?_)) | fail))
    refine again _ _ _ (i + 1, T.has (T.waits p), p :: vis) ⟨rfl, rfl, by simp only [List.length_cons]; omega, hnd, hall, .inr ?_⟩ (by simp only; omega) (SlIn.sub (by repeat (first | exact trivial | refine ⟨rfl, ?_⟩ | refine ⟨sl_eq (by first | omega | (simp only; omega)), ?_⟩ | fail)))
    rcases h4 with ⟨_, rfl⟩ | h4
    · exact List.mem_cons_self ..
    · exact List.mem_cons_of_mem _ h4
end Go.Proofs.Ytckajlllkmkniaa
end
section
namespace Go.Sy
open Go Go.Sl Go.RowKit
section
variable {P : Program}
theorem conc_two {e e1 e2 : Env} (h1 : e.le e1) (h2 : e.le e2) {s : SV} {v0 v : Value} (h : s.conc e = some v0) (h' : s.conc e1 = some v) : s.conc e2 = some v := by
  have := SV.conc_mono h1 s v0 h
  rw [h'] at this
  cases this
  exact SV.conc_mono h2 s _ h
theorem concL_two {e e1 e2 : Env} (h1 : e.le e1) (h2 : e.le e2) {s : List SV} {v0 v : List Value} (h : SV.concL e s = some v0) (h' : SV.concL e1 s = some v) : SV.concL e2 s = some v := by
  have := SV.concL_mono h1 s v0 h
  rw [h'] at this
  cases this
  exact SV.concL_mono h2 s _ h
theorem MRel_two {e e1 e2 : Env} (h1 : e.le e1) (h2 : e.le e2) : ∀ {l : List (Value × SV × Nat)} {m0 m : List MapEntry}, MRel e l m0 → MRel e1 l m → MRel e2 l m
  | [], [], [], _, _ => trivial
  | (_, _, _) :: _, _ :: _, _ :: _, hd0, hd => ⟨hd.1, hd.2.1, conc_two h1 h2 hd0.2.2.1 hd.2.2.1, MRel_two h1 h2 hd0.2.2.2 hd.2.2.2⟩
  | [], _ :: _, _, hd, _ => hd.elim
  | [], _, _ :: _, _, hd => hd.elim
  | _ :: _, [], _, hd, _ => by simp [MRel] at hd
  | _ :: _, _, [], _, hd => by simp [MRel] at hd
theorem DRel_two {e e1 e2 : Env} (h1 : e.le e1) (h2 : e.le e2) {a : ADf} {d0 d : Deferred} (hd0 : DRel e a d0) (hd : DRel e1 a d) : DRel e2 a d := by
  cases a with
  | call f args =>
    obtain ⟨x0, cap0, _, hl0⟩ := hd0
    obtain ⟨x, cap, rfl, hl⟩ := hd
    exact ⟨x, cap, rfl, concL_two h1 h2 hl0 hl⟩
  | taken r =>
    obtain ⟨x0, hx0, _⟩ := hd0
    obtain ⟨x, hx, rfl⟩ := hd
    have := h1 _ _ hx0
    rw [hx] at this
    cases this
    exact ⟨_, h2 _ _ hx0, rfl⟩
theorem DsRel_two {e e1 e2 : Env} (h1 : e.le e1) (h2 : e.le e2) : ∀ {l : List ADf} {m0 m : List Deferred}, DsRel e l m0 → DsRel e1 l m → DsRel e2 l m
  | [], [], [], _, _ => trivial
  | _ :: _, _ :: _, _ :: _, hd0, hd => ⟨DRel_two h1 h2 hd0.1 hd.1, DsRel_two h1 h2 hd0.2 hd.2⟩
  | [], _ :: _, _, hd, _ => hd.elim
  | [], _, _ :: _, _, hd => hd.elim
  | _ :: _, [], _, hd, _ => hd.elim
  | _ :: _, _, [], _, hd => hd.elim
theorem TRel_two {e e1 e2 : Env} (h1 : e.le e1) (h2 : e.le e2) {nt : Nat} {T : Tr SV} {t0 t : Array Value} (hd0 : TRel e nt T t0) (hd : TRel e1 nt T t) : TRel e2 nt T t := by
  refine ⟨hd.1, fun i s hs => ?_⟩
  obtain ⟨v0, a1, _⟩ := hd0.2 i s hs
  obtain ⟨v, b1, b2⟩ := hd.2 i s hs
  exact ⟨v, conc_two h1 h2 a1 b1, b2⟩
theorem ORel_two {e e1 e2 : Env} (h1 : e.le e1) (h2 : e.le e2) {vo : VO} {x : Ent} {o0 o : Obj} (h0 : ORel e vo x o0) (ho : ORel e1 vo x o) : ORel e2 vo x o := by
  cases vo with
  | cells n t c =>
    obtain ⟨_, cs0, fz0, _, _, _, g4⟩ := h0
    obtain ⟨q0, cs, fz, q1, q2, q3, q4⟩ := ho
    refine ⟨q0, cs, fz, q1, q2, q3, fun i hi s hs => ?_⟩
    obtain ⟨v0, a1, _⟩ := g4 i hi s hs
    obtain ⟨v, b1, b2⟩ := q4 i hi s hs
    exact ⟨v, conc_two h1 h2 a1 b1, b2⟩
  | row ro ne sz t c =>
    obtain ⟨_, cs0, fz0, t0, _, _, _, _, _, _, g7⟩ := h0
    obtain ⟨q0, cs, fz, tt, q1, q2, q3, q4, q5, q6, q7⟩ := ho
    refine ⟨q0, cs, fz, tt, q1, q2, q3, q4, q5, q6, fun i hi s hs => ?_⟩
    obtain ⟨v0, a1, _⟩ := g7 i hi s hs
    obtain ⟨v, b1, b2⟩ := q7 i hi s hs
    exact ⟨v, conc_two h1 h2 a1 b1, b2⟩
  | map l clock =>
    obtain ⟨es0, _, g2⟩ := h0
    obtain ⟨es, q1, q2⟩ := ho
    exact ⟨es, q1, MRel_two h1 h2 g2 q2⟩
  | iter m since seen stepped =>
    cases m with
    | none => exact ho
    | some m =>
      obtain ⟨_, y0, g1, _⟩ := h0
      obtain ⟨q0, y, q1, q2⟩ := ho
      have := h1 _ _ g1
      rw [q1] at this
      cases this
      exact ⟨q0, _, h2 _ _ g1, q2⟩
  | siter s pos => exact ho
  | loop st pend fn nt T params assign body dr =>
    obtain ⟨tm0, y0, g1, g2, _⟩ := h0
    obtain ⟨tm, y, q1, q2, q3⟩ := ho
    have := h1 _ _ g1
    rw [q1] at this
    cases this
    exact ⟨tm, _, h2 _ _ g1, TRel_two h1 h2 g2 q2, q3⟩
  | dfd l =>
    cases l with
    | none => exact ho
    | some l =>
      obtain ⟨ds0, _, g2⟩ := h0
      obtain ⟨ds, q1, q2⟩ := ho
      exact ⟨ds, q1, DsRel_two h1 h2 g2 q2⟩
theorem Lies_two {K : Zone} {w0 w : World} {e e1 e2 : Env} (h1 : e.le e1) (h2 : e.le e2) {vo : VO} {x : Ent} (h0 : Lies K w0 e vo x) (ho : Lies K w e1 vo x) : Lies K w e2 vo x := by
  rcases ho with ⟨a0, o, a1, a2, a3⟩ | a
  · rcases h0 with ⟨_, o0, _, _, b3⟩ | ⟨b, _⟩
    · exact .inl ⟨a0, o, a1, a2, ORel_two h1 h2 b3 a3⟩
    · rw [a0] at b; cases b
  · exact .inr a
theorem Lies_dat {K : Zone} {w : World} {e e' : Env} {rr : Bool} {ne sz : Nat} {t : TypeId} {vs : List Value} {x : Ent} (h : Lies K w e (dat rr ne sz t vs) x) : Lies K w e' (dat rr ne sz t vs) x := by
  rcases h with ⟨a0, o, a1, a2, a3⟩ | a
  · obtain ⟨q0, cs, fz, tt, q1, q2, q3, q4, q5, q6, q7⟩ := a3
    refine .inl ⟨a0, o, a1, a2, q0, cs, fz, tt, q1, q2, q3, q4, q5, q6, fun i hi s hs => ?_⟩
    obtain ⟨v, b1, b2⟩ := q7 i hi s hs
    refine ⟨v, ?_, b2⟩
    simp only [Tr.at', Option.map_eq_some_iff] at hs
    obtain ⟨u, _, rfl⟩ := hs
    exact b1
  · exact .inr a
theorem St.next {K : Zone} {w0 w w1 : World} {e e1 : Env} {H H1 : Heap} {nx nx1 r : Nat} {rr : Bool} {ne sz : Nat} {t : TypeId} {vs : List Value} (hS : St K w0 e H nx w) (hle : e.le e1) (hS1 : St K w0 e1 H1 nx1 w1) (hr : H1.at' r = some (dat rr ne sz t vs)) (h1 : nx ≤ r) (hk : ∀ m, m < nx → H1.at' m = H.at' m) :
    ∃ e2, e.le e2 ∧ St K w0 e2 (H.set nx (dat rr ne sz t vs)) (nx + 1) w1 ∧ e2 nx = e1 r := by
  have hbelow : ∀ m x, e m = some x → m < nx := fun m x hx => by
    rcases Nat.lt_or_ge m nx with q | q
    · exact q
    · rw [hS.fresh m q] at hx; cases hx
  have hle2 : e.le (fun m => if m < nx then e1 m else if m = nx then e1 r else none) := fun m x hx => by
    have := hbelow m x hx
    simp only [if_pos this]
    exact hle m x hx
  obtain ⟨xr, hxr, hlr⟩ := hS1.rel r _ hr
  have hget : ∀ m vo, (H.set nx (dat rr ne sz t vs)).at' m = some vo → (m = nx ∧ vo = dat rr ne sz t vs) ∨ (m < nx ∧ H.at' m = some vo) := fun m vo h => by
    rcases Tr.at_set h with ⟨q1, q2⟩ | ⟨q1, q2⟩
    · exact .inl ⟨q1, q2⟩
    · obtain ⟨x, hx, _⟩ := hS.rel m vo q2
      exact .inr ⟨hbelow m x hx, q2⟩
  refine ⟨fun m => if m < nx then e1 m else if m = nx then e1 r else none, hle2, ⟨hS1.below, fun m vo h => ?_, fun m m' vo vo' x x' g g' gx gx' gne gn gn' gro gro' => ?_, fun i hi => ?_⟩, ?_⟩
  · rcases hget m vo h with ⟨rfl, rfl⟩ | ⟨q1, q2⟩
    · refine ⟨xr, ?_, Lies_dat hlr⟩
      simp [hxr]
    · obtain ⟨x0, hx0, hl0⟩ := hS.rel m vo q2
      obtain ⟨x, hx, hl⟩ := hS1.rel m vo ((hk m q1).trans q2)
      have := hle m x0 hx0
      rw [hx] at this
      cases this
      refine ⟨_, ?_, Lies_two hle hle2 hl0 hl⟩
      simp only [if_pos q1]
      exact hx
  · change (if m < nx then e1 m else if m = nx then e1 r else none) = some x at gx
    change (if m' < nx then e1 m' else if m' = nx then e1 r else none) = some x' at gx'
    rcases hget m vo g with ⟨rfl, rfl⟩ | ⟨q1, q2⟩
    · rcases hget m' vo' g' with ⟨rfl, rfl⟩ | ⟨p1, p2⟩
      · exact absurd rfl gne
      · simp only [Nat.lt_irrefl, if_false, if_true] at gx
        simp only [if_pos p1] at gx'
        exact hS1.inj r m' _ vo' x x' hr ((hk m' p1).trans p2) gx gx' (by omega) gn gn' gro gro'
    · rw [if_pos q1] at gx
      rcases hget m' vo' g' with ⟨rfl, rfl⟩ | ⟨p1, p2⟩
      · rw [if_neg (Nat.lt_irrefl _), if_pos rfl] at gx'
        exact hS1.inj m r vo _ x x' ((hk m q1).trans q2) hr gx gx' (by omega) gn gn' gro gro'
      · rw [if_pos p1] at gx'
        exact hS1.inj m m' vo vo' x x' ((hk m q1).trans q2) ((hk m' p1).trans p2) gx gx' gne gn gn' gro gro'
  · show (if i < nx then e1 i else if i = nx then e1 r else none) = none
    rw [if_neg (by omega), if_neg (by omega)]
  · simp
theorem Fnc.next {f : FuncId} {args : List SV} {H : Heap} {nx m : Nat} {rr : Bool} {ne sz : Nat} {t : TypeId} {vs : List Value} (h : Fnc P f args H nx (fun q => ∃ r', q.1 = .slu r' 0 m ∧ q.2.1.at' r' = some (dat rr ne sz t vs) ∧ nx ≤ r' ∧ r' < q.2.2 ∧ nx ≤ q.2.2 ∧ ∀ n, n < nx → q.2.1.at' n = H.at' n)) : Fnc P f args H nx (fun q => q = (.slu nx 0 m, H.set nx (dat rr ne sz t vs), nx + 1)) := by
  have hv : ∀ {e1 e2 : Env} {r : Nat} {v : Value}, e2 nx = e1 r → (SV.slu r 0 m).conc e1 = some v → (SV.slu nx 0 m).conc e2 = some v := fun h1 h2 => by
    simpa [SV.conc, h1] using h2
  unfold Fnc callS at h ⊢
  rcases h with ⟨h1, v, r, h2, ⟨r', q1, q2, q3, q4, q5, q6⟩, h4⟩ | h
  · refine .inl ⟨h1, v, _, h2, rfl, fun K w0 e w hS => ?_⟩
    obtain ⟨e', g1, g2, g3⟩ := h4 K w0 e w hS
    obtain ⟨e2, k1, k2, k3⟩ := hS.next g1 g2 q2 q3 q6
    rw [q1] at g3
    exact ⟨e2, k1, k2, hv k3 g3⟩
  · refine .inr ?_
    split at h
    · refine ⟨fun K w0 e w tmps todo ds kd rof cs hS a2 a3 a4 a5 => ?_⟩
      obtain ⟨r, ⟨r', q1, q2, q3, q4, q5, q6⟩, e', w', v, g1, g2, g3, g4⟩ := Wp.run h K w0 e w tmps todo ds kd rof cs hS a2 a3 a4 a5
      obtain ⟨e2, k1, k2, k3⟩ := hS.next g1 g2 q2 q3 q6
      rw [q1] at g3
      exact ⟨_, rfl, e2, w', v, k1, k2, hv k3 g3, g4⟩
    · exact h.elim
end
end Go.Sy
end
section
namespace Go.Proofs.Ytckajlllkmkniaa
open Go Go.Sy Go.Sl Go.RowKit
def LT.sumKeys (T : LT) (l : List Nat) : Nat := (l.map fun o => (T.keys o).length).sum
theorem LT.sumKeys_snoc (T : LT) (l : List Nat) (o : Nat) : T.sumKeys (l ++ [o]) = T.sumKeys l + (T.keys o).length := by
  unfold LT.sumKeys
  simp
theorem LT.sumKeys_le (T : LT) (l : List Nat) (n : Nat) : T.sumKeys (l.take n) ≤ T.sumKeys l := by
  unfold LT.sumKeys
  conv => rhs; rw [← List.take_append_drop n l, List.map_append, List.sum_append]
  omega
theorem perm_sum {l m : List Nat} (h : l.Perm m) : l.sum = m.sum := by
  induction h with
  | nil => rfl
  | cons x _ ih => simp [ih]
  | swap x y l => simp only [List.sum_cons]; omega
  | trans _ _ h1 h2 => exact h1.trans h2
theorem LT.Fine.sumOwners {T : LT} {N : Nat} (H : T.Fine N) : T.sumKeys T.owners = T.locks.length := by
  unfold LT.sumKeys LT.owners
  rw [perm_sum ((sortU_facts (T.parties.map (·.1))).1.map fun o => (T.keys o).length), List.map_map]
  exact H.count
theorem LT.Fine.actCame {T : LT} {N : Nat} (H : T.Fine N) (hN : N < 900) (hb : T.Busy) (x : ActT) : ∀ n ∈ (T.act x).2.1, ((T.act x).1.waits n).size = 0 ∧ (T.act x).1.keys n ≠ [] := by
  have hm := fun o mark => (H.backMore (by omega) hb o mark).2.2.2
  unfold LT.act
  split
  · intro n hn; cases hn
  · split
    · exact hm _ _
    · split
      · exact hm _ _
      · intro n hn; cases hn
theorem LT.Fine.came_len {T : LT} {N : Nat} (H : T.Fine N) (hN : N < 900) (x : ActT) : (T.act x).2.1.length < 2000000 := by
  have hb : ∀ o mark, (T.back o mark).2.1.length < 2000000 := fun o mark => by
    by_cases hc : o = 0 ∨ mark < 0 ∨ ((T.keys o).length : Int) < mark
    · have : T.back o mark = (T, [], 2) := by unfold LT.back; rw [if_pos hc]
      rw [this]
      exact Nat.zero_lt_succ _
    · obtain ⟨m, rfl⟩ : ∃ m : Nat, mark = (m : Int) := ⟨mark.toNat, by omega⟩
      obtain ⟨_, _, m3, _⟩ := H.marks (by omega) o m (by omega) (by omega)
      have h1 := (H.back (by omega) o (m : Int)).szL
      have h2 := H.wf.keys_le o
      have h3 := H.szL
      omega
  unfold LT.act
  split
  · exact Nat.zero_lt_succ _
  · split
    · exact hb _ _
    · split
      · exact hb _ _
      · exact Nat.zero_lt_succ _
set_option maxRecDepth 100000 in
set_option maxHeartbeats 0 in
theorem alone_s {H : Heap} {nx r : Nat} {ro : Bool} (a : Array ActT) (hr : H.at' r = some (actR ro a)) (ha : a.size ≤ 9223372036854775807) : Fnc Try.prog 5 [.slu r 0 a.size] H nx (fun q => q.1 = .sc (.bool true)) := by
  refine Fnc.start Try.func5 rfl rfl ?_
  refine y_under fun hund => ?_
  have hrl := hund _ _ hr
  (repeat (first | refine y_seq ?_ | refine w_region ?_ | refine y_regEnd ?_ | refine w_alloc rfl rfl (F.zl _ rfl) ?_))
  (refine w_call rfl rfl rfl (by kernel_rfl) (Fnc.mono known_f ?_); rintro ⟨_, Hk, nk⟩ ⟨rfl, hk1, hk2⟩; dsimp only at hk1 hk2 ⊢)
  have hcK : Hk.at' nx = some (newCells 4 [.sc (.bool false)]) := (hk2 nx (by omega)).trans (by (focus (skip; first | exact Tr.at_set_same _ _ _ | assumption)))
  have hrK : Hk.at' r = some (actR ro a) := (hk2 r (by omega)).trans (by (focus ((repeat (refine (Tr.at_set_other _ _ (by omega)).trans ?_)); exact hr)))
  have hkeep : ∀ n, n < nx → Hk.at' n = H.at' n := fun n hn => (hk2 n (by omega)).trans (Tr.at_set_other _ _ (by omega))
  clear hk2
  (repeat (first | (first | refine y_seq ?_ | refine w_region ?_ | refine y_regEnd ?_ | refine y_skip ?_ | refine y_condF rfl ?_ | refine w_move rfl rfl rfl ?_ | refine w_notB rfl rfl rfl ?_) | (refine w_call rfl rfl rfl (by kernel_rfl) (Fnc.mono (much_s a 150 hrK ha) ?_); rintro _ rfl; dsimp only)))
  cases hm : muchA a 150 with
  | true =>
    (repeat (first | refine y_seq ?_ | refine w_region ?_ | refine y_regEnd ?_ | refine y_condT rfl ?_ | refine w_storeC rfl rfl rfl rfl (F.sz _ rfl) (by first | exact rfl | (focus (skip; first | exact Tr.at_set_same _ _ _ | assumption))) rfl (by exact Nat.le_of_ble_eq_true rfl) rfl ?_))
    ((apply w_ret Try.func5 (congrArg Array.toList Try.results5)); (focus (repeat (first | exact ResIs.nil | apply ResIs.cell rfl (LoadIs.one (F.ag _ rfl) (by (focus (skip; first | exact Tr.at_set_same _ _ _ | assumption))) (cell_box rfl))))))
    rfl
  | false =>
    obtain ⟨hsz, hks⟩ := not_much2 (m := 150) hm
    (repeat (first | (first | refine y_seq ?_ | refine w_region ?_ | refine y_regEnd ?_ | refine y_block ?_ | refine y_skip ?_ | refine y_condF rfl ?_ | refine w_assign rfl rfl rfl ?_ | refine w_eqNil rfl rfl rfl rfl (F.un _ rfl) rfl ?_ | refine w_storeC rfl rfl rfl rfl (F.sz _ rfl) (by first | exact rfl | (focus (skip; first | exact Tr.at_set_same _ _ _ | assumption))) rfl (by exact Nat.le_of_ble_eq_true rfl) rfl ?_ | refine w_alloc rfl rfl (F.zl _ rfl) ?_ | refine w_loadB1 rfl rfl rfl (F.ag _ rfl) (by (focus (skip; first | exact Tr.at_set_same _ _ _ | assumption))) (by exact rfl) ?_) | (refine w_call rfl rfl rfl (by kernel_rfl) (Fnc.mono (new_t) ?_); rintro _ rfl; dsimp only)))
    refine y_loopTD (α := Nat × LT × List Nat) (fun x => [(0, .slu r 0 a.size), (2, .ptr nx 0), (3, .ptr (nk + 1 + 1 + 1) 0), (4, .sc (.int .i64 (x.1 : Int)))]) (fun x => x.2.2.map .taken) (fun x H1 nx1 => x.1 ≤ a.size ∧ x.2.1.Fine x.1 ∧ x.2.1.Busy ∧ (∃ Fo, TabAt (nk + 1 + 1) x.2.1 Fo H1 ∧ ∀ n, Fo n → nx < n ∧ n ≠ nk + 1 + 1 + 1 ∧ n ∉ x.2.2) ∧ nk + 1 + 1 + 1 + 1 ≤ nx1 ∧ H1.at' nx = some (newCells 4 [.sc (.bool false)]) ∧ H1.at' (nk + 1 + 1 + 1) = some (newCells 26 [.ptr (nk + 1 + 1) 0]) ∧ (∀ r ∈ x.2.2, nk + 1 + 1 + 1 < r ∧ r < nx1 ∧ H1.at' r = some (.dfd (some []))) ∧ x.2.2.Nodup ∧ ∀ n, n < nx → H1.at' n = H.at' n) (fun x => a.size - x.1) (0, LT.empty, []) ⟨Nat.zero_le _, LT.Fine.empty, LT.Busy.empty, ⟨_, new_at.frame fun n hn => by (focus ((repeat (refine (Tr.at_set_other _ _ (by omega)).trans ?_)); exact rfl)), fun n hn => ⟨by omega, by omega, fun h => (by cases h)⟩⟩, Nat.le_refl _, by (focus ((repeat (refine (Tr.at_set_other _ _ (by omega)).trans ?_)); first | exact Tr.at_set_same _ _ _ | assumption)), by (focus (skip; first | exact Tr.at_set_same _ _ _ | assumption)), fun r hr => (by cases hr), List.nodup_nil, fun n hn => by (focus ((repeat (refine (Tr.at_set_other _ _ (by omega)).trans ?_)); exact hkeep n hn))⟩ rfl (SlIn.sub (by repeat (first | exact trivial | refine ⟨rfl, ?_⟩))) ?_
    rintro ⟨i, T, rs⟩ H1 nx1 ⟨hi, hT, hB, ⟨Fo, hF, hFn⟩, hle, hcell, hbx, hrs, hnd, hold⟩ again
    simp only at hi hT hB hF hFn hrs hnd again ⊢
    have hr1 := (hold _ hrl).trans hr
    (repeat (first | refine y_seq ?_ | refine w_region ?_ | refine w_move rfl rfl rfl ?_ | refine w_lenSl rfl rfl rfl (F.un _ rfl) ?_))
    refine w_lssS rfl rfl rfl rfl ?_ ?_
    all_goals intro h1
    · have hi' : i < a.size := by omega
      have hmem : a[i]! ∈ a.toList := by rw [getElem!_pos a i hi']; exact Array.getElem_mem_toList hi'
      have hkx := hks _ hmem
      obtain ⟨hok, hFi, hBi, _⟩ := hT.act2 (by omega) hB (a[i]!)
      have hcame := hT.actCame (by omega) hB (a[i]!)
      (repeat (first | refine y_seq ?_ | refine y_regEnd ?_ | refine y_block ?_ | refine y_skip ?_ | refine y_condT rfl ?_))
      refine w_drawN 5 (by kernel_rfl) (by kernel_rfl) (by kernel_rfl) rfl ?_
      (repeat (first | (refine dw_move rfl rfl rfl ?_) | refine dw_loadB1 rfl rfl rfl (F.ag _ rfl) (by (focus (skip; first | exact Tr.at_set_same _ _ _ | assumption))) (by exact rfl) ?_ | refine dw_idxN (q := i) rfl rfl rfl rfl (F.un _ rfl) (F.sz _ rfl) (by (focus (skip; first | exact Tr.at_set_same _ _ _ | assumption))) (by omega) (by first | omega | (simp; done)) (Nat.le_refl _) ?_ | (refine dw_ldR rfl rfl rfl (F.ag _ rfl) (recA) (by (focus (skip; first | exact Tr.at_set_same _ _ _ | assumption))) (by omega) (by omega) ?_)))
      refine dk_nil ?_
      refine tk_call rfl rfl rfl (by kernel_rfl) (do_t hF (a[i]!) hok (by omega)) (.tup [.sc (.int .i64 0), .slu 0 0 0], H1, nx1) ?_ ?_
      · rintro ⟨_, H2, n2⟩ ⟨r2, rfl, q1, q2, q3, F2, q4, q5, q6⟩
        dsimp only at q1 q2 q3 q4 q5 q6 ⊢
        (repeat (first | refine dw_move rfl rfl rfl ?_ | refine dw_assign rfl rfl rfl ?_ | refine dw_extract rfl rfl rfl rfl ?_))
        refine dk_nil ⟨by kernel_rfl, rfl, ?_, ?_⟩
        · (repeat (first | exact trivial | refine ⟨.inl rfl, ?_⟩ | refine ⟨.inr (by (repeat (refine ⟨(by first | exact rd_not rfl | exact rd_cmp rfl rfl (.inr (.inr (.inr (.inr (.inl ⟨rfl, rfl⟩))))) | exact rd_idxN (F.un _ rfl) (F.sz _ rfl) rfl rfl rfl (by omega) (by omega) (by omega) | exact rd_arith rfl rfl (.inl ⟨rfl, (Go.IntWalk.i64_in _ ⟨by omega, by omega⟩).symm⟩) | exact rd_arith rfl rfl (.inr (.inl ⟨rfl, (Go.IntWalk.i64_in _ ⟨by omega, by omega⟩).symm⟩)) | exact rd_fieldAddr (F.fo _ _ rfl rfl) rfl | exact rd_move rfl | exact rd_assign rfl | exact rd_load1 (F.ag _ rfl) rfl rfl (cell_box rfl) | exact rd_loadN (F.ag _ rfl) rfl rfl (cellsFrom_box _ 0 rfl rfl) | exact rd_extract rfl rfl | exact rd_lenSl (F.un _ rfl) rfl | exact rd_lenStr (F.un _ rfl) rfl | exact rd_nilCheck rfl | exact rd_pickT rfl rfl | exact rd_pickF rfl rfl | exact rd_load1 (F.ag _ rfl) rfl (by (focus (skip; first | exact Tr.at_set_same _ _ _ | assumption))) (cell_box rfl) | exact rd_loadN (F.ag _ rfl) rfl (by (focus (skip; first | exact Tr.at_set_same _ _ _ | assumption))) (cellsFrom_box _ 0 rfl rfl) | exact rd_build rfl (F.ze _ rfl) (F.pl _ rfl) rfl), ?_⟩)); exact trivial), ?_⟩ | refine ⟨.inl (by kernel_rfl), ?_⟩))
        dsimp only
        -- what stands behind the act
        have hcl : (T.act (a[i]!)).2.1.length < 2000000 := hT.came_len (by omega) (a[i]!)
        generalize (T.act (a[i]!)).2.1 = came at q1 hcame hcl ⊢
        generalize (T.act (a[i]!)).1 = T2 at q4 hFi hBi hcame ⊢
        generalize (T.act (a[i]!)).2.2 = ee
        have hF2n : ∀ n, F2 n → nx < n ∧ n ≠ nk + 1 + 1 + 1 ∧ n ∉ rs := fun n hn => by
          rcases q6.2.1 n hn with h | h
          · exact hFn n h
          · exact ⟨by omega, by omega, fun hm => by have := (hrs n hm).2.1; omega⟩
        have hle2 := q6.1
        have hcell2 := (q6.2.2 nx (by omega) fun h => by have := (hFn _ h).1; omega).trans hcell
        have hbx2 := (q6.2.2 _ (by omega) fun h => (hFn _ h).2.1 rfl).trans hbx
        have hrs2 : ∀ r ∈ rs, nk + 1 + 1 + 1 < r ∧ r < nx1 ∧ H2.at' r = some (.dfd (some [])) := fun r hr => ⟨(hrs r hr).1, (hrs r hr).2.1, (q6.2.2 _ (hrs r hr).2.1 fun h => (hFn _ h).2.2 hr).trans (hrs r hr).2.2⟩
        have hold2 : ∀ n, n < nx → H2.at' n = H.at' n := fun n hn => (q6.2.2 n (by omega) fun h => by have := (hFn _ h).1; omega).trans (hold n hn)
        clear hF hFn hcell hbx hrs hold q6 hT hB hok hr1 hks hkx
        have hs1 := hFi.szP
        have hs2 := hFi.szL
        have hk9 := hFi.wf.keys_le
        refine y_under fun hund2 => ?_
        have hFl := q4.lt hund2
        clear hund2
        (repeat (first | refine y_seq ?_ | refine w_region ?_ | refine y_regEnd ?_ | refine y_block ?_ | refine w_assign rfl rfl rfl ?_))
        refine y_loopT (α := Nat) (fun k => [(0, .slu r 0 a.size), (2, .ptr nx 0), (3, .ptr (nk + 1 + 1 + 1) 0), (4, .sc (.int .i64 (i : Int))), (6, .slu r2 0 came.length), (7, .sc (.int .i64 (k : Int)))]) (fun k H3 n3 => k ≤ came.length ∧ n2 ≤ n3 ∧ ∀ n, n < n2 → H3.at' n = H2.at' n) (fun k => came.length - k) 0 ⟨Nat.zero_le _, Nat.le_refl _, fun _ _ => rfl⟩ (SlIn.sub (by repeat (first | exact trivial | refine ⟨rfl, ?_⟩))) ?_
        rintro k H3 n3 ⟨k1, k2, k3⟩ ih
        have hF3 : TabAt (nk + 1 + 1) T2 F2 H3 := q4.frame fun n hn => k3 n (hFl n hn)
        have hbx3 := (k3 _ (by omega)).trans hbx2
        have hrow3 := (k3 _ q3).trans q1
        (repeat (first | refine y_seq ?_ | refine w_region ?_ | refine w_move rfl rfl rfl ?_ | refine w_lenSl rfl rfl rfl (F.un _ rfl) ?_))
        refine w_lssS rfl rfl rfl rfl ?_ ?_
        all_goals intro h2
        · have hk : k < came.length := by omega
          obtain ⟨w1, w2⟩ := hcame _ (List.getElem_mem hk)
          have hwe : T2.waits came[k] = ⟨#[]⟩ := by
            have : ∀ w : ByteArray, w.size = 0 → w = ⟨#[]⟩ := fun w h => (MapKept.bytes_beq w ⟨#[]⟩).1 (empty_of h)
            exact this _ w1
          have hkp : 0 < (T2.keys came[k]).length := List.length_pos_iff.2 w2
          have hkl : (T2.keys came[k]).length < 2000000 := by have := hk9 came[k]; omega
          (repeat (first | refine y_seq ?_ | refine y_regEnd ?_ | refine y_block ?_ | refine y_skip ?_ | refine y_condT rfl ?_))
          refine w_draw (by kernel_rfl) (by kernel_rfl) ?_
          (repeat (first | (first | refine dw_move rfl rfl rfl ?_ | refine dw_assign rfl rfl rfl ?_ | refine dw_extract rfl rfl rfl rfl ?_) | refine dw_loadB1 rfl rfl rfl (F.ag _ rfl) (by (focus (skip; first | exact Tr.at_set_same _ _ _ | assumption))) (by exact rfl) ?_ | refine dw_idxN (q := k) rfl rfl rfl rfl (F.un _ rfl) (F.sz _ rfl) (by (focus (skip; first | exact Tr.at_set_same _ _ _ | assumption))) (by omega) (by first | omega | (simp; done)) (Nat.le_refl _) ?_ | refine dw_loadD1 rfl rfl rfl (F.ag _ rfl) (by (focus (skip; first | exact Tr.at_set_same _ _ _ | assumption))) (at_u hk) (by first | omega | (simp; done)) ?_ | (refine dk_call rfl rfl rfl (by kernel_rfl) (waits_t (hF3.frame fun n hn => by (focus (skip; exact rfl))) came[k]) ?_)))
          (refine dk_nil ?_); (refine ⟨by kernel_rfl, ?_, ?_⟩); (focus (repeat (first | exact trivial | refine ⟨.inl rfl, ?_⟩ | refine ⟨.inr (by (repeat (refine ⟨(by first | exact rd_not rfl | exact rd_cmp rfl rfl (.inr (.inr (.inr (.inr (.inl ⟨rfl, rfl⟩))))) | exact rd_idxN (F.un _ rfl) (F.sz _ rfl) rfl rfl rfl (by omega) (by omega) (by omega) | exact rd_arith rfl rfl (.inl ⟨rfl, (Go.IntWalk.i64_in _ ⟨by omega, by omega⟩).symm⟩) | exact rd_arith rfl rfl (.inr (.inl ⟨rfl, (Go.IntWalk.i64_in _ ⟨by omega, by omega⟩).symm⟩)) | exact rd_fieldAddr (F.fo _ _ rfl rfl) rfl | exact rd_move rfl | exact rd_assign rfl | exact rd_load1 (F.ag _ rfl) rfl rfl (cell_box rfl) | exact rd_loadN (F.ag _ rfl) rfl rfl (cellsFrom_box _ 0 rfl rfl) | exact rd_extract rfl rfl | exact rd_lenSl (F.un _ rfl) rfl | exact rd_lenStr (F.un _ rfl) rfl | exact rd_nilCheck rfl | exact rd_pickT rfl rfl | exact rd_pickF rfl rfl | exact rd_load1 (F.ag _ rfl) rfl (by (focus (skip; first | exact Tr.at_set_same _ _ _ | assumption))) (cell_box rfl) | exact rd_loadN (F.ag _ rfl) rfl (by (focus (skip; first | exact Tr.at_set_same _ _ _ | assumption))) (cellsFrom_box _ 0 rfl rfl) | exact rd_build rfl (F.ze _ rfl) (F.pl _ rfl) rfl), ?_⟩)); exact trivial), ?_⟩ | refine ⟨.inl (by kernel_rfl), ?_⟩)))
          dsimp only [wrL]
          rw [hwe, show ((⟨#[]⟩ : ByteArray) != ⟨#[]⟩) = false from rfl]
          (repeat (refine y_seq ?_))
          refine w_draw (by kernel_rfl) (by kernel_rfl) ?_
          (repeat (first | (first | refine dw_move rfl rfl rfl ?_ | refine dw_pickF rfl rfl rfl rfl ?_ | refine dw_lenSl rfl rfl rfl (F.un _ rfl) ?_) | refine dw_loadB1 rfl rfl rfl (F.ag _ rfl) (by (focus (skip; first | exact Tr.at_set_same _ _ _ | assumption))) (by exact rfl) ?_ | refine dw_idxN (q := k) rfl rfl rfl rfl (F.un _ rfl) (F.sz _ rfl) (by (focus (skip; first | exact Tr.at_set_same _ _ _ | assumption))) (by omega) (by first | omega | (simp; done)) (Nat.le_refl _) ?_ | refine dw_loadD1 rfl rfl rfl (F.ag _ rfl) (by (focus (skip; first | exact Tr.at_set_same _ _ _ | assumption))) (at_u hk) (by first | omega | (simp; done)) ?_ | (refine dk_call rfl rfl rfl (by kernel_rfl) (Fnc.next (keys_t (hF3.frame fun n hn => by (focus (skip; exact rfl))) came[k] hkl)) ?_) | (refine dw_eqlS rfl rfl rfl rfl (fun hq => absurd hq (by omega)) (fun _ => ?_))))
          (refine dk_nil ?_); (refine ⟨by kernel_rfl, ?_, ?_⟩); (focus (repeat (first | exact trivial | refine ⟨.inl rfl, ?_⟩ | refine ⟨.inr (by (repeat (refine ⟨(by first | exact rd_not rfl | exact rd_cmp rfl rfl (.inr (.inr (.inr (.inr (.inl ⟨rfl, rfl⟩))))) | exact rd_idxN (F.un _ rfl) (F.sz _ rfl) rfl rfl rfl (by omega) (by omega) (by omega) | exact rd_arith rfl rfl (.inl ⟨rfl, (Go.IntWalk.i64_in _ ⟨by omega, by omega⟩).symm⟩) | exact rd_arith rfl rfl (.inr (.inl ⟨rfl, (Go.IntWalk.i64_in _ ⟨by omega, by omega⟩).symm⟩)) | exact rd_fieldAddr (F.fo _ _ rfl rfl) rfl | exact rd_move rfl | exact rd_assign rfl | exact rd_load1 (F.ag _ rfl) rfl rfl (cell_box rfl) | exact rd_loadN (F.ag _ rfl) rfl rfl (cellsFrom_box _ 0 rfl rfl) | exact rd_extract rfl rfl | exact rd_lenSl (F.un _ rfl) rfl | exact rd_lenStr (F.un _ rfl) rfl | exact rd_nilCheck rfl | exact rd_pickT rfl rfl | exact rd_pickF rfl rfl | exact rd_load1 (F.ag _ rfl) rfl (by (focus ((repeat (refine (Tr.at_set_other _ _ (by omega)).trans ?_)); first | exact Tr.at_set_same _ _ _ | assumption))) (cell_box rfl) | exact rd_loadN (F.ag _ rfl) rfl (by (focus (skip; first | exact Tr.at_set_same _ _ _ | assumption))) (cellsFrom_box _ 0 rfl rfl) | exact rd_build rfl (F.ze _ rfl) (F.pl _ rfl) rfl), ?_⟩)); exact trivial), ?_⟩ | refine ⟨.inl (by kernel_rfl), ?_⟩)))
          dsimp only [wrL]
          (repeat (first | refine w_region ?_ | refine y_regEnd ?_ | refine y_inBlock ?_ | refine y_skip ?_ | refine y_condF rfl ?_ | refine w_move rfl rfl rfl ?_ | refine w_assign rfl rfl rfl ?_ | refine w_add rfl rfl rfl rfl (by omega) (by omega) ?_))
          refine ih _ _ _ (k + 1) ⟨hk, by omega, fun n hn => (Tr.at_set_other _ _ (by omega)).trans (k3 n hn)⟩ (by omega) (SlIn.sub (by repeat (first | exact trivial | refine ⟨rfl, ?_⟩)))
        · clear ih
          refine y_under fun hund3 => ?_
          have hFl3 := hF3.lt hund3
          clear hund3 hcame hrow3 q1 hcl
          have hcell3 := (k3 nx (by omega)).trans hcell2
          have hrs3 : ∀ r ∈ rs, nk + 1 + 1 + 1 < r ∧ r < nx1 ∧ H3.at' r = some (.dfd (some [])) := fun r hr => ⟨(hrs2 r hr).1, (hrs2 r hr).2.1, (k3 r (by have := (hrs2 r hr).2.1; omega)).trans (hrs2 r hr).2.2⟩
          have hold3 : ∀ n, n < nx → H3.at' n = H.at' n := fun n hn => (k3 n (by omega)).trans (hold2 n hn)
          clear hcell2 hrs2 hold2 q4 hbx2 k3
          (repeat (first | refine y_seq ?_ | refine w_region ?_ | refine y_regEnd ?_ | refine y_exit rfl ?_ | refine y_condF rfl ?_ | refine w_storeC rfl rfl rfl rfl (F.sz _ rfl) (by first | exact rfl | (focus (skip; first | exact Tr.at_set_same _ _ _ | assumption))) rfl (by exact Nat.le_of_ble_eq_true rfl) rfl ?_ | refine w_alloc rfl rfl (F.zl _ rfl) ?_ | refine w_loadB1 rfl rfl rfl (F.ag _ rfl) (by (focus ((repeat (refine (Tr.at_set_other _ _ (by omega)).trans ?_)); first | exact Tr.at_set_same _ _ _ | assumption))) (by exact rfl) ?_))
          refine w_call rfl rfl rfl (by kernel_rfl) (Fnc.mono (owners_t (hF3.frame fun n hn => by have := hFl3 n hn; (focus ((repeat (refine (Tr.at_set_other _ _ (by omega)).trans ?_)); exact rfl))) (by omega)) ?_)
          rintro ⟨_, H4, n4⟩ ⟨ro', rfl, o1, o2, o3, o4, o5⟩
          dsimp only at o1 o2 o3 o4 o5 ⊢
          have hnb : H4.at' n3 = some (newCells 3 [.sc (.int .i64 0)]) := (o5 n3 (by omega)).trans (by (focus (skip; first | exact Tr.at_set_same _ _ _ | assumption)))
          have h4old : ∀ n, n < n3 → H4.at' n = H3.at' n := fun n hn => (o5 n (by omega)).trans (by (focus ((repeat (refine (Tr.at_set_other _ _ (by omega)).trans ?_)); exact rfl)))
          have hF4 : TabAt (nk + 1 + 1) T2 F2 H4 := hF3.frame fun n hn => h4old n (hFl3 n hn)
          have hbx4 := (h4old _ (by omega)).trans hbx3
          have hcell4 := (h4old nx (by omega)).trans hcell3
          have hrs4 : ∀ r ∈ rs, nk + 1 + 1 + 1 < r ∧ r < nx1 ∧ H4.at' r = some (.dfd (some [])) := fun r hr => ⟨(hrs3 r hr).1, (hrs3 r hr).2.1, (h4old r (by have := (hrs3 r hr).2.1; omega)).trans (hrs3 r hr).2.2⟩
          have hold4 : ∀ n, n < nx → H4.at' n = H.at' n := fun n hn => (h4old n (by omega)).trans (hold3 n hn)
          clear hF3 hbx3 hcell3 hrs3 hold3 h4old o5 hFl
          have hsum := hFi.sumOwners
          have hol : T2.owners.length = T2.parties.length := by
            unfold LT.owners
            rw [sortU_length, List.length_map]
          (repeat (first | (first | refine y_seq ?_ | refine w_region ?_ | refine y_regEnd ?_ | refine y_block ?_ | refine y_skip ?_ | refine y_condF rfl ?_ | refine w_move rfl rfl rfl ?_ | refine w_assign rfl rfl rfl ?_) | (refine w_eqNil rfl rfl rfl rfl Try.underlying47 rfl ?_)))
          refine y_rangeFunc [(2, .ptr nx 0), (3, .ptr (nk + 1 + 1 + 1) 0), (10, .ptr n3 0)] rfl rfl (by kernel_rfl) (SlIn.sub (by repeat (first | exact trivial | refine ⟨rfl, ?_⟩))) ?_
          intro cA cB hcA hcB
          refine Fnc.start Try.func40 rfl rfl ?_
          (repeat (first | refine y_seq ?_ | refine w_region ?_ | refine y_regEnd ?_ | refine y_block ?_ | refine w_move rfl rfl rfl ?_ | refine w_loadB1 rfl rfl rfl (F.ag _ rfl) (by (focus ((repeat (refine (Tr.at_set_other _ _ (by omega)).trans ?_)); first | exact Tr.at_set_same _ _ _ | assumption))) (by exact rfl) ?_ | refine w_lenSl rfl rfl rfl (F.un _ rfl) ?_))
          refine y_loopT (α := Nat) (fun q => [(0, .yld (n4 + 1)), (5, .slu ro' 0 T2.owners.length), (6, .sc (.int .i64 (T2.owners.length : Int))), (7, .sc (.int .i64 (q : Int)))]) (fun q H5 n5 => q ≤ T2.owners.length ∧ n4 + 1 + 1 ≤ n5 ∧ H5.at' n3 = some (newCells 3 [.sc (.int .i64 (T2.sumKeys (T2.owners.take q) : Int))]) ∧ H5.at' n4 = some (.dfd (some [])) ∧ H5.at' (n4 + 1) = some (.loop .ready none 5 98 (slT [(2, .ptr nx 0), (3, .ptr (nk + 1 + 1 + 1) 0), (10, .ptr n3 0)]) #[68] cA cB n4) ∧ ∀ n, n < n4 → n ≠ n3 → H5.at' n = H4.at' n) (fun q => T2.owners.length - q) 0 ⟨Nat.zero_le _, Nat.le_refl _, by (focus ((repeat (refine (Tr.at_set_other _ _ (by omega)).trans ?_)); exact hnb)), by (focus ((repeat (refine (Tr.at_set_other _ _ (by omega)).trans ?_)); first | exact Tr.at_set_same _ _ _ | assumption)), by (focus (skip; first | exact Tr.at_set_same _ _ _ | assumption)), fun n hn hn2 => by (focus ((repeat (refine (Tr.at_set_other _ _ (by omega)).trans ?_)); exact rfl))⟩ (SlIn.sub (by repeat (first | exact trivial | refine ⟨rfl, ?_⟩))) ?_
          rintro q H5 n5 ⟨e1, e2, e3, e4, e5, e6⟩ ih
          have hF5 : TabAt (nk + 1 + 1) T2 F2 H5 := hF4.frame fun n hn => e6 n (by have := hFl3 n hn; omega) (by have := hFl3 n hn; omega)
          have hbx5 := (e6 _ (by omega) (by omega)).trans hbx4
          have hle5 := T2.sumKeys_le T2.owners q
          (repeat (first | refine y_seq ?_ | refine w_region ?_))
          refine w_lssS rfl rfl rfl rfl ?_ ?_
          all_goals intro h4
          · have hq : q < T2.owners.length := by omega
            have hrow := (e6 ro' (by omega) (by omega)).trans o2
            have hnext := T2.sumKeys_snoc (T2.owners.take q) T2.owners[q]
            rw [← List.take_succ_eq_append_getElem hq] at hnext
            have hle6 := T2.sumKeys_le T2.owners (q + 1)
            have hown : ∀ k ∈ T2.keys T2.owners[q], T2.has k = T2.owners[q] := fun k hk => hFi.has_own hk
            have hkl : (T2.keys T2.owners[q]).length < 2000000 := by have := hk9 T2.owners[q]; omega
            (repeat (first | (first | refine y_seq ?_ | refine w_region ?_ | refine y_regEnd ?_ | refine y_block ?_ | refine y_skip ?_ | refine y_condT rfl ?_ | refine w_move rfl rfl rfl ?_ | refine w_assign rfl rfl rfl ?_) | refine w_idxN (q := q) rfl rfl rfl rfl (F.un _ rfl) (F.sz _ rfl) (by (focus (skip; first | exact Tr.at_set_same _ _ _ | assumption))) (by omega) (by first | omega | (simp; done)) (Nat.le_refl _) ?_ | refine w_loadD1 rfl rfl rfl (F.ag _ rfl) (by (focus (skip; first | exact Tr.at_set_same _ _ _ | assumption))) (at_u hq) (by first | omega | (simp; done)) ?_))
            refine w_round (n := n4 + 1) rfl rfl rfl rfl (by (focus (skip; first | exact Tr.at_set_same _ _ _ | assumption))) (by exact rfl) ?_
            refine y_cast hcA ?_
            (repeat (first | refine w_region ?_ | refine y_regEnd ?_ | refine w_assign rfl rfl rfl ?_))
            refine y_begin (by (focus (skip; first | exact Tr.at_set_same _ _ _ | assumption))) ?_
            refine y_cast hcB ?_
            (repeat (first | refine y_seq ?_ | refine w_region ?_ | refine y_block ?_ | refine w_move rfl rfl rfl ?_ | refine w_loadB1 rfl rfl rfl (F.ag _ rfl) (by (focus ((repeat (refine (Tr.at_set_other _ _ (by omega)).trans ?_)); first | exact Tr.at_set_same _ _ _ | assumption))) (by exact rfl) ?_))
            (refine w_call rfl rfl rfl (by kernel_rfl) (Fnc.mono (Fnc.next (keys_t (hF5.frame fun n hn => by have := hFl3 n hn; (focus ((repeat (refine (Tr.at_set_other _ _ (by omega)).trans ?_)); exact rfl))) T2.owners[q] hkl)) ?_); rintro _ rfl; dsimp only)
            generalize hks2 : T2.keys T2.owners[q] = ks at hkl hown hnext ⊢
            (repeat (first | refine y_seq ?_ | refine w_region ?_ | refine y_regEnd ?_ | refine y_block ?_ | refine w_assign rfl rfl rfl ?_))
            refine y_gen (R := fun H6 n6 => n6 = n5 + 1 ∧ H6.at' n5 = some (sR false ks) ∧ H6.at' (n4 + 1) = some (.loop .busy none 5 98 (slT [(2, .ptr nx 0), (3, .ptr (nk + 1 + 1 + 1) 0), (10, .ptr n3 0)]) #[68] cA cB n4) ∧ ∀ n, n < n5 → n ≠ n4 + 1 → H6.at' n = H5.at' n) ⟨rfl, by (focus (skip; first | exact Tr.at_set_same _ _ _ | assumption)), by (focus ((repeat (refine (Tr.at_set_other _ _ (by omega)).trans ?_)); first | exact Tr.at_set_same _ _ _ | assumption)), fun n hn hn2 => by (focus ((repeat (refine (Tr.at_set_other _ _ (by omega)).trans ?_)); exact rfl))⟩ ?_
            rintro H6 n6 ⟨rfl, f1, f2, f3⟩
            have hF6 : TabAt (nk + 1 + 1) T2 F2 H6 := hF5.frame fun n hn => f3 n (by have := hFl3 n hn; omega) (by have := hFl3 n hn; omega)
            have hbx6 := (f3 _ (by omega) (by omega)).trans hbx5
            have hn6 := (f3 n3 (by omega) (by omega)).trans e3
            refine y_loopT (α := Nat) (fun m => [(2, .ptr nx 0), (3, .ptr (nk + 1 + 1 + 1) 0), (10, .ptr n3 0), (12, .sc (.int .u64 (T2.owners[q] : Int))), (13, .slu n5 0 ks.length), (14, .sc (.int .i64 (m : Int)))]) (fun m H7 n7 => H7 = H6 ∧ n7 = n5 + 1 ∧ m ≤ ks.length) (fun m => ks.length - m) 0 ⟨rfl, rfl, Nat.zero_le _⟩ (SlIn.sub (by repeat (first | exact trivial | refine ⟨rfl, ?_⟩))) ?_
            rintro m H7 n7 ⟨rfl, rfl, hm⟩ ihm
            (repeat (first | refine y_seq ?_ | refine w_region ?_ | refine w_move rfl rfl rfl ?_ | refine w_lenSl rfl rfl rfl (F.un _ rfl) ?_))
            refine w_lssS rfl rfl rfl rfl ?_ ?_
            all_goals intro h5
            · have hmk : m < ks.length := by omega
              have hho := hown _ (List.getElem_mem hmk)
              (repeat (first | refine y_seq ?_ | refine y_regEnd ?_ | refine y_block ?_ | refine y_skip ?_ | refine y_condT rfl ?_))
              refine w_draw (by kernel_rfl) (by kernel_rfl) ?_
              (repeat (first | (refine dw_move rfl rfl rfl ?_) | refine dw_loadB1 rfl rfl rfl (F.ag _ rfl) (by (focus (skip; first | exact Tr.at_set_same _ _ _ | assumption))) (by exact rfl) ?_ | refine dw_idxN (q := m) rfl rfl rfl rfl (F.un _ rfl) (F.sz _ rfl) (by (focus (skip; first | exact Tr.at_set_same _ _ _ | assumption))) (by omega) (by first | omega | (simp; done)) (Nat.le_refl _) ?_ | refine dw_loadD1 rfl rfl rfl (F.ag _ rfl) (by (focus (skip; first | exact Tr.at_set_same _ _ _ | assumption))) (at_s hmk) (by first | omega | (simp; done)) ?_ | (refine dk_call rfl rfl rfl (by kernel_rfl) (has_t hF6 ks[m]) ?_) | (refine dw_neqS rfl rfl rfl rfl (fun hq => absurd (by omega) hq) (fun _ => ?_))))
              (refine dk_nil ?_); (refine ⟨by kernel_rfl, ?_, ?_⟩); (focus (repeat (first | exact trivial | refine ⟨.inl rfl, ?_⟩ | refine ⟨.inr (by (repeat (refine ⟨(by first | exact rd_not rfl | exact rd_cmp rfl rfl (.inr (.inr (.inr (.inr (.inl ⟨rfl, rfl⟩))))) | exact rd_idxN (F.un _ rfl) (F.sz _ rfl) rfl rfl rfl (by omega) (by omega) (by omega) | exact rd_arith rfl rfl (.inl ⟨rfl, (Go.IntWalk.i64_in _ ⟨by omega, by omega⟩).symm⟩) | exact rd_arith rfl rfl (.inr (.inl ⟨rfl, (Go.IntWalk.i64_in _ ⟨by omega, by omega⟩).symm⟩)) | exact rd_fieldAddr (F.fo _ _ rfl rfl) rfl | exact rd_move rfl | exact rd_assign rfl | exact rd_load1 (F.ag _ rfl) rfl rfl (cell_box rfl) | exact rd_loadN (F.ag _ rfl) rfl rfl (cellsFrom_box _ 0 rfl rfl) | exact rd_extract rfl rfl | exact rd_lenSl (F.un _ rfl) rfl | exact rd_lenStr (F.un _ rfl) rfl | exact rd_nilCheck rfl | exact rd_pickT rfl rfl | exact rd_pickF rfl rfl | exact rd_load1 (F.ag _ rfl) rfl (by (focus (skip; first | exact Tr.at_set_same _ _ _ | assumption))) (cell_box rfl) | exact rd_loadN (F.ag _ rfl) rfl (by (focus (skip; first | exact Tr.at_set_same _ _ _ | assumption))) (cellsFrom_box _ 0 rfl rfl) | exact rd_build rfl (F.ze _ rfl) (F.pl _ rfl) rfl), ?_⟩)); exact trivial), ?_⟩ | refine ⟨.inl (by kernel_rfl), ?_⟩)))
              dsimp only [wrL]
              (repeat (first | refine w_region ?_ | refine y_regEnd ?_ | refine y_inBlock ?_ | refine y_skip ?_ | refine y_condF rfl ?_ | refine w_move rfl rfl rfl ?_ | refine w_assign rfl rfl rfl ?_ | refine w_add rfl rfl rfl rfl (by omega) (by omega) ?_))
              refine ihm _ _ _ (m + 1) ⟨rfl, rfl, hmk⟩ (by omega) (SlIn.sub (by repeat (first | exact trivial | refine ⟨rfl, ?_⟩)))
            · clear ihm
              (repeat (first | (first | refine y_seq ?_ | refine w_region ?_ | refine y_regEnd ?_ | refine y_inBlock ?_ | refine y_skip ?_ | refine y_exit rfl ?_ | refine y_condF rfl ?_ | refine w_move rfl rfl rfl ?_ | refine w_storeC rfl rfl rfl rfl (F.sz _ rfl) (by first | exact rfl | (focus (skip; first | exact Tr.at_set_same _ _ _ | assumption))) rfl (by exact Nat.le_of_ble_eq_true rfl) rfl ?_ | refine w_loadB1 rfl rfl rfl (F.ag _ rfl) (by (focus ((repeat (refine (Tr.at_set_other _ _ (by omega)).trans ?_)); first | exact Tr.at_set_same _ _ _ | assumption))) (by exact rfl) ?_ | refine w_lenSl rfl rfl rfl (F.un _ rfl) ?_ | refine w_add rfl rfl rfl rfl (by omega) (by omega) ?_ | refine w_notB rfl rfl rfl ?_) | (refine w_call rfl rfl rfl (by kernel_rfl) (Fnc.mono (free_s (hF6.frame fun n hn => by have := hFl3 n hn; (focus ((repeat (refine (Tr.at_set_other _ _ (by omega)).trans ?_)); exact rfl))) (hFi.mono (by omega)) T2.owners[q]) ?_); rintro _ rfl; dsimp only)))
              refine y_roundEnd (by (focus ((repeat (refine (Tr.at_set_other _ _ (by omega)).trans ?_)); first | exact Tr.at_set_same _ _ _ | assumption))) ?_
              dsimp only
              (repeat (first | refine w_region ?_ | refine y_regEnd ?_ | refine y_inBlock ?_ | refine y_skip ?_ | refine y_condF rfl ?_ | refine w_move rfl rfl rfl ?_ | refine w_add rfl rfl rfl rfl (by omega) (by omega) ?_ | refine w_notB rfl rfl rfl ?_))
              refine ih _ _ _ (q + 1) ⟨hq, by omega, by rw [hnext, Int.natCast_add]; (focus ((repeat (refine (Tr.at_set_other _ _ (by omega)).trans ?_)); first | exact Tr.at_set_same _ _ _ | assumption)), by (focus ((repeat (refine (Tr.at_set_other _ _ (by omega)).trans ?_)); exact (f3 n4 (by omega) (by omega)).trans e4)), by (focus (skip; first | exact Tr.at_set_same _ _ _ | assumption)), fun n hn hn2 => by (focus ((repeat (refine (Tr.at_set_other _ _ (by omega)).trans ?_)); exact (f3 n (by omega) (by omega)).trans (e6 n hn hn2)))⟩ (by omega) (SlIn.sub (by repeat (first | exact trivial | refine ⟨rfl, ?_⟩)))
          · have hq : q = T2.owners.length := by omega
            subst hq
            rw [List.take_length, hsum] at e3
            clear ih
            have hcell5 := (e6 nx (by omega) (by omega)).trans hcell4
            have hrs5 : ∀ r ∈ rs, nk + 1 + 1 + 1 < r ∧ r < nx1 ∧ H5.at' r = some (.dfd (some [])) := fun r hr => ⟨(hrs4 r hr).1, (hrs4 r hr).2.1, (e6 r (by have := (hrs4 r hr).2.1; omega) (by have := (hrs4 r hr).2.1; omega)).trans (hrs4 r hr).2.2⟩
            (repeat (first | refine y_seq ?_ | refine y_regEnd ?_ | refine y_exit rfl ?_ | refine y_condF rfl ?_))
            apply w_end Try.func40 (congrArg Array.toList Try.results40) ResIs.nil
            dsimp only
            refine y_endRange e5 (fun h => by cases h) ?_
            (repeat (first | refine y_seq ?_ | refine y_inBlock ?_))
            refine w_draw (by kernel_rfl) (by kernel_rfl) ?_
            (repeat (first | refine dw_loadB1 rfl rfl rfl (F.ag _ rfl) (by (focus ((repeat (refine (Tr.at_set_other _ _ (by omega)).trans ?_)); first | exact Tr.at_set_same _ _ _ | assumption))) (by exact rfl) ?_ | (refine dk_call rfl rfl rfl (by kernel_rfl) (len_t (hF5.frame fun n hn => by have := hFl3 n hn; (focus ((repeat (refine (Tr.at_set_other _ _ (by omega)).trans ?_)); exact rfl)))) ?_) | (refine dw_neqS rfl rfl rfl rfl (fun hq => absurd rfl hq) (fun _ => ?_))))
            (refine dk_nil ?_); (refine ⟨by kernel_rfl, ?_, ?_⟩); (focus (repeat (first | exact trivial | refine ⟨.inl rfl, ?_⟩ | refine ⟨.inr (by (repeat (refine ⟨(by first | exact rd_not rfl | exact rd_cmp rfl rfl (.inr (.inr (.inr (.inr (.inl ⟨rfl, rfl⟩))))) | exact rd_idxN (F.un _ rfl) (F.sz _ rfl) rfl rfl rfl (by omega) (by omega) (by omega) | exact rd_arith rfl rfl (.inl ⟨rfl, (Go.IntWalk.i64_in _ ⟨by omega, by omega⟩).symm⟩) | exact rd_arith rfl rfl (.inr (.inl ⟨rfl, (Go.IntWalk.i64_in _ ⟨by omega, by omega⟩).symm⟩)) | exact rd_fieldAddr (F.fo _ _ rfl rfl) rfl | exact rd_move rfl | exact rd_assign rfl | exact rd_load1 (F.ag _ rfl) rfl rfl (cell_box rfl) | exact rd_loadN (F.ag _ rfl) rfl rfl (cellsFrom_box _ 0 rfl rfl) | exact rd_extract rfl rfl | exact rd_lenSl (F.un _ rfl) rfl | exact rd_lenStr (F.un _ rfl) rfl | exact rd_nilCheck rfl | exact rd_pickT rfl rfl | exact rd_pickF rfl rfl | exact rd_load1 (F.ag _ rfl) rfl (by (focus ((repeat (refine (Tr.at_set_other _ _ (by omega)).trans ?_)); first | exact Tr.at_set_same _ _ _ | assumption))) (cell_box rfl) | exact rd_loadN (F.ag _ rfl) rfl (by (focus (skip; first | exact Tr.at_set_same _ _ _ | assumption))) (cellsFrom_box _ 0 rfl rfl) | exact rd_build rfl (F.ze _ rfl) (F.pl _ rfl) rfl), ?_⟩)); exact trivial), ?_⟩ | refine ⟨.inl (by kernel_rfl), ?_⟩)))
            dsimp only [wrL]
            (repeat (first | refine w_region ?_ | refine y_regEnd ?_ | refine y_inBlock ?_ | refine y_skip ?_ | refine y_condF rfl ?_ | refine w_move rfl rfl rfl ?_ | refine w_assign rfl rfl rfl ?_ | refine w_add rfl rfl rfl rfl (by omega) (by omega) ?_))
            refine again _ _ _ (i + 1, T2, n4 :: rs) _ ⟨hi', hFi, hBi, ⟨F2, hF5.frame fun n hn => by have := hFl3 n hn; (focus ((repeat (refine (Tr.at_set_other _ _ (by omega)).trans ?_)); exact rfl)), fun n hn => ⟨(hF2n n hn).1, (hF2n n hn).2.1, fun hm => ?_⟩⟩, by omega, by (focus ((repeat (refine (Tr.at_set_other _ _ (by omega)).trans ?_)); exact hcell5)), by (focus ((repeat (refine (Tr.at_set_other _ _ (by omega)).trans ?_)); exact hbx5)), fun r hr => ?_, List.nodup_cons.2 ⟨fun h => by have := (hrs5 _ h).2.1; omega, hnd⟩, fun n hn => by (focus ((repeat (refine (Tr.at_set_other _ _ (by omega)).trans ?_)); exact (e6 n (by omega) (by omega)).trans (hold4 n hn)))⟩ (by omega) rfl (SlIn.sub (by repeat (first | exact trivial | refine ⟨rfl, ?_⟩)))
            · rcases List.mem_cons.1 hm with h | h
              · have := hFl3 n hn; omega
              · exact (hF2n n hn).2.2 h
            · rcases List.mem_cons.1 hr with h | h
              · subst h
                exact ⟨by omega, by omega, by (focus ((repeat (refine (Tr.at_set_other _ _ (by omega)).trans ?_)); exact e4))⟩
              · have hr5 := hrs5 r h
                exact ⟨by omega, by omega, by (focus ((repeat (refine (Tr.at_set_other _ _ (by omega)).trans ?_)); exact hr5.2.2))⟩
      · (repeat (first | refine dw_move rfl rfl rfl ?_ | refine dw_assign rfl rfl rfl ?_ | refine dw_extract rfl rfl rfl rfl ?_))
        refine dk_nil ⟨by kernel_rfl, rfl, ?_⟩
        (repeat (first | exact trivial | refine ⟨.inl rfl, ?_⟩ | refine ⟨.inr (by (repeat (refine ⟨(by first | exact rd_not rfl | exact rd_cmp rfl rfl (.inr (.inr (.inr (.inr (.inl ⟨rfl, rfl⟩))))) | exact rd_idxN (F.un _ rfl) (F.sz _ rfl) rfl rfl rfl (by omega) (by omega) (by omega) | exact rd_arith rfl rfl (.inl ⟨rfl, (Go.IntWalk.i64_in _ ⟨by omega, by omega⟩).symm⟩) | exact rd_arith rfl rfl (.inr (.inl ⟨rfl, (Go.IntWalk.i64_in _ ⟨by omega, by omega⟩).symm⟩)) | exact rd_fieldAddr (F.fo _ _ rfl rfl) rfl | exact rd_move rfl | exact rd_assign rfl | exact rd_load1 (F.ag _ rfl) rfl rfl (cell_box rfl) | exact rd_loadN (F.ag _ rfl) rfl rfl (cellsFrom_box _ 0 rfl rfl) | exact rd_extract rfl rfl | exact rd_lenSl (F.un _ rfl) rfl | exact rd_lenStr (F.un _ rfl) rfl | exact rd_nilCheck rfl | exact rd_pickT rfl rfl | exact rd_pickF rfl rfl | exact rd_load1 (F.ag _ rfl) rfl (by (focus (skip; first | exact Tr.at_set_same _ _ _ | assumption))) (cell_box rfl) | exact rd_loadN (F.ag _ rfl) rfl (by (focus (skip; first | exact Tr.at_set_same _ _ _ | assumption))) (cellsFrom_box _ 0 rfl rfl) | exact rd_build rfl (F.ze _ rfl) (F.pl _ rfl) rfl), ?_⟩)); exact trivial), ?_⟩ | refine ⟨.inl (by kernel_rfl), ?_⟩))
    · (repeat (first | refine y_seq ?_ | refine w_region ?_ | refine y_regEnd ?_ | refine y_exit rfl ?_ | refine y_condF rfl ?_ | refine w_storeC rfl rfl rfl rfl (F.sz _ rfl) (by first | exact rfl | (focus (skip; first | exact Tr.at_set_same _ _ _ | assumption))) rfl (by exact Nat.le_of_ble_eq_true rfl) rfl ?_))
      refine y_retT Try.func5 (congrArg Array.toList Try.results5) (rs := rs) rfl (fun r hr => (Tr.at_set_other _ _ (by have := (hrs r hr).1; omega)).trans (hrs r hr).2.2) hnd ?_
      intro H7 hH7
      have k8 : H7.at' nx = some (newCells 4 [.sc (.bool true)]) := (hH7 _ fun h => by have := (hrs _ h).1; omega).trans (by (focus (skip; first | exact Tr.at_set_same _ _ _ | assumption)))
      exact ⟨_, (by first | exact ResIs.cell rfl (LoadIs.one (F.ag _ rfl) k8 (cell_box rfl)) | exact ResIs.cell rfl (LoadIs.one (F.ag _ rfl) k8 (cell_box rfl)) ResIs.nil), rfl⟩
end Go.Proofs.Ytckajlllkmkniaa
end
section
namespace Go.Sl
open Go Go.RowKit Go.WideShapes Go.ChangeShapes
theorem post_new {H : Type} {enc : TypeId × Value → H} {P : Program} {f : Func} {s : ChangeSpec} {apart fresh handsOn again : Bool} {W W' : World} {args : Array Value} {v : Value} {ds gs : List (DataW H)} {before pa pv : List MemPlace}
    (hW : DataW.Whole enc P f.params.toList s.vars apart W args.toList ds gs before) (hb : Below W.heap.size W W') (hps : before = pa ++ pv)
    (hres : ∀ (b : Nat) (sp : Nat → Bool) (hd : Bool), DataW.TrodAll enc P W' b sp hd f.resultTypes.toList (v.resultList f.resultTypes.size) (s.fn H (ds ++ gs)).results [])
    (hargs : ∀ sp : Nat → Bool, (∀ p ∈ before, sp p.block = true) → DataW.TrodAll enc P W' 0 sp true f.params.toList args.toList (s.fn H (ds ++ gs)).args pa)
    (hvars : ∀ sp : Nat → Bool, (∀ p ∈ before, sp p.block = true) → DataW.TrodVars enc P W' sp s.vars (s.fn H (ds ++ gs)).vars pv)
    (hok : ∀ (j : Nat) (t : TypeId) (r : Value), f.resultTypes[j]? = some t → (v.resultList f.resultTypes.size)[j]? = some r → Value.okWide P W' .any 0 t r) :
    s.post enc P f apart fresh handsOn again W args v W' := by
  have hsp : ∀ p ∈ before, (fun b => decide (b < W.heap.size)) p.block = true := fun p hp => by simpa using hW.lt p hp
  have hmem : ∀ p, p ∈ pa ++ pv ↔ p ∈ before := fun p => by rw [hps]
  refine ⟨ds, gs, before, [], pa, pv, hW, hres _ _ _, hargs _ hsp, hvars _ hsp, World.keptBut_mono (fun p hp => ⟨hp, ?_⟩) (hb.frame (· ∈ before)), fun _ => ?_⟩
  · have := (hmem p).2 hp
    rw [List.mem_append] at this
    exact .inr this
  obtain ⟨_, _, _, _, _, hz, hn⟩ := id hW
  refine ⟨hok, _, _, ([] ++ pa) ++ pv, ⟨[] ++ pa, pv, trodAll_append (hargs _ (fun _ _ => rfl)) (hres _ _ _), hvars _ (fun _ _ => rfl), rfl, fun b off hp => ?_, fun ha => ?_⟩, fun p hp _ => ?_⟩
  · have hin : MemPlace.cell b off ∈ before := (hmem _).1 (by simpa using hp)
    rw [hb.frozen (hW.lt _ hin)]
    exact hz b off hin
  · have := hn ha
    rw [hps] at this
    simpa using this
  · exact (hmem p).1 (by simpa using hp)
end Go.Sl
end
section
namespace Go.Sy
open Go Go.Sl Go.RowKit Go.WideShapes
theorem rowAt_off (p : Program) (fits : TypeId → Bool) (d : Nat) (e : TypeId) (count off n : Nat) (h : rowAt p fits d e count off n = true) : off ≤ count * p.cellsOf e := by
  cases d with
  | zero => simp [rowAt] at h
  | succ d =>
    unfold rowAt at h
    simp only at h
    split at h
    · cases h
    · rename_i hs
      have hdiv := Nat.div_add_mod off (p.cellsOf e)
      rw [Bool.or_eq_true] at h
      rcases h with h | h
      · simp only [Bool.and_eq_true, beq_iff_eq, decide_eq_true_eq] at h
        obtain ⟨⟨h1, h2⟩, _⟩ := h
        have : p.cellsOf e * (off / p.cellsOf e) ≤ p.cellsOf e * count := Nat.mul_le_mul_left _ (by omega)
        rw [Nat.mul_comm count]
        omega
      · rw [Bool.and_eq_true, decide_eq_true_eq] at h
        have hm := Nat.mod_lt off (Nat.pos_of_ne_zero hs)
        have : p.cellsOf e * (off / p.cellsOf e + 1) ≤ p.cellsOf e * count := Nat.mul_le_mul_left _ (by omega)
        rw [Nat.mul_add, Nat.mul_one] at this
        rw [Nat.mul_comm count]
        omega
theorem liesAt_off (p : Program) : ∀ (d : Nat) (e : TypeId) (count off : Nat) (u : TypeId) (n : Nat), liesAt p d e count off u n = true → off ≤ count * p.cellsOf e
  | 0, _, _, _, _, _, h => by simp [liesAt] at h
  | d + 1, e, count, off, u, n, h => by
    unfold liesAt at h
    rw [Bool.or_eq_true] at h
    rcases h with h | h
    · exact rowAt_off p _ _ e count off n h
    · split at h
      · exact liesAt_off p d e count off _ _ h
      · cases h
theorem mapM_range {A : Type} {f : Nat → Option A} : ∀ {n : Nat} {l : List A}, (List.range n).mapM f = some l → l.length = n ∧ ∀ i, i < n → f i = l[i]? := by
  intro n
  induction n with
  | zero => intro l h; simp at h; subst h; exact ⟨rfl, fun i hi => by omega⟩
  | succ n ih =>
    intro l h
    rw [List.range_succ, List.mapM_append] at h
    simp only [Option.bind_eq_bind, Option.bind_eq_some_iff] at h
    obtain ⟨a, ha, b, hb, hl⟩ := h
    obtain ⟨h1, h2⟩ := ih ha
    cases hf : f n with
    | none => simp [hf] at hb
    | some x =>
      simp [hf] at hb
      subst hb
      simp at hl
      subst hl
      refine ⟨by simp [h1], fun i hi => ?_⟩
      rcases Nat.lt_or_ge i n with h | h
      · rw [List.getElem?_append_left (by omega)]; exact h2 i h
      · obtain rfl : i = n := by omega
        rw [hf, List.getElem?_append_right (by omega), h1]
        simp
theorem slice_arg {b0 : Nat} {H : Type} {enc : TypeId × Value → H} {P : Program} {w : World} {t e : TypeId} {sz : Nat} {v : Value} {dd : DataW H} {p : List MemPlace} (ht : P.underlying t = some (.slice e)) (hc : P.cellsOf e = sz) (h0 : 0 < sz)
    (hT : DataW.Trod enc P w 0 (fun _ => true) true t v dd p) (hok : Value.okWide P w .any b0 t v) :
    (v = .slice none 0 0) ∨ ∃ (b o len cap : Nat) (cs : Array Value) (tt : TypeId) (fz : Nat × Nat), v = .slice (some ⟨b, o, none⟩) len cap ∧ w.heap[b]? = some (.cells cs tt fz) ∧ len ≤ cap ∧ cap ≤ maxLen ∧ o + cap * sz ≤ cs.size ∧
      ∀ i, i < len → ∃ us : List Value, us.length = sz ∧ (∀ j, j < sz → cs[o + i * sz + j]? = us[j]?) ∧ ∃ n y, DataW.trod enc P w 0 (fun _ => true) true n e us = some y := by
  obtain ⟨fuel, hT⟩ := hT
  obtain ⟨a0, len0, cap0, rfl⟩ := okWide_slice ht hok
  have hcells : (Value.slice a0 len0 cap0).cells.toList = [.slice a0 len0 cap0] := rfl
  rw [hcells] at hT
  rcases DataW.trod_slice ht hT with ⟨h1, _⟩ | ⟨a, len, cap, elems, rest, n, _, h1, _, _, h3, h4, h5, h6, h7, _⟩
  · left
    simpa using h1
  · right
    simp only [List.cons.injEq, and_true, Value.slice.injEq] at h1
    obtain ⟨rfl, rfl, rfl⟩ := h1
    unfold Value.okWide at hok
    rw [ht] at hok
    simp only at hok
    unfold Cell.okWide at hok
    rw [ht] at hok
    simp only at hok
    unfold Cell.ok at hok
    rw [ht] at hok
    simp only at hok
    obtain ⟨_, _, _, hsp, row, cells, hsh, hli⟩ := hok
    obtain ⟨b, o, sp⟩ := a
    simp only at hsp hsh hli h6 h7
    subst hsp
    unfold World.shape? at hsh
    cases hob : w.heap[b]? with
    | none => rw [hob] at hsh; cases hsh
    | some ob =>
      rw [hob] at hsh
      cases ob with
      | cells cs tt fz =>
        simp only [Option.some.injEq, Prod.mk.injEq] at hsh
        obtain ⟨rfl, rfl⟩ := hsh
        have hoff := liesAt_off P _ _ _ _ _ _ hli
        have hoff2 : o ≤ cs.size := Nat.le_trans hoff (Nat.div_mul_le_self _ _)
        have hcell : ∀ q : Nat, w.cell? ⟨b, q, none⟩ = cs[q]? := fun q => by simp [World.cell?, hob]
        have hget : ∀ (q : Nat) (us : List Value), w.cells? 0 ((⟨b, o, none⟩ : Addr).add (q * P.cellsOf e)) (P.cellsOf e) = some us → us.length = sz ∧ ∀ j, j < sz → cs[o + q * sz + j]? = us[j]? := by
          intro q us hus
          rw [add_plain] at hus
          unfold World.cells? at hus
          rw [if_pos (Nat.zero_le _)] at hus
          obtain ⟨g1, g2⟩ := mapM_range hus
          rw [hc] at g1 g2 hus
          refine ⟨g1, fun j hj => ?_⟩
          have := g2 j hj
          rw [add_plain, hcell] at this
          exact this
        refine ⟨b, o, len0, cap0, cs, tt, fz, rfl, hob, h3, h4, ?_, fun i hi => ?_⟩
        · rcases Nat.eq_zero_or_pos cap0 with hz | hz
          · subst hz; simpa using hoff2
          · have hlast : ∃ us, w.cells? 0 ((⟨b, o, none⟩ : Addr).add ((cap0 - 1) * P.cellsOf e)) (P.cellsOf e) = some us := by
              rcases Nat.lt_or_ge (cap0 - 1) len0 with hl | hl
              · have h8 := h6 (cap0 - 1) hl
                rw [List.getElem?_eq_getElem (by omega)] at h8
                cases hcs : w.cells? 0 ((⟨b, o, none⟩ : Addr).add ((cap0 - 1) * P.cellsOf e)) (P.cellsOf e) with
                | none => rw [hcs] at h8; cases h8
                | some us => exact ⟨us, rfl⟩
              · obtain ⟨h9, h10⟩ := h7 trivial
                have h8 := h10 (cap0 - 1 - len0) (by omega)
                rw [List.getElem?_eq_getElem (by omega), show len0 + (cap0 - 1 - len0) = cap0 - 1 by omega] at h8
                cases hcs : w.cells? 0 ((⟨b, o, none⟩ : Addr).add ((cap0 - 1) * P.cellsOf e)) (P.cellsOf e) with
                | none => rw [hcs] at h8; cases h8
                | some us => exact ⟨us, rfl⟩
            obtain ⟨us, hus⟩ := hlast
            obtain ⟨g1, g2⟩ := hget _ _ hus
            have g3 := g2 (sz - 1) (by omega)
            rw [List.getElem?_eq_getElem (show sz - 1 < us.length by omega)] at g3
            have g4 := (Array.getElem?_eq_some_iff.1 g3).1
            have : cap0 * sz = (cap0 - 1) * sz + sz := by
              conv => lhs; rw [show cap0 = cap0 - 1 + 1 by omega, Nat.add_mul, Nat.one_mul]
            omega
        · have h8 := h6 i hi
          rw [List.getElem?_eq_getElem (by omega)] at h8
          cases hcs : w.cells? 0 ((⟨b, o, none⟩ : Addr).add (i * P.cellsOf e)) (P.cellsOf e) with
          | none => rw [hcs] at h8; cases h8
          | some us =>
            rw [hcs] at h8
            simp only [Option.bind_some] at h8
            obtain ⟨g1, g2⟩ := hget _ _ hcs
            exact ⟨us, g1, g2, n, _, h8⟩
      | _ => cases hsh
def oldZone (w : World) : Zone := ⟨fun j => j < w.heap.size, fun j => j < w.heap.size, fun _ h => h⟩
theorem kept_refl (w : World) : Kept (oldZone w) w w := ⟨rfl, rfl, rfl, Nat.le_refl _, fun _ h => h, fun _ _ => rfl⟩
theorem below_of {w0 w : World} (h : Kept (oldZone w0) w0 w) : Below w0.heap.size w0 w := ⟨h.os, h.tape, h.output, h.size, fun j hj => h.block j hj⟩
def argEnt (sz : Nat) : Value → Ent
  | .slice (some a) _ cap => ⟨a.block, a.off, cap, sz, false⟩
  | _ => ⟨0, 0, 0, sz, true⟩
def ArgRow {A : Type} (w : World) (sz : Nat) (f : A → List Value) (v : Value) (l : List A) : Prop :=
  (v = .slice none 0 0 ∧ l = []) ∨ ∃ (b o len cap : Nat) (cs : Array Value) (tt : TypeId) (fz : Nat × Nat), v = .slice (some ⟨b, o, none⟩) len cap ∧ w.heap[b]? = some (.cells cs tt fz) ∧ len = l.length ∧ len ≤ cap ∧ cap ≤ maxLen ∧ o + cap * sz ≤ cs.size ∧
    ∀ i c, l[i]? = some c → ∀ j, j < sz → cs[o + i * sz + j]? = (f c)[j]?
theorem argRow_of {b0 : Nat} {A : Type} {H : Type} {enc : TypeId × Value → H} {P : Program} {w : World} {t e : TypeId} {sz : Nat} {v : Value} {dd : DataW H} {p : List MemPlace} {f : A → List Value} (ht : P.underlying t = some (.slice e)) (hc : P.cellsOf e = sz) (h0 : 0 < sz)
    (hT : DataW.Trod enc P w 0 (fun _ => true) true t v dd p) (hok : Value.okWide P w .any b0 t v) (hf : ∀ n us y, DataW.trod enc P w 0 (fun _ => true) true n e us = some y → ∃ a, us = f a) : ∃ l : List A, ArgRow w sz f v l := by
  rcases slice_arg ht hc h0 hT hok with h | ⟨b, o, len, cap, cs, tt, fz, h1, h2, h3, h4, h5, h6⟩
  · exact ⟨[], .inl ⟨h, rfl⟩⟩
  · have hex : ∀ i, i < len → ∃ a : A, ∀ j, j < sz → cs[o + i * sz + j]? = (f a)[j]? := by
      intro i hi
      obtain ⟨us, g1, g2, n, y, g3⟩ := h6 i hi
      obtain ⟨a, rfl⟩ := hf n us y g3
      exact ⟨a, g2⟩
    refine ⟨(List.range len).attach.map (fun i => Classical.choose (hex i.1 (List.mem_range.1 i.2))), .inr ⟨b, o, len, cap, cs, tt, fz, h1, h2, by simp, h3, h4, h5, ?_⟩⟩
    intro i c hi j hj
    rw [List.getElem?_map] at hi
    obtain ⟨q, hq, rfl⟩ := Option.map_eq_some_iff.1 hi
    have hq1 : q.1 = i := by
      obtain ⟨hlt, hh⟩ := List.getElem?_eq_some_iff.1 hq
      rw [← hh]
      simp
    have := Classical.choose_spec (hex q.1 (List.mem_range.1 q.2)) j hj
    rw [← hq1]
    exact this
theorem ArgRow.conc {A : Type} {w : World} {sz : Nat} {f : A → List Value} {v : Value} {l : List A} (h : ArgRow w sz f v l) {e : Env} {b : Nat} (he : e b = some (argEnt sz v)) : (SV.slu b 0 l.length).conc e = some v := by
  rcases h with ⟨rfl, rfl⟩ | ⟨b', o, len, cap, cs, tt, fz, rfl, h2, rfl, h3, h4, h5, h6⟩
  · simp [SV.conc, he, argEnt, Ent.at]
  · simp [SV.conc, he, argEnt, Ent.at]
theorem flat_get {A : Type} {f : A → List Value} {sz : Nat} (hf : ∀ a, (f a).length = sz) : ∀ (l : List A) (i j : Nat), j < sz → (l.flatMap f)[i * sz + j]? = (l[i]?).bind (fun c => (f c)[j]?)
  | [], i, j, _ => by simp
  | a :: l, 0, j, hj => by
    rw [List.flatMap_cons, List.getElem?_append_left (by rw [hf]; omega)]
    simp
  | a :: l, i + 1, j, hj => by
    rw [List.flatMap_cons, List.getElem?_append_right (by rw [hf, Nat.add_mul]; omega), hf, show (i + 1) * sz + j - sz = i * sz + j by rw [Nat.add_mul]; omega, flat_get hf l i j hj]
    simp
theorem ArgRow.lies {A : Type} {w : World} {sz : Nat} {f : A → List Value} {v : Value} {l : List A} (h : ArgRow w sz f v l) (hf : ∀ a, (f a).length = sz) (h0 : 0 < sz) (rt : TypeId) (e : Env) : Lies (oldZone w) w e (dat true l.length sz rt (l.flatMap f)) (argEnt sz v) := by
  rcases h with ⟨rfl, rfl⟩ | ⟨b, o, len, cap, cs, tt, fz, rfl, h2, rfl, h3, h4, h5, h6⟩
  · exact .inr ⟨rfl, rfl, true, rt, _, rfl, h0⟩
  · refine .inl ⟨rfl, .cells cs tt fz, ⟨fun _ => lt_of_heap h2, fun h => by cases h⟩, h2, rfl, cs, fz, tt, rfl, h3, h5, h4, (fun h => by cases h), h0, fun i hi s hs => ?_⟩
    have hs' : ((l.flatMap f)[i]?).map SV.sc = some s := hs
    obtain ⟨u, hu, rfl⟩ := Option.map_eq_some_iff.1 hs'
    refine ⟨u, rfl, ?_⟩
    have hdm := Nat.div_add_mod i sz
    have hm := Nat.mod_lt i h0
    have e1 : i = i / sz * sz + i % sz := by rw [Nat.mul_comm]; omega
    rw [e1, flat_get hf l _ _ hm] at hu
    obtain ⟨c, hc, hcu⟩ := Option.bind_eq_some_iff.1 hu
    have := h6 (i / sz) c hc (i % sz) hm
    show cs[o + i]? = some u
    rw [e1, ← Nat.add_assoc, this]
    exact hcu
theorem St.init {w : World} {e : Env} {H : Heap} {nx : Nat} (h1 : ∀ id vo, H.at' id = some vo → vo.ro = true ∧ ∃ x, e id = some x ∧ Lies (oldZone w) w e vo x) (h2 : ∀ i, nx ≤ i → e i = none) : St (oldZone w) w e H nx w :=
  ⟨kept_refl w, fun id vo h => (h1 id vo h).2, fun id id' vo vo' x x' h _ _ _ _ _ _ hr _ => by (rw [(h1 id vo h).1] at hr; cases hr), h2⟩
end Go.Sy
end
section
namespace Go.Proofs.Ytckajlllkmkniaa
open Go Go.Sy Go.ChangeShapes Go.WideShapes Go.ChangeAt Go.RowKit
section
variable {H : Type} {enc : TypeId × Value → H} {P : Program} {w : World} {base : Nat} {sp : Nat → Bool} {held : Bool} {n : Nat} {t : TypeId} {cs : List Value} {y : DataW H × List MemPlace}
theorem trod_int_is {k : IntKind} (hu : P.underlying t = some (.int k)) (h : DataW.trod enc P w base sp held n t cs = some y) : ∃ x, cs = [.int k x] ∧ (Lit.int k x).wf = true := by
  cases n with
  | zero => simp [DataW.trod] at h
  | succ n =>
    unfold DataW.trod at h
    rw [hu] at h
    split at h <;> simp_all
theorem trod_str_is (hu : P.underlying t = some .string) (h : DataW.trod enc P w base sp held n t cs = some y) : ∃ s, cs = [.string s] := by
  cases n with
  | zero => simp [DataW.trod] at h
  | succ n =>
    unfold DataW.trod at h
    rw [hu] at h
    split at h <;> simp_all
theorem trod_nat_is (hu : P.underlying t = some (.int .u64)) (h : DataW.trod enc P w base sp held n t cs = some y) : ∃ x : Nat, cs = [.int .u64 (x : Int)] := by
  obtain ⟨x, hx, hw⟩ := trod_int_is hu h
  have h0 : 0 ≤ x := by
    simp only [Lit.wf, IntKind.has, IntKind.min, show IntKind.u64.signed = false from rfl, Bool.and_eq_true, decide_eq_true_eq] at hw
    first | exact hw.1 | (simp at hw; omega)
  exact ⟨x.toNat, by rw [hx, Int.toNat_of_nonneg h0]⟩
end
theorem uAct : Try.prog.underlying 32 = some (.struct (Try.prog.fieldsOf 32)) := by kernel_rfl
theorem fAct : (Try.prog.fieldsOf 32).toList.map (fun f => (f.type, f.offset)) = [(3, 0), (23, 1), (9, 2), (3, 3)] := by kernel_rfl
theorem trod_act {H : Type} {enc : TypeId × Value → H} {w : World} {base : Nat} {sp : Nat → Bool} {held : Bool} {n : Nat} {us : List Value} {y : DataW H × List MemPlace} (h : DataW.trod enc Try.prog w base sp held n 32 us = some y) : ∃ a : ActT, us = actV a := by
  have hf := fAct
  have hu := uAct
  generalize Try.prog.fieldsOf 32 = fs at hf hu
  obtain ⟨xs, m, _, _, hl, hlen, hx⟩ := DataW.trod_struct hu h
  obtain ⟨l⟩ := fs
  simp only at hf
  have hl4 : l.length = 4 := by simpa using congrArg List.length hf
  rcases l with _ | ⟨f0, _ | ⟨f1, _ | ⟨f2, _ | ⟨f3, _ | ⟨f4, l⟩⟩⟩⟩⟩
  · simp at hl4
  · simp at hl4
  · simp at hl4
  · simp at hl4
  · simp only [List.map_cons, List.map_nil, List.cons.injEq, Prod.mk.injEq, and_true] at hf
    obtain ⟨⟨a1, a2⟩, ⟨b1, b2⟩, ⟨c1, c2⟩, d1, d2⟩ := hf
    have hc : Try.prog.cellsOf 32 = 4 := by kernel_rfl
    have hi : Try.prog.cellsOf 3 = 1 := by kernel_rfl
    have hu64 : Try.prog.cellsOf 23 = 1 := by kernel_rfl
    have hs : Try.prog.cellsOf 9 = 1 := by kernel_rfl
    rw [hc] at hl
    have hlen4 : xs.length = 4 := by simpa using hlen
    have h0 := hx 0 f0 rfl
    have h1 := hx 1 f1 rfl
    have h2 := hx 2 f2 rfl
    have h3 := hx 3 f3 rfl
    rw [a1, a2, hi] at h0
    rw [b1, b2, hu64] at h1
    rw [c1, c2, hs] at h2
    rw [d1, d2, hi] at h3
    have g0 : ∃ y, DataW.trod enc Try.prog w base sp held m 3 ((us.drop 0).take 1) = some y := ⟨_, h0.trans (List.getElem?_eq_getElem (by omega))⟩
    have g1 : ∃ y, DataW.trod enc Try.prog w base sp held m 23 ((us.drop 1).take 1) = some y := ⟨_, h1.trans (List.getElem?_eq_getElem (by omega))⟩
    have g2 : ∃ y, DataW.trod enc Try.prog w base sp held m 9 ((us.drop 2).take 1) = some y := ⟨_, h2.trans (List.getElem?_eq_getElem (by omega))⟩
    have g3 : ∃ y, DataW.trod enc Try.prog w base sp held m 3 ((us.drop 3).take 1) = some y := ⟨_, h3.trans (List.getElem?_eq_getElem (by omega))⟩
    obtain ⟨_, g0⟩ := g0
    obtain ⟨_, g1⟩ := g1
    obtain ⟨_, g2⟩ := g2
    obtain ⟨_, g3⟩ := g3
    obtain ⟨k, hk, _⟩ := trod_int_is (F.un 3 rfl) g0
    obtain ⟨o, ho⟩ := trod_nat_is (F.un 23 rfl) g1
    obtain ⟨s, hst⟩ := trod_str_is (F.un 9 rfl) g2
    obtain ⟨m, hmk, _⟩ := trod_int_is (F.un 3 rfl) g3
    rcases us with _ | ⟨u0, _ | ⟨u1, _ | ⟨u2, _ | ⟨u3, _ | ⟨u4, us⟩⟩⟩⟩⟩
    · simp at hl
    · simp at hl
    · simp at hl
    · simp at hl
    · simp at hk ho hst hmk
      exact ⟨(k, o, s, m), by simp [actV, hk, ho, hst, hmk]⟩
    · simp at hl
  · simp at hl4
theorem own : ownKnob Try.prog.godebug = none := by kernel_rfl
theorem laid : laidOutB Try.prog = true := by kernel_rfl
theorem argRow_le {A : Type} {w : World} {sz : Nat} {f : A → List Value} {v : Value} {l : List A} (h : ArgRow w sz f v l) : l.toArray.size ≤ 9223372036854775807 := by
  rcases h with ⟨_, rfl⟩ | ⟨b, o, len, cap, cs, tt, fz, _, _, h1, h2, h3, _⟩
  · simp
  · have : maxLen = 9223372036854775807 := rfl
    simp only [List.size_toArray]
    omega
end Go.Proofs.Ytckajlllkmkniaa
end
