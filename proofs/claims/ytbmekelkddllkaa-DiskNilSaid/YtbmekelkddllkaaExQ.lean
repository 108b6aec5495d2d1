/-
  The machine of names: whatever order a region draws; and the theorem: what the machine finds of a function of no arguments holds in the model. Over any program.
-/
import Derived.Test.YtbmekelkddllkaaExP
namespace Go.Ex
open Go Go.Sl Go.RowKit

section
variable {P : Program} {B : Nat} {w0 w : World} {e : Env} {H : Heap} {nx : Nat} {rn : Rn}

/-- What is checked of a region. -/
structure RegOK (P : Program) (rn : Rn) (nt : Nat) (ops : Array Oper) (T0 : Tr SV) (R : List Rec) (Q : List (Heap × Nat)) (C : List Nat) : Prop where
  len : R.length = ops.size
  recs : ∀ (k : Nat) r, R[k]? = some r → RecOK P rn ops T0 R Q C k r
  stages : Q.length = C.length + 1
  chainR : C = (R.filter (·.chain)).map (·.i)
  chain : chainOk (ancGo [] ops.toList) C = true
  floats : ∀ r ∈ R, r.chain = false → r.wanted = true → ∀ s, lowOf ((ancGo [] ops.toList).getD r.i 0) C ≤ s → s ≤ highOf (ancGo [] ops.toList) r.i C → ∀ H n, Q[s]? = some (H, n) → floatOp P r.T H r.o = some r.val
  small : ∀ (i : Nat) o d, ops.toList[i]? = some o → o.dst = some d → d < nt
  dist : ∀ (i j : Nat) oi oj d, ops.toList[i]? = some oi → ops.toList[j]? = some oj → oi.dst = some d → oj.dst = some d → i = j
  edges : ∀ (i : Nat) o, ops.toList[i]? = some o → edgesOk i o.after.toList = true
  opnds : ∀ (i : Nat) o, ops.toList[i]? = some o → operandsOk ops.toList ((ancGo [] ops.toList).getD i 0) (needs ops.toList o) = true

/-- A slot's value, where these are listed. -/
def Good (T0 : Tr SV) (R : List Rec) (L : Nat → Prop) (t : Nat) (s : SV) : Prop :=
  (∃ (k : Nat) (r : Rec), L k ∧ R[k]? = some r ∧ r.o.dst = some t ∧ r.val = s) ∨ ((∀ (k : Nat) (r : Rec), R[k]? = some r → r.o.dst ≠ some t) ∧ T0.at' t = some s)

structure PInv (B : Nat) (w0 : World) (nt : Nat) (ops : Array Oper) (T0 : Tr SV) (R : List Rec) (Q : List (Heap × Nat)) (C : List Nat) (L : Nat → Prop) (s : Nat) (e : Env) (w : World) (tr : Array Value) : Prop where
  st : ∃ H n, Q[s]? = some (H, n) ∧ St B w0 e H n w
  size : tr.size = nt
  good : ∀ t sv, Good T0 R L t sv → ∃ v, sv.conc e = some v ∧ tr.getD t undef = v
  chain : ∀ (j c : Nat), C[j]? = some c → (L c ↔ j < s)
  closed : ∀ (i : Nat) o, L i → ops.toList[i]? = some o → ∀ ed ∈ o.after.toList, Region.binds .any ed = true → L ed.on

variable {nt : Nat} {ops : Array Oper} {T0 : Tr SV} {R : List Rec} {Q : List (Heap × Nat)} {C : List Nat}

/-- One operation that is ready. -/
theorem PInv.step (hrn : RunOK P B w0 rn) (hR : RegOK P rn nt ops T0 R Q C) {L : Nat → Prop} {s : Nat} {tr : Array Value} (h : PInv B w0 nt ops T0 R Q C L s e w tr) {i : Nat} {o : Oper} (ho : ops[i]? = some o) (hni : ¬ L i)
    (hed : ∀ ed ∈ o.after.toList, Region.binds .any ed = true → L ed.on) (fn : FuncId) (rest : List Nat) (k : List Item) (ds : List Deferred) (kd : CallKind) (rof : Option Nat) (cs : List Frame) :
    ∃ e' w' tr' s', e.le e' ∧ PInv B w0 nt ops T0 R Q C (fun j => L j ∨ j = i) s' e' w' tr' ∧
      Steps P (lone (fr0 fn tr (.inRegion ops (i :: rest) :: k) ds kd rof) cs w) (lone (fr0 fn tr' (.inRegion ops rest :: k) ds kd rof) cs w') := by
  have hoL : ops.toList[i]? = some o := by simpa using ho
  have hilt : i < ops.size := (Array.getElem?_eq_some_iff.1 ho).1
  obtain ⟨r, hr⟩ : ∃ r, R[i]? = some r := ⟨_, List.getElem?_eq_getElem (by rw [hR.len]; exact hilt)⟩
  have hrec := hR.recs i r hr
  have hro : r.o = o := by
    have := hrec.op
    rw [ho] at this
    simpa using this.symm
  have hanc := anc_listed L hR.edges (fun i o hi ho' => h.closed i o hi ho') i o hoL hed
  -- the slots that it needs
  have hT : TRel e nt r.T tr := by
    refine ⟨h.size, fun t sv ht => ?_⟩
    obtain ⟨hneed, hsrc⟩ := hrec.slots t sv ht
    rw [hro] at hneed
    have hwr : ∀ (k' : Nat) o', ops.toList[k']? = some o' → o'.dst = some t → L k' ∧ k' < i := fun k' o' ho' hd' => hanc k' (operandsOk_ok hR.dist (hR.opnds i o hoL) t hneed k' o' ho' hd')
    refine h.good t sv ?_
    rcases hsrc with ⟨k', r', h1, h2, h3, h4⟩ | ⟨h1, h2⟩
    · have hop := (hR.recs k' r' h2).op
      exact .inl ⟨k', r', (hwr k' r'.o (by simpa using hop) h3).1, h2, h3, h4⟩
    · refine .inr ⟨fun k' r' hr' hd' => ?_, h2⟩
      have hop := (hR.recs k' r' hr').op
      have := (hwr k' r'.o (by simpa using hop) hd').2
      exact h1 k' r' this hr' hd'
  have hwant := wantedS_ok hrec.want hT
  rw [hro] at hwant
  -- what comes of it
  have build : ∀ (e' : Env) (w' : World) (u : Value) (s' : Nat), e.le e' → (∃ H n, Q[s']? = some (H, n) ∧ St B w0 e' H n w') → r.val.conc e' = some u → (∀ (j c : Nat), C[j]? = some c → ((L c ∨ c = i) ↔ j < s')) →
      PInv B w0 nt ops T0 R Q C (fun j => L j ∨ j = i) s' e' w' (putV tr o.dst u) := by
    intro e' w' u s' hle hst hu hch
    refine ⟨hst, ?_, fun t sv hg => ?_, hch, fun j oj hj hoj ed hed' hb => ?_⟩
    · unfold putV
      cases o.dst with
      | none => exact h.size
      | some d => simpa using h.size
    · have old : (∀ d, o.dst = some d → d ≠ t) → ∃ v, sv.conc e' = some v ∧ (putV tr o.dst u).getD t undef = v := by
        intro hne
        have hg' : Good T0 R L t sv := by
          rcases hg with ⟨k', r', hk', h2, h3, h4⟩ | hg
          · refine .inl ⟨k', r', ?_, h2, h3, h4⟩
            rcases hk' with hk' | rfl
            · exact hk'
            · exfalso
              rw [hr] at h2
              simp only [Option.some.injEq] at h2
              subst h2
              rw [hro] at h3
              exact hne t h3 rfl
          · exact .inr hg
        obtain ⟨v, hv, hgv⟩ := h.good t sv hg'
        refine ⟨v, SV.conc_mono hle _ _ hv, ?_⟩
        cases hd : o.dst with
        | none => exact hgv
        | some d =>
          have := hne d hd
          simp only [putV]
          rw [Array.getD_eq_getD_getElem?, Array.getElem?_setIfInBounds_ne this, ← Array.getD_eq_getD_getElem?]
          exact hgv
      cases hd : o.dst with
      | none => rw [hd] at old; exact old (fun d hd' => by cases hd')
      | some d =>
        by_cases hdt : d = t
        · subst hdt
          have hval : sv = r.val := by
            rcases hg with ⟨k', r', hk', h2, h3, h4⟩ | ⟨h1, _⟩
            · have hop := (hR.recs k' r' h2).op
              have := hR.dist k' i r'.o o d (by simpa using hop) hoL h3 hd
              subst this
              rw [hr] at h2
              simp only [Option.some.injEq] at h2
              subst h2
              exact h4.symm
            · exact absurd (by rw [hro]; exact hd) (h1 i r hr)
          subst hval
          refine ⟨u, hu, ?_⟩
          have hlt := hR.small i o d hoL hd
          simp only [putV]
          rw [Array.getD_eq_getD_getElem?, Array.getElem?_setIfInBounds_self_of_lt (by rw [h.size]; exact hlt)]
          rfl
        · rw [hd] at old
          exact old (fun d' hd' => by simp only [Option.some.injEq] at hd'; subst hd'; exact hdt)
    · rcases hj with hj | rfl
      · exact .inl (h.closed j oj hj hoj ed hed' hb)
      · rw [hoL] at hoj
        simp only [Option.some.injEq] at hoj
        subst hoj
        exact .inl (hed ed hed' hb)
  have notChain : r.chain = false → ∀ (j c : Nat), C[j]? = some c → ((L c ∨ c = i) ↔ j < s) := by
    intro hc j c hj
    have hne : c ≠ i := by
      rintro rfl
      rw [hR.chainR] at hj
      rw [List.getElem?_map, Option.map_eq_some_iff] at hj
      obtain ⟨r', hr', hi'⟩ := hj
      have hmem := List.mem_of_getElem? hr'
      rw [List.mem_filter] at hmem
      obtain ⟨k', hk'⟩ := List.mem_iff_getElem?.1 hmem.1
      have := (hR.recs k' r' hk').idx
      rw [hi'] at this
      subst this
      rw [hr] at hk'
      simp only [Option.some.injEq] at hk'
      subst hk'
      rw [hc] at hmem
      simp at hmem
    rw [← h.chain j c hj]
    simp [hne]
  obtain ⟨H, n, hQ, hS⟩ := h.st
  cases hwd : r.wanted with
  | false =>
    rw [hwd] at hwant
    obtain ⟨h1, h2⟩ := hrec.skip hwd
    exact ⟨e, w, _, s, Env.le_refl e, build e w undef s (Env.le_refl e) ⟨H, n, hQ, hS⟩ (by rw [h1]; rfl) (notChain h2), .one (st_notWanted ho hwant)⟩
  | true =>
    rw [hwd] at hwant
    cases hc : r.chain with
    | false =>
      have hri := hrec.idx
      have hlo : lowOf ((ancGo [] ops.toList).getD r.i 0) C ≤ s := by
        rcases Nat.lt_or_ge s (lowOf ((ancGo [] ops.toList).getD r.i 0) C) with hlt | hge
        · exfalso
          obtain ⟨c, h1, h2⟩ := lowOf_ok s hlt
          rw [hri] at h2
          have := (h.chain s c h1).1 (hanc c h2).1
          omega
        · exact hge
      have hhi : s ≤ highOf (ancGo [] ops.toList) r.i C := by
        rcases Nat.lt_or_ge (highOf (ancGo [] ops.toList) r.i C) s with hlt | hge
        · exfalso
          have hsC : s ≤ C.length := by
            have := (List.getElem?_eq_some_iff.1 hQ).1
            have := hR.stages
            omega
          obtain ⟨c, h1, h2⟩ := highOf_ok (ancs := ancGo [] ops.toList) (i := r.i) (l := C) (by omega)
          have hLc := (h.chain _ c h1).2 hlt
          have hcl : c < ops.size := by
            have hcm := List.mem_of_getElem? h1
            rw [hR.chainR, List.mem_map] at hcm
            obtain ⟨r', hr', rfl⟩ := hcm
            rw [List.mem_filter] at hr'
            obtain ⟨k', hk'⟩ := List.mem_iff_getElem?.1 hr'.1
            have hx := hR.recs k' r' hk'
            rw [hx.idx]
            exact (Array.getElem?_eq_some_iff.1 hx.op).1
          have hoc : ops.toList[c]? = some (ops.toList[c]'(by simpa using hcl)) := List.getElem?_eq_getElem (by simpa using hcl)
          have := anc_listed L hR.edges (fun i o hi ho' => h.closed i o hi ho') c _ hoc (h.closed c _ hLc hoc) r.i h2
          rw [hri] at this
          exact hni this.1
        · exact hge
      have hf := hR.floats r (List.mem_of_getElem? hr) hc hwd s hlo hhi H n hQ
      rw [hro] at hf
      obtain ⟨u, hu, hst⟩ := float_steps (P := P) (fn := fn) (rest := rest) (k := k) (ds := ds) (kd := kd) (rof := rof) (cs := cs) hS hT ho hwant hf
      exact ⟨e, w, _, s, Env.le_refl e, build e w u s (Env.le_refl e) ⟨H, n, hQ, hS⟩ hu (notChain hc), hst⟩
    | true =>
      obtain ⟨_, hC, H1, n1, H2, n2, hQ1, hQ2, heff⟩ := hrec.eff hc
      have hss : r.stg = s := by
        have h1 : ¬ r.stg < s := fun hlt => hni ((h.chain r.stg i hC).2 hlt)
        rcases Nat.eq_zero_or_pos r.stg with h0 | hp
        · omega
        · have hlt : r.stg - 1 < C.length := by
            have := (List.getElem?_eq_some_iff.1 hC).1
            omega
          have hprev : C[r.stg - 1]? = some C[r.stg - 1] := List.getElem?_eq_getElem hlt
          have hbit := chainOk_ok hR.chain (r.stg - 1) C[r.stg - 1] i hprev (by rw [show r.stg - 1 + 1 = r.stg by omega]; exact hC)
          have := (h.chain _ _ hprev).1 (hanc _ hbit).1
          omega
      rw [hss] at hQ1 hQ2 hC
      rw [hQ] at hQ1
      simp only [Option.some.injEq, Prod.mk.injEq] at hQ1
      obtain ⟨rfl, rfl⟩ := hQ1
      rw [hro] at heff
      obtain ⟨e', w', u, hle, hS', hu, hst⟩ := eff_steps (P := P) hrn (fn := fn) (rest := rest) (k := k) (ds := ds) (kd := kd) (rof := rof) (cs := cs) hS hT ho hwant heff
      refine ⟨e', w', _, s + 1, hle, build e' w' u (s + 1) hle ⟨H2, n2, hQ2, hS'⟩ hu (fun j c hj => ?_), hst⟩
      constructor
      · rintro (hL | rfl)
        · have := (h.chain j c hj).1 hL; omega
        · rcases Nat.lt_or_ge j (s + 1) with hlt | hge
          · exact hlt
          · exfalso
            -- the same place twice in the chain
            have hi1 := chain_inj hR hC hj
            omega
      · intro hlt
        rcases Nat.lt_or_ge j s with hj' | hj'
        · exact .inl ((h.chain j c hj).2 hj')
        · have : j = s := by omega
          subst this
          rw [hC] at hj
          simp only [Option.some.injEq] at hj
          exact .inr hj.symm
where
  chain_inj {P : Program} {rn : Rn} {nt : Nat} {ops : Array Oper} {T0 : Tr SV} {R : List Rec} {Q : List (Heap × Nat)} {C : List Nat} (hR : RegOK P rn nt ops T0 R Q C) {s j c : Nat} (h1 : C[s]? = some c) (h2 : C[j]? = some c) : s = j := by
    have hnd : C.Nodup := by
      rw [hR.chainR]
      have hall : ((R.filter (·.chain)).map (·.i)).Sublist (R.map (·.i)) := (List.filter_sublist).map _
      refine hall.nodup ?_
      have : R.map (·.i) = List.range R.length := by
        apply List.ext_getElem?
        intro k
        rw [List.getElem?_map]
        cases hk : R[k]? with
        | none =>
          rw [List.getElem?_eq_none_iff] at hk
          simp [hk]
        | some r =>
          have hlt := (List.getElem?_eq_some_iff.1 hk).1
          rw [Option.map_some, (hR.recs k r hk).idx, List.getElem?_range hlt]
      rw [this]
      exact List.nodup_range
    have a := List.getElem?_eq_some_iff.1 h1
    have b := List.getElem?_eq_some_iff.1 h2
    obtain ⟨a1, a2⟩ := a
    obtain ⟨b1, b2⟩ := b
    exact (List.getElem_inj hnd).1 (a2.trans b2.symm)
end

section
variable {P : Program} {B : Nat} {w0 w : World} {e : Env} {rn : Rn} {nt : Nat} {ops : Array Oper} {T0 : Tr SV} {R : List Rec} {Q : List (Heap × Nat)} {C : List Nat}

/-- What is listed. -/
def Listed (listed : Array Bool) (j : Nat) : Prop := listed[j]? = some true

theorem ready_mem {listed : Array Bool} (hsz : listed.size = ops.size) {i : Nat} (h : i ∈ Region.ready .any ops listed) : ∃ o, ops[i]? = some o ∧ ¬ Listed listed i ∧ ∀ ed ∈ o.after.toList, Region.binds .any ed = true → Listed listed ed.on := by
  unfold Region.ready at h
  rw [List.mem_filter, List.mem_range, Bool.and_eq_true] at h
  obtain ⟨h1, h2, h3⟩ := h
  have ho : ops[i]? = some ops[i] := Array.getElem?_eq_getElem h1
  refine ⟨ops[i], ho, ?_, fun ed hed hb => ?_⟩
  · intro hl
    unfold Listed at hl
    rw [Array.getD_eq_getD_getElem?, hl] at h2
    simp at h2
  · rw [ho] at h3
    simp only [Option.map_some, Option.getD_some] at h3
    rw [Array.all_eq_true_iff_forall_mem] at h3
    have := h3 ed (by simpa using hed)
    rw [hb] at this
    simp only [Bool.not_true, Bool.false_or] at this
    unfold Listed
    rw [Array.getD_eq_getD_getElem?] at this
    cases hx : listed[ed.on]? with
    | none => rw [hx] at this; simp at this
    | some b => rw [hx] at this; simp only [Option.getD_some] at this; rw [this]

theorem ready_of {listed : Array Bool} (hsz : listed.size = ops.size) (hE : ∀ (i : Nat) o, ops.toList[i]? = some o → edgesOk i o.after.toList = true) {i : Nat} (hi : i < ops.size) (hn : ¬ Listed listed i) : ∃ j, j ∈ Region.ready .any ops listed := by
  induction i using Nat.strongRecOn with
  | _ i ih =>
    have ho : ops[i]? = some ops[i] := Array.getElem?_eq_getElem hi
    by_cases hall : ∀ ed ∈ ops[i].after.toList, Region.binds .any ed = true → Listed listed ed.on
    · refine ⟨i, ?_⟩
      unfold Region.ready
      rw [List.mem_filter, List.mem_range, Bool.and_eq_true]
      refine ⟨hi, ?_, ?_⟩
      · unfold Listed at hn
        rw [Array.getD_eq_getD_getElem?]
        have hlt : i < listed.size := by omega
        rw [Array.getElem?_eq_getElem hlt] at hn ⊢
        simp only [Option.some.injEq, Bool.not_eq_true] at hn
        simp [hn]
      · rw [ho]
        simp only [Option.map_some, Option.getD_some]
        rw [Array.all_eq_true_iff_forall_mem]
        intro ed hed
        cases hb : Region.binds .any ed with
        | false => rfl
        | true =>
          have := hall ed (by simpa only [Array.mem_toList_iff] using hed) hb
          unfold Listed at this
          rw [Array.getD_eq_getD_getElem?, this]
          rfl
    · have : ∃ ed, ed ∈ ops[i].after.toList ∧ Region.binds .any ed = true ∧ ¬ Listed listed ed.on := by
        apply Classical.byContradiction
        intro hc
        apply hall
        intro ed h1 h2
        apply Classical.byContradiction
        intro h3
        exact hc ⟨ed, h1, h2, h3⟩
      obtain ⟨ed, h1, h2, h3⟩ := this
      have hlt := edgesOk_ok (hE i ops[i] (by simp)) ed h1 h2
      exact ih ed.on hlt (by omega) h3

/-- How many are not listed. -/
def unlisted (listed : Array Bool) : Nat := listed.toList.count false
theorem count_set : ∀ (l : List Bool) (i : Nat), l[i]? = some false → (l.set i true).count false + 1 = l.count false
  | [], i, h => by simp at h
  | b :: l, 0, h => by
    simp only [List.getElem?_cons_zero, Option.some.injEq] at h
    subst h
    simp [List.count_cons]
  | b :: l, i + 1, h => by
    have := count_set l i (by simpa using h)
    simp only [List.set_cons_succ, List.count_cons]
    omega

theorem pi_steps (hrn : RunOK P B w0 rn) (hR : RegOK P rn nt ops T0 R Q C) (fn : FuncId) (k : List Item) (ds : List Deferred) (kd : CallKind) (rof : Option Nat) (cs : List Frame) : ∀ (fuel t : Nat) (listed : Array Bool) (s : Nat) (e : Env) (w : World) (tr : Array Value),
    listed.size = ops.size → unlisted listed ≤ fuel → PInv B w0 nt ops T0 R Q C (Listed listed) s e w tr →
    ∃ e' w' tr' s' listed', e.le e' ∧ listed'.size = ops.size ∧ (∀ j, j < ops.size → Listed listed' j) ∧ PInv B w0 nt ops T0 R Q C (Listed listed') s' e' w' tr' ∧
      Steps P (lone (fr0 fn tr (.inRegion ops (Region.linearise.go .any ops fuel t listed []) :: k) ds kd rof) cs w) (lone (fr0 fn tr' (.inRegion ops [] :: k) ds kd rof) cs w') := by
  have allOf : ∀ (listed : Array Bool), listed.size = ops.size → (∀ j, j ∉ Region.ready .any ops listed) → ∀ j, j < ops.size → Listed listed j := by
    intro listed hsz hno j hj
    apply Classical.byContradiction
    intro hn
    obtain ⟨i, hi⟩ := ready_of hsz hR.edges hj hn
    exact hno i hi
  intro fuel
  induction fuel with
  | zero =>
    intro t listed s e w tr hsz hun hI
    refine ⟨e, w, tr, s, listed, Env.le_refl e, hsz, fun j hj => ?_, hI, by simp only [Region.linearise.go, List.reverse_nil]; exact .refl P _⟩
    unfold Listed
    have hlt : j < listed.size := by omega
    rw [Array.getElem?_eq_getElem hlt]
    cases hb : listed[j] with
    | true => rfl
    | false =>
      exfalso
      have : 0 < listed.toList.count false := List.count_pos_iff.2 (by rw [← hb]; simp)
      unfold unlisted at hun
      omega
  | succ fuel ih =>
    intro t listed s e w tr hsz hun hI
    simp only [Region.linearise.go]
    change ∃ e' w' tr' s' listed', _ ∧ _ ∧ _ ∧ _ ∧ Steps P (lone (fr0 fn tr (.inRegion ops (match (Region.ready .any ops listed)[t % (Region.ready .any ops listed).length]? with
      | some i => Region.linearise.go .any ops fuel (t / (Region.ready .any ops listed).length) (listed.setIfInBounds i true) [i]
      | none => [].reverse) :: k) ds kd rof) cs w) _
    cases hpick : (Region.ready .any ops listed)[t % (Region.ready .any ops listed).length]? with
    | none =>
      have hnil : Region.ready .any ops listed = [] := by
        cases hx : Region.ready .any ops listed with
        | nil => rfl
        | cons x xs =>
          rw [hx] at hpick
          have hlt : t % (x :: xs).length < (x :: xs).length := Nat.mod_lt _ (by simp)
          rw [List.getElem?_eq_getElem hlt] at hpick
          cases hpick
      exact ⟨e, w, tr, s, listed, Env.le_refl e, hsz, allOf listed hsz (by rw [hnil]; simp), hI, .refl P _⟩
    | some i =>
      simp only
      have hmem := List.mem_of_getElem? hpick
      obtain ⟨o, ho, hni, hed⟩ := ready_mem hsz hmem
      rw [linearise_go_acc, List.reverse_singleton, List.singleton_append]
      obtain ⟨e1, w1, tr1, s1, hle1, hI1, hst1⟩ := hI.step hrn hR ho hni hed fn (Region.linearise.go .any ops fuel (t / (Region.ready .any ops listed).length) (listed.setIfInBounds i true) []) k ds kd rof cs
      have hilt : i < ops.size := (Array.getElem?_eq_some_iff.1 ho).1
      have hfalse : listed.toList[i]? = some false := by
        have hlt : i < listed.size := by omega
        unfold Listed at hni
        rw [Array.getElem?_eq_getElem hlt] at hni
        rw [Array.getElem?_toList, Array.getElem?_eq_getElem hlt]
        simpa using hni
      have hcnt : unlisted (listed.setIfInBounds i true) + 1 = unlisted listed := by
        unfold unlisted
        rw [Array.toList_setIfInBounds]
        exact count_set _ _ hfalse
      have hLeq : ∀ j, Listed (listed.setIfInBounds i true) j ↔ (Listed listed j ∨ j = i) := by
        intro j
        unfold Listed
        by_cases hji : j = i
        · subst hji
          rw [Array.getElem?_setIfInBounds_self_of_lt (by omega)]
          simp
        · rw [Array.getElem?_setIfInBounds_ne (Ne.symm hji)]
          simp [hji]
      have hI2 : PInv B w0 nt ops T0 R Q C (Listed (listed.setIfInBounds i true)) s1 e1 w1 tr1 := by
        have : Listed (listed.setIfInBounds i true) = fun j => Listed listed j ∨ j = i := funext fun j => propext (hLeq j)
        rw [this]
        exact hI1
      obtain ⟨e2, w2, tr2, s2, l2, hle2, hs2, ha2, hI3, hst2⟩ := ih _ _ s1 e1 w1 tr1 (by simpa using hsz) (by omega) hI2
      exact ⟨e2, w2, tr2, s2, l2, Env.le_trans hle1 hle2, hs2, ha2, hI3, hst1.trans hst2⟩

/-- A region that draws its order. -/
theorem drawOK (hm : P.follows .mixedOrders = true) (hrn : RunOK P B w0 rn) : DrawOK P B w0 rn := by
  intro ops nt T H nx T' H' nx' h e w tmps hS hT t fn k ds kd rof cs
  unfold drawRegion at h
  cases hro : regionOk nt ops.toList with
  | false => rw [hro] at h; cases h
  | true =>
    rw [hro] at h
    simp only [cond_true] at h
    cases hda : drawAll P rn nt ops 0 ops.toList ⟨T, H, nx, [], [(H, nx)], 0⟩ with
    | none => rw [hda] at h; cases h
    | some s =>
      rw [hda] at h
      simp only at h
      cases hq : (chainOk (ancGo [] ops.toList) ((s.recs.reverse.filter (·.chain)).map (·.i)) && floatsOk P (ancGo [] ops.toList) ((s.recs.reverse.filter (·.chain)).map (·.i)) s.Hs.reverse s.recs) with
      | false => rw [hq] at h; cases h
      | true =>
        rw [hq] at h
        simp only [cond_true, Option.some.injEq, Prod.mk.injEq] at h
        obtain ⟨rfl, rfl, rfl⟩ := h
        rw [Bool.and_eq_true] at hq
        simp only [regionOk, Bool.and_eq_true] at hro
        obtain ⟨hd1, hd2⟩ := dstsOk_ok hro.1
        have hops := opsOk_ok hro.2
        have h0 : DSOK P rn ops T 0 ⟨T, H, nx, [], [(H, nx)], 0⟩ :=
          ⟨rfl, rfl, rfl, rfl, fun k r hr => by simp at hr, fun t v hv => .inr ⟨fun k r hk => by omega, hv⟩⟩
        have hD := drawAll_ok (fun j o d hj hd => (hd1 j o d hj hd).1) ops.toList 0 _ s h0 (by simp) hda
        have hR : RegOK P rn nt ops T s.recs.reverse s.Hs.reverse ((s.recs.reverse.filter (·.chain)).map (·.i)) := by
          refine ⟨by simp [hD.len], hD.recs, by rw [hD.cnt]; simp [hD.hs], rfl, hq.1, fun r hr hc hw s1 hlo hhi H1 n1 hQ1 => ?_, fun i o d hi hd => (hd1 i o d hi hd).1, hd2, fun i o hi => ?_, fun i o hi => ?_⟩
          · obtain ⟨kk, hkk⟩ := List.mem_iff_getElem?.1 hr
            exact floatsOk_ok hq.2 r (by simpa using hr) hc hw ((hD.recs kk r hkk).float hw hc) s1 hlo hhi H1 n1 hQ1
          · obtain ⟨anc, _, g2, _⟩ := hops i o hi
            simpa using g2
          · obtain ⟨anc, g1, _, g3⟩ := hops i o hi
            rw [List.getD_eq_getElem?_getD, g1]
            exact g3
        have hinit : PInv B w0 nt ops T s.recs.reverse s.Hs.reverse ((s.recs.reverse.filter (·.chain)).map (·.i)) (Listed (Array.replicate ops.size false)) 0 e w tmps := by
          have hno : ∀ j, ¬ Listed (Array.replicate ops.size false) j := by
            intro j hj
            unfold Listed at hj
            rw [Array.getElem?_replicate] at hj
            split at hj <;> simp at hj
          have hQ0 : s.Hs.reverse[0]? = some (H, nx) := stage0 _ _ _ hda (by simp)
          refine ⟨⟨H, nx, hQ0, hS⟩, hT.1, fun t sv hg => ?_, fun j c hj => ⟨fun hl => absurd hl (hno c), fun hl => by omega⟩, fun i o hi => absurd hi (hno i)⟩
          rcases hg with ⟨k', r', hk', _⟩ | ⟨_, h2⟩
          · exact absurd hk' (hno k')
          · exact hT.2 t sv h2
        have hsched : Region.schedule (P.follows .mixedOrders) ops t = Region.linearise.go .any ops ops.size t (Array.replicate ops.size false) [] := by
          rw [hm]
          rfl
        rw [hsched]
        obtain ⟨e', w', tr', s', listed', hle, _, hall, hI, hst⟩ := pi_steps hrn hR fn k ds kd rof cs ops.size t (Array.replicate ops.size false) 0 e w tmps (by simp) (by unfold unlisted; simp) hinit
        -- all are listed
        have hs' : s' = s.stg := by
          obtain ⟨H1, n1, hQ1, _⟩ := hI.st
          have hle1 : s' ≤ s.stg := by
            have := (List.getElem?_eq_some_iff.1 hQ1).1
            simp [hD.hs] at this
            omega
          rcases Nat.lt_or_ge s' s.stg with hlt | hge
          · exfalso
            have hc : ∃ c, ((s.recs.reverse.filter (·.chain)).map (·.i))[s']? = some c := ⟨_, List.getElem?_eq_getElem (by rw [hD.cnt]; exact hlt)⟩
            obtain ⟨c, hc⟩ := hc
            have hcl : c < ops.size := by
              have hcm := List.mem_of_getElem? hc
              rw [List.mem_map] at hcm
              obtain ⟨r', hr', rfl⟩ := hcm
              rw [List.mem_filter] at hr'
              obtain ⟨k', hk'⟩ := List.mem_iff_getElem?.1 hr'.1
              have hx := hD.recs k' r' hk'
              rw [hx.idx]
              exact (Array.getElem?_eq_some_iff.1 hx.op).1
            have := (hI.chain s' c hc).1 (hall c hcl)
            omega
          · omega
        subst hs'
        obtain ⟨H1, n1, hQ1, hS1⟩ := hI.st
        rw [hD.last] at hQ1
        simp only [Option.some.injEq, Prod.mk.injEq] at hQ1
        obtain ⟨rfl, rfl⟩ := hQ1
        refine ⟨e', w', tr', hle, hS1, ⟨hI.size, fun t sv ht => hI.good t sv ?_⟩, hst⟩
        rcases hD.slots t sv ht with ⟨k', r', h1, h2, h3, h4⟩ | ⟨h1, h2⟩
        · exact .inl ⟨k', r', hall k' h1, h2, h3, h4⟩
        · refine .inr ⟨fun k' r' hr' => ?_, h2⟩
          have hlt := (List.getElem?_eq_some_iff.1 hr').1
          rw [List.length_reverse, hD.len] at hlt
          exact h1 k' r' hlt hr'
where
  stage0 {P : Program} {rn : Rn} {nt : Nat} {ops : Array Oper} {x : Heap × Nat} : ∀ (l : List Oper) {i : Nat} (s s' : DS), drawAll P rn nt ops i l s = some s' → s.Hs.reverse[0]? = some x → s'.Hs.reverse[0]? = some x
    | [], i, s, s', h, h0 => by simp only [drawAll, Option.some.injEq] at h; subst h; exact h0
    | o :: l, i, s, s', h, h0 => by
      simp only [drawAll] at h
      cases ho : drawOne P rn nt ops i o s with
      | none => rw [ho] at h; cases h
      | some s1 =>
        rw [ho] at h
        refine stage0 l s1 s' h ?_
        unfold drawOne at ho
        simp only at ho
        split at ho
        · cases ho
        · simp only [Option.some.injEq] at ho; subst ho; exact h0
        · split at ho
          · simp only [Option.some.injEq] at ho; subst ho; exact h0
          · split at ho
            · simp only [Option.some.injEq] at ho
              subst ho
              simp only [List.reverse_cons]
              exact get_snoc h0
            · cases ho
end

/-- WHAT THE MACHINE FINDS: a function of no arguments returns true in whatever world, and leaves what was there as it was. -/
theorem proves_ok {P : Program} {fuel : Nat} {f : FuncId} (h : proves P fuel f = true) (w : World) : Calls P f #[] w fun e w' => e = .returned (.bool true) ∧ Below w.heap.size w w' := by
  unfold proves at h
  cases hm : P.follows .mixedOrders with
  | false => rw [hm] at h; cases h
  | true =>
    rw [hm] at h
    simp only [cond_true] at h
    split at h
    · rename_i r rs hcall
      have hS : St w.heap.size w (fun _ => none) .nil 0 w := ⟨Below.refl _ _, Nat.le_refl _, fun id vo hv => (by rw [Tr.at_nil] at hv; cases hv), fun id id' vo vo' x x' hv => (by rw [Tr.at_nil] at hv; cases hv), fun _ _ => rfl⟩
      have hrun := (run_ok (P := P) (B := w.heap.size) (w0 := w) (fun rn hrn => drawOK hm hrn) fuel).1
      intro cs
      obtain ⟨r', hr', e', w', v, h1, h2, h3, tmps, todo, g1, fn, g2, g3⟩ := callS_ok hrun hcall hS (vs := #[]) rfl (kd := .normal) (cs := cs) ⟨rfl, .inl rfl⟩
      have htrue : ∀ (l : List Res), isTrue l = true → ∀ x ∈ l, ∃ H n, x = (.sc (.bool true), H, n) := by
        intro l
        induction l with
        | nil => intro _ x hx; cases hx
        | cons a l ih =>
          intro hl x hx
          unfold isTrue at hl
          split at hl
          · rename_i heq; cases heq
          · rename_i H n l' heq
            simp only [List.cons.injEq] at heq
            obtain ⟨rfl, rfl⟩ := heq
            rcases List.mem_cons.1 hx with rfl | hx
            · exact ⟨H, n, rfl⟩
            · exact ih hl x hx
          · cases hl
      obtain ⟨H1, n1, rfl⟩ := htrue _ h r' hr'
      simp only [SV.conc, Option.some.injEq] at h3
      subst h3
      exact ⟨.returned (.bool true), w', _, ⟨rfl, h2.below⟩, g1, rfl, rfl, rfl, rfl, fn, g2, g3⟩
    · cases h
end Go.Ex
