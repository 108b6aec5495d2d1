/-
  Texts of the proof, merged: ExF ExG ExH ExI ExJ ExK ExL ExM ExN ExO ExP ExQ.
-/
import Derived.Deep.AppendSrc
import Derived.Laws.IdiomStrings
import Derived.Calls
import Derived.Orders
import Derived.Test.YtfkfiafohcoomaaK4
set_option linter.unusedVariables false
set_option linter.unusedSimpArgs false
section
namespace Go.Ex
open Go Go.Sl Go.RowKit
section
variable {P : Program} {B : Nat} {w0 w : World} {e : Env} {H : Heap} {nx : Nat} {T : Tr SV} {ev : Operand → Value}
def ORun (P : Program) (e : Env) (a : ANx) (res : Result Next) (w : World) : Prop :=
  match a with
  | .val s => ∃ v, s.conc e = some v ∧ res = .ok (.value v) w
  | .skip => res = .ok .skip w
  | .enter f args => ∃ vs : Array Value, SV.concL e args = some vs.toList ∧ res = .ok (.enter f vs) w
  | .round l args => ∃ x vs, e l = some x ∧ SV.concL e args = some vs ∧ res = (Instr.yield x.blk vs.toArray).run P w
  | .dfr d => ∃ dd, DRel e d dd ∧ res = .ok (.defer dd) w
  | .recover => res = .ok .recover w
def Does (P : Program) (B : Nat) (w0 : World) (e : Env) (out : Out) (res : Result Next) : Prop :=
  ∃ e' w', e.le e' ∧ St B w0 e' out.2.1 out.2.2 w' ∧ ORun P e' out.1 res w'
theorem alloc_does {vo : VO} {s : SV} {v : Value} {o : Obj} {x : Ent} {res : Result Next} (hS : St B w0 e H nx w) (hb : x.blk = w.heap.size) {w' : World} (hos : w'.os = w.os) (htape : w'.tape = w.tape) (hout : w'.output = w.output) (hheap : w'.heap = w.heap.push o)
    (hr : ORel (e.put nx x) vo x o) (hv : s.conc (e.put nx x) = some v) (hres : res = .ok (.value v) w') : Does P B w0 e (.val s, H.set nx vo, nx + 1) res :=
  ⟨e.put nx x, w', Env.le_put (hS.fresh nx (Nat.le_refl _)), hS.new hb hos htape hout hheap hr, v, hv, hres⟩
theorem noFz0 (n : Nat) : NoFz (0, 0) n := fun i _ => by simp
theorem newCells_rel {e' : Env} {t : TypeId} {l : List SV} {vs : List Value} {x : Ent} (h : SV.concL e' l = some vs) (h0 : x.base = 0) : ORel e' (newCells t l) x (.cells vs.toArray t) := by
  refine ⟨h0, vs.toArray, (0, 0), rfl, by simp [concL_length h], noFz0 _, fun i hi s hs => ?_⟩
  rcases fillTr_at l .nil 0 i s hs with ⟨_, h2, _⟩ | ⟨_, h2⟩
  · obtain ⟨v, hv, hg⟩ := concL_get h h2
    exact ⟨v, hv, by simpa using hg⟩
  · rw [Tr.at_nil] at h2; cases h2
theorem new_does {t : TypeId} {l : List SV} {vs : List Value} {s : SV} {v : Value} {res : Result Next} (hS : St B w0 e H nx w) (hl : SV.concL e l = some vs)
    (hv : s.conc (e.put nx ⟨w.heap.size, 0, 0⟩) = some v) (hres : res = .ok (.value v) { w with heap := w.heap.push (.cells vs.toArray t) }) : Does P B w0 e (.val s, H.set nx (newCells t l), nx + 1) res :=
  alloc_does (o := .cells vs.toArray t) (x := ⟨w.heap.size, 0, 0⟩) (w' := { w with heap := w.heap.push (.cells vs.toArray t) }) hS rfl rfl rfl rfl rfl (newCells_rel (SV.concL_mono (Env.le_put (hS.fresh nx (Nat.le_refl _))) _ _ hl) rfl) hv hres
theorem setCell_rel {vo vo' : VO} {x : Ent} {o : Obj} {i : Nat} {s : SV} {v : Value} (h : ORel e vo x o) (hc : vo.setCell i s = some vo') (hs : s.conc e = some v) (hw : w.heap[x.blk]? = some o) :
    ∃ o', (w.setCell ⟨x.blk, x.base + i, none⟩ v).heap[x.blk]? = some o' ∧ ORel e vo' x o' ∧ (∃ u, w.cell? ⟨x.blk, x.base + i, none⟩ = some u) ∧ w.frozen? ⟨x.blk, x.base + i, none⟩ = false ∧ v.oneCell' = true := by
  have blk : ∀ (cs : Array Value) (t : TypeId) (fz : Nat × Nat), o = .cells cs t fz → (w.setCell ⟨x.blk, x.base + i, none⟩ v).heap[x.blk]? = some (.cells (cs.setIfInBounds (x.base + i) v) t fz) := by
    intro cs t fz ho
    subst ho
    simp [World.setCell, Array.getElem?_modify, hw]
  cases vo with
  | cells n t c =>
    obtain ⟨h0, cs, fz, rfl, h2, h3, h4⟩ := h
    simp only [VO.setCell] at hc
    cases hb : (Nat.blt i n && s.one) with
    | false => rw [hb] at hc; cases hc
    | true =>
      rw [hb] at hc
      simp only [cond_true, Option.some.injEq] at hc
      subst hc
      rw [Bool.and_eq_true] at hb
      have hi := lt_of_blt hb.1
      refine ⟨_, blk _ _ _ rfl, ⟨h0, _, fz, rfl, by simpa using h2, h3, fun j hj s' hs' => ?_⟩, ⟨cs[i]'(by omega), ?_⟩, ?_, one_conc hs hb.2⟩
      · rcases Tr.at_set hs' with ⟨rfl, rfl⟩ | ⟨hne, hs'⟩
        · refine ⟨v, hs, ?_⟩
          rw [h0, Nat.zero_add, Array.getElem?_setIfInBounds_self_of_lt (by omega)]
        · obtain ⟨u, hu, hg⟩ := h4 j hj s' hs'
          exact ⟨u, hu, by rw [h0, Nat.zero_add, Array.getElem?_setIfInBounds_ne (Ne.symm hne)]; exact hg⟩
      · simp only [World.cell?, hw, h0, Nat.zero_add]; simp
      · simp only [World.frozen?, hw, h0, Nat.zero_add]; exact h3 i hi
  | row ne sz t c =>
    obtain ⟨cs, fz, rfl, h2, h3, h4, h5, h6, h7⟩ := h
    simp only [VO.setCell] at hc
    cases hb : (Nat.blt i (ne * sz) && s.one) with
    | false => rw [hb] at hc; cases hc
    | true =>
      rw [hb] at hc
      simp only [cond_true, Option.some.injEq] at hc
      subst hc
      rw [Bool.and_eq_true] at hb
      have hi := lt_of_blt hb.1
      have hle : ne * sz ≤ x.cap * sz := Nat.mul_le_mul_right _ h2
      have hlt : x.base + i < cs.size := by omega
      refine ⟨_, blk _ _ _ rfl, ⟨_, fz, rfl, h2, by simpa using h3, h4, by simpa using h5, h6, fun j hj s' hs' => ?_⟩, ⟨cs[x.base + i]'hlt, ?_⟩, ?_, one_conc hs hb.2⟩
      · rcases Tr.at_set hs' with ⟨rfl, rfl⟩ | ⟨hne, hs'⟩
        · exact ⟨v, hs, by simp [hlt]⟩
        · obtain ⟨u, hu, hg⟩ := h7 j hj s' hs'
          exact ⟨u, hu, by rw [Array.getElem?_setIfInBounds_ne (by omega)]; exact hg⟩
      · simp only [World.cell?, hw]; simp [hlt]
      · simp only [World.frozen?, hw]; exact h5 _ hlt
  | _ => simp [VO.setCell] at hc
theorem run_store_one {a : Addr} {v u : Value} (hc : w.cell? a = some u) (hf : w.frozen? a = false) (h1 : v.oneCell' = true) : (store a v).run P w = .ok () (w.setCell a v) := by
  rw [run_store P w a v .plain h1, hc]
  simp [hf]
theorem storeCells_rel {x : Ent} : ∀ (l : List SV) (vs : List Value) (vo vo' : VO) (off i : Nat) (w : World) (o : Obj), vo.setCells (off + i) l = some vo' → SV.concL e l = some vs → ORel e vo x o → w.heap[x.blk]? = some o →
    ∃ w' o', (storeCells ⟨x.blk, x.base + off, none⟩ vs i).run P w = .ok () w' ∧ Turned w w' x.blk ∧ w'.heap[x.blk]? = some o' ∧ ORel e vo' x o'
  | [], vs, vo, vo', off, i, w, o, h, hc, ho, hw => by
    simp only [SV.concL, Option.some.injEq] at hc
    subst hc
    simp only [VO.setCells, Option.some.injEq] at h
    subst h
    exact ⟨w, o, rfl, Turned.refl _ _, hw, ho⟩
  | s :: l, vs, vo, vo', off, i, w, o, h, hc, ho, hw => by
    obtain ⟨v, us, rfl, hv, hl⟩ := concL_cons hc
    simp only [VO.setCells] at h
    cases h1 : vo.setCell (off + i) s with
    | none => rw [h1] at h; cases h
    | some vo1 =>
      rw [h1] at h
      simp only at h
      obtain ⟨o1, g1, g2, ⟨u, g3⟩, g4, g5⟩ := setCell_rel ho h1 hv hw
      obtain ⟨w', o', k1, k2, k3, k4⟩ := storeCells_rel l us vo1 vo' off (i + 1) _ o1 h hl g2 g1
      refine ⟨w', o', ?_, (Turned.setCell w _ v).trans k2, k3, k4⟩
      have ha : (⟨x.blk, x.base + off, none⟩ : Addr).add i = ⟨x.blk, x.base + (off + i), none⟩ := by rw [addr_add]; simp [Nat.add_assoc]
      simp only [storeCells, Sem.run_bind, ha, run_store_one g3 g4 g5, Result.andThen]
      exact k1
theorem storeS_ok {b o : Nat} {l : List SV} {vs : List Value} {H' : Heap} {x : Ent} (hS : St B w0 e H nx w) (h : storeS H b o l = some H') (hx : e b = some x) (hl : SV.concL e l = some vs) :
    ∃ w', (storeCells ⟨x.blk, x.base + o, none⟩ vs).run P w = .ok () w' ∧ St B w0 e H' nx w' := by
  unfold storeS at h
  cases hb : H.at' b with
  | none => rw [hb] at h; cases h
  | some vo =>
    rw [hb] at h
    simp only at h
    cases hc : vo.setCells o l with
    | none => rw [hc] at h; cases h
    | some vo' =>
      rw [hc] at h
      simp only [Option.some.injEq] at h
      subst h
      obtain ⟨ob, _, hw, ho⟩ := hS.at hb hx
      obtain ⟨w', o', k1, k2, k3, k4⟩ := storeCells_rel (P := P) l vs vo vo' o 0 w ob hc hl ho hw
      exact ⟨w', k1, hS.upd hb hx k2 k3 k4⟩
theorem storeCells_raw {k : Nat} {t : TypeId} {fz : Nat × Nat} : ∀ (vs : List Value) (off i : Nat) (cs : Array Value) (w : World), w.heap[k]? = some (.cells cs t fz) → off + i + vs.length ≤ cs.size → NoFz fz cs.size → (∀ u ∈ vs, u.oneCell' = true) →
    ∃ w' cs', (storeCells ⟨k, off, none⟩ vs i).run P w = .ok () w' ∧ Turned w w' k ∧ w'.heap[k]? = some (.cells cs' t fz) ∧ cs'.size = cs.size ∧
      (∀ j, j < off + i → cs'[j]? = cs[j]?) ∧ ∀ j u, vs[j]? = some u → cs'[off + i + j]? = some u
  | [], off, i, cs, w, hw, _, _, _ => ⟨w, cs, rfl, Turned.refl _ _, hw, rfl, fun _ _ => rfl, by simp⟩
  | v :: vs, off, i, cs, w, hw, hl, hf, h1 => by
    simp only [List.length_cons] at hl
    have hlt : off + i < cs.size := by omega
    have hw1 : (w.setCell ⟨k, off + i, none⟩ v).heap[k]? = some (.cells (cs.setIfInBounds (off + i) v) t fz) := by simp [World.setCell, Array.getElem?_modify, hw]
    obtain ⟨w', cs', k1, k2, k3, k4, k5, k6⟩ := storeCells_raw vs off (i + 1) (cs.setIfInBounds (off + i) v) _ hw1 (by simp; omega) (by simpa using hf) (fun u hu => h1 u (List.mem_cons_of_mem _ hu))
    refine ⟨w', cs', ?_, (Turned.setCell w _ v).trans k2, k3, by simpa using k4, fun j hj => ?_, fun j u hu => ?_⟩
    · have hc : w.cell? ⟨k, off + i, none⟩ = some cs[off + i] := by simp only [World.cell?, hw]; simp [hlt]
      have hfz : w.frozen? ⟨k, off + i, none⟩ = false := by simp only [World.frozen?, hw]; exact hf _ hlt
      simp only [storeCells, Sem.run_bind, addr_add, run_store_one hc hfz (h1 v (List.mem_cons_self ..)), Result.andThen]
      exact k1
    · rw [k5 j (by omega), Array.getElem?_setIfInBounds_ne (by omega)]
    · cases j with
      | zero =>
        simp only [List.getElem?_cons_zero, Option.some.injEq] at hu
        subst hu
        rw [Nat.add_zero, k5 (off + i) (by omega)]
        simp [hlt]
      | succ j =>
        have := k6 j u (by simpa using hu)
        rw [show off + i + (j + 1) = off + (i + 1) + j by omega]
        exact this
theorem allOne_ok : ∀ {l : List SV} {vs : List Value}, allOne l = true → SV.concL e l = some vs → ∀ u ∈ vs, u.oneCell' = true
  | [], vs, _, hc, u, hu => by simp only [SV.concL, Option.some.injEq] at hc; subst hc; cases hu
  | s :: l, vs, h, hc, u, hu => by
    obtain ⟨v, ws, rfl, hv, hl⟩ := concL_cons hc
    simp only [allOne, Bool.and_eq_true] at h
    rcases List.mem_cons.1 hu with rfl | hu
    · exact one_conc hv h.1
    · exact allOne_ok h.2 hl u hu
theorem bytesOk_ok {t : TypeId} {n : Nat} (h : bytesOk P t n = true) : ∃ i, P.info? t = some i ∧ n * i.bytes ≤ 140737488355328 ∧ n ≤ 1000000000 := by
  unfold bytesOk at h
  cases hi : P.info? t with
  | none => rw [hi] at h; cases h
  | some i =>
    rw [hi] at h
    rw [Bool.and_eq_true] at h
    exact ⟨i, rfl, le_of_ble h.1, le_of_ble h.2⟩
theorem St.drew' (hS : St B w0 e H nx w) : St B w0 e H nx w.drew := ⟨⟨hS.below.os, hS.below.tape, hS.below.output, hS.below.size, hS.below.block⟩, hS.size, hS.rel, hS.inj, hS.fresh⟩
theorem src_of {sz m : Nat} {tx : TypeId} {x : SV} {v : Value} {news : List SV} {vs : List Value} (hk : (∃ e', P.underlying tx = some (.slice e')) ∨ P.underlying tx = some .string) (hS : St B w0 e H nx w)
    (h : sliceCells H sz x = some (m, news)) (hv : x.conc e = some v) (h1 : allOne news = true) (hvs : SV.concL e news = some vs) : Src P sz tx v m vs w := by
  obtain ⟨us, g1, g2, g3, g4⟩ := sliceCells_ok (P := P) hS h hv
  rw [hvs] at g1
  simp only [Option.some.injEq] at g1
  subst g1
  obtain ⟨us', q1, _, _, q4⟩ := sliceCells_ok (P := P) hS.drew' h hv
  rw [hvs] at q1
  simp only [Option.some.injEq] at q1
  subst q1
  have ht : vs.take (m * sz) = vs := List.take_of_length_le (by omega)
  have g5 := g4 m (Nat.le_refl _)
  have q5 := q4 m (Nat.le_refl _)
  rw [ht] at g5 q5
  refine ⟨hk, fun w' => ?_, g5, q5, g2, allOne_ok h1 hvs⟩
  cases v <;> simp_all [Builtin.lenOf]
theorem row_new {el : TypeId} {sz m cap : Nat} {l : List SV} {vs : List Value} {e' : Env} {zs : Array Value} (hl : SV.concL e' l = some vs) (hlen : vs.length = m * sz) (hcap : m ≤ cap) (hmax : cap ≤ maxLen) (hz : zs.size = (cap - m) * sz) (hsz : 0 < sz) (k : Nat) :
    ORel e' (.row m sz el (fillTr .nil 0 l)) ⟨k, 0, cap⟩ (.cells (vs.toArray ++ zs) el) := by
  have hmul : cap * sz = m * sz + (cap - m) * sz := by rw [← Nat.add_mul]; congr 1; omega
  refine ⟨vs.toArray ++ zs, (0, 0), rfl, hcap, by simp [hlen, hz]; omega, hmax, noFz0 _, hsz, fun i hi s hs => ?_⟩
  rcases fillTr_at l .nil 0 i s hs with ⟨_, h2, _⟩ | ⟨_, h2⟩
  · obtain ⟨v, hv, hg⟩ := concL_get hl h2
    refine ⟨v, hv, ?_⟩
    have hil : i < vs.toArray.size := by simp; omega
    simp only [Nat.zero_add]
    rw [Array.getElem?_append_left hil]
    simpa using hg
  · rw [Tr.at_nil] at h2; cases h2
def vo_cells (H : Heap) (b o n : Nat) (l : List SV) : Prop := ∃ vo, H.at' b = some vo ∧ vo.cellsFrom o n = some l
theorem appendS_ok {t tx ty el : TypeId} {s x : SV} {vs vx : Value} {out : Out} (ht : P.underlying t = some (.slice el)) (hk : (∃ e', P.underlying tx = some (.slice e')) ∨ P.underlying tx = some .string) (hS : St B w0 e H nx w)
    (h : appendS P H nx el s x = some out) (hs : s.conc e = some vs) (hx : x.conc e = some vx) :
    ∃ e' w' r v, out.1 = .val r ∧ e.le e' ∧ St B w0 e' out.2.1 out.2.2 w' ∧ r.conc e' = some v ∧ (Builtin.append_ #[t, tx] ty #[vs, vx]).run P w = .ok v w' := by
  unfold appendS at h
  split at h
  · cases h
  · cases h
  rename_i sz hsz0 hsz
  have hpos : 0 < sz := by
    rcases Nat.eq_zero_or_pos sz with h0 | h0
    · subst h0; exact absurd rfl hsz0
    · exact h0
  cases hc : sliceCells H sz x with
  | none => rw [hc] at h; cases h
  | some q =>
    obtain ⟨m, news⟩ := q
    rw [hc] at h
    simp only at h
    cases hone : allOne news with
    | false => rw [hone] at h; cases h
    | true =>
      rw [hone] at h
      simp only [Bool.not_true, cond_false] at h
      obtain ⟨us, hus, hul, _, _⟩ := sliceCells_ok (P := P) hS hc hx
      have hsrc := src_of (P := P) hk hS hc hx hone hus
      obtain ⟨i, hi, hisz⟩ : ∃ i, P.info? el = some i ∧ i.size = sz := by
        unfold sizeT at hsz
        cases hi : P.info? el with
        | none => rw [hi] at hsz; cases hsz
        | some i => rw [hi] at hsz; simp only [Option.map_some, Option.some.injEq] at hsz; exact ⟨i, rfl, hsz⟩
      have hzero : zeroIs P el sz = true → ∃ z, i.zero = some z ∧ z.cells.size = sz := by
        intro hz
        unfold zeroIs zeroT at hz
        rw [hi] at hz
        simp only [Option.bind_some] at hz
        cases hzz : i.zero with
        | none => rw [hzz] at hz; cases hz
        | some z => rw [hzz] at hz; exact ⟨z, rfl, eq_of_beq hz⟩
      -- a new row
      have grow : ∀ (n cap : Nat) (base : Option Addr) (olds : List SV) (ws : List Value) (H0 : Heap), vs = .slice base n cap → cap < n + m → bytesOk P el (n + m) = true → zeroIs P el sz = true → SV.concL e olds = some ws → ws.length = n * sz →
          (Builtin.firstCells sz n vs).run P w.drew = .ok ws.toArray w.drew → (∀ id vo, H0.at' id = some vo → H.at' id = some vo) → out = (.val (.slu nx 0 0 (n + m)), H0.set nx (.row (n + m) sz el (fillTr .nil 0 (olds ++ news))), nx + 1) →
          ∃ e' w' r v, out.1 = .val r ∧ e.le e' ∧ St B w0 e' out.2.1 out.2.2 w' ∧ r.conc e' = some v ∧ (Builtin.append_ #[t, tx] ty #[vs, vx]).run P w = .ok v w' := by
        intro n cap base olds ws H0 hvs hlt hby hze hol hwl hfc hsub hout
        subst hvs hout
        obtain ⟨i', hi', hb1, hb2⟩ := bytesOk_ok hby
        rw [hi] at hi'
        simp only [Option.some.injEq] at hi'
        subst hi'
        obtain ⟨z, hz, hzs⟩ := hzero hze
        have hmx : n + m ≤ maxLen := by unfold maxLen; omega
        have hrun := run_append_grow_src w t tx ty el i z ht hi hz base n cap ws (by rw [hisz]; exact hfc) vx m us (by rw [hisz]; exact hsrc) hlt (by omega) (growslice_fits hlt hb1)
        have hge := grownCap_ge w (n + m) cap el
        have hle := grownCap_le_maxLen w (n + m) cap el hmx
        generalize grownCap w (n + m) cap el = gc at hrun hge hle
        have hf := hS.fresh nx (Nat.le_refl _)
        have hle' := Env.le_put (x := ⟨w.heap.size, 0, gc⟩) hf
        refine ⟨e.put nx ⟨w.heap.size, 0, gc⟩, _, .slu nx 0 0 (n + m), .slice (some ⟨w.heap.size, 0, none⟩) (n + m) gc, rfl, hle', ?_, ?_, hrun⟩
        · refine ((hS.drew').sub hsub).new (x := ⟨w.heap.size, 0, gc⟩) (o := .cells ((ws ++ us).toArray ++ Builtin.zeroCells z.cells (gc - (n + m))) el) rfl rfl rfl rfl rfl ?_
          refine row_new (SV.concL_mono hle' _ _ (concL_append hol hus)) ?_ hge hle ?_ hpos _
          · rw [List.length_append, hwl, hul, Nat.add_mul]
          · rw [size_zeroCells, hzs]
        · simp [SV.conc, Env.put_same]
      have oldCells : ∀ (n : Nat) (olds : List SV), sliceCells H sz s = some (n, olds) → (∃ base c, vs = .slice base n c) → ∃ ws, SV.concL e olds = some ws ∧ ws.length = n * sz ∧ (Builtin.firstCells sz n vs).run P w.drew = .ok ws.toArray w.drew := by
        intro n olds hco hsl
        obtain ⟨ws, g1, g2, _, g4⟩ := sliceCells_ok (P := P) hS.drew' hco hs
        have := g4 n (Nat.le_refl _)
        rw [List.take_of_length_le (by omega)] at this
        exact ⟨ws, g1, g2, this⟩
      cases s with
      | sc c =>
        simp only [SV.conc, Option.some.injEq] at hs
        subst hs
        split at h
        · rename_i heq
          simp only [SV.sc.injEq] at heq
          subst heq
          cases hm : Nat.beq m 0 with
          | true =>
            rw [hm] at h
            simp only [cond_true, Option.some.injEq] at h
            subst h
            have hm0 := eq_of_beq hm
            subst hm0
            refine ⟨e, w, _, _, rfl, Env.le_refl e, hS, rfl, ?_⟩
            rcases hk with ⟨e', hk⟩ | hk <;> simp [Builtin.append_, run_underlying ht, run_underlying hk, sizeOf, typeInfo, hi, hsrc.len, hisz, hsrc.cells]
          | false =>
            rw [hm] at h
            simp only [cond_false] at h
            cases hby : (bytesOk P el m && zeroIs P el sz) with
            | false => rw [hby] at h; cases h
            | true =>
              rw [hby] at h
              simp only [cond_true, Option.some.injEq] at h
              rw [Bool.and_eq_true] at hby
              have hm0 : m ≠ 0 := by rintro rfl; cases hm
              refine grow 0 0 none [] [] H rfl (by omega) (by simpa using hby.1) hby.2 rfl (by simp) (by simp [Builtin.firstCells]) (fun _ _ h => h) ?_
              rw [← h]
              simp
        · rename_i heq; cases heq
        · rename_i heq; cases heq
        · cases h
      | sl b o n cap =>
        obtain ⟨y, hy, hvs⟩ := conc_sl hs
        simp only at h
        cases hfit : Nat.ble (n + m) cap with
        | true =>
          rw [hfit] at h
          simp only [cond_true] at h
          have hroom := le_of_ble hfit
          have hst : ∃ H', storeS H b (o + n * sz) news = some H' ∧ out = (.val (.sl b o (n + m) cap), H', nx) := by
            unfold storeS
            cases hb : H.at' b with
            | none => rw [hb] at h; cases h
            | some vo =>
              rw [hb] at h
              simp only at h ⊢
              cases hc2 : vo.setCells (o + n * sz) news with
              | none => rw [hc2] at h; cases h
              | some vo' => rw [hc2] at h; simp only [Option.some.injEq] at h; exact ⟨_, rfl, h.symm⟩
          obtain ⟨H', hst, rfl⟩ := hst
          obtain ⟨w', k1, k2⟩ := storeS_ok (P := P) hS hst hy hus
          refine ⟨e, w', .sl b o (n + m) cap, .slice (some ⟨y.blk, y.base + o, none⟩) (n + m) cap, rfl, Env.le_refl e, k2, by simp [SV.conc, hy], ?_⟩
          subst hvs
          have k1' : (storeCells ⟨y.blk, y.base + o + n * sz, none⟩ us).run P w = .ok () w' := by rw [Nat.add_assoc]; exact k1
          rcases hk with ⟨e', hk⟩ | hk <;> simp [Builtin.append_, run_underlying ht, run_underlying hk, sizeOf, typeInfo, hi, hsrc.len, hisz, hsrc.cells, hroom, addr_add, k1']
        | false =>
          rw [hfit] at h
          simp only [cond_false] at h
          have hlt : cap < n + m := by
            rcases Nat.lt_or_ge cap (n + m) with h' | h'
            · exact h'
            · have := Nat.ble_eq_true_of_le h'; rw [this] at hfit; cases hfit
          cases hby : (bytesOk P el (n + m) && zeroIs P el sz) with
          | false => rw [hby] at h; cases h
          | true =>
            rw [hby] at h
            simp only [cond_true] at h
            rw [Bool.and_eq_true] at hby
            cases hco : sliceCells H sz (.sl b o n cap) with
            | none => rw [hco] at h; cases h
            | some q =>
              obtain ⟨n', olds⟩ := q
              rw [hco] at h
              simp only [Option.some.injEq] at h
              have hnn : n' = n := by
                simp only [sliceCells] at hco
                cases hb : H.at' b with
                | none => rw [hb] at hco; cases hco
                | some vo => rw [hb] at hco; simp only [Option.map_eq_some_iff, Prod.mk.injEq] at hco; obtain ⟨_, _, h1, _⟩ := hco; exact h1.symm
              subst hnn
              obtain ⟨ws, g1, g2, g3⟩ := oldCells n' olds hco ⟨_, _, hvs⟩
              exact grow n' cap _ olds ws H hvs hlt hby.1 hby.2 g1 g2 g3 (fun _ _ h => h) h.symm
      | slu b o eo n =>
        obtain ⟨y, hy, hvs⟩ := conc_slu hs
        simp only at h
        cases hb : H.at' b with
        | none => rw [hb] at h; cases h
        | some vo =>
          rw [hb] at h
          cases vo with
          | row ne sz' t' c =>
            simp only at h
            cases hm : Nat.beq m 0 with
            | true =>
              rw [hm] at h
              simp only [cond_true] at h
              cases hq : Nat.ble (eo + n) ne with
              | false => rw [hq] at h; cases h
              | true =>
                rw [hq] at h
                simp only [cond_true, Option.some.injEq] at h
                subst h
                have hm0 := eq_of_beq hm
                subst hm0
                obtain ⟨ob, _, hw, ho⟩ := hS.at hb hy
                obtain ⟨cs, fz, rfl, hne, hcap, hmax, hfz, hp', hrd⟩ := ho
                have hq' := le_of_ble hq
                have hroom : n ≤ y.cap - eo := by omega
                refine ⟨e, w, _, _, rfl, Env.le_refl e, hS, hs, ?_⟩
                have h0 : us = [] := by cases us with | nil => rfl | cons _ _ => simp at hul
                subst h0
                rw [hvs]
                rcases hk with ⟨e', hk⟩ | hk <;> simp [Builtin.append_, run_underlying ht, run_underlying hk, sizeOf, typeInfo, hi, hsrc.len, hisz, hsrc.cells, hroom, storeCells]
            | false =>
              rw [hm] at h
              simp only [cond_false] at h
              cases hq : (Nat.beq sz sz' && Nat.beq t' el && Nat.beq o (eo * sz) && Nat.beq (eo + n) ne && bytesOk P el (n + m) && zeroIs P el sz) with
              | false => rw [hq] at h; cases h
              | true =>
                rw [hq] at h
                simp only [cond_true] at h
                simp only [Bool.and_eq_true] at hq
                obtain ⟨⟨⟨⟨⟨q1, q2⟩, q3⟩, q4⟩, q5⟩, q6⟩ := hq
                have q1 := eq_of_beq q1
                have q2 := eq_of_beq q2
                have q3 := eq_of_beq q3
                have q4 := eq_of_beq q4
                subst q1 q2 q3 q4
                cases hco : sliceCells H sz (.slu b (eo * sz) eo n) with
                | none => rw [hco] at h; cases h
                | some q =>
                  obtain ⟨n', olds⟩ := q
                  rw [hco] at h
                  simp only [Option.some.injEq] at h
                  have hcf : n' = n ∧ vo_cells H b (eo * sz) (n * sz) olds := by
                    simp only [sliceCells, hb] at hco
                    simp only [Option.map_eq_some_iff, Prod.mk.injEq] at hco
                    obtain ⟨l', h1, h2, h3⟩ := hco
                    subst h3
                    exact ⟨h2.symm, _, hb, h1⟩
                  obtain ⟨hnn, vo2, hb2, hcf⟩ := hcf
                  subst hnn
                  obtain ⟨ob, hBle, hw, ho⟩ := hS.at hb hy
                  rw [hb] at hb2
                  simp only [Option.some.injEq] at hb2
                  subst hb2
                  obtain ⟨ws, g1, g2, g3⟩ := ho.cellsFrom hw _ _ _ hcf
                  obtain ⟨cs, fz, rfl, hne, hcap, hmax, hfz, hp', hrd⟩ := ho
                  by_cases hfit : n' + m ≤ y.cap - eo
                  · have hmul : y.cap * sz = eo * sz + (n' * sz + m * sz) + (y.cap - eo - (n' + m)) * sz := by
                      rw [← Nat.add_mul, ← Nat.add_mul, ← Nat.add_mul]; congr 1; omega
                    obtain ⟨w', cs', k1, k2, k3, k4, k5, k6⟩ := storeCells_raw (P := P) us (y.base + eo * sz + n' * sz) 0 cs w hw (by omega) hfz hsrc.one
                    have hf := hS.fresh nx (Nat.le_refl _)
                    have hle' := Env.le_put (x := ⟨y.blk, y.base + eo * sz, y.cap - eo⟩) hf
                    subst h
                    refine ⟨e.put nx ⟨y.blk, y.base + eo * sz, y.cap - eo⟩, w', .slu nx 0 0 (n' + m), .slice (some ⟨y.blk, y.base + eo * sz, none⟩) (n' + m) (y.cap - eo), rfl, hle', ?_, by simp [SV.conc, Env.put_same], ?_⟩
                    · refine hS.move (y := ⟨y.blk, y.base + eo * sz, y.cap - eo⟩) hb hy rfl k2 k3 ?_
                      have hmul2 : y.cap * sz = eo * sz + (y.cap - eo) * sz := by rw [← Nat.add_mul]; congr 1; omega
                      refine ⟨cs', fz, rfl, hfit, by rw [k4]; simp only; omega, by simp only; omega, by rw [k4]; exact hfz, hpos, fun i hi' s' hs' => ?_⟩
                      rcases fillTr_at _ .nil 0 i s' hs' with ⟨_, h2, _⟩ | ⟨_, h2⟩
                      · obtain ⟨v, hv, hg⟩ := concL_get (SV.concL_mono hle' _ _ (concL_append g1 hus)) h2
                        refine ⟨v, hv, ?_⟩
                        simp only [Nat.sub_zero] at hg
                        by_cases hin : i < n' * sz
                        · rw [List.getElem?_append_left (by omega)] at hg
                          have := g3 i v hg
                          simp only [World.cell?, hw] at this
                          rw [k5 _ (by simp only; omega)]
                          simpa using this
                        · rw [List.getElem?_append_right (by omega)] at hg
                          have := k6 (i - n' * sz) v (by rw [← g2]; exact hg)
                          rw [show y.base + eo * sz + n' * sz + 0 + (i - n' * sz) = y.base + eo * sz + i by omega] at this
                          exact this
                      · rw [Tr.at_nil] at h2; cases h2
                    · rw [hvs]
                      rcases hk with ⟨e', hk⟩ | hk <;> simp [Builtin.append_, run_underlying ht, run_underlying hk, sizeOf, typeInfo, hi, hsrc.len, hisz, hsrc.cells, hfit, addr_add, k1]
                  · have hfc : (Builtin.firstCells sz n' vs).run P w.drew = .ok ws.toArray w.drew := by
                      obtain ⟨ws', a1, a2, a3⟩ := oldCells n' olds hco ⟨_, _, hvs⟩
                      rw [g1] at a1
                      simp only [Option.some.injEq] at a1
                      subst a1
                      exact a3
                    exact grow n' (y.cap - eo) _ olds ws (H.del b) hvs (by omega) q5 q6 g1 g2 hfc (fun id vo hd => (Tr.at_del hd).2) h.symm
          | _ => cases h
      | _ => cases h
end
end Go.Ex
end
section
namespace Go.Ex
open Go Go.Sl Go.RowKit
section
variable {P : Program} {B : Nat} {w0 w : World} {e : Env} {H : Heap} {nx : Nat} {T : Tr SV} {ev : Operand → Value}
def DoesV (P : Program) (B : Nat) (w0 : World) (e : Env) (out : Out) (s : Sem Value) (w : World) : Prop :=
  ∃ e' w' r v, out.1 = .val r ∧ e.le e' ∧ St B w0 e' out.2.1 out.2.2 w' ∧ r.conc e' = some v ∧ s.run P w = .ok v w'
def DoesU (P : Program) (B : Nat) (w0 : World) (e : Env) (out : Out) (s : Sem Unit) (w : World) : Prop :=
  ∃ e' w', out.1 = .skip ∧ e.le e' ∧ St B w0 e' out.2.1 out.2.2 w' ∧ s.run P w = .ok () w'
theorem turned_setObj (k : Nat) (o : Obj) : Turned w { w with heap := w.heap.setIfInBounds k o } k :=
  ⟨rfl, rfl, rfl, by simp, fun j _ hj => by simp [Array.getElem?_setIfInBounds_ne (Ne.symm hj)]⟩
theorem set_heap_same {k : Nat} {o o' : Obj} (h : w.heap[k]? = some o) : (w.heap.setIfInBounds k o')[k]? = some o' := by
  have := lt_of_heap h
  simp [this]
theorem MRel.append : ∀ {l : List (Value × SV × Nat)} {ms : List MapEntry}, MRel e l ms → ∀ {k : Value} {s : SV} {b : Nat} {v : Value}, s.conc e = some v → MRel e (l ++ [(k, s, b)]) (ms ++ [{ key := k, val := v, born := b }])
  | [], [], _, k, s, b, v, hs => ⟨rfl, rfl, hs, trivial⟩
  | (_, _, _) :: l, m :: ms, h, k, s, b, v, hs => ⟨h.1, h.2.1, h.2.2.1, MRel.append h.2.2.2 hs⟩
  | [], _ :: _, h, _, _, _, _, _ => h.elim
  | (_, _, _) :: _, [], h, _, _, _, _, _ => by simp [MRel] at h
theorem MRel.set : ∀ {l : List (Value × SV × Nat)} {ms : List MapEntry}, MRel e l ms → ∀ (i : Nat) {k k' : Value} {s s' : SV} {b : Nat} {v : Value}, l[i]? = some (k', s', b) → s.conc e = some v → MRel e (l.set i (k, s, b)) (ms.modify i fun m => { m with key := k, val := v })
  | [], [], _, i, k, k', s, s', b, v, hg, hs => by simp at hg
  | (_, _, _) :: l, m :: ms, h, 0, k, k', s, s', b, v, hg, hs => by
    simp only [List.getElem?_cons_zero, Option.some.injEq, Prod.mk.injEq] at hg
    obtain ⟨rfl, rfl, rfl⟩ := hg
    exact ⟨rfl, h.2.1, hs, h.2.2.2⟩
  | (_, _, _) :: l, m :: ms, h, i + 1, k, k', s, s', b, v, hg, hs => ⟨h.1, h.2.1, h.2.2.1, MRel.set h.2.2.2 i (by simpa using hg) hs⟩
  | [], _ :: _, h, _, _, _, _, _, _, _, _, _ => h.elim
  | (_, _, _) :: _, [], h, _, _, _, _, _, _, _, _, _ => by simp [MRel] at h
theorem MRel.erase : ∀ {l : List (Value × SV × Nat)} {ms : List MapEntry}, MRel e l ms → ∀ (i : Nat), MRel e (l.eraseIdx i) (ms.eraseIdx i)
  | [], [], _, i => by simp [MRel]
  | (_, _, _) :: l, m :: ms, h, 0 => h.2.2.2
  | (_, _, _) :: l, m :: ms, h, i + 1 => ⟨h.1, h.2.1, h.2.2.1, MRel.erase h.2.2.2 i⟩
  | [], _ :: _, h, _ => h.elim
  | (_, _, _) :: _, [], h, _ => by simp [MRel] at h
theorem mapUpS_ok {t : TypeId} {k : Value} {s m : SV} {v vm : Value} {out : Out} (hS : St B w0 e H nx w) (h : mapUpS P H nx t k s m = some out) (hs : s.conc e = some v) (hm : m.conc e = some vm) : DoesU P B w0 e out (Instr.mapUpdate t vm k v) w := by
  cases m with
  | mp b =>
    obtain ⟨x, hx, rfl⟩ := conc_mp hm
    simp only [mapUpS] at h
    cases hu : P.underlying t with
    | none => rw [hu] at h; cases h
    | some d =>
      rw [hu] at h
      cases d with
      | map kt el =>
        simp only at h
        cases hb : H.at' b with
        | none => rw [hb] at h; cases h
        | some vo =>
          rw [hb] at h
          cases vo with
          | map l clock =>
            simp only at h
            cases hp : putK P kt k s l clock with
            | none => rw [hp] at h; cases h
            | some q =>
              obtain ⟨l', clock'⟩ := q
              rw [hp] at h
              simp only [Option.some.injEq] at h
              subst h
              obtain ⟨o, _, hw, ho⟩ := hS.at hb hx
              obtain ⟨es, rfl, hmr⟩ := ho
              have hg := Go.MapKept.run_getObj_map (P := P) hw
              unfold putK at hp
              cases hc : pureRun P (Instr.checkKey false 10000 kt k) with
              | none => rw [hc] at hp; cases hp
              | some u =>
                rw [hc] at hp
                have hc' := pureRun_run _ _ hc w
                simp only at hp
                cases hf : findK P kt k l with
                | none => rw [hf] at hp; cases hp
                | some q =>
                  obtain ⟨_, r', hr, hq, hget⟩ := findK_ok hf hmr w
                  rw [hf] at hp
                  cases q with
                  | none =>
                    simp only [Option.some.injEq, Prod.mk.injEq] at hp
                    obtain ⟨rfl, rfl⟩ := hp
                    have : r' = none := by cases r' with | none => rfl | some x => simp at hq
                    subst this
                    refine ⟨e, _, rfl, Env.le_refl e, hS.upd (o' := .map (es.push { key := k, val := v, born := clock }) (clock + 1)) hb hx (turned_setObj x.blk _) (set_heap_same hw) ⟨_, rfl, by simpa using hmr.append hs⟩, ?_⟩
                    simp [Instr.mapUpdate, run_underlying hu, hg, hc', hr, Go.MapKept.run_setObj_map _ hw]
                  | some i =>
                    simp only at hp
                    cases r' with
                    | none => simp at hq
                    | some jv =>
                      obtain ⟨j, u'⟩ := jv
                      simp only [Option.map_some, Option.some.injEq] at hq
                      subst hq
                      cases hl : l[i]? with
                      | none => rw [hl] at hp; cases hp
                      | some y =>
                        obtain ⟨k', s', b'⟩ := y
                        rw [hl] at hp
                        simp only at hp
                        cases hsb : Instr.sameBits 10000 k' k with
                        | false => rw [hsb] at hp; cases hp
                        | true =>
                          rw [hsb] at hp
                          simp only [cond_true, Option.some.injEq, Prod.mk.injEq] at hp
                          obtain ⟨rfl, rfl⟩ := hp
                          obtain ⟨m, g1, g2, _, _⟩ := hmr.get hl
                          have g1' : es[i]? = some m := by simpa using g1
                          refine ⟨e, _, rfl, Env.le_refl e, hS.upd (o' := .map (es.modify i fun e => { e with key := k, val := v }) clock) hb hx (turned_setObj x.blk _) (set_heap_same hw) ⟨_, rfl, by rw [Array.toList_modify]; exact hmr.set i hl hs⟩, ?_⟩
                          simp [Instr.mapUpdate, run_underlying hu, hg, hc', hr, g1', g2, Instr.keyThatStays, hsb, Go.MapKept.run_setObj_map _ hw]
          | _ => cases h
      | _ => cases h
  | _ => simp [mapUpS] at h
theorem mapDelS_ok {t ty : TypeId} {ts : Array TypeId} {k : Value} {m : SV} {vm : Value} {out : Out} (hts : ts[0]? = some t) (hS : St B w0 e H nx w) (h : mapDelS P H nx t k m = some out) (hm : m.conc e = some vm) : DoesV P B w0 e out (Builtin.delete_ ts ty #[vm, k]) w := by
  cases m with
  | mp b =>
    obtain ⟨x, hx, rfl⟩ := conc_mp hm
    simp only [mapDelS] at h
    cases hu : P.underlying t with
    | none => rw [hu] at h; cases h
    | some d =>
      rw [hu] at h
      cases d with
      | map kt el =>
        simp only at h
        cases hb : H.at' b with
        | none => rw [hb] at h; cases h
        | some vo =>
          rw [hb] at h
          cases vo with
          | map l clock =>
            simp only at h
            obtain ⟨o, _, hw, ho⟩ := hS.at hb hx
            obtain ⟨es, rfl, hmr⟩ := ho
            have hg := Go.MapKept.run_getObj_map (P := P) hw
            cases hf : findK P kt k l with
            | none => rw [hf] at h; cases h
            | some q =>
              obtain ⟨hc, r', hr, hq, hget⟩ := findK_ok hf hmr w
              have hc' := hc es.isEmpty (by simp)
              rw [hf] at h
              cases q with
              | none =>
                simp only [Option.some.injEq] at h
                subst h
                have : r' = none := by cases r' with | none => rfl | some x => simp at hq
                subst this
                refine ⟨e, _, _, .tuple #[], rfl, Env.le_refl e, hS.upd (o' := .map es clock) hb hx (turned_setObj x.blk _) (set_heap_same hw) ⟨es, rfl, hmr⟩, rfl, ?_⟩
                simp [Builtin.delete_, hts, run_underlying hu, hg, hc', hr, Go.MapKept.run_setObj_map _ hw]
              | some i =>
                simp only [Option.some.injEq] at h
                subst h
                cases r' with
                | none => simp at hq
                | some jv =>
                  obtain ⟨j, u'⟩ := jv
                  simp only [Option.map_some, Option.some.injEq] at hq
                  subst hq
                  have e1 : (es.eraseIdxIfInBounds i).toList = es.toList.eraseIdx i := by
                    unfold Array.eraseIdxIfInBounds
                    split
                    · simp
                    · rename_i hj; rw [List.eraseIdx_of_length_le (by simpa using hj)]
                  refine ⟨e, _, _, .tuple #[], rfl, Env.le_refl e, hS.upd (o' := .map (es.eraseIdxIfInBounds i) clock) hb hx (turned_setObj x.blk _) (set_heap_same hw) ⟨_, rfl, by rw [e1]; exact hmr.erase i⟩, rfl, ?_⟩
                  simp [Builtin.delete_, hts, run_underlying hu, hg, hc', hr, Go.MapKept.run_setObj_map _ hw]
          | _ => cases h
      | _ => cases h
  | _ => simp [mapDelS] at h
theorem zerosL_conc (z : Value) (n : Nat) : SV.concL e (zerosL z n) = some (Builtin.zeroCells z.cells n).toList := concL_sc _
theorem clearS_ok {t ty : TypeId} {ts : Array TypeId} {s : SV} {v : Value} {out : Out} (hts : ts[0]? = some t) (hS : St B w0 e H nx w) (h : clearS P H nx t s = some out) (hv : s.conc e = some v) : DoesV P B w0 e out (Builtin.clear_ ts ty #[v]) w := by
  have rows : ∀ (b o n c : Nat) (x : Ent) , e b = some x → v = .slice (some ⟨x.blk, x.base + o, none⟩) (n + 1) c → (match P.underlying t with
      | some (.slice el) => match zeroT P el with
        | some z => match storeS H b o (zerosL z (n + 1)) with
          | some H' => some ((.val (.sc (.tuple #[])), H', nx) : Out)
          | none => none
        | none => none
      | _ => none) = some out → DoesV P B w0 e out (Builtin.clear_ ts ty #[v]) w := by
    intro b o n c x hx hv h
    cases hu : P.underlying t with
    | none => rw [hu] at h; cases h
    | some d =>
      rw [hu] at h
      cases d with
      | slice el =>
        simp only at h
        cases hz : zeroT P el with
        | none => rw [hz] at h; cases h
        | some z =>
          rw [hz] at h
          simp only at h
          cases hst : storeS H b o (zerosL z (n + 1)) with
          | none => rw [hst] at h; cases h
          | some H' =>
            rw [hst] at h
            simp only [Option.some.injEq] at h
            subst h
            obtain ⟨w', k1, k2⟩ := storeS_ok (P := P) hS hst hx (zerosL_conc z (n + 1))
            refine ⟨e, w', _, .tuple #[], rfl, Env.le_refl e, k2, rfl, ?_⟩
            subst hv
            simp [Builtin.clear_, hts, run_underlying hu, run_zeroT hz, k1]
      | _ => cases h
  cases s with
  | sl b o n c =>
    obtain ⟨x, hx, hv'⟩ := conc_sl hv
    cases n with
    | zero => simp [clearS] at h
    | succ n => exact rows b o n c x hx hv' h
  | slu b o eo n =>
    obtain ⟨x, hx, hv'⟩ := conc_slu hv
    cases n with
    | zero => simp [clearS] at h
    | succ n => exact rows b o n _ x hx hv' h
  | mp b =>
    obtain ⟨x, hx, rfl⟩ := conc_mp hv
    simp only [clearS] at h
    cases hu : P.underlying t with
    | none => rw [hu] at h; cases h
    | some d =>
      rw [hu] at h
      cases d with
      | map kt el =>
        simp only at h
        cases hb : H.at' b with
        | none => rw [hb] at h; cases h
        | some vo =>
          rw [hb] at h
          cases vo with
          | map l clock =>
            simp only [Option.some.injEq] at h
            subst h
            obtain ⟨o, _, hw, ho⟩ := hS.at hb hx
            obtain ⟨es, rfl, hmr⟩ := ho
            have hg := Go.MapKept.run_getObj_map (P := P) hw
            refine ⟨e, _, _, .tuple #[], rfl, Env.le_refl e, hS.upd (o' := .map #[] clock) hb hx (turned_setObj x.blk _) (set_heap_same hw) ⟨_, rfl, trivial⟩, rfl, ?_⟩
            simp [Builtin.clear_, hts, run_underlying hu, hg, Go.MapKept.run_setObj_map _ hw]
          | _ => cases h
      | _ => cases h
  | _ => simp [clearS] at h
theorem copyS_ok {t ty : TypeId} {ts : Array TypeId} {d x : SV} {vd vx : Value} {out : Out} (hts : ts[0]? = some t) (hS : St B w0 e H nx w) (h : copyS P H nx t d x = some out) (hd : d.conc e = some vd) (hx : x.conc e = some vx) :
    DoesV P B w0 e out (Builtin.copy_ ts ty #[vd, vx]) w := by
  unfold copyS at h
  cases hu : P.underlying t with
  | none => rw [hu] at h; cases h
  | some dd =>
    rw [hu] at h
    cases dd with
    | slice el =>
      simp only at h
      cases hs : sizeT P el with
      | none => rw [hs] at h; cases h
      | some sz =>
        rw [hs] at h
        simp only at h
        cases hc : sliceCells H sz x with
        | none => rw [hc] at h; cases h
        | some q =>
          obtain ⟨m, l⟩ := q
          rw [hc] at h
          simp only at h
          obtain ⟨us, g1, g2, g3, g4⟩ := sliceCells_ok (P := P) hS hc hx
          have rows : ∀ (b o n c : Nat) (y : Ent) , e b = some y → vd = .slice (some ⟨y.blk, y.base + o, none⟩) n c → (match storeS H b o (l.take (min m n * sz)) with
              | some H' => some ((.val (.sc (.int .i64 (min m n : Nat))), H', nx) : Out)
              | none => none) = some out → DoesV P B w0 e out (Builtin.copy_ ts ty #[vd, vx]) w := by
            intro b o n c y hy hv h
            cases hst : storeS H b o (l.take (min m n * sz)) with
            | none => rw [hst] at h; cases h
            | some H' =>
              rw [hst] at h
              simp only [Option.some.injEq] at h
              subst h
              obtain ⟨w', k1, k2⟩ := storeS_ok (P := P) hS hst hy (concL_take _ g1)
              have g5 := g4 (min m n) (Nat.min_le_left _ _)
              refine ⟨e, w', _, .int .i64 (min m n : Nat), rfl, Env.le_refl e, k2, rfl, ?_⟩
              subst hv
              have hmin : Nat.min m n = min m n := rfl
              simp [Builtin.copy_, hts, run_underlying hu, g3, run_sizeT hs, hmin, g5, k1, goInt]
          cases d with
          | sl b o n c => obtain ⟨y, hy, hv⟩ := conc_sl hd; exact rows b o n c y hy hv h
          | slu b o eo n => obtain ⟨y, hy, hv⟩ := conc_slu hd; exact rows b o n _ y hy hv h
          | _ => cases h
    | _ => cases h
theorem emptyS_ok {t : TypeId} {lo hi : Option Operand} {s : SV} {v : Value} {out : Out} (hS : St B w0 e H nx w) (hE : EvRel e T ev) (h : emptyS P T H nx t lo hi s = some out) (hv : s.conc e = some v) :
    DoesV P B w0 e out (Instr.sliceAt t v (lo.map ev) (hi.map ev) none) w := by
  cases s with
  | slu b o eo len =>
    obtain ⟨x, hx, rfl⟩ := conc_slu hv
    simp only [emptyS] at h
    cases hu : P.underlying t with
    | none => rw [hu] at h; cases h
    | some d =>
      rw [hu] at h
      cases d with
      | slice el =>
        simp only at h
        cases hb : H.at' b with
        | none => rw [hb] at h; cases h
        | some vo =>
          rw [hb] at h
          cases vo with
          | row ne sz' t' c =>
            simp only at h
            cases hs : sizeT P el with
            | none => rw [hs] at h; cases h
            | some sz =>
            cases hl : natOr T 0 lo with
            | none => rw [hs, hl] at h; cases h
            | some l =>
            cases hh : natOr T len hi with
            | none => rw [hs, hl, hh] at h; cases h
            | some hb' =>
              rw [hs, hl, hh] at h
              simp only at h
              cases hq : (Nat.beq l hb' && Nat.beq (eo + l) ne && Nat.beq sz sz' && Nat.beq t' el && Nat.beq o (eo * sz)) with
              | false => rw [hq] at h; cases h
              | true =>
                rw [hq] at h
                simp only [cond_true, Option.some.injEq] at h
                subst h
                simp only [Bool.and_eq_true] at hq
                obtain ⟨⟨⟨⟨q1, q2⟩, q3⟩, q4⟩, q5⟩ := hq
                have q1 := eq_of_beq q1
                have q2 := eq_of_beq q2
                have q3 := eq_of_beq q3
                have q4 := eq_of_beq q4
                have q5 := eq_of_beq q5
                subst q1 q2 q3 q4 q5
                obtain ⟨ob, _, hw, ho⟩ := hS.at hb hx
                obtain ⟨cs, fz, rfl, hne, hcap, hmax, hfz, hp', hrd⟩ := ho
                have hbd := run_sliceBounds (P := P) (isS := true) (cap := x.cap - eo) (m := x.cap - eo) (mx := none) (hE.natOr hl) (hE.natOr hh) (.inl ⟨rfl, rfl⟩) (Nat.le_refl _) (by omega) (Nat.le_refl _) (.inr rfl) w
                have hf := hS.fresh nx (Nat.le_refl _)
                have hmul : x.cap * sz = eo * sz + (l * sz + (x.cap - eo - l) * sz) := by rw [← Nat.add_mul, ← Nat.add_mul]; congr 1; omega
                by_cases hml : x.cap - eo = l
                · refine ⟨e.put nx ⟨x.blk, x.base + eo * sz, 0⟩, w, .slu nx 0 0 0, .slice (some ⟨x.blk, x.base + eo * sz, none⟩) 0 0, rfl, Env.le_put hf, hS.move hb hx rfl (Turned.refl _ _) hw ?_, by simp [SV.conc, Env.put_same], ?_⟩
                  · exact ⟨cs, fz, rfl, Nat.zero_le _, by simp only; omega, Nat.zero_le _, hfz, hp', fun i hi => by simp at hi⟩
                  · simp only [Instr.sliceAt, Instr.slice, run_underlying hu, Sem.run_bind, Result.andThen, Sem.run_pure, hbd, run_sizeT hs]
                    rw [if_pos hml]
                    simp [hml]
                · refine ⟨e.put nx ⟨x.blk, x.base + eo * sz + l * sz, x.cap - eo - l⟩, w, .slu nx 0 0 0, .slice (some ⟨x.blk, x.base + eo * sz + l * sz, none⟩) 0 (x.cap - eo - l), rfl, Env.le_put hf, hS.move hb hx rfl (Turned.refl _ _) hw ?_, by simp [SV.conc, Env.put_same], ?_⟩
                  · exact ⟨cs, fz, rfl, Nat.zero_le _, by simp only; omega, by simp only; omega, hfz, hp', fun i hi => by simp at hi⟩
                  · simp only [Instr.sliceAt, Instr.slice, run_underlying hu, Sem.run_bind, Result.andThen, Sem.run_pure, hbd, run_sizeT hs]
                    rw [if_neg hml]
                    simp [addr_add]
          | _ => cases h
      | _ => cases h
  | _ => simp [emptyS] at h
theorem bytesOfS_ok {s t : TypeId} {x : SV} {v : Value} {out : Out} (hS : St B w0 e H nx w) (h : bytesOfS P H nx s t x = some out) (hv : x.conc e = some v) : DoesV P B w0 e out (Go.convert s t v) w := by
  unfold bytesOfS at h
  split at h
  · rename_i b
    simp only [SV.conc, Option.some.injEq] at hv
    subst hv
    cases hs : P.underlying s with
    | none => rw [hs] at h; cases h
    | some d =>
      rw [hs] at h
      cases d with
      | string =>
        simp only at h
        cases ht : P.underlying t with
        | none => rw [ht] at h; cases h
        | some d2 =>
          rw [ht] at h
          cases d2 with
          | slice el =>
            simp only at h
            cases he : P.underlying el with
            | none => rw [he] at h; cases h
            | some d3 =>
              rw [he] at h
              cases d3 with
              | int k =>
                cases k with
                | u8 =>
                  simp only at h
                  cases hby : bytesOk P el b.size with
                  | false => rw [hby] at h; cases h
                  | true =>
                    rw [hby] at h
                    simp only [cond_true, Option.some.injEq] at h
                    subst h
                    obtain ⟨i, _, _, hmx⟩ := bytesOk_ok hby
                    have hrun := run_bytes_of_string w s t el b hs ht he
                    have hge := grownCap_ge w b.size 0 el
                    have hle := grownCap_le_maxLen w b.size 0 el (by unfold maxLen; omega)
                    generalize grownCap w b.size 0 el = gc at hrun hge hle
                    have hf := hS.fresh nx (Nat.le_refl _)
                    have hsz : (bytesRow b gc).size = gc := by
                      have : b.data.size = b.size := rfl
                      simp [bytesRow]; omega
                    rw [hsz] at hrun
                    refine ⟨e.put nx ⟨w.heap.size, 0, gc⟩, _, .slu nx 0 0 b.size, .slice (some ⟨w.heap.size, 0, none⟩) b.size gc, rfl, Env.le_put hf, ?_, by simp [SV.conc, Env.put_same], hrun⟩
                    refine (hS.drew').new (x := ⟨w.heap.size, 0, gc⟩) (o := .cells (bytesRow b gc) el (gc, gc + 1)) rfl rfl rfl rfl rfl ?_
                    refine ⟨_, _, rfl, hge, by rw [hsz]; simp, hle, fun i hi => ?_, by omega, fun i hi s' hs' => ?_⟩
                    · rw [hsz] at hi
                      simp; omega
                    · rcases fillTr_at _ .nil 0 i s' hs' with ⟨_, h2, h3⟩ | ⟨_, h2⟩
                      · simp only [Nat.sub_zero, List.getElem?_map, Option.map_eq_some_iff] at h2
                        obtain ⟨a, ha, rfl⟩ := h2
                        refine ⟨_, rfl, ?_⟩
                        simp only [Nat.zero_add, bytesRow]
                        rw [Array.getElem?_append_left (by rw [Array.size_map]; have : b.data.size = b.size := rfl; omega)]
                        simp only [Array.getElem?_map, Option.map_eq_some_iff]
                        exact ⟨a, by simpa using ha, rfl⟩
                      · rw [Tr.at_nil] at h2; cases h2
                | _ => cases h
              | _ => cases h
          | _ => cases h
      | _ => cases h
  · cases h
theorem rangeS_ok {t : TypeId} {x : SV} {v : Value} {out : Out} (hS : St B w0 e H nx w) (h : rangeS P H nx t x = some out) (hv : x.conc e = some v) : DoesV P B w0 e out (Instr.range t v) w := by
  have hf := hS.fresh nx (Nat.le_refl _)
  have done : ∀ (vo : VO) (o : Obj), ORel (e.put nx ⟨w.heap.size, 0, 0⟩) vo ⟨w.heap.size, 0, 0⟩ o → out = (.val (.ptr nx 0), H.set nx vo, nx + 1) → (Instr.range t v).run P w = .ok (.pointer (some ⟨w.heap.size, 0, none⟩)) { w with heap := w.heap.push o } →
      DoesV P B w0 e out (Instr.range t v) w := by
    intro vo o ho hout hrun
    subst hout
    refine ⟨e.put nx ⟨w.heap.size, 0, 0⟩, _, .ptr nx 0, _, rfl, Env.le_put hf, ?_, by simp [SV.conc, Env.put_same], hrun⟩
    exact hS.new (o := o) rfl rfl rfl rfl rfl ho
  unfold rangeS at h
  split at h
  · rename_i s
    simp only [SV.conc, Option.some.injEq] at hv
    subst hv
    cases hu : P.underlying t with
    | none => rw [hu] at h; cases h
    | some d =>
      rw [hu] at h
      cases d with
      | string =>
        simp only [Option.some.injEq] at h
        exact done (.siter s 0) _ ⟨rfl, rfl⟩ h.symm (by simp [Instr.range, run_underlying hu])
      | _ => cases h
  · simp only [SV.conc, Option.some.injEq] at hv
    subst hv
    cases hu : P.underlying t with
    | none => rw [hu] at h; cases h
    | some d =>
      rw [hu] at h
      cases d with
      | map kt el =>
        simp only [Option.some.injEq] at h
        exact done (.iter none 0 [] 0) (.mapIter none 0 #[] 0) ⟨rfl, rfl⟩ h.symm (by simp [Instr.range, run_underlying hu])
      | _ => cases h
  · rename_i b
    obtain ⟨x, hx, rfl⟩ := conc_mp hv
    cases hu : P.underlying t with
    | none => rw [hu] at h; cases h
    | some d =>
      rw [hu] at h
      cases d with
      | map kt el =>
        simp only at h
        cases hb : H.at' b with
        | none => rw [hb] at h; cases h
        | some vo =>
          rw [hb] at h
          cases vo with
          | map l clock =>
            simp only [Option.some.injEq] at h
            obtain ⟨o, _, hw, ho⟩ := hS.at hb hx
            obtain ⟨es, rfl, hmr⟩ := ho
            have hg := Go.MapKept.run_getObj_map (P := P) hw
            exact done (.iter (some b) clock [] clock) (.mapIter (some x.blk) clock #[] clock) ⟨rfl, x, Env.le_put hf _ _ hx, rfl⟩ h.symm (by simp [Instr.range, run_underlying hu, hg])
          | _ => cases h
      | _ => cases h
  · cases h
end
end Go.Ex
end
section
namespace Go.Ex
open Go Go.Sl Go.RowKit
section
variable {P : Program} {B : Nat} {w0 w : World} {e : Env} {H : Heap} {nx : Nat} {T : Tr SV} {ev : Operand → Value}
theorem newV_does {t : TypeId} {l : List SV} {vs : List Value} {r : SV} {v : Value} {s : Sem Value} (hS : St B w0 e H nx w) (hl : SV.concL e l = some vs)
    (hv : r.conc (e.put nx ⟨w.heap.size, 0, 0⟩) = some v) (hrun : s.run P w = .ok v { w with heap := w.heap.push (.cells vs.toArray t) }) : DoesV P B w0 e (.val r, H.set nx (newCells t l), nx + 1) s w := by
  have hf := hS.fresh nx (Nat.le_refl _)
  refine ⟨e.put nx ⟨w.heap.size, 0, 0⟩, _, r, v, rfl, Env.le_put hf, ?_, hv, hrun⟩
  exact hS.new (o := .cells vs.toArray t) rfl rfl rfl rfl rfl (newCells_rel (SV.concL_mono (Env.le_put hf) _ _ hl) rfl)
theorem buildSliceS_ok {t : TypeId} {len : Nat} {ps : List (Nat × SV)} {qs : Array (Nat × Value)} {out : Out} (hS : St B w0 e H nx w) (h : buildSliceS P H nx t len ps = some out) (hp : PRel e ps qs.toList) : DoesV P B w0 e out (Instr.buildSlice t len qs) w := by
  unfold buildSliceS at h
  cases hu : P.underlying t with
  | none => rw [hu] at h; cases h
  | some d =>
    rw [hu] at h
    cases d with
    | slice el =>
      simp only at h
      cases hs : sizeT P el with
      | none => rw [hs] at h; cases h
      | some sz =>
        rw [hs] at h
        simp only at h
        cases h0 : Nat.beq (len * sz) 0 with
        | true =>
          rw [h0] at h
          simp only [cond_true] at h
          cases ps with
          | cons _ _ => cases h
          | nil =>
            simp only [List.isEmpty_nil, cond_true, Option.some.injEq] at h
            subst h
            have h00 := eq_of_beq h0
            have hq : qs.toList = [] := by
              cases hq : qs.toList with
              | nil => rfl
              | cons _ _ => rw [hq] at hp; exact hp.elim
            refine newV_does (vs := []) hS rfl (v := .slice (some ⟨w.heap.size, 0, none⟩) len len) (by simp [SV.conc, Env.put_same]) ?_
            have hle : ¬ (16777216 < len * sz) := by omega
            simp [Instr.buildSlice, run_underlying hu, run_sizeT hs, h00, hq, Instr.fill, newRow, show Array.range 0 = (#[] : Array Nat) from by decide]
        | false =>
          rw [h0] at h
          simp only [cond_false] at h
          cases hz : zeroT P el with
          | none => rw [hz] at h; cases h
          | some z =>
            rw [hz] at h
            simp only at h
            cases hle : Nat.ble (len * sz) 16777216 with
            | false => rw [hle] at h; cases h
            | true =>
              rw [hle] at h
              simp only [cond_true] at h
              cases hf : fillS (fun i => some (i * sz, sz)) (((Array.range (len * sz)).map (z.cells[· % z.cells.size]!)).toList.map .sc) ps with
              | none => rw [hf] at h; cases h
              | some l =>
                rw [hf] at h
                simp only at h
                cases ho : allOne l with
                | false => rw [ho] at h; cases h
                | true =>
                  rw [ho] at h
                  simp only [cond_true, Option.some.injEq] at h
                  subst h
                  obtain ⟨vs, g1, g2⟩ := fill_S (e := e) ps qs.toList _ l _ hf hp (concL_sc _)
                  have hle' := le_of_ble hle
                  have h0' : ¬ (len * sz = 0) := by intro hc; rw [hc] at h0; cases h0
                  refine newV_does hS g2 (v := .slice (some ⟨w.heap.size, 0, none⟩) len len) (by simp [SV.conc, Env.put_same]) ?_
                  simp only [Array.toArray_toList] at g1
                  simp only [Instr.buildSlice, run_underlying hu, Sem.run_bind, Result.andThen, run_sizeT hs]
                  rw [if_neg (by omega)]
                  simp only [Sem.run_pure, if_neg h0', Sem.run_bind, Result.andThen, run_zeroT hz, g1, newRow, run_newObj]
    | _ => cases h
theorem makeSliceS_ok {t : TypeId} {n m : Nat} {k k' : IntKind} {out : Out} (hS : St B w0 e H nx w) (h : makeSliceS P H nx t n m = some out) : DoesV P B w0 e out (Instr.makeSlice t (.int k (n : Int)) (.int k' (m : Int))) w := by
  unfold makeSliceS at h
  cases hu : P.underlying t with
  | none => rw [hu] at h; cases h
  | some d =>
    rw [hu] at h
    cases d with
    | slice el =>
      simp only at h
      cases hs : sizeT P el with
      | none => rw [hs] at h; cases h
      | some sz =>
        rw [hs] at h
        simp only at h
        cases hz : zeroT P el with
        | none => rw [hz] at h; cases h
        | some z =>
          rw [hz] at h
          simp only at h
          cases hq : (Nat.ble n m && bytesOk P el m && Nat.beq z.cells.size sz && Nat.blt 0 (m * sz)) with
          | false => rw [hq] at h; cases h
          | true =>
            rw [hq] at h
            simp only [cond_true, Option.some.injEq] at h
            subst h
            simp only [Bool.and_eq_true] at hq
            obtain ⟨⟨⟨q1, q2⟩, q3⟩, q4⟩ := hq
            have q1 := le_of_ble q1
            obtain ⟨i, hi, hb, hmx⟩ := bytesOk_ok q2
            have q3 := eq_of_beq q3
            have q4 := lt_of_blt q4
            refine newV_does hS (zerosL_conc z m) (v := .slice (some ⟨w.heap.size, 0, none⟩) n m) (by simp [SV.conc, Env.put_same]) ?_
            have hwn : IntKind.i64.wrap (n : Int) = (n : Int) := IntWalk.i64_in _ (by omega)
            have hwm : IntKind.i64.wrap (m : Int) = (m : Int) := IntWalk.i64_in _ (by omega)
            have hbi : (i.bytes : Int) * (m : Int) = ((m * i.bytes : Nat) : Int) := by rw [Int.natCast_mul, Int.mul_comm]
            have hnb : ¬ ((2 : Int) ^ 48 < (i.bytes : Int) * (m : Int)) := by rw [hbi]; omega
            have hi' : (typeInfo el).run P w = .ok i w := by simp [typeInfo, hi]
            have hcond : (decide ((m : Int) < 0) || decide ((i.bytes : Int) * (m : Int) > 2 ^ 48) || decide ((n : Int) < 0) || decide ((n : Int) > (m : Int))) = false := by
              simp only [Bool.or_eq_false_iff, decide_eq_false_iff_not]
              exact ⟨⟨⟨by omega, hnb⟩, by omega⟩, by omega⟩
            simp only [Instr.makeSlice, run_underlying hu, Sem.run_bind, Result.andThen, asInt, asIntOf, Sem.run_pure, hi', hwn, hwm, hcond, Bool.false_eq_true, if_false, run_askRoom, run_sizeT hs, Int.toNat_natCast]
            rw [if_neg (by omega)]
            simp only [Sem.run_bind, Result.andThen, run_zeroT hz, Sem.run_pure, newRow, run_newObj]
            congr 4
            simp only [Builtin.zeroCells, q3, Array.toArray_toList]
    | _ => cases h
theorem run_callFunc {f : FuncId} {args : Array Value} (h : mayEnter P f = true) (w : World) : (callFunc f args).run P w = .ok (.enter f args) w := by
  unfold mayEnter at h
  cases hf : P.funcs[f]? with
  | none => rw [hf] at h; cases h
  | some fn =>
    rw [hf] at h
    simp only [Bool.and_eq_true, Bool.not_eq_true', beq_eq_false_iff_ne] at h
    have hn : ¬ (fn.body.isNone = true) := by
      cases hb : fn.body with
      | none => rw [hb] at h; simp at h
      | some c => simp
    have h2 : ¬ ((fn.name == "runtime.NumGoroutine") = true) := by simpa using h.2
    simp only [callFunc, Sem.run_bind, run_program, Result.andThen, hf]
    rw [if_neg h2, if_neg hn]
    rfl
theorem fnTarget_ok {s : SV} {v : Value} {g : FuncId} {a b : List SV} (h : fnTarget s = some (g, a, b)) (hv : s.conc e = some v) : ∃ x y, v = .func (.func g) x y ∧ SV.concL e a = some x.toList ∧ SV.concL e b = some y.toList := by
  unfold fnTarget at h
  split at h
  · simp only [Option.some.injEq, Prod.mk.injEq] at h
    obtain ⟨rfl, rfl, rfl⟩ := h
    simp only [SV.conc, Option.some.injEq] at hv
    subst hv
    exact ⟨_, _, rfl, concL_sc _, concL_sc _⟩
  · simp only [Option.some.injEq, Prod.mk.injEq] at h
    obtain ⟨rfl, rfl, rfl⟩ := h
    obtain ⟨x, y, hx, hy, rfl⟩ := conc_fn hv
    exact ⟨_, _, rfl, by simpa using hx, by simpa using hy⟩
  · cases h
theorem methodS_ok {t : TypeId} {name : String} {g : FuncId} (h : methodS P t name = some g) (v : Value) (args : Array Value) (w : World) : (callMethod (.iface t v) name args).run P w = .ok (.enter g (#[v] ++ args)) w := by
  unfold methodS at h
  cases hi : P.info? t with
  | none => rw [hi] at h; cases h
  | some i =>
    rw [hi] at h
    simp only at h
    cases hm : i.methods.find? (fun m => m.name == name) with
    | none => rw [hm] at h; cases h
    | some m =>
      rw [hm] at h
      simp only at h
      cases hmf : m.func with
      | none => rw [hmf] at h; cases h
      | some q =>
        obtain ⟨g', pr⟩ := q
        rw [hmf] at h
        cases pr with
        | false => cases h
        | true =>
          simp only at h
          cases hu : P.underlying t with
          | none => rw [hu] at h; cases h
          | some d =>
            rw [hu] at h
            cases d with
            | pointer el =>
              simp only at h
              cases hq : (m.path.isEmpty && mayEnter P g') with
              | false => rw [hq] at h; cases h
              | true =>
                rw [hq] at h
                simp only [cond_true, Option.some.injEq] at h
                subst h
                rw [Bool.and_eq_true] at hq
                obtain ⟨n, hn⟩ : ∃ n, P.types.size + Made.depth = n + 1 := ⟨P.types.size + 99, by unfold Made.depth; omega⟩
                have hpath : m.path.toList = [] := by
                  have := hq.1
                  cases hp : m.path.toList with
                  | nil => rfl
                  | cons a l => rw [Array.isEmpty_iff] at this; rw [this] at hp; cases hp
                have hi' : (typeInfo t).run P w = .ok i w := by simp [typeInfo, hi]
                simp only [callMethod, Sem.run_bind, run_program, Result.andThen, hn, Go.method, hi', hm, hpath, follow, Sem.run_pure, hmf, receiverAt, run_underlying hu, Place.get]
                exact run_callFunc hq.2 w
            | _ => cases h
theorem callTarget_ok {c : Call} {a : ANx} {ty : TypeId} (hE : EvRel e T ev) (h : callTarget P T c = some a) (w : World) : ORun P e a ((do let d ← resolve ev c ty; invoke d.target d.args : Sem Next).run P w) w := by
  unfold callTarget at h
  cases hl : evalL T c.args.toList with
  | none => rw [hl] at h; cases h
  | some args =>
    rw [hl] at h
    simp only at h
    have hargs := hE.list _ _ hl
    cases hc : c.callee with
    | builtin b => rw [hc] at h; cases h
    | value f =>
      rw [hc] at h
      simp only at h
      cases hf : evalS T f with
      | none => rw [hf] at h; cases h
      | some s =>
        have hv := hE f s hf
        rw [hf] at h
        have gen : (match fnTarget s with
            | some (g, x, y) => bif mayEnter P g then some (ANx.enter g (x ++ args ++ y)) else none
            | none => none) = some a → ORun P e a ((do let d ← resolve ev c ty; invoke d.target d.args : Sem Next).run P w) w := by
          intro h
          cases ht : fnTarget s with
          | none => rw [ht] at h; cases h
          | some q =>
            obtain ⟨g, x, y⟩ := q
            rw [ht] at h
            simp only at h
            cases hm : mayEnter P g with
            | false => rw [hm] at h; cases h
            | true =>
              rw [hm] at h
              simp only [cond_true, Option.some.injEq] at h
              subst h
              obtain ⟨xs, ys, hev, hx, hy⟩ := fnTarget_ok ht hv
              refine ⟨xs ++ c.args.map ev ++ ys, ?_, ?_⟩
              · have := concL_append (concL_append hx hargs) hy
                simpa using this
              · simp [resolve, hc, hev, Deferred.ofValue, invoke, run_callFunc hm]
        cases s with
        | yld l =>
          simp only [Option.some.injEq] at h
          subst h
          obtain ⟨x, hx, hev⟩ := conc_yld hv
          refine ⟨x, c.args.toList.map ev, hx, hargs, ?_⟩
          simp [resolve, hc, hev, Deferred.ofValue, invoke]
          congr 1
          congr 1
          apply Array.ext'
          simp
        | _ => exact gen h
    | invoke r name =>
      rw [hc] at h
      simp only at h
      split at h
      · rename_i t v hr
        have hv := hE r _ hr
        obtain ⟨u, hu, hev⟩ := conc_ifc hv
        cases hm : methodS P t name with
        | none => rw [hm] at h; cases h
        | some g =>
          rw [hm] at h
          simp only [Option.some.injEq] at h
          subst h
          refine ⟨#[u] ++ c.args.map ev, ?_, ?_⟩
          · simpa using concL_cons_mk hu hargs
          · have hex : (#[ev r] ++ Array.map ev c.args).extract 1 (#[ev r] ++ Array.map ev c.args).size = Array.map ev c.args := by
              obtain ⟨l⟩ := Array.map ev c.args
              simp
            have h0 : (#[ev r] ++ Array.map ev c.args)[0]? = some (ev r) := by
              obtain ⟨l⟩ := Array.map ev c.args
              simp
            simp only [resolve, hc, Sem.run_bind, Sem.run_pure, Result.andThen, invoke, h0, hex]
            rw [hev]
            exact methodS_ok hm u _ w
      · cases h
theorem does_of_v {out : Out} {s : Sem Value} {res : Result Next} (h : DoesV P B w0 e out s w) (hr : ∀ v w', s.run P w = .ok v w' → res = .ok (.value v) w') : Does P B w0 e out res := by
  obtain ⟨e', w', r, v, h1, h2, h3, h4, h5⟩ := h
  exact ⟨e', w', h2, h3, by rw [h1]; exact ⟨v, h4, hr v w' h5⟩⟩
theorem does_of_u {out : Out} {s : Sem Unit} {res : Result Next} (h : DoesU P B w0 e out s w) (hr : ∀ w', s.run P w = .ok () w' → res = .ok .skip w') : Does P B w0 e out res := by
  obtain ⟨e', w', h1, h2, h3, h4⟩ := h
  exact ⟨e', w', h2, h3, by rw [h1]; exact hr w' h4⟩
theorem appendAt_ok {t u ty : TypeId} {s x : SV} {vs vx : Value} {out : Out} (hS : St B w0 e H nx w) (h : appendAt P H nx t u s x = some out) (hs : s.conc e = some vs) (hx : x.conc e = some vx) : DoesV P B w0 e out (Builtin.append_ #[t, u] ty #[vs, vx]) w := by
  unfold appendAt at h
  cases ht : P.underlying t with
  | none => rw [ht] at h; cases h
  | some d =>
    rw [ht] at h
    cases d with
    | slice el =>
      simp only at h
      cases hu : P.underlying u with
      | none => rw [hu] at h; cases h
      | some d2 =>
        rw [hu] at h
        have key : (∃ e', P.underlying u = some (.slice e')) ∨ P.underlying u = some .string → appendS P H nx el s x = some out → DoesV P B w0 e out (Builtin.append_ #[t, u] ty #[vs, vx]) w := by
          intro hk h
          obtain ⟨e', w', r, v, h1, h2, h3, h4, h5⟩ := appendS_ok (ty := ty) ht hk hS h hs hx
          exact ⟨e', w', r, v, h1, h2, h3, h4, h5⟩
        cases d2 with
        | slice e2 => exact key (.inl ⟨e2, hu⟩) h
        | string => exact key (.inr hu) h
        | _ => cases h
    | _ => cases h
theorem builtinS_ok {b : Builtin} {ts : Array TypeId} {xs : List SV} {vs : Array Value} {ty : TypeId} {cs : Array Bool} {out : Out} (hS : St B w0 e H nx w) (h : builtinS P H nx b ts.toList xs = some out) (hx : SV.concL e xs = some vs.toList) :
    Does P B w0 e out ((builtin b ts ty cs vs).run P w) := by
  unfold builtinS at h
  obtain ⟨tl⟩ := ts
  obtain ⟨vl⟩ := vs
  simp only at h hx
  cases b with
  | append =>
    simp only at h
    split at h
    · rename_i t u s x
      obtain ⟨v1, l1, rfl, h1, hx⟩ := concL_cons hx
      obtain ⟨v2, l2, rfl, h2, hx⟩ := concL_cons hx
      simp only [SV.concL, Option.some.injEq] at hx
      subst hx
      exact does_of_v (appendAt_ok (ty := ty) hS h h1 h2) (fun v w' hr => by simp [builtin, hr])
    · cases h
  | copy =>
    simp only at h
    split at h
    · rename_i t tl d x
      obtain ⟨v1, l1, rfl, h1, hx⟩ := concL_cons hx
      obtain ⟨v2, l2, rfl, h2, hx⟩ := concL_cons hx
      simp only [SV.concL, Option.some.injEq] at hx
      subst hx
      exact does_of_v (copyS_ok (ts := ⟨t :: tl⟩) (ty := ty) (by simp) hS h h1 h2) (fun v w' hr => by simp [builtin, hr])
    · cases h
  | clear =>
    simp only at h
    split at h
    · rename_i t tl d
      obtain ⟨v1, l1, rfl, h1, hx⟩ := concL_cons hx
      simp only [SV.concL, Option.some.injEq] at hx
      subst hx
      exact does_of_v (clearS_ok (ts := ⟨t :: tl⟩) (ty := ty) (by simp) hS h h1) (fun v w' hr => by simp [builtin, hr])
    · cases h
  | delete =>
    simp only at h
    split at h
    · rename_i t tl m k
      obtain ⟨v1, l1, rfl, h1, hx⟩ := concL_cons hx
      obtain ⟨v2, l2, rfl, h2, hx⟩ := concL_cons hx
      simp only [SV.concL, Option.some.injEq] at hx
      subst hx
      cases hk : k.lit with
      | none => rw [hk] at h; cases h
      | some kv =>
        rw [hk] at h
        have := SV.lit_conc e k kv hk
        rw [h2] at this
        simp only [Option.some.injEq] at this
        subst this
        exact does_of_v (mapDelS_ok (ts := ⟨t :: tl⟩) (ty := ty) (by simp) hS h h1) (fun v w' hr => by simp [builtin, hr])
    · cases h
  | recover =>
    simp only at h
    split at h
    · simp only [Option.some.injEq] at h
      subst h
      exact ⟨e, w, Env.le_refl e, hS, rfl⟩
    · cases h
  | _ => cases h
theorem effOp_ok {o : Oper} {out : Out} (hS : St B w0 e H nx w) (hE : EvRel e T ev) (h : effOp P T H nx o = some out) : Does P B w0 e out ((execOp ev o).run P w) := by
  unfold effOp at h
  cases hop : o.op with
  | alloc t =>
    rw [hop] at h
    simp only at h
    cases hz : zeroT P t with
    | none => rw [hz] at h; cases h
    | some z =>
      rw [hz] at h
      simp only [Option.some.injEq] at h
      subst h
      refine new_does hS (concL_sc _) (v := .pointer (some ⟨w.heap.size, 0, none⟩)) (by simp [SV.conc, Env.put_same]) ?_
      simp [execOp, hop, Instr.alloc, run_zeroT hz, newVar, newRow]
  | box t x =>
    rw [hop] at h
    simp only at h
    cases hx : evalS T x with
    | none => rw [hx] at h; cases h
    | some s =>
      rw [hx] at h
      simp only [Option.some.injEq] at h
      subst h
      refine new_does hS (cells_conc (hE x s hx)) (v := .pointer (some ⟨w.heap.size, 0, none⟩)) (by simp [SV.conc, Env.put_same]) ?_
      simp [execOp, hop, Instr.box, newVar, newRow]
  | store t a x =>
    rw [hop] at h
    simp only at h
    split at h
    · rename_i b off ha
      obtain ⟨y, hy, hv⟩ := conc_ptr (hE a _ ha)
      cases hx : evalS T x with
      | none => rw [hx] at h; cases h
      | some s =>
        rw [hx] at h
        simp only at h
        cases hsz : sizeIs P t s.cells.length with
        | false => rw [hsz] at h; cases h
        | true =>
          rw [hsz] at h
          simp only [cond_true] at h
          cases hst : storeS H b off s.cells with
          | none => rw [hst] at h; cases h
          | some H' =>
            rw [hst] at h
            simp only [Option.some.injEq] at h
            subst h
            have hcs := cells_conc (hE x s hx)
            have hlen := concL_length hcs
            obtain ⟨w', k1, k2⟩ := storeS_ok (P := P) hS hst hy hcs
            unfold sizeIs at hsz
            cases hs : sizeT P t with
            | none => rw [hs] at hsz; cases hsz
            | some n =>
              rw [hs] at hsz
              have hn := eq_of_beq hsz
              refine ⟨e, w', Env.le_refl e, k2, ?_⟩
              have hcz : (ev x).cells.size = n := by simp only [Array.length_toList] at hlen; omega
              show (execOp ev o).run P w = _
              simp [execOp, hop, hv, Instr.storeAt, Instr.sureAddr, storeVar, run_sizeT hs, hcz, k1]
    · cases h
  | buildSlice t len parts =>
    rw [hop] at h
    obtain ⟨ps, hps, h⟩ := obind h
    have hp := hE.parts _ _ hps
    exact does_of_v (buildSliceS_ok (qs := parts.map fun x => (x.1, ev x.2)) hS h (by simpa using hp)) (fun v w' hr => by simp [execOp, hop, hr])
  | makeMap t r =>
    rw [hop] at h
    cases r with
    | some r => cases h
    | none =>
      simp only [Option.some.injEq] at h
      subst h
      have hf := hS.fresh nx (Nat.le_refl _)
      refine alloc_does (o := .map #[] 0) (x := ⟨w.heap.size, 0, 0⟩) (w' := { w with heap := w.heap.push (.map #[] 0) }) (v := .map (some w.heap.size)) hS rfl rfl rfl rfl rfl ⟨#[], rfl, trivial⟩ (by simp [SV.conc, Env.put_same]) ?_
      simp [execOp, hop, Instr.makeMap]
  | makeSlice t l c =>
    rw [hop] at h
    obtain ⟨n, hn, h⟩ := obind h
    obtain ⟨m, hm, h⟩ := obind h
    obtain ⟨k, hk⟩ := hE.nat hn
    obtain ⟨k', hk'⟩ := hE.nat hm
    exact does_of_v (makeSliceS_ok (k := k) (k' := k') hS h) (fun v w' hr => by simp [execOp, hop, hk, hk', hr])
  | slice t x lo hi mx =>
    rw [hop] at h
    cases mx with
    | some mx => cases h
    | none =>
      obtain ⟨s, hs, h⟩ := obind h
      exact does_of_v (emptyS_ok hS hE h (hE x s hs)) (fun v w' hr => by simp [execOp, hop, hr])
  | mapUpdate t m k x =>
    rw [hop] at h
    obtain ⟨kv, hk, h⟩ := obind h
    obtain ⟨s, hs, h⟩ := obind h
    obtain ⟨sm, hsm, h⟩ := obind h
    exact does_of_u (mapUpS_ok hS h (hE x s hs) (hE m sm hsm)) (fun w' hr => by simp [execOp, hop, hE.lit hk, hr])
  | insert t m k x =>
    rw [hop] at h
    obtain ⟨kv, hk, h⟩ := obind h
    obtain ⟨s, hs, h⟩ := obind h
    obtain ⟨sm, hsm, h⟩ := obind h
    exact does_of_u (mapUpS_ok hS h (hE x s hs) (hE m sm hsm)) (fun w' hr => by simp [execOp, hop, hE.lit hk, hr])
  | convert s t x =>
    rw [hop] at h
    obtain ⟨q, hq, h⟩ := obind h
    exact does_of_v (bytesOfS_ok hS h (hE x q hq)) (fun v w' hr => by simp [execOp, hop, hr])
  | range t x =>
    rw [hop] at h
    obtain ⟨q, hq, h⟩ := obind h
    exact does_of_v (rangeS_ok hS h (hE x q hq)) (fun v w' hr => by simp [execOp, hop, hr])
  | call c =>
    rw [hop] at h
    simp only at h
    have gen : (callTarget P T c).map (fun a => ((a, H, nx) : Out)) = some out → Does P B w0 e out ((execOp ev o).run P w) := by
      intro h
      simp only [Option.map_eq_some_iff] at h
      obtain ⟨a, ha, rfl⟩ := h
      refine ⟨e, w, Env.le_refl e, hS, ?_⟩
      have := callTarget_ok (ty := o.type) hE ha w
      simpa [execOp, hop] using this
    cases hc : c.callee with
    | builtin b =>
      rw [hc] at h
      obtain ⟨xs, hxs, h⟩ := obind h
      have hargs := hE.list _ _ hxs
      have := fun cs => builtinS_ok (ty := o.type) (cs := cs) (vs := c.args.map ev) (w := w) hS h (by simpa using hargs)
      simp only [execOp, hop, resolve, hc, Sem.run_bind, Sem.run_pure, Result.andThen, invoke]
      exact this _
    | value f => rw [hc] at h; exact gen h
    | invoke r n => rw [hc] at h; exact gen h
  | defer c =>
    rw [hop] at h
    simp only at h
    cases hc : c.callee with
    | builtin b => rw [hc] at h; cases h
    | invoke r n => rw [hc] at h; cases h
    | value f =>
      rw [hc] at h
      simp only at h
      unfold callTarget at h
      cases hl : evalL T c.args.toList with
      | none => rw [hl] at h; cases h
      | some args =>
        rw [hl] at h
        simp only [hc] at h
        have hargs := hE.list _ _ hl
        cases hf : evalS T f with
        | none => rw [hf] at h; cases h
        | some s =>
          have hv := hE f s hf
          rw [hf] at h
          cases ht : fnTarget s with
          | none =>
            exfalso
            cases s <;> simp [ht] at h
          | some q =>
            obtain ⟨g, x, y⟩ := q
            obtain ⟨xs, ys, hev, hx, hy⟩ := fnTarget_ok ht hv
            have hny : ∀ l, s ≠ .yld l := by rintro l rfl; simp [fnTarget] at ht
            have h2 : (match (bif mayEnter P g then some (ANx.enter g (x ++ args ++ y)) else none : Option ANx) with
                | some (.enter f args) => some ((.dfr (.call f args), H, nx) : Out)
                | _ => none) = some out := by
              cases s <;> first
                | exact absurd rfl (hny _)
                | (simp only [ht] at h; exact h)
            cases hm : mayEnter P g with
            | false => rw [hm] at h2; cases h2
            | true =>
              rw [hm] at h2
              simp only [cond_true, Option.some.injEq] at h2
              subst h2
              refine ⟨e, w, Env.le_refl e, hS, { target := .fn (.func g) ys, args := xs ++ c.args.map ev }, ⟨_, _, rfl, ?_⟩, ?_⟩
              · have := concL_append (concL_append hx hargs) hy
                simpa using this
              · simp [execOp, hop, resolve, hc, hev, Deferred.ofValue]
  | _ => rw [hop] at h; cases h
end
end Go.Ex
end
section
namespace Go.Ex
open Go Go.Sl Go.RowKit
section
variable {P : Program} {B : Nat} {w0 w : World} {e : Env} {H : Heap} {nx : Nat} {T : Tr SV} {ev : Operand → Value}
theorem run_getObj_any {r : Nat} {o : Obj} (h : w.heap[r]? = some o) (hn : ∀ c t fz, o ≠ .cells c t fz) : (getObj r).run P w = .ok o w := by
  cases o <;> first
    | exact absurd rfl (hn _ _ _)
    | simp [getObj, Sem.run, h]
theorem run_setObj_any {r : Nat} {o : Obj} (o' : Obj) (h : w.heap[r]? = some o) (hn : ∀ c t fz, o ≠ .cells c t fz) : (setObj r o').run P w = .ok () { w with heap := w.heap.setIfInBounds r o' } := by
  cases o <;> first
    | exact absurd rfl (hn _ _ _)
    | simp [setObj, Sem.run, h]
theorem MRel.filter (f : Nat → Bool) : ∀ {l : List (Value × SV × Nat)} {ms : List MapEntry}, MRel e l ms → MRel e (l.filter fun x => f x.2.2) (ms.filter fun m => f m.born)
  | [], [], _ => trivial
  | (k, s, b) :: l, m :: ms, h => by
    obtain ⟨h1, h2, h3, h4⟩ := h
    simp only [List.filter_cons]
    rw [h2]
    cases hb : f b with
    | true => simp only [if_true]; exact ⟨h1, h2, h3, MRel.filter f h4⟩
    | false => simp only [Bool.false_eq_true, if_false]; exact MRel.filter f h4
  | [], _ :: _, h => h.elim
  | (_, _, _) :: _, [], h => by simp [MRel] at h
theorem MRel.app : ∀ {l l' : List (Value × SV × Nat)} {ms ms' : List MapEntry}, MRel e l ms → MRel e l' ms' → MRel e (l ++ l') (ms ++ ms')
  | [], l', [], ms', _, h' => h'
  | (k, s, b) :: l, l', m :: ms, ms', h, h' => ⟨h.1, h.2.1, h.2.2.1, MRel.app h.2.2.2 h'⟩
  | [], _, _ :: _, _, h, _ => h.elim
  | (_, _, _) :: _, _, [], _, h, _ => by simp [MRel] at h
theorem MRel.back : ∀ {l : List (Value × SV × Nat)} {ms : List MapEntry}, MRel e l ms → ∀ {i : Nat} {m : MapEntry}, ms[i]? = some m → ∃ s, l[i]? = some (m.key, s, m.born) ∧ s.conc e = some m.val
  | [], [], _, i, m, hg => by simp at hg
  | (k, s, b) :: l, m' :: ms, h, 0, m, hg => by
    simp only [List.getElem?_cons_zero, Option.some.injEq] at hg
    subst hg
    exact ⟨s, by rw [h.1, h.2.1]; rfl, h.2.2.1⟩
  | (k, s, b) :: l, m' :: ms, h, i + 1, m, hg => by simpa using MRel.back h.2.2.2 (i := i) (by simpa using hg)
  | [], _ :: _, h, _, _, _ => h.elim
  | (_, _, _) :: _, [], h, _, _, _ => by simp [MRel] at h
theorem MRel.all (f : Nat → Bool) : ∀ {l : List (Value × SV × Nat)} {ms : List MapEntry}, MRel e l ms → (l.all fun x => f x.2.2) = ms.all fun m => f m.born
  | [], [], _ => rfl
  | (k, s, b) :: l, m :: ms, h => by simp only [List.all_cons, h.2.1, MRel.all f h.2.2.2]
  | [], _ :: _, h => h.elim
  | (_, _, _) :: _, [], h => by simp [MRel] at h
theorem MRel.empty : ∀ {l : List (Value × SV × Nat)} {ms : List MapEntry}, MRel e l ms → l.isEmpty = ms.isEmpty
  | [], [], _ => rfl
  | (k, s, b) :: l, m :: ms, h => rfl
  | [], _ :: _, h => h.elim
  | (_, _, _) :: _, [], h => by simp [MRel] at h
theorem run_choose_lt (n : Nat) (hn : 0 < n) (hS : St B w0 e H nx w) : ∃ i w1, i < n ∧ (choose (.mapNext n)).run P w = .ok i w1 ∧ w1.heap = w.heap ∧ St B w0 e H nx w1 := by
  by_cases h1 : n ≤ 1
  · exact ⟨0, w, hn, by simp [Question.forced, h1], rfl, hS⟩
  · exact ⟨w.tape w.drawn (.mapNext n) % n, { w with drawn := w.drawn + 1 }, Nat.mod_lt _ hn, by simp [Question.forced, h1, Question.cut], rfl, hS.drew⟩
theorem ge_eq_ble (a b : Nat) : decide (a ≥ b) = Nat.ble b a := by
  cases h : Nat.ble b a with
  | true => exact decide_eq_true (le_of_ble h)
  | false =>
    apply decide_eq_false
    intro hc
    have := Nat.ble_eq_true_of_le hc
    rw [this] at h
    cases h
theorem lt_eq_blt (a b : Nat) : decide (a < b) = Nat.blt a b := by
  cases h : Nat.blt a b with
  | true => exact decide_eq_true (lt_of_blt h)
  | false =>
    apply decide_eq_false
    intro hc
    have : Nat.blt a b = true := Nat.ble_eq_true_of_le hc
    rw [this] at h
    cases h
theorem nextOp_ok {o : Oper} {outs : List Out} (hS : St B w0 e H nx w) (hE : EvRel e T ev) (h : nextOp T H nx o = some outs) : ∃ out, out ∈ outs ∧ Does P B w0 e out ((execOp ev o).run P w) := by
  unfold nextOp at h
  cases hop : o.op with
  | next it isString =>
    rw [hop] at h
    simp only at h
    split at h
    · rename_i r hit
      obtain ⟨y, hy, hv⟩ := conc_ptr (hE it _ hit)
      cases hr : H.at' r with
      | none => rw [hr] at h; cases h
      | some vo =>
        obtain ⟨ob, _, hw, ho⟩ := hS.at hr hy
        rw [hr] at h
        cases vo with
        | siter s pos =>
          cases isString with
          | false => cases h
          | true =>
            obtain ⟨h0, rfl⟩ := ho
            have hg := run_getObj_any (P := P) hw (by simp)
            rw [h0, Nat.add_zero] at hv
            simp only at h
            cases hb : Nat.blt pos s.size with
            | true =>
              rw [hb] at h
              simp only [cond_true, Option.some.injEq] at h
              subst h
              have hlt := lt_of_blt hb
              refine ⟨_, List.mem_cons_self .., e, _, Env.le_refl e, hS.upd (o' := .stringIter s (pos + (Utf8.decode s pos).2)) hr hy (turned_setObj y.blk _) (set_heap_same hw) ⟨h0, rfl⟩, _, rfl, ?_⟩
              simp [execOp, hop, hv, Instr.next, hg, hlt, run_setObj_any _ hw]
            | false =>
              rw [hb] at h
              simp only [cond_false, Option.some.injEq] at h
              subst h
              have hlt : ¬ pos < s.size := by
                intro hc
                have : Nat.blt pos s.size = true := Nat.ble_eq_true_of_le hc
                rw [this] at hb; cases hb
              refine ⟨_, List.mem_cons_self .., e, w, Env.le_refl e, hS, _, rfl, ?_⟩
              simp [execOp, hop, hv, Instr.next, hg, hlt]
        | iter m since seen last =>
          cases isString with
          | true => cases m <;> cases h
          | false =>
            cases m with
            | none =>
              obtain ⟨h0, rfl⟩ := ho
              have hg := run_getObj_any (P := P) hw (by simp)
              rw [h0, Nat.add_zero] at hv
              simp only [Option.some.injEq] at h
              subst h
              refine ⟨_, List.mem_cons_self .., e, w, Env.le_refl e, hS, _, rfl, ?_⟩
              simp [execOp, hop, hv, Instr.next, hg]
            | some m =>
              obtain ⟨h0, z, hz, rfl⟩ := ho
              have hg := run_getObj_any (P := P) hw (by simp)
              rw [h0, Nat.add_zero] at hv
              simp only at h
              cases hm : H.at' m with
              | none => rw [hm] at h; cases h
              | some vm =>
                rw [hm] at h
                cases vm with
                | map l clock =>
                  simp only at h
                  obtain ⟨om, _, hwm, hom⟩ := hS.at hm hz
                  obtain ⟨es, rfl, hmr⟩ := hom
                  obtain ⟨ms, rfl⟩ : ∃ ms : List MapEntry, es = ms.toArray := ⟨es.toList, by simp⟩
                  simp only at hmr
                  have hgm := run_getObj_any (P := P) hwm (by simp)
                  cases hbad : (!seen.isEmpty && !l.isEmpty && l.all (fun x => Nat.ble last x.2.2)) with
                  | true => rw [hbad] at h; cases h
                  | false =>
                    rw [hbad] at h
                    simp only [cond_false, Option.some.injEq] at h
                    have hall := hmr.all (fun b => Nat.ble last b)
                    have hemp := hmr.empty
                    have hbad' : (!seen.toArray.isEmpty && !ms.toArray.isEmpty && ms.toArray.all (fun x => decide (x.born ≥ last))) = false := by
                      rw [← hbad]
                      simp only [List.isEmpty_toArray, List.all_toArray, hemp, hall, ge_eq_ble]
                    have hleft := hmr.filter (fun b => !seen.contains b)
                    have hold := hleft.filter (fun b => Nat.blt b since)
                    have hnew := hleft.filter (fun b => Nat.ble since b)
                    have hcat := hold.app hnew
                    generalize hL : ((l.filter fun x => !seen.contains x.2.2).filter fun x => Nat.blt x.2.2 since) = Lo at *
                    generalize hN : ((l.filter fun x => !seen.contains x.2.2).filter fun x => Nat.ble since x.2.2) = Ln at *
                    generalize hMo : ((ms.filter fun m => !seen.contains m.born).filter fun m => Nat.blt m.born since) = Mo at *
                    generalize hMn : ((ms.filter fun m => !seen.contains m.born).filter fun m => Nat.ble since m.born) = Mn at *
                    have hoe := hold.empty
                    have hcand : 0 < (((if Mo.isEmpty = true then [none] else []) ++ (Mo ++ Mn).map some : List (Option MapEntry))).length := by
                      cases Mo with
                      | nil => simp
                      | cons a b => simp
                    obtain ⟨i, w1, hi, hch, hheap, hS1⟩ := run_choose_lt (P := P) _ hcand hS
                    have hw1 : w1.heap[y.blk]? = some (.mapIter (some z.blk) since seen.toArray last) := by rw [hheap]; exact hw
                    have hfo : (ms.filter fun e => !seen.toArray.contains e.born).filter (fun e => decide (e.born < since)) = Mo := by
                      rw [← hMo]
                      simp [lt_eq_blt]
                    have hfn : (ms.filter fun e => !seen.toArray.contains e.born).filter (fun e => decide (e.born ≥ since)) = Mn := by
                      rw [← hMn]
                      simp [ge_eq_ble]
                    have hcanda : ((if (Array.filter (fun e => decide (e.born < since)) (Array.filter (fun e => !seen.toArray.contains e.born) ms.toArray)).isEmpty = true then #[none] else #[]) ++
                        Array.map some (Array.filter (fun e => decide (e.born < since)) (Array.filter (fun e => !seen.toArray.contains e.born) ms.toArray) ++ Array.filter (fun e => decide (e.born ≥ since)) (Array.filter (fun e => !seen.toArray.contains e.born) ms.toArray)) : Array (Option MapEntry)) =
                        (((if Mo.isEmpty = true then [none] else []) ++ (Mo ++ Mn).map some : List (Option MapEntry))).toArray := by
                      simp only [List.filter_toArray, hfo, hfn]
                      cases Mo <;> simp
                    obtain ⟨c, hc⟩ : ∃ c, (((if Mo.isEmpty = true then [none] else []) ++ (Mo ++ Mn).map some : List (Option MapEntry)))[i]? = some c := ⟨_, List.getElem?_eq_getElem hi⟩
                    have hnext : ∀ res : Result Next, (match c with
                        | some x => res = .ok (.value (.tuple #[.bool true, x.key, x.val])) { w1 with heap := w1.heap.setIfInBounds y.blk (.mapIter (some z.blk) since (seen.toArray.push x.born) clock) }
                        | none => res = .ok (.value (.tuple #[.bool false])) w1) → ∃ out, out ∈ outs ∧ Does P B w0 e out res := by
                      intro res hres
                      cases c with
                      | none =>
                        simp only at hres
                        cases Mo with
                        | cons a b =>
                          exfalso
                          simp only [List.isEmpty_cons, Bool.false_eq_true, if_false, List.nil_append] at hc
                          rw [List.getElem?_map, Option.map_eq_some_iff] at hc
                          obtain ⟨_, _, hc⟩ := hc
                          cases hc
                        | nil =>
                          have : Lo.isEmpty = true := hoe
                          refine ⟨(.val (.sc (.tuple #[.bool false])), H, nx), ?_, e, w1, Env.le_refl e, hS1, _, rfl, hres⟩
                          rw [← h, this]
                          simp
                      | some x =>
                        simp only at hres
                        obtain ⟨j, hj⟩ : ∃ j, (Mo ++ Mn)[j]? = some x := by
                          have : x ∈ Mo ++ Mn := by
                            have hmem := List.mem_of_getElem? hc
                            rcases List.mem_append.1 hmem with hmem | hmem
                            · cases Mo <;> simp at hmem
                            · obtain ⟨x', hx', he⟩ := List.mem_map.1 hmem
                              simp only [Option.some.injEq] at he
                              subst he
                              exact hx'
                          exact List.mem_iff_getElem?.1 this
                        obtain ⟨s, hs1, hs2⟩ := hcat.back hj
                        refine ⟨(.val (.tup [.sc (.bool true), .sc x.key, s]), H.set r (.iter (some m) since (seen ++ [x.born]) clock), nx), ?_, e, _, Env.le_refl e,
                          hS1.upd (o' := .mapIter (some z.blk) since (seen.toArray.push x.born) clock) hr hy (turned_setObj y.blk _) (set_heap_same hw1) ⟨h0, z, hz, by simp⟩, _, by simp [SV.conc, SV.concL, hs2], hres⟩
                        rw [← h]
                        refine List.mem_append_right _ (List.mem_map.2 ⟨_, List.mem_of_getElem? hs1, rfl⟩)
                    refine hnext _ ?_
                    have hs1 := fun o' => run_setObj_any (P := P) o' hw1 (by simp)
                    have hcm : (Sem.run P (Instr.next (.pointer (some ⟨y.blk, 0, none⟩)) false o.type) w) = (match c with
                        | some x => .ok (.tuple #[.bool true, x.key, x.val]) { w1 with heap := w1.heap.setIfInBounds y.blk (.mapIter (some z.blk) since (seen.toArray.push x.born) clock) }
                        | none => .ok (.tuple #[.bool false]) w1) := by
                      simp only [Instr.next, Sem.run_bind, hg, Result.andThen, hgm, hbad', Bool.false_eq_true, if_false, Sem.run_pure]
                      rw [hcanda]
                      simp only [List.size_toArray, hch, Result.andThen, List.getElem?_toArray, hc]
                      cases c with
                      | none => simp
                      | some x => simp [hs1]
                    cases c with
                    | none => simp only at hcm ⊢; simp [execOp, hop, hv, hcm]
                    | some x => simp only at hcm ⊢; simp [execOp, hop, hv, hcm]
                | _ => cases h
        | _ => cases h
    · cases h
  | _ => rw [hop] at h; cases h
theorem anyOp_ok {o : Oper} {outs : List Out} (hS : St B w0 e H nx w) (hE : EvRel e T ev) (h : anyOp P T H nx o = some outs) : ∃ out, out ∈ outs ∧ Does P B w0 e out ((execOp ev o).run P w) := by
  unfold anyOp at h
  cases hr : readOp P T H o with
  | some v =>
    rw [hr] at h
    simp only [Option.some.injEq] at h
    subst h
    obtain ⟨u, hu, hrun⟩ := readOp_ok hS hE hr
    exact ⟨_, List.mem_cons_self .., e, w, Env.le_refl e, hS, u, hu, hrun⟩
  | none =>
    rw [hr] at h
    simp only at h
    cases hp : pureOp P T o with
    | some v =>
      rw [hp] at h
      simp only [Option.some.injEq] at h
      subst h
      obtain ⟨u, hu, hrun⟩ := pureOp_ok hE hp w
      exact ⟨_, List.mem_cons_self .., e, w, Env.le_refl e, hS, u, hu, hrun⟩
    | none =>
      rw [hp] at h
      simp only at h
      cases he : effOp P T H nx o with
      | some r =>
        rw [he] at h
        simp only [Option.some.injEq] at h
        subst h
        exact ⟨_, List.mem_cons_self .., effOp_ok hS hE he⟩
      | none =>
        rw [he] at h
        exact nextOp_ok hS hE h
end
end Go.Ex
end
section
namespace Go.Ex
open Go Go.Sl Go.RowKit
def IRel (e : Env) : AIt → Item → Prop
  | .code c, i => i = .code c
  | .inBlock id, i => i = .inBlock id
  | .inLoop b, i => i = .inLoop b
  | .inScope b, i => i = .inScope b
  | .inReg ops k l, i => i = .inRegion ops (List.range' k (ops.size - k)) ∧ l = ops.toList.drop k
  | .inRange l, i => ∃ x, e l = some x ∧ i = .inRangeFunc x.blk
  | .endRange l, i => ∃ x, e l = some x ∧ i = .endRangeFunc x.blk
  | .beginRound, i => i = .beginRound
def IsRel (e : Env) : List AIt → List Item → Prop
  | [], [] => True
  | a :: l, i :: m => IRel e a i ∧ IsRel e l m
  | _, _ => False
theorem IRel.mono {e e' : Env} (h : e.le e') {a : AIt} {i : Item} (hr : IRel e a i) : IRel e' a i := by
  cases a <;> first
    | exact hr
    | (obtain ⟨x, hx, hi⟩ := hr; exact ⟨x, h _ _ hx, hi⟩)
theorem IsRel.mono {e e' : Env} (h : e.le e') : ∀ {l : List AIt} {m : List Item}, IsRel e l m → IsRel e' l m
  | [], [], _ => trivial
  | _ :: _, _ :: _, hr => ⟨hr.1.mono h, IsRel.mono h hr.2⟩
  | [], _ :: _, hr => hr.elim
  | _ :: _, [], hr => hr.elim
theorem IsRel.cons {e : Env} {a : AIt} {l : List AIt} {m : List Item} (h : IsRel e (a :: l) m) : ∃ i m', m = i :: m' ∧ IRel e a i ∧ IsRel e l m' := by
  cases m with
  | nil => exact h.elim
  | cons i m' => exact ⟨i, m', rfl, h.1, h.2⟩
theorem IsRel.nil {e : Env} {m : List Item} (h : IsRel e [] m) : m = [] := by
  cases m with
  | nil => rfl
  | cons i m' => exact h.elim
theorem exitS_ok {e : Env} {id : Nat} : ∀ {l : List AIt} {m : List Item}, IsRel e l m → (∀ l', exitS id l = some l' → ∃ m', exitTo id m = some m' ∧ IsRel e l' m') ∧ (exitS id l = none → exitTo id m = none)
  | [], m, h => by
    have := h.nil
    subst this
    exact ⟨fun l' hl => by simp [exitS] at hl, fun _ => rfl⟩
  | a :: l, m, h => by
    obtain ⟨i, m', rfl, ha, hl⟩ := h.cons
    have ih := exitS_ok (id := id) hl
    cases a with
    | inBlock id' =>
      simp only [IRel] at ha
      subst ha
      simp only [exitS, exitTo]
      cases hb : Nat.beq id' id with
      | true =>
        have := eq_of_beq hb
        subst this
        simp only [cond_true, beq_self_eq_true, if_true]
        exact ⟨fun l' hl' => ⟨m', rfl, by simp only [Option.some.injEq] at hl'; subst hl'; exact hl⟩, fun hn => by cases hn⟩
      | false =>
        have : (id' == id) = false := by
          rw [beq_eq_false_iff_ne]
          rintro rfl
          rw [show Nat.beq id' id' = true from Nat.beq_refl id'] at hb
          cases hb
        simp only [cond_false, this, Bool.false_eq_true, if_false]
        exact ih
    | inReg ops k l2 => obtain ⟨rfl, _⟩ := ha; exact ih
    | inRange l2 => obtain ⟨x, _, rfl⟩ := ha; exact ih
    | endRange l2 => obtain ⟨x, _, rfl⟩ := ha; exact ih
    | _ => simp only [IRel] at ha; subst ha; exact ih
theorem gotoS_ok {e : Env} {id : Nat} : ∀ {l : List AIt} {m : List Item}, IsRel e l m → (∀ l', gotoS id l = some l' → ∃ m', gotoIn id m = some m' ∧ IsRel e l' m') ∧ (gotoS id l = none → gotoIn id m = none)
  | [], m, h => by
    have := h.nil
    subst this
    exact ⟨fun l' hl => by simp [gotoS] at hl, fun _ => rfl⟩
  | a :: l, m, h => by
    obtain ⟨i, m', rfl, ha, hl⟩ := h.cons
    have ih := gotoS_ok (id := id) hl
    cases a with
    | inScope b =>
      simp only [IRel] at ha
      subst ha
      simp only [gotoS, gotoIn]
      cases hf : findLabel b id with
      | some rest =>
        simp only
        exact ⟨fun l' hl' => ⟨_, rfl, by simp only [Option.some.injEq] at hl'; subst hl'; exact ⟨rfl, rfl, hl⟩⟩, fun hn => by cases hn⟩
      | none => exact ih
    | inReg ops k l2 => obtain ⟨rfl, _⟩ := ha; exact ih
    | inRange l2 => obtain ⟨x, _, rfl⟩ := ha; exact ih
    | endRange l2 => obtain ⟨x, _, rfl⟩ := ha; exact ih
    | _ => simp only [IRel] at ha; subst ha; exact ih
structure FRel (e : Env) (s : FrS) (fr : Frame) : Prop where
  fn : fr.fn = s.fn
  tmps : TRel e s.nt s.T fr.tmps
  todo : IsRel e s.todo fr.todo
  dfs : DsRel e s.dfs fr.defers
theorem FRel.mono {e e' : Env} (h : e.le e') {s : FrS} {fr : Frame} (hr : FRel e s fr) : FRel e' s fr := ⟨hr.fn, hr.tmps.mono h, hr.todo.mono h, hr.dfs.mono h⟩
theorem TRel.put {e : Env} {nt : Nat} {T : Tr SV} {tmps : Array Value} (h : TRel e nt T tmps) {s : SV} {v : Value} (hv : s.conc e = some v) (d : Tmp) : TRel e nt (putS nt T (some d) s) (tmps.setIfInBounds d v) := by
  refine ⟨by simpa using h.1, fun t u hu => ?_⟩
  simp only [putS] at hu
  cases hb : Nat.blt d nt with
  | true =>
    rw [hb] at hu
    simp only [cond_true] at hu
    have hlt := lt_of_blt hb
    rcases Tr.at_set hu with ⟨rfl, rfl⟩ | ⟨hne, hu⟩
    · refine ⟨v, hv, ?_⟩
      rw [Array.getD_eq_getD_getElem?, Array.getElem?_setIfInBounds_self_of_lt (by rw [h.1]; exact hlt)]
      rfl
    · obtain ⟨v', hv', hg⟩ := h.2 t u hu
      refine ⟨v', hv', ?_⟩
      rw [Array.getD_eq_getD_getElem?, Array.getElem?_setIfInBounds_ne (Ne.symm hne), ← Array.getD_eq_getD_getElem?]
      exact hg
  | false =>
    rw [hb] at hu
    simp only [cond_false] at hu
    obtain ⟨v', hv', hg⟩ := h.2 t u hu
    refine ⟨v', hv', ?_⟩
    have : tmps.size ≤ d := by
      rw [h.1]
      rcases Nat.lt_or_ge d nt with h' | h'
      · have : Nat.blt d nt = true := Nat.ble_eq_true_of_le h'
        rw [this] at hb; cases hb
      · exact h'
    rw [Array.setIfInBounds_eq_of_size_le this]
    exact hg
def putV (tmps : Array Value) (dst : Option Tmp) (v : Value) : Array Value := match dst with
  | some d => tmps.setIfInBounds d v
  | none => tmps
theorem TRel.putO {e : Env} {nt : Nat} {T : Tr SV} {tmps : Array Value} (h : TRel e nt T tmps) {s : SV} {v : Value} (hv : s.conc e = some v) (dst : Option Tmp) : TRel e nt (putS nt T dst s) (putV tmps dst v) := by
  cases dst with
  | none => exact h
  | some d => exact h.put hv d
theorem TRel.fold {e : Env} {nt : Nat} : ∀ {ps : List Tmp} {ss : List SV} {vs : List Value} {T : Tr SV} {tmps : Array Value}, SV.concL e ss = some vs → TRel e nt T tmps →
    TRel e nt ((ps.zip ss).foldl (fun T x => putS nt T (some x.1) x.2) T) ((ps.zip vs).foldl (fun tmps x => tmps.setIfInBounds x.1 x.2) tmps)
  | [], ss, vs, T, tmps, hc, h => by simpa using h
  | p :: ps, [], vs, T, tmps, hc, h => by
    simp only [SV.concL, Option.some.injEq] at hc
    subst hc
    simpa using h
  | p :: ps, s :: ss, vs, T, tmps, hc, h => by
    obtain ⟨v, ws, rfl, hv, hl⟩ := concL_cons hc
    simp only [List.zip_cons_cons, List.foldl_cons]
    exact TRel.fold hl (h.put hv p)
theorem enterT_at : ∀ (l : List SV) (T : Tr SV) (i t : Nat) (s : SV), (enterT T i l).at' t = some s → (i ≤ t ∧ l[t - i]? = some s) ∨ T.at' t = some s
  | [], T, i, t, s, h => .inr h
  | x :: l, T, i, t, s, h => by
    rcases enterT_at l (T.set i x) (i + 1) t s h with ⟨h1, h2⟩ | h
    · refine .inl ⟨by omega, ?_⟩
      rw [show t - i = (t - (i + 1)) + 1 by omega]
      simpa using h2
    · rcases Tr.at_set h with ⟨rfl, rfl⟩ | ⟨_, h⟩
      · exact .inl ⟨Nat.le_refl _, by simp⟩
      · exact .inr h
theorem enter_rel {e : Env} {args : List SV} {vs : Array Value} (hc : SV.concL e args = some vs.toList) (n : Nat) : TRel e (max args.length n) (enterT .nil 0 args) (vs ++ Array.replicate (n - vs.size) undef) := by
  have hl := concL_length hc
  simp only [Array.length_toList] at hl
  refine ⟨by simp only [Array.size_append, Array.size_replicate]; omega, fun t s hs => ?_⟩
  rcases enterT_at args .nil 0 t s hs with ⟨_, h⟩ | h
  · obtain ⟨v, hv, hg⟩ := concL_get hc h
    refine ⟨v, hv, ?_⟩
    simp only [Nat.sub_zero] at hg h
    have hlt : t < vs.size := by
      have := (List.getElem?_eq_some_iff.1 hg).1
      simpa using this
    rw [Array.getD_eq_getD_getElem?, Array.getElem?_append_left hlt]
    simp only [Array.getElem?_toList] at hg
    rw [hg]
    rfl
  · rw [Tr.at_nil] at h; cases h
section
variable {P : Program} {fn : FuncId} {tmps : Array Value} {k : List Item} {ds : List Deferred} {kd : CallKind} {ro : Option Nat} {cs : List Frame} {w : World}
def fr0 (fn : FuncId) (tmps : Array Value) (todo : List Item) (ds : List Deferred) (kd : CallKind) (ro : Option Nat) : Frame := { fn := fn, tmps := tmps, todo := todo, defers := ds, mode := .run, kind := kd, roundOf := ro }
theorem st_skip : step P (lone (fr0 fn tmps (.code .skip :: k) ds kd ro) cs w) = .next (lone (fr0 fn tmps k ds kd ro) cs w) := step_lone_go (by simp [stepG, stepG.exec, fr0])
theorem st_label {l : Nat} : step P (lone (fr0 fn tmps (.code (.label l) :: k) ds kd ro) cs w) = .next (lone (fr0 fn tmps k ds kd ro) cs w) := step_lone_go (by simp [stepG, stepG.exec, fr0])
theorem st_inBlock {l : Nat} : step P (lone (fr0 fn tmps (.inBlock l :: k) ds kd ro) cs w) = .next (lone (fr0 fn tmps k ds kd ro) cs w) := step_lone_go (by simp [stepG, stepG.exec, fr0])
theorem st_inScope {b : Code} : step P (lone (fr0 fn tmps (.inScope b :: k) ds kd ro) cs w) = .next (lone (fr0 fn tmps k ds kd ro) cs w) := step_lone_go (by simp [stepG, stepG.exec, fr0])
theorem st_seq {a b : Code} : step P (lone (fr0 fn tmps (.code (.seq a b) :: k) ds kd ro) cs w) = .next (lone (fr0 fn tmps (.code a :: .code b :: k) ds kd ro) cs w) := step_lone_go (by simp [stepG, stepG.exec, fr0])
theorem st_block {id : Nat} {b : Code} : step P (lone (fr0 fn tmps (.code (.block id b) :: k) ds kd ro) cs w) = .next (lone (fr0 fn tmps (.code b :: .inBlock id :: k) ds kd ro) cs w) := step_lone_go (by simp [stepG, stepG.exec, fr0])
theorem st_loop {b : Code} : step P (lone (fr0 fn tmps (.code (.loop b) :: k) ds kd ro) cs w) = .next (lone (fr0 fn tmps (.code b :: .inLoop b :: k) ds kd ro) cs w) := step_lone_go (by simp [stepG, stepG.exec, fr0])
theorem st_inLoop {b : Code} : step P (lone (fr0 fn tmps (.inLoop b :: k) ds kd ro) cs w) = .next (lone (fr0 fn tmps (.code b :: .inLoop b :: k) ds kd ro) cs w) := step_lone_go (by simp [stepG, stepG.exec, fr0])
theorem st_scope {b : Code} : step P (lone (fr0 fn tmps (.code (.scope b) :: k) ds kd ro) cs w) = .next (lone (fr0 fn tmps (.code b :: .inScope b :: k) ds kd ro) cs w) := step_lone_go (by simp [stepG, stepG.exec, fr0])
theorem st_cond {c : Operand} {a b : Code} {t : Bool} (h : (fr0 fn tmps (.code (.cond c a b) :: k) ds kd ro).eval c = .bool t) : step P (lone (fr0 fn tmps (.code (.cond c a b) :: k) ds kd ro) cs w) = .next (lone (fr0 fn tmps (.code (if t then a else b) :: k) ds kd ro) cs w) := by
  unfold fr0 at h ⊢
  exact step_lone_go (by simp [stepG, stepG.exec, h])
theorem st_exit {id : Nat} {k' : List Item} (h : exitTo id k = some k') : step P (lone (fr0 fn tmps (.code (.exit id) :: k) ds kd ro) cs w) = .next (lone (fr0 fn tmps k' ds kd ro) cs w) := step_lone_go (by simp [stepG, stepG.exec, fr0, h])
theorem st_goto {id : Nat} {k' : List Item} (h : gotoIn id k = some k') : step P (lone (fr0 fn tmps (.code (.goto id) :: k) ds kd ro) cs w) = .next (lone (fr0 fn tmps k' ds kd ro) cs w) := step_lone_go (by simp [stepG, stepG.exec, fr0, h])
theorem st_region {id : Nat} {ops : Array Oper} : step P (lone (fr0 fn tmps (.code (.region id ops false) :: k) ds kd ro) cs w) = .next (lone (fr0 fn tmps (.inRegion ops (List.range' 0 ops.size) :: k) ds kd ro) cs w) :=
  step_lone_go (by simp [stepG, stepG.exec, fr0, List.range_eq_range'])
theorem st_regionEnd {ops : Array Oper} : step P (lone (fr0 fn tmps (.inRegion ops [] :: k) ds kd ro) cs w) = .next (lone (fr0 fn tmps k ds kd ro) cs w) := step_lone_go (by simp [stepG, stepG.exec, fr0])
theorem st_draw {id : Nat} {ops : Array Oper} : step P (lone (fr0 fn tmps (.code (.region id ops true) :: k) ds kd ro) cs w) =
    .next (lone (fr0 fn tmps (.inRegion ops (Region.schedule (P.follows .mixedOrders) ops (w.tape w.drawn (.order fn id))) :: k) ds kd ro) cs { w with drawn := w.drawn + 1 }) :=
  step_lone_go (by simp [stepG, stepG.exec, fr0, choose, Sem.run, Question.forced, Question.cut])
def frL (fn : FuncId) (tmps : Array Value) (todo : List Item) (ds : List Deferred) (kd : CallKind) : Frame := { fn := fn, tmps := tmps, todo := todo, defers := ds, mode := .returning, kind := kd, roundOf := none }
theorem st_ret : step P (lone (fr0 fn tmps (.code .ret :: k) ds kd none) cs w) = .next (lone (frL fn tmps (.code .ret :: k) ds kd) cs w) := step_lone_go (by simp [stepG, stepG.exec, fr0, frL])
theorem st_end : step P (lone (fr0 fn tmps [] ds kd none) cs w) = .next (lone (frL fn tmps [] ds kd) cs w) := step_lone_go (by simp [stepG, stepG.exec, fr0, frL])
def leaves (jump : Option Code) (todo : List Item) : Prop :=
  (todo = [] ∧ jump = none) ∨ (∃ k, todo = .code .ret :: k ∧ jump = some .ret) ∨ (∃ id k, todo = .code (.exit id) :: k ∧ exitTo id k = none ∧ jump = some (.exit id)) ∨ (∃ id k, todo = .code (.goto id) :: k ∧ gotoIn id k = none ∧ jump = some (.goto id))
theorem st_leave {l : Nat} {jump : Option Code} {todo : List Item} {c : Frame} {v : Value} {w' : World} (h : leaves jump todo) (hr : (Instr.endRound l jump).run P w = .ok v w') :
    step P (lone (fr0 fn tmps todo ds .normal (some l)) (c :: cs) w) = .next (lone (c.finish v) cs w') := by
  rcases h with ⟨rfl, rfl⟩ | ⟨k, rfl, rfl⟩ | ⟨id, k, rfl, hx, rfl⟩ | ⟨id, k, rfl, hx, rfl⟩
  · exact step_lone_go (by simp [stepG, stepG.exec, fr0, hr, doReturn])
  · exact step_lone_go (by simp [stepG, stepG.exec, fr0, hr, doReturn])
  · exact step_lone_go (by simp [stepG, stepG.exec, fr0, hx, hr, doReturn])
  · exact step_lone_go (by simp [stepG, stepG.exec, fr0, hx, hr, doReturn])
theorem st_notWanted {ops : Array Oper} {i : Nat} {rest : List Nat} {o : Oper} (ho : ops[i]? = some o) (hw : Region.wanted o (yielded ops tmps) = false) :
    step P (lone (fr0 fn tmps (.inRegion ops (i :: rest) :: k) ds kd ro) cs w) = .next (lone (fr0 fn (putV tmps o.dst undef) (.inRegion ops rest :: k) ds kd ro) cs w) := by
  refine step_lone_go ?_
  simp only [fr0, stepG, stepG.exec, ho, Option.map_some, Option.getD_some, hw, Bool.false_eq_true, if_false, GStep.bare_go, Frame.finish, Option.bind_some]
  cases o.dst <;> rfl
theorem stepG_oper {ops : Array Oper} {i : Nat} {rest : List Nat} {o : Oper} (ho : ops[i]? = some o) (hw : Region.wanted o (yielded ops tmps) = true) (hd : ro = none ∨ ∀ c, o.op ≠ .defer c) :
    stepG P true { frame := fr0 fn tmps (.inRegion ops (i :: rest) :: k) ds kd ro, callers := cs, status := .running, dying := none } w =
      stepG.apply P true (fr0 fn tmps (.inRegion ops (i :: rest) :: k) ds kd ro) cs none (execOp (fr0 fn tmps (.inRegion ops (i :: rest) :: k) ds kd ro).eval o) w := by
  simp only [fr0, stepG, stepG.exec, ho, Option.map_some, Option.getD_some, hw, if_true, stepG.oper, Frame.oper?]
  rcases hd with rfl | hd
  · rfl
  · cases ro with
    | none => rfl
    | some l =>
      cases hop : o.op <;> first
        | exact absurd hop (hd _)
        | rfl
theorem finish_region {ops : Array Oper} {i : Nat} {rest : List Nat} {o : Oper} (ho : ops[i]? = some o) (v : Value) :
    (fr0 fn tmps (.inRegion ops (i :: rest) :: k) ds kd ro).finish v = fr0 fn (putV tmps o.dst v) (.inRegion ops rest :: k) ds kd ro := by
  simp only [fr0, Frame.finish, ho, Option.bind_some]
  cases o.dst <;> rfl
end
end Go.Ex
end
section
namespace Go.Ex
open Go Go.Sl Go.RowKit
section
variable (P : Program) (B : Nat) (w0 : World)
def RetOK (fr : Frame) (cs : List Frame) (w : World) (v : Value) (w' : World) : Prop :=
  ∃ tmps todo, Steps P (lone fr cs w) (lone (frL fr.fn tmps todo [] fr.kind) cs w') ∧ ∃ fn, P.funcs[fr.fn]? = some fn ∧ (results fn tmps).run P w' = .ok v w'
def FrOK (e : Env) (ro : Option Nat) (fr : Frame) (cs : List Frame) (w : World) (outs : List Res) : Prop :=
  ∃ r, r ∈ outs ∧ ∃ e' w' v, e.le e' ∧ St B w0 e' r.2.1 r.2.2 w' ∧ r.1.conc e' = some v ∧
    match ro with
    | none => RetOK P fr cs w v w'
    | some _ => ∃ c cs', cs = c :: cs' ∧ Steps P (lone fr cs w) (lone (c.finish v) cs' w')
def Ctx (e : Env) (ro : Option Nat) (kd : CallKind) (rof : Option Nat) (cs : List Frame) : Prop :=
  match ro with
  | none => rof = none ∧ (kd = .normal ∨ (kd = .deferred ∧ ∃ c cs', cs = c :: cs' ∧ c.mode = .returning))
  | some l => ∃ x, e l = some x ∧ rof = some x.blk ∧ kd = .normal ∧ ∃ c cs', cs = c :: cs'
def RunOK (rn : Rn) : Prop :=
  ∀ ro s outs, rn ro false s = some outs → ∀ e w tmps todo ds kd rof cs, St B w0 e s.hp s.nx w → TRel e s.nt s.T tmps → IsRel e s.todo todo → DsRel e s.dfs ds → Ctx e ro kd rof cs →
    FrOK P B w0 e ro (fr0 s.fn tmps todo ds kd rof) cs w outs
def LeaveOK (rn : Rn) : Prop :=
  ∀ s outs, rn none true s = some outs → ∀ e w tmps todo ds kd cs, St B w0 e s.hp s.nx w → TRel e s.nt s.T tmps → DsRel e s.dfs ds → Ctx e none kd none cs →
    FrOK P B w0 e none (frL s.fn tmps todo ds kd) cs w outs
end
section
variable {P : Program} {B : Nat} {w0 w : World} {e : Env} {H : Heap} {nx : Nat} {rn : Rn}
theorem Ctx.mono {e e' : Env} (h : e.le e') {ro : Option Nat} {kd : CallKind} {rof : Option Nat} {cs : List Frame} (hc : Ctx e ro kd rof cs) : Ctx e' ro kd rof cs := by
  cases ro with
  | none => exact hc
  | some l => obtain ⟨x, hx, h1⟩ := hc; exact ⟨x, h _ _ hx, h1⟩
theorem FrOK.pre {e1 : Env} {ro : Option Nat} {fr fr1 : Frame} {cs : List Frame} {w1 : World} {outs outs1 : List Res} (hs : Steps P (lone fr cs w) (lone fr1 cs w1)) (he : e.le e1) (h : FrOK P B w0 e1 ro fr1 cs w1 outs1)
    (hfn : fr1.fn = fr.fn) (hk : fr1.kind = fr.kind) (hsub : ∀ r ∈ outs1, r ∈ outs) : FrOK P B w0 e ro fr cs w outs := by
  obtain ⟨r, hr, e', w', v, h1, h2, h3, h4⟩ := h
  refine ⟨r, hsub r hr, e', w', v, Env.le_trans he h1, h2, h3, ?_⟩
  cases ro with
  | none =>
    obtain ⟨tmps, todo, g1, fn, g2, g3⟩ := h4
    rw [hfn, hk] at g1
    rw [hfn] at g2
    exact ⟨tmps, todo, hs.trans g1, fn, g2, g3⟩
  | some l =>
    obtain ⟨c, cs', hc, g1⟩ := h4
    exact ⟨c, cs', hc, hs.trans g1⟩
theorem flat_mem {A : Type} {f : A → Option (List Res)} : ∀ {l : List A} {outs : List Res}, flat f l = some outs → ∀ x ∈ l, ∃ r, f x = some r ∧ ∀ y ∈ r, y ∈ outs
  | [], outs, _, x, hx => by cases hx
  | a :: l, outs, h, x, hx => by
    simp only [flat] at h
    cases ha : f a with
    | none => rw [ha] at h; cases h
    | some r =>
      rw [ha] at h
      simp only at h
      cases hl : flat f l with
      | none => rw [hl] at h; cases h
      | some r' =>
        rw [hl] at h
        simp only [Option.some.injEq] at h
        subst h
        rcases List.mem_cons.1 hx with rfl | hx
        · exact ⟨r, ha, fun y hy => List.mem_append_left _ hy⟩
        · obtain ⟨r2, g1, g2⟩ := flat_mem hl x hx
          exact ⟨r2, g1, fun y hy => List.mem_append_right _ (g2 y hy)⟩
theorem callS_ok (hrn : RunOK P B w0 rn) {g : FuncId} {args : List SV} {vs : Array Value} {outs : List Res} (h : callS P rn g args H nx = some outs) (hS : St B w0 e H nx w) (hargs : SV.concL e args = some vs.toList)
    {kd : CallKind} {cs : List Frame} (hc : Ctx e none kd none cs) : FrOK P B w0 e none (Frame.enter P g vs kd) cs w outs := by
  unfold callS bodyOf at h
  cases hf : P.funcs[g]? with
  | none => rw [hf] at h; cases h
  | some fn =>
    rw [hf] at h
    simp only at h
    cases hb : fn.body with
    | none => rw [hb] at h; cases h
    | some c =>
      rw [hb] at h
      simp only at h
      have := hrn _ _ _ h e w (vs ++ Array.replicate (fn.ntmps - vs.size) undef) [.code c] [] kd none cs hS
        (by simp only [ntOf, hf]; exact enter_rel hargs fn.ntmps) ⟨rfl, trivial⟩ trivial hc
      have he : Frame.enter P g vs kd = fr0 g (vs ++ Array.replicate (fn.ntmps - vs.size) undef) [.code c] [] kd none := by
        simp [Frame.enter, fr0, hf, hb]
      rw [he]
      exact this
theorem call_back {g : FuncId} {vs : Array Value} {fr : Frame} {cs : List Frame} {outs : List Res} (h : FrOK P B w0 e none (Frame.enter P g vs .normal) (fr :: cs) w outs) :
    ∃ r, r ∈ outs ∧ ∃ e' w' v, e.le e' ∧ St B w0 e' r.2.1 r.2.2 w' ∧ r.1.conc e' = some v ∧ Steps P (lone (Frame.enter P g vs .normal) (fr :: cs) w) (lone (fr.finish v) cs w') := by
  obtain ⟨r, hr, e', w', v, h1, h2, h3, tmps, todo, g1, fn, g2, g3⟩ := h
  refine ⟨r, hr, e', w', v, h1, h2, h3, g1.trans (.one (step_leave_returned ⟨rfl, rfl, rfl, fn, g2, g3⟩))⟩
theorem deferred_back {g : FuncId} {vs : Array Value} {fr : Frame} {cs : List Frame} {outs : List Res} (hm : fr.mode = .returning) (h : FrOK P B w0 e none (Frame.enter P g vs .deferred) (fr :: cs) w outs) :
    ∃ r, r ∈ outs ∧ ∃ e' w', e.le e' ∧ St B w0 e' r.2.1 r.2.2 w' ∧ Steps P (lone (Frame.enter P g vs .deferred) (fr :: cs) w) (lone fr cs w') := by
  obtain ⟨r, hr, e', w', v, h1, h2, h3, tmps, todo, g1, fn, g2, g3⟩ := h
  refine ⟨r, hr, e', w', h1, h2, g1.trans (.one (step_lone_go ?_))⟩
  have hk : (Frame.enter P g vs .deferred).kind = .deferred := rfl
  have hfn : (Frame.enter P g vs .deferred).fn = g := rfl
  rw [hfn] at g2
  simp [stepG, unwind, doReturn, frL, hfn, g2, g3, hk, hm]
theorem conc_loop {l : Nat} {st : LoopState} {pend : Option Code} {fn : FuncId} {nt : Nat} {T : Tr SV} {params : Array Tmp} {assign body : Code} {dr : Nat} {x : Ent} (hS : St B w0 e H nx w) (hl : H.at' l = some (.loop st pend fn nt T params assign body dr)) (hx : e l = some x) :
    ∃ tmps y, e dr = some y ∧ TRel e nt T tmps ∧ w.heap[x.blk]? = some (.loop { state := st, pending := pend, fn := fn, tmps := tmps, params := params, assign := assign, body := body, defers := y.blk }) := by
  obtain ⟨o, _, hw, ho⟩ := hS.at hl hx
  obtain ⟨tmps, y, h1, h2, rfl⟩ := ho
  exact ⟨tmps, y, h1, h2, hw⟩
theorem roundS_ok (hrn : RunOK P B w0 rn) {l : Nat} {args : List SV} {vs : List Value} {outs : List Res} {x : Ent} (h : roundS rn l args H nx = some outs) (hS : St B w0 e H nx w) (hargs : SV.concL e args = some vs) (hx : e l = some x) :
    ∃ fn tmps assign body, (Instr.yield x.blk vs.toArray).run P w = .ok (.round x.blk fn tmps assign body) w ∧ ∀ (fr : Frame) (cs : List Frame),
      ∃ r, r ∈ outs ∧ ∃ e' w' v, e.le e' ∧ St B w0 e' r.2.1 r.2.2 w' ∧ r.1.conc e' = some v ∧ Steps P (lone (Frame.round x.blk fn tmps assign body .normal) (fr :: cs) w) (lone (fr.finish v) cs w') := by
  unfold roundS at h
  split at h
  · rename_i st pend fn nt T params assign body dr hl
    obtain ⟨tmps, y, hy, hT, hw⟩ := conc_loop hS hl hx
    cases hb : Nat.beq params.size args.length with
    | false => rw [hb] at h; cases h
    | true =>
      rw [hb] at h
      simp only [cond_true] at h
      have hsz := eq_of_beq hb
      have hlen := concL_length hargs
      refine ⟨fn, (params.zip vs.toArray).foldl (fun tmps (t, a) => tmps.setIfInBounds t a) tmps, assign, body, ?_, fun fr cs => ?_⟩
      · have hg := run_getObj_any (P := P) hw (by simp)
        have hne : ¬ (vs.toArray.size ≠ params.size) := by simp; omega
        simp only [Instr.yield, Instr.getLoop, Sem.run_bind, hg, Result.andThen, Sem.run_pure]
        rw [if_neg hne]
        rfl
      · have hfold : (params.zip vs.toArray).foldl (fun tmps (t, a) => tmps.setIfInBounds t a) tmps = (params.toList.zip vs).foldl (fun tmps x => tmps.setIfInBounds x.1 x.2) tmps := by
          rw [← Array.foldl_toList]
          simp
        have := hrn _ _ _ h e w _ [.code assign, .beginRound, .code body] [] .normal (some x.blk) (fr :: cs) hS (hT.fold hargs) ⟨rfl, rfl, rfl, trivial⟩ trivial ⟨x, hx, rfl, rfl, fr, cs, rfl⟩
        obtain ⟨r, hr, e', w', v, h1, h2, h3, c, cs', hc, g⟩ := this
        simp only [List.cons.injEq] at hc
        obtain ⟨rfl, rfl⟩ := hc
        refine ⟨r, hr, e', w', v, h1, h2, h3, ?_⟩
        rw [hfold]
        exact g
  · cases h
end
end Go.Ex
end
section
namespace Go.Ex
open Go Go.Sl Go.RowKit
section
variable {P : Program} {B : Nat} {w0 w : World} {e : Env} {H : Heap} {nx : Nat} {rn : Rn}
def DrawOK (P : Program) (B : Nat) (w0 : World) (rn : Rn) : Prop :=
  ∀ ops nt T H nx T' H' nx', drawRegion P rn ops nt T H nx = some (T', H', nx') → ∀ e w tmps, St B w0 e H nx w → TRel e nt T tmps → ∀ (t fn : Nat) (k : List Item) (ds : List Deferred) (kd : CallKind) (rof : Option Nat) (cs : List Frame),
    ∃ e' w' tmps', e.le e' ∧ St B w0 e' H' nx' w' ∧ TRel e' nt T' tmps' ∧
      Steps P (lone (fr0 fn tmps (.inRegion ops (Region.schedule (P.follows .mixedOrders) ops t) :: k) ds kd rof) cs w) (lone (fr0 fn tmps' (.inRegion ops [] :: k) ds kd rof) cs w')
def rvF (tmps : Array Value) : ResultVar → Sem Value
  | .tmp t => pure (tmps.getD t undef)
  | .cell a t => do loadVar t (← asAddr (tmps.getD a undef))
theorem results_eq (fn : Func) (tmps : Array Value) : results fn tmps = (do
    let vs ← fn.results.mapM (rvF tmps)
    pure (if h : vs.size = 1 then vs[0] else .tuple vs)) := rfl
theorem resS_ok (hS : St B w0 e H nx w) {nt : Nat} {T : Tr SV} {tmps : Array Value} (hT : TRel e nt T tmps) : ∀ (l : List ResultVar) (ss : List SV), resS P H T l = some ss →
    ∃ vs, SV.concL e ss = some vs ∧ (l.mapM (rvF tmps)).run P w = .ok vs w
  | [], ss, h => by
    simp only [resS, Option.some.injEq] at h
    subst h
    exact ⟨[], rfl, by simp⟩
  | .tmp t :: l, ss, h => by
    simp only [resS] at h
    cases ht : T.at' t with
    | none => rw [ht] at h; cases h
    | some s =>
      rw [ht] at h
      simp only at h
      cases hl : resS P H T l with
      | none => rw [hl] at h; cases h
      | some r =>
        rw [hl] at h
        simp only [Option.some.injEq] at h
        subst h
        obtain ⟨v, hv, hg⟩ := hT.2 t s ht
        obtain ⟨vs, h1, h2⟩ := resS_ok hS hT l r hl
        refine ⟨v :: vs, concL_cons_mk hv h1, ?_⟩
        rw [List.mapM_cons]
        have h0 : (rvF tmps (.tmp t)).run P w = .ok v w := by show (pure (tmps.getD t undef) : Sem Value).run P w = _; rw [hg]; rfl
        simp only [Sem.run_bind, h0, Result.andThen, h2, Sem.run_pure]
  | .cell a t :: l, ss, h => by
    simp only [resS] at h
    split at h
    · rename_i b o ha
      obtain ⟨v0, hv0, hg⟩ := hT.2 a _ ha
      obtain ⟨x, hx, rfl⟩ := conc_ptr hv0
      have key : ∀ s, loadS P H t b o = some s → ∃ u, s.conc e = some u ∧ (rvF tmps (.cell a t)).run P w = .ok u w := by
        intro s hs
        obtain ⟨u, hu, hr⟩ := loadS_ok (P := P) hS hs hx
        exact ⟨u, hu, by show (do loadVar t (← asAddr (tmps.getD a undef)) : Sem Value).run P w = _; rw [hg]; simp [asAddr, hr]⟩
      have fin : ∀ s r, loadS P H t b o = some s → resS P H T l = some r → ss = s :: r → ∃ vs, SV.concL e ss = some vs ∧ ((ResultVar.cell a t :: l).mapM (rvF tmps)).run P w = .ok vs w := by
        intro s r hs hr hss
        subst hss
        obtain ⟨u, hu, hru⟩ := key s hs
        obtain ⟨vs, h1, h2⟩ := resS_ok hS hT l r hr
        refine ⟨u :: vs, concL_cons_mk hu h1, ?_⟩
        rw [List.mapM_cons]
        simp only [Sem.run_bind, hru, Result.andThen, h2, Sem.run_pure]
      cases hb : H.at' b with
      | none => rw [hb] at h; cases h
      | some vo =>
        rw [hb] at h
        cases hag : aggSize P t with
        | none => rw [hag] at h; cases h
        | some q =>
          rw [hag] at h
          cases q with
          | none =>
            simp only at h
            cases hc : vo.cell o with
            | none => rw [hc] at h; cases h
            | some s =>
              cases hl : resS P H T l with
              | none => rw [hc, hl] at h; cases h
              | some r =>
                rw [hc, hl] at h
                simp only [Option.some.injEq] at h
                exact fin s r (by simp [loadS, hb, hag, hc]) hl h.symm
          | some n =>
            simp only at h
            cases hc : vo.cellsFrom o n with
            | none => rw [hc] at h; cases h
            | some s =>
              cases hl : resS P H T l with
              | none => rw [hc, hl] at h; cases h
              | some r =>
                rw [hc, hl] at h
                simp only [Option.some.injEq] at h
                exact fin (.agg s) r (by simp [loadS, hb, hag, hc]) hl h.symm
    · cases h
theorem valueOf_ok {ss : List SV} {vs : List Value} (h : SV.concL e ss = some vs) : (valueOf ss).conc e = some (if h : vs.length = 1 then vs[0]'(by omega) else .tuple vs.toArray) := by
  have hl := concL_length h
  match ss, h with
  | [], h => simp only [SV.concL, Option.some.injEq] at h; subst h; rfl
  | [s], h =>
    obtain ⟨v, ws, rfl, hv, hw⟩ := concL_cons h
    simp only [SV.concL, Option.some.injEq] at hw
    subst hw
    exact hv
  | s1 :: s2 :: ss, h =>
    have : ¬ (vs.length = 1) := by rw [hl]; simp
    rw [dif_neg this]
    simp [valueOf, SV.conc, h]
theorem finS_ok (hr : RunOK P B w0 rn) (hL : LeaveOK P B w0 rn) {s : FrS} {outs : List Res} (h : finS P rn s = some outs) {tmps : Array Value} {todo : List Item} {ds : List Deferred} {kd : CallKind} {cs : List Frame}
    (hS : St B w0 e s.hp s.nx w) (hT : TRel e s.nt s.T tmps) (hd : DsRel e s.dfs ds) (hc : Ctx e none kd none cs) : FrOK P B w0 e none (frL s.fn tmps todo ds kd) cs w outs := by
  unfold finS at h
  cases hdf : s.dfs with
  | nil =>
    rw [hdf] at h hd
    have : ds = [] := by
      cases ds with
      | nil => rfl
      | cons _ _ => exact hd.elim
    subst this
    simp only at h
    unfold resultsOf at h
    cases hf : P.funcs[s.fn]? with
    | none => rw [hf] at h; cases h
    | some fn =>
      rw [hf] at h
      simp only at h
      cases hres : resS P s.hp s.T fn.results.toList with
      | none => rw [hres] at h; cases h
      | some vs =>
        rw [hres] at h
        simp only [Option.some.injEq] at h
        subst h
        obtain ⟨us, h1, h2⟩ := resS_ok (P := P) hS hT _ _ hres
        refine ⟨_, List.mem_cons_self .., e, w, _, Env.le_refl e, hS, valueOf_ok h1, tmps, todo, .refl P _, fn, hf, ?_⟩
        rw [results_eq]
        have hm : (fn.results.mapM (rvF tmps)).run P w = .ok us.toArray w := by
          have ha : fn.results = fn.results.toList.toArray := by simp
          rw [ha, List.mapM_toArray]
          simp only [Sem.run_map, h2]
          rfl
        simp only [Sem.run_bind, hm, Result.andThen, Sem.run_pure]
        simp
  | cons a l =>
    rw [hdf] at h hd
    cases ds with
    | nil => exact hd.elim
    | cons d ds' =>
      obtain ⟨hda, hdl⟩ := hd
      cases a with
      | taken r =>
        obtain ⟨x, hx, rfl⟩ := hda
        simp only at h
        split at h
        · rename_i l2 hr2
          obtain ⟨o, _, hw, ho⟩ := hS.at hr2 hx
          obtain ⟨ds2, rfl, hds2⟩ := ho
          have hg := run_getObj_any (P := P) hw (by simp)
          have hset := run_setObj_any (P := P) (.deferred none) hw (by simp)
          have hS' := hS.upd (vo' := .dfd none) (o' := .deferred none) hr2 hx (turned_setObj x.blk _) (set_heap_same hw) rfl
          have := hL _ _ h e _ tmps todo (ds2 ++ ds') kd cs hS' hT (hds2.append hdl) hc
          refine this.pre (.one (step_lone_go ?_)) (Env.le_refl e) rfl rfl (fun r hr => hr)
          simp [stepG, unwind, frL, Instr.takeDeferred, hg, hset]
        · cases h
      | call g args =>
        obtain ⟨av, cap, rfl, hargs⟩ := hda
        simp only at h
        cases hm : mayEnter P g with
        | false => rw [hm] at h; cases h
        | true =>
          rw [hm] at h
          simp only [cond_true] at h
          cases hcall : callS P rn g args s.hp s.nx with
          | none => rw [hcall] at h; cases h
          | some rs =>
            rw [hcall] at h
            simp only at h
            have hvs : SV.concL e args = some (av ++ cap).toList := by simpa using hargs
            obtain ⟨r, hr1, e', w', h1, h2, h3⟩ := deferred_back (fr := frL s.fn tmps todo ds' kd) rfl (callS_ok hr hcall hS hvs (kd := .deferred) (cs := frL s.fn tmps todo ds' kd :: cs) ⟨rfl, .inr ⟨rfl, _, _, rfl, rfl⟩⟩)
            obtain ⟨outs', g1, g2⟩ := flat_mem h r hr1
            have := hL _ _ g1 e' w' tmps todo ds' kd cs h2 (hT.mono h1) (hdl.mono h1) (hc.mono h1)
            refine this.pre (.head (step_lone_go ?_) h3) h1 rfl rfl g2
            have hinv : (invoke (.fn (.func g) cap) av).run P w = .ok (.enter g (av ++ cap)) w := run_callFunc hm w
            simp [stepG, unwind, frL, callDeferred, hinv]
end
end Go.Ex
end
section
namespace Go.Ex
open Go Go.Sl Go.RowKit
section
variable {P : Program} {B : Nat} {w0 w : World} {e : Env} {H : Heap} {nx : Nat} {rn : Rn}
theorem wantedS_ok {nt : Nat} {T : Tr SV} {tmps : Array Value} {ops : Array Oper} {o : Oper} {b : Bool} (h : wantedS T ops o = some b) (hT : TRel e nt T tmps) : Region.wanted o (yielded ops tmps) = b := by
  unfold wantedS at h
  unfold Region.wanted
  cases hg : o.guard with
  | none => rw [hg] at h; simpa using h
  | some q =>
    obtain ⟨j, want⟩ := q
    rw [hg] at h
    simp only at h ⊢
    cases hj : ops[j]? with
    | none =>
      rw [hj] at h
      simp only [Option.some.injEq] at h
      subst h
      simp [yielded, hj]
    | some oj =>
      rw [hj] at h
      simp only at h
      cases hd : oj.dst with
      | none =>
        rw [hd] at h
        simp only [Option.some.injEq] at h
        subst h
        simp [yielded, hj, hd]
      | some d =>
        rw [hd] at h
        simp only at h
        split at h
        · rename_i t ht
          obtain ⟨v, hv, hg2⟩ := hT.2 d _ ht
          simp only [SV.conc, Option.some.injEq] at hv
          subst hv
          simp only [Option.some.injEq] at h
          subst h
          have : tmps[d]? = some (.bool t) := by
            rw [Array.getD_eq_getD_getElem?] at hg2
            cases ht2 : tmps[d]? with
            | none => rw [ht2] at hg2; cases hg2
            | some v => rw [ht2] at hg2; simpa using hg2
          simp [yielded, hj, hd, this]
        · rename_i vs ht
          obtain ⟨v, hv, hg2⟩ := hT.2 d _ ht
          simp only [SV.conc, Option.some.injEq] at hv
          subst hv
          simp only [Option.some.injEq] at h
          subst h
          have : yielded ops tmps j = none := by
            rw [Array.getD_eq_getD_getElem?] at hg2
            cases ht2 : tmps[d]? with
            | none => simp [yielded, hj, hd, ht2]
            | some v => rw [ht2] at hg2; simp only [Option.getD_some] at hg2; subst hg2; simp [yielded, hj, hd, ht2]
          simp [this]
        · cases h
theorem leaveR_ok (hL : LeaveOK P B w0 rn) {ro : Option Nat} {jump : Option Code} {s : FrS} {outs : List Res} (h : leaveR rn ro jump s = some outs) {tmps : Array Value} {todo : List Item} {ds : List Deferred} {kd : CallKind} {rof : Option Nat} {cs : List Frame}
    (hl : leaves jump todo) (hS : St B w0 e s.hp s.nx w) (hT : TRel e s.nt s.T tmps) (hd : DsRel e s.dfs ds) (hc : Ctx e ro kd rof cs) : FrOK P B w0 e ro (fr0 s.fn tmps todo ds kd rof) cs w outs := by
  cases ro with
  | none =>
    obtain ⟨rfl, hk⟩ := hc
    rcases hl with ⟨rfl, rfl⟩ | ⟨k, rfl, rfl⟩ | ⟨id, k, rfl, hx, rfl⟩ | ⟨id, k, rfl, hx, rfl⟩
    · exact (hL _ _ h e w tmps [] ds kd cs hS hT hd ⟨rfl, hk⟩).pre (.one st_end) (Env.le_refl e) rfl rfl (fun r hr => hr)
    · exact (hL _ _ h e w tmps _ ds kd cs hS hT hd ⟨rfl, hk⟩).pre (.one st_ret) (Env.le_refl e) rfl rfl (fun r hr => hr)
    · cases h
    · cases h
  | some l =>
    obtain ⟨x, hx, rfl, rfl, c, cs', rfl⟩ := hc
    simp only [leaveR, leaveS] at h
    split at h
    · rename_i st pend fn nt T params assign body dr hlp
      simp only [Option.some.injEq] at h
      subst h
      obtain ⟨tm, y, hy, hTm, hw⟩ := conc_loop hS hlp hx
      have hg := run_getObj_any (P := P) hw (by simp)
      have hset := fun o' => run_setObj_any (P := P) o' hw (by simp)
      have hS' := hS.upd (vo' := .loop (if jump.isNone then .ready else .done) jump fn nt T params assign body dr)
        (o' := .loop { state := if jump.isNone then .ready else .done, pending := jump, fn := fn, tmps := tm, params := params, assign := assign, body := body, defers := y.blk }) hlp hx (turned_setObj x.blk _) (set_heap_same hw) ⟨tm, y, hy, hTm, rfl⟩
      refine ⟨_, List.mem_cons_self .., e, _, .bool jump.isNone, Env.le_refl e, hS', rfl, c, cs', rfl, .one (st_leave hl ?_)⟩
      simp only [Instr.endRound, Instr.getLoop, Sem.run_bind, hg, Result.andThen, Sem.run_pure, hset]
    · cases h
theorem enterLoop_ok {ro : Option Nat} {dr nx1 : Nat} {H1 : Heap} {mark : List ADf} {kd : CallKind} {rof : Option Nat} {cs : List Frame} (h : loopDefers ro H nx = some (dr, H1, nx1, mark)) (hS : St B w0 e H nx w) (hc : Ctx e ro kd rof cs)
    {nt : Nat} {T : Tr SV} {tmps : Array Value} (hT : TRel e nt T tmps) (fn : FuncId) (params : Array Tmp) (assign body : Code) :
    ∃ e' w' x mk, e.le e' ∧ St B w0 e' (H1.set nx1 (.loop .ready none fn nt T params assign body dr)) (nx1 + 1) w' ∧ e' nx1 = some x ∧ DsRel e' mark mk ∧ (Instr.enterLoop fn tmps params assign body rof).run P w = .ok (x.blk, mk) w' := by
  cases ro with
  | none =>
    obtain ⟨rfl, _⟩ := hc
    simp only [loopDefers, Option.some.injEq, Prod.mk.injEq] at h
    obtain ⟨rfl, rfl, rfl, rfl⟩ := h
    have hf := hS.fresh nx (Nat.le_refl _)
    have hS1 := hS.new (vo := .dfd (some [])) (x := ⟨w.heap.size, 0, 0⟩) (o := .deferred (some [])) (w' := { w with heap := w.heap.push (.deferred (some [])) }) rfl rfl rfl rfl rfl ⟨[], rfl, trivial⟩
    have hf1 := hS1.fresh (nx + 1) (Nat.le_refl _)
    have hle1 := Env.le_put (x := ⟨w.heap.size, 0, 0⟩) hf
    have hle2 := Env.le_put (x := ⟨w.heap.size + 1, 0, 0⟩) hf1
    have hdr : ((e.put nx ⟨w.heap.size, 0, 0⟩).put (nx + 1) ⟨w.heap.size + 1, 0, 0⟩) nx = some ⟨w.heap.size, 0, 0⟩ := hle2 _ _ (Env.put_same _ _ _)
    have hS2 := hS1.new (vo := .loop .ready none fn nt T params assign body nx) (x := ⟨w.heap.size + 1, 0, 0⟩)
      (o := .loop { state := .ready, pending := none, fn := fn, tmps := tmps, params := params, assign := assign, body := body, defers := w.heap.size })
      (w' := { w with heap := (w.heap.push (.deferred (some []))).push (.loop { state := .ready, pending := none, fn := fn, tmps := tmps, params := params, assign := assign, body := body, defers := w.heap.size }) })
      (by simp) rfl rfl rfl rfl ⟨tmps, ⟨w.heap.size, 0, 0⟩, hdr, hT.mono (Env.le_trans hle1 hle2), rfl⟩
    refine ⟨_, _, ⟨w.heap.size + 1, 0, 0⟩, [{ target := .collected w.heap.size, args := #[] }], Env.le_trans hle1 hle2, hS2, Env.put_same _ _ _, ⟨⟨⟨w.heap.size, 0, 0⟩, hdr, rfl⟩, trivial⟩, ?_⟩
    simp [Instr.enterLoop]
    rfl
  | some l =>
    obtain ⟨x, hx, rfl, _⟩ := hc
    simp only [loopDefers] at h
    split at h
    · rename_i st pend fn2 nt2 T2 params2 assign2 body2 dr2 hlp
      simp only [Option.some.injEq, Prod.mk.injEq] at h
      obtain ⟨rfl, rfl, rfl, rfl⟩ := h
      obtain ⟨tm, y, hy, hTm, hw⟩ := conc_loop hS hlp hx
      have hg := run_getObj_any (P := P) hw (by simp)
      have hf := hS.fresh nx (Nat.le_refl _)
      have hle1 := Env.le_put (x := ⟨w.heap.size, 0, 0⟩) hf
      have hS1 := hS.new (vo := .loop .ready none fn nt T params assign body dr2) (x := ⟨w.heap.size, 0, 0⟩)
        (o := .loop { state := .ready, pending := none, fn := fn, tmps := tmps, params := params, assign := assign, body := body, defers := y.blk })
        (w' := { w with heap := w.heap.push (.loop { state := .ready, pending := none, fn := fn, tmps := tmps, params := params, assign := assign, body := body, defers := y.blk }) })
        rfl rfl rfl rfl rfl ⟨tmps, y, hle1 _ _ hy, hT.mono hle1, rfl⟩
      refine ⟨_, _, ⟨w.heap.size, 0, 0⟩, [], hle1, hS1, Env.put_same _ _ _, trivial, ?_⟩
      simp [Instr.enterLoop, Instr.getLoop, hg]
    · cases h
theorem codeS_ok (hr : RunOK P B w0 rn) (hL : LeaveOK P B w0 rn) (hD : DrawOK P B w0 rn) {ro : Option Nat} {s : FrS} {k : List AIt} {c : Code} {outs : List Res} (h : codeS P rn ro s k c = some outs) {tmps : Array Value} {k' : List Item} {ds : List Deferred} {kd : CallKind}
    {rof : Option Nat} {cs : List Frame} (hS : St B w0 e s.hp s.nx w) (hT : TRel e s.nt s.T tmps) (hk : IsRel e k k') (hd : DsRel e s.dfs ds) (hc : Ctx e ro kd rof cs) :
    FrOK P B w0 e ro (fr0 s.fn tmps (.code c :: k') ds kd rof) cs w outs := by
  cases c with
  | ret => exact leaveR_ok (jump := some .ret) hL h (.inr (.inl ⟨k', rfl, rfl⟩)) hS hT hd hc
  | skip => exact (hr _ _ _ h e w tmps k' ds kd rof cs hS hT hk hd hc).pre (.one st_skip) (Env.le_refl e) rfl rfl (fun r hr => hr)
  | label l => exact (hr _ _ _ h e w tmps k' ds kd rof cs hS hT hk hd hc).pre (.one st_label) (Env.le_refl e) rfl rfl (fun r hr => hr)
  | seq a b => exact (hr _ _ _ h e w tmps (.code a :: .code b :: k') ds kd rof cs hS hT ⟨rfl, rfl, hk⟩ hd hc).pre (.one st_seq) (Env.le_refl e) rfl rfl (fun r hr => hr)
  | block id b => exact (hr _ _ _ h e w tmps (.code b :: .inBlock id :: k') ds kd rof cs hS hT ⟨rfl, rfl, hk⟩ hd hc).pre (.one st_block) (Env.le_refl e) rfl rfl (fun r hr => hr)
  | loop b => exact (hr _ _ _ h e w tmps (.code b :: .inLoop b :: k') ds kd rof cs hS hT ⟨rfl, rfl, hk⟩ hd hc).pre (.one st_loop) (Env.le_refl e) rfl rfl (fun r hr => hr)
  | scope b => exact (hr _ _ _ h e w tmps (.code b :: .inScope b :: k') ds kd rof cs hS hT ⟨rfl, rfl, hk⟩ hd hc).pre (.one st_scope) (Env.le_refl e) rfl rfl (fun r hr => hr)
  | cond c a b =>
    simp only [codeS] at h
    split at h
    · rename_i t hcd
      have hE := TRel.ev (fr := fr0 s.fn tmps (.code (.cond c a b) :: k') ds kd rof) hT
      have hv := hE c _ hcd
      simp only [SV.conc, Option.some.injEq] at hv
      refine (hr _ _ _ h e w tmps (.code (if t then a else b) :: k') ds kd rof cs hS hT ⟨?_, hk⟩ hd hc).pre (.one (st_cond hv.symm)) (Env.le_refl e) rfl rfl (fun r hr => hr)
      cases t <;> rfl
    · cases h
  | exit id =>
    simp only [codeS] at h
    have hx := exitS_ok (id := id) hk
    cases he : exitS id k with
    | some l' =>
      rw [he] at h
      obtain ⟨m', h1, h2⟩ := hx.1 l' he
      exact (hr _ _ _ h e w tmps m' ds kd rof cs hS hT h2 hd hc).pre (.one (st_exit h1)) (Env.le_refl e) rfl rfl (fun r hr => hr)
    | none =>
      rw [he] at h
      exact leaveR_ok hL h (.inr (.inr (.inl ⟨id, k', rfl, hx.2 he, rfl⟩))) hS hT hd hc
  | goto id =>
    simp only [codeS] at h
    have hx := gotoS_ok (id := id) hk
    cases he : gotoS id k with
    | some l' =>
      rw [he] at h
      obtain ⟨m', h1, h2⟩ := hx.1 l' he
      exact (hr _ _ _ h e w tmps m' ds kd rof cs hS hT h2 hd hc).pre (.one (st_goto h1)) (Env.le_refl e) rfl rfl (fun r hr => hr)
    | none =>
      rw [he] at h
      exact leaveR_ok hL h (.inr (.inr (.inr ⟨id, k', rfl, hx.2 he, rfl⟩))) hS hT hd hc
  | refuse why => cases h
  | region id ops draw =>
    cases draw with
    | false => exact (hr _ _ _ h e w tmps (.inRegion ops (List.range' 0 ops.size) :: k') ds kd rof cs hS hT ⟨⟨rfl, by simp⟩, hk⟩ hd hc).pre (.one st_region) (Env.le_refl e) rfl rfl (fun r hr => hr)
    | true =>
      simp only [codeS] at h
      cases hdr : drawRegion P rn ops s.nt s.T s.hp s.nx with
      | none => rw [hdr] at h; cases h
      | some q =>
        obtain ⟨T', H', nx'⟩ := q
        rw [hdr] at h
        simp only at h
        obtain ⟨e', w', tmps', h1, h2, h3, h4⟩ := hD _ _ _ _ _ _ _ _ hdr e { w with drawn := w.drawn + 1 } tmps hS.drew hT (w.tape w.drawn (.order s.fn id)) s.fn k' ds kd rof cs
        refine (hr _ _ _ h e' w' tmps' k' ds kd rof cs h2 h3 (hk.mono h1) (hd.mono h1) (hc.mono h1)).pre (.head st_draw (h4.trans (.one st_regionEnd))) h1 rfl rfl (fun r hr => hr)
  | rangeFunc fo params assign body =>
    simp only [codeS] at h
    cases hld : loopDefers ro s.hp s.nx with
    | none => rw [hld] at h; cases h
    | some q =>
      obtain ⟨dr, H1, nx1, mark⟩ := q
      rw [hld] at h
      simp only at h
      cases hfo : evalS s.T fo with
      | none => rw [hfo] at h; cases h
      | some sf =>
        rw [hfo] at h
        simp only at h
        cases hft : fnTarget sf with
        | none => rw [hft] at h; cases h
        | some q =>
          obtain ⟨g, a, b⟩ := q
          rw [hft] at h
          simp only at h
          cases hm : mayEnter P g with
          | false => rw [hm] at h; cases h
          | true =>
            rw [hm] at h
            simp only [cond_true] at h
            cases hcall : callS P rn g (a ++ [.yld nx1] ++ b) (H1.set nx1 (.loop .ready none s.fn s.nt s.T params assign body dr)) (nx1 + 1) with
            | none => rw [hcall] at h; cases h
            | some rs =>
              rw [hcall] at h
              simp only at h
              obtain ⟨e1, w1, x, mk, h1, h2, h3, h4, h5⟩ := enterLoop_ok (P := P) hld hS hc hT s.fn params assign body
              have hE := TRel.ev (fr := fr0 s.fn tmps (.inRangeFunc x.blk :: k') (mk ++ ds) kd rof) hT
              obtain ⟨xs, ys, hev, hxs, hys⟩ := fnTarget_ok hft (hE fo sf hfo)
              have hargs : SV.concL e1 (a ++ [.yld nx1] ++ b) = some (xs ++ #[Value.func (.yield x.blk) #[] #[]] ++ ys).toList := by
                have := concL_append (concL_append (SV.concL_mono h1 _ _ hxs) (concL_cons_mk (x := .yld nx1) (v := .func (.yield x.blk) #[] #[]) (by simp [SV.conc, h3]) (show SV.concL e1 [] = some [] from rfl))) (SV.concL_mono h1 _ _ hys)
                simpa using this
              obtain ⟨r, hr1, e', w', v, g1, g2, g3, g4⟩ := call_back (callS_ok hr hcall h2 hargs (kd := .normal) (cs := fr0 s.fn tmps (.inRangeFunc x.blk :: k') (mk ++ ds) kd rof :: cs) ⟨rfl, .inl rfl⟩)
              obtain ⟨outs', q1, q2⟩ := flat_mem h r hr1
              have hle := Env.le_trans h1 g1
              refine (hr _ _ _ q1 e' w' tmps (.endRangeFunc x.blk :: k') (mk ++ ds) kd rof cs g2 (hT.mono hle) ⟨⟨x, g1 _ _ h3, rfl⟩, hk.mono hle⟩ ((h4.append (hd.mono h1)).mono g1) (hc.mono hle)).pre (.head (step_lone_go ?_) g4) hle rfl rfl q2
              have hpush : xs ++ #[Value.func (.yield x.blk) #[] #[]] ++ ys = xs.push (Value.func (.yield x.blk) #[] #[]) ++ ys := by simp
              have hinv : (callFunc g (xs.push (Value.func (.yield x.blk) #[] #[]) ++ ys)).run P w1 = .ok (.enter g (xs.push (Value.func (.yield x.blk) #[] #[]) ++ ys)) w1 := run_callFunc hm w1
              have hcon : ∀ v, (fr0 s.fn tmps (.inRangeFunc x.blk :: k') (mk ++ ds) kd rof).eval (.const v) = v := fun _ => rfl
              rw [hpush]
              simp only [fr0] at hev hcon
              simp [stepG, stepG.exec, fr0, h5, stepG.apply, resolve, hev, hcon, Deferred.ofValue, invoke, hinv]
end
end Go.Ex
end
section
namespace Go.Ex
open Go Go.Sl Go.RowKit
section
variable {P : Program} {B : Nat} {w0 w : World} {e : Env} {H : Heap} {nx : Nat} {rn : Rn}
theorem tryRecover_none {fr : Frame} {cs : List Frame} (h : fr.kind = .normal ∨ (fr.kind = .deferred ∧ ∃ c cs', cs = c :: cs' ∧ c.mode = .returning)) : tryRecover fr cs = none := by
  rcases h with h | ⟨h, c, cs', rfl, hm⟩
  · cases cs <;> simp [tryRecover, h]
  · simp [tryRecover, h, hm]
theorem outS_ok (hr : RunOK P B w0 rn) {ro : Option Nat} {s : FrS} {outs : List Res} {out : Out} {tmps : Array Value} {ops : Array Oper} {i : Nat} {rest : List Nat} {o : Oper} {k : List Item} {kA : List AIt} {ds : List Deferred} {kd : CallKind} {rof : Option Nat} {cs : List Frame}
    (h : outS P rn ro s o.dst kA out = some outs) (ho : ops[i]? = some o) (hw : Region.wanted o (yielded ops tmps) = true) (hT : TRel e s.nt s.T tmps) (hk : IsRel e kA (.inRegion ops rest :: k)) (hd : DsRel e s.dfs ds) (hc : Ctx e ro kd rof cs)
    (hdf : ro = none ∨ ∀ c, o.op ≠ .defer c) (hdo : Does P B w0 e out ((execOp (fr0 s.fn tmps (.inRegion ops (i :: rest) :: k) ds kd rof).eval o).run P w)) :
    FrOK P B w0 e ro (fr0 s.fn tmps (.inRegion ops (i :: rest) :: k) ds kd rof) cs w outs := by
  obtain ⟨e', w', hle, hS', hrun⟩ := hdo
  obtain ⟨a, H', nx'⟩ := out
  have hdf' : rof = none ∨ ∀ c, o.op ≠ .defer c := by
    rcases hdf with rfl | hdf
    · exact .inl hc.1
    · exact .inr hdf
  have hoper := stepG_oper (P := P) (fn := s.fn) (k := k) (ds := ds) (kd := kd) (cs := cs) (w := w) (rest := rest) ho hw hdf'
  have hfin := fun v => finish_region (fn := s.fn) (tmps := tmps) (k := k) (ds := ds) (kd := kd) (ro := rof) (rest := rest) ho v
  have hkind : ∀ {A : Type} (x y : A), (match (fr0 s.fn tmps (.inRegion ops (i :: rest) :: k) ds kd rof).todo with | .call _ true _ _ :: _ => x | _ => y) = y := fun _ _ => rfl
  have value : ∀ (sv : SV) (v : Value) (e2 : Env) (w2 : World) (H2 : Heap) (nx2 : Nat) (outs2 : List Res), e.le e2 → St B w0 e2 H2 nx2 w2 → sv.conc e2 = some v →
      Steps P (lone (fr0 s.fn tmps (.inRegion ops (i :: rest) :: k) ds kd rof) cs w) (lone ((fr0 s.fn tmps (.inRegion ops (i :: rest) :: k) ds kd rof).finish v) cs w2) →
      rn ro false { s with T := putS s.nt s.T o.dst sv, todo := kA, hp := H2, nx := nx2 } = some outs2 → (∀ r ∈ outs2, r ∈ outs) → FrOK P B w0 e ro (fr0 s.fn tmps (.inRegion ops (i :: rest) :: k) ds kd rof) cs w outs := by
    intro sv v e2 w2 H2 nx2 outs2 hle2 hS2 hv hst hrn hsub
    rw [hfin] at hst
    exact (hr _ _ _ hrn e2 w2 (putV tmps o.dst v) (.inRegion ops rest :: k) ds kd rof cs hS2 ((hT.mono hle2).putO hv o.dst) (hk.mono hle2) (hd.mono hle2) (hc.mono hle2)).pre hst hle2 rfl rfl hsub
  cases a with
  | val sv =>
    obtain ⟨v, hv, hres⟩ := hrun
    refine value sv v e' w' H' nx' outs hle hS' hv (.one (step_lone_go ?_)) h (fun r hr => hr)
    rw [hoper]
    simp only [stepG.apply, Sem.runT_eq, if_true, hres, GStep.bare_after, GStep.bare_go]
  | skip =>
    refine value undefS undef e' w' H' nx' outs hle hS' rfl (.one (step_lone_go ?_)) h (fun r hr => hr)
    have hres : Sem.run P (execOp (fr0 s.fn tmps (.inRegion ops (i :: rest) :: k) ds kd rof).eval o) w = .ok .skip w' := hrun
    rw [hoper]
    simp only [stepG.apply, Sem.runT_eq, if_true, hres, GStep.bare_after, GStep.bare_go]
  | recover =>
    cases ro with
    | some l => cases h
    | none =>
      refine value (.sc .nilIface) .nilIface e' w' H' nx' outs hle hS' rfl (.one (step_lone_go ?_)) h (fun r hr => hr)
      have hres : Sem.run P (execOp (fr0 s.fn tmps (.inRegion ops (i :: rest) :: k) ds kd rof).eval o) w = .ok .recover w' := hrun
      obtain ⟨rfl, hkd⟩ := hc
      have htr : tryRecover (fr0 s.fn tmps (.inRegion ops (i :: rest) :: k) ds kd none) cs = none := tryRecover_none hkd
      have hro : (fr0 s.fn tmps (.inRegion ops (i :: rest) :: k) ds kd none).roundOf = none := rfl
      rw [hoper]
      simp only [stepG.apply, Sem.runT_eq, if_true, hres, hro, htr, GStep.bare_after, GStep.bare_go]
  | dfr d =>
    cases ro with
    | some l => cases h
    | none =>
      obtain ⟨dd, hdd, hres⟩ := hrun
      simp only [outS] at h
      refine (hr _ _ _ h e' w' (putV tmps o.dst undef) (.inRegion ops rest :: k) (dd :: ds) kd rof cs hS' ((hT.mono hle).putO rfl o.dst) (hk.mono hle) ⟨hdd, hd.mono hle⟩ (hc.mono hle)).pre (.one (step_lone_go ?_)) hle rfl rfl (fun r hr => hr)
      rw [hoper]
      have := finish_region (fn := s.fn) (tmps := tmps) (k := k) (ds := dd :: ds) (kd := kd) (ro := rof) (rest := rest) ho undef
      simp only [stepG.apply, Sem.runT_eq, if_true, hres, GStep.bare_after, GStep.bare_go]
      rw [← this]
      rfl
  | enter g args =>
    obtain ⟨vs, hvs, hres⟩ := hrun
    simp only [outS] at h
    cases hcall : callS P rn g args H' nx' with
    | none => rw [hcall] at h; cases h
    | some rs =>
      rw [hcall] at h
      simp only at h
      obtain ⟨r, hr1, e2, w2, v, g1, g2, g3, g4⟩ := call_back (callS_ok hr hcall hS' hvs (kd := .normal) (cs := fr0 s.fn tmps (.inRegion ops (i :: rest) :: k) ds kd rof :: cs) ⟨rfl, .inl rfl⟩)
      obtain ⟨outs', q1, q2⟩ := flat_mem h r hr1
      refine value r.1 v e2 w2 r.2.1 r.2.2 outs' (Env.le_trans hle g1) g2 g3 (.head (step_lone_go ?_) g4) q1 q2
      rw [hoper]
      simp only [stepG.apply, Sem.runT_eq, if_true, hres, GStep.bare_after, GStep.bare_go]
      first | done | rfl
  | round l args =>
    obtain ⟨x, vs, hx, hvs, hres⟩ := hrun
    simp only [outS] at h
    cases hround : roundS rn l args H' nx' with
    | none => rw [hround] at h; cases h
    | some rs =>
      rw [hround] at h
      simp only at h
      obtain ⟨fn2, tmps2, assign, body, hy, hback⟩ := roundS_ok (P := P) hr hround hS' hvs hx
      rw [hy] at hres
      obtain ⟨r, hr1, e2, w2, v, g1, g2, g3, g4⟩ := hback (fr0 s.fn tmps (.inRegion ops (i :: rest) :: k) ds kd rof) cs
      obtain ⟨outs', q1, q2⟩ := flat_mem h r hr1
      refine value r.1 v e2 w2 r.2.1 r.2.2 outs' (Env.le_trans hle g1) g2 g3 (.head (step_lone_go ?_) g4) q1 q2
      rw [hoper]
      simp only [stepG.apply, Sem.runT_eq, if_true, hres, GStep.bare_after, GStep.bare_go]
      first | done | rfl
theorem defer_any {T : Tr SV} {o : Oper} {c : Call} {outs : List Out} (hop : o.op = .defer c) (h : anyOp P T H nx o = some outs) : ∃ d, outs = [(.dfr d, H, nx)] := by
  unfold anyOp at h
  have h1 : readOp P T H o = none := by unfold readOp; rw [hop]
  have h2 : pureOp P T o = none := by unfold pureOp; rw [hop]; rfl
  rw [h1, h2] at h
  simp only at h
  cases he : effOp P T H nx o with
  | none =>
    rw [he] at h
    unfold nextOp at h
    rw [hop] at h
    cases h
  | some r =>
    rw [he] at h
    simp only [Option.some.injEq] at h
    subst h
    unfold effOp at he
    rw [hop] at he
    simp only at he
    cases hc : c.callee with
    | builtin b => rw [hc] at he; cases he
    | invoke a b => rw [hc] at he; cases he
    | value f =>
      rw [hc] at he
      simp only at he
      split at he
      · simp only [Option.some.injEq] at he
        exact ⟨_, by rw [← he]⟩
      · cases he
theorem opS_ok (hr : RunOK P B w0 rn) {ro : Option Nat} {s : FrS} {kA : List AIt} {outs : List Res} {tmps : Array Value} {ops : Array Oper} {i : Nat} {o : Oper} {l : List Oper} {k : List Item} {ds : List Deferred} {kd : CallKind} {rof : Option Nat} {cs : List Frame}
    (h : opS P rn ro s kA ops i o l = some outs) (hl : o :: l = ops.toList.drop i) (hS : St B w0 e s.hp s.nx w) (hT : TRel e s.nt s.T tmps) (hk : IsRel e kA k) (hd : DsRel e s.dfs ds) (hc : Ctx e ro kd rof cs) :
    FrOK P B w0 e ro (fr0 s.fn tmps (.inRegion ops (List.range' i (ops.size - i)) :: k) ds kd rof) cs w outs := by
  have hlt : i < ops.size := by
    have := congrArg List.length hl
    simp at this
    omega
  have ho : ops[i]? = some o := by
    have : ops.toList[i]? = some o := by
      have := congrArg List.head? hl
      simpa using this.symm
    simpa using this
  have hl' : l = ops.toList.drop (i + 1) := by
    have := congrArg List.tail hl
    simpa using this
  have hrange : List.range' i (ops.size - i) = i :: List.range' (i + 1) (ops.size - (i + 1)) := by
    rw [show ops.size - i = (ops.size - (i + 1)) + 1 by omega, List.range'_succ]
  rw [hrange]
  have hk2 : IsRel e (.inReg ops (i + 1) l :: kA) (.inRegion ops (List.range' (i + 1) (ops.size - (i + 1))) :: k) := ⟨⟨rfl, hl'⟩, hk⟩
  unfold opS at h
  cases hw : wantedS s.T ops o with
  | none => rw [hw] at h; cases h
  | some b =>
    have hwr := wantedS_ok hw hT
    rw [hw] at h
    cases b with
    | false => exact (hr _ _ _ h e w (putV tmps o.dst undef) _ ds kd rof cs hS (hT.putO rfl o.dst) hk2 hd hc).pre (.one (st_notWanted ho hwr)) (Env.le_refl e) rfl rfl (fun r hr => hr)
    | true =>
      simp only at h
      cases ha : anyOp P s.T s.hp s.nx o with
      | none => rw [ha] at h; cases h
      | some os =>
        rw [ha] at h
        simp only at h
        have hE := TRel.ev (fr := fr0 s.fn tmps (.inRegion ops (i :: List.range' (i + 1) (ops.size - (i + 1))) :: k) ds kd rof) hT
        obtain ⟨out, hout, hdo⟩ := anyOp_ok hS hE ha
        obtain ⟨outs', q1, q2⟩ := flat_mem h out hout
        have hdf : ro = none ∨ ∀ c, o.op ≠ .defer c := by
          cases ro with
          | none => exact .inl rfl
          | some lp =>
            refine .inr (fun c hop => ?_)
            obtain ⟨d, rfl⟩ := defer_any hop ha
            simp [flat, outS] at h
        have := outS_ok hr q1 ho hwr hT hk2 hd hc hdf hdo
        exact this.pre (.refl P _) (Env.le_refl e) rfl rfl q2
theorem stepS_ok (hr : RunOK P B w0 rn) (hL : LeaveOK P B w0 rn) (hD : DrawOK P B w0 rn) {ro : Option Nat} {s : FrS} {outs : List Res} (h : stepS P rn ro s = some outs) {tmps : Array Value} {todo : List Item} {ds : List Deferred} {kd : CallKind} {rof : Option Nat} {cs : List Frame}
    (hS : St B w0 e s.hp s.nx w) (hT : TRel e s.nt s.T tmps) (ht : IsRel e s.todo todo) (hd : DsRel e s.dfs ds) (hc : Ctx e ro kd rof cs) : FrOK P B w0 e ro (fr0 s.fn tmps todo ds kd rof) cs w outs := by
  unfold stepS at h
  cases hs : s.todo with
  | nil =>
    rw [hs] at h ht
    have := ht.nil
    subst this
    exact leaveR_ok hL h (.inl ⟨rfl, rfl⟩) hS hT hd hc
  | cons it kA =>
    rw [hs] at h ht
    obtain ⟨i, k, rfl, hi, hk⟩ := ht.cons
    cases it with
    | code c =>
      simp only [IRel] at hi
      subst hi
      exact codeS_ok hr hL hD h hS hT hk hd hc
    | inBlock id =>
      simp only [IRel] at hi
      subst hi
      exact (hr _ _ _ h e w tmps k ds kd rof cs hS hT hk hd hc).pre (.one st_inBlock) (Env.le_refl e) rfl rfl (fun r hr => hr)
    | inScope b =>
      simp only [IRel] at hi
      subst hi
      exact (hr _ _ _ h e w tmps k ds kd rof cs hS hT hk hd hc).pre (.one st_inScope) (Env.le_refl e) rfl rfl (fun r hr => hr)
    | inLoop b =>
      simp only [IRel] at hi
      subst hi
      exact (hr _ _ _ h e w tmps (.code b :: .inLoop b :: k) ds kd rof cs hS hT ⟨rfl, rfl, hk⟩ hd hc).pre (.one st_inLoop) (Env.le_refl e) rfl rfl (fun r hr => hr)
    | inReg ops j l =>
      obtain ⟨rfl, hl⟩ := hi
      cases l with
      | nil =>
        have : ops.size - j = 0 := by
          have := congrArg List.length hl
          simp at this
          omega
        rw [this]
        exact (hr _ _ _ h e w tmps k ds kd rof cs hS hT hk hd hc).pre (.one st_regionEnd) (Env.le_refl e) rfl rfl (fun r hr => hr)
      | cons o l => exact opS_ok hr h hl hS hT hk hd hc
    | inRange l => cases h
    | endRange l =>
      obtain ⟨x, hx, rfl⟩ := hi
      simp only at h
      split at h
      · rename_i st pend fn nt T params assign body dr hlp
        obtain ⟨tm, y, hy, hTm, hw⟩ := conc_loop hS hlp hx
        have hg := run_getObj_any (P := P) hw (by simp)
        have hset := fun o' => run_setObj_any (P := P) o' hw (by simp)
        have key : st ≠ .busy → rn ro false { s with todo := withPend pend kA, hp := s.hp.set l (.loop .exhausted pend fn nt T params assign body dr) } = some outs →
            FrOK P B w0 e ro (fr0 s.fn tmps (.endRangeFunc x.blk :: k) ds kd rof) cs w outs := by
          intro hne h
          have hS' := hS.upd (vo' := .loop .exhausted pend fn nt T params assign body dr) (o' := .loop { state := .exhausted, pending := pend, fn := fn, tmps := tm, params := params, assign := assign, body := body, defers := y.blk })
            hlp hx (turned_setObj x.blk _) (set_heap_same hw) ⟨tm, y, hy, hTm, rfl⟩
          have hstb : (st == LoopState.busy) = false := beq_eq_false_iff_ne.2 hne
          have hend : (Instr.endLoop x.blk).run P w = .ok pend { w with heap := w.heap.setIfInBounds x.blk (.loop { state := .exhausted, pending := pend, fn := fn, tmps := tm, params := params, assign := assign, body := body, defers := y.blk }) } := by
            simp [Instr.endLoop, Instr.getLoop, hg, hne, hset]
          refine (hr _ _ _ h e _ tmps ((pend.map Item.code).toList ++ k) ds kd rof cs hS' hT ?_ hd hc).pre (.one (step_lone_go ?_)) (Env.le_refl e) rfl rfl (fun r hr => hr)
          · cases pend with
            | none => exact hk
            | some c => exact ⟨rfl, hk⟩
          · simp [stepG, stepG.exec, fr0, hend]
        cases st with
        | busy => cases h
        | ready => exact key (by simp) h
        | done => exact key (by simp) h
        | exhausted => exact key (by simp) h
      · cases h
    | beginRound =>
      simp only [IRel] at hi
      subst hi
      cases ro with
      | none => cases h
      | some l =>
        obtain ⟨x, hx, rfl, rfl, c, cs', rfl⟩ := hc
        simp only at h
        split at h
        · rename_i st pend fn nt T params assign body dr hlp
          obtain ⟨tm, y, hy, hTm, hw⟩ := conc_loop hS hlp hx
          have hg := run_getObj_any (P := P) hw (by simp)
          have hset := fun o' => run_setObj_any (P := P) o' hw (by simp)
          cases st with
          | ready =>
            have hS' := hS.upd (vo' := .loop .busy pend fn nt T params assign body dr) (o' := .loop { state := .busy, pending := pend, fn := fn, tmps := tm, params := params, assign := assign, body := body, defers := y.blk })
              hlp hx (turned_setObj x.blk _) (set_heap_same hw) ⟨tm, y, hy, hTm, rfl⟩
            have hbeg : (Instr.beginRound x.blk).run P w = .ok () { w with heap := w.heap.setIfInBounds x.blk (.loop { state := .busy, pending := pend, fn := fn, tmps := tm, params := params, assign := assign, body := body, defers := y.blk }) } := by
              simp [Instr.beginRound, Instr.getLoop, hg, hset]
            refine (hr _ _ _ h e _ tmps k ds .normal (some x.blk) (c :: cs') hS' hT hk hd ⟨x, hx, rfl, rfl, c, cs', rfl⟩).pre (.one (step_lone_go ?_)) (Env.le_refl e) rfl rfl (fun r hr => hr)
            simp [stepG, stepG.exec, fr0, stepG.apply, hbeg, Frame.finish]
          | _ => cases h
        · cases h
theorem run_ok (hD : ∀ rn, RunOK P B w0 rn → DrawOK P B w0 rn) : ∀ f, RunOK P B w0 (run P f) ∧ LeaveOK P B w0 (run P f)
  | 0 => ⟨fun ro s outs h => (by cases h), fun s outs h => (by cases h)⟩
  | f + 1 => by
    obtain ⟨ih1, ih2⟩ := run_ok hD f
    refine ⟨fun ro s outs h e w tmps todo ds kd rof cs hS hT ht hd hc => ?_, fun s outs h e w tmps todo ds kd cs hS hT hd hc => ?_⟩
    · rw [show run P (f + 1) ro false s = stepS P (run P f) ro (normFS s) from rfl, normFS_eq] at h
      exact stepS_ok ih1 ih2 (hD _ ih1) h hS hT ht hd hc
    · exact finS_ok ih1 ih2 h hS hT hd hc
end
end Go.Ex
end
section
namespace Go.Ex
open Go Go.Sl Go.RowKit
theorem dstsOk_ok {nt : Nat} : ∀ {l : List Oper} {seen : List Tmp}, dstsOk nt l seen = true → (∀ (i : Nat) o d, l[i]? = some o → o.dst = some d → d < nt ∧ d ∉ seen) ∧
    (∀ (i j : Nat) oi oj d, l[i]? = some oi → l[j]? = some oj → oi.dst = some d → oj.dst = some d → i = j)
  | [], seen, _ => ⟨fun i o d h => by simp at h, fun i j oi oj d h => by simp at h⟩
  | o :: l, seen, h => by
    simp only [dstsOk] at h
    cases hd : o.dst with
    | none =>
      rw [hd] at h
      obtain ⟨h1, h2⟩ := dstsOk_ok h
      refine ⟨fun i o' d hi hd' => ?_, fun i j oi oj d hi hj hdi hdj => ?_⟩
      · cases i with
        | zero => simp only [List.getElem?_cons_zero, Option.some.injEq] at hi; subst hi; rw [hd] at hd'; cases hd'
        | succ i => exact h1 i o' d (by simpa using hi) hd'
      · cases i with
        | zero => simp only [List.getElem?_cons_zero, Option.some.injEq] at hi; subst hi; rw [hd] at hdi; cases hdi
        | succ i =>
          cases j with
          | zero => simp only [List.getElem?_cons_zero, Option.some.injEq] at hj; subst hj; rw [hd] at hdj; cases hdj
          | succ j => rw [h2 i j oi oj d (by simpa using hi) (by simpa using hj) hdi hdj]
    | some d0 =>
      rw [hd] at h
      simp only [Bool.and_eq_true, Bool.not_eq_true'] at h
      obtain ⟨⟨g1, g2⟩, g3⟩ := h
      obtain ⟨h1, h2⟩ := dstsOk_ok g3
      have hns : d0 ∉ seen := by simpa using g2
      refine ⟨fun i o' d hi hd' => ?_, fun i j oi oj d hi hj hdi hdj => ?_⟩
      · cases i with
        | zero =>
          simp only [List.getElem?_cons_zero, Option.some.injEq] at hi
          subst hi
          rw [hd] at hd'
          simp only [Option.some.injEq] at hd'
          subst hd'
          exact ⟨lt_of_blt g1, hns⟩
        | succ i =>
          obtain ⟨a, b⟩ := h1 i o' d (by simpa using hi) hd'
          exact ⟨a, fun hc => b (List.mem_cons_of_mem _ hc)⟩
      · cases i with
        | zero =>
          simp only [List.getElem?_cons_zero, Option.some.injEq] at hi
          subst hi
          rw [hd] at hdi
          simp only [Option.some.injEq] at hdi
          subst hdi
          cases j with
          | zero => rfl
          | succ j => exact absurd (List.mem_cons_self ..) (h1 j oj d0 (by simpa using hj) hdj).2
        | succ i =>
          cases j with
          | zero =>
            simp only [List.getElem?_cons_zero, Option.some.injEq] at hj
            subst hj
            rw [hd] at hdj
            simp only [Option.some.injEq] at hdj
            subst hdj
            exact absurd (List.mem_cons_self ..) (h1 i oi d0 (by simpa using hi) hdi).2
          | succ j => rw [h2 i j oi oj d (by simpa using hi) (by simpa using hj) hdi hdj]
theorem writer_ok (t : Tmp) : ∀ (l : List Oper) (i0 k : Nat) (o : Oper), l[k]? = some o → o.dst = some t → ∃ (k' : Nat) (o' : Oper), writer t l i0 = some (i0 + k') ∧ l[k']? = some o' ∧ o'.dst = some t
  | [], i0, k, o, h, _ => by simp at h
  | o0 :: l, i0, k, o, h, hd => by
    have rest : ∀ k2 : Nat, k = k2 + 1 → ∃ (k' : Nat) (o' : Oper), writer t l (i0 + 1) = some (i0 + 1 + k') ∧ l[k']? = some o' ∧ o'.dst = some t := by
      rintro k2 rfl
      exact writer_ok t l (i0 + 1) k2 o (by simpa using h) hd
    have lift : (∃ (k' : Nat) (o' : Oper), writer t l (i0 + 1) = some (i0 + 1 + k') ∧ l[k']? = some o' ∧ o'.dst = some t) → writer t (o0 :: l) i0 = writer t l (i0 + 1) → ∃ (k' : Nat) (o' : Oper), writer t (o0 :: l) i0 = some (i0 + k') ∧ (o0 :: l)[k']? = some o' ∧ o'.dst = some t := by
      rintro ⟨k', o', h1, h2, h3⟩ he
      exact ⟨k' + 1, o', by rw [he, h1]; congr 1; omega, by simpa using h2, h3⟩
    cases hd0 : o0.dst with
    | none =>
      cases k with
      | zero => simp only [List.getElem?_cons_zero, Option.some.injEq] at h; subst h; rw [hd0] at hd; cases hd
      | succ k => exact lift (rest k rfl) (by simp [writer, hd0])
    | some d =>
      cases hb : Nat.beq d t with
      | true =>
        have := eq_of_beq hb
        subst this
        exact ⟨0, o0, by simp only [writer, hd0, hb, cond_true, Nat.add_zero], rfl, hd0⟩
      | false =>
        cases k with
        | zero =>
          simp only [List.getElem?_cons_zero, Option.some.injEq] at h
          subst h
          rw [hd0] at hd
          simp only [Option.some.injEq] at hd
          subst hd
          rw [show Nat.beq d d = true from Nat.beq_refl d] at hb
          cases hb
        | succ k => exact lift (rest k rfl) (by simp only [writer, hd0, hb, cond_false])
theorem operandsOk_ok {ops : List Oper} {anc : Nat} (hdist : ∀ (i j : Nat) oi oj d, ops[i]? = some oi → ops[j]? = some oj → oi.dst = some d → oj.dst = some d → i = j) :
    ∀ {l : List Operand}, operandsOk ops anc l = true → ∀ t, Operand.tmp t ∈ l → ∀ (k : Nat) o, ops[k]? = some o → o.dst = some t → anc.testBit k = true
  | [], _, t, h, _, _, _, _ => by cases h
  | x :: l, h, t, hm, k, o, ho, hd => by
    have tail : operandsOk ops anc l = true → Operand.tmp t ∈ l → anc.testBit k = true := fun h1 h2 => operandsOk_ok hdist h1 t h2 k o ho hd
    cases x with
    | tmp u =>
      simp only [operandsOk, Bool.and_eq_true] at h
      rcases List.mem_cons.1 hm with he | hm
      · simp only [Operand.tmp.injEq] at he
        subst he
        obtain ⟨k', o', h1, h2, h3⟩ := writer_ok t ops 0 k o ho hd
        have := hdist k k' o o' t ho h2 hd h3
        subst this
        have h4 := h.1
        rw [h1] at h4
        simpa using h4
      · exact tail h.2 hm
    | _ =>
      simp only [operandsOk] at h
      rcases List.mem_cons.1 hm with he | hm
      · cases he
      · exact tail h hm
theorem opsOk_ok {all : List Oper} : ∀ {l : List Oper} {ancs : List Nat} {i0 : Nat}, opsOk all ancs l i0 = true → ∀ (j : Nat) o, l[j]? = some o → ∃ anc, ancs[j]? = some anc ∧ edgesOk (i0 + j) o.after.toList = true ∧ operandsOk all anc (needs all o) = true
  | [], ancs, i0, _, j, o, h => by simp at h
  | o0 :: l, [], i0, h, j, o, hj => by simp [opsOk] at h
  | o0 :: l, a :: ancs, i0, h, j, o, hj => by
    simp only [opsOk, Bool.and_eq_true] at h
    cases j with
    | zero =>
      simp only [List.getElem?_cons_zero, Option.some.injEq] at hj
      subst hj
      exact ⟨a, rfl, h.1.1, h.1.2⟩
    | succ j =>
      obtain ⟨anc, h1, h2, h3⟩ := opsOk_ok h.2 j o (by simpa using hj)
      exact ⟨anc, by simpa using h1, by rw [show i0 + (j + 1) = i0 + 1 + j by omega]; exact h2, h3⟩
theorem edgesOk_ok {i : Nat} : ∀ {l : List Edge}, edgesOk i l = true → ∀ e ∈ l, Region.binds .any e = true → e.on < i
  | [], _, e, h, _ => by cases h
  | a :: l, h, e, hm, hb => by
    simp only [edgesOk, Bool.and_eq_true] at h
    rcases List.mem_cons.1 hm with rfl | hm
    · have := h.1
      rw [hb] at this
      exact lt_of_blt this
    · exact edgesOk_ok h.2 e hm hb
theorem ancOf_bit {p : List Nat} {j : Nat} : ∀ {l : List Edge}, (ancOf p l).testBit j = true → ∃ e ∈ l, Region.binds .any e = true ∧ (j = e.on ∨ (p.getD e.on 0).testBit j = true)
  | [], h => by simp [ancOf] at h
  | a :: l, h => by
    simp only [ancOf] at h
    cases hb : Region.binds .any a with
    | true =>
      rw [hb] at h
      simp only [cond_true, Nat.testBit_or, Bool.or_eq_true] at h
      rcases h with h | h | h
      · rw [Nat.testBit_two_pow] at h
        exact ⟨a, List.mem_cons_self .., hb, .inl (by simpa [eq_comm] using h)⟩
      · exact ⟨a, List.mem_cons_self .., hb, .inr h⟩
      · obtain ⟨e, h1, h2, h3⟩ := ancOf_bit h
        exact ⟨e, List.mem_cons_of_mem _ h1, h2, h3⟩
    | false =>
      rw [hb] at h
      simp only [cond_false] at h
      obtain ⟨e, h1, h2, h3⟩ := ancOf_bit h
      exact ⟨e, List.mem_cons_of_mem _ h1, h2, h3⟩
theorem ancGo_old : ∀ (l : List Oper) (acc : List Nat) (k : Nat), k < acc.length → (ancGo acc l)[k]? = acc[k]?
  | [], acc, k, _ => rfl
  | o :: l, acc, k, h => by
    rw [ancGo, ancGo_old l _ k (by simp; omega), List.getElem?_append_left h]
theorem ancGo_get : ∀ (l : List Oper) (acc : List Nat) (j : Nat) (o : Oper), l[j]? = some o → ∃ p : List Nat, p.length = acc.length + j ∧ (∀ k, k < p.length → p[k]? = (ancGo acc l)[k]?) ∧ (ancGo acc l)[acc.length + j]? = some (ancOf p o.after.toList)
  | [], acc, j, o, h => by simp at h
  | o0 :: l, acc, j, o, h => by
    cases j with
    | zero =>
      simp only [List.getElem?_cons_zero, Option.some.injEq] at h
      subst h
      refine ⟨acc, rfl, fun k hk => ?_, ?_⟩
      · rw [ancGo, ancGo_old l _ k (by simp; omega), List.getElem?_append_left hk]
      · rw [ancGo, ancGo_old l _ _ (by simp), List.getElem?_append_right (by simp)]
        simp
    | succ j =>
      obtain ⟨p, h1, h2, h3⟩ := ancGo_get l (acc ++ [ancOf acc o0.after.toList]) j o (by simpa using h)
      simp only [List.length_append, List.length_singleton] at h1 h3
      refine ⟨p, by omega, fun k hk => ?_, ?_⟩
      · rw [ancGo]; exact h2 k hk
      · rw [ancGo, show acc.length + (j + 1) = acc.length + 1 + j by omega]
        exact h3
theorem anc_listed {ops : List Oper} (L : Nat → Prop) (hE : ∀ (i : Nat) o, ops[i]? = some o → edgesOk i o.after.toList = true) (hL : ∀ (i : Nat) o, L i → ops[i]? = some o → ∀ e ∈ o.after.toList, Region.binds .any e = true → L e.on) :
    ∀ (i : Nat) o, ops[i]? = some o → (∀ e ∈ o.after.toList, Region.binds .any e = true → L e.on) → ∀ j, ((ancGo [] ops).getD i 0).testBit j = true → L j ∧ j < i := by
  intro i
  induction i using Nat.strongRecOn with
  | _ i ih =>
    intro o ho hedges j hj
    obtain ⟨p, h1, h2, h3⟩ := ancGo_get ops [] i o ho
    simp only [List.length_nil, Nat.zero_add] at h1 h3
    rw [List.getD_eq_getElem?_getD, h3] at hj
    simp only [Option.getD_some] at hj
    obtain ⟨e, he, hb, hcase⟩ := ancOf_bit hj
    have hlt := edgesOk_ok (hE i o ho) e he hb
    have hLe := hedges e he hb
    rcases hcase with rfl | hbit
    · exact ⟨hLe, hlt⟩
    · have hlen : i < ops.length := (List.getElem?_eq_some_iff.1 ho).1
      have ho' : ops[e.on]? = some ops[e.on] := List.getElem?_eq_getElem (by omega)
      rw [List.getD_eq_getElem?_getD, h2 e.on (by omega), ← List.getD_eq_getElem?_getD] at hbit
      obtain ⟨g1, g2⟩ := ih e.on hlt _ ho' (hL e.on _ hLe ho') j hbit
      exact ⟨g1, by omega⟩
theorem onlyT_at {T : Tr SV} : ∀ (l : List Operand) (t : Nat) (s : SV), (onlyT T l).at' t = some s → Operand.tmp t ∈ l ∧ T.at' t = some s
  | [], t, s, h => by simp [onlyT, Tr.at_nil] at h
  | x :: l, t, s, h => by
    cases x with
    | tmp u =>
      simp only [onlyT] at h
      cases hu : T.at' u with
      | none =>
        rw [hu] at h
        obtain ⟨h1, h2⟩ := onlyT_at l t s h
        exact ⟨List.mem_cons_of_mem _ h1, h2⟩
      | some v =>
        rw [hu] at h
        rcases Tr.at_set h with ⟨rfl, rfl⟩ | ⟨_, h⟩
        · exact ⟨List.mem_cons_self .., hu⟩
        · obtain ⟨h1, h2⟩ := onlyT_at l t s h
          exact ⟨List.mem_cons_of_mem _ h1, h2⟩
    | _ =>
      simp only [onlyT] at h
      obtain ⟨h1, h2⟩ := onlyT_at l t s h
      exact ⟨List.mem_cons_of_mem _ h1, h2⟩
section
variable (P : Program) (rn : Rn) (nt : Nat) (ops : Array Oper) (T0 : Tr SV)
def Src (R : List Rec) (i : Nat) (t : Nat) (s : SV) : Prop :=
  (∃ (k : Nat) (r : Rec), k < i ∧ R[k]? = some r ∧ r.o.dst = some t ∧ r.val = s) ∨ ((∀ (k : Nat) (r : Rec), k < i → R[k]? = some r → r.o.dst ≠ some t) ∧ T0.at' t = some s)
structure RecOK (R : List Rec) (Q : List (Heap × Nat)) (C : List Nat) (i : Nat) (r : Rec) : Prop where
  idx : r.i = i
  op : ops[i]? = some r.o
  slots : ∀ t s, r.T.at' t = some s → Operand.tmp t ∈ needs ops.toList r.o ∧ Src T0 R i t s
  want : wantedS r.T ops r.o = some r.wanted
  skip : r.wanted = false → r.val = undefS ∧ r.chain = false
  float : r.wanted = true → r.chain = false → ∃ H n, Q[r.stg]? = some (H, n) ∧ floatOp P r.T H r.o = some r.val
  eff : r.chain = true → r.wanted = true ∧ C[r.stg]? = some i ∧ ∃ H n H' n', Q[r.stg]? = some (H, n) ∧ Q[r.stg + 1]? = some (H', n') ∧ drawEff P rn r.T H n r.o = some (r.val, H', n')
structure DSOK (i : Nat) (s : DS) : Prop where
  len : s.recs.length = i
  hs : s.Hs.length = s.stg + 1
  last : s.Hs.reverse[s.stg]? = some (s.H, s.nx)
  cnt : ((s.recs.reverse.filter (·.chain)).map (·.i)).length = s.stg
  recs : ∀ (k : Nat) r, s.recs.reverse[k]? = some r → RecOK P rn ops T0 s.recs.reverse s.Hs.reverse ((s.recs.reverse.filter (·.chain)).map (·.i)) k r
  slots : ∀ t v, s.T.at' t = some v → Src T0 s.recs.reverse i t v
end
section
variable {P : Program} {rn : Rn} {nt : Nat} {ops : Array Oper} {T0 : Tr SV}
theorem Src.mono {R R' : List Rec} {i : Nat} {t : Nat} {s : SV} (h : Src T0 R i t s) (hR : ∀ k, k < i → R'[k]? = R[k]?) : Src T0 R' i t s := by
  rcases h with ⟨k, r, h1, h2, h3, h4⟩ | ⟨h1, h2⟩
  · exact .inl ⟨k, r, h1, by rw [hR k h1]; exact h2, h3, h4⟩
  · exact .inr ⟨fun k r hk hr => h1 k r hk (by rw [← hR k hk]; exact hr), h2⟩
theorem RecOK.mono {R R' : List Rec} {Q Q' : List (Heap × Nat)} {C C' : List Nat} {i : Nat} {r : Rec} (h : RecOK P rn ops T0 R Q C i r) (hR : ∀ k, k < i → R'[k]? = R[k]?) (hQ : ∀ (j : Nat) x, Q[j]? = some x → Q'[j]? = some x) (hC : ∀ (j : Nat) x, C[j]? = some x → C'[j]? = some x) :
    RecOK P rn ops T0 R' Q' C' i r :=
  ⟨h.idx, h.op, fun t s hs => let ⟨a, b⟩ := h.slots t s hs; ⟨a, b.mono hR⟩, h.want, h.skip, fun a b => let ⟨H, n, c, d⟩ := h.float a b; ⟨H, n, hQ _ _ c, d⟩,
    fun a => let ⟨b, c, H, n, H', n', d, e, f⟩ := h.eff a; ⟨b, hC _ _ c, H, n, H', n', hQ _ _ d, hQ _ _ e, f⟩⟩
theorem get_snoc {A : Type} {l : List A} {x y : A} {j : Nat} (h : l[j]? = some y) : (l ++ [x])[j]? = some y := by
  rw [List.getElem?_append_left (List.getElem?_eq_some_iff.1 h).1]; exact h
theorem get_last {A : Type} (l : List A) (x : A) : (l ++ [x])[l.length]? = some x := by simp
theorem DSOK.snoc {i : Nat} {s : DS} (h : DSOK P rn ops T0 i s) (hdst : ∀ (j : Nat) o d, ops.toList[j]? = some o → o.dst = some d → d < nt) {r : Rec} {H : Heap} {nx : Nat} {Hs : List (Heap × Nat)} {stg : Nat} (ho : ops[i]? = some r.o)
    (hlen : Hs.length = stg + 1) (hlast : Hs.reverse[stg]? = some (H, nx)) (hQ : ∀ (j : Nat) x, s.Hs.reverse[j]? = some x → Hs.reverse[j]? = some x) (hcnt : (if r.chain then s.stg + 1 else s.stg) = stg)
    (hrec : RecOK P rn ops T0 (s.recs.reverse ++ [r]) Hs.reverse (((s.recs.reverse ++ [r]).filter (·.chain)).map (·.i)) i r) : DSOK P rn ops T0 (i + 1) ⟨putS nt s.T r.o.dst r.val, H, nx, r :: s.recs, Hs, stg⟩ := by
  have hR : ∀ k, k < i → (s.recs.reverse ++ [r])[k]? = s.recs.reverse[k]? := fun k hk => List.getElem?_append_left (by simp [h.len]; exact hk)
  have hri : (s.recs.reverse ++ [r])[i]? = some r := by have := get_last s.recs.reverse r; rw [List.length_reverse, h.len] at this; exact this
  refine ⟨by simp [h.len], hlen, hlast, ?_, fun k r' hr' => ?_, fun t v hv => ?_⟩
  · simp only [List.reverse_cons, List.filter_append, List.map_append, List.length_append, h.cnt]
    rw [← hcnt]
    cases hc : r.chain <;> simp [List.filter_cons, hc]
  · simp only [List.reverse_cons] at hr' ⊢
    rcases Nat.lt_or_ge k i with hk | hk
    · rw [hR k hk] at hr'
      refine (h.recs k r' hr').mono (fun k' hk' => hR k' (by omega)) hQ (fun j x hj => ?_)
      rw [List.filter_append, List.map_append]
      rw [List.getElem?_append_left (List.getElem?_eq_some_iff.1 hj).1]
      exact hj
    · have : k = i := by
        have := (List.getElem?_eq_some_iff.1 hr').1
        simp [h.len] at this
        omega
      subst this
      rw [hri] at hr'
      simp only [Option.some.injEq] at hr'
      subst hr'
      exact hrec
  · simp only [List.reverse_cons] at hv ⊢
    have old : s.T.at' t = some v → r.o.dst ≠ some t → Src T0 (s.recs.reverse ++ [r]) (i + 1) t v := by
      intro hv hne
      rcases h.slots t v hv with ⟨k, r', h1, h2, h3, h4⟩ | ⟨h1, h2⟩
      · exact .inl ⟨k, r', by omega, by rw [hR k h1]; exact h2, h3, h4⟩
      · refine .inr ⟨fun k r' hk hr' => ?_, h2⟩
        rcases Nat.lt_or_ge k i with hk' | hk'
        · rw [hR k hk'] at hr'
          exact h1 k r' hk' hr'
        · have : k = i := by omega
          subst this
          rw [hri] at hr'
          simp only [Option.some.injEq] at hr'
          subst hr'
          exact hne
    cases hd : r.o.dst with
    | none => rw [hd] at hv old; exact old hv (by simp)
    | some d =>
      rw [hd] at hv
      have hlt := hdst i r.o d (by simpa using ho) hd
      simp only [putS, show Nat.blt d nt = true from Nat.ble_eq_true_of_le hlt, cond_true] at hv
      rcases Tr.at_set hv with ⟨rfl, rfl⟩ | ⟨hne, hv⟩
      · exact .inl ⟨i, r, by omega, hri, hd, rfl⟩
      · exact old hv (by rw [hd]; simp; exact fun hc => hne hc.symm)
theorem drawOne_ok {i : Nat} {o : Oper} {s s' : DS} (h : DSOK P rn ops T0 i s) (hdst : ∀ (j : Nat) o d, ops.toList[j]? = some o → o.dst = some d → d < nt) (ho : ops[i]? = some o) (hd : drawOne P rn nt ops i o s = some s') : DSOK P rn ops T0 (i + 1) s' := by
  unfold drawOne at hd
  simp only at hd
  have hslots : ∀ (R : List Rec), (∀ k, k < i → R[k]? = s.recs.reverse[k]?) → ∀ t v, (onlyT s.T (needs ops.toList o)).at' t = some v → Operand.tmp t ∈ needs ops.toList o ∧ Src T0 R i t v := by
    intro R hR t v hv
    obtain ⟨h1, h2⟩ := onlyT_at _ t v hv
    exact ⟨h1, (h.slots t v h2).mono hR⟩
  have hR : ∀ (r : Rec) k, k < i → (s.recs.reverse ++ [r])[k]? = s.recs.reverse[k]? := fun r k hk => List.getElem?_append_left (by simp [h.len]; exact hk)
  cases hw : wantedS (onlyT s.T (needs ops.toList o)) ops o with
  | none => rw [hw] at hd; cases hd
  | some b =>
    rw [hw] at hd
    cases b with
    | false =>
      simp only [Option.some.injEq] at hd
      subst hd
      exact h.snoc (r := ⟨i, o, _, s.stg, false, false, undefS⟩) hdst ho h.hs h.last (fun _ _ hj => hj) rfl
        ⟨rfl, ho, hslots _ (hR _), hw, fun _ => ⟨rfl, rfl⟩, fun hc _ => (by cases hc), fun hc => (by cases hc)⟩
    | true =>
      simp only at hd
      cases hf : floatOp P (onlyT s.T (needs ops.toList o)) s.H o with
      | some v =>
        rw [hf] at hd
        simp only [Option.some.injEq] at hd
        subst hd
        exact h.snoc (r := ⟨i, o, _, s.stg, false, true, v⟩) hdst ho h.hs h.last (fun _ _ hj => hj) rfl
          ⟨rfl, ho, hslots _ (hR _), hw, fun hc => (by cases hc), fun _ _ => ⟨s.H, s.nx, h.last, hf⟩, fun hc => (by cases hc)⟩
      | none =>
        rw [hf] at hd
        simp only at hd
        cases he : drawEff P rn (onlyT s.T (needs ops.toList o)) s.H s.nx o with
        | none => rw [he] at hd; cases hd
        | some q =>
          obtain ⟨v, H, nx⟩ := q
          rw [he] at hd
          simp only [Option.some.injEq] at hd
          subst hd
          have hl := h.hs
          have hq : ∀ (j : Nat) x, s.Hs.reverse[j]? = some x → ((H, nx) :: s.Hs).reverse[j]? = some x := fun j x hj => by rw [List.reverse_cons]; exact get_snoc hj
          have hlast : ((H, nx) :: s.Hs).reverse[s.stg + 1]? = some (H, nx) := by
            rw [List.reverse_cons]
            have := get_last s.Hs.reverse (H, nx)
            rw [List.length_reverse, hl] at this
            exact this
          refine h.snoc (r := ⟨i, o, _, s.stg, true, true, v⟩) hdst ho (by simp [hl]) hlast hq rfl
            ⟨rfl, ho, hslots _ (hR _), hw, fun hc => (by cases hc), fun _ hc => (by cases hc), fun _ => ⟨rfl, ?_, s.H, s.nx, H, nx, hq _ _ h.last, hlast, he⟩⟩
          simp only [List.filter_append, List.map_append, List.filter_cons, if_true, List.filter_nil, List.map_cons, List.map_nil]
          have := get_last ((s.recs.reverse.filter (·.chain)).map (·.i)) i
          rw [h.cnt] at this
          exact this
theorem drawAll_ok (hdst : ∀ (j : Nat) o d, ops.toList[j]? = some o → o.dst = some d → d < nt) : ∀ (l : List Oper) (i : Nat) (s s' : DS), DSOK P rn ops T0 i s → l = ops.toList.drop i → drawAll P rn nt ops i l s = some s' → DSOK P rn ops T0 ops.size s'
  | [], i, s, s', h, hl, hd => by
    simp only [drawAll, Option.some.injEq] at hd
    subst hd
    have h1 := congrArg List.length hl
    simp at h1
    have h2 : i ≤ ops.size := by
      rcases Nat.lt_or_ge ops.size i with hc | hc
      · exfalso
        have hlen := h.len
        have hr := h.recs (i - 1) (s.recs.reverse[i - 1]'(by simp; omega)) (List.getElem?_eq_getElem (by simp; omega))
        have := (Array.getElem?_eq_some_iff.1 hr.op).1
        omega
      · exact hc
    have : i = ops.size := by omega
    subst this
    exact h
  | o :: l, i, s, s', h, hl, hd => by
    have ho : ops[i]? = some o := by
      have : ops.toList[i]? = some o := by
        have := congrArg List.head? hl
        simpa using this.symm
      simpa using this
    have hl' : l = ops.toList.drop (i + 1) := by
      have := congrArg List.tail hl
      simpa using this
    simp only [drawAll] at hd
    cases hone : drawOne P rn nt ops i o s with
    | none => rw [hone] at hd; cases hd
    | some s1 =>
      rw [hone] at hd
      exact drawAll_ok hdst l (i + 1) s1 s' (drawOne_ok h hdst ho hone) hl' hd
end
end Go.Ex
end
section
namespace Go.Ex
open Go Go.Sl Go.RowKit
mutual
theorem SV.same_eq : ∀ (a b : SV), SV.same a b = true → a = b
  | .sc x, b, h => by
    unfold SV.same at h
    split at h <;> first
      | (rename_i h1 h2; simp only [SV.sc.injEq] at h1; subst h1; simp_all; done)
      | (simp_all; done)
      | skip
    all_goals first
      | (simp only [Bool.and_eq_true, decide_eq_true_eq] at h; simp_all; done)
      | (simp only [Bool.and_eq_true] at h; have q1 := eq_of_beq h.1; have q2 := eq_of_beq h.2; simp_all; done)
  | .ptr b o, y, h => by
    cases y <;> simp only [SV.same, Bool.and_eq_true, Bool.false_eq_true] at h
    have q1 := eq_of_beq h.1
    have q2 := eq_of_beq h.2
    subst q1 q2; rfl
  | .sl b o n c, y, h => by
    cases y <;> simp only [SV.same, Bool.and_eq_true, Bool.false_eq_true] at h
    have q1 := eq_of_beq h.1.1.1
    have q2 := eq_of_beq h.1.1.2
    have q3 := eq_of_beq h.1.2
    have q4 := eq_of_beq h.2
    subst q1 q2 q3 q4; rfl
  | .slu b o n c, y, h => by
    cases y <;> simp only [SV.same, Bool.and_eq_true, Bool.false_eq_true] at h
    have q1 := eq_of_beq h.1.1.1
    have q2 := eq_of_beq h.1.1.2
    have q3 := eq_of_beq h.1.2
    have q4 := eq_of_beq h.2
    subst q1 q2 q3 q4; rfl
  | .mp b, y, h => by
    cases y <;> simp only [SV.same, Bool.false_eq_true] at h
    have q1 := eq_of_beq h
    subst q1; rfl
  | .yld b, y, h => by
    cases y <;> simp only [SV.same, Bool.false_eq_true] at h
    have q1 := eq_of_beq h
    subst q1; rfl
  | .agg l, y, h => by
    cases y <;> simp only [SV.same, Bool.false_eq_true] at h
    rw [SV.sameL_eq _ _ h]
  | .tup l, y, h => by
    cases y <;> simp only [SV.same, Bool.false_eq_true] at h
    rw [SV.sameL_eq _ _ h]
  | .ifc t v, y, h => by
    cases y <;> simp only [SV.same, Bool.and_eq_true, Bool.false_eq_true] at h
    have q1 := eq_of_beq h.1
    subst q1
    rw [SV.same_eq _ _ h.2]
  | .fn f a b, y, h => by
    cases y <;> simp only [SV.same, Bool.false_eq_true] at h
theorem SV.sameL_eq : ∀ (a b : List SV), SV.sameL a b = true → a = b
  | [], b, h => by
    cases b with
    | nil => rfl
    | cons _ _ => simp [SV.sameL] at h
  | x :: l, b, h => by
    cases b with
    | nil => simp [SV.sameL] at h
    | cons y l' =>
      simp only [SV.sameL, Bool.and_eq_true] at h
      rw [SV.same_eq _ _ h.1, SV.sameL_eq _ _ h.2]
end
section
variable {P : Program} {B : Nat} {w0 w : World} {e : Env} {H : Heap} {nx : Nat} {rn : Rn}
theorem stableAt_ok {T : Tr SV} {o : Oper} {v : SV} : ∀ {l : List Heap}, stableAt P T o v l = true → ∀ H ∈ l, floatOp P T H o = some v
  | [], _, H, hm => by cases hm
  | H0 :: l, h, H, hm => by
    simp only [stableAt, Bool.and_eq_true] at h
    rcases List.mem_cons.1 hm with rfl | hm
    · cases hf : floatOp P T H o with
      | none => rw [hf] at h; simp at h
      | some u =>
        rw [hf] at h
        rw [SV.same_eq v u h.1]
    · exact stableAt_ok h.2 H hm
theorem floatOp_heap {T : Tr SV} {o : Oper} (h : looksAtHeap o.op = false) (H H' : Heap) : floatOp P T H o = floatOp P T H' o := by
  have : readOp P T H o = readOp P T H' o := by
    unfold readOp
    cases hop : o.op <;> rw [hop] at h <;> first
      | rfl
      | simp [looksAtHeap] at h
  unfold floatOp
  rw [this]
theorem lowOf_ok {anc : Nat} : ∀ {l : List Nat} (j : Nat), j < lowOf anc l → ∃ c, l[j]? = some c ∧ anc.testBit c = true
  | [], j, h => by simp [lowOf] at h
  | c :: l, j, h => by
    simp only [lowOf] at h
    cases hb : anc.testBit c with
    | false => rw [hb] at h; simp at h
    | true =>
      rw [hb] at h
      simp only [cond_true] at h
      cases j with
      | zero => exact ⟨c, rfl, hb⟩
      | succ j =>
        obtain ⟨c', h1, h2⟩ := lowOf_ok (anc := anc) (l := l) j (by omega)
        exact ⟨c', by simpa using h1, h2⟩
theorem highOf_ok {ancs : List Nat} {i : Nat} : ∀ {l : List Nat}, highOf ancs i l < l.length → ∃ c, l[highOf ancs i l]? = some c ∧ (ancs.getD c 0).testBit i = true
  | [], h => by simp at h
  | c :: l, h => by
    simp only [highOf] at h ⊢
    cases hb : (ancs.getD c 0).testBit i with
    | true => simp only [cond_true]; exact ⟨c, rfl, hb⟩
    | false =>
      rw [hb] at h
      simp only [cond_false, List.length_cons] at h
      obtain ⟨c', h1, h2⟩ := highOf_ok (ancs := ancs) (i := i) (l := l) (by omega)
      exact ⟨c', by simpa using h1, h2⟩
theorem chainOk_ok {ancs : List Nat} : ∀ {l : List Nat}, chainOk ancs l = true → ∀ (j : Nat) c c', l[j]? = some c → l[j + 1]? = some c' → (ancs.getD c' 0).testBit c = true
  | [], _, j, c, c', h, _ => by simp at h
  | [a], _, j, c, c', _, h => by simp at h
  | a :: b :: l, h, j, c, c', h1, h2 => by
    simp only [chainOk, Bool.and_eq_true] at h
    cases j with
    | zero =>
      simp only [List.getElem?_cons_zero, Option.some.injEq, Nat.zero_add, List.getElem?_cons_succ] at h1 h2
      subst h1 h2
      exact h.1
    | succ j => exact chainOk_ok h.2 j c c' (by simpa using h1) (by simpa using h2)
theorem floatsOk_ok {ancs C : List Nat} {Q : List (Heap × Nat)} : ∀ {l : List Rec}, floatsOk P ancs C Q l = true → ∀ r ∈ l, r.chain = false → r.wanted = true → (∃ H n, Q[r.stg]? = some (H, n) ∧ floatOp P r.T H r.o = some r.val) →
    ∀ s, lowOf (ancs.getD r.i 0) C ≤ s → s ≤ highOf ancs r.i C → ∀ H n, Q[s]? = some (H, n) → floatOp P r.T H r.o = some r.val
  | [], _, r, hm, _, _, _, _, _, _, _, _, _ => by cases hm
  | r0 :: l, h, r, hm, hc, hw, hst, s, hlo, hhi, H, n, hQ => by
    simp only [floatsOk, Bool.and_eq_true] at h
    rcases List.mem_cons.1 hm with rfl | hm
    · obtain ⟨H0, n0, hQ0, hf0⟩ := hst
      cases hlk : looksAtHeap r.o.op with
      | false => rw [floatOp_heap hlk H H0]; exact hf0
      | true =>
        have h1 := h.1
        rw [hc, hw, hlk] at h1
        simp only [Bool.not_true, Bool.or_false, cond_false] at h1
        cases hq : (Nat.beq (lowOf (ancs.getD r.i 0) C) r.stg && Nat.beq (highOf ancs r.i C) r.stg) with
        | true =>
          rw [Bool.and_eq_true] at hq
          have q1 := eq_of_beq hq.1
          have q2 := eq_of_beq hq.2
          have : s = r.stg := by omega
          subst this
          rw [hQ] at hQ0
          simp only [Option.some.injEq, Prod.mk.injEq] at hQ0
          rw [hQ0.1]
          exact hf0
        | false =>
          rw [hq] at h1
          simp only [cond_false] at h1
          refine stableAt_ok h1 H (List.mem_map.2 ⟨(H, n), ?_, rfl⟩)
          refine List.mem_iff_getElem?.2 ⟨s - lowOf (ancs.getD r.i 0) C, ?_⟩
          rw [List.getElem?_take, if_pos (by omega), List.getElem?_drop, show lowOf (ancs.getD r.i 0) C + (s - lowOf (ancs.getD r.i 0) C) = s by omega]
          exact hQ
    · exact floatsOk_ok h.2 r hm hc hw hst s hlo hhi H n hQ
theorem val_steps {fn : FuncId} {tmps : Array Value} {ops : Array Oper} {i : Nat} {rest : List Nat} {o : Oper} {k : List Item} {ds : List Deferred} {kd : CallKind} {rof : Option Nat} {cs : List Frame} {v : Value} {nxt : Next} {w' : World}
    (ho : ops[i]? = some o) (hw : Region.wanted o (yielded ops tmps) = true) (hnd : ∀ c, o.op ≠ .defer c) (hn : nxt = .value v ∨ (nxt = .skip ∧ v = undef))
    (hr : (execOp (fr0 fn tmps (.inRegion ops (i :: rest) :: k) ds kd rof).eval o).run P w = .ok nxt w') :
    Steps P (lone (fr0 fn tmps (.inRegion ops (i :: rest) :: k) ds kd rof) cs w) (lone (fr0 fn (putV tmps o.dst v) (.inRegion ops rest :: k) ds kd rof) cs w') := by
  refine .one (step_lone_go ?_)
  rw [stepG_oper ho hw (.inr hnd), ← finish_region ho]
  rcases hn with rfl | ⟨rfl, rfl⟩
  · simp only [stepG.apply, Sem.runT_eq, if_true, hr, GStep.bare_after, GStep.bare_go]
  · simp only [stepG.apply, Sem.runT_eq, if_true, hr, GStep.bare_after, GStep.bare_go]
theorem float_steps {nt : Nat} {T : Tr SV} {fn : FuncId} {tmps : Array Value} {ops : Array Oper} {i : Nat} {rest : List Nat} {o : Oper} {k : List Item} {ds : List Deferred} {kd : CallKind} {rof : Option Nat} {cs : List Frame} {v : SV}
    (hS : St B w0 e H nx w) (hT : TRel e nt T tmps) (ho : ops[i]? = some o) (hw : Region.wanted o (yielded ops tmps) = true) (h : floatOp P T H o = some v) :
    ∃ u, v.conc e = some u ∧ Steps P (lone (fr0 fn tmps (.inRegion ops (i :: rest) :: k) ds kd rof) cs w) (lone (fr0 fn (putV tmps o.dst u) (.inRegion ops rest :: k) ds kd rof) cs w) := by
  have hE := TRel.ev (fr := fr0 fn tmps (.inRegion ops (i :: rest) :: k) ds kd rof) hT
  have hnd : ∀ c, o.op ≠ .defer c := by
    intro c hop
    have h1 : readOp P T H o = none := by unfold readOp; rw [hop]
    have h2 : pureOp P T o = none := by unfold pureOp; rw [hop]; rfl
    unfold floatOp at h
    rw [h1, h2] at h
    cases h
  unfold floatOp at h
  cases hr : readOp P T H o with
  | some v' =>
    rw [hr] at h
    simp only [Option.some.injEq] at h
    subst h
    obtain ⟨u, hu, hrun⟩ := readOp_ok hS hE hr
    exact ⟨u, hu, val_steps ho hw hnd (.inl rfl) hrun⟩
  | none =>
    rw [hr] at h
    obtain ⟨u, hu, hrun⟩ := pureOp_ok hE h w
    exact ⟨u, hu, val_steps ho hw hnd (.inl rfl) hrun⟩
theorem eff_steps (hrn : RunOK P B w0 rn) {nt : Nat} {T : Tr SV} {fn : FuncId} {tmps : Array Value} {ops : Array Oper} {i : Nat} {rest : List Nat} {o : Oper} {k : List Item} {ds : List Deferred} {kd : CallKind} {rof : Option Nat} {cs : List Frame} {v : SV} {H' : Heap} {nx' : Nat}
    (hS : St B w0 e H nx w) (hT : TRel e nt T tmps) (ho : ops[i]? = some o) (hw : Region.wanted o (yielded ops tmps) = true) (h : drawEff P rn T H nx o = some (v, H', nx')) :
    ∃ e' w' u, e.le e' ∧ St B w0 e' H' nx' w' ∧ v.conc e' = some u ∧ Steps P (lone (fr0 fn tmps (.inRegion ops (i :: rest) :: k) ds kd rof) cs w) (lone (fr0 fn (putV tmps o.dst u) (.inRegion ops rest :: k) ds kd rof) cs w') := by
  have hE := TRel.ev (fr := fr0 fn tmps (.inRegion ops (i :: rest) :: k) ds kd rof) hT
  unfold drawEff at h
  cases he : effOp P T H nx o with
  | none => rw [he] at h; cases h
  | some out =>
    obtain ⟨a, H1, nx1⟩ := out
    rw [he] at h
    have hnd : ∀ c, o.op ≠ .defer c := by
      intro c hop
      unfold effOp at he
      rw [hop] at he
      simp only at he
      cases hc : c.callee with
      | builtin b => rw [hc] at he; cases he
      | invoke x y => rw [hc] at he; cases he
      | value f =>
        rw [hc] at he
        simp only at he
        split at he
        · simp only [Option.some.injEq, Prod.mk.injEq] at he
          obtain ⟨rfl, rfl, rfl⟩ := he
          cases h
        · cases he
    obtain ⟨e1, w1, hle, hS1, hrun⟩ := effOp_ok hS hE he
    have hcall : ∀ {A : Type} (x y : A), (match (fr0 fn tmps (.inRegion ops (i :: rest) :: k) ds kd rof).todo with | .call _ true _ _ :: _ => x | _ => y) = y := fun _ _ => rfl
    cases a with
    | val s =>
      simp only [Option.some.injEq, Prod.mk.injEq] at h
      obtain ⟨rfl, rfl, rfl⟩ := h
      obtain ⟨u, hu, hres⟩ := hrun
      exact ⟨e1, w1, u, hle, hS1, hu, val_steps ho hw hnd (.inl rfl) hres⟩
    | skip =>
      simp only [Option.some.injEq, Prod.mk.injEq] at h
      obtain ⟨rfl, rfl, rfl⟩ := h
      exact ⟨e1, w1, undef, hle, hS1, rfl, val_steps ho hw hnd (.inr ⟨rfl, rfl⟩) hrun⟩
    | enter f args =>
      simp only at h
      obtain ⟨vs, hvs, hres⟩ := hrun
      split at h
      · rename_i r hcs
        simp only [Option.some.injEq] at h
        subst h
        obtain ⟨r, hr1, e2, w2, u, g1, g2, g3, g4⟩ := call_back (callS_ok hrn hcs hS1 hvs (kd := .normal) (cs := fr0 fn tmps (.inRegion ops (i :: rest) :: k) ds kd rof :: cs) ⟨rfl, .inl rfl⟩)
        simp only [List.mem_singleton] at hr1
        subst hr1
        refine ⟨e2, w2, u, Env.le_trans hle g1, g2, g3, ?_⟩
        rw [finish_region ho] at g4
        refine .head (step_lone_go ?_) g4
        rw [stepG_oper ho hw (.inr hnd)]
        simp only [stepG.apply, Sem.runT_eq, if_true, hres, GStep.bare_after, GStep.bare_go]
        rfl
      · cases h
    | round l args =>
      simp only at h
      obtain ⟨x, vs, hx, hvs, hres⟩ := hrun
      split at h
      · rename_i r hcs
        simp only [Option.some.injEq] at h
        subst h
        obtain ⟨fn2, tmps2, assign, body, hy, hback⟩ := roundS_ok (P := P) hrn hcs hS1 hvs hx
        rw [hy] at hres
        obtain ⟨r, hr1, e2, w2, u, g1, g2, g3, g4⟩ := hback (fr0 fn tmps (.inRegion ops (i :: rest) :: k) ds kd rof) cs
        simp only [List.mem_singleton] at hr1
        subst hr1
        refine ⟨e2, w2, u, Env.le_trans hle g1, g2, g3, ?_⟩
        rw [finish_region ho] at g4
        refine .head (step_lone_go ?_) g4
        rw [stepG_oper ho hw (.inr hnd)]
        simp only [stepG.apply, Sem.runT_eq, if_true, hres, GStep.bare_after, GStep.bare_go]
      · cases h
    | _ => cases h
end
end Go.Ex
end
section
namespace Go.Ex
open Go Go.Sl Go.RowKit
section
variable {P : Program} {B : Nat} {w0 w : World} {e : Env} {H : Heap} {nx : Nat} {rn : Rn}
structure RegOK (P : Program) (rn : Rn) (nt : Nat) (ops : Array Oper) (T0 : Tr SV) (R : List Rec) (Q : List (Heap × Nat)) (C : List Nat) : Prop where
  len : R.length = ops.size
  recs : ∀ (k : Nat) r, R[k]? = some r → RecOK P rn ops T0 R Q C k r
  stages : Q.length = C.length + 1
  chainR : C = (R.filter (·.chain)).map (·.i)
  chain : chainOk (ancGo [] ops.toList) C = true
  floats : ∀ r ∈ R, r.chain = false → r.wanted = true → ∀ s, lowOf ((ancGo [] ops.toList).getD r.i 0) C ≤ s → s ≤ highOf (ancGo [] ops.toList) r.i C → ∀ H n, Q[s]? = some (H, n) → floatOp P r.T H r.o = some r.val
  small : ∀ (i : Nat) o d, ops.toList[i]? = some o → o.dst = some d → d < nt
  dist : ∀ (i j : Nat) oi oj d, ops.toList[i]? = some oi → ops.toList[j]? = some oj → oi.dst = some d → oj.dst = some d → i = j
  edges : ∀ (i : Nat) o, ops.toList[i]? = some o → edgesOk i o.after.toList = true
  opnds : ∀ (i : Nat) o, ops.toList[i]? = some o → operandsOk ops.toList ((ancGo [] ops.toList).getD i 0) (needs ops.toList o) = true
def Good (T0 : Tr SV) (R : List Rec) (L : Nat → Prop) (t : Nat) (s : SV) : Prop :=
  (∃ (k : Nat) (r : Rec), L k ∧ R[k]? = some r ∧ r.o.dst = some t ∧ r.val = s) ∨ ((∀ (k : Nat) (r : Rec), R[k]? = some r → r.o.dst ≠ some t) ∧ T0.at' t = some s)
structure PInv (B : Nat) (w0 : World) (nt : Nat) (ops : Array Oper) (T0 : Tr SV) (R : List Rec) (Q : List (Heap × Nat)) (C : List Nat) (L : Nat → Prop) (s : Nat) (e : Env) (w : World) (tr : Array Value) : Prop where
  st : ∃ H n, Q[s]? = some (H, n) ∧ St B w0 e H n w
  size : tr.size = nt
  good : ∀ t sv, Good T0 R L t sv → ∃ v, sv.conc e = some v ∧ tr.getD t undef = v
  chain : ∀ (j c : Nat), C[j]? = some c → (L c ↔ j < s)
  closed : ∀ (i : Nat) o, L i → ops.toList[i]? = some o → ∀ ed ∈ o.after.toList, Region.binds .any ed = true → L ed.on
variable {nt : Nat} {ops : Array Oper} {T0 : Tr SV} {R : List Rec} {Q : List (Heap × Nat)} {C : List Nat}
theorem PInv.step (hrn : RunOK P B w0 rn) (hR : RegOK P rn nt ops T0 R Q C) {L : Nat → Prop} {s : Nat} {tr : Array Value} (h : PInv B w0 nt ops T0 R Q C L s e w tr) {i : Nat} {o : Oper} (ho : ops[i]? = some o) (hni : ¬ L i)
    (hed : ∀ ed ∈ o.after.toList, Region.binds .any ed = true → L ed.on) (fn : FuncId) (rest : List Nat) (k : List Item) (ds : List Deferred) (kd : CallKind) (rof : Option Nat) (cs : List Frame) :
    ∃ e' w' tr' s', e.le e' ∧ PInv B w0 nt ops T0 R Q C (fun j => L j ∨ j = i) s' e' w' tr' ∧
      Steps P (lone (fr0 fn tr (.inRegion ops (i :: rest) :: k) ds kd rof) cs w) (lone (fr0 fn tr' (.inRegion ops rest :: k) ds kd rof) cs w') := by
  have hoL : ops.toList[i]? = some o := by simpa using ho
  have hilt : i < ops.size := (Array.getElem?_eq_some_iff.1 ho).1
  obtain ⟨r, hr⟩ : ∃ r, R[i]? = some r := ⟨_, List.getElem?_eq_getElem (by rw [hR.len]; exact hilt)⟩
  have hrec := hR.recs i r hr
  have hro : r.o = o := by
    have := hrec.op
    rw [ho] at this
    simpa using this.symm
  have hanc := anc_listed L hR.edges (fun i o hi ho' => h.closed i o hi ho') i o hoL hed
  -- the slots that it needs
  have hT : TRel e nt r.T tr := by
    refine ⟨h.size, fun t sv ht => ?_⟩
    obtain ⟨hneed, hsrc⟩ := hrec.slots t sv ht
    rw [hro] at hneed
    have hwr : ∀ (k' : Nat) o', ops.toList[k']? = some o' → o'.dst = some t → L k' ∧ k' < i := fun k' o' ho' hd' => hanc k' (operandsOk_ok hR.dist (hR.opnds i o hoL) t hneed k' o' ho' hd')
    refine h.good t sv ?_
    rcases hsrc with ⟨k', r', h1, h2, h3, h4⟩ | ⟨h1, h2⟩
    · have hop := (hR.recs k' r' h2).op
      exact .inl ⟨k', r', (hwr k' r'.o (by simpa using hop) h3).1, h2, h3, h4⟩
    · refine .inr ⟨fun k' r' hr' hd' => ?_, h2⟩
      have hop := (hR.recs k' r' hr').op
      have := (hwr k' r'.o (by simpa using hop) hd').2
      exact h1 k' r' this hr' hd'
  have hwant := wantedS_ok hrec.want hT
  rw [hro] at hwant
  -- what comes of it
  have build : ∀ (e' : Env) (w' : World) (u : Value) (s' : Nat), e.le e' → (∃ H n, Q[s']? = some (H, n) ∧ St B w0 e' H n w') → r.val.conc e' = some u → (∀ (j c : Nat), C[j]? = some c → ((L c ∨ c = i) ↔ j < s')) →
      PInv B w0 nt ops T0 R Q C (fun j => L j ∨ j = i) s' e' w' (putV tr o.dst u) := by
    intro e' w' u s' hle hst hu hch
    refine ⟨hst, ?_, fun t sv hg => ?_, hch, fun j oj hj hoj ed hed' hb => ?_⟩
    · unfold putV
      cases o.dst with
      | none => exact h.size
      | some d => simpa using h.size
    · have old : (∀ d, o.dst = some d → d ≠ t) → ∃ v, sv.conc e' = some v ∧ (putV tr o.dst u).getD t undef = v := by
        intro hne
        have hg' : Good T0 R L t sv := by
          rcases hg with ⟨k', r', hk', h2, h3, h4⟩ | hg
          · refine .inl ⟨k', r', ?_, h2, h3, h4⟩
            rcases hk' with hk' | rfl
            · exact hk'
            · exfalso
              rw [hr] at h2
              simp only [Option.some.injEq] at h2
              subst h2
              rw [hro] at h3
              exact hne t h3 rfl
          · exact .inr hg
        obtain ⟨v, hv, hgv⟩ := h.good t sv hg'
        refine ⟨v, SV.conc_mono hle _ _ hv, ?_⟩
        cases hd : o.dst with
        | none => exact hgv
        | some d =>
          have := hne d hd
          simp only [putV]
          rw [Array.getD_eq_getD_getElem?, Array.getElem?_setIfInBounds_ne this, ← Array.getD_eq_getD_getElem?]
          exact hgv
      cases hd : o.dst with
      | none => rw [hd] at old; exact old (fun d hd' => by cases hd')
      | some d =>
        by_cases hdt : d = t
        · subst hdt
          have hval : sv = r.val := by
            rcases hg with ⟨k', r', hk', h2, h3, h4⟩ | ⟨h1, _⟩
            · have hop := (hR.recs k' r' h2).op
              have := hR.dist k' i r'.o o d (by simpa using hop) hoL h3 hd
              subst this
              rw [hr] at h2
              simp only [Option.some.injEq] at h2
              subst h2
              exact h4.symm
            · exact absurd (by rw [hro]; exact hd) (h1 i r hr)
          subst hval
          refine ⟨u, hu, ?_⟩
          have hlt := hR.small i o d hoL hd
          simp only [putV]
          rw [Array.getD_eq_getD_getElem?, Array.getElem?_setIfInBounds_self_of_lt (by rw [h.size]; exact hlt)]
          rfl
        · rw [hd] at old
          exact old (fun d' hd' => by simp only [Option.some.injEq] at hd'; subst hd'; exact hdt)
    · rcases hj with hj | rfl
      · exact .inl (h.closed j oj hj hoj ed hed' hb)
      · rw [hoL] at hoj
        simp only [Option.some.injEq] at hoj
        subst hoj
        exact .inl (hed ed hed' hb)
  have notChain : r.chain = false → ∀ (j c : Nat), C[j]? = some c → ((L c ∨ c = i) ↔ j < s) := by
    intro hc j c hj
    have hne : c ≠ i := by
      rintro rfl
      rw [hR.chainR] at hj
      rw [List.getElem?_map, Option.map_eq_some_iff] at hj
      obtain ⟨r', hr', hi'⟩ := hj
      have hmem := List.mem_of_getElem? hr'
      rw [List.mem_filter] at hmem
      obtain ⟨k', hk'⟩ := List.mem_iff_getElem?.1 hmem.1
      have := (hR.recs k' r' hk').idx
      rw [hi'] at this
      subst this
      rw [hr] at hk'
      simp only [Option.some.injEq] at hk'
      subst hk'
      rw [hc] at hmem
      simp at hmem
    rw [← h.chain j c hj]
    simp [hne]
  obtain ⟨H, n, hQ, hS⟩ := h.st
  cases hwd : r.wanted with
  | false =>
    rw [hwd] at hwant
    obtain ⟨h1, h2⟩ := hrec.skip hwd
    exact ⟨e, w, _, s, Env.le_refl e, build e w undef s (Env.le_refl e) ⟨H, n, hQ, hS⟩ (by rw [h1]; rfl) (notChain h2), .one (st_notWanted ho hwant)⟩
  | true =>
    rw [hwd] at hwant
    cases hc : r.chain with
    | false =>
      have hri := hrec.idx
      have hlo : lowOf ((ancGo [] ops.toList).getD r.i 0) C ≤ s := by
        rcases Nat.lt_or_ge s (lowOf ((ancGo [] ops.toList).getD r.i 0) C) with hlt | hge
        · exfalso
          obtain ⟨c, h1, h2⟩ := lowOf_ok s hlt
          rw [hri] at h2
          have := (h.chain s c h1).1 (hanc c h2).1
          omega
        · exact hge
      have hhi : s ≤ highOf (ancGo [] ops.toList) r.i C := by
        rcases Nat.lt_or_ge (highOf (ancGo [] ops.toList) r.i C) s with hlt | hge
        · exfalso
          have hsC : s ≤ C.length := by
            have := (List.getElem?_eq_some_iff.1 hQ).1
            have := hR.stages
            omega
          obtain ⟨c, h1, h2⟩ := highOf_ok (ancs := ancGo [] ops.toList) (i := r.i) (l := C) (by omega)
          have hLc := (h.chain _ c h1).2 hlt
          have hcl : c < ops.size := by
            have hcm := List.mem_of_getElem? h1
            rw [hR.chainR, List.mem_map] at hcm
            obtain ⟨r', hr', rfl⟩ := hcm
            rw [List.mem_filter] at hr'
            obtain ⟨k', hk'⟩ := List.mem_iff_getElem?.1 hr'.1
            have hx := hR.recs k' r' hk'
            rw [hx.idx]
            exact (Array.getElem?_eq_some_iff.1 hx.op).1
          have hoc : ops.toList[c]? = some (ops.toList[c]'(by simpa using hcl)) := List.getElem?_eq_getElem (by simpa using hcl)
          have := anc_listed L hR.edges (fun i o hi ho' => h.closed i o hi ho') c _ hoc (h.closed c _ hLc hoc) r.i h2
          rw [hri] at this
          exact hni this.1
        · exact hge
      have hf := hR.floats r (List.mem_of_getElem? hr) hc hwd s hlo hhi H n hQ
      rw [hro] at hf
      obtain ⟨u, hu, hst⟩ := float_steps (P := P) (fn := fn) (rest := rest) (k := k) (ds := ds) (kd := kd) (rof := rof) (cs := cs) hS hT ho hwant hf
      exact ⟨e, w, _, s, Env.le_refl e, build e w u s (Env.le_refl e) ⟨H, n, hQ, hS⟩ hu (notChain hc), hst⟩
    | true =>
      obtain ⟨_, hC, H1, n1, H2, n2, hQ1, hQ2, heff⟩ := hrec.eff hc
      have hss : r.stg = s := by
        have h1 : ¬ r.stg < s := fun hlt => hni ((h.chain r.stg i hC).2 hlt)
        rcases Nat.eq_zero_or_pos r.stg with h0 | hp
        · omega
        · have hlt : r.stg - 1 < C.length := by
            have := (List.getElem?_eq_some_iff.1 hC).1
            omega
          have hprev : C[r.stg - 1]? = some C[r.stg - 1] := List.getElem?_eq_getElem hlt
          have hbit := chainOk_ok hR.chain (r.stg - 1) C[r.stg - 1] i hprev (by rw [show r.stg - 1 + 1 = r.stg by omega]; exact hC)
          have := (h.chain _ _ hprev).1 (hanc _ hbit).1
          omega
      rw [hss] at hQ1 hQ2 hC
      rw [hQ] at hQ1
      simp only [Option.some.injEq, Prod.mk.injEq] at hQ1
      obtain ⟨rfl, rfl⟩ := hQ1
      rw [hro] at heff
      obtain ⟨e', w', u, hle, hS', hu, hst⟩ := eff_steps (P := P) hrn (fn := fn) (rest := rest) (k := k) (ds := ds) (kd := kd) (rof := rof) (cs := cs) hS hT ho hwant heff
      refine ⟨e', w', _, s + 1, hle, build e' w' u (s + 1) hle ⟨H2, n2, hQ2, hS'⟩ hu (fun j c hj => ?_), hst⟩
      constructor
      · rintro (hL | rfl)
        · have := (h.chain j c hj).1 hL; omega
        · rcases Nat.lt_or_ge j (s + 1) with hlt | hge
          · exact hlt
          · exfalso
            -- the same place twice in the chain
            have hi1 := chain_inj hR hC hj
            omega
      · intro hlt
        rcases Nat.lt_or_ge j s with hj' | hj'
        · exact .inl ((h.chain j c hj).2 hj')
        · have : j = s := by omega
          subst this
          rw [hC] at hj
          simp only [Option.some.injEq] at hj
          exact .inr hj.symm
where
  chain_inj {P : Program} {rn : Rn} {nt : Nat} {ops : Array Oper} {T0 : Tr SV} {R : List Rec} {Q : List (Heap × Nat)} {C : List Nat} (hR : RegOK P rn nt ops T0 R Q C) {s j c : Nat} (h1 : C[s]? = some c) (h2 : C[j]? = some c) : s = j := by
    have hnd : C.Nodup := by
      rw [hR.chainR]
      have hall : ((R.filter (·.chain)).map (·.i)).Sublist (R.map (·.i)) := (List.filter_sublist).map _
      refine hall.nodup ?_
      have : R.map (·.i) = List.range R.length := by
        apply List.ext_getElem?
        intro k
        rw [List.getElem?_map]
        cases hk : R[k]? with
        | none =>
          rw [List.getElem?_eq_none_iff] at hk
          simp [hk]
        | some r =>
          have hlt := (List.getElem?_eq_some_iff.1 hk).1
          rw [Option.map_some, (hR.recs k r hk).idx, List.getElem?_range hlt]
      rw [this]
      exact List.nodup_range
    have a := List.getElem?_eq_some_iff.1 h1
    have b := List.getElem?_eq_some_iff.1 h2
    obtain ⟨a1, a2⟩ := a
    obtain ⟨b1, b2⟩ := b
    exact (List.getElem_inj hnd).1 (a2.trans b2.symm)
end
section
variable {P : Program} {B : Nat} {w0 w : World} {e : Env} {rn : Rn} {nt : Nat} {ops : Array Oper} {T0 : Tr SV} {R : List Rec} {Q : List (Heap × Nat)} {C : List Nat}
def Listed (listed : Array Bool) (j : Nat) : Prop := listed[j]? = some true
theorem ready_mem {listed : Array Bool} (hsz : listed.size = ops.size) {i : Nat} (h : i ∈ Region.ready .any ops listed) : ∃ o, ops[i]? = some o ∧ ¬ Listed listed i ∧ ∀ ed ∈ o.after.toList, Region.binds .any ed = true → Listed listed ed.on := by
  unfold Region.ready at h
  rw [List.mem_filter, List.mem_range, Bool.and_eq_true] at h
  obtain ⟨h1, h2, h3⟩ := h
  have ho : ops[i]? = some ops[i] := Array.getElem?_eq_getElem h1
  refine ⟨ops[i], ho, ?_, fun ed hed hb => ?_⟩
  · intro hl
    unfold Listed at hl
    rw [Array.getD_eq_getD_getElem?, hl] at h2
    simp at h2
  · rw [ho] at h3
    simp only [Option.map_some, Option.getD_some] at h3
    rw [Array.all_eq_true_iff_forall_mem] at h3
    have := h3 ed (by simpa using hed)
    rw [hb] at this
    simp only [Bool.not_true, Bool.false_or] at this
    unfold Listed
    rw [Array.getD_eq_getD_getElem?] at this
    cases hx : listed[ed.on]? with
    | none => rw [hx] at this; simp at this
    | some b => rw [hx] at this; simp only [Option.getD_some] at this; rw [this]
theorem ready_of {listed : Array Bool} (hsz : listed.size = ops.size) (hE : ∀ (i : Nat) o, ops.toList[i]? = some o → edgesOk i o.after.toList = true) {i : Nat} (hi : i < ops.size) (hn : ¬ Listed listed i) : ∃ j, j ∈ Region.ready .any ops listed := by
  induction i using Nat.strongRecOn with
  | _ i ih =>
    have ho : ops[i]? = some ops[i] := Array.getElem?_eq_getElem hi
    by_cases hall : ∀ ed ∈ ops[i].after.toList, Region.binds .any ed = true → Listed listed ed.on
    · refine ⟨i, ?_⟩
      unfold Region.ready
      rw [List.mem_filter, List.mem_range, Bool.and_eq_true]
      refine ⟨hi, ?_, ?_⟩
      · unfold Listed at hn
        rw [Array.getD_eq_getD_getElem?]
        have hlt : i < listed.size := by omega
        rw [Array.getElem?_eq_getElem hlt] at hn ⊢
        simp only [Option.some.injEq, Bool.not_eq_true] at hn
        simp [hn]
      · rw [ho]
        simp only [Option.map_some, Option.getD_some]
        rw [Array.all_eq_true_iff_forall_mem]
        intro ed hed
        cases hb : Region.binds .any ed with
        | false => rfl
        | true =>
          have := hall ed (by simpa only [Array.mem_toList_iff] using hed) hb
          unfold Listed at this
          rw [Array.getD_eq_getD_getElem?, this]
          rfl
    · have : ∃ ed, ed ∈ ops[i].after.toList ∧ Region.binds .any ed = true ∧ ¬ Listed listed ed.on := by
        apply Classical.byContradiction
        intro hc
        apply hall
        intro ed h1 h2
        apply Classical.byContradiction
        intro h3
        exact hc ⟨ed, h1, h2, h3⟩
      obtain ⟨ed, h1, h2, h3⟩ := this
      have hlt := edgesOk_ok (hE i ops[i] (by simp)) ed h1 h2
      exact ih ed.on hlt (by omega) h3
def unlisted (listed : Array Bool) : Nat := listed.toList.count false
theorem count_set : ∀ (l : List Bool) (i : Nat), l[i]? = some false → (l.set i true).count false + 1 = l.count false
  | [], i, h => by simp at h
  | b :: l, 0, h => by
    simp only [List.getElem?_cons_zero, Option.some.injEq] at h
    subst h
    simp [List.count_cons]
  | b :: l, i + 1, h => by
    have := count_set l i (by simpa using h)
    simp only [List.set_cons_succ, List.count_cons]
    omega
theorem pi_steps (hrn : RunOK P B w0 rn) (hR : RegOK P rn nt ops T0 R Q C) (fn : FuncId) (k : List Item) (ds : List Deferred) (kd : CallKind) (rof : Option Nat) (cs : List Frame) : ∀ (fuel t : Nat) (listed : Array Bool) (s : Nat) (e : Env) (w : World) (tr : Array Value),
    listed.size = ops.size → unlisted listed ≤ fuel → PInv B w0 nt ops T0 R Q C (Listed listed) s e w tr →
    ∃ e' w' tr' s' listed', e.le e' ∧ listed'.size = ops.size ∧ (∀ j, j < ops.size → Listed listed' j) ∧ PInv B w0 nt ops T0 R Q C (Listed listed') s' e' w' tr' ∧
      Steps P (lone (fr0 fn tr (.inRegion ops (Region.linearise.go .any ops fuel t listed []) :: k) ds kd rof) cs w) (lone (fr0 fn tr' (.inRegion ops [] :: k) ds kd rof) cs w') := by
  have allOf : ∀ (listed : Array Bool), listed.size = ops.size → (∀ j, j ∉ Region.ready .any ops listed) → ∀ j, j < ops.size → Listed listed j := by
    intro listed hsz hno j hj
    apply Classical.byContradiction
    intro hn
    obtain ⟨i, hi⟩ := ready_of hsz hR.edges hj hn
    exact hno i hi
  intro fuel
  induction fuel with
  | zero =>
    intro t listed s e w tr hsz hun hI
    refine ⟨e, w, tr, s, listed, Env.le_refl e, hsz, fun j hj => ?_, hI, by simp only [Region.linearise.go, List.reverse_nil]; exact .refl P _⟩
    unfold Listed
    have hlt : j < listed.size := by omega
    rw [Array.getElem?_eq_getElem hlt]
    cases hb : listed[j] with
    | true => rfl
    | false =>
      exfalso
      have : 0 < listed.toList.count false := List.count_pos_iff.2 (by rw [← hb]; simp)
      unfold unlisted at hun
      omega
  | succ fuel ih =>
    intro t listed s e w tr hsz hun hI
    simp only [Region.linearise.go]
    change ∃ e' w' tr' s' listed', _ ∧ _ ∧ _ ∧ _ ∧ Steps P (lone (fr0 fn tr (.inRegion ops (match (Region.ready .any ops listed)[t % (Region.ready .any ops listed).length]? with
      | some i => Region.linearise.go .any ops fuel (t / (Region.ready .any ops listed).length) (listed.setIfInBounds i true) [i]
      | none => [].reverse) :: k) ds kd rof) cs w) _
    cases hpick : (Region.ready .any ops listed)[t % (Region.ready .any ops listed).length]? with
    | none =>
      have hnil : Region.ready .any ops listed = [] := by
        cases hx : Region.ready .any ops listed with
        | nil => rfl
        | cons x xs =>
          rw [hx] at hpick
          have hlt : t % (x :: xs).length < (x :: xs).length := Nat.mod_lt _ (by simp)
          rw [List.getElem?_eq_getElem hlt] at hpick
          cases hpick
      exact ⟨e, w, tr, s, listed, Env.le_refl e, hsz, allOf listed hsz (by rw [hnil]; simp), hI, .refl P _⟩
    | some i =>
      simp only
      have hmem := List.mem_of_getElem? hpick
      obtain ⟨o, ho, hni, hed⟩ := ready_mem hsz hmem
      rw [linearise_go_acc, List.reverse_singleton, List.singleton_append]
      obtain ⟨e1, w1, tr1, s1, hle1, hI1, hst1⟩ := hI.step hrn hR ho hni hed fn (Region.linearise.go .any ops fuel (t / (Region.ready .any ops listed).length) (listed.setIfInBounds i true) []) k ds kd rof cs
      have hilt : i < ops.size := (Array.getElem?_eq_some_iff.1 ho).1
      have hfalse : listed.toList[i]? = some false := by
        have hlt : i < listed.size := by omega
        unfold Listed at hni
        rw [Array.getElem?_eq_getElem hlt] at hni
        rw [Array.getElem?_toList, Array.getElem?_eq_getElem hlt]
        simpa using hni
      have hcnt : unlisted (listed.setIfInBounds i true) + 1 = unlisted listed := by
        unfold unlisted
        rw [Array.toList_setIfInBounds]
        exact count_set _ _ hfalse
      have hLeq : ∀ j, Listed (listed.setIfInBounds i true) j ↔ (Listed listed j ∨ j = i) := by
        intro j
        unfold Listed
        by_cases hji : j = i
        · subst hji
          rw [Array.getElem?_setIfInBounds_self_of_lt (by omega)]
          simp
        · rw [Array.getElem?_setIfInBounds_ne (Ne.symm hji)]
          simp [hji]
      have hI2 : PInv B w0 nt ops T0 R Q C (Listed (listed.setIfInBounds i true)) s1 e1 w1 tr1 := by
        have : Listed (listed.setIfInBounds i true) = fun j => Listed listed j ∨ j = i := funext fun j => propext (hLeq j)
        rw [this]
        exact hI1
      obtain ⟨e2, w2, tr2, s2, l2, hle2, hs2, ha2, hI3, hst2⟩ := ih _ _ s1 e1 w1 tr1 (by simpa using hsz) (by omega) hI2
      exact ⟨e2, w2, tr2, s2, l2, Env.le_trans hle1 hle2, hs2, ha2, hI3, hst1.trans hst2⟩
theorem drawOK (hm : P.follows .mixedOrders = true) (hrn : RunOK P B w0 rn) : DrawOK P B w0 rn := by
  intro ops nt T H nx T' H' nx' h e w tmps hS hT t fn k ds kd rof cs
  unfold drawRegion at h
  cases hro : regionOk nt ops.toList with
  | false => rw [hro] at h; cases h
  | true =>
    rw [hro] at h
    simp only [cond_true] at h
    cases hda : drawAll P rn nt ops 0 ops.toList ⟨T, H, nx, [], [(H, nx)], 0⟩ with
    | none => rw [hda] at h; cases h
    | some s =>
      rw [hda] at h
      simp only at h
      cases hq : (chainOk (ancGo [] ops.toList) ((s.recs.reverse.filter (·.chain)).map (·.i)) && floatsOk P (ancGo [] ops.toList) ((s.recs.reverse.filter (·.chain)).map (·.i)) s.Hs.reverse s.recs) with
      | false => rw [hq] at h; cases h
      | true =>
        rw [hq] at h
        simp only [cond_true, Option.some.injEq, Prod.mk.injEq] at h
        obtain ⟨rfl, rfl, rfl⟩ := h
        rw [Bool.and_eq_true] at hq
        simp only [regionOk, Bool.and_eq_true] at hro
        obtain ⟨hd1, hd2⟩ := dstsOk_ok hro.1
        have hops := opsOk_ok hro.2
        have h0 : DSOK P rn ops T 0 ⟨T, H, nx, [], [(H, nx)], 0⟩ :=
          ⟨rfl, rfl, rfl, rfl, fun k r hr => by simp at hr, fun t v hv => .inr ⟨fun k r hk => by omega, hv⟩⟩
        have hD := drawAll_ok (fun j o d hj hd => (hd1 j o d hj hd).1) ops.toList 0 _ s h0 (by simp) hda
        have hR : RegOK P rn nt ops T s.recs.reverse s.Hs.reverse ((s.recs.reverse.filter (·.chain)).map (·.i)) := by
          refine ⟨by simp [hD.len], hD.recs, by rw [hD.cnt]; simp [hD.hs], rfl, hq.1, fun r hr hc hw s1 hlo hhi H1 n1 hQ1 => ?_, fun i o d hi hd => (hd1 i o d hi hd).1, hd2, fun i o hi => ?_, fun i o hi => ?_⟩
          · obtain ⟨kk, hkk⟩ := List.mem_iff_getElem?.1 hr
            exact floatsOk_ok hq.2 r (by simpa using hr) hc hw ((hD.recs kk r hkk).float hw hc) s1 hlo hhi H1 n1 hQ1
          · obtain ⟨anc, _, g2, _⟩ := hops i o hi
            simpa using g2
          · obtain ⟨anc, g1, _, g3⟩ := hops i o hi
            rw [List.getD_eq_getElem?_getD, g1]
            exact g3
        have hinit : PInv B w0 nt ops T s.recs.reverse s.Hs.reverse ((s.recs.reverse.filter (·.chain)).map (·.i)) (Listed (Array.replicate ops.size false)) 0 e w tmps := by
          have hno : ∀ j, ¬ Listed (Array.replicate ops.size false) j := by
            intro j hj
            unfold Listed at hj
            rw [Array.getElem?_replicate] at hj
            split at hj <;> simp at hj
          have hQ0 : s.Hs.reverse[0]? = some (H, nx) := stage0 _ _ _ hda (by simp)
          refine ⟨⟨H, nx, hQ0, hS⟩, hT.1, fun t sv hg => ?_, fun j c hj => ⟨fun hl => absurd hl (hno c), fun hl => by omega⟩, fun i o hi => absurd hi (hno i)⟩
          rcases hg with ⟨k', r', hk', _⟩ | ⟨_, h2⟩
          · exact absurd hk' (hno k')
          · exact hT.2 t sv h2
        have hsched : Region.schedule (P.follows .mixedOrders) ops t = Region.linearise.go .any ops ops.size t (Array.replicate ops.size false) [] := by
          rw [hm]
          rfl
        rw [hsched]
        obtain ⟨e', w', tr', s', listed', hle, _, hall, hI, hst⟩ := pi_steps hrn hR fn k ds kd rof cs ops.size t (Array.replicate ops.size false) 0 e w tmps (by simp) (by unfold unlisted; simp) hinit
        -- all are listed
        have hs' : s' = s.stg := by
          obtain ⟨H1, n1, hQ1, _⟩ := hI.st
          have hle1 : s' ≤ s.stg := by
            have := (List.getElem?_eq_some_iff.1 hQ1).1
            simp [hD.hs] at this
            omega
          rcases Nat.lt_or_ge s' s.stg with hlt | hge
          · exfalso
            have hc : ∃ c, ((s.recs.reverse.filter (·.chain)).map (·.i))[s']? = some c := ⟨_, List.getElem?_eq_getElem (by rw [hD.cnt]; exact hlt)⟩
            obtain ⟨c, hc⟩ := hc
            have hcl : c < ops.size := by
              have hcm := List.mem_of_getElem? hc
              rw [List.mem_map] at hcm
              obtain ⟨r', hr', rfl⟩ := hcm
              rw [List.mem_filter] at hr'
              obtain ⟨k', hk'⟩ := List.mem_iff_getElem?.1 hr'.1
              have hx := hD.recs k' r' hk'
              rw [hx.idx]
              exact (Array.getElem?_eq_some_iff.1 hx.op).1
            have := (hI.chain s' c hc).1 (hall c hcl)
            omega
          · omega
        subst hs'
        obtain ⟨H1, n1, hQ1, hS1⟩ := hI.st
        rw [hD.last] at hQ1
        simp only [Option.some.injEq, Prod.mk.injEq] at hQ1
        obtain ⟨rfl, rfl⟩ := hQ1
        refine ⟨e', w', tr', hle, hS1, ⟨hI.size, fun t sv ht => hI.good t sv ?_⟩, hst⟩
        rcases hD.slots t sv ht with ⟨k', r', h1, h2, h3, h4⟩ | ⟨h1, h2⟩
        · exact .inl ⟨k', r', hall k' h1, h2, h3, h4⟩
        · refine .inr ⟨fun k' r' hr' => ?_, h2⟩
          have hlt := (List.getElem?_eq_some_iff.1 hr').1
          rw [List.length_reverse, hD.len] at hlt
          exact h1 k' r' hlt hr'
where
  stage0 {P : Program} {rn : Rn} {nt : Nat} {ops : Array Oper} {x : Heap × Nat} : ∀ (l : List Oper) {i : Nat} (s s' : DS), drawAll P rn nt ops i l s = some s' → s.Hs.reverse[0]? = some x → s'.Hs.reverse[0]? = some x
    | [], i, s, s', h, h0 => by simp only [drawAll, Option.some.injEq] at h; subst h; exact h0
    | o :: l, i, s, s', h, h0 => by
      simp only [drawAll] at h
      cases ho : drawOne P rn nt ops i o s with
      | none => rw [ho] at h; cases h
      | some s1 =>
        rw [ho] at h
        refine stage0 l s1 s' h ?_
        unfold drawOne at ho
        simp only at ho
        split at ho
        · cases ho
        · simp only [Option.some.injEq] at ho; subst ho; exact h0
        · split at ho
          · simp only [Option.some.injEq] at ho; subst ho; exact h0
          · split at ho
            · simp only [Option.some.injEq] at ho
              subst ho
              simp only [List.reverse_cons]
              exact get_snoc h0
            · cases ho
end
end Go.Ex
end
