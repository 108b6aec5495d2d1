/-
  The machine of names: stores, new blocks, append. Over any program.
-/
import Derived.Test.YtbmekelkddllkaaExE
import Derived.Deep.AppendSrc
namespace Go.Ex
open Go Go.Sl Go.RowKit

section
variable {P : Program} {B : Nat} {w0 w : World} {e : Env} {H : Heap} {nx : Nat} {T : Tr SV} {ev : Operand → Value}

/-- What an operation hands back. -/
def ORun (P : Program) (e : Env) (a : ANx) (res : Result Next) (w : World) : Prop :=
  match a with
  | .val s => ∃ v, s.conc e = some v ∧ res = .ok (.value v) w
  | .skip => res = .ok .skip w
  | .enter f args => ∃ vs : Array Value, SV.concL e args = some vs.toList ∧ res = .ok (.enter f vs) w
  | .round l args => ∃ x vs, e l = some x ∧ SV.concL e args = some vs ∧ res = (Instr.yield x.blk vs.toArray).run P w
  | .dfr d => ∃ dd, DRel e d dd ∧ res = .ok (.defer dd) w
  | .recover => res = .ok .recover w

/-- An operation, carried out. -/
def Does (P : Program) (B : Nat) (w0 : World) (e : Env) (out : Out) (res : Result Next) : Prop :=
  ∃ e' w', e.le e' ∧ St B w0 e' out.2.1 out.2.2 w' ∧ ORun P e' out.1 res w'

theorem alloc_does {vo : VO} {s : SV} {v : Value} {o : Obj} {x : Ent} {res : Result Next} (hS : St B w0 e H nx w) (hb : x.blk = w.heap.size) {w' : World} (hos : w'.os = w.os) (htape : w'.tape = w.tape) (hout : w'.output = w.output) (hheap : w'.heap = w.heap.push o)
    (hr : ORel (e.put nx x) vo x o) (hv : s.conc (e.put nx x) = some v) (hres : res = .ok (.value v) w') : Does P B w0 e (.val s, H.set nx vo, nx + 1) res :=
  ⟨e.put nx x, w', Env.le_put (hS.fresh nx (Nat.le_refl _)), hS.new hb hos htape hout hheap hr, v, hv, hres⟩

theorem noFz0 (n : Nat) : NoFz (0, 0) n := fun i _ => by simp

theorem newCells_rel {e' : Env} {t : TypeId} {l : List SV} {vs : List Value} {x : Ent} (h : SV.concL e' l = some vs) (h0 : x.base = 0) : ORel e' (newCells t l) x (.cells vs.toArray t) := by
  refine ⟨h0, vs.toArray, (0, 0), rfl, by simp [concL_length h], noFz0 _, fun i hi s hs => ?_⟩
  rcases fillTr_at l .nil 0 i s hs with ⟨_, h2, _⟩ | ⟨_, h2⟩
  · obtain ⟨v, hv, hg⟩ := concL_get h h2
    exact ⟨v, hv, by simpa using hg⟩
  · rw [Tr.at_nil] at h2; cases h2

/-- New cells. -/
theorem new_does {t : TypeId} {l : List SV} {vs : List Value} {s : SV} {v : Value} {res : Result Next} (hS : St B w0 e H nx w) (hl : SV.concL e l = some vs)
    (hv : s.conc (e.put nx ⟨w.heap.size, 0, 0⟩) = some v) (hres : res = .ok (.value v) { w with heap := w.heap.push (.cells vs.toArray t) }) : Does P B w0 e (.val s, H.set nx (newCells t l), nx + 1) res :=
  alloc_does (o := .cells vs.toArray t) (x := ⟨w.heap.size, 0, 0⟩) (w' := { w with heap := w.heap.push (.cells vs.toArray t) }) hS rfl rfl rfl rfl rfl (newCells_rel (SV.concL_mono (Env.le_put (hS.fresh nx (Nat.le_refl _))) _ _ hl) rfl) hv hres

/-! ### stores -/
theorem setCell_rel {vo vo' : VO} {x : Ent} {o : Obj} {i : Nat} {s : SV} {v : Value} (h : ORel e vo x o) (hc : vo.setCell i s = some vo') (hs : s.conc e = some v) (hw : w.heap[x.blk]? = some o) :
    ∃ o', (w.setCell ⟨x.blk, x.base + i, none⟩ v).heap[x.blk]? = some o' ∧ ORel e vo' x o' ∧ (∃ u, w.cell? ⟨x.blk, x.base + i, none⟩ = some u) ∧ w.frozen? ⟨x.blk, x.base + i, none⟩ = false ∧ v.oneCell' = true := by
  have blk : ∀ (cs : Array Value) (t : TypeId) (fz : Nat × Nat), o = .cells cs t fz → (w.setCell ⟨x.blk, x.base + i, none⟩ v).heap[x.blk]? = some (.cells (cs.setIfInBounds (x.base + i) v) t fz) := by
    intro cs t fz ho
    subst ho
    simp [World.setCell, Array.getElem?_modify, hw]
  cases vo with
  | cells n t c =>
    obtain ⟨h0, cs, fz, rfl, h2, h3, h4⟩ := h
    simp only [VO.setCell] at hc
    cases hb : (Nat.blt i n && s.one) with
    | false => rw [hb] at hc; cases hc
    | true =>
      rw [hb] at hc
      simp only [cond_true, Option.some.injEq] at hc
      subst hc
      rw [Bool.and_eq_true] at hb
      have hi := lt_of_blt hb.1
      refine ⟨_, blk _ _ _ rfl, ⟨h0, _, fz, rfl, by simpa using h2, h3, fun j hj s' hs' => ?_⟩, ⟨cs[i]'(by omega), ?_⟩, ?_, one_conc hs hb.2⟩
      · rcases Tr.at_set hs' with ⟨rfl, rfl⟩ | ⟨hne, hs'⟩
        · refine ⟨v, hs, ?_⟩
          rw [h0, Nat.zero_add, Array.getElem?_setIfInBounds_self_of_lt (by omega)]
        · obtain ⟨u, hu, hg⟩ := h4 j hj s' hs'
          exact ⟨u, hu, by rw [h0, Nat.zero_add, Array.getElem?_setIfInBounds_ne (Ne.symm hne)]; exact hg⟩
      · simp only [World.cell?, hw, h0, Nat.zero_add]; simp
      · simp only [World.frozen?, hw, h0, Nat.zero_add]; exact h3 i hi
  | row ne sz t c =>
    obtain ⟨cs, fz, rfl, h2, h3, h4, h5, h6, h7⟩ := h
    simp only [VO.setCell] at hc
    cases hb : (Nat.blt i (ne * sz) && s.one) with
    | false => rw [hb] at hc; cases hc
    | true =>
      rw [hb] at hc
      simp only [cond_true, Option.some.injEq] at hc
      subst hc
      rw [Bool.and_eq_true] at hb
      have hi := lt_of_blt hb.1
      have hle : ne * sz ≤ x.cap * sz := Nat.mul_le_mul_right _ h2
      have hlt : x.base + i < cs.size := by omega
      refine ⟨_, blk _ _ _ rfl, ⟨_, fz, rfl, h2, by simpa using h3, h4, by simpa using h5, h6, fun j hj s' hs' => ?_⟩, ⟨cs[x.base + i]'hlt, ?_⟩, ?_, one_conc hs hb.2⟩
      · rcases Tr.at_set hs' with ⟨rfl, rfl⟩ | ⟨hne, hs'⟩
        · exact ⟨v, hs, by simp [hlt]⟩
        · obtain ⟨u, hu, hg⟩ := h7 j hj s' hs'
          exact ⟨u, hu, by rw [Array.getElem?_setIfInBounds_ne (by omega)]; exact hg⟩
      · simp only [World.cell?, hw]; simp [hlt]
      · simp only [World.frozen?, hw]; exact h5 _ hlt
  | _ => simp [VO.setCell] at hc

theorem run_store_one {a : Addr} {v u : Value} (hc : w.cell? a = some u) (hf : w.frozen? a = false) (h1 : v.oneCell' = true) : (store a v).run P w = .ok () (w.setCell a v) := by
  rw [run_store P w a v .plain h1, hc]
  simp [hf]

theorem storeCells_rel {x : Ent} : ∀ (l : List SV) (vs : List Value) (vo vo' : VO) (off i : Nat) (w : World) (o : Obj), vo.setCells (off + i) l = some vo' → SV.concL e l = some vs → ORel e vo x o → w.heap[x.blk]? = some o →
    ∃ w' o', (storeCells ⟨x.blk, x.base + off, none⟩ vs i).run P w = .ok () w' ∧ Turned w w' x.blk ∧ w'.heap[x.blk]? = some o' ∧ ORel e vo' x o'
  | [], vs, vo, vo', off, i, w, o, h, hc, ho, hw => by
    simp only [SV.concL, Option.some.injEq] at hc
    subst hc
    simp only [VO.setCells, Option.some.injEq] at h
    subst h
    exact ⟨w, o, rfl, Turned.refl _ _, hw, ho⟩
  | s :: l, vs, vo, vo', off, i, w, o, h, hc, ho, hw => by
    obtain ⟨v, us, rfl, hv, hl⟩ := concL_cons hc
    simp only [VO.setCells] at h
    cases h1 : vo.setCell (off + i) s with
    | none => rw [h1] at h; cases h
    | some vo1 =>
      rw [h1] at h
      simp only at h
      obtain ⟨o1, g1, g2, ⟨u, g3⟩, g4, g5⟩ := setCell_rel ho h1 hv hw
      obtain ⟨w', o', k1, k2, k3, k4⟩ := storeCells_rel l us vo1 vo' off (i + 1) _ o1 h hl g2 g1
      refine ⟨w', o', ?_, (Turned.setCell w _ v).trans k2, k3, k4⟩
      have ha : (⟨x.blk, x.base + off, none⟩ : Addr).add i = ⟨x.blk, x.base + (off + i), none⟩ := by rw [addr_add]; simp [Nat.add_assoc]
      simp only [storeCells, Sem.run_bind, ha, run_store_one g3 g4 g5, Result.andThen]
      exact k1

theorem storeS_ok {b o : Nat} {l : List SV} {vs : List Value} {H' : Heap} {x : Ent} (hS : St B w0 e H nx w) (h : storeS H b o l = some H') (hx : e b = some x) (hl : SV.concL e l = some vs) :
    ∃ w', (storeCells ⟨x.blk, x.base + o, none⟩ vs).run P w = .ok () w' ∧ St B w0 e H' nx w' := by
  unfold storeS at h
  cases hb : H.at' b with
  | none => rw [hb] at h; cases h
  | some vo =>
    rw [hb] at h
    simp only at h
    cases hc : vo.setCells o l with
    | none => rw [hc] at h; cases h
    | some vo' =>
      rw [hc] at h
      simp only [Option.some.injEq] at h
      subst h
      obtain ⟨ob, _, hw, ho⟩ := hS.at hb hx
      obtain ⟨w', o', k1, k2, k3, k4⟩ := storeCells_rel (P := P) l vs vo vo' o 0 w ob hc hl ho hw
      exact ⟨w', k1, hS.upd hb hx k2 k3 k4⟩

/-- Cells of a block, stored where they may be: the block, as it is. -/
theorem storeCells_raw {k : Nat} {t : TypeId} {fz : Nat × Nat} : ∀ (vs : List Value) (off i : Nat) (cs : Array Value) (w : World), w.heap[k]? = some (.cells cs t fz) → off + i + vs.length ≤ cs.size → NoFz fz cs.size → (∀ u ∈ vs, u.oneCell' = true) →
    ∃ w' cs', (storeCells ⟨k, off, none⟩ vs i).run P w = .ok () w' ∧ Turned w w' k ∧ w'.heap[k]? = some (.cells cs' t fz) ∧ cs'.size = cs.size ∧
      (∀ j, j < off + i → cs'[j]? = cs[j]?) ∧ ∀ j u, vs[j]? = some u → cs'[off + i + j]? = some u
  | [], off, i, cs, w, hw, _, _, _ => ⟨w, cs, rfl, Turned.refl _ _, hw, rfl, fun _ _ => rfl, by simp⟩
  | v :: vs, off, i, cs, w, hw, hl, hf, h1 => by
    simp only [List.length_cons] at hl
    have hlt : off + i < cs.size := by omega
    have hw1 : (w.setCell ⟨k, off + i, none⟩ v).heap[k]? = some (.cells (cs.setIfInBounds (off + i) v) t fz) := by simp [World.setCell, Array.getElem?_modify, hw]
    obtain ⟨w', cs', k1, k2, k3, k4, k5, k6⟩ := storeCells_raw vs off (i + 1) (cs.setIfInBounds (off + i) v) _ hw1 (by simp; omega) (by simpa using hf) (fun u hu => h1 u (List.mem_cons_of_mem _ hu))
    refine ⟨w', cs', ?_, (Turned.setCell w _ v).trans k2, k3, by simpa using k4, fun j hj => ?_, fun j u hu => ?_⟩
    · have hc : w.cell? ⟨k, off + i, none⟩ = some cs[off + i] := by simp only [World.cell?, hw]; simp [hlt]
      have hfz : w.frozen? ⟨k, off + i, none⟩ = false := by simp only [World.frozen?, hw]; exact hf _ hlt
      simp only [storeCells, Sem.run_bind, addr_add, run_store_one hc hfz (h1 v (List.mem_cons_self ..)), Result.andThen]
      exact k1
    · rw [k5 j (by omega), Array.getElem?_setIfInBounds_ne (by omega)]
    · cases j with
      | zero =>
        simp only [List.getElem?_cons_zero, Option.some.injEq] at hu
        subst hu
        rw [Nat.add_zero, k5 (off + i) (by omega)]
        simp [hlt]
      | succ j =>
        have := k6 j u (by simpa using hu)
        rw [show off + i + (j + 1) = off + (i + 1) + j by omega]
        exact this

/-! ### append -/
theorem allOne_ok : ∀ {l : List SV} {vs : List Value}, allOne l = true → SV.concL e l = some vs → ∀ u ∈ vs, u.oneCell' = true
  | [], vs, _, hc, u, hu => by simp only [SV.concL, Option.some.injEq] at hc; subst hc; cases hu
  | s :: l, vs, h, hc, u, hu => by
    obtain ⟨v, ws, rfl, hv, hl⟩ := concL_cons hc
    simp only [allOne, Bool.and_eq_true] at h
    rcases List.mem_cons.1 hu with rfl | hu
    · exact one_conc hv h.1
    · exact allOne_ok h.2 hl u hu

theorem bytesOk_ok {t : TypeId} {n : Nat} (h : bytesOk P t n = true) : ∃ i, P.info? t = some i ∧ n * i.bytes ≤ 140737488355328 ∧ n ≤ 1000000000 := by
  unfold bytesOk at h
  cases hi : P.info? t with
  | none => rw [hi] at h; cases h
  | some i =>
    rw [hi] at h
    rw [Bool.and_eq_true] at h
    exact ⟨i, rfl, le_of_ble h.1, le_of_ble h.2⟩

theorem St.drew' (hS : St B w0 e H nx w) : St B w0 e H nx w.drew := ⟨⟨hS.below.os, hS.below.tape, hS.below.output, hS.below.size, hS.below.block⟩, hS.size, hS.rel, hS.inj, hS.fresh⟩

theorem src_of {sz m : Nat} {tx : TypeId} {x : SV} {v : Value} {news : List SV} {vs : List Value} (hk : (∃ e', P.underlying tx = some (.slice e')) ∨ P.underlying tx = some .string) (hS : St B w0 e H nx w)
    (h : sliceCells H sz x = some (m, news)) (hv : x.conc e = some v) (h1 : allOne news = true) (hvs : SV.concL e news = some vs) : Src P sz tx v m vs w := by
  obtain ⟨us, g1, g2, g3, g4⟩ := sliceCells_ok (P := P) hS h hv
  rw [hvs] at g1
  simp only [Option.some.injEq] at g1
  subst g1
  obtain ⟨us', q1, _, _, q4⟩ := sliceCells_ok (P := P) hS.drew' h hv
  rw [hvs] at q1
  simp only [Option.some.injEq] at q1
  subst q1
  have ht : vs.take (m * sz) = vs := List.take_of_length_le (by omega)
  have g5 := g4 m (Nat.le_refl _)
  have q5 := q4 m (Nat.le_refl _)
  rw [ht] at g5 q5
  refine ⟨hk, fun w' => ?_, g5, q5, g2, allOne_ok h1 hvs⟩
  cases v <;> simp_all [Builtin.lenOf]

theorem row_new {el : TypeId} {sz m cap : Nat} {l : List SV} {vs : List Value} {e' : Env} {zs : Array Value} (hl : SV.concL e' l = some vs) (hlen : vs.length = m * sz) (hcap : m ≤ cap) (hmax : cap ≤ maxLen) (hz : zs.size = (cap - m) * sz) (hsz : 0 < sz) (k : Nat) :
    ORel e' (.row m sz el (fillTr .nil 0 l)) ⟨k, 0, cap⟩ (.cells (vs.toArray ++ zs) el) := by
  have hmul : cap * sz = m * sz + (cap - m) * sz := by rw [← Nat.add_mul]; congr 1; omega
  refine ⟨vs.toArray ++ zs, (0, 0), rfl, hcap, by simp [hlen, hz]; omega, hmax, noFz0 _, hsz, fun i hi s hs => ?_⟩
  rcases fillTr_at l .nil 0 i s hs with ⟨_, h2, _⟩ | ⟨_, h2⟩
  · obtain ⟨v, hv, hg⟩ := concL_get hl h2
    refine ⟨v, hv, ?_⟩
    have hil : i < vs.toArray.size := by simp; omega
    simp only [Nat.zero_add]
    rw [Array.getElem?_append_left hil]
    simpa using hg
  · rw [Tr.at_nil] at h2; cases h2

def vo_cells (H : Heap) (b o n : Nat) (l : List SV) : Prop := ∃ vo, H.at' b = some vo ∧ vo.cellsFrom o n = some l

theorem appendS_ok {t tx ty el : TypeId} {s x : SV} {vs vx : Value} {out : Out} (ht : P.underlying t = some (.slice el)) (hk : (∃ e', P.underlying tx = some (.slice e')) ∨ P.underlying tx = some .string) (hS : St B w0 e H nx w)
    (h : appendS P H nx el s x = some out) (hs : s.conc e = some vs) (hx : x.conc e = some vx) :
    ∃ e' w' r v, out.1 = .val r ∧ e.le e' ∧ St B w0 e' out.2.1 out.2.2 w' ∧ r.conc e' = some v ∧ (Builtin.append_ #[t, tx] ty #[vs, vx]).run P w = .ok v w' := by
  unfold appendS at h
  split at h
  · cases h
  · cases h
  rename_i sz hsz0 hsz
  have hpos : 0 < sz := by
    rcases Nat.eq_zero_or_pos sz with h0 | h0
    · subst h0; exact absurd rfl hsz0
    · exact h0
  cases hc : sliceCells H sz x with
  | none => rw [hc] at h; cases h
  | some q =>
    obtain ⟨m, news⟩ := q
    rw [hc] at h
    simp only at h
    cases hone : allOne news with
    | false => rw [hone] at h; cases h
    | true =>
      rw [hone] at h
      simp only [Bool.not_true, cond_false] at h
      obtain ⟨us, hus, hul, _, _⟩ := sliceCells_ok (P := P) hS hc hx
      have hsrc := src_of (P := P) hk hS hc hx hone hus
      obtain ⟨i, hi, hisz⟩ : ∃ i, P.info? el = some i ∧ i.size = sz := by
        unfold sizeT at hsz
        cases hi : P.info? el with
        | none => rw [hi] at hsz; cases hsz
        | some i => rw [hi] at hsz; simp only [Option.map_some, Option.some.injEq] at hsz; exact ⟨i, rfl, hsz⟩
      have hzero : zeroIs P el sz = true → ∃ z, i.zero = some z ∧ z.cells.size = sz := by
        intro hz
        unfold zeroIs zeroT at hz
        rw [hi] at hz
        simp only [Option.bind_some] at hz
        cases hzz : i.zero with
        | none => rw [hzz] at hz; cases hz
        | some z => rw [hzz] at hz; exact ⟨z, rfl, eq_of_beq hz⟩
      -- a new row
      have grow : ∀ (n cap : Nat) (base : Option Addr) (olds : List SV) (ws : List Value) (H0 : Heap), vs = .slice base n cap → cap < n + m → bytesOk P el (n + m) = true → zeroIs P el sz = true → SV.concL e olds = some ws → ws.length = n * sz →
          (Builtin.firstCells sz n vs).run P w.drew = .ok ws.toArray w.drew → (∀ id vo, H0.at' id = some vo → H.at' id = some vo) → out = (.val (.slu nx 0 0 (n + m)), H0.set nx (.row (n + m) sz el (fillTr .nil 0 (olds ++ news))), nx + 1) →
          ∃ e' w' r v, out.1 = .val r ∧ e.le e' ∧ St B w0 e' out.2.1 out.2.2 w' ∧ r.conc e' = some v ∧ (Builtin.append_ #[t, tx] ty #[vs, vx]).run P w = .ok v w' := by
        intro n cap base olds ws H0 hvs hlt hby hze hol hwl hfc hsub hout
        subst hvs hout
        obtain ⟨i', hi', hb1, hb2⟩ := bytesOk_ok hby
        rw [hi] at hi'
        simp only [Option.some.injEq] at hi'
        subst hi'
        obtain ⟨z, hz, hzs⟩ := hzero hze
        have hmx : n + m ≤ maxLen := by unfold maxLen; omega
        have hrun := run_append_grow_src w t tx ty el i z ht hi hz base n cap ws (by rw [hisz]; exact hfc) vx m us (by rw [hisz]; exact hsrc) hlt (by omega) (growslice_fits hlt hb1)
        have hge := grownCap_ge w (n + m) cap el
        have hle := grownCap_le_maxLen w (n + m) cap el hmx
        generalize grownCap w (n + m) cap el = gc at hrun hge hle
        have hf := hS.fresh nx (Nat.le_refl _)
        have hle' := Env.le_put (x := ⟨w.heap.size, 0, gc⟩) hf
        refine ⟨e.put nx ⟨w.heap.size, 0, gc⟩, _, .slu nx 0 0 (n + m), .slice (some ⟨w.heap.size, 0, none⟩) (n + m) gc, rfl, hle', ?_, ?_, hrun⟩
        · refine ((hS.drew').sub hsub).new (x := ⟨w.heap.size, 0, gc⟩) (o := .cells ((ws ++ us).toArray ++ Builtin.zeroCells z.cells (gc - (n + m))) el) rfl rfl rfl rfl rfl ?_
          refine row_new (SV.concL_mono hle' _ _ (concL_append hol hus)) ?_ hge hle ?_ hpos _
          · rw [List.length_append, hwl, hul, Nat.add_mul]
          · rw [size_zeroCells, hzs]
        · simp [SV.conc, Env.put_same]
      have oldCells : ∀ (n : Nat) (olds : List SV), sliceCells H sz s = some (n, olds) → (∃ base c, vs = .slice base n c) → ∃ ws, SV.concL e olds = some ws ∧ ws.length = n * sz ∧ (Builtin.firstCells sz n vs).run P w.drew = .ok ws.toArray w.drew := by
        intro n olds hco hsl
        obtain ⟨ws, g1, g2, _, g4⟩ := sliceCells_ok (P := P) hS.drew' hco hs
        have := g4 n (Nat.le_refl _)
        rw [List.take_of_length_le (by omega)] at this
        exact ⟨ws, g1, g2, this⟩
      cases s with
      | sc c =>
        simp only [SV.conc, Option.some.injEq] at hs
        subst hs
        split at h
        · rename_i heq
          simp only [SV.sc.injEq] at heq
          subst heq
          cases hm : Nat.beq m 0 with
          | true =>
            rw [hm] at h
            simp only [cond_true, Option.some.injEq] at h
            subst h
            have hm0 := eq_of_beq hm
            subst hm0
            refine ⟨e, w, _, _, rfl, Env.le_refl e, hS, rfl, ?_⟩
            rcases hk with ⟨e', hk⟩ | hk <;> simp [Builtin.append_, run_underlying ht, run_underlying hk, sizeOf, typeInfo, hi, hsrc.len, hisz, hsrc.cells]
          | false =>
            rw [hm] at h
            simp only [cond_false] at h
            cases hby : (bytesOk P el m && zeroIs P el sz) with
            | false => rw [hby] at h; cases h
            | true =>
              rw [hby] at h
              simp only [cond_true, Option.some.injEq] at h
              rw [Bool.and_eq_true] at hby
              have hm0 : m ≠ 0 := by rintro rfl; cases hm
              refine grow 0 0 none [] [] H rfl (by omega) (by simpa using hby.1) hby.2 rfl (by simp) (by simp [Builtin.firstCells]) (fun _ _ h => h) ?_
              rw [← h]
              simp
        · rename_i heq; cases heq
        · rename_i heq; cases heq
        · cases h
      | sl b o n cap =>
        obtain ⟨y, hy, hvs⟩ := conc_sl hs
        simp only at h
        cases hfit : Nat.ble (n + m) cap with
        | true =>
          rw [hfit] at h
          simp only [cond_true] at h
          have hroom := le_of_ble hfit
          have hst : ∃ H', storeS H b (o + n * sz) news = some H' ∧ out = (.val (.sl b o (n + m) cap), H', nx) := by
            unfold storeS
            cases hb : H.at' b with
            | none => rw [hb] at h; cases h
            | some vo =>
              rw [hb] at h
              simp only at h ⊢
              cases hc2 : vo.setCells (o + n * sz) news with
              | none => rw [hc2] at h; cases h
              | some vo' => rw [hc2] at h; simp only [Option.some.injEq] at h; exact ⟨_, rfl, h.symm⟩
          obtain ⟨H', hst, rfl⟩ := hst
          obtain ⟨w', k1, k2⟩ := storeS_ok (P := P) hS hst hy hus
          refine ⟨e, w', .sl b o (n + m) cap, .slice (some ⟨y.blk, y.base + o, none⟩) (n + m) cap, rfl, Env.le_refl e, k2, by simp [SV.conc, hy], ?_⟩
          subst hvs
          have k1' : (storeCells ⟨y.blk, y.base + o + n * sz, none⟩ us).run P w = .ok () w' := by rw [Nat.add_assoc]; exact k1
          rcases hk with ⟨e', hk⟩ | hk <;> simp [Builtin.append_, run_underlying ht, run_underlying hk, sizeOf, typeInfo, hi, hsrc.len, hisz, hsrc.cells, hroom, addr_add, k1']
        | false =>
          rw [hfit] at h
          simp only [cond_false] at h
          have hlt : cap < n + m := by
            rcases Nat.lt_or_ge cap (n + m) with h' | h'
            · exact h'
            · have := Nat.ble_eq_true_of_le h'; rw [this] at hfit; cases hfit
          cases hby : (bytesOk P el (n + m) && zeroIs P el sz) with
          | false => rw [hby] at h; cases h
          | true =>
            rw [hby] at h
            simp only [cond_true] at h
            rw [Bool.and_eq_true] at hby
            cases hco : sliceCells H sz (.sl b o n cap) with
            | none => rw [hco] at h; cases h
            | some q =>
              obtain ⟨n', olds⟩ := q
              rw [hco] at h
              simp only [Option.some.injEq] at h
              have hnn : n' = n := by
                simp only [sliceCells] at hco
                cases hb : H.at' b with
                | none => rw [hb] at hco; cases hco
                | some vo => rw [hb] at hco; simp only [Option.map_eq_some_iff, Prod.mk.injEq] at hco; obtain ⟨_, _, h1, _⟩ := hco; exact h1.symm
              subst hnn
              obtain ⟨ws, g1, g2, g3⟩ := oldCells n' olds hco ⟨_, _, hvs⟩
              exact grow n' cap _ olds ws H hvs hlt hby.1 hby.2 g1 g2 g3 (fun _ _ h => h) h.symm
      | slu b o eo n =>
        obtain ⟨y, hy, hvs⟩ := conc_slu hs
        simp only at h
        cases hb : H.at' b with
        | none => rw [hb] at h; cases h
        | some vo =>
          rw [hb] at h
          cases vo with
          | row ne sz' t' c =>
            simp only at h
            cases hm : Nat.beq m 0 with
            | true =>
              rw [hm] at h
              simp only [cond_true] at h
              cases hq : Nat.ble (eo + n) ne with
              | false => rw [hq] at h; cases h
              | true =>
                rw [hq] at h
                simp only [cond_true, Option.some.injEq] at h
                subst h
                have hm0 := eq_of_beq hm
                subst hm0
                obtain ⟨ob, _, hw, ho⟩ := hS.at hb hy
                obtain ⟨cs, fz, rfl, hne, hcap, hmax, hfz, hp', hrd⟩ := ho
                have hq' := le_of_ble hq
                have hroom : n ≤ y.cap - eo := by omega
                refine ⟨e, w, _, _, rfl, Env.le_refl e, hS, hs, ?_⟩
                have h0 : us = [] := by cases us with | nil => rfl | cons _ _ => simp at hul
                subst h0
                rw [hvs]
                rcases hk with ⟨e', hk⟩ | hk <;> simp [Builtin.append_, run_underlying ht, run_underlying hk, sizeOf, typeInfo, hi, hsrc.len, hisz, hsrc.cells, hroom, storeCells]
            | false =>
              rw [hm] at h
              simp only [cond_false] at h
              cases hq : (Nat.beq sz sz' && Nat.beq t' el && Nat.beq o (eo * sz) && Nat.beq (eo + n) ne && bytesOk P el (n + m) && zeroIs P el sz) with
              | false => rw [hq] at h; cases h
              | true =>
                rw [hq] at h
                simp only [cond_true] at h
                simp only [Bool.and_eq_true] at hq
                obtain ⟨⟨⟨⟨⟨q1, q2⟩, q3⟩, q4⟩, q5⟩, q6⟩ := hq
                have q1 := eq_of_beq q1
                have q2 := eq_of_beq q2
                have q3 := eq_of_beq q3
                have q4 := eq_of_beq q4
                subst q1 q2 q3 q4
                cases hco : sliceCells H sz (.slu b (eo * sz) eo n) with
                | none => rw [hco] at h; cases h
                | some q =>
                  obtain ⟨n', olds⟩ := q
                  rw [hco] at h
                  simp only [Option.some.injEq] at h
                  have hcf : n' = n ∧ vo_cells H b (eo * sz) (n * sz) olds := by
                    simp only [sliceCells, hb] at hco
                    simp only [Option.map_eq_some_iff, Prod.mk.injEq] at hco
                    obtain ⟨l', h1, h2, h3⟩ := hco
                    subst h3
                    exact ⟨h2.symm, _, hb, h1⟩
                  obtain ⟨hnn, vo2, hb2, hcf⟩ := hcf
                  subst hnn
                  obtain ⟨ob, hBle, hw, ho⟩ := hS.at hb hy
                  rw [hb] at hb2
                  simp only [Option.some.injEq] at hb2
                  subst hb2
                  obtain ⟨ws, g1, g2, g3⟩ := ho.cellsFrom hw _ _ _ hcf
                  obtain ⟨cs, fz, rfl, hne, hcap, hmax, hfz, hp', hrd⟩ := ho
                  by_cases hfit : n' + m ≤ y.cap - eo
                  · have hmul : y.cap * sz = eo * sz + (n' * sz + m * sz) + (y.cap - eo - (n' + m)) * sz := by
                      rw [← Nat.add_mul, ← Nat.add_mul, ← Nat.add_mul]; congr 1; omega
                    obtain ⟨w', cs', k1, k2, k3, k4, k5, k6⟩ := storeCells_raw (P := P) us (y.base + eo * sz + n' * sz) 0 cs w hw (by omega) hfz hsrc.one
                    have hf := hS.fresh nx (Nat.le_refl _)
                    have hle' := Env.le_put (x := ⟨y.blk, y.base + eo * sz, y.cap - eo⟩) hf
                    subst h
                    refine ⟨e.put nx ⟨y.blk, y.base + eo * sz, y.cap - eo⟩, w', .slu nx 0 0 (n' + m), .slice (some ⟨y.blk, y.base + eo * sz, none⟩) (n' + m) (y.cap - eo), rfl, hle', ?_, by simp [SV.conc, Env.put_same], ?_⟩
                    · refine hS.move (y := ⟨y.blk, y.base + eo * sz, y.cap - eo⟩) hb hy rfl k2 k3 ?_
                      have hmul2 : y.cap * sz = eo * sz + (y.cap - eo) * sz := by rw [← Nat.add_mul]; congr 1; omega
                      refine ⟨cs', fz, rfl, hfit, by rw [k4]; simp only; omega, by simp only; omega, by rw [k4]; exact hfz, hpos, fun i hi' s' hs' => ?_⟩
                      rcases fillTr_at _ .nil 0 i s' hs' with ⟨_, h2, _⟩ | ⟨_, h2⟩
                      · obtain ⟨v, hv, hg⟩ := concL_get (SV.concL_mono hle' _ _ (concL_append g1 hus)) h2
                        refine ⟨v, hv, ?_⟩
                        simp only [Nat.sub_zero] at hg
                        by_cases hin : i < n' * sz
                        · rw [List.getElem?_append_left (by omega)] at hg
                          have := g3 i v hg
                          simp only [World.cell?, hw] at this
                          rw [k5 _ (by simp only; omega)]
                          simpa using this
                        · rw [List.getElem?_append_right (by omega)] at hg
                          have := k6 (i - n' * sz) v (by rw [← g2]; exact hg)
                          rw [show y.base + eo * sz + n' * sz + 0 + (i - n' * sz) = y.base + eo * sz + i by omega] at this
                          exact this
                      · rw [Tr.at_nil] at h2; cases h2
                    · rw [hvs]
                      rcases hk with ⟨e', hk⟩ | hk <;> simp [Builtin.append_, run_underlying ht, run_underlying hk, sizeOf, typeInfo, hi, hsrc.len, hisz, hsrc.cells, hfit, addr_add, k1]
                  · have hfc : (Builtin.firstCells sz n' vs).run P w.drew = .ok ws.toArray w.drew := by
                      obtain ⟨ws', a1, a2, a3⟩ := oldCells n' olds hco ⟨_, _, hvs⟩
                      rw [g1] at a1
                      simp only [Option.some.injEq] at a1
                      subst a1
                      exact a3
                    exact grow n' (y.cap - eo) _ olds ws (H.del b) hvs (by omega) q5 q6 g1 g2 hfc (fun id vo hd => (Tr.at_del hd).2) h.symm
          | _ => cases h
      | _ => cases h
end
end Go.Ex
