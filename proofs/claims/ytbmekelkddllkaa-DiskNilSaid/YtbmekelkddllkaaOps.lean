/-
  What single operations of the model do where the new blocks are known ('Sat'). Over any program.
-/
import Derived.Test.YtbmekelkddllkaaSat
import Derived.Laws.OwnMore
namespace Go.Sl
open Go.RowKit

section
variable {P : Program} {ops : Array Oper} {Q : Exit → Act → World → Prop} {a : Act} {w w0 : World} {rest : List Oper} {o : Oper} {F : Blks}

/-! ### an operation whose run is known -/
theorem wpl_val (hw : Region.wanted o (yielded ops a.tmps) = true) {v : Value} {w' : World} (hr : (execOp a.eval o).run P w = .ok (.value v) w') (h : wpList P ops Q rest (a.put o.dst v) w') :
    wpList P ops Q (o :: rest) a w := by
  unfold wpList
  rw [if_pos hw]
  refine .inl ?_
  unfold Oper.wp
  rw [hr]
  exact h

theorem wpl_skp (hw : Region.wanted o (yielded ops a.tmps) = true) {w' : World} (hr : (execOp a.eval o).run P w = .ok .skip w') (h : wpList P ops Q rest (a.put o.dst undef) w') :
    wpList P ops Q (o :: rest) a w := by
  unfold wpList
  rw [if_pos hw]
  refine .inl ?_
  unfold Oper.wp
  rw [hr]
  exact h

/-- not a struct, not an array -/
def isAggD : TypeDesc → Bool
  | .struct _ | .array _ _ => true
  | _ => false

def Plain (P : Program) (t : TypeId) : Prop := (P.underlying t).map isAggD = some false
def Agg (P : Program) (t : TypeId) (n : Nat) : Prop := (P.underlying t).map isAggD = some true ∧ (P.info? t).map (·.size) = some n

theorem run_isAgg_plain {t : TypeId} (h : Plain P t) (w : World) : (isAgg t).run P w = .ok false w := by
  unfold Plain at h
  cases hu : P.underlying t with
  | none => simp [hu] at h
  | some d =>
    rw [hu] at h
    cases d <;> simp [isAggD] at h <;> simp [isAgg, run_underlying hu]

theorem run_isAgg_agg {t : TypeId} {n : Nat} (h : Agg P t n) (w : World) : (isAgg t).run P w = .ok true w := by
  unfold Agg at h
  cases hu : P.underlying t with
  | none => simp [hu] at h
  | some d =>
    rw [hu] at h
    cases d <;> simp [isAggD] at h <;> simp [isAgg, run_underlying hu]

theorem run_sizeOf_agg {t : TypeId} {n : Nat} (h : (P.info? t).map (·.size) = some n) (w : World) : (sizeOf t).run P w = .ok n w := by
  cases hi : P.info? t with
  | none => simp [hi] at h
  | some i => simp [hi] at h; simp [sizeOf, typeInfo, hi, h]

/-! ### reading a cell -/
theorem run_load_cell {t : TypeId} (ht : Plain P t) {b i : Nat} {v : Value} (hc : w.cell? ⟨b, i, none⟩ = some v) :
    (Instr.loadAt t (.pointer (some ⟨b, i, none⟩))).run P w = .ok v w := by
  simp [Instr.loadAt, Instr.sureAddr, loadVar, run_isAgg_plain ht, hc]

theorem run_load_cells {t : TypeId} {n : Nat} (ht : Agg P t n) {b i : Nat} {vs : List Value} (hn : vs.length = n) (hc : ∀ j, j < n → w.cell? ⟨b, i + j, none⟩ = vs[j]?) :
    (Instr.loadAt t (.pointer (some ⟨b, i, none⟩))).run P w = .ok (.agg vs.toArray) w := by
  subst hn
  have h := run_loadCells_list (P := P) w ⟨b, i, none⟩ vs (fun j v hv => by
    have hj : j < vs.length := (List.getElem?_eq_some_iff.1 hv).1
    have := hc j hj
    rw [hv] at this
    by_cases h0 : j = 0
    · subst h0; simpa [Addr.add] using this
    · simpa [Addr.add, h0] using this)
  simp [Instr.loadAt, Instr.sureAddr, loadVar, run_isAgg_agg ht, run_sizeOf_agg ht.2, h]


/-! ### the operations, at execOp -/
theorem Sat.xload (hS : Sat w0 w F) {t : TypeId} {x : Operand} (hop : o.op = .load t x) {b i : Nat} (hx : a.eval x = .pointer (some ⟨b, i, none⟩)) (ht : Plain P t) {cs : Array Value} {ty : TypeId} {fz : Nat × Nat}
    (hb : (b, .cells cs ty fz) ∈ F) {v : Value} (hv : cs[i]? = some v) : (execOp a.eval o).run P w = .ok (.value v) w := by
  have := run_load_cell (P := P) ht (b := b) (i := i) (w := w) (by rw [hS.cell hb]; exact hv)
  simp [execOp, hop, hx, this]

theorem Sat.xloads (hS : Sat w0 w F) {t : TypeId} {x : Operand} (hop : o.op = .load t x) {b i n : Nat} (hx : a.eval x = .pointer (some ⟨b, i, none⟩)) (ht : Agg P t n) {cs : Array Value} {ty : TypeId} {fz : Nat × Nat}
    (hb : (b, .cells cs ty fz) ∈ F) {vs : List Value} (hn : vs.length = n) (hv : ∀ j, j < n → cs[i + j]? = vs[j]?) : (execOp a.eval o).run P w = .ok (.value (.agg vs.toArray)) w := by
  have := run_load_cells (P := P) ht (b := b) (i := i) (w := w) hn (fun j hj => by rw [hS.cell hb]; exact hv j hj)
  simp [execOp, hop, hx, this]

/-! ### G is F, but for one block -/
inductive Upd (b : Nat) (o o' : Obj) : Blks → Blks → Prop where
  | head {l : Blks} : Upd b o o' ((b, o) :: l) ((b, o') :: l)
  | tail {l l' : Blks} {x : Nat × Obj} : Upd b o o' l l' → Upd b o o' (x :: l) (x :: l')
  | app {l l' : Blks} {A : Blks} : Upd b o o' l l' → Upd b o o' (A ++ l) (A ++ l')
  | appl {l l' : Blks} {A : Blks} : Upd b o o' l l' → Upd b o o' (l ++ A) (l' ++ A)

theorem Upd.split {b : Nat} {o o' : Obj} {l l' : Blks} (h : Upd b o o' l l') : ∃ A B, l = A ++ (b, o) :: B ∧ l' = A ++ (b, o') :: B := by
  induction h with
  | head => exact ⟨[], _, rfl, rfl⟩
  | tail _ ih => obtain ⟨A, B, rfl, rfl⟩ := ih; exact ⟨_ :: A, B, rfl, rfl⟩
  | @app _ _ C _ ih => obtain ⟨A, B, rfl, rfl⟩ := ih; exact ⟨C ++ A, B, by simp, by simp⟩
  | @appl _ _ C _ ih => obtain ⟨A, B, rfl, rfl⟩ := ih; exact ⟨A, B ++ C, by simp, by simp⟩

theorem Upd.mem {b : Nat} {o o' : Obj} {l l' : Blks} (h : Upd b o o' l l') : (b, o) ∈ l := by
  obtain ⟨A, B, rfl, rfl⟩ := h.split
  simp

/-- OneC block turns. -/
theorem Sat.upd {b : Nat} {o o' : Obj} {G : Blks} (hS : Sat w0 w F) (hU : Upd b o o' F G) {w1 : World} (hos : w1.os = w.os) (htape : w1.tape = w.tape) (hout : w1.output = w.output)
    (hsize : w.heap.size ≤ w1.heap.size) (hother : ∀ k, k < w.heap.size → k ≠ b → w1.heap[k]? = w.heap[k]?) (hb : w1.heap[b]? = some o') : Sat w0 w1 G := by
  obtain ⟨A, B, rfl, rfl⟩ := hU.split
  exact ((hS.perm List.perm_middle).turn hos htape hout hsize hother hb).perm List.perm_middle.symm

/-- F has block b, between A and B. -/
inductive Hole (b : Nat) (o : Obj) : Blks → Blks → Blks → Prop where
  | head {l : Blks} : Hole b o ((b, o) :: l) [] l
  | tail {l A B : Blks} {x : Nat × Obj} : Hole b o l A B → Hole b o (x :: l) (x :: A) B
  | app {l A B C : Blks} : Hole b o l A B → Hole b o (C ++ l) (C ++ A) B

theorem Hole.eq {b : Nat} {o : Obj} {l A B : Blks} (h : Hole b o l A B) : l = A ++ (b, o) :: B := by
  induction h with
  | head => rfl
  | tail _ ih => rw [ih]; rfl
  | app _ ih => rw [ih, List.append_assoc]

theorem Hole.upd {b : Nat} {o : Obj} {l A B : Blks} (h : Hole b o l A B) (o' : Obj) : Upd b o o' l (A ++ (b, o') :: B) := by
  rw [h.eq]
  exact Upd.app Upd.head

/-! ### a store -/
theorem Sat.set {b : Nat} {cs : Array Value} {ty : TypeId} {i : Nat} {v : Value} {G : Blks} (hS : Sat w0 w F) (hU : Upd b (.cells cs ty (0, 0)) (.cells (cs.setIfInBounds i v) ty (0, 0)) F G) :
    Sat w0 (w.setCell ⟨b, i, none⟩ v) G :=
  hS.upd hU rfl rfl rfl (by simp [World.setCell]) (fun k _ hk => Below.heap_setCell _ _ _ _ hk) (heap_setCell_same w b i cs ty v (hS.block hU.mem))

def OneC (P : Program) (t : TypeId) : Prop := (P.info? t).map (·.size) = some 1

theorem run_store_cell {t : TypeId} (hn : OneC P t) {b i : Nat} {v u : Value} (hc : w.cell? ⟨b, i, none⟩ = some u) (hf : w.frozen? ⟨b, i, none⟩ = false) (hv : v.oneCell' = true) :
    (Instr.storeAt t (.pointer (some ⟨b, i, none⟩)) v).run P w = .ok () (w.setCell ⟨b, i, none⟩ v) := by
  have h1 : v.cells = #[v] := by cases v <;> simp [Value.oneCell'] at hv <;> rfl
  have := run_store P w ⟨b, i, none⟩ v .plain hv
  simp [Instr.storeAt, Instr.sureAddr, storeVar, h1, run_sizeOf_agg hn, storeCells, Addr.add, this, hc, hf]

theorem wpl_load {t : TypeId} {x : Operand} (hS : Sat w0 w F) (hop : o.op = .load t x) (hw : Region.wanted o (yielded ops a.tmps) = true) {b i : Nat} (hx : a.eval x = .pointer (some ⟨b, i, none⟩)) (ht : Plain P t)
    {cs : Array Value} {ty : TypeId} {fz : Nat × Nat} (hb : (b, .cells cs ty fz) ∈ F) {v : Value} (hv : cs[i]? = some v) (h : wpList P ops Q rest (a.put o.dst v) w) : wpList P ops Q (o :: rest) a w :=
  wpl_val hw (hS.xload hop hx ht hb hv) h

theorem wpl_store {t : TypeId} {x y : Operand} (hS : Sat w0 w F) (hop : o.op = .store t x y) (hw : Region.wanted o (yielded ops a.tmps) = true) {b i : Nat} (hx : a.eval x = .pointer (some ⟨b, i, none⟩)) {v : Value} (hy : a.eval y = v)
    (ht : OneC P t) (hv : v.oneCell' = true) {cs : Array Value} {ty : TypeId} {G : Blks} (hU : Upd b (.cells cs ty (0, 0)) (.cells (cs.setIfInBounds i v) ty (0, 0)) F G) (hi : i < cs.size)
    (h : ∀ w', Sat w0 w' G → wpList P ops Q rest (a.put o.dst undef) w') : wpList P ops Q (o :: rest) a w := by
  have hc : w.cell? ⟨b, i, none⟩ = some cs[i] := by rw [hS.cell hU.mem]; simp [hi]
  have := run_store_cell (P := P) ht hc (hS.free hU.mem i) hv
  exact wpl_skp hw (w' := w.setCell ⟨b, i, none⟩ v) (by simp [execOp, hop, hx, hy, this]) (h _ (hS.set hU))

/-! ### a new block -/
theorem wpl_box {t : TypeId} {x : Operand} (hS : Sat w0 w F) (hop : o.op = .box t x) (hw : Region.wanted o (yielded ops a.tmps) = true) {v : Value} (hx : a.eval x = v)
    (h : ∀ b w', Sat w0 w' ((b, .cells v.cells t (0, 0)) :: F) → wpList P ops Q rest (a.put o.dst (.pointer (some ⟨b, 0, none⟩))) w') : wpList P ops Q (o :: rest) a w := by
  refine wpl_val hw (v := .pointer (some ⟨w.heap.size, 0, none⟩)) (w' := w.alloc (.cells v.cells t)) ?_ (h _ _ (hS.alloc _))
  simp [execOp, hop, hx, Instr.box, newVar, newRow]

theorem wpl_alloc {t : TypeId} (hS : Sat w0 w F) (hop : o.op = .alloc t) (hw : Region.wanted o (yielded ops a.tmps) = true) {v : Value} (hz : (P.info? t).bind (·.zero) = some v)
    (h : ∀ b w', Sat w0 w' ((b, .cells v.cells t (0, 0)) :: F) → wpList P ops Q rest (a.put o.dst (.pointer (some ⟨b, 0, none⟩))) w') : wpList P ops Q (o :: rest) a w := by
  refine wpl_val hw (v := .pointer (some ⟨w.heap.size, 0, none⟩)) (w' := w.alloc (.cells v.cells t)) ?_ (h _ _ (hS.alloc _))
  have hz' : (zeroValue t).run P w = .ok v w := by
    cases hi : P.info? t with
    | none => simp [hi] at hz
    | some i => simp [hi] at hz; simp [zeroValue, typeInfo, hi, hz]
  simp [execOp, hop, Instr.alloc, hz', newVar, newRow]

attribute [irreducible] Plain Agg OneC
end
end Go.Sl
