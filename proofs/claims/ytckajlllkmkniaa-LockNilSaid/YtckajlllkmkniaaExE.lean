/-
  The machine of names: operations that only read, put together; operations with no memory in them. Over any program.
-/
import Derived.Test.YtckajlllkmkniaaExD
namespace Go.Ex
open Go Go.Sl Go.RowKit

section
variable {P : Program} {B : Nat} {w0 w : World} {e : Env} {H : Heap} {nx : Nat} {T : Tr SV} {ev : Operand → Value}

theorem run_eqlIn {t : TypeId} {x y : Value} {r : Bool} {w : World} (h : ∀ d, (Op.equalIn (d + 1) t x y).run P w = .ok r w) : (Op.equal t x y).run P w = .ok r w := h 9999

theorem isNilS_ok {s : SV} {v c : Value} {t : TypeId} {d : TypeDesc} (h : isNilS s c d = true) (hu : P.underlying t = some d) (hv : s.conc e = some v) (w : World) : (Op.equal t v c).run P w = .ok false w ∧ (∀ k n, v ≠ .int k n) ∧
    (∀ k n, v ≠ .float k n) ∧ (∀ k a b, v ≠ .complex k a b) ∧ (∀ s, v ≠ .string s) ∧ v ≠ .nilIface ∧ (∀ a, v ≠ .agg a) := by
  unfold isNilS at h
  split at h
  case h_1 b o el =>
    obtain ⟨x, _, rfl⟩ := conc_ptr hv
    refine ⟨run_eqlIn ?_, by simp, by simp, by simp, by simp, by simp, by simp⟩
    intro d; rw [Op.equalIn]; simp [run_underlying hu]
  case h_2 a b ms =>
    obtain ⟨x, _, rfl⟩ := conc_ifc hv
    refine ⟨run_eqlIn ?_, by simp, by simp, by simp, by simp, by simp, by simp⟩
    intro d; rw [Op.equalIn]; simp [run_underlying hu]
  case h_3 b k el =>
    obtain ⟨x, _, rfl⟩ := conc_mp hv
    refine ⟨run_eqlIn ?_, by simp, by simp, by simp, by simp, by simp, by simp⟩
    intro d; rw [Op.equalIn]; simp [run_underlying hu]
  case h_4 b o n c l2 c2 el =>
    obtain ⟨x, _, rfl⟩ := conc_sl hv
    refine ⟨run_eqlIn ?_, by simp, by simp, by simp, by simp, by simp, by simp⟩
    intro d; rw [Op.equalIn]; simp [run_underlying hu]
  case h_5 b o n c l2 c2 el =>
    obtain ⟨x, _, rfl⟩ := conc_slu hv
    refine ⟨run_eqlIn ?_, by simp, by simp, by simp, by simp, by simp, by simp⟩
    intro d; rw [Op.equalIn]; simp [run_underlying hu]
  case h_6 f a b ps rs va =>
    obtain ⟨x, y, _, _, rfl⟩ := conc_fn hv
    refine ⟨run_eqlIn ?_, by simp, by simp, by simp, by simp, by simp, by simp⟩
    intro d; rw [Op.equalIn]; simp [run_underlying hu]
  case h_7 b ps rs va =>
    obtain ⟨x, _, rfl⟩ := conc_yld hv
    refine ⟨run_eqlIn ?_, by simp, by simp, by simp, by simp, by simp, by simp⟩
    intro d; rw [Op.equalIn]; simp [run_underlying hu]
  case h_8 => cases h

theorem nilTest_ok {o : Oper} {op : BinOp} {t yt : TypeId} {xo yo : Operand} {x y r : SV} (hop : o.op = .binOp op t xo yo yt) (h : nilTest P op t x y = some r) (hx : x.conc e = some (ev xo)) (hy : y.conc e = some (ev yo)) (w : World) :
    ∃ u, r.conc e = some u ∧ (execOp ev o).run P w = .ok (.value u) w := by
  unfold nilTest at h
  cases y with
  | sc c =>
    simp only [SV.conc, Option.some.injEq] at hy
    subst hy
    simp only at h
    cases hu : P.underlying t with
    | none => rw [hu] at h; cases h
    | some d =>
      rw [hu] at h
      simp only at h
      cases hb : isNilS x (ev yo) d with
      | false => rw [hb] at h; cases h
      | true =>
        rw [hb] at h
        simp only [cond_true] at h
        obtain ⟨h1, n1, n2, n3, n4, n5, n6⟩ := isNilS_ok hb hu hx w
        generalize hA : ev xo = a at *
        generalize hC : ev yo = c at *
        cases op with
        | eql =>
          simp only [Option.some.injEq] at h
          subst h
          have hg : (eqGuard .eql t xo yo a c).run P w = .ok () w := by
            unfold eqGuard
            cases a <;> cases c <;> first | rfl | exact absurd rfl n5 | exact absurd rfl (n6 _)
          have hb2 : (Go.binOp .eql t a c).run P w = .ok (.bool false) w := by
            cases a <;> cases c <;> first
              | exact absurd rfl (n1 _ _)
              | exact absurd rfl (n2 _ _)
              | exact absurd rfl (n3 _ _ _)
              | exact absurd rfl (n4 _)
              | simp [Go.binOp, h1]
          exact ⟨_, rfl, by simp [execOp, hop, hA, hC, hg, hb2]⟩
        | neq =>
          simp only [Option.some.injEq] at h
          subst h
          have hg : (eqGuard .neq t xo yo a c).run P w = .ok () w := by
            unfold eqGuard
            cases a <;> cases c <;> first | rfl | exact absurd rfl n5 | exact absurd rfl (n6 _)
          have hb2 : (Go.binOp .neq t a c).run P w = .ok (.bool true) w := by
            cases a <;> cases c <;> first
              | exact absurd rfl (n1 _ _)
              | exact absurd rfl (n2 _ _)
              | exact absurd rfl (n3 _ _ _)
              | exact absurd rfl (n4 _)
              | simp [Go.binOp, h1]
          exact ⟨_, rfl, by simp [execOp, hop, hA, hC, hg, hb2]⟩
        | _ => cases h
  | _ => cases h

theorem lenS_ok {t : TypeId} {s r : SV} {v : Value} {ts : Array TypeId} {ty : TypeId} (hts : ts[0]? = some t) (hS : St B w0 e H nx w) (h : lenS P H t s = some r) (hv : s.conc e = some v) : ∃ u, r.conc e = some u ∧ (Builtin.len_ ts ty #[v]).run P w = .ok u w := by
  cases s with
  | sl b o n c =>
    obtain ⟨x, _, rfl⟩ := conc_sl hv
    simp only [lenS] at h
    cases hu : P.underlying t with
    | none => rw [hu] at h; cases h
    | some d =>
      rw [hu] at h
      cases d with
      | slice el => simp only [Option.some.injEq] at h; subst h; exact ⟨_, rfl, by simp [Builtin.len_, hts, run_underlying hu, goInt]⟩
      | _ => cases h
  | slu b o eo n =>
    obtain ⟨x, _, rfl⟩ := conc_slu hv
    simp only [lenS] at h
    cases hu : P.underlying t with
    | none => rw [hu] at h; cases h
    | some d =>
      rw [hu] at h
      cases d with
      | slice el => simp only [Option.some.injEq] at h; subst h; exact ⟨_, rfl, by simp [Builtin.len_, hts, run_underlying hu, goInt]⟩
      | _ => cases h
  | mp b =>
    obtain ⟨x, hx, rfl⟩ := conc_mp hv
    simp only [lenS] at h
    cases hu : P.underlying t with
    | none => rw [hu] at h; cases h
    | some d =>
      rw [hu] at h
      cases d with
      | map kt el =>
        simp only at h
        cases hb : H.at' b with
        | none => rw [hb] at h; cases h
        | some vo =>
          rw [hb] at h
          cases vo with
          | map l clock =>
            simp only [Option.some.injEq] at h
            subst h
            obtain ⟨o, _, hw, ho⟩ := hS.at hb hx
            obtain ⟨es, rfl, hm⟩ := ho
            have hg := Go.MapKept.run_getObj_map (P := P) hw
            have hl := hm.length
            simp only [Array.length_toList] at hl
            exact ⟨_, rfl, by simp [Builtin.len_, hts, run_underlying hu, hg, goInt, hl]⟩
          | _ => cases h
      | _ => cases h
  | _ => simp [lenS] at h

/-! ### the elements of a slice -/
theorem sliceCells_ok {sz n : Nat} {s : SV} {l : List SV} {v : Value} (hS : St B w0 e H nx w) (h : sliceCells H sz s = some (n, l)) (hv : s.conc e = some v) :
    ∃ vs, SV.concL e l = some vs ∧ vs.length = n * sz ∧ (Builtin.lenOf v).run P w = .ok n w ∧ ∀ k, k ≤ n → (Builtin.firstCells sz k v).run P w = .ok (vs.take (k * sz)).toArray w := by
  have row : ∀ (b o : Nat) (a : Ent) (c : Nat), e b = some a → v = .slice (some ⟨a.blk, a.base + o, none⟩) n c → (match H.at' b with | some vo => (vo.cellsFrom o (n * sz)).map fun l => (n, l) | none => none) = some (n, l) →
      ∃ vs, SV.concL e l = some vs ∧ vs.length = n * sz ∧ (Builtin.lenOf v).run P w = .ok n w ∧ ∀ k, k ≤ n → (Builtin.firstCells sz k v).run P w = .ok (vs.take (k * sz)).toArray w := by
    intro b o a c ha hv h
    cases hb : H.at' b with
    | none => rw [hb] at h; cases h
    | some vo =>
      rw [hb] at h
      simp only [Option.map_eq_some_iff, Prod.mk.injEq, true_and] at h
      obtain ⟨l', hcf, rfl⟩ := h
      obtain ⟨ob, _, hw, ho⟩ := hS.at hb ha
      obtain ⟨vs, h1, h2, h3⟩ := ho.cellsFrom hw _ _ _ hcf
      subst hv
      refine ⟨vs, h1, h2, by simp [Builtin.lenOf], fun k hk => ?_⟩
      have hle : k * sz ≤ n * sz := Nat.mul_le_mul_right _ hk
      have := run_loadCells_list (P := P) (w := w) ⟨a.blk, a.base + o, none⟩ (vs.take (k * sz)) (fun j u hu => by
        rw [addr_add]
        have hj : j < (vs.take (k * sz)).length := (List.getElem?_eq_some_iff.1 hu).1
        rw [List.getElem?_take, if_pos (by rw [List.length_take] at hj; omega)] at hu
        exact h3 j u hu)
      rw [List.length_take, Nat.min_eq_left (by omega)] at this
      simp [Builtin.firstCells, this]
  cases s with
  | sl b o m c =>
    obtain ⟨x, hx, hv'⟩ := conc_sl hv
    simp only [sliceCells] at h
    have hmn : m = n := by
      cases hb : H.at' b with
      | none => rw [hb] at h; cases h
      | some vo => rw [hb] at h; simp only [Option.map_eq_some_iff, Prod.mk.injEq] at h; obtain ⟨_, _, h, _⟩ := h; exact h
    subst hmn
    exact row b o x c hx hv' h
  | slu b o eo m =>
    obtain ⟨x, hx, hv'⟩ := conc_slu hv
    simp only [sliceCells] at h
    have hmn : m = n := by
      cases hb : H.at' b with
      | none => rw [hb] at h; cases h
      | some vo => rw [hb] at h; simp only [Option.map_eq_some_iff, Prod.mk.injEq] at h; obtain ⟨_, _, h, _⟩ := h; exact h
    subst hmn
    exact row b o x _ hx hv' h
  | sc c =>
    simp only [SV.conc, Option.some.injEq] at hv
    subst hv
    unfold sliceCells at h
    split at h
    · simp only [Option.some.injEq, Prod.mk.injEq] at h
      obtain ⟨rfl, rfl⟩ := h
      rename_i heq
      simp only [SV.sc.injEq] at heq
      subst heq
      exact ⟨[], rfl, by simp, by simp [Builtin.lenOf], fun k hk => by simp [Builtin.firstCells]⟩
    · rename_i st heq
      simp only [SV.sc.injEq] at heq
      subst heq
      cases hb : Nat.beq sz 1 with
      | false => rw [hb] at h; cases h
      | true =>
        rw [hb] at h
        simp only [cond_true, Option.some.injEq, Prod.mk.injEq] at h
        obtain ⟨rfl, rfl⟩ := h
        have := eq_of_beq hb
        subst this
        refine ⟨st.data.toList.map fun b => .int .u8 b.toNat, ?_, ?_, by simp [Builtin.lenOf], fun k hk => ?_⟩
        · have := concL_sc (e := e) (st.data.toList.map fun b => Value.int .u8 b.toNat)
          rw [List.map_map] at this
          exact this
        · rw [List.length_map, Array.length_toList, Nat.mul_one]
          rfl
        · simp only [Builtin.firstCells, Sem.run_pure, Nat.mul_one]
          congr 1
          apply Array.ext'
          rw [Array.toList_map, ByteArray.data_extract, Array.toList_extract, List.extract_eq_take_drop, List.map_take]
          rfl
    · rename_i heq; cases heq
    · rename_i heq; cases heq
    · cases h
  | _ => simp [sliceCells] at h

theorem bytesL_ok : ∀ {l : List SV} {bs : List UInt8} {vs : List Value}, bytesL l = some bs → SV.concL e l = some vs → ∃ ns : List Int, vs = ns.map (Value.int .u8) ∧ ∀ r : ByteArray, ns.foldl (fun r n => r.push (UInt8.ofNat n.toNat)) r = ⟨r.data ++ bs.toArray⟩
  | [], bs, vs, h, hc => by
    simp only [bytesL, Option.some.injEq] at h
    simp only [SV.concL, Option.some.injEq] at hc
    subst h hc
    exact ⟨[], rfl, fun r => by simp⟩
  | s :: l, bs, vs, h, hc => by
    obtain ⟨v, ws, rfl, hv, hl⟩ := concL_cons hc
    unfold bytesL at h
    split at h
    · rename_i heq; cases heq
    · rename_i n l' heq
      simp only [List.cons.injEq] at heq
      obtain ⟨rfl, rfl⟩ := heq
      simp only [SV.conc, Option.some.injEq] at hv
      subst hv
      cases hb : bytesL l with
      | none => rw [hb] at h; cases h
      | some r =>
        rw [hb] at h
        simp only [Option.some.injEq] at h
        subst h
        obtain ⟨ns, rfl, hns⟩ := bytesL_ok hb hl
        refine ⟨(Int.ofNat n) :: ns, rfl, fun q => ?_⟩
        simp only [List.foldl_cons]
        rw [hns]
        simp [ByteArray.push]
    · cases h

theorem strOfS_ok {s t : TypeId} {x r : SV} {v : Value} (hS : St B w0 e H nx w) (h : strOfS P H s t x = some r) (hv : x.conc e = some v) : ∃ u, r.conc e = some u ∧ (Go.convert s t v).run P w = .ok u w := by
  unfold strOfS at h
  cases hs : P.underlying s with
  | none => rw [hs] at h; cases h
  | some d =>
    rw [hs] at h
    cases d with
    | slice el =>
      simp only at h
      cases ht : P.underlying t with
      | none => rw [ht] at h; cases h
      | some d2 =>
        rw [ht] at h
        cases d2 with
        | string =>
          simp only at h
          cases he : P.underlying el with
          | none => rw [he] at h; cases h
          | some d3 =>
            rw [he] at h
            have key : d3 = .int .u8 → ∀ n l, sliceCells H 1 x = some (n, l) → bytesS l = some r → (∃ a m c, v = .slice (some a) m c) → ∃ u, r.conc e = some u ∧ (Go.convert s t v).run P w = .ok u w := by
              intro hd n l hc hb hsl
              subst hd
              obtain ⟨a, m, c, rfl⟩ := hsl
              obtain ⟨vs, h1, h2, h3, h4⟩ := sliceCells_ok (P := P) hS hc hv
              simp only [Builtin.lenOf, Sem.run_pure, Result.ok.injEq, and_true] at h3
              subst h3
              have h5 := h4 m (Nat.le_refl _)
              simp only [bytesS, Option.map_eq_some_iff] at hb
              obtain ⟨bs, hb, rfl⟩ := hb
              obtain ⟨ns, rfl, hns⟩ := bytesL_ok hb h1
              simp only [Builtin.firstCells, Nat.mul_one] at h5
              rw [List.take_of_length_le (by omega)] at h5
              rw [run_convert_bytes_string w s t el (some a) m c hs he ht, run_bytesToString w a m c ns h5, hns]
              exact ⟨_, rfl, by rw [show (ByteArray.empty).data = #[] from rfl]; simp⟩
            cases d3 with
            | int k =>
              cases k with
              | u8 =>
                simp only at h
                cases x with
                | sl b o n c =>
                  simp only at h
                  obtain ⟨y, _, hv'⟩ := conc_sl hv
                  cases hc : sliceCells H 1 (.sl b o n c) with
                  | none => rw [hc] at h; cases h
                  | some q => rw [hc] at h; exact key rfl q.1 q.2 hc h ⟨_, _, _, hv'⟩
                | slu b o eo n =>
                  simp only at h
                  obtain ⟨y, _, hv'⟩ := conc_slu hv
                  cases hc : sliceCells H 1 (.slu b o eo n) with
                  | none => rw [hc] at h; cases h
                  | some q => rw [hc] at h; exact key rfl q.1 q.2 hc h ⟨_, _, _, hv'⟩
                | _ => cases h
              | _ => cases h
            | _ => cases h
        | _ => cases h
    | _ => cases h

theorem getObj_at {r : Nat} {o : Obj} (h : w.heap[r]? = some o) (hn : ∀ c t fz, o ≠ .cells c t fz) : (getObj r).run P w = .ok o w := by
  cases o <;> first
    | exact absurd rfl (hn _ _ _)
    | simp [getObj, Sem.run, h]

theorem MRel.find (f : Nat → Bool) : ∀ {l : List (Value × SV × Nat)} {ms : List MapEntry}, MRel e l ms → ∀ {x : Value × SV × Nat}, l.find? (fun x => f x.2.2) = some x → ∃ m, ms.find? (fun m => f m.born) = some m ∧ m.key = x.1 ∧ x.2.1.conc e = some m.val
  | [], [], _, x, h => by simp at h
  | (k, s, b) :: l, m :: ms, hr, x, h => by
    obtain ⟨h1, h2, h3, h4⟩ := hr
    simp only [List.find?_cons] at h ⊢
    rw [h2]
    cases hb : f b with
    | true =>
      rw [hb] at h
      simp only [Option.some.injEq] at h
      subst h
      exact ⟨m, rfl, h1, h3⟩
    | false =>
      rw [hb] at h
      exact MRel.find f h4 h
  | [], _ :: _, hr, _, _ => hr.elim
  | (_, _, _) :: _, [], hr, _, _ => by simp [MRel] at hr

theorem beq_eq_beq (a b : Nat) : (a == b) = Nat.beq a b := by
  cases h : Nat.beq a b with
  | true =>
    have := eq_of_beq h
    subst this
    simp
  | false =>
    rw [beq_eq_false_iff_ne]
    rintro rfl
    rw [show Nat.beq a a = true from Nat.beq_refl a] at h
    cases h

theorem entryS_ok {s r : SV} {v : Value} (hS : St B w0 e H nx w) (h : entryS H s = some r) (hv : s.conc e = some v) : ∃ u, r.conc e = some u ∧ (Instr.entry v).run P w = .ok u w := by
  unfold entryS at h
  split at h
  · rename_i b
    obtain ⟨x, hx, rfl⟩ := conc_ptr hv
    split at h
    · rename_i m since seen stepped hb
      obtain ⟨o, _, hw, ho⟩ := hS.at hb hx
      obtain ⟨h0, y, hy, rfl⟩ := ho
      have hg := getObj_at (P := P) hw (by simp)
      cases hs : seen.getLast? with
      | none => rw [hs] at h; cases h
      | some stamp =>
        rw [hs] at h
        simp only at h
        split at h
        · rename_i l clock hm
          obtain ⟨om, _, hwm, hom⟩ := hS.at hm hy
          obtain ⟨es, rfl, hmr⟩ := hom
          have hgm := getObj_at (P := P) hwm (by simp)
          cases hc : Nat.beq clock stepped with
          | false => rw [hc] at h; cases h
          | true =>
            rw [hc] at h
            have hcs := eq_of_beq hc
            subst hcs
            simp only [cond_true] at h
            cases hf : l.find? (fun x => Nat.beq x.2.2 stamp) with
            | none => rw [hf] at h; cases h
            | some z =>
              rw [hf] at h
              simp only [Option.some.injEq] at h
              subst h
              obtain ⟨m, g1, g2, g3⟩ := hmr.find (fun b => Nat.beq b stamp) hf
              have g1' : es.find? (fun m => m.born == stamp) = some m := by
                rw [← Array.find?_toList]
                simp only [beq_eq_beq]
                exact g1
              have hback : seen.toArray.back? = some stamp := by simpa using hs
              refine ⟨.tuple #[m.key, m.val], by simp [SV.conc, SV.concL, g2, g3], ?_⟩
              rw [h0, Nat.add_zero]
              simp [Instr.entry, hg, hback, hgm, g1']
        · cases h
    · cases h
  · cases h

theorem obind {A C : Type} {x : Option A} {f : A → Option C} {c : C} (h : x.bind f = some c) : ∃ a, x = some a ∧ f a = some c := by
  cases x with
  | none => cases h
  | some a => exact ⟨a, rfl, h⟩

/-- An operation that only reads. -/
theorem readOp_ok {o : Oper} {r : SV} (hS : St B w0 e H nx w) (hE : EvRel e T ev) (h : readOp P T H o = some r) : ∃ u, r.conc e = some u ∧ (execOp ev o).run P w = .ok (.value u) w := by
  unfold readOp at h
  cases hop : o.op with
  | move x => rw [hop] at h; exact ⟨_, hE x r h, by simp [execOp, hop]⟩
  | assign x => rw [hop] at h; exact ⟨_, hE x r h, by simp [execOp, hop]⟩
  | pick c a b =>
    rw [hop] at h
    simp only at h
    split at h
    · rename_i t hc
      have := hE c _ hc
      simp only [SV.conc, Option.some.injEq] at this
      cases t with
      | true => exact ⟨_, hE a r h, by simp [execOp, hop, ← this, asBool]⟩
      | false => exact ⟨_, hE b r h, by simp [execOp, hop, ← this, asBool]⟩
    · cases h
  | extract x i =>
    rw [hop] at h
    obtain ⟨s, hs, h⟩ := obind h
    obtain ⟨u, hu, hr⟩ := nthS_ok (P := P) h (hE x s hs) w
    exact ⟨u, hu, by simp [execOp, hop, hr]⟩
  | nilCheck x =>
    rw [hop] at h
    obtain ⟨s, hs, h⟩ := obind h
    exact run_nilCheck hop h (hE x s hs) w
  | fieldAddr t x f =>
    rw [hop] at h
    obtain ⟨s, hs, h⟩ := obind h
    obtain ⟨u, hu, hr⟩ := fieldAddrS_ok h (hE x s hs) w
    exact ⟨u, hu, by simp [execOp, hop, hr]⟩
  | indexAddr t x i =>
    rw [hop] at h
    obtain ⟨n, hn, h⟩ := obind h
    obtain ⟨s, hs, h⟩ := obind h
    obtain ⟨k, hk⟩ := hE.nat hn
    obtain ⟨u, hu, hr⟩ := indexAddrS_ok (k := k) h (hE x s hs) w
    exact ⟨u, hu, by simp [execOp, hop, hk, hr]⟩
  | load t x =>
    rw [hop] at h
    simp only at h
    split at h
    · rename_i b off hx
      obtain ⟨y, hy, hv⟩ := conc_ptr (hE x _ hx)
      obtain ⟨u, hu, hr⟩ := loadS_ok hS h hy
      exact ⟨u, hu, by simp [execOp, hop, hv, Instr.loadAt, Instr.sureAddr, hr]⟩
    · cases h
  | field t x f =>
    rw [hop] at h
    simp only at h
    split at h
    · rename_i l hx
      obtain ⟨vs, hl, hv⟩ := conc_agg (hE x _ hx)
      obtain ⟨u, hu, hr⟩ := fieldS_ok h hl w
      exact ⟨u, hu, by simp [execOp, hop, hv, hr]⟩
    · cases h
  | makeInterface t x =>
    rw [hop] at h
    obtain ⟨s, hs, h⟩ := obind h
    obtain ⟨u, hu, hr⟩ := ifaceS_ok h (hE x s hs) w
    exact ⟨u, hu, by simp [execOp, hop, hr]⟩
  | makeFunc f a b =>
    rw [hop] at h
    obtain ⟨s, hs, h⟩ := obind h
    simp only [Option.map_eq_some_iff] at h
    obtain ⟨s2, hs2, rfl⟩ := h
    have h1 := hE.list _ _ hs
    have h2 := hE.list _ _ hs2
    refine ⟨.func f (a.map ev) (b.map ev), ?_, by simp [execOp, hop, Instr.makeFunc]⟩
    simp only [SV.conc, h1, h2]
    congr 2 <;> (apply Array.ext'; simp)
  | build t parts =>
    rw [hop] at h
    obtain ⟨s, hs, h⟩ := obind h
    have h1 := hE.parts _ _ hs
    obtain ⟨u, hu, hr⟩ := buildS_ok (qs := parts.map fun x => (x.1, ev x.2)) h (by simpa using h1) w
    exact ⟨u, hu, by simp [execOp, hop, hr]⟩
  | lookup t m k ok =>
    rw [hop] at h
    obtain ⟨kv, hk, h⟩ := obind h
    obtain ⟨s, hs, h⟩ := obind h
    obtain ⟨u, hu, hr⟩ := lookupS_ok hS h (hE m s hs)
    exact ⟨u, hu, by simp [execOp, hop, hE.lit hk, hr]⟩
  | slice t x lo hi mx =>
    rw [hop] at h
    obtain ⟨s, hs, h⟩ := obind h
    obtain ⟨u, hu, hr⟩ := sliceS_ok hS hE h (hE x s hs)
    exact ⟨u, hu, by simp [execOp, hop, hr]⟩
  | binOp op t x y yt =>
    rw [hop] at h
    obtain ⟨a, ha, h⟩ := obind h
    obtain ⟨b, hb, h⟩ := obind h
    exact nilTest_ok hop h (hE x a ha) (hE y b hb) w
  | call c =>
    rw [hop] at h
    simp only [lenCall] at h
    obtain ⟨callee, args, ts⟩ := c
    cases callee with
    | builtin b =>
      simp only at h
      cases b with
      | len =>
        simp only at h
        obtain ⟨tl⟩ := ts
        obtain ⟨al⟩ := args
        cases tl with
        | nil => cases h
        | cons t tl =>
          simp only at h
          cases al with
          | nil => cases h
          | cons x al =>
            cases al with
            | cons _ _ => cases h
            | nil =>
              obtain ⟨s, hs, h⟩ := obind h
              obtain ⟨u, hu, hr⟩ := lenS_ok (ts := ⟨t :: tl⟩) (ty := o.type) (by simp) hS h (hE x s hs)
              exact ⟨u, hu, by simp [execOp, hop, resolve, invoke, Go.builtin, hr]⟩
      | _ => cases h
    | _ => cases h
  | convert s t x =>
    rw [hop] at h
    obtain ⟨q, hq, h⟩ := obind h
    obtain ⟨u, hu, hr⟩ := strOfS_ok hS h (hE x q hq)
    exact ⟨u, hu, by simp [execOp, hop, hr]⟩
  | entry it =>
    rw [hop] at h
    obtain ⟨q, hq, h⟩ := obind h
    obtain ⟨u, hu, hr⟩ := entryS_ok (P := P) hS h (hE it q hq)
    exact ⟨u, hu, by simp [execOp, hop, hr]⟩
  | _ => rw [hop] at h; cases h

/-- An operation with no memory in it. -/
theorem pureOp_ok {o : Oper} {r : SV} (hE : EvRel e T ev) (h : pureOp P T o = some r) (w : World) : ∃ u, r.conc e = some u ∧ (execOp ev o).run P w = .ok (.value u) w := by
  unfold pureOp at h
  cases hb : (pureKind o.op && litOps T o.op.operands.toList) with
  | false => rw [hb] at h; cases h
  | true =>
    rw [hb] at h
    simp only [cond_true] at h
    rw [Bool.and_eq_true] at hb
    have hl : ∀ l : List Operand, litOps T l = true → ∀ x ∈ l, ev x = litEval T x := by
      intro l
      induction l with
      | nil => intro _ x hx; cases hx
      | cons y l ih =>
        intro hl x hx
        simp only [litOps, Bool.and_eq_true] at hl
        rcases List.mem_cons.1 hx with rfl | hx
        · cases hk : litS T x with
          | none => rw [hk] at hl; simp at hl
          | some v => simp [litEval, hk, hE.lit hk]
        · exact ih hl.2 x hx
    have hc := execOp_congr (ρ := ev) (ρ' := litEval T) o (by
      intro cs b hop
      rw [hop] at hb
      simp [pureKind] at hb) (fun x hx => hl _ hb.2 x (by simpa using hx))
    split at h
    · rename_i v hp
      simp only [Option.some.injEq] at h
      subst h
      exact ⟨v, rfl, by rw [hc]; exact pureRun_run _ _ hp w⟩
    · cases h
end
end Go.Ex
