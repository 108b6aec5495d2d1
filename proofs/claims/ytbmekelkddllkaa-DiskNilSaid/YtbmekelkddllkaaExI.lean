/-
  The machine of names: iterations; every operation. Over any program.
-/
import Derived.Test.YtbmekelkddllkaaExH
namespace Go.Ex
open Go Go.Sl Go.RowKit

section
variable {P : Program} {B : Nat} {w0 w : World} {e : Env} {H : Heap} {nx : Nat} {T : Tr SV} {ev : Operand → Value}

theorem run_getObj_any {r : Nat} {o : Obj} (h : w.heap[r]? = some o) (hn : ∀ c t fz, o ≠ .cells c t fz) : (getObj r).run P w = .ok o w := by
  cases o <;> first
    | exact absurd rfl (hn _ _ _)
    | simp [getObj, Sem.run, h]
theorem run_setObj_any {r : Nat} {o : Obj} (o' : Obj) (h : w.heap[r]? = some o) (hn : ∀ c t fz, o ≠ .cells c t fz) : (setObj r o').run P w = .ok () { w with heap := w.heap.setIfInBounds r o' } := by
  cases o <;> first
    | exact absurd rfl (hn _ _ _)
    | simp [setObj, Sem.run, h]

theorem MRel.filter (f : Nat → Bool) : ∀ {l : List (Value × SV × Nat)} {ms : List MapEntry}, MRel e l ms → MRel e (l.filter fun x => f x.2.2) (ms.filter fun m => f m.born)
  | [], [], _ => trivial
  | (k, s, b) :: l, m :: ms, h => by
    obtain ⟨h1, h2, h3, h4⟩ := h
    simp only [List.filter_cons]
    rw [h2]
    cases hb : f b with
    | true => simp only [if_true]; exact ⟨h1, h2, h3, MRel.filter f h4⟩
    | false => simp only [Bool.false_eq_true, if_false]; exact MRel.filter f h4
  | [], _ :: _, h => h.elim
  | (_, _, _) :: _, [], h => by simp [MRel] at h
theorem MRel.app : ∀ {l l' : List (Value × SV × Nat)} {ms ms' : List MapEntry}, MRel e l ms → MRel e l' ms' → MRel e (l ++ l') (ms ++ ms')
  | [], l', [], ms', _, h' => h'
  | (k, s, b) :: l, l', m :: ms, ms', h, h' => ⟨h.1, h.2.1, h.2.2.1, MRel.app h.2.2.2 h'⟩
  | [], _, _ :: _, _, h, _ => h.elim
  | (_, _, _) :: _, _, [], _, h, _ => by simp [MRel] at h
theorem MRel.back : ∀ {l : List (Value × SV × Nat)} {ms : List MapEntry}, MRel e l ms → ∀ {i : Nat} {m : MapEntry}, ms[i]? = some m → ∃ s, l[i]? = some (m.key, s, m.born) ∧ s.conc e = some m.val
  | [], [], _, i, m, hg => by simp at hg
  | (k, s, b) :: l, m' :: ms, h, 0, m, hg => by
    simp only [List.getElem?_cons_zero, Option.some.injEq] at hg
    subst hg
    exact ⟨s, by rw [h.1, h.2.1]; rfl, h.2.2.1⟩
  | (k, s, b) :: l, m' :: ms, h, i + 1, m, hg => by simpa using MRel.back h.2.2.2 (i := i) (by simpa using hg)
  | [], _ :: _, h, _, _, _ => h.elim
  | (_, _, _) :: _, [], h, _, _, _ => by simp [MRel] at h
theorem MRel.all (f : Nat → Bool) : ∀ {l : List (Value × SV × Nat)} {ms : List MapEntry}, MRel e l ms → (l.all fun x => f x.2.2) = ms.all fun m => f m.born
  | [], [], _ => rfl
  | (k, s, b) :: l, m :: ms, h => by simp only [List.all_cons, h.2.1, MRel.all f h.2.2.2]
  | [], _ :: _, h => h.elim
  | (_, _, _) :: _, [], h => by simp [MRel] at h
theorem MRel.empty : ∀ {l : List (Value × SV × Nat)} {ms : List MapEntry}, MRel e l ms → l.isEmpty = ms.isEmpty
  | [], [], _ => rfl
  | (k, s, b) :: l, m :: ms, h => rfl
  | [], _ :: _, h => h.elim
  | (_, _, _) :: _, [], h => by simp [MRel] at h

theorem run_choose_lt (n : Nat) (hn : 0 < n) (hS : St B w0 e H nx w) : ∃ i w1, i < n ∧ (choose (.mapNext n)).run P w = .ok i w1 ∧ w1.heap = w.heap ∧ St B w0 e H nx w1 := by
  by_cases h1 : n ≤ 1
  · exact ⟨0, w, hn, by simp [Question.forced, h1], rfl, hS⟩
  · exact ⟨w.tape w.drawn (.mapNext n) % n, { w with drawn := w.drawn + 1 }, Nat.mod_lt _ hn, by simp [Question.forced, h1, Question.cut], rfl, hS.drew⟩

theorem ge_eq_ble (a b : Nat) : decide (a ≥ b) = Nat.ble b a := by
  cases h : Nat.ble b a with
  | true => exact decide_eq_true (le_of_ble h)
  | false =>
    apply decide_eq_false
    intro hc
    have := Nat.ble_eq_true_of_le hc
    rw [this] at h
    cases h
theorem lt_eq_blt (a b : Nat) : decide (a < b) = Nat.blt a b := by
  cases h : Nat.blt a b with
  | true => exact decide_eq_true (lt_of_blt h)
  | false =>
    apply decide_eq_false
    intro hc
    have : Nat.blt a b = true := Nat.ble_eq_true_of_le hc
    rw [this] at h
    cases h

/-- An iteration's step: one of those that there may be. -/
theorem nextOp_ok {o : Oper} {outs : List Out} (hS : St B w0 e H nx w) (hE : EvRel e T ev) (h : nextOp T H nx o = some outs) : ∃ out, out ∈ outs ∧ Does P B w0 e out ((execOp ev o).run P w) := by
  unfold nextOp at h
  cases hop : o.op with
  | next it isString =>
    rw [hop] at h
    simp only at h
    split at h
    · rename_i r hit
      obtain ⟨y, hy, hv⟩ := conc_ptr (hE it _ hit)
      cases hr : H.at' r with
      | none => rw [hr] at h; cases h
      | some vo =>
        obtain ⟨ob, _, hw, ho⟩ := hS.at hr hy
        rw [hr] at h
        cases vo with
        | siter s pos =>
          cases isString with
          | false => cases h
          | true =>
            obtain ⟨h0, rfl⟩ := ho
            have hg := run_getObj_any (P := P) hw (by simp)
            rw [h0, Nat.add_zero] at hv
            simp only at h
            cases hb : Nat.blt pos s.size with
            | true =>
              rw [hb] at h
              simp only [cond_true, Option.some.injEq] at h
              subst h
              have hlt := lt_of_blt hb
              refine ⟨_, List.mem_cons_self .., e, _, Env.le_refl e, hS.upd (o' := .stringIter s (pos + (Utf8.decode s pos).2)) hr hy (turned_setObj y.blk _) (set_heap_same hw) ⟨h0, rfl⟩, _, rfl, ?_⟩
              simp [execOp, hop, hv, Instr.next, hg, hlt, run_setObj_any _ hw]
            | false =>
              rw [hb] at h
              simp only [cond_false, Option.some.injEq] at h
              subst h
              have hlt : ¬ pos < s.size := by
                intro hc
                have : Nat.blt pos s.size = true := Nat.ble_eq_true_of_le hc
                rw [this] at hb; cases hb
              refine ⟨_, List.mem_cons_self .., e, w, Env.le_refl e, hS, _, rfl, ?_⟩
              simp [execOp, hop, hv, Instr.next, hg, hlt]
        | iter m since seen last =>
          cases isString with
          | true => cases m <;> cases h
          | false =>
            cases m with
            | none =>
              obtain ⟨h0, rfl⟩ := ho
              have hg := run_getObj_any (P := P) hw (by simp)
              rw [h0, Nat.add_zero] at hv
              simp only [Option.some.injEq] at h
              subst h
              refine ⟨_, List.mem_cons_self .., e, w, Env.le_refl e, hS, _, rfl, ?_⟩
              simp [execOp, hop, hv, Instr.next, hg]
            | some m =>
              obtain ⟨h0, z, hz, rfl⟩ := ho
              have hg := run_getObj_any (P := P) hw (by simp)
              rw [h0, Nat.add_zero] at hv
              simp only at h
              cases hm : H.at' m with
              | none => rw [hm] at h; cases h
              | some vm =>
                rw [hm] at h
                cases vm with
                | map l clock =>
                  simp only at h
                  obtain ⟨om, _, hwm, hom⟩ := hS.at hm hz
                  obtain ⟨es, rfl, hmr⟩ := hom
                  obtain ⟨ms, rfl⟩ : ∃ ms : List MapEntry, es = ms.toArray := ⟨es.toList, by simp⟩
                  simp only at hmr
                  have hgm := run_getObj_any (P := P) hwm (by simp)
                  cases hbad : (!seen.isEmpty && !l.isEmpty && l.all (fun x => Nat.ble last x.2.2)) with
                  | true => rw [hbad] at h; cases h
                  | false =>
                    rw [hbad] at h
                    simp only [cond_false, Option.some.injEq] at h
                    have hall := hmr.all (fun b => Nat.ble last b)
                    have hemp := hmr.empty
                    have hbad' : (!seen.toArray.isEmpty && !ms.toArray.isEmpty && ms.toArray.all (fun x => decide (x.born ≥ last))) = false := by
                      rw [← hbad]
                      simp only [List.isEmpty_toArray, List.all_toArray, hemp, hall, ge_eq_ble]
                    have hleft := hmr.filter (fun b => !seen.contains b)
                    have hold := hleft.filter (fun b => Nat.blt b since)
                    have hnew := hleft.filter (fun b => Nat.ble since b)
                    have hcat := hold.app hnew
                    generalize hL : ((l.filter fun x => !seen.contains x.2.2).filter fun x => Nat.blt x.2.2 since) = Lo at *
                    generalize hN : ((l.filter fun x => !seen.contains x.2.2).filter fun x => Nat.ble since x.2.2) = Ln at *
                    generalize hMo : ((ms.filter fun m => !seen.contains m.born).filter fun m => Nat.blt m.born since) = Mo at *
                    generalize hMn : ((ms.filter fun m => !seen.contains m.born).filter fun m => Nat.ble since m.born) = Mn at *
                    have hoe := hold.empty
                    have hcand : 0 < (((if Mo.isEmpty = true then [none] else []) ++ (Mo ++ Mn).map some : List (Option MapEntry))).length := by
                      cases Mo with
                      | nil => simp
                      | cons a b => simp
                    obtain ⟨i, w1, hi, hch, hheap, hS1⟩ := run_choose_lt (P := P) _ hcand hS
                    have hw1 : w1.heap[y.blk]? = some (.mapIter (some z.blk) since seen.toArray last) := by rw [hheap]; exact hw
                    have hfo : (ms.filter fun e => !seen.toArray.contains e.born).filter (fun e => decide (e.born < since)) = Mo := by
                      rw [← hMo]
                      simp [lt_eq_blt]
                    have hfn : (ms.filter fun e => !seen.toArray.contains e.born).filter (fun e => decide (e.born ≥ since)) = Mn := by
                      rw [← hMn]
                      simp [ge_eq_ble]
                    have hcanda : ((if (Array.filter (fun e => decide (e.born < since)) (Array.filter (fun e => !seen.toArray.contains e.born) ms.toArray)).isEmpty = true then #[none] else #[]) ++
                        Array.map some (Array.filter (fun e => decide (e.born < since)) (Array.filter (fun e => !seen.toArray.contains e.born) ms.toArray) ++ Array.filter (fun e => decide (e.born ≥ since)) (Array.filter (fun e => !seen.toArray.contains e.born) ms.toArray)) : Array (Option MapEntry)) =
                        (((if Mo.isEmpty = true then [none] else []) ++ (Mo ++ Mn).map some : List (Option MapEntry))).toArray := by
                      simp only [List.filter_toArray, hfo, hfn]
                      cases Mo <;> simp
                    obtain ⟨c, hc⟩ : ∃ c, (((if Mo.isEmpty = true then [none] else []) ++ (Mo ++ Mn).map some : List (Option MapEntry)))[i]? = some c := ⟨_, List.getElem?_eq_getElem hi⟩
                    have hnext : ∀ res : Result Next, (match c with
                        | some x => res = .ok (.value (.tuple #[.bool true, x.key, x.val])) { w1 with heap := w1.heap.setIfInBounds y.blk (.mapIter (some z.blk) since (seen.toArray.push x.born) clock) }
                        | none => res = .ok (.value (.tuple #[.bool false])) w1) → ∃ out, out ∈ outs ∧ Does P B w0 e out res := by
                      intro res hres
                      cases c with
                      | none =>
                        simp only at hres
                        cases Mo with
                        | cons a b =>
                          exfalso
                          simp only [List.isEmpty_cons, Bool.false_eq_true, if_false, List.nil_append] at hc
                          rw [List.getElem?_map, Option.map_eq_some_iff] at hc
                          obtain ⟨_, _, hc⟩ := hc
                          cases hc
                        | nil =>
                          have : Lo.isEmpty = true := hoe
                          refine ⟨(.val (.sc (.tuple #[.bool false])), H, nx), ?_, e, w1, Env.le_refl e, hS1, _, rfl, hres⟩
                          rw [← h, this]
                          simp
                      | some x =>
                        simp only at hres
                        obtain ⟨j, hj⟩ : ∃ j, (Mo ++ Mn)[j]? = some x := by
                          have : x ∈ Mo ++ Mn := by
                            have hmem := List.mem_of_getElem? hc
                            rcases List.mem_append.1 hmem with hmem | hmem
                            · cases Mo <;> simp at hmem
                            · obtain ⟨x', hx', he⟩ := List.mem_map.1 hmem
                              simp only [Option.some.injEq] at he
                              subst he
                              exact hx'
                          exact List.mem_iff_getElem?.1 this
                        obtain ⟨s, hs1, hs2⟩ := hcat.back hj
                        refine ⟨(.val (.tup [.sc (.bool true), .sc x.key, s]), H.set r (.iter (some m) since (seen ++ [x.born]) clock), nx), ?_, e, _, Env.le_refl e,
                          hS1.upd (o' := .mapIter (some z.blk) since (seen.toArray.push x.born) clock) hr hy (turned_setObj y.blk _) (set_heap_same hw1) ⟨h0, z, hz, by simp⟩, _, by simp [SV.conc, SV.concL, hs2], hres⟩
                        rw [← h]
                        refine List.mem_append_right _ (List.mem_map.2 ⟨_, List.mem_of_getElem? hs1, rfl⟩)
                    refine hnext _ ?_
                    have hs1 := fun o' => run_setObj_any (P := P) o' hw1 (by simp)
                    have hcm : (Sem.run P (Instr.next (.pointer (some ⟨y.blk, 0, none⟩)) false o.type) w) = (match c with
                        | some x => .ok (.tuple #[.bool true, x.key, x.val]) { w1 with heap := w1.heap.setIfInBounds y.blk (.mapIter (some z.blk) since (seen.toArray.push x.born) clock) }
                        | none => .ok (.tuple #[.bool false]) w1) := by
                      simp only [Instr.next, Sem.run_bind, hg, Result.andThen, hgm, hbad', Bool.false_eq_true, if_false, Sem.run_pure]
                      rw [hcanda]
                      simp only [List.size_toArray, hch, Result.andThen, List.getElem?_toArray, hc]
                      cases c with
                      | none => simp
                      | some x => simp [hs1]
                    cases c with
                    | none => simp only at hcm ⊢; simp [execOp, hop, hv, hcm]
                    | some x => simp only at hcm ⊢; simp [execOp, hop, hv, hcm]
                | _ => cases h
        | _ => cases h
    · cases h
  | _ => rw [hop] at h; cases h

theorem anyOp_ok {o : Oper} {outs : List Out} (hS : St B w0 e H nx w) (hE : EvRel e T ev) (h : anyOp P T H nx o = some outs) : ∃ out, out ∈ outs ∧ Does P B w0 e out ((execOp ev o).run P w) := by
  unfold anyOp at h
  cases hr : readOp P T H o with
  | some v =>
    rw [hr] at h
    simp only [Option.some.injEq] at h
    subst h
    obtain ⟨u, hu, hrun⟩ := readOp_ok hS hE hr
    exact ⟨_, List.mem_cons_self .., e, w, Env.le_refl e, hS, u, hu, hrun⟩
  | none =>
    rw [hr] at h
    simp only at h
    cases hp : pureOp P T o with
    | some v =>
      rw [hp] at h
      simp only [Option.some.injEq] at h
      subst h
      obtain ⟨u, hu, hrun⟩ := pureOp_ok hE hp w
      exact ⟨_, List.mem_cons_self .., e, w, Env.le_refl e, hS, u, hu, hrun⟩
    | none =>
      rw [hp] at h
      simp only at h
      cases he : effOp P T H nx o with
      | some r =>
        rw [he] at h
        simp only [Option.some.injEq] at h
        subst h
        exact ⟨_, List.mem_cons_self .., effOp_ok hS hE he⟩
      | none =>
        rw [he] at h
        exact nextOp_ok hS hE h
end
end Go.Ex
