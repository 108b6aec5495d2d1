/-
  Texts of the proof, merged: Q8 Q9 Q10 Q11 SyLp Q12 Q13 Q14 Qe Q15 Q16 Qp SyIf Q17 SyNew SyNil.
-/
import Derived.Laws.StructEq
import Derived.Sort.LotD5
import Derived.Test.YtfkfiafohcoomaaG3
set_option linter.unusedVariables false
set_option linter.unusedSimpArgs false
section
namespace Go.Proofs.Ytfkfiafohcoomaa
open Go Go.Sy
theorem siftDown_size (lt : Int × Int → Int × Int → Bool) (hi first root : Nat) (d : Array (Int × Int)) : (Sort.siftDown lt hi first root d).size = d.size := by
  induction h : hi - root using Nat.strongRecOn generalizing root d with
  | _ m ih =>
    subst h
    unfold Sort.siftDown
    split
    · rfl
    · split
      · split
        · rfl
        · split
          · rw [ih _ (by omega) _ _ rfl, swp_size]
          · rfl
      · split
        · rfl
        · rw [ih _ (by omega) _ _ rfl, swp_size]
theorem sift_stop {lt : Int × Int → Int × Int → Bool} {hi first root : Nat} {d : Array (Int × Int)} (h : hi ≤ 2 * root + 1) : Sort.siftDown lt hi first root d = d := by
  unfold Sort.siftDown
  rw [dif_pos h]
theorem sift_r {lt : Int × Int → Int × Int → Bool} {hi first root : Nat} {d : Array (Int × Int)} (h : 2 * root + 2 < hi) (hl : lt d[first + (2 * root + 1)]! d[first + (2 * root + 2)]! = true) :
    Sort.siftDown lt hi first root d = if lt d[first + root]! d[first + (2 * root + 2)]! = true then Sort.siftDown lt hi first (2 * root + 2) (Sort.swp d (first + root) (first + (2 * root + 2))) else d := by
  conv => lhs; unfold Sort.siftDown
  rw [dif_neg (by omega), if_pos (by simp only [Bool.and_eq_true, decide_eq_true_eq]; exact ⟨by omega, hl⟩)]
  cases lt d[first + root]! d[first + (2 * root + 2)]!
  · simp
  · simp only [Bool.not_true, Bool.false_eq_true, if_false, if_true]
    rw [dif_pos (by omega)]
theorem sift_l {lt : Int × Int → Int × Int → Bool} {hi first root : Nat} {d : Array (Int × Int)} (h : 2 * root + 1 < hi) (hl : hi ≤ 2 * root + 2 ∨ lt d[first + (2 * root + 1)]! d[first + (2 * root + 2)]! = false) :
    Sort.siftDown lt hi first root d = if lt d[first + root]! d[first + (2 * root + 1)]! = true then Sort.siftDown lt hi first (2 * root + 1) (Sort.swp d (first + root) (first + (2 * root + 1))) else d := by
  conv => lhs; unfold Sort.siftDown
  rw [dif_neg (by omega), if_neg (by
    simp only [Bool.and_eq_true, decide_eq_true_eq]
    rintro ⟨h1, h2⟩
    rcases hl with hl | hl
    · omega
    · rw [show first + (2 * root + 2) = first + (2 * root + 1) + 1 by omega, h2] at hl; cases hl)]
  cases lt d[first + root]! d[first + (2 * root + 1)]! <;> simp
set_option maxRecDepth 100000 in
set_option maxHeartbeats 0 in
theorem sift_spec (n lo hi first : Nat) (d : Array (Int × Int)) (hn : n < 4611686018427387904) (hd : d.size = n) (hf : first + hi ≤ n) (hlo : lo ≤ n) :
    Ctr Try.prog 66 [.slu 0 0 n, .sc (.int .i64 (lo : Int)), .sc (.int .i64 (hi : Int)), .sc (.int .i64 (first : Int)), cmpF] [rowP n d] (fun c => c = ⟨.tup [], [some (rowP n (Sort.siftDown ltP hi first lo d))]⟩) := by
  refine Fnc.start Try.func66 rfl rfl ?_
  (repeat (first | refine y_seq ?_ | refine w_region ?_ | refine y_regEnd ?_ | refine y_block ?_ | refine w_move rfl rfl rfl ?_ | refine w_assign rfl rfl rfl ?_))
  refine y_loopC 1 (fun s : Nat × Array (Int × Int) => [(0, .slu 0 0 n), (2, .sc (.int .i64 (hi : Int))), (3, .sc (.int .i64 (first : Int))), (4, cmpF), (10, .sc (.int .i64 (s.1 : Int)))]) (fun s => [some (rowP n s.2)]) (fun s => s.1 ≤ n ∧ s.2.size = n ∧ Sort.siftDown ltP hi first s.1 s.2 = Sort.siftDown ltP hi first lo d) (fun s => n - s.1) (lo, d) []
    (fun _ => rfl) ⟨hlo, hd, rfl⟩ ?_ (fun _ => rfl) (fun _ => rfl) ?_
  · (refine ⟨(ExtOk.of rfl), rfl, (by repeat (first | exact trivial | refine ⟨rfl, ?_⟩)), (by repeat (first | exact trivial | refine ⟨at_dat rfl, ?_⟩))⟩)
  rintro ⟨r, d1⟩ ⟨hr, hd1, ho⟩ ih
  simp only at hr hd1 ho ih ⊢
  (repeat (first | refine y_seq ?_ | refine w_region ?_ | refine y_regEnd ?_ | refine y_block ?_ | refine w_move rfl rfl rfl ?_ | refine w_assign rfl rfl rfl ?_ | refine w_add rfl rfl rfl rfl (by omega) (by omega) ?_ | refine w_mul rfl rfl rfl rfl (by omega) (by omega) ?_))
  refine w_geqS rfl rfl rfl rfl ?_ ?_
  all_goals intro h1
  · (repeat (first | refine y_regEnd ?_ | refine y_exit rfl ?_ | refine y_condT rfl ?_))
    ((apply w_end Try.func66 (congrArg Array.toList Try.results66)); (focus (repeat (exact ResIs.nil))); refine ⟨_, rfl, Ends.mk [] (ExtOk.of rfl) rfl rfl ?_⟩)
    rw [← ho, sift_stop (by omega)]
    exact (by repeat (first | exact trivial | refine ⟨at_dat rfl, ?_⟩))
  · (repeat (first | refine y_seq ?_ | refine y_regEnd ?_ | refine y_skip ?_ | refine y_condF rfl ?_))
    refine w_draw (by kernel_rfl) (by kernel_rfl) ?_
    (repeat (first | refine dw_move rfl rfl rfl ?_ | refine dw_add rfl rfl rfl rfl (by omega) (by omega) ?_))
    refine dw_lssS rfl rfl rfl rfl ?_ ?_
    all_goals intro h2
    · (repeat (first | refine dw_move rfl rfl rfl ?_ | refine dw_add rfl rfl rfl rfl (by omega) (by omega) ?_ | refine dw_ldR rfl rfl rfl (F.ag _ rfl) (recP) rfl (by first | omega | (simp only [Array.size_setIfInBounds, swp_size]; omega)) (by first | omega | (simp only [Array.size_setIfInBounds, swp_size]; omega)) ?_ | refine dw_idxN (q := first + (2 * r + 1)) rfl rfl rfl rfl (F.un _ rfl) (F.sz _ rfl) rfl (by omega) (by omega) (by omega) ?_ | refine dw_idxN (q := first + (2 * r + 2)) rfl rfl rfl rfl (F.un _ rfl) (F.sz _ rfl) rfl (by omega) (by omega) (by omega) ?_ | refine dk_callF rfl rfl rfl rfl (by kernel_rfl) rfl (Ctr.callV (cmp_spec d1[first + (2 * r + 1)]! d1[first + (2 * r + 2)]!) [] rfl (ExtOk.of rfl) rfl trivial rfl) ?_))
      refine dw_lssS rfl rfl rfl rfl ?_ ?_
      all_goals intro h3
      · have e := sift_r (lt := ltP) (hi := hi) (first := first) (root := r) (d := d1) (by omega) (by simpa [ltP] using h3)
        (repeat (refine dw_pickT rfl rfl rfl rfl ?_))
        (refine dk_nil ?_); (refine ⟨by kernel_rfl, ?_, ?_⟩); (focus (repeat (first | exact trivial | refine ⟨.inl rfl, ?_⟩ | refine ⟨.inr (by (repeat (refine ⟨(by first | exact rd_idxN (F.un _ rfl) (F.sz _ rfl) rfl rfl rfl (by omega) (by omega) (by omega) | exact rd_arith rfl rfl (.inl ⟨rfl, (Go.IntWalk.i64_in _ ⟨by omega, by omega⟩).symm⟩) | exact rd_arith rfl rfl (.inr (.inl ⟨rfl, (Go.IntWalk.i64_in _ ⟨by omega, by omega⟩).symm⟩)) | exact rd_fieldAddr (F.fo _ _ rfl rfl) rfl | exact rd_move rfl | exact rd_assign rfl | exact rd_load1 (F.ag _ rfl) rfl rfl (cell_box rfl) | exact rd_loadN (F.ag _ rfl) rfl rfl (cellsFrom_box _ 0 rfl rfl) | exact rd_extract rfl rfl | exact rd_lenSl (F.un _ rfl) rfl | exact rd_lenStr (F.un _ rfl) rfl | exact rd_nilCheck rfl | exact rd_pickT rfl rfl | exact rd_pickF rfl rfl), ?_⟩)); exact trivial), ?_⟩ | refine ⟨.inl (by kernel_rfl), ?_⟩)))
        (repeat (first | refine y_seq ?_ | refine w_region ?_ | refine y_regEnd ?_ | refine y_condT rfl ?_ | refine w_move rfl rfl rfl ?_ | refine w_assign rfl rfl rfl ?_ | refine w_add rfl rfl rfl rfl (by omega) (by omega) ?_))
        refine w_draw (by kernel_rfl) (by kernel_rfl) ?_
        (repeat (first | refine dw_move rfl rfl rfl ?_ | refine dw_add rfl rfl rfl rfl (by omega) (by omega) ?_ | refine dw_ldR rfl rfl rfl (F.ag _ rfl) (recP) rfl (by first | omega | (simp only [Array.size_setIfInBounds, swp_size]; omega)) (by first | omega | (simp only [Array.size_setIfInBounds, swp_size]; omega)) ?_ | refine dw_idxN (q := first + r) rfl rfl rfl rfl (F.un _ rfl) (F.sz _ rfl) rfl (by omega) (by omega) (by omega) ?_ | refine dw_idxN (q := first + (2 * r + 2)) rfl rfl rfl rfl (F.un _ rfl) (F.sz _ rfl) rfl (by omega) (by omega) (by omega) ?_ | refine dk_callF rfl rfl rfl rfl (by kernel_rfl) rfl (Ctr.callV (cmp_spec d1[first + r]! d1[first + (2 * r + 2)]!) [] rfl (ExtOk.of rfl) rfl trivial rfl) ?_))
        refine dw_lssS rfl rfl rfl rfl ?_ ?_
        all_goals intro h4
        · rw [if_pos (by simpa [ltP] using h4)] at e
          (repeat (refine dw_notB rfl rfl rfl ?_))
          (refine dk_nil ?_); (refine ⟨by kernel_rfl, ?_, ?_⟩); (focus (repeat (first | exact trivial | refine ⟨.inl rfl, ?_⟩ | refine ⟨.inr (by (repeat (refine ⟨(by first | exact rd_idxN (F.un _ rfl) (F.sz _ rfl) rfl rfl rfl (by omega) (by omega) (by omega) | exact rd_arith rfl rfl (.inl ⟨rfl, (Go.IntWalk.i64_in _ ⟨by omega, by omega⟩).symm⟩) | exact rd_arith rfl rfl (.inr (.inl ⟨rfl, (Go.IntWalk.i64_in _ ⟨by omega, by omega⟩).symm⟩)) | exact rd_fieldAddr (F.fo _ _ rfl rfl) rfl | exact rd_move rfl | exact rd_assign rfl | exact rd_load1 (F.ag _ rfl) rfl rfl (cell_box rfl) | exact rd_loadN (F.ag _ rfl) rfl rfl (cellsFrom_box _ 0 rfl rfl) | exact rd_extract rfl rfl | exact rd_lenSl (F.un _ rfl) rfl | exact rd_lenStr (F.un _ rfl) rfl | exact rd_nilCheck rfl | exact rd_pickT rfl rfl | exact rd_pickF rfl rfl), ?_⟩)); exact trivial), ?_⟩ | refine ⟨.inl (by kernel_rfl), ?_⟩)))
          (repeat (first | refine y_seq ?_ | refine y_skip ?_ | refine y_condF rfl ?_))
          refine w_draw (by kernel_rfl) (by kernel_rfl) ?_
          (repeat (first | refine dw_move rfl rfl rfl ?_ | refine dw_add rfl rfl rfl rfl (by omega) (by omega) ?_ | refine dw_ldR rfl rfl rfl (F.ag _ rfl) (recP) rfl (by first | omega | (simp only [Array.size_setIfInBounds, swp_size]; omega)) (by first | omega | (simp only [Array.size_setIfInBounds, swp_size]; omega)) ?_ | refine dw_stR rfl rfl rfl (recP) (F.sz _ rfl) rfl (by first | omega | (simp only [Array.size_setIfInBounds, swp_size]; omega)) (by first | omega | (simp only [Array.size_setIfInBounds, swp_size]; omega)) ?_ | refine dw_idxN (q := first + r) rfl rfl rfl rfl (F.un _ rfl) (F.sz _ rfl) rfl (by omega) (by omega) (by omega) ?_ | refine dw_idxN (q := first + (2 * r + 2)) rfl rfl rfl rfl (F.un _ rfl) (F.sz _ rfl) rfl (by omega) (by omega) (by omega) ?_))
          (refine dk_nil ?_); (refine ⟨by kernel_rfl, ?_, ?_⟩); (focus (repeat (first | exact trivial | refine ⟨.inl rfl, ?_⟩ | refine ⟨.inr (by (repeat (refine ⟨(by first | exact rd_idxN (F.un _ rfl) (F.sz _ rfl) rfl rfl rfl (by omega) (by omega) (by omega) | exact rd_arith rfl rfl (.inl ⟨rfl, (Go.IntWalk.i64_in _ ⟨by omega, by omega⟩).symm⟩) | exact rd_arith rfl rfl (.inr (.inl ⟨rfl, (Go.IntWalk.i64_in _ ⟨by omega, by omega⟩).symm⟩)) | exact rd_fieldAddr (F.fo _ _ rfl rfl) rfl | exact rd_move rfl | exact rd_assign rfl | exact rd_load1 (F.ag _ rfl) rfl rfl (cell_box rfl) | exact rd_loadN (F.ag _ rfl) rfl rfl (cellsFrom_box _ 0 rfl rfl) | exact rd_extract rfl rfl | exact rd_lenSl (F.un _ rfl) rfl | exact rd_lenStr (F.un _ rfl) rfl | exact rd_nilCheck rfl | exact rd_pickT rfl rfl | exact rd_pickF rfl rfl), ?_⟩)); exact trivial), ?_⟩ | refine ⟨.inl (by kernel_rfl), ?_⟩)))
          (repeat (first | refine w_region ?_ | refine y_regEnd ?_ | refine y_inBlock ?_ | refine w_move rfl rfl rfl ?_ | refine w_assign rfl rfl rfl ?_))
          refine ih _ _ _ (2 * r + 2, Sort.swp d1 (first + r) (first + (2 * r + 2))) [] ⟨by simp only; omega, by rw [swp_size]; exact hd1, by rw [← ho, e]⟩ (by simp only; omega) ?_
          (refine ⟨(ExtOk.of rfl), rfl, (by repeat (first | exact trivial | refine ⟨rfl, ?_⟩)), (by repeat (first | exact trivial | refine ⟨at_dat rfl, ?_⟩))⟩)
        · rw [if_neg (by simpa [ltP] using h4)] at e
          (repeat (refine dw_notB rfl rfl rfl ?_))
          (refine dk_nil ?_); (refine ⟨by kernel_rfl, ?_, ?_⟩); (focus (repeat (first | exact trivial | refine ⟨.inl rfl, ?_⟩ | refine ⟨.inr (by (repeat (refine ⟨(by first | exact rd_idxN (F.un _ rfl) (F.sz _ rfl) rfl rfl rfl (by omega) (by omega) (by omega) | exact rd_arith rfl rfl (.inl ⟨rfl, (Go.IntWalk.i64_in _ ⟨by omega, by omega⟩).symm⟩) | exact rd_arith rfl rfl (.inr (.inl ⟨rfl, (Go.IntWalk.i64_in _ ⟨by omega, by omega⟩).symm⟩)) | exact rd_fieldAddr (F.fo _ _ rfl rfl) rfl | exact rd_move rfl | exact rd_assign rfl | exact rd_load1 (F.ag _ rfl) rfl rfl (cell_box rfl) | exact rd_loadN (F.ag _ rfl) rfl rfl (cellsFrom_box _ 0 rfl rfl) | exact rd_extract rfl rfl | exact rd_lenSl (F.un _ rfl) rfl | exact rd_lenStr (F.un _ rfl) rfl | exact rd_nilCheck rfl | exact rd_pickT rfl rfl | exact rd_pickF rfl rfl), ?_⟩)); exact trivial), ?_⟩ | refine ⟨.inl (by kernel_rfl), ?_⟩)))
          (repeat (refine y_condT rfl ?_))
          ((apply w_ret Try.func66 (congrArg Array.toList Try.results66)); (focus (repeat (exact ResIs.nil))); refine ⟨_, rfl, Ends.mk [] (ExtOk.of rfl) rfl rfl ?_⟩)
          rw [← ho, e]
          exact (by repeat (first | exact trivial | refine ⟨at_dat rfl, ?_⟩))
      · have e := sift_l (lt := ltP) (hi := hi) (first := first) (root := r) (d := d1) (by omega) (.inr (by simpa [ltP] using h3))
        (repeat (refine dw_pickT rfl rfl rfl rfl ?_))
        (refine dk_nil ?_); (refine ⟨by kernel_rfl, ?_, ?_⟩); (focus (repeat (first | exact trivial | refine ⟨.inl rfl, ?_⟩ | refine ⟨.inr (by (repeat (refine ⟨(by first | exact rd_idxN (F.un _ rfl) (F.sz _ rfl) rfl rfl rfl (by omega) (by omega) (by omega) | exact rd_arith rfl rfl (.inl ⟨rfl, (Go.IntWalk.i64_in _ ⟨by omega, by omega⟩).symm⟩) | exact rd_arith rfl rfl (.inr (.inl ⟨rfl, (Go.IntWalk.i64_in _ ⟨by omega, by omega⟩).symm⟩)) | exact rd_fieldAddr (F.fo _ _ rfl rfl) rfl | exact rd_move rfl | exact rd_assign rfl | exact rd_load1 (F.ag _ rfl) rfl rfl (cell_box rfl) | exact rd_loadN (F.ag _ rfl) rfl rfl (cellsFrom_box _ 0 rfl rfl) | exact rd_extract rfl rfl | exact rd_lenSl (F.un _ rfl) rfl | exact rd_lenStr (F.un _ rfl) rfl | exact rd_nilCheck rfl | exact rd_pickT rfl rfl | exact rd_pickF rfl rfl), ?_⟩)); exact trivial), ?_⟩ | refine ⟨.inl (by kernel_rfl), ?_⟩)))
        (repeat (first | refine y_seq ?_ | refine y_skip ?_ | refine y_condF rfl ?_))
        refine w_draw (by kernel_rfl) (by kernel_rfl) ?_
        (repeat (first | refine dw_move rfl rfl rfl ?_ | refine dw_add rfl rfl rfl rfl (by omega) (by omega) ?_ | refine dw_ldR rfl rfl rfl (F.ag _ rfl) (recP) rfl (by first | omega | (simp only [Array.size_setIfInBounds, swp_size]; omega)) (by first | omega | (simp only [Array.size_setIfInBounds, swp_size]; omega)) ?_ | refine dw_idxN (q := first + r) rfl rfl rfl rfl (F.un _ rfl) (F.sz _ rfl) rfl (by omega) (by omega) (by omega) ?_ | refine dw_idxN (q := first + (2 * r + 1)) rfl rfl rfl rfl (F.un _ rfl) (F.sz _ rfl) rfl (by omega) (by omega) (by omega) ?_ | refine dk_callF rfl rfl rfl rfl (by kernel_rfl) rfl (Ctr.callV (cmp_spec d1[first + r]! d1[first + (2 * r + 1)]!) [] rfl (ExtOk.of rfl) rfl trivial rfl) ?_))
        refine dw_lssS rfl rfl rfl rfl ?_ ?_
        all_goals intro h4
        · rw [if_pos (by simpa [ltP] using h4)] at e
          (repeat (refine dw_notB rfl rfl rfl ?_))
          (refine dk_nil ?_); (refine ⟨by kernel_rfl, ?_, ?_⟩); (focus (repeat (first | exact trivial | refine ⟨.inl rfl, ?_⟩ | refine ⟨.inr (by (repeat (refine ⟨(by first | exact rd_idxN (F.un _ rfl) (F.sz _ rfl) rfl rfl rfl (by omega) (by omega) (by omega) | exact rd_arith rfl rfl (.inl ⟨rfl, (Go.IntWalk.i64_in _ ⟨by omega, by omega⟩).symm⟩) | exact rd_arith rfl rfl (.inr (.inl ⟨rfl, (Go.IntWalk.i64_in _ ⟨by omega, by omega⟩).symm⟩)) | exact rd_fieldAddr (F.fo _ _ rfl rfl) rfl | exact rd_move rfl | exact rd_assign rfl | exact rd_load1 (F.ag _ rfl) rfl rfl (cell_box rfl) | exact rd_loadN (F.ag _ rfl) rfl rfl (cellsFrom_box _ 0 rfl rfl) | exact rd_extract rfl rfl | exact rd_lenSl (F.un _ rfl) rfl | exact rd_lenStr (F.un _ rfl) rfl | exact rd_nilCheck rfl | exact rd_pickT rfl rfl | exact rd_pickF rfl rfl), ?_⟩)); exact trivial), ?_⟩ | refine ⟨.inl (by kernel_rfl), ?_⟩)))
          (repeat (first | refine y_seq ?_ | refine y_skip ?_ | refine y_condF rfl ?_))
          refine w_draw (by kernel_rfl) (by kernel_rfl) ?_
          (repeat (first | refine dw_move rfl rfl rfl ?_ | refine dw_add rfl rfl rfl rfl (by omega) (by omega) ?_ | refine dw_ldR rfl rfl rfl (F.ag _ rfl) (recP) rfl (by first | omega | (simp only [Array.size_setIfInBounds, swp_size]; omega)) (by first | omega | (simp only [Array.size_setIfInBounds, swp_size]; omega)) ?_ | refine dw_stR rfl rfl rfl (recP) (F.sz _ rfl) rfl (by first | omega | (simp only [Array.size_setIfInBounds, swp_size]; omega)) (by first | omega | (simp only [Array.size_setIfInBounds, swp_size]; omega)) ?_ | refine dw_idxN (q := first + r) rfl rfl rfl rfl (F.un _ rfl) (F.sz _ rfl) rfl (by omega) (by omega) (by omega) ?_ | refine dw_idxN (q := first + (2 * r + 1)) rfl rfl rfl rfl (F.un _ rfl) (F.sz _ rfl) rfl (by omega) (by omega) (by omega) ?_))
          (refine dk_nil ?_); (refine ⟨by kernel_rfl, ?_, ?_⟩); (focus (repeat (first | exact trivial | refine ⟨.inl rfl, ?_⟩ | refine ⟨.inr (by (repeat (refine ⟨(by first | exact rd_idxN (F.un _ rfl) (F.sz _ rfl) rfl rfl rfl (by omega) (by omega) (by omega) | exact rd_arith rfl rfl (.inl ⟨rfl, (Go.IntWalk.i64_in _ ⟨by omega, by omega⟩).symm⟩) | exact rd_arith rfl rfl (.inr (.inl ⟨rfl, (Go.IntWalk.i64_in _ ⟨by omega, by omega⟩).symm⟩)) | exact rd_fieldAddr (F.fo _ _ rfl rfl) rfl | exact rd_move rfl | exact rd_assign rfl | exact rd_load1 (F.ag _ rfl) rfl rfl (cell_box rfl) | exact rd_loadN (F.ag _ rfl) rfl rfl (cellsFrom_box _ 0 rfl rfl) | exact rd_extract rfl rfl | exact rd_lenSl (F.un _ rfl) rfl | exact rd_lenStr (F.un _ rfl) rfl | exact rd_nilCheck rfl | exact rd_pickT rfl rfl | exact rd_pickF rfl rfl), ?_⟩)); exact trivial), ?_⟩ | refine ⟨.inl (by kernel_rfl), ?_⟩)))
          (repeat (first | refine w_region ?_ | refine y_regEnd ?_ | refine y_inBlock ?_ | refine w_move rfl rfl rfl ?_ | refine w_assign rfl rfl rfl ?_))
          refine ih _ _ _ (2 * r + 1, Sort.swp d1 (first + r) (first + (2 * r + 1))) [] ⟨by simp only; omega, by rw [swp_size]; exact hd1, by rw [← ho, e]⟩ (by simp only; omega) ?_
          (refine ⟨(ExtOk.of rfl), rfl, (by repeat (first | exact trivial | refine ⟨rfl, ?_⟩)), (by repeat (first | exact trivial | refine ⟨at_dat rfl, ?_⟩))⟩)
        · rw [if_neg (by simpa [ltP] using h4)] at e
          (repeat (refine dw_notB rfl rfl rfl ?_))
          (refine dk_nil ?_); (refine ⟨by kernel_rfl, ?_, ?_⟩); (focus (repeat (first | exact trivial | refine ⟨.inl rfl, ?_⟩ | refine ⟨.inr (by (repeat (refine ⟨(by first | exact rd_idxN (F.un _ rfl) (F.sz _ rfl) rfl rfl rfl (by omega) (by omega) (by omega) | exact rd_arith rfl rfl (.inl ⟨rfl, (Go.IntWalk.i64_in _ ⟨by omega, by omega⟩).symm⟩) | exact rd_arith rfl rfl (.inr (.inl ⟨rfl, (Go.IntWalk.i64_in _ ⟨by omega, by omega⟩).symm⟩)) | exact rd_fieldAddr (F.fo _ _ rfl rfl) rfl | exact rd_move rfl | exact rd_assign rfl | exact rd_load1 (F.ag _ rfl) rfl rfl (cell_box rfl) | exact rd_loadN (F.ag _ rfl) rfl rfl (cellsFrom_box _ 0 rfl rfl) | exact rd_extract rfl rfl | exact rd_lenSl (F.un _ rfl) rfl | exact rd_lenStr (F.un _ rfl) rfl | exact rd_nilCheck rfl | exact rd_pickT rfl rfl | exact rd_pickF rfl rfl), ?_⟩)); exact trivial), ?_⟩ | refine ⟨.inl (by kernel_rfl), ?_⟩)))
          (repeat (refine y_condT rfl ?_))
          ((apply w_ret Try.func66 (congrArg Array.toList Try.results66)); (focus (repeat (exact ResIs.nil))); refine ⟨_, rfl, Ends.mk [] (ExtOk.of rfl) rfl rfl ?_⟩)
          rw [← ho, e]
          exact (by repeat (first | exact trivial | refine ⟨at_dat rfl, ?_⟩))
    · have e := sift_l (lt := ltP) (hi := hi) (first := first) (root := r) (d := d1) (by omega) (.inl (by omega))
      (repeat (first | refine dw_move rfl rfl rfl ?_ | refine dw_pickF rfl rfl rfl rfl ?_ | refine dk_skip rfl rfl ?_))
      (refine dk_nil ?_); (refine ⟨by kernel_rfl, ?_, ?_⟩); (focus (repeat (first | exact trivial | refine ⟨.inl rfl, ?_⟩)))
      (repeat (first | refine y_seq ?_ | refine y_skip ?_ | refine y_condF rfl ?_))
      refine w_draw (by kernel_rfl) (by kernel_rfl) ?_
      (repeat (first | refine dw_move rfl rfl rfl ?_ | refine dw_add rfl rfl rfl rfl (by omega) (by omega) ?_ | refine dw_ldR rfl rfl rfl (F.ag _ rfl) (recP) rfl (by first | omega | (simp only [Array.size_setIfInBounds, swp_size]; omega)) (by first | omega | (simp only [Array.size_setIfInBounds, swp_size]; omega)) ?_ | refine dw_idxN (q := first + r) rfl rfl rfl rfl (F.un _ rfl) (F.sz _ rfl) rfl (by omega) (by omega) (by omega) ?_ | refine dw_idxN (q := first + (2 * r + 1)) rfl rfl rfl rfl (F.un _ rfl) (F.sz _ rfl) rfl (by omega) (by omega) (by omega) ?_ | refine dk_callF rfl rfl rfl rfl (by kernel_rfl) rfl (Ctr.callV (cmp_spec d1[first + r]! d1[first + (2 * r + 1)]!) [] rfl (ExtOk.of rfl) rfl trivial rfl) ?_))
      refine dw_lssS rfl rfl rfl rfl ?_ ?_
      all_goals intro h4
      · rw [if_pos (by simpa [ltP] using h4)] at e
        (repeat (refine dw_notB rfl rfl rfl ?_))
        (refine dk_nil ?_); (refine ⟨by kernel_rfl, ?_, ?_⟩); (focus (repeat (first | exact trivial | refine ⟨.inl rfl, ?_⟩ | refine ⟨.inr (by (repeat (refine ⟨(by first | exact rd_idxN (F.un _ rfl) (F.sz _ rfl) rfl rfl rfl (by omega) (by omega) (by omega) | exact rd_arith rfl rfl (.inl ⟨rfl, (Go.IntWalk.i64_in _ ⟨by omega, by omega⟩).symm⟩) | exact rd_arith rfl rfl (.inr (.inl ⟨rfl, (Go.IntWalk.i64_in _ ⟨by omega, by omega⟩).symm⟩)) | exact rd_fieldAddr (F.fo _ _ rfl rfl) rfl | exact rd_move rfl | exact rd_assign rfl | exact rd_load1 (F.ag _ rfl) rfl rfl (cell_box rfl) | exact rd_loadN (F.ag _ rfl) rfl rfl (cellsFrom_box _ 0 rfl rfl) | exact rd_extract rfl rfl | exact rd_lenSl (F.un _ rfl) rfl | exact rd_lenStr (F.un _ rfl) rfl | exact rd_nilCheck rfl | exact rd_pickT rfl rfl | exact rd_pickF rfl rfl), ?_⟩)); exact trivial), ?_⟩ | refine ⟨.inl (by kernel_rfl), ?_⟩)))
        (repeat (first | refine y_seq ?_ | refine y_skip ?_ | refine y_condF rfl ?_))
        refine w_draw (by kernel_rfl) (by kernel_rfl) ?_
        (repeat (first | refine dw_move rfl rfl rfl ?_ | refine dw_add rfl rfl rfl rfl (by omega) (by omega) ?_ | refine dw_ldR rfl rfl rfl (F.ag _ rfl) (recP) rfl (by first | omega | (simp only [Array.size_setIfInBounds, swp_size]; omega)) (by first | omega | (simp only [Array.size_setIfInBounds, swp_size]; omega)) ?_ | refine dw_stR rfl rfl rfl (recP) (F.sz _ rfl) rfl (by first | omega | (simp only [Array.size_setIfInBounds, swp_size]; omega)) (by first | omega | (simp only [Array.size_setIfInBounds, swp_size]; omega)) ?_ | refine dw_idxN (q := first + r) rfl rfl rfl rfl (F.un _ rfl) (F.sz _ rfl) rfl (by omega) (by omega) (by omega) ?_ | refine dw_idxN (q := first + (2 * r + 1)) rfl rfl rfl rfl (F.un _ rfl) (F.sz _ rfl) rfl (by omega) (by omega) (by omega) ?_))
        (refine dk_nil ?_); (refine ⟨by kernel_rfl, ?_, ?_⟩); (focus (repeat (first | exact trivial | refine ⟨.inl rfl, ?_⟩ | refine ⟨.inr (by (repeat (refine ⟨(by first | exact rd_idxN (F.un _ rfl) (F.sz _ rfl) rfl rfl rfl (by omega) (by omega) (by omega) | exact rd_arith rfl rfl (.inl ⟨rfl, (Go.IntWalk.i64_in _ ⟨by omega, by omega⟩).symm⟩) | exact rd_arith rfl rfl (.inr (.inl ⟨rfl, (Go.IntWalk.i64_in _ ⟨by omega, by omega⟩).symm⟩)) | exact rd_fieldAddr (F.fo _ _ rfl rfl) rfl | exact rd_move rfl | exact rd_assign rfl | exact rd_load1 (F.ag _ rfl) rfl rfl (cell_box rfl) | exact rd_loadN (F.ag _ rfl) rfl rfl (cellsFrom_box _ 0 rfl rfl) | exact rd_extract rfl rfl | exact rd_lenSl (F.un _ rfl) rfl | exact rd_lenStr (F.un _ rfl) rfl | exact rd_nilCheck rfl | exact rd_pickT rfl rfl | exact rd_pickF rfl rfl), ?_⟩)); exact trivial), ?_⟩ | refine ⟨.inl (by kernel_rfl), ?_⟩)))
        (repeat (first | refine w_region ?_ | refine y_regEnd ?_ | refine y_inBlock ?_ | refine w_move rfl rfl rfl ?_ | refine w_assign rfl rfl rfl ?_))
        refine ih _ _ _ (2 * r + 1, Sort.swp d1 (first + r) (first + (2 * r + 1))) [] ⟨by simp only; omega, by rw [swp_size]; exact hd1, by rw [← ho, e]⟩ (by simp only; omega) ?_
        (refine ⟨(ExtOk.of rfl), rfl, (by repeat (first | exact trivial | refine ⟨rfl, ?_⟩)), (by repeat (first | exact trivial | refine ⟨at_dat rfl, ?_⟩))⟩)
      · rw [if_neg (by simpa [ltP] using h4)] at e
        (repeat (refine dw_notB rfl rfl rfl ?_))
        (refine dk_nil ?_); (refine ⟨by kernel_rfl, ?_, ?_⟩); (focus (repeat (first | exact trivial | refine ⟨.inl rfl, ?_⟩ | refine ⟨.inr (by (repeat (refine ⟨(by first | exact rd_idxN (F.un _ rfl) (F.sz _ rfl) rfl rfl rfl (by omega) (by omega) (by omega) | exact rd_arith rfl rfl (.inl ⟨rfl, (Go.IntWalk.i64_in _ ⟨by omega, by omega⟩).symm⟩) | exact rd_arith rfl rfl (.inr (.inl ⟨rfl, (Go.IntWalk.i64_in _ ⟨by omega, by omega⟩).symm⟩)) | exact rd_fieldAddr (F.fo _ _ rfl rfl) rfl | exact rd_move rfl | exact rd_assign rfl | exact rd_load1 (F.ag _ rfl) rfl rfl (cell_box rfl) | exact rd_loadN (F.ag _ rfl) rfl rfl (cellsFrom_box _ 0 rfl rfl) | exact rd_extract rfl rfl | exact rd_lenSl (F.un _ rfl) rfl | exact rd_lenStr (F.un _ rfl) rfl | exact rd_nilCheck rfl | exact rd_pickT rfl rfl | exact rd_pickF rfl rfl), ?_⟩)); exact trivial), ?_⟩ | refine ⟨.inl (by kernel_rfl), ?_⟩)))
        (repeat (refine y_condT rfl ?_))
        ((apply w_ret Try.func66 (congrArg Array.toList Try.results66)); (focus (repeat (exact ResIs.nil))); refine ⟨_, rfl, Ends.mk [] (ExtOk.of rfl) rfl rfl ?_⟩)
        rw [← ho, e]
        exact (by repeat (first | exact trivial | refine ⟨at_dat rfl, ?_⟩))
end Go.Proofs.Ytfkfiafohcoomaa
end
section
namespace Go.Proofs.Ytfkfiafohcoomaa
open Go Go.Sy
theorem quo_half {x : Int} {m : Nat} (hx : x = (m : Int) - 1) (hm : m < 4611686018427387904) : IntKind.i64.wrap (x.tdiv 2) = (((m - 1) / 2 : Nat) : Int) := by
  subst hx
  rcases Nat.eq_zero_or_pos m with rfl | h
  · decide
  · rw [Int.tdiv_eq_ediv_of_nonneg (by omega), Go.IntWalk.i64_in _ ⟨by omega, by omega⟩]
    omega
set_option maxRecDepth 100000 in
set_option maxHeartbeats 0 in
theorem heap_spec (n a b : Nat) (d : Array (Int × Int)) (hn : n < 4611686018427387904) (hd : d.size = n) (hab : a ≤ b) (hb : b ≤ n) :
    Ctr Try.prog 54 [.slu 0 0 n, .sc (.int .i64 (a : Int)), .sc (.int .i64 (b : Int)), cmpF] [rowP n d] (fun c => c = ⟨.tup [], [some (rowP n (Sort.heapSort ltP d a b))]⟩) := by
  refine Fnc.start Try.func54 rfl rfl ?_
  (repeat (first | refine y_seq ?_ | refine w_region ?_ | refine y_regEnd ?_ | refine w_move rfl rfl rfl ?_ | refine w_assign rfl rfl rfl ?_ | refine w_sub rfl rfl rfl rfl (by omega) (by omega) ?_))
  refine w_quoC rfl rfl rfl rfl (by decide) (show _ = (((b - a - 1) / 2 : Nat) : Int) from quo_half (m := b - a) (by omega) (by omega)) ?_
  (repeat (first | refine y_regEnd ?_ | refine y_block ?_ | refine w_assign rfl rfl rfl ?_))
  refine y_loopC 1 (fun s : Nat × Array (Int × Int) => [(0, .slu 0 0 n), (3, cmpF), (8, .sc (.int .i64 (a : Int))), (9, .sc (.int .i64 0)), (10, .sc (.int .i64 ((b - a : Nat) : Int))), (11, .sc (.int .i64 ((s.1 : Int) - 1)))]) (fun s => [some (rowP n s.2)]) (fun s => s.1 ≤ (b - a - 1) / 2 + 1 ∧ s.2.size = n ∧ Sort.heapBuild ltP (b - a) a s.1 s.2 = Sort.heapBuild ltP (b - a) a ((b - a - 1) / 2 + 1) d) (fun s => s.1) ((b - a - 1) / 2 + 1, d) []
    (fun _ => rfl) ⟨Nat.le_refl _, hd, rfl⟩ ?_ (fun _ => rfl) (fun _ => rfl) ?_
  · (refine ⟨(ExtOk.of rfl), rfl, (by repeat (first | exact trivial | refine ⟨rfl, ?_⟩ | refine ⟨sl_eq (by first | omega | (simp only; omega)), ?_⟩)), (by repeat (first | exact trivial | refine ⟨at_dat rfl, ?_⟩))⟩)
  rintro ⟨k, d1⟩ ⟨hk, hd1, ho⟩ ih
  simp only at hk hd1 ho ih ⊢
  (repeat (first | refine y_seq ?_ | refine w_region ?_ | refine w_move rfl rfl rfl ?_))
  refine w_geqS rfl rfl rfl rfl ?_ ?_
  all_goals intro h1
  · obtain ⟨k, rfl⟩ : ∃ k', k = k' + 1 := ⟨k - 1, by omega⟩
    have ek : ((k + 1 : Nat) : Int) - 1 = (k : Int) := by omega
    rw [ek]
    (repeat (first | (first | refine y_seq ?_ | refine w_region ?_ | refine y_regEnd ?_ | refine y_block ?_ | refine y_inBlock ?_ | refine y_skip ?_ | refine y_condT rfl ?_ | refine w_move rfl rfl rfl ?_ | refine w_assign rfl rfl rfl ?_ | refine w_sub rfl rfl rfl rfl (by omega) (by omega) ?_) | refine w_callFn rfl rfl rfl (by kernel_rfl) (Ctr.callD (sift_spec n k (b - a) a d1 hn hd1 (by omega) (by omega)) [0] rfl (ExtOk.of rfl) rfl (by repeat (first | exact trivial | refine ⟨at_dat rfl, ?_⟩)) rfl (by repeat (first | exact trivial | refine ⟨closed_dat, ?_⟩)) (fun _ => rfl) rfl rfl) ?_))
    refine ih _ _ _ (k, Sort.siftDown ltP (b - a) a k d1) [] ⟨by simp only; omega, by rw [siftDown_size]; exact hd1, by rw [← ho]; rfl⟩ (by simp only; omega) ?_
    (refine ⟨(ExtOk.of rfl), rfl, (by repeat (first | exact trivial | refine ⟨rfl, ?_⟩)), (by repeat (first | exact trivial | refine ⟨at_dat rfl, ?_⟩))⟩)
  · obtain rfl : k = 0 := by omega
    have ho1 : d1 = Sort.heapBuild ltP (b - a) a ((b - a - 1) / 2 + 1) d := ho
    (repeat (first | refine y_seq ?_ | refine w_region ?_ | refine y_regEnd ?_ | refine y_block ?_ | refine y_exit rfl ?_ | refine y_condF rfl ?_ | refine w_move rfl rfl rfl ?_ | refine w_assign rfl rfl rfl ?_ | refine w_sub rfl rfl rfl rfl (by omega) (by omega) ?_))
    refine y_loopC 1 (fun s : Nat × Array (Int × Int) => [(0, .slu 0 0 n), (3, cmpF), (8, .sc (.int .i64 (a : Int))), (9, .sc (.int .i64 0)), (12, .sc (.int .i64 ((s.1 : Int) - 1)))]) (fun s => [some (rowP n s.2)]) (fun s => s.1 ≤ b - a ∧ s.2.size = n ∧ Sort.heapPop ltP a s.1 s.2 = Sort.heapSort ltP d a b) (fun s => s.1) (b - a, d1) []
      (fun _ => rfl) ⟨Nat.le_refl _, hd1, by rw [ho1]; rfl⟩ ?_ (fun _ => rfl) (fun _ => rfl) ?_
    · (refine ⟨(ExtOk.of rfl), rfl, (by repeat (first | exact trivial | refine ⟨rfl, ?_⟩)), (by repeat (first | exact trivial | refine ⟨at_dat rfl, ?_⟩))⟩)
    rintro ⟨m, d2⟩ ⟨hm, hd2, hp⟩ ihm
    simp only at hm hd2 hp ihm ⊢
    (repeat (first | refine y_seq ?_ | refine w_region ?_ | refine w_move rfl rfl rfl ?_))
    refine w_geqS rfl rfl rfl rfl ?_ ?_
    all_goals intro h2
    · obtain ⟨m, rfl⟩ : ∃ m', m = m' + 1 := ⟨m - 1, by omega⟩
      have em : ((m + 1 : Nat) : Int) - 1 = (m : Int) := by omega
      rw [em]
      (repeat (first | refine y_seq ?_ | refine y_regEnd ?_ | refine y_block ?_ | refine y_skip ?_ | refine y_condT rfl ?_))
      refine w_draw (by kernel_rfl) (by kernel_rfl) ?_
      (repeat (first | refine dw_move rfl rfl rfl ?_ | refine dw_add rfl rfl rfl rfl (by omega) (by omega) ?_ | refine dw_ldR rfl rfl rfl (F.ag _ rfl) (recP) rfl (by first | omega | (simp only [Array.size_setIfInBounds, swp_size]; omega)) (by first | omega | (simp only [Array.size_setIfInBounds, swp_size]; omega)) ?_ | refine dw_stR rfl rfl rfl (recP) (F.sz _ rfl) rfl (by first | omega | (simp only [Array.size_setIfInBounds, swp_size]; omega)) (by first | omega | (simp only [Array.size_setIfInBounds, swp_size]; omega)) ?_ | refine dw_idxN (q := a) rfl rfl rfl rfl (F.un _ rfl) (F.sz _ rfl) rfl (by omega) (by omega) (by omega) ?_ | refine dw_idxN (q := a + m) rfl rfl rfl rfl (F.un _ rfl) (F.sz _ rfl) rfl (by omega) (by omega) (by omega) ?_))
      (refine dk_nil ?_); (refine ⟨by kernel_rfl, ?_, ?_⟩); (focus (repeat (first | exact trivial | refine ⟨.inl rfl, ?_⟩ | refine ⟨.inr (by (repeat (refine ⟨(by first | exact rd_idxN (F.un _ rfl) (F.sz _ rfl) rfl rfl rfl (by omega) (by omega) (by omega) | exact rd_arith rfl rfl (.inl ⟨rfl, (Go.IntWalk.i64_in _ ⟨by omega, by omega⟩).symm⟩) | exact rd_arith rfl rfl (.inr (.inl ⟨rfl, (Go.IntWalk.i64_in _ ⟨by omega, by omega⟩).symm⟩)) | exact rd_fieldAddr (F.fo _ _ rfl rfl) rfl | exact rd_move rfl | exact rd_assign rfl | exact rd_load1 (F.ag _ rfl) rfl rfl (cell_box rfl) | exact rd_loadN (F.ag _ rfl) rfl rfl (cellsFrom_box _ 0 rfl rfl) | exact rd_extract rfl rfl | exact rd_lenSl (F.un _ rfl) rfl | exact rd_lenStr (F.un _ rfl) rfl | exact rd_nilCheck rfl | exact rd_pickT rfl rfl | exact rd_pickF rfl rfl), ?_⟩)); exact trivial), ?_⟩ | refine ⟨.inl (by kernel_rfl), ?_⟩)))
      (repeat (first | (first | refine w_region ?_ | refine y_regEnd ?_ | refine y_inBlock ?_ | refine w_move rfl rfl rfl ?_ | refine w_assign rfl rfl rfl ?_ | refine w_sub rfl rfl rfl rfl (by omega) (by omega) ?_) | refine w_callFn rfl rfl rfl (by kernel_rfl) (Ctr.callD (sift_spec n 0 m a (Sort.swp d2 a (a + m)) hn (by rw [swp_size]; exact hd2) (by omega) (by omega)) [0] rfl (ExtOk.of rfl) rfl (by repeat (first | exact trivial | refine ⟨at_dat rfl, ?_⟩)) rfl (by repeat (first | exact trivial | refine ⟨closed_dat, ?_⟩)) (fun _ => rfl) rfl rfl) ?_))
      refine ihm _ _ _ (m, Sort.siftDown ltP m a 0 (Sort.swp d2 a (a + m))) [] ⟨by simp only; omega, by rw [siftDown_size, swp_size]; exact hd2, by rw [← hp]; rfl⟩ (by simp only; omega) ?_
      (refine ⟨(ExtOk.of rfl), rfl, (by repeat (first | exact trivial | refine ⟨rfl, ?_⟩)), (by repeat (first | exact trivial | refine ⟨at_dat rfl, ?_⟩))⟩)
    · obtain rfl : m = 0 := by omega
      (repeat (first | refine y_regEnd ?_ | refine y_exit rfl ?_ | refine y_condF rfl ?_))
      ((apply w_end Try.func54 (congrArg Array.toList Try.results54)); (focus (repeat (exact ResIs.nil))); refine ⟨_, rfl, Ends.mk [] (ExtOk.of rfl) rfl rfl ?_⟩)
      rw [← hp]
      exact (by repeat (first | exact trivial | refine ⟨at_dat rfl, ?_⟩))
end Go.Proofs.Ytfkfiafohcoomaa
end
section
namespace Go.Proofs.Ytfkfiafohcoomaa
open Go Go.Sy
set_option maxRecDepth 100000 in
set_option maxHeartbeats 0 in
theorem rev_spec (n a b : Nat) (d : Array (Int × Int)) (hn : n < 4611686018427387904) (hd : d.size = n) (hab : a < b) (hb : b ≤ n) :
    Ctr Try.prog 57 [.slu 0 0 n, .sc (.int .i64 (a : Int)), .sc (.int .i64 (b : Int)), cmpF] [rowP n d] (fun c => c = ⟨.tup [], [some (rowP n (Sort.reverseRange d a b))]⟩) := by
  refine Fnc.start Try.func57 rfl rfl ?_
  (repeat (first | refine y_seq ?_ | refine w_region ?_ | refine y_regEnd ?_ | refine y_block ?_ | refine w_move rfl rfl rfl ?_ | refine w_assign rfl rfl rfl ?_ | refine w_sub rfl rfl rfl rfl (by omega) (by omega) ?_))
  refine y_loopC 1 (fun s : (Nat × Nat) × Array (Int × Int) => [(0, .slu 0 0 n), (8, .sc (.int .i64 (s.1.1 : Int))), (9, .sc (.int .i64 (s.1.2 : Int)))]) (fun s => [some (rowP n s.2)]) (fun s => s.1.1 ≤ n ∧ s.1.2 < n ∧ s.1.1 ≤ s.1.2 + 1 ∧ s.2.size = n ∧ Sort.reverseLoop s.1.1 s.1.2 s.2 = Sort.reverseRange d a b) (fun s => s.1.2 + 1 - s.1.1) ((a, b - 1), d) []
    (fun _ => rfl) ⟨by simp only; omega, by simp only; omega, by simp only; omega, hd, rfl⟩ ?_ (fun _ => rfl) (fun _ => rfl) ?_
  · (refine ⟨(ExtOk.of rfl), rfl, (by repeat (first | exact trivial | refine ⟨rfl, ?_⟩ | refine ⟨sl_eq (by first | omega | (simp only; omega)), ?_⟩)), (by repeat (first | exact trivial | refine ⟨at_dat rfl, ?_⟩))⟩)
  rintro ⟨⟨i, j⟩, d1⟩ ⟨hi, hj, hij, hd1, ho⟩ ih
  simp only at hi hj hij hd1 ho ih ⊢
  (repeat (first | refine y_seq ?_ | refine w_region ?_ | refine w_move rfl rfl rfl ?_))
  refine w_lssS rfl rfl rfl rfl ?_ ?_
  all_goals intro h1
  · (repeat (first | refine y_seq ?_ | refine y_regEnd ?_ | refine y_block ?_ | refine y_skip ?_ | refine y_condT rfl ?_))
    refine w_draw (by kernel_rfl) (by kernel_rfl) ?_
    (repeat (first | refine dw_move rfl rfl rfl ?_ | refine dw_ldR rfl rfl rfl (F.ag _ rfl) (recP) rfl (by first | omega | (simp only [Array.size_setIfInBounds, swp_size]; omega)) (by first | omega | (simp only [Array.size_setIfInBounds, swp_size]; omega)) ?_ | refine dw_stR rfl rfl rfl (recP) (F.sz _ rfl) rfl (by first | omega | (simp only [Array.size_setIfInBounds, swp_size]; omega)) (by first | omega | (simp only [Array.size_setIfInBounds, swp_size]; omega)) ?_ | refine dw_idxN (q := i) rfl rfl rfl rfl (F.un _ rfl) (F.sz _ rfl) rfl (by omega) (by omega) (by omega) ?_ | refine dw_idxN (q := j) rfl rfl rfl rfl (F.un _ rfl) (F.sz _ rfl) rfl (by omega) (by omega) (by omega) ?_))
    (refine dk_nil ?_); (refine ⟨by kernel_rfl, ?_, ?_⟩); (focus (repeat (first | exact trivial | refine ⟨.inl rfl, ?_⟩ | refine ⟨.inr (by (repeat (refine ⟨(by first | exact rd_idxN (F.un _ rfl) (F.sz _ rfl) rfl rfl rfl (by omega) (by omega) (by omega) | exact rd_arith rfl rfl (.inl ⟨rfl, (Go.IntWalk.i64_in _ ⟨by omega, by omega⟩).symm⟩) | exact rd_arith rfl rfl (.inr (.inl ⟨rfl, (Go.IntWalk.i64_in _ ⟨by omega, by omega⟩).symm⟩)) | exact rd_fieldAddr (F.fo _ _ rfl rfl) rfl | exact rd_move rfl | exact rd_assign rfl | exact rd_load1 (F.ag _ rfl) rfl rfl (cell_box rfl) | exact rd_loadN (F.ag _ rfl) rfl rfl (cellsFrom_box _ 0 rfl rfl) | exact rd_extract rfl rfl | exact rd_lenSl (F.un _ rfl) rfl | exact rd_lenStr (F.un _ rfl) rfl | exact rd_nilCheck rfl | exact rd_pickT rfl rfl | exact rd_pickF rfl rfl), ?_⟩)); exact trivial), ?_⟩ | refine ⟨.inl (by kernel_rfl), ?_⟩)))
    (repeat (first | refine y_seq ?_ | refine w_region ?_ | refine y_regEnd ?_ | refine y_inBlock ?_ | refine w_move rfl rfl rfl ?_ | refine w_assign rfl rfl rfl ?_ | refine w_add rfl rfl rfl rfl (by omega) (by omega) ?_ | refine w_sub rfl rfl rfl rfl (by omega) (by omega) ?_))
    refine ih _ _ _ ((i + 1, j - 1), Sort.swp d1 i j) [] ⟨by simp only; omega, by simp only; omega, by simp only; omega, by rw [swp_size]; exact hd1, ?_⟩ (by simp only; omega) ?_
    · rw [← ho]
      conv => rhs; rw [Sort.reverseLoop, if_pos (by omega)]
    · (refine ⟨(ExtOk.of rfl), rfl, (by repeat (first | exact trivial | refine ⟨rfl, ?_⟩ | refine ⟨sl_eq (by first | omega | (simp only; omega)), ?_⟩)), (by repeat (first | exact trivial | refine ⟨at_dat rfl, ?_⟩))⟩)
  · (repeat (first | refine y_regEnd ?_ | refine y_exit rfl ?_ | refine y_condF rfl ?_))
    ((apply w_end Try.func57 (congrArg Array.toList Try.results57)); (focus (repeat (exact ResIs.nil))); refine ⟨_, rfl, Ends.mk [] (ExtOk.of rfl) rfl rfl ?_⟩)
    rw [← ho, Sort.reverseLoop, if_neg (by omega)]
    exact (by repeat (first | exact trivial | refine ⟨at_dat rfl, ?_⟩))
abbrev cntB (k : Nat) : VO := newCells 3 [.sc (.int .i64 (k : Int))]
set_option maxRecDepth 100000 in
set_option maxHeartbeats 0 in
theorem order2_spec (n a b k : Nat) (d : Array (Int × Int)) (hn : n < 4611686018427387904) (hd : d.size = n) (ha : a < n) (hb : b < n) (hk : k < 1000) :
    Ctr Try.prog 80 [.slu 0 0 n, .sc (.int .i64 (a : Int)), .sc (.int .i64 (b : Int)), .ptr 1 0, cmpF] [rowP n d, cntB k] (fun c => c = ⟨.tup [.sc (.int .i64 ((Sort.order2 ltP d a b k).1 : Int)), .sc (.int .i64 ((Sort.order2 ltP d a b k).2.1 : Int))], [some (rowP n d), some (cntB (Sort.order2 ltP d a b k).2.2)]⟩) := by
  refine Fnc.start Try.func80 rfl rfl ?_
  (repeat (first | refine y_seq ?_ | refine w_region ?_ | refine y_regEnd ?_ | refine w_assign rfl rfl rfl ?_))
  refine w_draw (by kernel_rfl) (by kernel_rfl) ?_
  (repeat (first | refine dw_move rfl rfl rfl ?_ | refine dw_ldR rfl rfl rfl (F.ag _ rfl) (recP) rfl (by first | omega | (simp only [Array.size_setIfInBounds, swp_size]; omega)) (by first | omega | (simp only [Array.size_setIfInBounds, swp_size]; omega)) ?_ | refine dw_idxN (q := a) rfl rfl rfl rfl (F.un _ rfl) (F.sz _ rfl) rfl (by omega) (by omega) (by omega) ?_ | refine dw_idxN (q := b) rfl rfl rfl rfl (F.un _ rfl) (F.sz _ rfl) rfl (by omega) (by omega) (by omega) ?_ | refine dk_callF rfl rfl rfl rfl (by kernel_rfl) rfl (Ctr.callV (cmp_spec d[b]! d[a]!) [] rfl (ExtOk.of rfl) rfl trivial rfl) ?_))
  refine dw_lssS rfl rfl rfl rfl ?_ ?_
  all_goals intro h1
  · skip
    (refine dk_nil ?_); (refine ⟨by kernel_rfl, ?_, ?_⟩); (focus (repeat (first | exact trivial | refine ⟨.inl rfl, ?_⟩ | refine ⟨.inr (by (repeat (refine ⟨(by first | exact rd_idxN (F.un _ rfl) (F.sz _ rfl) rfl rfl rfl (by omega) (by omega) (by omega) | exact rd_arith rfl rfl (.inl ⟨rfl, (Go.IntWalk.i64_in _ ⟨by omega, by omega⟩).symm⟩) | exact rd_arith rfl rfl (.inr (.inl ⟨rfl, (Go.IntWalk.i64_in _ ⟨by omega, by omega⟩).symm⟩)) | exact rd_fieldAddr (F.fo _ _ rfl rfl) rfl | exact rd_move rfl | exact rd_assign rfl | exact rd_load1 (F.ag _ rfl) rfl rfl (cell_box rfl) | exact rd_loadN (F.ag _ rfl) rfl rfl (cellsFrom_box _ 0 rfl rfl) | exact rd_extract rfl rfl | exact rd_lenSl (F.un _ rfl) rfl | exact rd_lenStr (F.un _ rfl) rfl | exact rd_nilCheck rfl | exact rd_pickT rfl rfl | exact rd_pickF rfl rfl), ?_⟩)); exact trivial), ?_⟩ | refine ⟨.inl (by kernel_rfl), ?_⟩)))
    (repeat (first | refine y_seq ?_ | refine w_region ?_ | refine y_regEnd ?_ | refine y_condT rfl ?_ | refine w_move rfl rfl rfl ?_ | refine w_assign rfl rfl rfl ?_ | refine w_nilCheck rfl rfl rfl ?_ | refine w_loadB1 rfl rfl rfl (F.ag _ rfl) rfl rfl ?_ | refine w_store1 rfl rfl rfl (F.sz _ rfl) rfl rfl rfl ?_ | refine w_add rfl rfl rfl rfl (by omega) (by omega) ?_))
    rw [show Sort.order2 ltP d a b k = (b, a, k + 1) by rw [Sort.order2, if_pos (by simpa [ltP] using h1)]]
    ((apply w_ret Try.func80 (congrArg Array.toList Try.results80)); (focus (repeat (first | exact ResIs.nil | apply ResIs.tmp rfl))); refine ⟨_, rfl, Ends.mk [] (ExtOk.of rfl) rfl rfl ?_⟩)
    exact (by repeat (first | exact trivial | refine ⟨at_dat rfl, ?_⟩ | refine ⟨at_box rfl, ?_⟩))
  · skip
    (refine dk_nil ?_); (refine ⟨by kernel_rfl, ?_, ?_⟩); (focus (repeat (first | exact trivial | refine ⟨.inl rfl, ?_⟩ | refine ⟨.inr (by (repeat (refine ⟨(by first | exact rd_idxN (F.un _ rfl) (F.sz _ rfl) rfl rfl rfl (by omega) (by omega) (by omega) | exact rd_arith rfl rfl (.inl ⟨rfl, (Go.IntWalk.i64_in _ ⟨by omega, by omega⟩).symm⟩) | exact rd_arith rfl rfl (.inr (.inl ⟨rfl, (Go.IntWalk.i64_in _ ⟨by omega, by omega⟩).symm⟩)) | exact rd_fieldAddr (F.fo _ _ rfl rfl) rfl | exact rd_move rfl | exact rd_assign rfl | exact rd_load1 (F.ag _ rfl) rfl rfl (cell_box rfl) | exact rd_loadN (F.ag _ rfl) rfl rfl (cellsFrom_box _ 0 rfl rfl) | exact rd_extract rfl rfl | exact rd_lenSl (F.un _ rfl) rfl | exact rd_lenStr (F.un _ rfl) rfl | exact rd_nilCheck rfl | exact rd_pickT rfl rfl | exact rd_pickF rfl rfl), ?_⟩)); exact trivial), ?_⟩ | refine ⟨.inl (by kernel_rfl), ?_⟩)))
    (repeat (first | refine y_seq ?_ | refine w_region ?_ | refine y_regEnd ?_ | refine y_skip ?_ | refine y_condF rfl ?_ | refine w_move rfl rfl rfl ?_ | refine w_assign rfl rfl rfl ?_))
    rw [show Sort.order2 ltP d a b k = (a, b, k) by rw [Sort.order2, if_neg (by simpa [ltP] using h1)]]
    ((apply w_ret Try.func80 (congrArg Array.toList Try.results80)); (focus (repeat (first | exact ResIs.nil | apply ResIs.tmp rfl))); refine ⟨_, rfl, Ends.mk [] (ExtOk.of rfl) rfl rfl ?_⟩)
    exact (by repeat (first | exact trivial | refine ⟨at_dat rfl, ?_⟩ | refine ⟨at_box rfl, ?_⟩))
theorem order2_lt {lt : Int × Int → Int × Int → Bool} {d : Array (Int × Int)} {a b k n : Nat} (ha : a < n) (hb : b < n) : (Sort.order2 lt d a b k).1 < n ∧ (Sort.order2 lt d a b k).2.1 < n ∧ (Sort.order2 lt d a b k).2.2 ≤ k + 1 := by
  unfold Sort.order2
  split
  · exact ⟨hb, ha, Nat.le_refl _⟩
  · exact ⟨ha, hb, Nat.le_succ _⟩
set_option maxRecDepth 100000 in
set_option maxHeartbeats 0 in
theorem median_spec (n a b c k : Nat) (d : Array (Int × Int)) (hn : n < 4611686018427387904) (hd : d.size = n) (ha : a < n) (hb : b < n) (hc : c < n) (hk : k < 900) :
    Ctr Try.prog 70 [.slu 0 0 n, .sc (.int .i64 (a : Int)), .sc (.int .i64 (b : Int)), .sc (.int .i64 (c : Int)), .ptr 1 0, cmpF] [rowP n d, cntB k] (fun r => r = ⟨.sc (.int .i64 ((Sort.median ltP d a b c k).1 : Int)), [some (rowP n d), some (cntB (Sort.median ltP d a b c k).2)]⟩) := by
  obtain ⟨q1, q2, q3⟩ := order2_lt (lt := ltP) (d := d) (k := k) ha hb
  have e1 := order2_spec n a b k d hn hd ha hb (by omega)
  unfold Sort.median
  generalize Sort.order2 ltP d a b k = r1 at q1 q2 q3 e1 ⊢
  obtain ⟨a1, b1, k1⟩ := r1
  obtain ⟨p1, p2, p3⟩ := order2_lt (lt := ltP) (d := d) (k := k1) q2 hc
  have e2 := order2_spec n b1 c k1 d hn hd q2 hc (by simp only at q3; omega)
  simp only at q1 q2 q3 p1 p2 p3 e1 e2 ⊢
  generalize Sort.order2 ltP d b1 c k1 = r2 at p1 p2 p3 e2 ⊢
  obtain ⟨b2, c2, k2⟩ := r2
  obtain ⟨o1, o2, o3⟩ := order2_lt (lt := ltP) (d := d) (k := k2) q1 p1
  have e3 := order2_spec n a1 b2 k2 d hn hd q1 p1 (by simp only at p3; omega)
  simp only at p1 p2 p3 o1 o2 o3 e2 e3 ⊢
  generalize Sort.order2 ltP d a1 b2 k2 = r3 at o1 o2 o3 e3 ⊢
  obtain ⟨a3, b3, k3⟩ := r3
  simp only at o1 o2 o3 e3 ⊢
  refine Fnc.start Try.func70 rfl rfl ?_
  (repeat (first | (first | refine y_seq ?_ | refine w_region ?_ | refine y_regEnd ?_ | refine w_move rfl rfl rfl ?_ | refine w_assign rfl rfl rfl ?_ | refine w_extract rfl rfl rfl rfl ?_) | refine w_callFn rfl rfl rfl (by kernel_rfl) (Ctr.callD (e1) [0, 1] rfl (ExtOk.of rfl) rfl (by repeat (first | exact trivial | refine ⟨at_dat rfl, ?_⟩ | refine ⟨at_box rfl, ?_⟩)) rfl (by repeat (first | exact trivial | refine ⟨closed_dat, ?_⟩ | refine ⟨closed_box (fun _ => rfl), ?_⟩)) (fun _ => rfl) rfl rfl) ?_ | refine w_callFn rfl rfl rfl (by kernel_rfl) (Ctr.callD (e2) [0, 1] rfl (ExtOk.of rfl) rfl (by repeat (first | exact trivial | refine ⟨at_dat rfl, ?_⟩ | refine ⟨at_box rfl, ?_⟩)) rfl (by repeat (first | exact trivial | refine ⟨closed_dat, ?_⟩ | refine ⟨closed_box (fun _ => rfl), ?_⟩)) (fun _ => rfl) rfl rfl) ?_ | refine w_callFn rfl rfl rfl (by kernel_rfl) (Ctr.callD (e3) [0, 1] rfl (ExtOk.of rfl) rfl (by repeat (first | exact trivial | refine ⟨at_dat rfl, ?_⟩ | refine ⟨at_box rfl, ?_⟩)) rfl (by repeat (first | exact trivial | refine ⟨closed_dat, ?_⟩ | refine ⟨closed_box (fun _ => rfl), ?_⟩)) (fun _ => rfl) rfl rfl) ?_))
  ((apply w_ret Try.func70 (congrArg Array.toList Try.results70)); (focus (repeat (first | exact ResIs.nil | apply ResIs.tmp rfl))); refine ⟨_, rfl, Ends.mk [] (ExtOk.of rfl) rfl rfl ?_⟩)
  exact (by repeat (first | exact trivial | refine ⟨at_dat rfl, ?_⟩ | refine ⟨at_box rfl, ?_⟩))
theorem median_lt {lt : Int × Int → Int × Int → Bool} {d : Array (Int × Int)} {a b c k n : Nat} (ha : a < n) (hb : b < n) (hc : c < n) : (Sort.median lt d a b c k).1 < n ∧ (Sort.median lt d a b c k).2 ≤ k + 3 := by
  obtain ⟨q1, q2, q3⟩ := order2_lt (lt := lt) (d := d) (k := k) ha hb
  obtain ⟨p1, p2, p3⟩ := order2_lt (lt := lt) (d := d) (k := (Sort.order2 lt d a b k).2.2) q2 hc
  obtain ⟨o1, o2, o3⟩ := order2_lt (lt := lt) (d := d) (k := (Sort.order2 lt d (Sort.order2 lt d a b k).2.1 c (Sort.order2 lt d a b k).2.2).2.2) q1 p1
  exact ⟨o2, by simp only [Sort.median]; omega⟩
set_option maxRecDepth 100000 in
set_option maxHeartbeats 0 in
theorem medAdj_spec (n a k : Nat) (d : Array (Int × Int)) (hn : n < 4611686018427387904) (hd : d.size = n) (ha : a + 1 < n) (h1 : 1 ≤ a) (hk : k < 900) :
    Ctr Try.prog 69 [.slu 0 0 n, .sc (.int .i64 (a : Int)), .ptr 1 0, cmpF] [rowP n d, cntB k] (fun r => r = ⟨.sc (.int .i64 ((Sort.medianAdjacent ltP d a k).1 : Int)), [some (rowP n d), some (cntB (Sort.medianAdjacent ltP d a k).2)]⟩) := by
  obtain ⟨a, rfl⟩ : ∃ a', a = a' + 1 := ⟨a - 1, by omega⟩
  have e := median_spec n a (a + 1) (a + 1 + 1) k d hn hd (by omega) (by omega) (by omega) hk
  have e0 : ((a : Nat) : Int) = ((a + 1 : Nat) : Int) - 1 := by omega
  rw [e0] at e
  refine Fnc.start Try.func69 rfl rfl ?_
  (repeat (first | (first | refine y_seq ?_ | refine w_region ?_ | refine y_regEnd ?_ | refine w_move rfl rfl rfl ?_ | refine w_assign rfl rfl rfl ?_ | refine w_add rfl rfl rfl rfl (by omega) (by omega) ?_ | refine w_sub rfl rfl rfl rfl (by omega) (by omega) ?_) | refine w_callFn rfl rfl rfl (by kernel_rfl) (Ctr.callD (e) [0, 1] rfl (ExtOk.of rfl) rfl (by repeat (first | exact trivial | refine ⟨at_dat rfl, ?_⟩ | refine ⟨at_box rfl, ?_⟩)) rfl (by repeat (first | exact trivial | refine ⟨closed_dat, ?_⟩ | refine ⟨closed_box (fun _ => rfl), ?_⟩)) (fun _ => rfl) rfl rfl) ?_))
  ((apply w_ret Try.func69 (congrArg Array.toList Try.results69)); (focus (repeat (first | exact ResIs.nil | apply ResIs.tmp rfl))); refine ⟨_, rfl, Ends.mk [] (ExtOk.of rfl) rfl rfl ?_⟩)
  exact (by repeat (first | exact trivial | refine ⟨at_dat rfl, ?_⟩ | refine ⟨at_box rfl, ?_⟩))
end Go.Proofs.Ytfkfiafohcoomaa
end
section
namespace Go.Proofs.Ytfkfiafohcoomaa
open Go Go.Sy
def hintI : Sort.Hint → Int
  | .unknown => 0
  | .increasing => 1
  | .decreasing => 2
set_option maxRecDepth 100000 in
set_option maxHeartbeats 0 in
theorem piv_spec (n a b : Nat) (d : Array (Int × Int)) (hn : n < 4611686018427387904) (hd : d.size = n) (hab : a < b) (hb : b ≤ n) :
    Ctr Try.prog 56 [.slu 0 0 n, .sc (.int .i64 (a : Int)), .sc (.int .i64 (b : Int)), cmpF] [rowP n d] (fun r => r = ⟨.tup [.sc (.int .i64 ((Sort.choosePivot ltP d a b).1 : Int)), .sc (.int .i64 (hintI (Sort.choosePivot ltP d a b).2))], [some (rowP n d)]⟩) := by
  have e1 : ((a : Int) + ((b : Int) - (a : Int)) / 4 * 1) = ((a + (b - a) / 4 * 1 : Nat) : Int) := by omega
  have e2 : ((a : Int) + ((b : Int) - (a : Int)) / 4 * 2) = ((a + (b - a) / 4 * 2 : Nat) : Int) := by omega
  have e3 : ((a : Int) + ((b : Int) - (a : Int)) / 4 * 3) = ((a + (b - a) / 4 * 3 : Nat) : Int) := by omega
  refine Fnc.start Try.func56 rfl rfl ?_
  (repeat (first | refine y_seq ?_ | refine w_region ?_ | refine y_regEnd ?_ | refine w_move rfl rfl rfl ?_ | refine w_assign rfl rfl rfl ?_ | refine w_alloc rfl rfl (F.zl _ rfl) ?_ | refine w_add rfl rfl rfl rfl (by omega) (by omega) ?_ | refine w_sub rfl rfl rfl rfl (by omega) (by omega) ?_ | refine w_mul rfl rfl rfl rfl (by omega) (by omega) ?_ | refine w_quo rfl rfl rfl rfl (by omega) (by omega) (by omega) ?_))
  rw [e1, e2, e3]
  have fin : ∀ (T : Tr SV) (H : Heap) (nx : Nat) (p k : Nat), True := fun _ _ _ _ _ => trivial
  refine w_geqS rfl rfl rfl rfl ?_ ?_
  all_goals intro h1
  · (repeat (first | refine y_seq ?_ | refine w_region ?_ | refine y_regEnd ?_ | refine y_condT rfl ?_ | refine w_move rfl rfl rfl ?_))
    refine w_geqS rfl rfl rfl rfl ?_ ?_
    all_goals intro h2
    · have m1 := medAdj_spec n (a + (b - a) / 4 * 1) 0 d hn hd (by omega) (by omega) (by omega)
      have l1 : (Sort.medianAdjacent ltP d (a + (b - a) / 4 * 1) 0).1 < n ∧ (Sort.medianAdjacent ltP d (a + (b - a) / 4 * 1) 0).2 ≤ 0 + 3 := median_lt (by omega) (by omega) (by omega)
      have ec : Sort.choosePivot ltP d a b = Sort.choosePivot ltP d a b := rfl
      conv at ec => rhs; unfold Sort.choosePivot
      simp only [show b - a ≥ 8 by omega, show b - a ≥ 50 by omega, if_true] at ec
      generalize Sort.medianAdjacent ltP d (a + (b - a) / 4 * 1) 0 = r1 at m1 l1 ec
      have m2 := medAdj_spec n (a + (b - a) / 4 * 2) r1.2 d hn hd (by omega) (by omega) (by omega)
      have l2 : (Sort.medianAdjacent ltP d (a + (b - a) / 4 * 2) r1.2).1 < n ∧ (Sort.medianAdjacent ltP d (a + (b - a) / 4 * 2) r1.2).2 ≤ r1.2 + 3 := median_lt (by omega) (by omega) (by omega)
      generalize Sort.medianAdjacent ltP d (a + (b - a) / 4 * 2) r1.2 = r2 at m2 l2 ec
      have m3 := medAdj_spec n (a + (b - a) / 4 * 3) r2.2 d hn hd (by omega) (by omega) (by omega)
      have l3 : (Sort.medianAdjacent ltP d (a + (b - a) / 4 * 3) r2.2).1 < n ∧ (Sort.medianAdjacent ltP d (a + (b - a) / 4 * 3) r2.2).2 ≤ r2.2 + 3 := median_lt (by omega) (by omega) (by omega)
      generalize Sort.medianAdjacent ltP d (a + (b - a) / 4 * 3) r2.2 = r3 at m3 l3 ec
      have m4 := median_spec n r1.1 r2.1 r3.1 r3.2 d hn hd l1.1 l2.1 l3.1 (by omega)
      generalize Sort.median ltP d r1.1 r2.1 r3.1 r3.2 = r4 at m4 ec
      rw [ec]
      obtain ⟨p, k⟩ := r4
      (repeat (first | (first | refine y_seq ?_ | refine w_region ?_ | refine y_regEnd ?_ | refine y_block ?_ | refine y_condT rfl ?_ | refine w_move rfl rfl rfl ?_ | refine w_assign rfl rfl rfl ?_ | refine w_loadB1 rfl rfl rfl (F.ag _ rfl) rfl rfl ?_) | refine w_callFn rfl rfl rfl (by kernel_rfl) (Ctr.callD (m1) [0, 1] rfl (ExtOk.of rfl) rfl (by repeat (first | exact trivial | refine ⟨at_dat rfl, ?_⟩ | refine ⟨at_box rfl, ?_⟩)) rfl (by repeat (first | exact trivial | refine ⟨closed_dat, ?_⟩ | refine ⟨closed_box (fun _ => rfl), ?_⟩)) (fun _ => rfl) rfl rfl) ?_ | refine w_callFn rfl rfl rfl (by kernel_rfl) (Ctr.callD (m2) [0, 1] rfl (ExtOk.of rfl) rfl (by repeat (first | exact trivial | refine ⟨at_dat rfl, ?_⟩ | refine ⟨at_box rfl, ?_⟩)) rfl (by repeat (first | exact trivial | refine ⟨closed_dat, ?_⟩ | refine ⟨closed_box (fun _ => rfl), ?_⟩)) (fun _ => rfl) rfl rfl) ?_ | refine w_callFn rfl rfl rfl (by kernel_rfl) (Ctr.callD (m3) [0, 1] rfl (ExtOk.of rfl) rfl (by repeat (first | exact trivial | refine ⟨at_dat rfl, ?_⟩ | refine ⟨at_box rfl, ?_⟩)) rfl (by repeat (first | exact trivial | refine ⟨closed_dat, ?_⟩ | refine ⟨closed_box (fun _ => rfl), ?_⟩)) (fun _ => rfl) rfl rfl) ?_ | refine w_callFn rfl rfl rfl (by kernel_rfl) (Ctr.callD (m4) [0, 1] rfl (ExtOk.of rfl) rfl (by repeat (first | exact trivial | refine ⟨at_dat rfl, ?_⟩ | refine ⟨at_box rfl, ?_⟩)) rfl (by repeat (first | exact trivial | refine ⟨closed_dat, ?_⟩ | refine ⟨closed_box (fun _ => rfl), ?_⟩)) (fun _ => rfl) rfl rfl) ?_))
      refine w_eqlS rfl rfl rfl rfl ?_ ?_
      all_goals intro h3
      · (repeat (first | refine y_seq ?_ | refine w_region ?_ | refine y_regEnd ?_ | refine y_condT rfl ?_ | refine w_move rfl rfl rfl ?_ | refine w_assign rfl rfl rfl ?_))
        rw [if_pos (show (p, k).2 = 0 by simp only; omega)]
        ((apply w_ret Try.func56 (congrArg Array.toList Try.results56)); (focus (repeat (first | exact ResIs.nil | apply ResIs.tmp rfl))); refine ⟨_, rfl, Ends.mk [] (ExtOk.of rfl) rfl rfl ?_⟩)
        exact (by repeat (first | exact trivial | refine ⟨at_dat rfl, ?_⟩))
      · (repeat (first | refine y_seq ?_ | refine w_region ?_ | refine y_regEnd ?_ | refine y_condF rfl ?_ | refine w_assign rfl rfl rfl ?_))
        refine w_eqlS rfl rfl rfl rfl ?_ ?_
        all_goals intro h4
        · (repeat (first | refine y_seq ?_ | refine w_region ?_ | refine y_regEnd ?_ | refine y_condT rfl ?_ | refine w_move rfl rfl rfl ?_ | refine w_assign rfl rfl rfl ?_))
          rw [if_neg (show ¬ (p, k).2 = 0 by simp only; omega), if_pos (show (p, k).2 = 12 by simp only; omega)]
          ((apply w_ret Try.func56 (congrArg Array.toList Try.results56)); (focus (repeat (first | exact ResIs.nil | apply ResIs.tmp rfl))); refine ⟨_, rfl, Ends.mk [] (ExtOk.of rfl) rfl rfl ?_⟩)
          exact (by repeat (first | exact trivial | refine ⟨at_dat rfl, ?_⟩))
        · (repeat (first | refine y_seq ?_ | refine w_region ?_ | refine y_regEnd ?_ | refine y_condF rfl ?_ | refine w_move rfl rfl rfl ?_ | refine w_assign rfl rfl rfl ?_))
          rw [if_neg (show ¬ (p, k).2 = 0 by simp only; omega), if_neg (show ¬ (p, k).2 = 12 by simp only; omega)]
          ((apply w_ret Try.func56 (congrArg Array.toList Try.results56)); (focus (repeat (first | exact ResIs.nil | apply ResIs.tmp rfl))); refine ⟨_, rfl, Ends.mk [] (ExtOk.of rfl) rfl rfl ?_⟩)
          exact (by repeat (first | exact trivial | refine ⟨at_dat rfl, ?_⟩))
    · have ec : Sort.choosePivot ltP d a b = Sort.choosePivot ltP d a b := rfl
      conv at ec => rhs; unfold Sort.choosePivot
      simp only [show b - a ≥ 8 by omega, show ¬ (b - a ≥ 50) by omega, if_true, if_false] at ec
      have m4 := median_spec n (a + (b - a) / 4 * 1) (a + (b - a) / 4 * 2) (a + (b - a) / 4 * 3) 0 d hn hd (by omega) (by omega) (by omega) (by omega)
      generalize Sort.median ltP d (a + (b - a) / 4 * 1) (a + (b - a) / 4 * 2) (a + (b - a) / 4 * 3) 0 = r4 at m4 ec
      rw [ec]
      obtain ⟨p, k⟩ := r4
      (repeat (first | (first | refine y_seq ?_ | refine w_region ?_ | refine y_regEnd ?_ | refine y_block ?_ | refine y_skip ?_ | refine y_condF rfl ?_ | refine w_move rfl rfl rfl ?_ | refine w_assign rfl rfl rfl ?_ | refine w_loadB1 rfl rfl rfl (F.ag _ rfl) rfl rfl ?_) | refine w_callFn rfl rfl rfl (by kernel_rfl) (Ctr.callD (m4) [0, 1] rfl (ExtOk.of rfl) rfl (by repeat (first | exact trivial | refine ⟨at_dat rfl, ?_⟩ | refine ⟨at_box rfl, ?_⟩)) rfl (by repeat (first | exact trivial | refine ⟨closed_dat, ?_⟩ | refine ⟨closed_box (fun _ => rfl), ?_⟩)) (fun _ => rfl) rfl rfl) ?_))
      refine w_eqlS rfl rfl rfl rfl ?_ ?_
      all_goals intro h3
      · (repeat (first | refine y_seq ?_ | refine w_region ?_ | refine y_regEnd ?_ | refine y_condT rfl ?_ | refine w_move rfl rfl rfl ?_ | refine w_assign rfl rfl rfl ?_))
        rw [if_pos (show (p, k).2 = 0 by simp only; omega)]
        ((apply w_ret Try.func56 (congrArg Array.toList Try.results56)); (focus (repeat (first | exact ResIs.nil | apply ResIs.tmp rfl))); refine ⟨_, rfl, Ends.mk [] (ExtOk.of rfl) rfl rfl ?_⟩)
        exact (by repeat (first | exact trivial | refine ⟨at_dat rfl, ?_⟩))
      · (repeat (first | refine y_seq ?_ | refine w_region ?_ | refine y_regEnd ?_ | refine y_condF rfl ?_ | refine w_assign rfl rfl rfl ?_))
        refine w_eqlS rfl rfl rfl rfl ?_ ?_
        all_goals intro h4
        · (repeat (first | refine y_seq ?_ | refine w_region ?_ | refine y_regEnd ?_ | refine y_condT rfl ?_ | refine w_move rfl rfl rfl ?_ | refine w_assign rfl rfl rfl ?_))
          rw [if_neg (show ¬ (p, k).2 = 0 by simp only; omega), if_pos (show (p, k).2 = 12 by simp only; omega)]
          ((apply w_ret Try.func56 (congrArg Array.toList Try.results56)); (focus (repeat (first | exact ResIs.nil | apply ResIs.tmp rfl))); refine ⟨_, rfl, Ends.mk [] (ExtOk.of rfl) rfl rfl ?_⟩)
          exact (by repeat (first | exact trivial | refine ⟨at_dat rfl, ?_⟩))
        · (repeat (first | refine y_seq ?_ | refine w_region ?_ | refine y_regEnd ?_ | refine y_condF rfl ?_ | refine w_move rfl rfl rfl ?_ | refine w_assign rfl rfl rfl ?_))
          rw [if_neg (show ¬ (p, k).2 = 0 by simp only; omega), if_neg (show ¬ (p, k).2 = 12 by simp only; omega)]
          ((apply w_ret Try.func56 (congrArg Array.toList Try.results56)); (focus (repeat (first | exact ResIs.nil | apply ResIs.tmp rfl))); refine ⟨_, rfl, Ends.mk [] (ExtOk.of rfl) rfl rfl ?_⟩)
          exact (by repeat (first | exact trivial | refine ⟨at_dat rfl, ?_⟩))
  · have ec : Sort.choosePivot ltP d a b = (a + (b - a) / 4 * 2, .increasing) := by
      unfold Sort.choosePivot
      simp only [show ¬ (b - a ≥ 8) by omega, if_false, if_true]
    rw [ec]
    (repeat (first | (first | refine y_seq ?_ | refine w_region ?_ | refine y_regEnd ?_ | refine y_block ?_ | refine y_skip ?_ | refine y_condT rfl ?_ | refine y_condF rfl ?_ | refine w_move rfl rfl rfl ?_ | refine w_assign rfl rfl rfl ?_ | refine w_loadB1 rfl rfl rfl (F.ag _ rfl) rfl rfl ?_) | refine w_eql rfl rfl rfl rfl ?_))
    ((apply w_ret Try.func56 (congrArg Array.toList Try.results56)); (focus (repeat (first | exact ResIs.nil | apply ResIs.tmp rfl))); refine ⟨_, rfl, Ends.mk [] (ExtOk.of rfl) rfl rfl ?_⟩)
    exact (by repeat (first | exact trivial | refine ⟨at_dat rfl, ?_⟩))
end Go.Proofs.Ytfkfiafohcoomaa
end
section
namespace Go.Sy
open Go Go.Sl Go.RowKit
section
variable {P : Program}
theorem y_loopE {α β : Type} {fn nt k0 nx id : Nat} {T : Tr SV} {k : List AIt} {dfs : List ADf} {H : Heap} {Q0 : Cz → Prop} {b : Code} (n : Nat) (sl : α → List (Nat × SV)) (ob : α → List (Option VO)) (φ : α → Prop) (μ : α → Nat) (a0 : α) (L0 : List Nat)
    (n2 : Nat) (sl2 : β → List (Nat × SV)) (ob2 : β → List (Option VO)) (ψ : β → Prop)
    (hn : ∀ a, (ob a).length = n) (hn2 : ∀ a, (ob2 a).length = n2) (h0 : φ a0) (hi : IsAt k0 L0 (sl a0) (ob a0) T H nx) (hk : ∀ ρ, k.map (AIt.ren ρ) = k) (hd : ∀ ρ, dfs.map (ADf.ren ρ) = dfs)
    (body : ∀ a, φ a → (∀ T' H' nx' a' L', φ a' → μ a' < μ a → IsAt k0 L' (sl a') (ob a') T' H' nx' → Wp P none ⟨fn, nt, T', .inLoop b :: .inBlock id :: k, dfs, H', nx'⟩ (fun r => ∃ c, Q0 c ∧ Ends k0 c r)) →
      (∀ T' H' nx' a' L', ψ a' → IsAt k0 L' (sl2 a') (ob2 a') T' H' nx' → Wp P none ⟨fn, nt, T', k, dfs, H', nx'⟩ (fun r => ∃ c, Q0 c ∧ Ends k0 c r)) →
      Wp P none ⟨fn, nt, slT (sl a), .code b :: .inLoop b :: .inBlock id :: k, dfs, heapO (ob a), n⟩ (fun r => ∃ c, Q0 c ∧ Ends k0 c r))
    (exit : ∀ a, ψ a → Wp P none ⟨fn, nt, slT (sl2 a), k, dfs, heapO (ob2 a), n2⟩ (fun r => ∃ c, Q0 c ∧ Ends k0 c r)) :
    Wp P none ⟨fn, nt, T, .code (.loop b) :: .inBlock id :: k, dfs, H, nx⟩ (fun r => ∃ c, Q0 c ∧ Ends k0 c r) :=
  y_loopC n sl ob φ μ a0 L0 hn h0 hi (fun ρ => by simp [AIt.ren, hk ρ]) hd fun a ha again => body a ha again fun T' H' nx' a' L' hψ hat => by
    refine Wp.can hat (hk _) (hd _) ?_
    rw [hn2 a']
    exact exit a' hψ
end
end Go.Sy
end
section
namespace Go.Proofs.Ytfkfiafohcoomaa
open Go Go.Sy
theorem scanUp_go {p : Int × Int → Bool} {d : Array (Int × Int)} {i j : Nat} (h : i ≤ j) (hp : p d[i]! = true) : Sort.scanUp p d j i = Sort.scanUp p d j (i + 1) := by
  conv => lhs; rw [Sort.scanUp, if_pos (by simp [h, hp])]
theorem scanUp_stop {p : Int × Int → Bool} {d : Array (Int × Int)} {i j : Nat} (h : j < i ∨ p d[i]! = false) : Sort.scanUp p d j i = i := by
  rw [Sort.scanUp, if_neg]
  simp only [Bool.and_eq_true, decide_eq_true_eq]
  rintro ⟨h1, h2⟩
  rcases h with h | h
  · omega
  · rw [h] at h2; cases h2
theorem scanDown_go {p : Int × Int → Bool} {d : Array (Int × Int)} {i j : Nat} (h : i ≤ j + 1) (hp : p d[j + 1]! = true) : Sort.scanDown p d i (j + 1) = Sort.scanDown p d i j := by
  conv => lhs; rw [Sort.scanDown, if_pos (by simp [h, hp])]
theorem scanDown_stop {p : Int × Int → Bool} {d : Array (Int × Int)} {i j : Nat} (h : j < i ∨ p d[j]! = false) : Sort.scanDown p d i j = j := by
  cases j with
  | zero => rfl
  | succ j =>
    rw [Sort.scanDown, if_neg]
    simp only [Bool.and_eq_true, decide_eq_true_eq]
    rintro ⟨h1, h2⟩
    rcases h with h | h
    · omega
    · rw [h] at h2; cases h2
theorem partEq_step {lt : Int × Int → Int × Int → Bool} {d : Array (Int × Int)} {a i j i2 j2 : Nat} (hi : Sort.scanUp (fun x => !lt d[a]! x) d j i = i2) (hj : Sort.scanDown (fun x => lt d[a]! x) d i2 j = j2) (h1 : i ≤ i2) (h2 : j2 ≤ j) :
    Sort.partEqLoop lt a i j d = if j2 < i2 then (i2, d) else Sort.partEqLoop lt a (i2 + 1) (j2 - 1) (Sort.swp d i2 j2) := by
  conv => lhs; unfold Sort.partEqLoop
  simp only [hi, hj]
  split
  · rfl
  · rw [dif_pos (by omega)]
set_option maxRecDepth 100000 in
set_option maxHeartbeats 0 in
theorem partEq_spec (n a b pv : Nat) (d : Array (Int × Int)) (hn : n < 4611686018427387904) (hd : d.size = n) (hap : a ≤ pv) (hpb : pv < b) (hb : b ≤ n) :
    Ctr Try.prog 59 [.slu 0 0 n, .sc (.int .i64 (a : Int)), .sc (.int .i64 (b : Int)), .sc (.int .i64 (pv : Int)), cmpF] [rowP n d] (fun c => c = ⟨.sc (.int .i64 ((Sort.partitionEqual ltP d a b pv).1 : Int)), [some (rowP n (Sort.partitionEqual ltP d a b pv).2)]⟩) := by
  refine Fnc.start Try.func59 rfl rfl ?_
  (repeat (first | refine y_seq ?_ | refine w_region ?_ | refine y_regEnd ?_ | refine w_assign rfl rfl rfl ?_))
  refine w_draw (by kernel_rfl) (by kernel_rfl) ?_
  (repeat (first | refine dw_move rfl rfl rfl ?_ | refine dw_ldR rfl rfl rfl (F.ag _ rfl) (recP) rfl (by first | omega | (simp only [Array.size_setIfInBounds, swp_size]; omega)) (by first | omega | (simp only [Array.size_setIfInBounds, swp_size]; omega)) ?_ | refine dw_stR rfl rfl rfl (recP) (F.sz _ rfl) rfl (by first | omega | (simp only [Array.size_setIfInBounds, swp_size]; omega)) (by first | omega | (simp only [Array.size_setIfInBounds, swp_size]; omega)) ?_ | refine dw_idxN (q := a) rfl rfl rfl rfl (F.un _ rfl) (F.sz _ rfl) rfl (by omega) (by omega) (by omega) ?_ | refine dw_idxN (q := pv) rfl rfl rfl rfl (F.un _ rfl) (F.sz _ rfl) rfl (by omega) (by omega) (by omega) ?_))
  (refine dk_nil ?_); (refine ⟨by kernel_rfl, ?_, ?_⟩); (focus (repeat (first | exact trivial | refine ⟨.inl rfl, ?_⟩ | refine ⟨.inr (by (repeat (refine ⟨(by first | exact rd_idxN (F.un _ rfl) (F.sz _ rfl) rfl rfl rfl (by omega) (by omega) (by omega) | exact rd_arith rfl rfl (.inl ⟨rfl, (Go.IntWalk.i64_in _ ⟨by omega, by omega⟩).symm⟩) | exact rd_arith rfl rfl (.inr (.inl ⟨rfl, (Go.IntWalk.i64_in _ ⟨by omega, by omega⟩).symm⟩)) | exact rd_fieldAddr (F.fo _ _ rfl rfl) rfl | exact rd_move rfl | exact rd_assign rfl | exact rd_load1 (F.ag _ rfl) rfl rfl (cell_box rfl) | exact rd_loadN (F.ag _ rfl) rfl rfl (cellsFrom_box _ 0 rfl rfl) | exact rd_extract rfl rfl | exact rd_lenSl (F.un _ rfl) rfl | exact rd_lenStr (F.un _ rfl) rfl | exact rd_nilCheck rfl | exact rd_pickT rfl rfl | exact rd_pickF rfl rfl), ?_⟩)); exact trivial), ?_⟩ | refine ⟨.inl (by kernel_rfl), ?_⟩)))
  (repeat (first | refine y_seq ?_ | refine w_region ?_ | refine y_regEnd ?_ | refine y_block ?_ | refine w_move rfl rfl rfl ?_ | refine w_assign rfl rfl rfl ?_ | refine w_add rfl rfl rfl rfl (by omega) (by omega) ?_ | refine w_sub rfl rfl rfl rfl (by omega) (by omega) ?_))
  refine y_loopC 1 (fun s : (Nat × Nat) × Array (Int × Int) => [(0, .slu 0 0 n), (1, .sc (.int .i64 (a : Int))), (4, cmpF), (11, .sc (.int .i64 (s.1.1 : Int))), (12, .sc (.int .i64 (s.1.2 : Int)))]) (fun s => [some (rowP n s.2)]) (fun s => a < s.1.1 ∧ s.1.1 ≤ n ∧ s.1.2 < n ∧ s.2.size = n ∧ Sort.partEqLoop ltP a s.1.1 s.1.2 s.2 = Sort.partitionEqual ltP d a b pv) (fun s => s.1.2 + 1 - s.1.1) ((a + 1, b - 1), Sort.swp d a pv) []
    (fun _ => rfl) ⟨by simp only; omega, by simp only; omega, by simp only; omega, by rw [swp_size]; exact hd, rfl⟩ ?_ (fun _ => rfl) (fun _ => rfl) ?_
  · (refine ⟨(ExtOk.of rfl), rfl, (by repeat (first | exact trivial | refine ⟨rfl, ?_⟩ | refine ⟨sl_eq (by first | omega | (simp only; omega)), ?_⟩)), (by repeat (first | exact trivial | refine ⟨at_dat rfl, ?_⟩))⟩)
  rintro ⟨⟨i, j⟩, d1⟩ ⟨hai, hi, hj, hd1, ho⟩ ih
  simp only at hai hi hj hd1 ho ih ⊢
  (repeat (first | refine y_seq ?_ | refine y_block ?_))
  refine y_loopE 1 (fun x : Nat => [(0, .slu 0 0 n), (1, .sc (.int .i64 (a : Int))), (4, cmpF), (11, .sc (.int .i64 (x : Int))), (12, .sc (.int .i64 (j : Int)))]) (fun _ => [some (rowP n d1)]) (fun x => i ≤ x ∧ x ≤ n ∧ Sort.scanUp (fun y => !ltP d1[a]! y) d1 j x = Sort.scanUp (fun y => !ltP d1[a]! y) d1 j i) (fun x => n - x) i []
    1 (fun x : Nat => [(0, .slu 0 0 n), (1, .sc (.int .i64 (a : Int))), (4, cmpF), (11, .sc (.int .i64 (x : Int))), (12, .sc (.int .i64 (j : Int)))]) (fun _ => [some (rowP n d1)]) (fun x => i ≤ x ∧ x ≤ n ∧ Sort.scanUp (fun y => !ltP d1[a]! y) d1 j i = x)
    (fun _ => rfl) (fun _ => rfl) ⟨Nat.le_refl _, hi, rfl⟩ ?_ (fun _ => rfl) (fun _ => rfl) ?_ ?_
  · (refine ⟨(ExtOk.of rfl), rfl, (by repeat (first | exact trivial | refine ⟨rfl, ?_⟩)), (by repeat (first | exact trivial | refine ⟨at_dat rfl, ?_⟩))⟩)
  · rintro i1 ⟨hii, hi1, hu⟩ ihu out
    (repeat (refine y_seq ?_))
    refine w_draw (by kernel_rfl) (by kernel_rfl) ?_
    (repeat (refine dw_move rfl rfl rfl ?_))
    refine dw_leqS rfl rfl rfl rfl ?_ ?_
    all_goals intro h1
    · (repeat (first | refine dw_move rfl rfl rfl ?_ | refine dw_ldR rfl rfl rfl (F.ag _ rfl) (recP) rfl (by first | omega | (simp only [Array.size_setIfInBounds, swp_size]; omega)) (by first | omega | (simp only [Array.size_setIfInBounds, swp_size]; omega)) ?_ | refine dw_idxN (q := a) rfl rfl rfl rfl (F.un _ rfl) (F.sz _ rfl) rfl (by omega) (by omega) (by omega) ?_ | refine dw_idxN (q := i1) rfl rfl rfl rfl (F.un _ rfl) (F.sz _ rfl) rfl (by omega) (by omega) (by omega) ?_ | refine dk_callF rfl rfl rfl rfl (by kernel_rfl) rfl (Ctr.callV (cmp_spec d1[a]! d1[i1]!) [] rfl (ExtOk.of rfl) rfl trivial rfl) ?_))
      refine dw_lssS rfl rfl rfl rfl ?_ ?_
      all_goals intro h2
      · (repeat (first | refine dw_pickT rfl rfl rfl rfl ?_ | refine dw_notB rfl rfl rfl ?_))
        (refine dk_nil ?_); (refine ⟨by kernel_rfl, ?_, ?_⟩); (focus (repeat (first | exact trivial | refine ⟨.inl rfl, ?_⟩ | refine ⟨.inr (by (repeat (refine ⟨(by first | exact rd_idxN (F.un _ rfl) (F.sz _ rfl) rfl rfl rfl (by omega) (by omega) (by omega) | exact rd_arith rfl rfl (.inl ⟨rfl, (Go.IntWalk.i64_in _ ⟨by omega, by omega⟩).symm⟩) | exact rd_arith rfl rfl (.inr (.inl ⟨rfl, (Go.IntWalk.i64_in _ ⟨by omega, by omega⟩).symm⟩)) | exact rd_fieldAddr (F.fo _ _ rfl rfl) rfl | exact rd_move rfl | exact rd_assign rfl | exact rd_load1 (F.ag _ rfl) rfl rfl (cell_box rfl) | exact rd_loadN (F.ag _ rfl) rfl rfl (cellsFrom_box _ 0 rfl rfl) | exact rd_extract rfl rfl | exact rd_lenSl (F.un _ rfl) rfl | exact rd_lenStr (F.un _ rfl) rfl | exact rd_nilCheck rfl | exact rd_pickT rfl rfl | exact rd_pickF rfl rfl), ?_⟩)); exact trivial), ?_⟩ | refine ⟨.inl (by kernel_rfl), ?_⟩)))
        (repeat (first | (refine out _ _ _ i1 [] ⟨hii, hi1, by rw [← hu]; exact scanUp_stop (.inr (by simpa [ltP] using h2))⟩ ?_; (refine ⟨(ExtOk.of rfl), rfl, (by repeat (first | exact trivial | refine ⟨rfl, ?_⟩)), (by repeat (first | exact trivial | refine ⟨at_dat rfl, ?_⟩))⟩)) | (first | refine y_exit rfl ?_ | refine y_condF rfl ?_)))
      · (repeat (first | refine dw_pickT rfl rfl rfl rfl ?_ | refine dw_notB rfl rfl rfl ?_))
        (refine dk_nil ?_); (refine ⟨by kernel_rfl, ?_, ?_⟩); (focus (repeat (first | exact trivial | refine ⟨.inl rfl, ?_⟩ | refine ⟨.inr (by (repeat (refine ⟨(by first | exact rd_idxN (F.un _ rfl) (F.sz _ rfl) rfl rfl rfl (by omega) (by omega) (by omega) | exact rd_arith rfl rfl (.inl ⟨rfl, (Go.IntWalk.i64_in _ ⟨by omega, by omega⟩).symm⟩) | exact rd_arith rfl rfl (.inr (.inl ⟨rfl, (Go.IntWalk.i64_in _ ⟨by omega, by omega⟩).symm⟩)) | exact rd_fieldAddr (F.fo _ _ rfl rfl) rfl | exact rd_move rfl | exact rd_assign rfl | exact rd_load1 (F.ag _ rfl) rfl rfl (cell_box rfl) | exact rd_loadN (F.ag _ rfl) rfl rfl (cellsFrom_box _ 0 rfl rfl) | exact rd_extract rfl rfl | exact rd_lenSl (F.un _ rfl) rfl | exact rd_lenStr (F.un _ rfl) rfl | exact rd_nilCheck rfl | exact rd_pickT rfl rfl | exact rd_pickF rfl rfl), ?_⟩)); exact trivial), ?_⟩ | refine ⟨.inl (by kernel_rfl), ?_⟩)))
        (repeat (first | refine w_region ?_ | refine y_regEnd ?_ | refine y_block ?_ | refine y_inBlock ?_ | refine y_skip ?_ | refine y_condT rfl ?_ | refine w_move rfl rfl rfl ?_ | refine w_assign rfl rfl rfl ?_ | refine w_add rfl rfl rfl rfl (by omega) (by omega) ?_))
        refine ihu _ _ _ (i1 + 1) [] ⟨by omega, by omega, ?_⟩ (by omega) ?_
        · rw [← hu]
          exact (scanUp_go (by omega) (by simpa [ltP] using h2)).symm
        · (refine ⟨(ExtOk.of rfl), rfl, (by repeat (first | exact trivial | refine ⟨rfl, ?_⟩)), (by repeat (first | exact trivial | refine ⟨at_dat rfl, ?_⟩))⟩)
    · (repeat (first | refine dw_move rfl rfl rfl ?_ | refine dw_pickF rfl rfl rfl rfl ?_ | refine dk_skip rfl rfl ?_))
      (refine dk_nil ?_); (refine ⟨by kernel_rfl, ?_, ?_⟩); (focus (repeat (first | exact trivial | refine ⟨.inl rfl, ?_⟩)))
      (repeat (first | (refine out _ _ _ i1 [] ⟨hii, hi1, by rw [← hu]; exact scanUp_stop (.inl (by omega))⟩ ?_; (refine ⟨(ExtOk.of rfl), rfl, (by repeat (first | exact trivial | refine ⟨rfl, ?_⟩)), (by repeat (first | exact trivial | refine ⟨at_dat rfl, ?_⟩))⟩)) | (first | refine y_exit rfl ?_ | refine y_condF rfl ?_)))
  rintro i2 ⟨hii, hi2, hu⟩
  (repeat (first | refine y_seq ?_ | refine y_block ?_))
  refine y_loopE 1 (fun x : Nat => [(0, .slu 0 0 n), (1, .sc (.int .i64 (a : Int))), (4, cmpF), (11, .sc (.int .i64 (i2 : Int))), (12, .sc (.int .i64 (x : Int)))]) (fun _ => [some (rowP n d1)]) (fun x => x ≤ j ∧ Sort.scanDown (fun y => ltP d1[a]! y) d1 i2 x = Sort.scanDown (fun y => ltP d1[a]! y) d1 i2 j) (fun x => x) j []
    1 (fun x : Nat => [(0, .slu 0 0 n), (1, .sc (.int .i64 (a : Int))), (4, cmpF), (11, .sc (.int .i64 (i2 : Int))), (12, .sc (.int .i64 (x : Int)))]) (fun _ => [some (rowP n d1)]) (fun x => x ≤ j ∧ Sort.scanDown (fun y => ltP d1[a]! y) d1 i2 j = x)
    (fun _ => rfl) (fun _ => rfl) ⟨Nat.le_refl _, rfl⟩ ?_ (fun _ => rfl) (fun _ => rfl) ?_ ?_
  · (refine ⟨(ExtOk.of rfl), rfl, (by repeat (first | exact trivial | refine ⟨rfl, ?_⟩)), (by repeat (first | exact trivial | refine ⟨at_dat rfl, ?_⟩))⟩)
  · rintro j1 ⟨hjj, hv⟩ ihv out
    (repeat (refine y_seq ?_))
    refine w_draw (by kernel_rfl) (by kernel_rfl) ?_
    (repeat (refine dw_move rfl rfl rfl ?_))
    refine dw_leqS rfl rfl rfl rfl ?_ ?_
    all_goals intro h1
    · (repeat (first | refine dw_move rfl rfl rfl ?_ | refine dw_ldR rfl rfl rfl (F.ag _ rfl) (recP) rfl (by first | omega | (simp only [Array.size_setIfInBounds, swp_size]; omega)) (by first | omega | (simp only [Array.size_setIfInBounds, swp_size]; omega)) ?_ | refine dw_idxN (q := a) rfl rfl rfl rfl (F.un _ rfl) (F.sz _ rfl) rfl (by omega) (by omega) (by omega) ?_ | refine dw_idxN (q := j1) rfl rfl rfl rfl (F.un _ rfl) (F.sz _ rfl) rfl (by omega) (by omega) (by omega) ?_ | refine dk_callF rfl rfl rfl rfl (by kernel_rfl) rfl (Ctr.callV (cmp_spec d1[a]! d1[j1]!) [] rfl (ExtOk.of rfl) rfl trivial rfl) ?_))
      refine dw_lssS rfl rfl rfl rfl ?_ ?_
      all_goals intro h2
      · (repeat (refine dw_pickT rfl rfl rfl rfl ?_))
        (refine dk_nil ?_); (refine ⟨by kernel_rfl, ?_, ?_⟩); (focus (repeat (first | exact trivial | refine ⟨.inl rfl, ?_⟩ | refine ⟨.inr (by (repeat (refine ⟨(by first | exact rd_idxN (F.un _ rfl) (F.sz _ rfl) rfl rfl rfl (by omega) (by omega) (by omega) | exact rd_arith rfl rfl (.inl ⟨rfl, (Go.IntWalk.i64_in _ ⟨by omega, by omega⟩).symm⟩) | exact rd_arith rfl rfl (.inr (.inl ⟨rfl, (Go.IntWalk.i64_in _ ⟨by omega, by omega⟩).symm⟩)) | exact rd_fieldAddr (F.fo _ _ rfl rfl) rfl | exact rd_move rfl | exact rd_assign rfl | exact rd_load1 (F.ag _ rfl) rfl rfl (cell_box rfl) | exact rd_loadN (F.ag _ rfl) rfl rfl (cellsFrom_box _ 0 rfl rfl) | exact rd_extract rfl rfl | exact rd_lenSl (F.un _ rfl) rfl | exact rd_lenStr (F.un _ rfl) rfl | exact rd_nilCheck rfl | exact rd_pickT rfl rfl | exact rd_pickF rfl rfl), ?_⟩)); exact trivial), ?_⟩ | refine ⟨.inl (by kernel_rfl), ?_⟩)))
        (repeat (first | refine w_region ?_ | refine y_regEnd ?_ | refine y_block ?_ | refine y_inBlock ?_ | refine y_skip ?_ | refine y_condT rfl ?_ | refine w_move rfl rfl rfl ?_ | refine w_assign rfl rfl rfl ?_ | refine w_sub rfl rfl rfl rfl (by omega) (by omega) ?_))
        obtain ⟨j1, rfl⟩ : ∃ j', j1 = j' + 1 := ⟨j1 - 1, by omega⟩
        refine ihv _ _ _ j1 [] ⟨by omega, ?_⟩ (by omega) ?_
        · rw [← hv]
          exact (scanDown_go (by omega) (by simpa [ltP] using h2)).symm
        · (refine ⟨(ExtOk.of rfl), rfl, (by repeat (first | exact trivial | refine ⟨rfl, ?_⟩ | refine ⟨sl_eq (by first | omega | (simp only; omega)), ?_⟩)), (by repeat (first | exact trivial | refine ⟨at_dat rfl, ?_⟩))⟩)
      · (repeat (refine dw_pickT rfl rfl rfl rfl ?_))
        (refine dk_nil ?_); (refine ⟨by kernel_rfl, ?_, ?_⟩); (focus (repeat (first | exact trivial | refine ⟨.inl rfl, ?_⟩ | refine ⟨.inr (by (repeat (refine ⟨(by first | exact rd_idxN (F.un _ rfl) (F.sz _ rfl) rfl rfl rfl (by omega) (by omega) (by omega) | exact rd_arith rfl rfl (.inl ⟨rfl, (Go.IntWalk.i64_in _ ⟨by omega, by omega⟩).symm⟩) | exact rd_arith rfl rfl (.inr (.inl ⟨rfl, (Go.IntWalk.i64_in _ ⟨by omega, by omega⟩).symm⟩)) | exact rd_fieldAddr (F.fo _ _ rfl rfl) rfl | exact rd_move rfl | exact rd_assign rfl | exact rd_load1 (F.ag _ rfl) rfl rfl (cell_box rfl) | exact rd_loadN (F.ag _ rfl) rfl rfl (cellsFrom_box _ 0 rfl rfl) | exact rd_extract rfl rfl | exact rd_lenSl (F.un _ rfl) rfl | exact rd_lenStr (F.un _ rfl) rfl | exact rd_nilCheck rfl | exact rd_pickT rfl rfl | exact rd_pickF rfl rfl), ?_⟩)); exact trivial), ?_⟩ | refine ⟨.inl (by kernel_rfl), ?_⟩)))
        (repeat (first | (refine out _ _ _ j1 [] ⟨hjj, by rw [← hv]; exact scanDown_stop (.inr (by simpa [ltP] using h2))⟩ ?_; (refine ⟨(ExtOk.of rfl), rfl, (by repeat (first | exact trivial | refine ⟨rfl, ?_⟩)), (by repeat (first | exact trivial | refine ⟨at_dat rfl, ?_⟩))⟩)) | (first | refine y_exit rfl ?_ | refine y_condF rfl ?_)))
    · (repeat (first | refine dw_move rfl rfl rfl ?_ | refine dw_pickF rfl rfl rfl rfl ?_ | refine dk_skip rfl rfl ?_))
      (refine dk_nil ?_); (refine ⟨by kernel_rfl, ?_, ?_⟩); (focus (repeat (first | exact trivial | refine ⟨.inl rfl, ?_⟩)))
      (repeat (first | (refine out _ _ _ j1 [] ⟨hjj, by rw [← hv]; exact scanDown_stop (.inl (by omega))⟩ ?_; (refine ⟨(ExtOk.of rfl), rfl, (by repeat (first | exact trivial | refine ⟨rfl, ?_⟩)), (by repeat (first | exact trivial | refine ⟨at_dat rfl, ?_⟩))⟩)) | (first | refine y_exit rfl ?_ | refine y_condF rfl ?_)))
  rintro j2 ⟨hjj, hv⟩
  have e := partEq_step hu hv hii hjj
  (repeat (first | refine y_seq ?_ | refine w_region ?_ | refine w_move rfl rfl rfl ?_))
  refine w_gtrS rfl rfl rfl rfl ?_ ?_
  all_goals intro h3
  · rw [ho, if_pos (by omega)] at e
    (repeat (first | refine y_seq ?_ | refine w_region ?_ | refine y_regEnd ?_ | refine y_exit rfl ?_ | refine y_condT rfl ?_ | refine w_move rfl rfl rfl ?_ | refine w_assign rfl rfl rfl ?_))
    rw [e]
    ((apply w_ret Try.func59 (congrArg Array.toList Try.results59)); (focus (repeat (first | exact ResIs.nil | apply ResIs.tmp rfl))); refine ⟨_, rfl, Ends.mk [] (ExtOk.of rfl) rfl rfl ?_⟩)
    exact (by repeat (first | exact trivial | refine ⟨at_dat rfl, ?_⟩))
  · rw [ho, if_neg (by omega)] at e
    (repeat (first | refine y_seq ?_ | refine y_regEnd ?_ | refine y_skip ?_ | refine y_condF rfl ?_))
    refine w_draw (by kernel_rfl) (by kernel_rfl) ?_
    (repeat (first | refine dw_move rfl rfl rfl ?_ | refine dw_ldR rfl rfl rfl (F.ag _ rfl) (recP) rfl (by first | omega | (simp only [Array.size_setIfInBounds, swp_size]; omega)) (by first | omega | (simp only [Array.size_setIfInBounds, swp_size]; omega)) ?_ | refine dw_stR rfl rfl rfl (recP) (F.sz _ rfl) rfl (by first | omega | (simp only [Array.size_setIfInBounds, swp_size]; omega)) (by first | omega | (simp only [Array.size_setIfInBounds, swp_size]; omega)) ?_ | refine dw_idxN (q := i2) rfl rfl rfl rfl (F.un _ rfl) (F.sz _ rfl) rfl (by omega) (by omega) (by omega) ?_ | refine dw_idxN (q := j2) rfl rfl rfl rfl (F.un _ rfl) (F.sz _ rfl) rfl (by omega) (by omega) (by omega) ?_))
    (refine dk_nil ?_); (refine ⟨by kernel_rfl, ?_, ?_⟩); (focus (repeat (first | exact trivial | refine ⟨.inl rfl, ?_⟩ | refine ⟨.inr (by (repeat (refine ⟨(by first | exact rd_idxN (F.un _ rfl) (F.sz _ rfl) rfl rfl rfl (by omega) (by omega) (by omega) | exact rd_arith rfl rfl (.inl ⟨rfl, (Go.IntWalk.i64_in _ ⟨by omega, by omega⟩).symm⟩) | exact rd_arith rfl rfl (.inr (.inl ⟨rfl, (Go.IntWalk.i64_in _ ⟨by omega, by omega⟩).symm⟩)) | exact rd_fieldAddr (F.fo _ _ rfl rfl) rfl | exact rd_move rfl | exact rd_assign rfl | exact rd_load1 (F.ag _ rfl) rfl rfl (cell_box rfl) | exact rd_loadN (F.ag _ rfl) rfl rfl (cellsFrom_box _ 0 rfl rfl) | exact rd_extract rfl rfl | exact rd_lenSl (F.un _ rfl) rfl | exact rd_lenStr (F.un _ rfl) rfl | exact rd_nilCheck rfl | exact rd_pickT rfl rfl | exact rd_pickF rfl rfl), ?_⟩)); exact trivial), ?_⟩ | refine ⟨.inl (by kernel_rfl), ?_⟩)))
    (repeat (first | refine y_seq ?_ | refine w_region ?_ | refine y_regEnd ?_ | refine y_inBlock ?_ | refine w_move rfl rfl rfl ?_ | refine w_assign rfl rfl rfl ?_ | refine w_add rfl rfl rfl rfl (by omega) (by omega) ?_ | refine w_sub rfl rfl rfl rfl (by omega) (by omega) ?_))
    refine ih _ _ _ ((i2 + 1, j2 - 1), Sort.swp d1 i2 j2) [] ⟨by simp only; omega, by simp only; omega, by simp only; omega, by rw [swp_size]; exact hd1, e.symm⟩ (by simp only; omega) ?_
    (refine ⟨(ExtOk.of rfl), rfl, (by repeat (first | exact trivial | refine ⟨rfl, ?_⟩ | refine ⟨sl_eq (by first | omega | (simp only; omega)), ?_⟩)), (by repeat (first | exact trivial | refine ⟨at_dat rfl, ?_⟩))⟩)
end Go.Proofs.Ytfkfiafohcoomaa
end
section
namespace Go.Proofs.Ytfkfiafohcoomaa
open Go Go.Sy
theorem part_step {lt : Int × Int → Int × Int → Bool} {d : Array (Int × Int)} {a i j i2 j2 : Nat} (hi : Sort.scanUp (fun x => lt x d[a]!) d j i = i2) (hj : Sort.scanDown (fun x => !lt x d[a]!) d i2 j = j2) (h1 : i ≤ i2) (h2 : j2 ≤ j) :
    Sort.partLoop lt a i j d = if j2 < i2 then (j2, d) else Sort.partLoop lt a (i2 + 1) (j2 - 1) (Sort.swp d i2 j2) := by
  conv => lhs; unfold Sort.partLoop
  simp only [hi, hj]
  split
  · rfl
  · rw [dif_pos (by omega)]
theorem part_one {lt : Int × Int → Int × Int → Bool} {d : Array (Int × Int)} {a b pv i2 j2 : Nat} (hi : Sort.scanUp (fun x => lt x (Sort.swp d a pv)[a]!) (Sort.swp d a pv) (b - 1) (a + 1) = i2) (hj : Sort.scanDown (fun x => !lt x (Sort.swp d a pv)[a]!) (Sort.swp d a pv) i2 (b - 1) = j2) :
    Sort.partition lt d a b pv = if j2 < i2 then (j2, true, Sort.swp (Sort.swp d a pv) j2 a) else ((Sort.partLoop lt a (i2 + 1) (j2 - 1) (Sort.swp (Sort.swp d a pv) i2 j2)).1, false, Sort.swp (Sort.partLoop lt a (i2 + 1) (j2 - 1) (Sort.swp (Sort.swp d a pv) i2 j2)).2 (Sort.partLoop lt a (i2 + 1) (j2 - 1) (Sort.swp (Sort.swp d a pv) i2 j2)).1 a) := by
  simp only [Sort.partition, hi, hj]
set_option maxRecDepth 100000 in
set_option maxHeartbeats 0 in
theorem part_spec (n a b pv : Nat) (d : Array (Int × Int)) (hn : n < 4611686018427387904) (hd : d.size = n) (hap : a ≤ pv) (hpb : pv < b) (hb : b ≤ n) :
    Ctr Try.prog 60 [.slu 0 0 n, .sc (.int .i64 (a : Int)), .sc (.int .i64 (b : Int)), .sc (.int .i64 (pv : Int)), cmpF] [rowP n d] (fun c => c = ⟨.tup [.sc (.int .i64 ((Sort.partition ltP d a b pv).1 : Int)), .sc (.bool (Sort.partition ltP d a b pv).2.1)], [some (rowP n (Sort.partition ltP d a b pv).2.2)]⟩) := by
  refine Fnc.start Try.func60 rfl rfl ?_
  (repeat (first | refine y_seq ?_ | refine w_region ?_ | refine y_regEnd ?_ | refine w_assign rfl rfl rfl ?_))
  refine w_draw (by kernel_rfl) (by kernel_rfl) ?_
  (repeat (first | refine dw_move rfl rfl rfl ?_ | refine dw_ldR rfl rfl rfl (F.ag _ rfl) (recP) rfl (by first | omega | (simp only [Array.size_setIfInBounds, swp_size]; omega)) (by first | omega | (simp only [Array.size_setIfInBounds, swp_size]; omega)) ?_ | refine dw_stR rfl rfl rfl (recP) (F.sz _ rfl) rfl (by first | omega | (simp only [Array.size_setIfInBounds, swp_size]; omega)) (by first | omega | (simp only [Array.size_setIfInBounds, swp_size]; omega)) ?_ | refine dw_idxN (q := a) rfl rfl rfl rfl (F.un _ rfl) (F.sz _ rfl) rfl (by omega) (by omega) (by omega) ?_ | refine dw_idxN (q := pv) rfl rfl rfl rfl (F.un _ rfl) (F.sz _ rfl) rfl (by omega) (by omega) (by omega) ?_))
  (refine dk_nil ?_); (refine ⟨by kernel_rfl, ?_, ?_⟩); (focus (repeat (first | exact trivial | refine ⟨.inl rfl, ?_⟩ | refine ⟨.inr (by (repeat (refine ⟨(by first | exact rd_idxN (F.un _ rfl) (F.sz _ rfl) rfl rfl rfl (by omega) (by omega) (by omega) | exact rd_arith rfl rfl (.inl ⟨rfl, (Go.IntWalk.i64_in _ ⟨by omega, by omega⟩).symm⟩) | exact rd_arith rfl rfl (.inr (.inl ⟨rfl, (Go.IntWalk.i64_in _ ⟨by omega, by omega⟩).symm⟩)) | exact rd_fieldAddr (F.fo _ _ rfl rfl) rfl | exact rd_move rfl | exact rd_assign rfl | exact rd_load1 (F.ag _ rfl) rfl rfl (cell_box rfl) | exact rd_loadN (F.ag _ rfl) rfl rfl (cellsFrom_box _ 0 rfl rfl) | exact rd_extract rfl rfl | exact rd_lenSl (F.un _ rfl) rfl | exact rd_lenStr (F.un _ rfl) rfl | exact rd_nilCheck rfl | exact rd_pickT rfl rfl | exact rd_pickF rfl rfl), ?_⟩)); exact trivial), ?_⟩ | refine ⟨.inl (by kernel_rfl), ?_⟩)))
  have e0 := part_one (lt := ltP) (d := d) (a := a) (b := b) (pv := pv) rfl rfl
  have hd1 : (Sort.swp d a pv).size = n := by rw [swp_size]; exact hd
  generalize hsw : Sort.swp d a pv = d1 at e0 hd1
  have hsw' : (d.setIfInBounds a d[pv]!).setIfInBounds pv d[a]! = d1 := hsw
  rw [hsw']
  (repeat (first | refine y_seq ?_ | refine w_region ?_ | refine y_regEnd ?_ | refine y_block ?_ | refine w_move rfl rfl rfl ?_ | refine w_assign rfl rfl rfl ?_ | refine w_add rfl rfl rfl rfl (by omega) (by omega) ?_ | refine w_sub rfl rfl rfl rfl (by omega) (by omega) ?_))
  refine y_loopE 1 (fun x : Nat => [(0, .slu 0 0 n), (1, .sc (.int .i64 (a : Int))), (4, cmpF), (12, .sc (.int .i64 (x : Int))), (13, .sc (.int .i64 ((b - 1 : Nat) : Int)))]) (fun _ => [some (rowP n d1)]) (fun x => a + 1 ≤ x ∧ x ≤ n ∧ Sort.scanUp (fun y => ltP y d1[a]!) d1 (b - 1) x = Sort.scanUp (fun y => ltP y d1[a]!) d1 (b - 1) (a + 1)) (fun x => n - x) (a + 1) []
    1 (fun x : Nat => [(0, .slu 0 0 n), (1, .sc (.int .i64 (a : Int))), (4, cmpF), (12, .sc (.int .i64 (x : Int))), (13, .sc (.int .i64 ((b - 1 : Nat) : Int)))]) (fun _ => [some (rowP n d1)]) (fun x => a + 1 ≤ x ∧ x ≤ n ∧ Sort.scanUp (fun y => ltP y d1[a]!) d1 (b - 1) (a + 1) = x)
    (fun _ => rfl) (fun _ => rfl) ⟨Nat.le_refl _, by omega, rfl⟩ ?_ (fun _ => rfl) (fun _ => rfl) ?_ ?_
  · (refine ⟨(ExtOk.of rfl), rfl, (by repeat (first | exact trivial | refine ⟨rfl, ?_⟩ | refine ⟨sl_eq (by first | omega | (simp only; omega)), ?_⟩)), (by repeat (first | exact trivial | refine ⟨at_dat rfl, ?_⟩))⟩)
  · rintro i1 ⟨hii, hi1, hu⟩ ihu out
    (repeat (refine y_seq ?_))
    refine w_draw (by kernel_rfl) (by kernel_rfl) ?_
    (repeat (refine dw_move rfl rfl rfl ?_))
    refine dw_leqS rfl rfl rfl rfl ?_ ?_
    all_goals intro h1
    · (repeat (first | refine dw_move rfl rfl rfl ?_ | refine dw_ldR rfl rfl rfl (F.ag _ rfl) (recP) rfl (by first | omega | (simp only [Array.size_setIfInBounds, swp_size]; omega)) (by first | omega | (simp only [Array.size_setIfInBounds, swp_size]; omega)) ?_ | refine dw_idxN (q := a) rfl rfl rfl rfl (F.un _ rfl) (F.sz _ rfl) rfl (by omega) (by omega) (by omega) ?_ | refine dw_idxN (q := i1) rfl rfl rfl rfl (F.un _ rfl) (F.sz _ rfl) rfl (by omega) (by omega) (by omega) ?_ | refine dk_callF rfl rfl rfl rfl (by kernel_rfl) rfl (Ctr.callV (cmp_spec d1[i1]! d1[a]!) [] rfl (ExtOk.of rfl) rfl trivial rfl) ?_))
      refine dw_lssS rfl rfl rfl rfl ?_ ?_
      all_goals intro h2
      · (repeat (refine dw_pickT rfl rfl rfl rfl ?_))
        (refine dk_nil ?_); (refine ⟨by kernel_rfl, ?_, ?_⟩); (focus (repeat (first | exact trivial | refine ⟨.inl rfl, ?_⟩ | refine ⟨.inr (by (repeat (refine ⟨(by first | exact rd_idxN (F.un _ rfl) (F.sz _ rfl) rfl rfl rfl (by omega) (by omega) (by omega) | exact rd_arith rfl rfl (.inl ⟨rfl, (Go.IntWalk.i64_in _ ⟨by omega, by omega⟩).symm⟩) | exact rd_arith rfl rfl (.inr (.inl ⟨rfl, (Go.IntWalk.i64_in _ ⟨by omega, by omega⟩).symm⟩)) | exact rd_fieldAddr (F.fo _ _ rfl rfl) rfl | exact rd_move rfl | exact rd_assign rfl | exact rd_load1 (F.ag _ rfl) rfl rfl (cell_box rfl) | exact rd_loadN (F.ag _ rfl) rfl rfl (cellsFrom_box _ 0 rfl rfl) | exact rd_extract rfl rfl | exact rd_lenSl (F.un _ rfl) rfl | exact rd_lenStr (F.un _ rfl) rfl | exact rd_nilCheck rfl | exact rd_pickT rfl rfl | exact rd_pickF rfl rfl), ?_⟩)); exact trivial), ?_⟩ | refine ⟨.inl (by kernel_rfl), ?_⟩)))
        (repeat (first | refine w_region ?_ | refine y_regEnd ?_ | refine y_block ?_ | refine y_inBlock ?_ | refine y_skip ?_ | refine y_condT rfl ?_ | refine w_move rfl rfl rfl ?_ | refine w_assign rfl rfl rfl ?_ | refine w_add rfl rfl rfl rfl (by omega) (by omega) ?_))
        refine ihu _ _ _ (i1 + 1) [] ⟨by omega, by omega, ?_⟩ (by omega) ?_
        · rw [← hu]
          exact (scanUp_go (by omega) (by simpa [ltP] using h2)).symm
        · (refine ⟨(ExtOk.of rfl), rfl, (by repeat (first | exact trivial | refine ⟨rfl, ?_⟩)), (by repeat (first | exact trivial | refine ⟨at_dat rfl, ?_⟩))⟩)
      · (repeat (refine dw_pickT rfl rfl rfl rfl ?_))
        (refine dk_nil ?_); (refine ⟨by kernel_rfl, ?_, ?_⟩); (focus (repeat (first | exact trivial | refine ⟨.inl rfl, ?_⟩ | refine ⟨.inr (by (repeat (refine ⟨(by first | exact rd_idxN (F.un _ rfl) (F.sz _ rfl) rfl rfl rfl (by omega) (by omega) (by omega) | exact rd_arith rfl rfl (.inl ⟨rfl, (Go.IntWalk.i64_in _ ⟨by omega, by omega⟩).symm⟩) | exact rd_arith rfl rfl (.inr (.inl ⟨rfl, (Go.IntWalk.i64_in _ ⟨by omega, by omega⟩).symm⟩)) | exact rd_fieldAddr (F.fo _ _ rfl rfl) rfl | exact rd_move rfl | exact rd_assign rfl | exact rd_load1 (F.ag _ rfl) rfl rfl (cell_box rfl) | exact rd_loadN (F.ag _ rfl) rfl rfl (cellsFrom_box _ 0 rfl rfl) | exact rd_extract rfl rfl | exact rd_lenSl (F.un _ rfl) rfl | exact rd_lenStr (F.un _ rfl) rfl | exact rd_nilCheck rfl | exact rd_pickT rfl rfl | exact rd_pickF rfl rfl), ?_⟩)); exact trivial), ?_⟩ | refine ⟨.inl (by kernel_rfl), ?_⟩)))
        (repeat (first | (refine out _ _ _ i1 [] ⟨hii, hi1, by rw [← hu]; exact scanUp_stop (.inr (by simpa [ltP] using h2))⟩ ?_; (refine ⟨(ExtOk.of rfl), rfl, (by repeat (first | exact trivial | refine ⟨rfl, ?_⟩)), (by repeat (first | exact trivial | refine ⟨at_dat rfl, ?_⟩))⟩)) | (first | refine y_exit rfl ?_ | refine y_condF rfl ?_)))
    · (repeat (first | refine dw_move rfl rfl rfl ?_ | refine dw_pickF rfl rfl rfl rfl ?_ | refine dk_skip rfl rfl ?_))
      (refine dk_nil ?_); (refine ⟨by kernel_rfl, ?_, ?_⟩); (focus (repeat (first | exact trivial | refine ⟨.inl rfl, ?_⟩)))
      (repeat (first | (refine out _ _ _ i1 [] ⟨hii, hi1, by rw [← hu]; exact scanUp_stop (.inl (by omega))⟩ ?_; (refine ⟨(ExtOk.of rfl), rfl, (by repeat (first | exact trivial | refine ⟨rfl, ?_⟩)), (by repeat (first | exact trivial | refine ⟨at_dat rfl, ?_⟩))⟩)) | (first | refine y_exit rfl ?_ | refine y_condF rfl ?_)))
  rintro i2 ⟨hii, hi2, hu⟩
  rw [hu] at e0
  (repeat (first | refine y_seq ?_ | refine y_block ?_))
  refine y_loopE 1 (fun x : Nat => [(0, .slu 0 0 n), (1, .sc (.int .i64 (a : Int))), (4, cmpF), (12, .sc (.int .i64 (i2 : Int))), (13, .sc (.int .i64 (x : Int)))]) (fun _ => [some (rowP n d1)]) (fun x => x ≤ b - 1 ∧ Sort.scanDown (fun y => !ltP y d1[a]!) d1 i2 x = Sort.scanDown (fun y => !ltP y d1[a]!) d1 i2 (b - 1)) (fun x => x) (b - 1) []
    1 (fun x : Nat => [(0, .slu 0 0 n), (1, .sc (.int .i64 (a : Int))), (4, cmpF), (12, .sc (.int .i64 (i2 : Int))), (13, .sc (.int .i64 (x : Int)))]) (fun _ => [some (rowP n d1)]) (fun x => x ≤ b - 1 ∧ Sort.scanDown (fun y => !ltP y d1[a]!) d1 i2 (b - 1) = x)
    (fun _ => rfl) (fun _ => rfl) ⟨Nat.le_refl _, rfl⟩ ?_ (fun _ => rfl) (fun _ => rfl) ?_ ?_
  · (refine ⟨(ExtOk.of rfl), rfl, (by repeat (first | exact trivial | refine ⟨rfl, ?_⟩)), (by repeat (first | exact trivial | refine ⟨at_dat rfl, ?_⟩))⟩)
  · rintro j1 ⟨hjj, hv⟩ ihv out
    (repeat (refine y_seq ?_))
    refine w_draw (by kernel_rfl) (by kernel_rfl) ?_
    (repeat (refine dw_move rfl rfl rfl ?_))
    refine dw_leqS rfl rfl rfl rfl ?_ ?_
    all_goals intro h1
    · (repeat (first | refine dw_move rfl rfl rfl ?_ | refine dw_ldR rfl rfl rfl (F.ag _ rfl) (recP) rfl (by first | omega | (simp only [Array.size_setIfInBounds, swp_size]; omega)) (by first | omega | (simp only [Array.size_setIfInBounds, swp_size]; omega)) ?_ | refine dw_idxN (q := a) rfl rfl rfl rfl (F.un _ rfl) (F.sz _ rfl) rfl (by omega) (by omega) (by omega) ?_ | refine dw_idxN (q := j1) rfl rfl rfl rfl (F.un _ rfl) (F.sz _ rfl) rfl (by omega) (by omega) (by omega) ?_ | refine dk_callF rfl rfl rfl rfl (by kernel_rfl) rfl (Ctr.callV (cmp_spec d1[j1]! d1[a]!) [] rfl (ExtOk.of rfl) rfl trivial rfl) ?_))
      refine dw_lssS rfl rfl rfl rfl ?_ ?_
      all_goals intro h2
      · (repeat (first | refine dw_pickT rfl rfl rfl rfl ?_ | refine dw_notB rfl rfl rfl ?_))
        (refine dk_nil ?_); (refine ⟨by kernel_rfl, ?_, ?_⟩); (focus (repeat (first | exact trivial | refine ⟨.inl rfl, ?_⟩ | refine ⟨.inr (by (repeat (refine ⟨(by first | exact rd_idxN (F.un _ rfl) (F.sz _ rfl) rfl rfl rfl (by omega) (by omega) (by omega) | exact rd_arith rfl rfl (.inl ⟨rfl, (Go.IntWalk.i64_in _ ⟨by omega, by omega⟩).symm⟩) | exact rd_arith rfl rfl (.inr (.inl ⟨rfl, (Go.IntWalk.i64_in _ ⟨by omega, by omega⟩).symm⟩)) | exact rd_fieldAddr (F.fo _ _ rfl rfl) rfl | exact rd_move rfl | exact rd_assign rfl | exact rd_load1 (F.ag _ rfl) rfl rfl (cell_box rfl) | exact rd_loadN (F.ag _ rfl) rfl rfl (cellsFrom_box _ 0 rfl rfl) | exact rd_extract rfl rfl | exact rd_lenSl (F.un _ rfl) rfl | exact rd_lenStr (F.un _ rfl) rfl | exact rd_nilCheck rfl | exact rd_pickT rfl rfl | exact rd_pickF rfl rfl), ?_⟩)); exact trivial), ?_⟩ | refine ⟨.inl (by kernel_rfl), ?_⟩)))
        (repeat (first | (refine out _ _ _ j1 [] ⟨hjj, by rw [← hv]; exact scanDown_stop (.inr (by simpa [ltP] using h2))⟩ ?_; (refine ⟨(ExtOk.of rfl), rfl, (by repeat (first | exact trivial | refine ⟨rfl, ?_⟩)), (by repeat (first | exact trivial | refine ⟨at_dat rfl, ?_⟩))⟩)) | (first | refine y_exit rfl ?_ | refine y_condF rfl ?_)))
      · (repeat (first | refine dw_pickT rfl rfl rfl rfl ?_ | refine dw_notB rfl rfl rfl ?_))
        (refine dk_nil ?_); (refine ⟨by kernel_rfl, ?_, ?_⟩); (focus (repeat (first | exact trivial | refine ⟨.inl rfl, ?_⟩ | refine ⟨.inr (by (repeat (refine ⟨(by first | exact rd_idxN (F.un _ rfl) (F.sz _ rfl) rfl rfl rfl (by omega) (by omega) (by omega) | exact rd_arith rfl rfl (.inl ⟨rfl, (Go.IntWalk.i64_in _ ⟨by omega, by omega⟩).symm⟩) | exact rd_arith rfl rfl (.inr (.inl ⟨rfl, (Go.IntWalk.i64_in _ ⟨by omega, by omega⟩).symm⟩)) | exact rd_fieldAddr (F.fo _ _ rfl rfl) rfl | exact rd_move rfl | exact rd_assign rfl | exact rd_load1 (F.ag _ rfl) rfl rfl (cell_box rfl) | exact rd_loadN (F.ag _ rfl) rfl rfl (cellsFrom_box _ 0 rfl rfl) | exact rd_extract rfl rfl | exact rd_lenSl (F.un _ rfl) rfl | exact rd_lenStr (F.un _ rfl) rfl | exact rd_nilCheck rfl | exact rd_pickT rfl rfl | exact rd_pickF rfl rfl), ?_⟩)); exact trivial), ?_⟩ | refine ⟨.inl (by kernel_rfl), ?_⟩)))
        (repeat (first | refine w_region ?_ | refine y_regEnd ?_ | refine y_block ?_ | refine y_inBlock ?_ | refine y_skip ?_ | refine y_condT rfl ?_ | refine w_move rfl rfl rfl ?_ | refine w_assign rfl rfl rfl ?_ | refine w_sub rfl rfl rfl rfl (by omega) (by omega) ?_))
        obtain ⟨j1, rfl⟩ : ∃ j', j1 = j' + 1 := ⟨j1 - 1, by omega⟩
        refine ihv _ _ _ j1 [] ⟨by omega, ?_⟩ (by omega) ?_
        · rw [← hv]
          exact (scanDown_go (by omega) (by simpa [ltP] using h2)).symm
        · (refine ⟨(ExtOk.of rfl), rfl, (by repeat (first | exact trivial | refine ⟨rfl, ?_⟩ | refine ⟨sl_eq (by first | omega | (simp only; omega)), ?_⟩)), (by repeat (first | exact trivial | refine ⟨at_dat rfl, ?_⟩))⟩)
    · (repeat (first | refine dw_move rfl rfl rfl ?_ | refine dw_pickF rfl rfl rfl rfl ?_ | refine dk_skip rfl rfl ?_))
      (refine dk_nil ?_); (refine ⟨by kernel_rfl, ?_, ?_⟩); (focus (repeat (first | exact trivial | refine ⟨.inl rfl, ?_⟩)))
      (repeat (first | (refine out _ _ _ j1 [] ⟨hjj, by rw [← hv]; exact scanDown_stop (.inl (by omega))⟩ ?_; (refine ⟨(ExtOk.of rfl), rfl, (by repeat (first | exact trivial | refine ⟨rfl, ?_⟩)), (by repeat (first | exact trivial | refine ⟨at_dat rfl, ?_⟩))⟩)) | (first | refine y_exit rfl ?_ | refine y_condF rfl ?_)))
  rintro j2 ⟨hjj, hv⟩
  rw [hv] at e0
  (repeat (first | refine y_seq ?_ | refine w_region ?_ | refine w_move rfl rfl rfl ?_))
  refine w_gtrS rfl rfl rfl rfl ?_ ?_
  all_goals intro h3
  · rw [if_pos (by omega)] at e0
    rw [e0]
    (repeat (first | refine y_seq ?_ | refine y_regEnd ?_ | refine y_condT rfl ?_))
    refine w_draw (by kernel_rfl) (by kernel_rfl) ?_
    (repeat (first | refine dw_move rfl rfl rfl ?_ | refine dw_ldR rfl rfl rfl (F.ag _ rfl) (recP) rfl (by first | omega | (simp only [Array.size_setIfInBounds, swp_size]; omega)) (by first | omega | (simp only [Array.size_setIfInBounds, swp_size]; omega)) ?_ | refine dw_stR rfl rfl rfl (recP) (F.sz _ rfl) rfl (by first | omega | (simp only [Array.size_setIfInBounds, swp_size]; omega)) (by first | omega | (simp only [Array.size_setIfInBounds, swp_size]; omega)) ?_ | refine dw_idxN (q := a) rfl rfl rfl rfl (F.un _ rfl) (F.sz _ rfl) rfl (by omega) (by omega) (by omega) ?_ | refine dw_idxN (q := j2) rfl rfl rfl rfl (F.un _ rfl) (F.sz _ rfl) rfl (by omega) (by omega) (by omega) ?_))
    (refine dk_nil ?_); (refine ⟨by kernel_rfl, ?_, ?_⟩); (focus (repeat (first | exact trivial | refine ⟨.inl rfl, ?_⟩ | refine ⟨.inr (by (repeat (refine ⟨(by first | exact rd_idxN (F.un _ rfl) (F.sz _ rfl) rfl rfl rfl (by omega) (by omega) (by omega) | exact rd_arith rfl rfl (.inl ⟨rfl, (Go.IntWalk.i64_in _ ⟨by omega, by omega⟩).symm⟩) | exact rd_arith rfl rfl (.inr (.inl ⟨rfl, (Go.IntWalk.i64_in _ ⟨by omega, by omega⟩).symm⟩)) | exact rd_fieldAddr (F.fo _ _ rfl rfl) rfl | exact rd_move rfl | exact rd_assign rfl | exact rd_load1 (F.ag _ rfl) rfl rfl (cell_box rfl) | exact rd_loadN (F.ag _ rfl) rfl rfl (cellsFrom_box _ 0 rfl rfl) | exact rd_extract rfl rfl | exact rd_lenSl (F.un _ rfl) rfl | exact rd_lenStr (F.un _ rfl) rfl | exact rd_nilCheck rfl | exact rd_pickT rfl rfl | exact rd_pickF rfl rfl), ?_⟩)); exact trivial), ?_⟩ | refine ⟨.inl (by kernel_rfl), ?_⟩)))
    (repeat (first | refine y_seq ?_ | refine w_region ?_ | refine y_regEnd ?_ | refine w_move rfl rfl rfl ?_ | refine w_assign rfl rfl rfl ?_))
    ((apply w_ret Try.func60 (congrArg Array.toList Try.results60)); (focus (repeat (first | exact ResIs.nil | apply ResIs.tmp rfl))); refine ⟨_, rfl, Ends.mk [] (ExtOk.of rfl) rfl rfl ?_⟩)
    exact (by repeat (first | exact trivial | refine ⟨at_dat rfl, ?_⟩))
  rw [if_neg (by omega)] at e0
  rw [e0]
  (repeat (first | refine y_seq ?_ | refine y_regEnd ?_ | refine y_skip ?_ | refine y_condF rfl ?_))
  refine w_draw (by kernel_rfl) (by kernel_rfl) ?_
  (repeat (first | refine dw_move rfl rfl rfl ?_ | refine dw_ldR rfl rfl rfl (F.ag _ rfl) (recP) rfl (by first | omega | (simp only [Array.size_setIfInBounds, swp_size]; omega)) (by first | omega | (simp only [Array.size_setIfInBounds, swp_size]; omega)) ?_ | refine dw_stR rfl rfl rfl (recP) (F.sz _ rfl) rfl (by first | omega | (simp only [Array.size_setIfInBounds, swp_size]; omega)) (by first | omega | (simp only [Array.size_setIfInBounds, swp_size]; omega)) ?_ | refine dw_idxN (q := i2) rfl rfl rfl rfl (F.un _ rfl) (F.sz _ rfl) rfl (by omega) (by omega) (by omega) ?_ | refine dw_idxN (q := j2) rfl rfl rfl rfl (F.un _ rfl) (F.sz _ rfl) rfl (by omega) (by omega) (by omega) ?_))
  (refine dk_nil ?_); (refine ⟨by kernel_rfl, ?_, ?_⟩); (focus (repeat (first | exact trivial | refine ⟨.inl rfl, ?_⟩ | refine ⟨.inr (by (repeat (refine ⟨(by first | exact rd_idxN (F.un _ rfl) (F.sz _ rfl) rfl rfl rfl (by omega) (by omega) (by omega) | exact rd_arith rfl rfl (.inl ⟨rfl, (Go.IntWalk.i64_in _ ⟨by omega, by omega⟩).symm⟩) | exact rd_arith rfl rfl (.inr (.inl ⟨rfl, (Go.IntWalk.i64_in _ ⟨by omega, by omega⟩).symm⟩)) | exact rd_fieldAddr (F.fo _ _ rfl rfl) rfl | exact rd_move rfl | exact rd_assign rfl | exact rd_load1 (F.ag _ rfl) rfl rfl (cell_box rfl) | exact rd_loadN (F.ag _ rfl) rfl rfl (cellsFrom_box _ 0 rfl rfl) | exact rd_extract rfl rfl | exact rd_lenSl (F.un _ rfl) rfl | exact rd_lenStr (F.un _ rfl) rfl | exact rd_nilCheck rfl | exact rd_pickT rfl rfl | exact rd_pickF rfl rfl), ?_⟩)); exact trivial), ?_⟩ | refine ⟨.inl (by kernel_rfl), ?_⟩)))
  (repeat (first | refine y_seq ?_ | refine w_region ?_ | refine y_regEnd ?_ | refine y_block ?_ | refine w_move rfl rfl rfl ?_ | refine w_assign rfl rfl rfl ?_ | refine w_add rfl rfl rfl rfl (by omega) (by omega) ?_ | refine w_sub rfl rfl rfl rfl (by omega) (by omega) ?_))
  refine y_loopE 1 (fun s : (Nat × Nat) × Array (Int × Int) => [(0, .slu 0 0 n), (1, .sc (.int .i64 (a : Int))), (4, cmpF), (12, .sc (.int .i64 (s.1.1 : Int))), (13, .sc (.int .i64 (s.1.2 : Int)))]) (fun s => [some (rowP n s.2)]) (fun s => a < s.1.1 ∧ s.1.1 ≤ n ∧ s.1.2 < n ∧ s.2.size = n ∧ Sort.partLoop ltP a s.1.1 s.1.2 s.2 = Sort.partLoop ltP a (i2 + 1) (j2 - 1) (Sort.swp d1 i2 j2)) (fun s => s.1.2 + 1 - s.1.1) ((i2 + 1, j2 - 1), Sort.swp d1 i2 j2) []
    1 (fun s : Nat × Array (Int × Int) => [(0, .slu 0 0 n), (1, .sc (.int .i64 (a : Int))), (4, cmpF), (13, .sc (.int .i64 (s.1 : Int)))]) (fun s => [some (rowP n s.2)]) (fun s => s.1 < n ∧ s.2.size = n ∧ Sort.partLoop ltP a (i2 + 1) (j2 - 1) (Sort.swp d1 i2 j2) = s)
    (fun _ => rfl) (fun _ => rfl) ⟨by simp only; omega, by simp only; omega, by simp only; omega, by rw [swp_size]; exact hd1, rfl⟩ ?_ (fun _ => rfl) (fun _ => rfl) ?_ ?_
  · (refine ⟨(ExtOk.of rfl), rfl, (by repeat (first | exact trivial | refine ⟨rfl, ?_⟩ | refine ⟨sl_eq (by first | omega | (simp only; omega)), ?_⟩)), (by repeat (first | exact trivial | refine ⟨at_dat rfl, ?_⟩))⟩)
  · rintro ⟨⟨i, j⟩, d3⟩ ⟨hai, hi, hj, hd3, ho⟩ ih outer
    simp only at hai hi hj hd3 ho ih ⊢
    (repeat (first | refine y_seq ?_ | refine y_block ?_))
    refine y_loopE 1 (fun x : Nat => [(0, .slu 0 0 n), (1, .sc (.int .i64 (a : Int))), (4, cmpF), (12, .sc (.int .i64 (x : Int))), (13, .sc (.int .i64 (j : Int)))]) (fun _ => [some (rowP n d3)]) (fun x => i ≤ x ∧ x ≤ n ∧ Sort.scanUp (fun y => ltP y d3[a]!) d3 j x = Sort.scanUp (fun y => ltP y d3[a]!) d3 j i) (fun x => n - x) i []
      1 (fun x : Nat => [(0, .slu 0 0 n), (1, .sc (.int .i64 (a : Int))), (4, cmpF), (12, .sc (.int .i64 (x : Int))), (13, .sc (.int .i64 (j : Int)))]) (fun _ => [some (rowP n d3)]) (fun x => i ≤ x ∧ x ≤ n ∧ Sort.scanUp (fun y => ltP y d3[a]!) d3 j i = x)
      (fun _ => rfl) (fun _ => rfl) ⟨Nat.le_refl _, hi, rfl⟩ ?_ (fun _ => rfl) (fun _ => rfl) ?_ ?_
    · (refine ⟨(ExtOk.of rfl), rfl, (by repeat (first | exact trivial | refine ⟨rfl, ?_⟩)), (by repeat (first | exact trivial | refine ⟨at_dat rfl, ?_⟩))⟩)
    · rintro i1 ⟨hii, hi1, hu⟩ ihu out
      (repeat (refine y_seq ?_))
      refine w_draw (by kernel_rfl) (by kernel_rfl) ?_
      (repeat (refine dw_move rfl rfl rfl ?_))
      refine dw_leqS rfl rfl rfl rfl ?_ ?_
      all_goals intro h1
      · (repeat (first | refine dw_move rfl rfl rfl ?_ | refine dw_ldR rfl rfl rfl (F.ag _ rfl) (recP) rfl (by first | omega | (simp only [Array.size_setIfInBounds, swp_size]; omega)) (by first | omega | (simp only [Array.size_setIfInBounds, swp_size]; omega)) ?_ | refine dw_idxN (q := a) rfl rfl rfl rfl (F.un _ rfl) (F.sz _ rfl) rfl (by omega) (by omega) (by omega) ?_ | refine dw_idxN (q := i1) rfl rfl rfl rfl (F.un _ rfl) (F.sz _ rfl) rfl (by omega) (by omega) (by omega) ?_ | refine dk_callF rfl rfl rfl rfl (by kernel_rfl) rfl (Ctr.callV (cmp_spec d3[i1]! d3[a]!) [] rfl (ExtOk.of rfl) rfl trivial rfl) ?_))
        refine dw_lssS rfl rfl rfl rfl ?_ ?_
        all_goals intro h2
        · (repeat (refine dw_pickT rfl rfl rfl rfl ?_))
          (refine dk_nil ?_); (refine ⟨by kernel_rfl, ?_, ?_⟩); (focus (repeat (first | exact trivial | refine ⟨.inl rfl, ?_⟩ | refine ⟨.inr (by (repeat (refine ⟨(by first | exact rd_idxN (F.un _ rfl) (F.sz _ rfl) rfl rfl rfl (by omega) (by omega) (by omega) | exact rd_arith rfl rfl (.inl ⟨rfl, (Go.IntWalk.i64_in _ ⟨by omega, by omega⟩).symm⟩) | exact rd_arith rfl rfl (.inr (.inl ⟨rfl, (Go.IntWalk.i64_in _ ⟨by omega, by omega⟩).symm⟩)) | exact rd_fieldAddr (F.fo _ _ rfl rfl) rfl | exact rd_move rfl | exact rd_assign rfl | exact rd_load1 (F.ag _ rfl) rfl rfl (cell_box rfl) | exact rd_loadN (F.ag _ rfl) rfl rfl (cellsFrom_box _ 0 rfl rfl) | exact rd_extract rfl rfl | exact rd_lenSl (F.un _ rfl) rfl | exact rd_lenStr (F.un _ rfl) rfl | exact rd_nilCheck rfl | exact rd_pickT rfl rfl | exact rd_pickF rfl rfl), ?_⟩)); exact trivial), ?_⟩ | refine ⟨.inl (by kernel_rfl), ?_⟩)))
          (repeat (first | refine w_region ?_ | refine y_regEnd ?_ | refine y_block ?_ | refine y_inBlock ?_ | refine y_skip ?_ | refine y_condT rfl ?_ | refine w_move rfl rfl rfl ?_ | refine w_assign rfl rfl rfl ?_ | refine w_add rfl rfl rfl rfl (by omega) (by omega) ?_))
          refine ihu _ _ _ (i1 + 1) [] ⟨by omega, by omega, ?_⟩ (by omega) ?_
          · rw [← hu]
            exact (scanUp_go (by omega) (by simpa [ltP] using h2)).symm
          · (refine ⟨(ExtOk.of rfl), rfl, (by repeat (first | exact trivial | refine ⟨rfl, ?_⟩)), (by repeat (first | exact trivial | refine ⟨at_dat rfl, ?_⟩))⟩)
        · (repeat (refine dw_pickT rfl rfl rfl rfl ?_))
          (refine dk_nil ?_); (refine ⟨by kernel_rfl, ?_, ?_⟩); (focus (repeat (first | exact trivial | refine ⟨.inl rfl, ?_⟩ | refine ⟨.inr (by (repeat (refine ⟨(by first | exact rd_idxN (F.un _ rfl) (F.sz _ rfl) rfl rfl rfl (by omega) (by omega) (by omega) | exact rd_arith rfl rfl (.inl ⟨rfl, (Go.IntWalk.i64_in _ ⟨by omega, by omega⟩).symm⟩) | exact rd_arith rfl rfl (.inr (.inl ⟨rfl, (Go.IntWalk.i64_in _ ⟨by omega, by omega⟩).symm⟩)) | exact rd_fieldAddr (F.fo _ _ rfl rfl) rfl | exact rd_move rfl | exact rd_assign rfl | exact rd_load1 (F.ag _ rfl) rfl rfl (cell_box rfl) | exact rd_loadN (F.ag _ rfl) rfl rfl (cellsFrom_box _ 0 rfl rfl) | exact rd_extract rfl rfl | exact rd_lenSl (F.un _ rfl) rfl | exact rd_lenStr (F.un _ rfl) rfl | exact rd_nilCheck rfl | exact rd_pickT rfl rfl | exact rd_pickF rfl rfl), ?_⟩)); exact trivial), ?_⟩ | refine ⟨.inl (by kernel_rfl), ?_⟩)))
          (repeat (first | (refine out _ _ _ i1 [] ⟨hii, hi1, by rw [← hu]; exact scanUp_stop (.inr (by simpa [ltP] using h2))⟩ ?_; (refine ⟨(ExtOk.of rfl), rfl, (by repeat (first | exact trivial | refine ⟨rfl, ?_⟩)), (by repeat (first | exact trivial | refine ⟨at_dat rfl, ?_⟩))⟩)) | (first | refine y_exit rfl ?_ | refine y_condF rfl ?_)))
      · (repeat (first | refine dw_move rfl rfl rfl ?_ | refine dw_pickF rfl rfl rfl rfl ?_ | refine dk_skip rfl rfl ?_))
        (refine dk_nil ?_); (refine ⟨by kernel_rfl, ?_, ?_⟩); (focus (repeat (first | exact trivial | refine ⟨.inl rfl, ?_⟩)))
        (repeat (first | (refine out _ _ _ i1 [] ⟨hii, hi1, by rw [← hu]; exact scanUp_stop (.inl (by omega))⟩ ?_; (refine ⟨(ExtOk.of rfl), rfl, (by repeat (first | exact trivial | refine ⟨rfl, ?_⟩)), (by repeat (first | exact trivial | refine ⟨at_dat rfl, ?_⟩))⟩)) | (first | refine y_exit rfl ?_ | refine y_condF rfl ?_)))
    rintro i3 ⟨hii3, hi3, hu3⟩
    (repeat (first | refine y_seq ?_ | refine y_block ?_))
    refine y_loopE 1 (fun x : Nat => [(0, .slu 0 0 n), (1, .sc (.int .i64 (a : Int))), (4, cmpF), (12, .sc (.int .i64 (i3 : Int))), (13, .sc (.int .i64 (x : Int)))]) (fun _ => [some (rowP n d3)]) (fun x => x ≤ j ∧ Sort.scanDown (fun y => !ltP y d3[a]!) d3 i3 x = Sort.scanDown (fun y => !ltP y d3[a]!) d3 i3 (j)) (fun x => x) (j) []
      1 (fun x : Nat => [(0, .slu 0 0 n), (1, .sc (.int .i64 (a : Int))), (4, cmpF), (12, .sc (.int .i64 (i3 : Int))), (13, .sc (.int .i64 (x : Int)))]) (fun _ => [some (rowP n d3)]) (fun x => x ≤ j ∧ Sort.scanDown (fun y => !ltP y d3[a]!) d3 i3 (j) = x)
      (fun _ => rfl) (fun _ => rfl) ⟨Nat.le_refl _, rfl⟩ ?_ (fun _ => rfl) (fun _ => rfl) ?_ ?_
    · (refine ⟨(ExtOk.of rfl), rfl, (by repeat (first | exact trivial | refine ⟨rfl, ?_⟩)), (by repeat (first | exact trivial | refine ⟨at_dat rfl, ?_⟩))⟩)
    · rintro j1 ⟨hjj, hv⟩ ihv out
      (repeat (refine y_seq ?_))
      refine w_draw (by kernel_rfl) (by kernel_rfl) ?_
      (repeat (refine dw_move rfl rfl rfl ?_))
      refine dw_leqS rfl rfl rfl rfl ?_ ?_
      all_goals intro h1
      · (repeat (first | refine dw_move rfl rfl rfl ?_ | refine dw_ldR rfl rfl rfl (F.ag _ rfl) (recP) rfl (by first | omega | (simp only [Array.size_setIfInBounds, swp_size]; omega)) (by first | omega | (simp only [Array.size_setIfInBounds, swp_size]; omega)) ?_ | refine dw_idxN (q := a) rfl rfl rfl rfl (F.un _ rfl) (F.sz _ rfl) rfl (by omega) (by omega) (by omega) ?_ | refine dw_idxN (q := j1) rfl rfl rfl rfl (F.un _ rfl) (F.sz _ rfl) rfl (by omega) (by omega) (by omega) ?_ | refine dk_callF rfl rfl rfl rfl (by kernel_rfl) rfl (Ctr.callV (cmp_spec d3[j1]! d3[a]!) [] rfl (ExtOk.of rfl) rfl trivial rfl) ?_))
        refine dw_lssS rfl rfl rfl rfl ?_ ?_
        all_goals intro h2
        · (repeat (first | refine dw_pickT rfl rfl rfl rfl ?_ | refine dw_notB rfl rfl rfl ?_))
          (refine dk_nil ?_); (refine ⟨by kernel_rfl, ?_, ?_⟩); (focus (repeat (first | exact trivial | refine ⟨.inl rfl, ?_⟩ | refine ⟨.inr (by (repeat (refine ⟨(by first | exact rd_idxN (F.un _ rfl) (F.sz _ rfl) rfl rfl rfl (by omega) (by omega) (by omega) | exact rd_arith rfl rfl (.inl ⟨rfl, (Go.IntWalk.i64_in _ ⟨by omega, by omega⟩).symm⟩) | exact rd_arith rfl rfl (.inr (.inl ⟨rfl, (Go.IntWalk.i64_in _ ⟨by omega, by omega⟩).symm⟩)) | exact rd_fieldAddr (F.fo _ _ rfl rfl) rfl | exact rd_move rfl | exact rd_assign rfl | exact rd_load1 (F.ag _ rfl) rfl rfl (cell_box rfl) | exact rd_loadN (F.ag _ rfl) rfl rfl (cellsFrom_box _ 0 rfl rfl) | exact rd_extract rfl rfl | exact rd_lenSl (F.un _ rfl) rfl | exact rd_lenStr (F.un _ rfl) rfl | exact rd_nilCheck rfl | exact rd_pickT rfl rfl | exact rd_pickF rfl rfl), ?_⟩)); exact trivial), ?_⟩ | refine ⟨.inl (by kernel_rfl), ?_⟩)))
          (repeat (first | (refine out _ _ _ j1 [] ⟨hjj, by rw [← hv]; exact scanDown_stop (.inr (by simpa [ltP] using h2))⟩ ?_; (refine ⟨(ExtOk.of rfl), rfl, (by repeat (first | exact trivial | refine ⟨rfl, ?_⟩)), (by repeat (first | exact trivial | refine ⟨at_dat rfl, ?_⟩))⟩)) | (first | refine y_exit rfl ?_ | refine y_condF rfl ?_)))
        · (repeat (first | refine dw_pickT rfl rfl rfl rfl ?_ | refine dw_notB rfl rfl rfl ?_))
          (refine dk_nil ?_); (refine ⟨by kernel_rfl, ?_, ?_⟩); (focus (repeat (first | exact trivial | refine ⟨.inl rfl, ?_⟩ | refine ⟨.inr (by (repeat (refine ⟨(by first | exact rd_idxN (F.un _ rfl) (F.sz _ rfl) rfl rfl rfl (by omega) (by omega) (by omega) | exact rd_arith rfl rfl (.inl ⟨rfl, (Go.IntWalk.i64_in _ ⟨by omega, by omega⟩).symm⟩) | exact rd_arith rfl rfl (.inr (.inl ⟨rfl, (Go.IntWalk.i64_in _ ⟨by omega, by omega⟩).symm⟩)) | exact rd_fieldAddr (F.fo _ _ rfl rfl) rfl | exact rd_move rfl | exact rd_assign rfl | exact rd_load1 (F.ag _ rfl) rfl rfl (cell_box rfl) | exact rd_loadN (F.ag _ rfl) rfl rfl (cellsFrom_box _ 0 rfl rfl) | exact rd_extract rfl rfl | exact rd_lenSl (F.un _ rfl) rfl | exact rd_lenStr (F.un _ rfl) rfl | exact rd_nilCheck rfl | exact rd_pickT rfl rfl | exact rd_pickF rfl rfl), ?_⟩)); exact trivial), ?_⟩ | refine ⟨.inl (by kernel_rfl), ?_⟩)))
          (repeat (first | refine w_region ?_ | refine y_regEnd ?_ | refine y_block ?_ | refine y_inBlock ?_ | refine y_skip ?_ | refine y_condT rfl ?_ | refine w_move rfl rfl rfl ?_ | refine w_assign rfl rfl rfl ?_ | refine w_sub rfl rfl rfl rfl (by omega) (by omega) ?_))
          obtain ⟨j1, rfl⟩ : ∃ j', j1 = j' + 1 := ⟨j1 - 1, by omega⟩
          refine ihv _ _ _ j1 [] ⟨by omega, ?_⟩ (by omega) ?_
          · rw [← hv]
            exact (scanDown_go (by omega) (by simpa [ltP] using h2)).symm
          · (refine ⟨(ExtOk.of rfl), rfl, (by repeat (first | exact trivial | refine ⟨rfl, ?_⟩ | refine ⟨sl_eq (by first | omega | (simp only; omega)), ?_⟩)), (by repeat (first | exact trivial | refine ⟨at_dat rfl, ?_⟩))⟩)
      · (repeat (first | refine dw_move rfl rfl rfl ?_ | refine dw_pickF rfl rfl rfl rfl ?_ | refine dk_skip rfl rfl ?_))
        (refine dk_nil ?_); (refine ⟨by kernel_rfl, ?_, ?_⟩); (focus (repeat (first | exact trivial | refine ⟨.inl rfl, ?_⟩)))
        (repeat (first | (refine out _ _ _ j1 [] ⟨hjj, by rw [← hv]; exact scanDown_stop (.inl (by omega))⟩ ?_; (refine ⟨(ExtOk.of rfl), rfl, (by repeat (first | exact trivial | refine ⟨rfl, ?_⟩)), (by repeat (first | exact trivial | refine ⟨at_dat rfl, ?_⟩))⟩)) | (first | refine y_exit rfl ?_ | refine y_condF rfl ?_)))
    rintro j3 ⟨hjj3, hv3⟩
    have e := part_step hu3 hv3 hii3 hjj3
    (repeat (first | refine y_seq ?_ | refine w_region ?_ | refine w_move rfl rfl rfl ?_))
    refine w_gtrS rfl rfl rfl rfl ?_ ?_
    all_goals intro h3
    · rw [ho, if_pos (by omega)] at e
      (repeat (first | (refine outer _ _ _ (j3, d3) [] ⟨by simp only; omega, hd3, e⟩ ?_; (refine ⟨(ExtOk.of rfl), rfl, (by repeat (first | exact trivial | refine ⟨rfl, ?_⟩)), (by repeat (first | exact trivial | refine ⟨at_dat rfl, ?_⟩))⟩)) | (first | refine y_regEnd ?_ | refine y_exit rfl ?_ | refine y_condT rfl ?_)))
    · rw [ho, if_neg (by omega)] at e
      (repeat (first | refine y_seq ?_ | refine y_regEnd ?_ | refine y_skip ?_ | refine y_condF rfl ?_))
      refine w_draw (by kernel_rfl) (by kernel_rfl) ?_
      (repeat (first | refine dw_move rfl rfl rfl ?_ | refine dw_ldR rfl rfl rfl (F.ag _ rfl) (recP) rfl (by first | omega | (simp only [Array.size_setIfInBounds, swp_size]; omega)) (by first | omega | (simp only [Array.size_setIfInBounds, swp_size]; omega)) ?_ | refine dw_stR rfl rfl rfl (recP) (F.sz _ rfl) rfl (by first | omega | (simp only [Array.size_setIfInBounds, swp_size]; omega)) (by first | omega | (simp only [Array.size_setIfInBounds, swp_size]; omega)) ?_ | refine dw_idxN (q := i3) rfl rfl rfl rfl (F.un _ rfl) (F.sz _ rfl) rfl (by omega) (by omega) (by omega) ?_ | refine dw_idxN (q := j3) rfl rfl rfl rfl (F.un _ rfl) (F.sz _ rfl) rfl (by omega) (by omega) (by omega) ?_))
      (refine dk_nil ?_); (refine ⟨by kernel_rfl, ?_, ?_⟩); (focus (repeat (first | exact trivial | refine ⟨.inl rfl, ?_⟩ | refine ⟨.inr (by (repeat (refine ⟨(by first | exact rd_idxN (F.un _ rfl) (F.sz _ rfl) rfl rfl rfl (by omega) (by omega) (by omega) | exact rd_arith rfl rfl (.inl ⟨rfl, (Go.IntWalk.i64_in _ ⟨by omega, by omega⟩).symm⟩) | exact rd_arith rfl rfl (.inr (.inl ⟨rfl, (Go.IntWalk.i64_in _ ⟨by omega, by omega⟩).symm⟩)) | exact rd_fieldAddr (F.fo _ _ rfl rfl) rfl | exact rd_move rfl | exact rd_assign rfl | exact rd_load1 (F.ag _ rfl) rfl rfl (cell_box rfl) | exact rd_loadN (F.ag _ rfl) rfl rfl (cellsFrom_box _ 0 rfl rfl) | exact rd_extract rfl rfl | exact rd_lenSl (F.un _ rfl) rfl | exact rd_lenStr (F.un _ rfl) rfl | exact rd_nilCheck rfl | exact rd_pickT rfl rfl | exact rd_pickF rfl rfl), ?_⟩)); exact trivial), ?_⟩ | refine ⟨.inl (by kernel_rfl), ?_⟩)))
      (repeat (first | refine y_seq ?_ | refine w_region ?_ | refine y_regEnd ?_ | refine y_inBlock ?_ | refine w_move rfl rfl rfl ?_ | refine w_assign rfl rfl rfl ?_ | refine w_add rfl rfl rfl rfl (by omega) (by omega) ?_ | refine w_sub rfl rfl rfl rfl (by omega) (by omega) ?_))
      refine ih _ _ _ ((i3 + 1, j3 - 1), Sort.swp d3 i3 j3) [] ⟨by simp only; omega, by simp only; omega, by simp only; omega, by rw [swp_size]; exact hd3, e.symm⟩ (by simp only; omega) ?_
      (refine ⟨(ExtOk.of rfl), rfl, (by repeat (first | exact trivial | refine ⟨rfl, ?_⟩ | refine ⟨sl_eq (by first | omega | (simp only; omega)), ?_⟩)), (by repeat (first | exact trivial | refine ⟨at_dat rfl, ?_⟩))⟩)
  rintro ⟨j3, d3⟩ ⟨hj3, hd3, e⟩
  simp only at hj3 hd3 e ⊢
  rw [e]
  (repeat (refine y_seq ?_))
  refine w_draw (by kernel_rfl) (by kernel_rfl) ?_
  (repeat (first | refine dw_move rfl rfl rfl ?_ | refine dw_ldR rfl rfl rfl (F.ag _ rfl) (recP) rfl (by first | omega | (simp only [Array.size_setIfInBounds, swp_size]; omega)) (by first | omega | (simp only [Array.size_setIfInBounds, swp_size]; omega)) ?_ | refine dw_stR rfl rfl rfl (recP) (F.sz _ rfl) rfl (by first | omega | (simp only [Array.size_setIfInBounds, swp_size]; omega)) (by first | omega | (simp only [Array.size_setIfInBounds, swp_size]; omega)) ?_ | refine dw_idxN (q := a) rfl rfl rfl rfl (F.un _ rfl) (F.sz _ rfl) rfl (by omega) (by omega) (by omega) ?_ | refine dw_idxN (q := j3) rfl rfl rfl rfl (F.un _ rfl) (F.sz _ rfl) rfl (by omega) (by omega) (by omega) ?_))
  (refine dk_nil ?_); (refine ⟨by kernel_rfl, ?_, ?_⟩); (focus (repeat (first | exact trivial | refine ⟨.inl rfl, ?_⟩ | refine ⟨.inr (by (repeat (refine ⟨(by first | exact rd_idxN (F.un _ rfl) (F.sz _ rfl) rfl rfl rfl (by omega) (by omega) (by omega) | exact rd_arith rfl rfl (.inl ⟨rfl, (Go.IntWalk.i64_in _ ⟨by omega, by omega⟩).symm⟩) | exact rd_arith rfl rfl (.inr (.inl ⟨rfl, (Go.IntWalk.i64_in _ ⟨by omega, by omega⟩).symm⟩)) | exact rd_fieldAddr (F.fo _ _ rfl rfl) rfl | exact rd_move rfl | exact rd_assign rfl | exact rd_load1 (F.ag _ rfl) rfl rfl (cell_box rfl) | exact rd_loadN (F.ag _ rfl) rfl rfl (cellsFrom_box _ 0 rfl rfl) | exact rd_extract rfl rfl | exact rd_lenSl (F.un _ rfl) rfl | exact rd_lenStr (F.un _ rfl) rfl | exact rd_nilCheck rfl | exact rd_pickT rfl rfl | exact rd_pickF rfl rfl), ?_⟩)); exact trivial), ?_⟩ | refine ⟨.inl (by kernel_rfl), ?_⟩)))
  (repeat (first | refine y_seq ?_ | refine w_region ?_ | refine y_regEnd ?_ | refine w_move rfl rfl rfl ?_ | refine w_assign rfl rfl rfl ?_))
  ((apply w_ret Try.func60 (congrArg Array.toList Try.results60)); (focus (repeat (first | exact ResIs.nil | apply ResIs.tmp rfl))); refine ⟨_, rfl, Ends.mk [] (ExtOk.of rfl) rfl rfl ?_⟩)
  exact (by repeat (first | exact trivial | refine ⟨at_dat rfl, ?_⟩))
end Go.Proofs.Ytfkfiafohcoomaa
end
section
namespace Go.Proofs.Ytfkfiafohcoomaa
open Go Go.Sy
theorem scanSorted_go {lt : Int × Int → Int × Int → Bool} {d : Array (Int × Int)} {b i : Nat} (h : i < b) (hp : lt d[i]! d[i - 1]! = false) : Sort.scanSorted lt d b i = Sort.scanSorted lt d b (i + 1) := by
  conv => lhs; rw [Sort.scanSorted, if_pos (by simp [h, hp])]
theorem scanSorted_stop {lt : Int × Int → Int × Int → Bool} {d : Array (Int × Int)} {b i : Nat} (h : b ≤ i ∨ lt d[i]! d[i - 1]! = true) : Sort.scanSorted lt d b i = i := by
  rw [Sort.scanSorted, if_neg]
  simp only [Bool.and_eq_true, decide_eq_true_eq, Bool.not_eq_true']
  rintro ⟨h1, h2⟩
  rcases h with h | h
  · omega
  · rw [h] at h2; cases h2
theorem shiftUp_go {lt : Int × Int → Int × Int → Bool} {d : Array (Int × Int)} {b j : Nat} (h : j < b) (hp : lt d[j]! d[j - 1]! = true) : Sort.shiftUp lt b j d = Sort.shiftUp lt b (j + 1) (Sort.swp d j (j - 1)) := by
  conv => lhs; rw [Sort.shiftUp, if_pos h, if_neg (by simp [hp])]
theorem shiftUp_stop {lt : Int × Int → Int × Int → Bool} {d : Array (Int × Int)} {b j : Nat} (h : b ≤ j ∨ lt d[j]! d[j - 1]! = false) : Sort.shiftUp lt b j d = d := by
  rw [Sort.shiftUp]
  split
  · rename_i h1
    rw [if_pos]
    rcases h with h | h
    · omega
    · simp [h]
  · rfl
theorem pins_step {lt : Int × Int → Int × Int → Bool} {a b s i i1 : Nat} {d d2 d3 : Array (Int × Int)} (hi : Sort.scanSorted lt d b i = i1) (h1 : i1 ≠ b) (h2 : ¬ b - a < 50)
    (e2 : (if i1 - a ≥ 2 then Sort.shiftDown lt (i1 - 1) (Sort.swp d i1 (i1 - 1)) else Sort.swp d i1 (i1 - 1)) = d2) (e3 : (if b - i1 ≥ 2 then Sort.shiftUp lt b (i1 + 1) d2 else d2) = d3) : Sort.partialIns lt a b (s + 1) i d = Sort.partialIns lt a b s i1 d3 := by
  rw [Sort.partialIns]
  simp only [hi, if_neg h1, if_neg h2]
  rw [e2, e3]
theorem pins_true {lt : Int × Int → Int × Int → Bool} {a b s i i1 : Nat} {d : Array (Int × Int)} (hi : Sort.scanSorted lt d b i = i1) (h1 : i1 = b) : Sort.partialIns lt a b (s + 1) i d = (d, true) := by
  rw [Sort.partialIns]
  simp only [hi, if_pos h1]
theorem pins_false {lt : Int × Int → Int × Int → Bool} {a b s i i1 : Nat} {d : Array (Int × Int)} (hi : Sort.scanSorted lt d b i = i1) (h1 : i1 ≠ b) (h2 : b - a < 50) : Sort.partialIns lt a b (s + 1) i d = (d, false) := by
  rw [Sort.partialIns]
  simp only [hi, if_neg h1, if_pos h2]
set_option maxRecDepth 100000 in
set_option maxHeartbeats 0 in
theorem pins_spec (n a b : Nat) (d : Array (Int × Int)) (hn : n < 4611686018427387904) (hd : d.size = n) (hab : a < b) (hb : b ≤ n) :
    Ctr Try.prog 58 [.slu 0 0 n, .sc (.int .i64 (a : Int)), .sc (.int .i64 (b : Int)), cmpF] [rowP n d] (fun c => c = ⟨.sc (.bool (Sort.partialInsertionSort ltP d a b).2), [some (rowP n (Sort.partialInsertionSort ltP d a b).1)]⟩) := by
  refine Fnc.start Try.func58 rfl rfl ?_
  (repeat (first | refine y_seq ?_ | refine w_region ?_ | refine y_regEnd ?_ | refine y_block ?_ | refine w_move rfl rfl rfl ?_ | refine w_assign rfl rfl rfl ?_ | refine w_add rfl rfl rfl rfl (by omega) (by omega) ?_))
  refine y_loopC 1 (fun s : (Nat × Nat) × Array (Int × Int) => [(0, .slu 0 0 n), (1, .sc (.int .i64 (a : Int))), (2, .sc (.int .i64 (b : Int))), (3, cmpF), (9, .sc (.int .i64 (s.1.2 : Int))), (10, .sc (.int .i64 ((5 - s.1.1 : Nat) : Int)))]) (fun s => [some (rowP n s.2)]) (fun s => s.1.1 ≤ 5 ∧ a + 1 ≤ s.1.2 ∧ s.1.2 ≤ b ∧ s.2.size = n ∧ Sort.partialIns ltP a b s.1.1 s.1.2 s.2 = Sort.partialInsertionSort ltP d a b) (fun s => s.1.1) ((5, a + 1), d) []
    (fun _ => rfl) ⟨Nat.le_refl _, Nat.le_refl _, hab, hd, rfl⟩ ?_ (fun _ => rfl) (fun _ => rfl) ?_
  · (refine ⟨(ExtOk.of rfl), rfl, (by repeat (first | exact trivial | refine ⟨rfl, ?_⟩)), (by repeat (first | exact trivial | refine ⟨at_dat rfl, ?_⟩))⟩)
  rintro ⟨⟨s, i⟩, d0⟩ ⟨hs, hai, hi, hd0, ho⟩ ih
  simp only at hs hai hi hd0 ho ih ⊢
  (repeat (first | refine y_seq ?_ | refine w_region ?_ | refine w_move rfl rfl rfl ?_))
  refine w_lssS rfl rfl rfl rfl ?_ ?_
  all_goals intro h0
  · obtain ⟨s, rfl⟩ : ∃ s', s = s' + 1 := ⟨s - 1, by omega⟩
    (repeat (first | refine y_seq ?_ | refine y_regEnd ?_ | refine y_block ?_ | refine y_skip ?_ | refine y_condT rfl ?_))
    refine y_loopE 1 (fun x : Nat => [(0, .slu 0 0 n), (1, .sc (.int .i64 (a : Int))), (2, .sc (.int .i64 (b : Int))), (3, cmpF), (9, .sc (.int .i64 (x : Int))), (10, .sc (.int .i64 ((5 - (s + 1) : Nat) : Int)))]) (fun _ => [some (rowP n d0)]) (fun x => a + 1 ≤ x ∧ x ≤ b ∧ Sort.scanSorted ltP d0 b x = Sort.scanSorted ltP d0 b i) (fun x => b - x) i []
      1 (fun x : Nat => [(0, .slu 0 0 n), (1, .sc (.int .i64 (a : Int))), (2, .sc (.int .i64 (b : Int))), (3, cmpF), (9, .sc (.int .i64 (x : Int))), (10, .sc (.int .i64 ((5 - (s + 1) : Nat) : Int)))]) (fun _ => [some (rowP n d0)]) (fun x => a + 1 ≤ x ∧ x ≤ b ∧ Sort.scanSorted ltP d0 b i = x)
      (fun _ => rfl) (fun _ => rfl) ⟨hai, hi, rfl⟩ ?_ (fun _ => rfl) (fun _ => rfl) ?_ ?_
    · (refine ⟨(ExtOk.of rfl), rfl, (by repeat (first | exact trivial | refine ⟨rfl, ?_⟩)), (by repeat (first | exact trivial | refine ⟨at_dat rfl, ?_⟩))⟩)
    · rintro i1 ⟨hai1, hi1, hu⟩ ihu out
      (repeat (refine y_seq ?_))
      refine w_draw (by kernel_rfl) (by kernel_rfl) ?_
      (repeat (refine dw_move rfl rfl rfl ?_))
      refine dw_lssS rfl rfl rfl rfl ?_ ?_
      all_goals intro h1
      · (repeat (first | refine dw_move rfl rfl rfl ?_ | refine dw_sub rfl rfl rfl rfl (by omega) (by omega) ?_ | refine dw_ldR rfl rfl rfl (F.ag _ rfl) (recP) rfl (by first | omega | (simp only [Array.size_setIfInBounds, swp_size]; omega)) (by first | omega | (simp only [Array.size_setIfInBounds, swp_size]; omega)) ?_ | refine dw_idxN (q := i1) rfl rfl rfl rfl (F.un _ rfl) (F.sz _ rfl) rfl (by omega) (by omega) (by omega) ?_ | refine dw_idxN (q := i1 - 1) rfl rfl rfl rfl (F.un _ rfl) (F.sz _ rfl) rfl (by omega) (by omega) (by omega) ?_ | refine dk_callF rfl rfl rfl rfl (by kernel_rfl) rfl (Ctr.callV (cmp_spec d0[i1]! d0[i1 - 1]!) [] rfl (ExtOk.of rfl) rfl trivial rfl) ?_))
        refine dw_lssS rfl rfl rfl rfl ?_ ?_
        all_goals intro h2
        · (repeat (first | refine dw_pickT rfl rfl rfl rfl ?_ | refine dw_notB rfl rfl rfl ?_))
          (refine dk_nil ?_); (refine ⟨by kernel_rfl, ?_, ?_⟩); (focus (repeat (first | exact trivial | refine ⟨.inl rfl, ?_⟩ | refine ⟨.inr (by (repeat (refine ⟨(by first | exact rd_idxN (F.un _ rfl) (F.sz _ rfl) rfl rfl rfl (by omega) (by omega) (by omega) | exact rd_arith rfl rfl (.inl ⟨rfl, (Go.IntWalk.i64_in _ ⟨by omega, by omega⟩).symm⟩) | exact rd_arith rfl rfl (.inr (.inl ⟨rfl, (Go.IntWalk.i64_in _ ⟨by omega, by omega⟩).symm⟩)) | exact rd_fieldAddr (F.fo _ _ rfl rfl) rfl | exact rd_move rfl | exact rd_assign rfl | exact rd_load1 (F.ag _ rfl) rfl rfl (cell_box rfl) | exact rd_loadN (F.ag _ rfl) rfl rfl (cellsFrom_box _ 0 rfl rfl) | exact rd_extract rfl rfl | exact rd_lenSl (F.un _ rfl) rfl | exact rd_lenStr (F.un _ rfl) rfl | exact rd_nilCheck rfl | exact rd_pickT rfl rfl | exact rd_pickF rfl rfl), ?_⟩)); exact trivial), ?_⟩ | refine ⟨.inl (by kernel_rfl), ?_⟩)))
          (repeat (first | (refine out _ _ _ i1 [] ⟨hai1, hi1, by rw [← hu]; exact scanSorted_stop (.inr (by simpa [ltP] using h2))⟩ ?_; (refine ⟨(ExtOk.of rfl), rfl, (by repeat (first | exact trivial | refine ⟨rfl, ?_⟩)), (by repeat (first | exact trivial | refine ⟨at_dat rfl, ?_⟩))⟩)) | (first | refine y_exit rfl ?_ | refine y_condF rfl ?_)))
        · (repeat (first | refine dw_pickT rfl rfl rfl rfl ?_ | refine dw_notB rfl rfl rfl ?_))
          (refine dk_nil ?_); (refine ⟨by kernel_rfl, ?_, ?_⟩); (focus (repeat (first | exact trivial | refine ⟨.inl rfl, ?_⟩ | refine ⟨.inr (by (repeat (refine ⟨(by first | exact rd_idxN (F.un _ rfl) (F.sz _ rfl) rfl rfl rfl (by omega) (by omega) (by omega) | exact rd_arith rfl rfl (.inl ⟨rfl, (Go.IntWalk.i64_in _ ⟨by omega, by omega⟩).symm⟩) | exact rd_arith rfl rfl (.inr (.inl ⟨rfl, (Go.IntWalk.i64_in _ ⟨by omega, by omega⟩).symm⟩)) | exact rd_fieldAddr (F.fo _ _ rfl rfl) rfl | exact rd_move rfl | exact rd_assign rfl | exact rd_load1 (F.ag _ rfl) rfl rfl (cell_box rfl) | exact rd_loadN (F.ag _ rfl) rfl rfl (cellsFrom_box _ 0 rfl rfl) | exact rd_extract rfl rfl | exact rd_lenSl (F.un _ rfl) rfl | exact rd_lenStr (F.un _ rfl) rfl | exact rd_nilCheck rfl | exact rd_pickT rfl rfl | exact rd_pickF rfl rfl), ?_⟩)); exact trivial), ?_⟩ | refine ⟨.inl (by kernel_rfl), ?_⟩)))
          (repeat (first | refine w_region ?_ | refine y_regEnd ?_ | refine y_block ?_ | refine y_inBlock ?_ | refine y_skip ?_ | refine y_condT rfl ?_ | refine w_move rfl rfl rfl ?_ | refine w_assign rfl rfl rfl ?_ | refine w_add rfl rfl rfl rfl (by omega) (by omega) ?_))
          refine ihu _ _ _ (i1 + 1) [] ⟨by omega, by omega, ?_⟩ (by omega) ?_
          · rw [← hu]
            exact (scanSorted_go (by omega) (by simpa [ltP] using h2)).symm
          · (refine ⟨(ExtOk.of rfl), rfl, (by repeat (first | exact trivial | refine ⟨rfl, ?_⟩)), (by repeat (first | exact trivial | refine ⟨at_dat rfl, ?_⟩))⟩)
      · (repeat (first | refine dw_move rfl rfl rfl ?_ | refine dw_pickF rfl rfl rfl rfl ?_ | refine dk_skip rfl rfl ?_))
        (refine dk_nil ?_); (refine ⟨by kernel_rfl, ?_, ?_⟩); (focus (repeat (first | exact trivial | refine ⟨.inl rfl, ?_⟩)))
        (repeat (first | (refine out _ _ _ i1 [] ⟨hai1, hi1, by rw [← hu]; exact scanSorted_stop (.inl (by omega))⟩ ?_; (refine ⟨(ExtOk.of rfl), rfl, (by repeat (first | exact trivial | refine ⟨rfl, ?_⟩)), (by repeat (first | exact trivial | refine ⟨at_dat rfl, ?_⟩))⟩)) | (first | refine y_exit rfl ?_ | refine y_condF rfl ?_)))
    rintro i1 ⟨hai1, hi1, hu⟩
    (repeat (first | refine y_seq ?_ | refine w_region ?_ | refine w_move rfl rfl rfl ?_))
    refine w_eqlS rfl rfl rfl rfl ?_ ?_
    all_goals intro h1
    · rw [pins_true hu (by omega)] at ho
      (repeat (first | refine y_seq ?_ | refine w_region ?_ | refine y_regEnd ?_ | refine y_condT rfl ?_ | refine w_assign rfl rfl rfl ?_))
      rw [← ho]
      ((apply w_ret Try.func58 (congrArg Array.toList Try.results58)); (focus (repeat (first | exact ResIs.nil | apply ResIs.tmp rfl))); refine ⟨_, rfl, Ends.mk [] (ExtOk.of rfl) rfl rfl ?_⟩)
      exact (by repeat (first | exact trivial | refine ⟨at_dat rfl, ?_⟩))
    (repeat (first | refine y_seq ?_ | refine w_region ?_ | refine y_regEnd ?_ | refine y_skip ?_ | refine y_condF rfl ?_ | refine w_move rfl rfl rfl ?_ | refine w_sub rfl rfl rfl rfl (by omega) (by omega) ?_))
    refine w_lssS rfl rfl rfl rfl ?_ ?_
    all_goals intro h2
    · rw [pins_false hu (by omega) (by omega)] at ho
      (repeat (first | refine y_seq ?_ | refine w_region ?_ | refine y_regEnd ?_ | refine y_condT rfl ?_ | refine w_assign rfl rfl rfl ?_))
      rw [← ho]
      ((apply w_ret Try.func58 (congrArg Array.toList Try.results58)); (focus (repeat (first | exact ResIs.nil | apply ResIs.tmp rfl))); refine ⟨_, rfl, Ends.mk [] (ExtOk.of rfl) rfl rfl ?_⟩)
      exact (by repeat (first | exact trivial | refine ⟨at_dat rfl, ?_⟩))
    (repeat (first | refine y_seq ?_ | refine y_regEnd ?_ | refine y_skip ?_ | refine y_condF rfl ?_))
    refine w_draw (by kernel_rfl) (by kernel_rfl) ?_
    (repeat (first | refine dw_move rfl rfl rfl ?_ | refine dw_sub rfl rfl rfl rfl (by omega) (by omega) ?_ | refine dw_ldR rfl rfl rfl (F.ag _ rfl) (recP) rfl (by first | omega | (simp only [Array.size_setIfInBounds, swp_size]; omega)) (by first | omega | (simp only [Array.size_setIfInBounds, swp_size]; omega)) ?_ | refine dw_stR rfl rfl rfl (recP) (F.sz _ rfl) rfl (by first | omega | (simp only [Array.size_setIfInBounds, swp_size]; omega)) (by first | omega | (simp only [Array.size_setIfInBounds, swp_size]; omega)) ?_ | refine dw_idxN (q := i1) rfl rfl rfl rfl (F.un _ rfl) (F.sz _ rfl) rfl (by omega) (by omega) (by omega) ?_ | refine dw_idxN (q := i1 - 1) rfl rfl rfl rfl (F.un _ rfl) (F.sz _ rfl) rfl (by omega) (by omega) (by omega) ?_))
    (refine dk_nil ?_); (refine ⟨by kernel_rfl, ?_, ?_⟩); (focus (repeat (first | exact trivial | refine ⟨.inl rfl, ?_⟩ | refine ⟨.inr (by (repeat (refine ⟨(by first | exact rd_idxN (F.un _ rfl) (F.sz _ rfl) rfl rfl rfl (by omega) (by omega) (by omega) | exact rd_arith rfl rfl (.inl ⟨rfl, (Go.IntWalk.i64_in _ ⟨by omega, by omega⟩).symm⟩) | exact rd_arith rfl rfl (.inr (.inl ⟨rfl, (Go.IntWalk.i64_in _ ⟨by omega, by omega⟩).symm⟩)) | exact rd_fieldAddr (F.fo _ _ rfl rfl) rfl | exact rd_move rfl | exact rd_assign rfl | exact rd_load1 (F.ag _ rfl) rfl rfl (cell_box rfl) | exact rd_loadN (F.ag _ rfl) rfl rfl (cellsFrom_box _ 0 rfl rfl) | exact rd_extract rfl rfl | exact rd_lenSl (F.un _ rfl) rfl | exact rd_lenStr (F.un _ rfl) rfl | exact rd_nilCheck rfl | exact rd_pickT rfl rfl | exact rd_pickF rfl rfl), ?_⟩)); exact trivial), ?_⟩ | refine ⟨.inl (by kernel_rfl), ?_⟩)))
    have hd1 : (Sort.swp d0 i1 (i1 - 1)).size = n := by rw [swp_size]; exact hd0
    have e2 : ∃ d2, (if i1 - a ≥ 2 then Sort.shiftDown ltP (i1 - 1) (Sort.swp d0 i1 (i1 - 1)) else Sort.swp d0 i1 (i1 - 1)) = d2 := ⟨_, rfl⟩
    obtain ⟨d2, e2⟩ := e2
    have hps := fun d3 e3 => pins_step (s := s) (d3 := d3) hu (by omega) (by omega) e2 e3
    generalize hsw : Sort.swp d0 i1 (i1 - 1) = d1 at e2 hd1
    have hsw' : (d0.setIfInBounds i1 d0[i1 - 1]!).setIfInBounds (i1 - 1) d0[i1]! = d1 := hsw
    rw [hsw']
    (repeat (first | refine y_seq ?_ | refine w_region ?_ | refine w_move rfl rfl rfl ?_ | refine w_sub rfl rfl rfl rfl (by omega) (by omega) ?_))
    refine w_geqS rfl rfl rfl rfl ?_ ?_
    all_goals intro h3
    · rw [if_pos (by omega)] at e2
      (repeat (first | refine y_seq ?_ | refine w_region ?_ | refine y_regEnd ?_ | refine y_block ?_ | refine y_condT rfl ?_ | refine w_move rfl rfl rfl ?_ | refine w_assign rfl rfl rfl ?_ | refine w_sub rfl rfl rfl rfl (by omega) (by omega) ?_))
      refine y_loopE 1 (fun s1 : Nat × Array (Int × Int) => [(0, .slu 0 0 n), (1, .sc (.int .i64 (a : Int))), (2, .sc (.int .i64 (b : Int))), (3, cmpF), (9, .sc (.int .i64 (i1 : Int))), (10, .sc (.int .i64 ((5 - (s + 1) : Nat) : Int))), (11, .sc (.int .i64 (s1.1 : Int)))]) (fun s1 => [some (rowP n s1.2)]) (fun s1 => s1.1 ≤ i1 - 1 ∧ s1.2.size = n ∧ Sort.shiftDown ltP s1.1 s1.2 = d2) (fun s1 => s1.1) (i1 - 1, d1) []
        1 (fun d' : Array (Int × Int) => [(0, .slu 0 0 n), (1, .sc (.int .i64 (a : Int))), (2, .sc (.int .i64 (b : Int))), (3, cmpF), (9, .sc (.int .i64 (i1 : Int))), (10, .sc (.int .i64 ((5 - (s + 1) : Nat) : Int)))]) (fun d' => [some (rowP n d')]) (fun d' => d'.size = n ∧ d' = d2)
        (fun _ => rfl) (fun _ => rfl) ⟨Nat.le_refl _, hd1, e2⟩ ?_ (fun _ => rfl) (fun _ => rfl) ?_ ?_
      · (refine ⟨(ExtOk.of rfl), rfl, (by repeat (first | exact trivial | refine ⟨rfl, ?_⟩ | refine ⟨sl_eq (by first | omega | (simp only; omega)), ?_⟩)), (by repeat (first | exact trivial | refine ⟨at_dat rfl, ?_⟩))⟩)
      · rintro ⟨j, d'⟩ ⟨hj, hd', hsd⟩ ihd out
        simp only at hj hd' hsd ihd ⊢
        (repeat (first | refine y_seq ?_ | refine w_region ?_ | refine w_move rfl rfl rfl ?_))
        refine w_geqS rfl rfl rfl rfl ?_ ?_
        all_goals intro h4
        · obtain ⟨j, rfl⟩ : ∃ j', j = j' + 1 := ⟨j - 1, by omega⟩
          (repeat (first | refine y_seq ?_ | refine y_regEnd ?_ | refine y_block ?_ | refine y_skip ?_ | refine y_condT rfl ?_))
          refine w_draw (by kernel_rfl) (by kernel_rfl) ?_
          (repeat (first | refine dw_move rfl rfl rfl ?_ | refine dw_sub rfl rfl rfl rfl (by omega) (by omega) ?_ | refine dw_ldR rfl rfl rfl (F.ag _ rfl) (recP) rfl (by first | omega | (simp only [Array.size_setIfInBounds, swp_size]; omega)) (by first | omega | (simp only [Array.size_setIfInBounds, swp_size]; omega)) ?_ | refine dw_idxN (q := j + 1) rfl rfl rfl rfl (F.un _ rfl) (F.sz _ rfl) rfl (by omega) (by omega) (by omega) ?_ | refine dw_idxN (q := j) rfl rfl rfl rfl (F.un _ rfl) (F.sz _ rfl) rfl (by omega) (by omega) (by omega) ?_ | refine dk_callF rfl rfl rfl rfl (by kernel_rfl) rfl (Ctr.callV (cmp_spec d'[j + 1]! d'[j]!) [] rfl (ExtOk.of rfl) rfl trivial rfl) ?_))
          refine dw_lssS rfl rfl rfl rfl ?_ ?_
          all_goals intro h5
          · (repeat (refine dw_notB rfl rfl rfl ?_))
            (refine dk_nil ?_); (refine ⟨by kernel_rfl, ?_, ?_⟩); (focus (repeat (first | exact trivial | refine ⟨.inl rfl, ?_⟩ | refine ⟨.inr (by (repeat (refine ⟨(by first | exact rd_idxN (F.un _ rfl) (F.sz _ rfl) rfl rfl rfl (by omega) (by omega) (by omega) | exact rd_arith rfl rfl (.inl ⟨rfl, (Go.IntWalk.i64_in _ ⟨by omega, by omega⟩).symm⟩) | exact rd_arith rfl rfl (.inr (.inl ⟨rfl, (Go.IntWalk.i64_in _ ⟨by omega, by omega⟩).symm⟩)) | exact rd_fieldAddr (F.fo _ _ rfl rfl) rfl | exact rd_move rfl | exact rd_assign rfl | exact rd_load1 (F.ag _ rfl) rfl rfl (cell_box rfl) | exact rd_loadN (F.ag _ rfl) rfl rfl (cellsFrom_box _ 0 rfl rfl) | exact rd_extract rfl rfl | exact rd_lenSl (F.un _ rfl) rfl | exact rd_lenStr (F.un _ rfl) rfl | exact rd_nilCheck rfl | exact rd_pickT rfl rfl | exact rd_pickF rfl rfl), ?_⟩)); exact trivial), ?_⟩ | refine ⟨.inl (by kernel_rfl), ?_⟩)))
            (repeat (first | refine y_skip ?_ | refine y_condF rfl ?_))
            refine w_draw (by kernel_rfl) (by kernel_rfl) ?_
            (repeat (first | refine dw_move rfl rfl rfl ?_ | refine dw_sub rfl rfl rfl rfl (by omega) (by omega) ?_ | refine dw_ldR rfl rfl rfl (F.ag _ rfl) (recP) rfl (by first | omega | (simp only [Array.size_setIfInBounds, swp_size]; omega)) (by first | omega | (simp only [Array.size_setIfInBounds, swp_size]; omega)) ?_ | refine dw_stR rfl rfl rfl (recP) (F.sz _ rfl) rfl (by first | omega | (simp only [Array.size_setIfInBounds, swp_size]; omega)) (by first | omega | (simp only [Array.size_setIfInBounds, swp_size]; omega)) ?_ | refine dw_idxN (q := j + 1) rfl rfl rfl rfl (F.un _ rfl) (F.sz _ rfl) rfl (by omega) (by omega) (by omega) ?_ | refine dw_idxN (q := j) rfl rfl rfl rfl (F.un _ rfl) (F.sz _ rfl) rfl (by omega) (by omega) (by omega) ?_))
            (refine dk_nil ?_); (refine ⟨by kernel_rfl, ?_, ?_⟩); (focus (repeat (first | exact trivial | refine ⟨.inl rfl, ?_⟩ | refine ⟨.inr (by (repeat (refine ⟨(by first | exact rd_idxN (F.un _ rfl) (F.sz _ rfl) rfl rfl rfl (by omega) (by omega) (by omega) | exact rd_arith rfl rfl (.inl ⟨rfl, (Go.IntWalk.i64_in _ ⟨by omega, by omega⟩).symm⟩) | exact rd_arith rfl rfl (.inr (.inl ⟨rfl, (Go.IntWalk.i64_in _ ⟨by omega, by omega⟩).symm⟩)) | exact rd_fieldAddr (F.fo _ _ rfl rfl) rfl | exact rd_move rfl | exact rd_assign rfl | exact rd_load1 (F.ag _ rfl) rfl rfl (cell_box rfl) | exact rd_loadN (F.ag _ rfl) rfl rfl (cellsFrom_box _ 0 rfl rfl) | exact rd_extract rfl rfl | exact rd_lenSl (F.un _ rfl) rfl | exact rd_lenStr (F.un _ rfl) rfl | exact rd_nilCheck rfl | exact rd_pickT rfl rfl | exact rd_pickF rfl rfl), ?_⟩)); exact trivial), ?_⟩ | refine ⟨.inl (by kernel_rfl), ?_⟩)))
            (repeat (first | refine w_region ?_ | refine y_regEnd ?_ | refine y_inBlock ?_ | refine w_move rfl rfl rfl ?_ | refine w_assign rfl rfl rfl ?_ | refine w_sub rfl rfl rfl rfl (by omega) (by omega) ?_))
            refine ihd _ _ _ (j, Sort.swp d' (j + 1) j) [] ⟨by simp only; omega, by rw [swp_size]; exact hd', ?_⟩ (by simp only; omega) ?_
            · rw [← hsd]
              conv => rhs; rw [Sort.shiftDown, if_neg (by simpa [ltP] using h5)]
            · (refine ⟨(ExtOk.of rfl), rfl, (by repeat (first | exact trivial | refine ⟨rfl, ?_⟩ | refine ⟨sl_eq (by first | omega | (simp only; omega)), ?_⟩)), (by repeat (first | exact trivial | refine ⟨at_dat rfl, ?_⟩))⟩)
          · (repeat (refine dw_notB rfl rfl rfl ?_))
            (refine dk_nil ?_); (refine ⟨by kernel_rfl, ?_, ?_⟩); (focus (repeat (first | exact trivial | refine ⟨.inl rfl, ?_⟩ | refine ⟨.inr (by (repeat (refine ⟨(by first | exact rd_idxN (F.un _ rfl) (F.sz _ rfl) rfl rfl rfl (by omega) (by omega) (by omega) | exact rd_arith rfl rfl (.inl ⟨rfl, (Go.IntWalk.i64_in _ ⟨by omega, by omega⟩).symm⟩) | exact rd_arith rfl rfl (.inr (.inl ⟨rfl, (Go.IntWalk.i64_in _ ⟨by omega, by omega⟩).symm⟩)) | exact rd_fieldAddr (F.fo _ _ rfl rfl) rfl | exact rd_move rfl | exact rd_assign rfl | exact rd_load1 (F.ag _ rfl) rfl rfl (cell_box rfl) | exact rd_loadN (F.ag _ rfl) rfl rfl (cellsFrom_box _ 0 rfl rfl) | exact rd_extract rfl rfl | exact rd_lenSl (F.un _ rfl) rfl | exact rd_lenStr (F.un _ rfl) rfl | exact rd_nilCheck rfl | exact rd_pickT rfl rfl | exact rd_pickF rfl rfl), ?_⟩)); exact trivial), ?_⟩ | refine ⟨.inl (by kernel_rfl), ?_⟩)))
            (repeat (first | (refine out _ _ _ d' [] ⟨hd', by rw [← hsd, Sort.shiftDown, if_pos (by simpa [ltP] using h5)]⟩ ?_; (refine ⟨(ExtOk.of rfl), rfl, (by repeat (first | exact trivial | refine ⟨rfl, ?_⟩)), (by repeat (first | exact trivial | refine ⟨at_dat rfl, ?_⟩))⟩)) | (first | refine y_exit rfl ?_ | refine y_condT rfl ?_)))
        · obtain rfl : j = 0 := by omega
          (repeat (first | (refine out _ _ _ d' [] ⟨hd', hsd⟩ ?_; (refine ⟨(ExtOk.of rfl), rfl, (by repeat (first | exact trivial | refine ⟨rfl, ?_⟩)), (by repeat (first | exact trivial | refine ⟨at_dat rfl, ?_⟩))⟩)) | (first | refine y_regEnd ?_ | refine y_exit rfl ?_ | refine y_condF rfl ?_)))
      rintro d2' ⟨hd2, rfl⟩
      (repeat (first | refine y_seq ?_ | refine w_region ?_ | refine w_move rfl rfl rfl ?_ | refine w_sub rfl rfl rfl rfl (by omega) (by omega) ?_))
      refine w_geqS rfl rfl rfl rfl ?_ ?_
      all_goals intro h6
      · (repeat (first | refine y_seq ?_ | refine w_region ?_ | refine y_regEnd ?_ | refine y_block ?_ | refine y_condT rfl ?_ | refine w_move rfl rfl rfl ?_ | refine w_assign rfl rfl rfl ?_ | refine w_add rfl rfl rfl rfl (by omega) (by omega) ?_))
        refine y_loopE 1 (fun s1 : Nat × Array (Int × Int) => [(0, .slu 0 0 n), (1, .sc (.int .i64 (a : Int))), (2, .sc (.int .i64 (b : Int))), (3, cmpF), (9, .sc (.int .i64 (i1 : Int))), (10, .sc (.int .i64 ((5 - (s + 1) : Nat) : Int))), (12, .sc (.int .i64 (s1.1 : Int)))]) (fun s1 => [some (rowP n s1.2)]) (fun s1 => i1 + 1 ≤ s1.1 ∧ s1.1 ≤ b ∧ s1.2.size = n ∧ Sort.shiftUp ltP b s1.1 s1.2 = Sort.shiftUp ltP b (i1 + 1) d2') (fun s1 => b - s1.1) (i1 + 1, d2') []
          1 (fun d' : Array (Int × Int) => [(0, .slu 0 0 n), (1, .sc (.int .i64 (a : Int))), (2, .sc (.int .i64 (b : Int))), (3, cmpF), (9, .sc (.int .i64 (i1 : Int))), (10, .sc (.int .i64 ((5 - (s + 1) : Nat) : Int)))]) (fun d' => [some (rowP n d')]) (fun d' => d'.size = n ∧ Sort.shiftUp ltP b (i1 + 1) d2' = d')
          (fun _ => rfl) (fun _ => rfl) ⟨Nat.le_refl _, by simp only; omega, hd2, rfl⟩ ?_ (fun _ => rfl) (fun _ => rfl) ?_ ?_
        · (refine ⟨(ExtOk.of rfl), rfl, (by repeat (first | exact trivial | refine ⟨rfl, ?_⟩)), (by repeat (first | exact trivial | refine ⟨at_dat rfl, ?_⟩))⟩)
        · rintro ⟨j, d'⟩ ⟨hj, hjb, hd', hsd⟩ ihd out
          simp only at hj hjb hd' hsd ihd ⊢
          (repeat (first | refine y_seq ?_ | refine w_region ?_ | refine w_move rfl rfl rfl ?_))
          refine w_lssS rfl rfl rfl rfl ?_ ?_
          all_goals intro h4
          · (repeat (first | refine y_seq ?_ | refine y_regEnd ?_ | refine y_block ?_ | refine y_skip ?_ | refine y_condT rfl ?_))
            refine w_draw (by kernel_rfl) (by kernel_rfl) ?_
            (repeat (first | refine dw_move rfl rfl rfl ?_ | refine dw_sub rfl rfl rfl rfl (by omega) (by omega) ?_ | refine dw_ldR rfl rfl rfl (F.ag _ rfl) (recP) rfl (by first | omega | (simp only [Array.size_setIfInBounds, swp_size]; omega)) (by first | omega | (simp only [Array.size_setIfInBounds, swp_size]; omega)) ?_ | refine dw_idxN (q := j) rfl rfl rfl rfl (F.un _ rfl) (F.sz _ rfl) rfl (by omega) (by omega) (by omega) ?_ | refine dw_idxN (q := j - 1) rfl rfl rfl rfl (F.un _ rfl) (F.sz _ rfl) rfl (by omega) (by omega) (by omega) ?_ | refine dk_callF rfl rfl rfl rfl (by kernel_rfl) rfl (Ctr.callV (cmp_spec d'[j]! d'[j - 1]!) [] rfl (ExtOk.of rfl) rfl trivial rfl) ?_))
            refine dw_lssS rfl rfl rfl rfl ?_ ?_
            all_goals intro h5
            · (repeat (refine dw_notB rfl rfl rfl ?_))
              (refine dk_nil ?_); (refine ⟨by kernel_rfl, ?_, ?_⟩); (focus (repeat (first | exact trivial | refine ⟨.inl rfl, ?_⟩ | refine ⟨.inr (by (repeat (refine ⟨(by first | exact rd_idxN (F.un _ rfl) (F.sz _ rfl) rfl rfl rfl (by omega) (by omega) (by omega) | exact rd_arith rfl rfl (.inl ⟨rfl, (Go.IntWalk.i64_in _ ⟨by omega, by omega⟩).symm⟩) | exact rd_arith rfl rfl (.inr (.inl ⟨rfl, (Go.IntWalk.i64_in _ ⟨by omega, by omega⟩).symm⟩)) | exact rd_fieldAddr (F.fo _ _ rfl rfl) rfl | exact rd_move rfl | exact rd_assign rfl | exact rd_load1 (F.ag _ rfl) rfl rfl (cell_box rfl) | exact rd_loadN (F.ag _ rfl) rfl rfl (cellsFrom_box _ 0 rfl rfl) | exact rd_extract rfl rfl | exact rd_lenSl (F.un _ rfl) rfl | exact rd_lenStr (F.un _ rfl) rfl | exact rd_nilCheck rfl | exact rd_pickT rfl rfl | exact rd_pickF rfl rfl), ?_⟩)); exact trivial), ?_⟩ | refine ⟨.inl (by kernel_rfl), ?_⟩)))
              (repeat (first | refine y_skip ?_ | refine y_condF rfl ?_))
              refine w_draw (by kernel_rfl) (by kernel_rfl) ?_
              (repeat (first | refine dw_move rfl rfl rfl ?_ | refine dw_sub rfl rfl rfl rfl (by omega) (by omega) ?_ | refine dw_ldR rfl rfl rfl (F.ag _ rfl) (recP) rfl (by first | omega | (simp only [Array.size_setIfInBounds, swp_size]; omega)) (by first | omega | (simp only [Array.size_setIfInBounds, swp_size]; omega)) ?_ | refine dw_stR rfl rfl rfl (recP) (F.sz _ rfl) rfl (by first | omega | (simp only [Array.size_setIfInBounds, swp_size]; omega)) (by first | omega | (simp only [Array.size_setIfInBounds, swp_size]; omega)) ?_ | refine dw_idxN (q := j) rfl rfl rfl rfl (F.un _ rfl) (F.sz _ rfl) rfl (by omega) (by omega) (by omega) ?_ | refine dw_idxN (q := j - 1) rfl rfl rfl rfl (F.un _ rfl) (F.sz _ rfl) rfl (by omega) (by omega) (by omega) ?_))
              (refine dk_nil ?_); (refine ⟨by kernel_rfl, ?_, ?_⟩); (focus (repeat (first | exact trivial | refine ⟨.inl rfl, ?_⟩ | refine ⟨.inr (by (repeat (refine ⟨(by first | exact rd_idxN (F.un _ rfl) (F.sz _ rfl) rfl rfl rfl (by omega) (by omega) (by omega) | exact rd_arith rfl rfl (.inl ⟨rfl, (Go.IntWalk.i64_in _ ⟨by omega, by omega⟩).symm⟩) | exact rd_arith rfl rfl (.inr (.inl ⟨rfl, (Go.IntWalk.i64_in _ ⟨by omega, by omega⟩).symm⟩)) | exact rd_fieldAddr (F.fo _ _ rfl rfl) rfl | exact rd_move rfl | exact rd_assign rfl | exact rd_load1 (F.ag _ rfl) rfl rfl (cell_box rfl) | exact rd_loadN (F.ag _ rfl) rfl rfl (cellsFrom_box _ 0 rfl rfl) | exact rd_extract rfl rfl | exact rd_lenSl (F.un _ rfl) rfl | exact rd_lenStr (F.un _ rfl) rfl | exact rd_nilCheck rfl | exact rd_pickT rfl rfl | exact rd_pickF rfl rfl), ?_⟩)); exact trivial), ?_⟩ | refine ⟨.inl (by kernel_rfl), ?_⟩)))
              (repeat (first | refine w_region ?_ | refine y_regEnd ?_ | refine y_inBlock ?_ | refine w_move rfl rfl rfl ?_ | refine w_assign rfl rfl rfl ?_ | refine w_add rfl rfl rfl rfl (by omega) (by omega) ?_))
              refine ihd _ _ _ (j + 1, Sort.swp d' j (j - 1)) [] ⟨by simp only; omega, by simp only; omega, by rw [swp_size]; exact hd', ?_⟩ (by simp only; omega) ?_
              · rw [← hsd]
                exact (shiftUp_go (by omega) (by simpa [ltP] using h5)).symm
              · (refine ⟨(ExtOk.of rfl), rfl, (by repeat (first | exact trivial | refine ⟨rfl, ?_⟩)), (by repeat (first | exact trivial | refine ⟨at_dat rfl, ?_⟩))⟩)
            · (repeat (refine dw_notB rfl rfl rfl ?_))
              (refine dk_nil ?_); (refine ⟨by kernel_rfl, ?_, ?_⟩); (focus (repeat (first | exact trivial | refine ⟨.inl rfl, ?_⟩ | refine ⟨.inr (by (repeat (refine ⟨(by first | exact rd_idxN (F.un _ rfl) (F.sz _ rfl) rfl rfl rfl (by omega) (by omega) (by omega) | exact rd_arith rfl rfl (.inl ⟨rfl, (Go.IntWalk.i64_in _ ⟨by omega, by omega⟩).symm⟩) | exact rd_arith rfl rfl (.inr (.inl ⟨rfl, (Go.IntWalk.i64_in _ ⟨by omega, by omega⟩).symm⟩)) | exact rd_fieldAddr (F.fo _ _ rfl rfl) rfl | exact rd_move rfl | exact rd_assign rfl | exact rd_load1 (F.ag _ rfl) rfl rfl (cell_box rfl) | exact rd_loadN (F.ag _ rfl) rfl rfl (cellsFrom_box _ 0 rfl rfl) | exact rd_extract rfl rfl | exact rd_lenSl (F.un _ rfl) rfl | exact rd_lenStr (F.un _ rfl) rfl | exact rd_nilCheck rfl | exact rd_pickT rfl rfl | exact rd_pickF rfl rfl), ?_⟩)); exact trivial), ?_⟩ | refine ⟨.inl (by kernel_rfl), ?_⟩)))
              (repeat (first | (refine out _ _ _ d' [] ⟨hd', by rw [← hsd]; exact shiftUp_stop (.inr (by simpa [ltP] using h5))⟩ ?_; (refine ⟨(ExtOk.of rfl), rfl, (by repeat (first | exact trivial | refine ⟨rfl, ?_⟩)), (by repeat (first | exact trivial | refine ⟨at_dat rfl, ?_⟩))⟩)) | (first | refine y_exit rfl ?_ | refine y_condT rfl ?_)))
          · (repeat (first | (refine out _ _ _ d' [] ⟨hd', by rw [← hsd]; exact shiftUp_stop (.inl (by omega))⟩ ?_; (refine ⟨(ExtOk.of rfl), rfl, (by repeat (first | exact trivial | refine ⟨rfl, ?_⟩)), (by repeat (first | exact trivial | refine ⟨at_dat rfl, ?_⟩))⟩)) | (first | refine y_regEnd ?_ | refine y_exit rfl ?_ | refine y_condF rfl ?_)))
        rintro d3 ⟨hd3, e3⟩
        (repeat (first | refine w_region ?_ | refine y_regEnd ?_ | refine y_inBlock ?_ | refine w_move rfl rfl rfl ?_ | refine w_assign rfl rfl rfl ?_ | refine w_add rfl rfl rfl rfl (by omega) (by omega) ?_))
        refine ih _ _ _ ((s, i1), d3) [] ⟨by simp only; omega, hai1, hi1, hd3, by rw [← ho]; exact (hps d3 (by rw [if_pos (by omega)]; exact e3)).symm⟩ (by simp only; omega) ?_
        (refine ⟨(ExtOk.of rfl), rfl, (by repeat (first | exact trivial | refine ⟨rfl, ?_⟩ | refine ⟨sl_eq (by first | omega | (simp only; omega)), ?_⟩)), (by repeat (first | exact trivial | refine ⟨at_dat rfl, ?_⟩))⟩)
      · (repeat (first | refine w_region ?_ | refine y_regEnd ?_ | refine y_inBlock ?_ | refine y_skip ?_ | refine y_condF rfl ?_ | refine w_move rfl rfl rfl ?_ | refine w_assign rfl rfl rfl ?_ | refine w_add rfl rfl rfl rfl (by omega) (by omega) ?_))
        refine ih _ _ _ ((s, i1), d2') [] ⟨by simp only; omega, hai1, hi1, hd2, by rw [← ho]; exact (hps d2' (by rw [if_neg (by omega)])).symm⟩ (by simp only; omega) ?_
        (refine ⟨(ExtOk.of rfl), rfl, (by repeat (first | exact trivial | refine ⟨rfl, ?_⟩ | refine ⟨sl_eq (by first | omega | (simp only; omega)), ?_⟩)), (by repeat (first | exact trivial | refine ⟨at_dat rfl, ?_⟩))⟩)
    · rw [if_neg (by omega)] at e2
      subst e2
      have hd2 := hd1
      (repeat (first | refine y_seq ?_ | refine w_region ?_ | refine y_regEnd ?_ | refine y_skip ?_ | refine y_condF rfl ?_ | refine w_move rfl rfl rfl ?_ | refine w_sub rfl rfl rfl rfl (by omega) (by omega) ?_))
      refine w_geqS rfl rfl rfl rfl ?_ ?_
      all_goals intro h6
      · (repeat (first | refine y_seq ?_ | refine w_region ?_ | refine y_regEnd ?_ | refine y_block ?_ | refine y_condT rfl ?_ | refine w_move rfl rfl rfl ?_ | refine w_assign rfl rfl rfl ?_ | refine w_add rfl rfl rfl rfl (by omega) (by omega) ?_))
        refine y_loopE 1 (fun s1 : Nat × Array (Int × Int) => [(0, .slu 0 0 n), (1, .sc (.int .i64 (a : Int))), (2, .sc (.int .i64 (b : Int))), (3, cmpF), (9, .sc (.int .i64 (i1 : Int))), (10, .sc (.int .i64 ((5 - (s + 1) : Nat) : Int))), (12, .sc (.int .i64 (s1.1 : Int)))]) (fun s1 => [some (rowP n s1.2)]) (fun s1 => i1 + 1 ≤ s1.1 ∧ s1.1 ≤ b ∧ s1.2.size = n ∧ Sort.shiftUp ltP b s1.1 s1.2 = Sort.shiftUp ltP b (i1 + 1) d1) (fun s1 => b - s1.1) (i1 + 1, d1) []
          1 (fun d' : Array (Int × Int) => [(0, .slu 0 0 n), (1, .sc (.int .i64 (a : Int))), (2, .sc (.int .i64 (b : Int))), (3, cmpF), (9, .sc (.int .i64 (i1 : Int))), (10, .sc (.int .i64 ((5 - (s + 1) : Nat) : Int)))]) (fun d' => [some (rowP n d')]) (fun d' => d'.size = n ∧ Sort.shiftUp ltP b (i1 + 1) d1 = d')
          (fun _ => rfl) (fun _ => rfl) ⟨Nat.le_refl _, by simp only; omega, hd2, rfl⟩ ?_ (fun _ => rfl) (fun _ => rfl) ?_ ?_
        · (refine ⟨(ExtOk.of rfl), rfl, (by repeat (first | exact trivial | refine ⟨rfl, ?_⟩)), (by repeat (first | exact trivial | refine ⟨at_dat rfl, ?_⟩))⟩)
        · rintro ⟨j, d'⟩ ⟨hj, hjb, hd', hsd⟩ ihd out
          simp only at hj hjb hd' hsd ihd ⊢
          (repeat (first | refine y_seq ?_ | refine w_region ?_ | refine w_move rfl rfl rfl ?_))
          refine w_lssS rfl rfl rfl rfl ?_ ?_
          all_goals intro h4
          · (repeat (first | refine y_seq ?_ | refine y_regEnd ?_ | refine y_block ?_ | refine y_skip ?_ | refine y_condT rfl ?_))
            refine w_draw (by kernel_rfl) (by kernel_rfl) ?_
            (repeat (first | refine dw_move rfl rfl rfl ?_ | refine dw_sub rfl rfl rfl rfl (by omega) (by omega) ?_ | refine dw_ldR rfl rfl rfl (F.ag _ rfl) (recP) rfl (by first | omega | (simp only [Array.size_setIfInBounds, swp_size]; omega)) (by first | omega | (simp only [Array.size_setIfInBounds, swp_size]; omega)) ?_ | refine dw_idxN (q := j) rfl rfl rfl rfl (F.un _ rfl) (F.sz _ rfl) rfl (by omega) (by omega) (by omega) ?_ | refine dw_idxN (q := j - 1) rfl rfl rfl rfl (F.un _ rfl) (F.sz _ rfl) rfl (by omega) (by omega) (by omega) ?_ | refine dk_callF rfl rfl rfl rfl (by kernel_rfl) rfl (Ctr.callV (cmp_spec d'[j]! d'[j - 1]!) [] rfl (ExtOk.of rfl) rfl trivial rfl) ?_))
            refine dw_lssS rfl rfl rfl rfl ?_ ?_
            all_goals intro h5
            · (repeat (refine dw_notB rfl rfl rfl ?_))
              (refine dk_nil ?_); (refine ⟨by kernel_rfl, ?_, ?_⟩); (focus (repeat (first | exact trivial | refine ⟨.inl rfl, ?_⟩ | refine ⟨.inr (by (repeat (refine ⟨(by first | exact rd_idxN (F.un _ rfl) (F.sz _ rfl) rfl rfl rfl (by omega) (by omega) (by omega) | exact rd_arith rfl rfl (.inl ⟨rfl, (Go.IntWalk.i64_in _ ⟨by omega, by omega⟩).symm⟩) | exact rd_arith rfl rfl (.inr (.inl ⟨rfl, (Go.IntWalk.i64_in _ ⟨by omega, by omega⟩).symm⟩)) | exact rd_fieldAddr (F.fo _ _ rfl rfl) rfl | exact rd_move rfl | exact rd_assign rfl | exact rd_load1 (F.ag _ rfl) rfl rfl (cell_box rfl) | exact rd_loadN (F.ag _ rfl) rfl rfl (cellsFrom_box _ 0 rfl rfl) | exact rd_extract rfl rfl | exact rd_lenSl (F.un _ rfl) rfl | exact rd_lenStr (F.un _ rfl) rfl | exact rd_nilCheck rfl | exact rd_pickT rfl rfl | exact rd_pickF rfl rfl), ?_⟩)); exact trivial), ?_⟩ | refine ⟨.inl (by kernel_rfl), ?_⟩)))
              (repeat (first | refine y_skip ?_ | refine y_condF rfl ?_))
              refine w_draw (by kernel_rfl) (by kernel_rfl) ?_
              (repeat (first | refine dw_move rfl rfl rfl ?_ | refine dw_sub rfl rfl rfl rfl (by omega) (by omega) ?_ | refine dw_ldR rfl rfl rfl (F.ag _ rfl) (recP) rfl (by first | omega | (simp only [Array.size_setIfInBounds, swp_size]; omega)) (by first | omega | (simp only [Array.size_setIfInBounds, swp_size]; omega)) ?_ | refine dw_stR rfl rfl rfl (recP) (F.sz _ rfl) rfl (by first | omega | (simp only [Array.size_setIfInBounds, swp_size]; omega)) (by first | omega | (simp only [Array.size_setIfInBounds, swp_size]; omega)) ?_ | refine dw_idxN (q := j) rfl rfl rfl rfl (F.un _ rfl) (F.sz _ rfl) rfl (by omega) (by omega) (by omega) ?_ | refine dw_idxN (q := j - 1) rfl rfl rfl rfl (F.un _ rfl) (F.sz _ rfl) rfl (by omega) (by omega) (by omega) ?_))
              (refine dk_nil ?_); (refine ⟨by kernel_rfl, ?_, ?_⟩); (focus (repeat (first | exact trivial | refine ⟨.inl rfl, ?_⟩ | refine ⟨.inr (by (repeat (refine ⟨(by first | exact rd_idxN (F.un _ rfl) (F.sz _ rfl) rfl rfl rfl (by omega) (by omega) (by omega) | exact rd_arith rfl rfl (.inl ⟨rfl, (Go.IntWalk.i64_in _ ⟨by omega, by omega⟩).symm⟩) | exact rd_arith rfl rfl (.inr (.inl ⟨rfl, (Go.IntWalk.i64_in _ ⟨by omega, by omega⟩).symm⟩)) | exact rd_fieldAddr (F.fo _ _ rfl rfl) rfl | exact rd_move rfl | exact rd_assign rfl | exact rd_load1 (F.ag _ rfl) rfl rfl (cell_box rfl) | exact rd_loadN (F.ag _ rfl) rfl rfl (cellsFrom_box _ 0 rfl rfl) | exact rd_extract rfl rfl | exact rd_lenSl (F.un _ rfl) rfl | exact rd_lenStr (F.un _ rfl) rfl | exact rd_nilCheck rfl | exact rd_pickT rfl rfl | exact rd_pickF rfl rfl), ?_⟩)); exact trivial), ?_⟩ | refine ⟨.inl (by kernel_rfl), ?_⟩)))
              (repeat (first | refine w_region ?_ | refine y_regEnd ?_ | refine y_inBlock ?_ | refine w_move rfl rfl rfl ?_ | refine w_assign rfl rfl rfl ?_ | refine w_add rfl rfl rfl rfl (by omega) (by omega) ?_))
              refine ihd _ _ _ (j + 1, Sort.swp d' j (j - 1)) [] ⟨by simp only; omega, by simp only; omega, by rw [swp_size]; exact hd', ?_⟩ (by simp only; omega) ?_
              · rw [← hsd]
                exact (shiftUp_go (by omega) (by simpa [ltP] using h5)).symm
              · (refine ⟨(ExtOk.of rfl), rfl, (by repeat (first | exact trivial | refine ⟨rfl, ?_⟩)), (by repeat (first | exact trivial | refine ⟨at_dat rfl, ?_⟩))⟩)
            · (repeat (refine dw_notB rfl rfl rfl ?_))
              (refine dk_nil ?_); (refine ⟨by kernel_rfl, ?_, ?_⟩); (focus (repeat (first | exact trivial | refine ⟨.inl rfl, ?_⟩ | refine ⟨.inr (by (repeat (refine ⟨(by first | exact rd_idxN (F.un _ rfl) (F.sz _ rfl) rfl rfl rfl (by omega) (by omega) (by omega) | exact rd_arith rfl rfl (.inl ⟨rfl, (Go.IntWalk.i64_in _ ⟨by omega, by omega⟩).symm⟩) | exact rd_arith rfl rfl (.inr (.inl ⟨rfl, (Go.IntWalk.i64_in _ ⟨by omega, by omega⟩).symm⟩)) | exact rd_fieldAddr (F.fo _ _ rfl rfl) rfl | exact rd_move rfl | exact rd_assign rfl | exact rd_load1 (F.ag _ rfl) rfl rfl (cell_box rfl) | exact rd_loadN (F.ag _ rfl) rfl rfl (cellsFrom_box _ 0 rfl rfl) | exact rd_extract rfl rfl | exact rd_lenSl (F.un _ rfl) rfl | exact rd_lenStr (F.un _ rfl) rfl | exact rd_nilCheck rfl | exact rd_pickT rfl rfl | exact rd_pickF rfl rfl), ?_⟩)); exact trivial), ?_⟩ | refine ⟨.inl (by kernel_rfl), ?_⟩)))
              (repeat (first | (refine out _ _ _ d' [] ⟨hd', by rw [← hsd]; exact shiftUp_stop (.inr (by simpa [ltP] using h5))⟩ ?_; (refine ⟨(ExtOk.of rfl), rfl, (by repeat (first | exact trivial | refine ⟨rfl, ?_⟩)), (by repeat (first | exact trivial | refine ⟨at_dat rfl, ?_⟩))⟩)) | (first | refine y_exit rfl ?_ | refine y_condT rfl ?_)))
          · (repeat (first | (refine out _ _ _ d' [] ⟨hd', by rw [← hsd]; exact shiftUp_stop (.inl (by omega))⟩ ?_; (refine ⟨(ExtOk.of rfl), rfl, (by repeat (first | exact trivial | refine ⟨rfl, ?_⟩)), (by repeat (first | exact trivial | refine ⟨at_dat rfl, ?_⟩))⟩)) | (first | refine y_regEnd ?_ | refine y_exit rfl ?_ | refine y_condF rfl ?_)))
        rintro d3 ⟨hd3, e3⟩
        (repeat (first | refine w_region ?_ | refine y_regEnd ?_ | refine y_inBlock ?_ | refine w_move rfl rfl rfl ?_ | refine w_assign rfl rfl rfl ?_ | refine w_add rfl rfl rfl rfl (by omega) (by omega) ?_))
        refine ih _ _ _ ((s, i1), d3) [] ⟨by simp only; omega, hai1, hi1, hd3, by rw [← ho]; exact (hps d3 (by rw [if_pos (by omega)]; exact e3)).symm⟩ (by simp only; omega) ?_
        (refine ⟨(ExtOk.of rfl), rfl, (by repeat (first | exact trivial | refine ⟨rfl, ?_⟩ | refine ⟨sl_eq (by first | omega | (simp only; omega)), ?_⟩)), (by repeat (first | exact trivial | refine ⟨at_dat rfl, ?_⟩))⟩)
      · (repeat (first | refine w_region ?_ | refine y_regEnd ?_ | refine y_inBlock ?_ | refine y_skip ?_ | refine y_condF rfl ?_ | refine w_move rfl rfl rfl ?_ | refine w_assign rfl rfl rfl ?_ | refine w_add rfl rfl rfl rfl (by omega) (by omega) ?_))
        refine ih _ _ _ ((s, i1), d1) [] ⟨by simp only; omega, hai1, hi1, hd2, by rw [← ho]; exact (hps d1 (by rw [if_neg (by omega)])).symm⟩ (by simp only; omega) ?_
        (refine ⟨(ExtOk.of rfl), rfl, (by repeat (first | exact trivial | refine ⟨rfl, ?_⟩ | refine ⟨sl_eq (by first | omega | (simp only; omega)), ?_⟩)), (by repeat (first | exact trivial | refine ⟨at_dat rfl, ?_⟩))⟩)
  · obtain rfl : s = 0 := by omega
    (repeat (first | refine y_seq ?_ | refine w_region ?_ | refine y_regEnd ?_ | refine y_exit rfl ?_ | refine y_condF rfl ?_ | refine w_assign rfl rfl rfl ?_))
    rw [← ho]
    ((apply w_ret Try.func58 (congrArg Array.toList Try.results58)); (focus (repeat (first | exact ResIs.nil | apply ResIs.tmp rfl))); refine ⟨_, rfl, Ends.mk [] (ExtOk.of rfl) rfl rfl ?_⟩)
    exact (by repeat (first | exact trivial | refine ⟨at_dat rfl, ?_⟩))
end Go.Proofs.Ytfkfiafohcoomaa
end
section
namespace Go.Proofs.Ytfkfiafohcoomaa
open Go Go.Sy Go.Sl Go.RowKit
theorem uPl : Try.prog.underlying 25 = some (.struct (Try.prog.fieldsOf 25)) := by kernel_rfl
def fdsPl : List (Bool × TypeId × Nat) := [(true, 23, 0), (true, 23, 1)]
theorem fPl : (Try.prog.fieldsOf 25).toList.map (fun f => (f.name != "_", f.type, f.offset)) = fdsPl := by kernel_rfl
theorem fPl2 : ∃ f g : Field, (Try.prog.fieldsOf 25).toList = [f, g] ∧ f.name ≠ "_" ∧ f.type = 23 ∧ f.offset = 0 ∧ g.name ≠ "_" ∧ g.type = 23 ∧ g.offset = 1 := by
  have h := fPl
  generalize (Try.prog.fieldsOf 25).toList = l at h
  have hl : l.length = 2 := by simpa [fdsPl] using congrArg List.length h
  rcases l with _ | ⟨f, _ | ⟨g, _ | ⟨x, l⟩⟩⟩
  · simp at hl
  · simp at hl
  · simp only [List.map_cons, List.map_nil, fdsPl, List.cons.injEq, Prod.mk.injEq, and_true, bne_iff_ne] at h
    exact ⟨f, g, rfl, h.1.1, h.1.2.1, h.1.2.2, h.2.1, h.2.2.1, h.2.2.2⟩
  · simp at hl
section
variable {P : Program} {H : Heap} {T : Tr SV} {nx : Nat}
variable {d : Option Tmp} {ty : TypeId} {pos : String} {af : Array Edge} {gd : Option (Nat × Bool)}
set_option maxRecDepth 100000 in
/-- A slice that has an element is not nil. -/
theorem rd_notNil {t el : TypeId} {x : Operand} {yt : TypeId} {b eo n ne sz : Nat} {ro : Bool} {rt : TypeId} {c : Tr SV} (hx : evalS T x = some (.slu b eo n)) (hb : H.at' b = some (.row ro ne sz rt c)) (hn : 0 < ne) (hu : P.underlying t = some (.slice el)) :
    ReadDoes P T H ⟨d, .binOp .eql t x (.const (.slice none 0 0)) yt, ty, pos, af, gd⟩ (.sc (.bool false)) := by
  intro K w0 e nx w ev hS hE
  refine ⟨_, rfl, ?_⟩
  obtain ⟨y, hy, hl⟩ := hS.rel b _ hb
  have e1 := hE x _ hx
  have e2 := hE (.const (.slice none 0 0)) (.sc (.slice none 0 0)) rfl
  simp only [SV.conc, Option.some.injEq] at e2
  have hnil : y.nil = false := by
    rcases hl with ⟨h, _⟩ | ⟨_, _, ro', t', c', h, _⟩
    · exact h
    · simp only [VO.row.injEq] at h
      omega
  simp only [SV.conc, hy, Option.map_some, Option.some.injEq, Ent.at, hnil, cond_false] at e1
  have hb2 : ∀ (q : Addr) (m c : Nat), (binOp .eql t (.slice (some q) m c) (.slice none 0 0)).run P w = .ok (.bool false) w := fun q m c => Lib.run_eql_slice_nil w t el (some q) m c 0 0 hu
  have hg2 : ∀ (q : Addr) (m c : Nat), (eqGuard .eql t x (.const (.slice none 0 0)) (.slice (some q) m c) (.slice none 0 0)).run P w = .ok () w := fun q m c => rfl
  have e1' := e1.symm
  have e2' := e2.symm
  simp only [execOp, e1', e2', Sem.run_bind, hg2, hb2, Result.andThen_ok, Sem.run_pure]
theorem rd_strAt {t : TypeId} {x y : Operand} {s : ByteArray} {k : IntKind} {i : Nat} {v : UInt8} (hx : evalS T x = some (.sc (.string s))) (hy : evalS T y = some (.sc (.int k (i : Int)))) (hu : P.underlying t = some .string) (hv : s[i]? = some v) :
    ReadDoes P T H ⟨d, .index t x y, ty, pos, af, gd⟩ (.sc (.int .u8 v.toNat)) := by
  refine rd_pure fun ev w he => ?_
  have e1 := he x _ hx _ rfl
  have e2 := he y _ hy _ rfl
  simp [execOp, e1, e2, Instr.index, asIntOf, run_underlying hu, hv]
end
section
variable {ro : Option Nat} {fn nt nx i : Nat} {T : Tr SV} {k : List AIt} {dfs : List ADf} {H : Heap} {Q : Pst} {ops : Array Oper} {l : List Oper} {ty : TypeId} {pos : String} {af : Array Edge} {gd : Option (Nat × Bool)} {P : Program}
theorem w_notNil {t el : TypeId} {x : Operand} {yt : TypeId} {b eo n ne sz : Nat} {rr : Bool} {rt : TypeId} {c : Tr SV} {dd : Nat} (hw : wantedS T ops ⟨some dd, .binOp .eql t x (.const (.slice none 0 0)) yt, ty, pos, af, gd⟩ = some true) (hd : Nat.blt dd nt = true) (hx : evalS T x = some (.slu b eo n)) (hb : H.at' b = some (.row rr ne sz rt c)) (hu : P.underlying t = some (.slice el)) (hn : 0 < ne)
    (h : Wp P ro ⟨fn, nt, T.set dd (.sc (.bool false)), .inReg ops (i + 1) l :: k, dfs, H, nx⟩ Q) : Wp P ro ⟨fn, nt, T, .inReg ops i (⟨some dd, .binOp .eql t x (.const (.slice none 0 0)) yt, ty, pos, af, gd⟩ :: l) :: k, dfs, H, nx⟩ Q :=
  y_val hw (.inr (fun _ h => by cases h)) ((rd_notNil hx hb hn hu).does) (by rw [putS_some hd]; exact h)
theorem w_strAt {t : TypeId} {x y : Operand} {s : ByteArray} {kd : IntKind} {j : Nat} {v : UInt8} {dd : Nat} (hw : wantedS T ops ⟨some dd, .index t x y, ty, pos, af, gd⟩ = some true) (hd : Nat.blt dd nt = true) (hx : evalS T x = some (.sc (.string s))) (hy : evalS T y = some (.sc (.int kd (j : Int)))) (hu : P.underlying t = some .string) (hv : s[j]? = some v)
    (h : Wp P ro ⟨fn, nt, T.set dd (.sc (.int .u8 v.toNat)), .inReg ops (i + 1) l :: k, dfs, H, nx⟩ Q) : Wp P ro ⟨fn, nt, T, .inReg ops i (⟨some dd, .index t x y, ty, pos, af, gd⟩ :: l) :: k, dfs, H, nx⟩ Q :=
  y_val hw (.inr (fun _ h => by cases h)) ((rd_strAt hx hy hu hv).does) (by rw [putS_some hd]; exact h)
end
end Go.Proofs.Ytfkfiafohcoomaa
end
section
namespace Go.Proofs.Ytfkfiafohcoomaa
open Go Go.Sy
theorem u64_lt {m : Nat} (h : m < 2 ^ 64) : IntKind.u64.wrap ((m : Nat) : Int) = (m : Int) := by
  rw [Go.IntWalk.u64_in _ ⟨by omega, by omega⟩]
theorem xorU {a b : Nat} (ha : a < 18446744073709551616) (hb : b < 18446744073709551616) : bitsI .xor .u64 (a : Int) (b : Int) = ((a ^^^ b : Nat) : Int) := by
  show IntKind.u64.wrap (((BitVec.ofInt 64 (a : Int) ^^^ BitVec.ofInt 64 (b : Int)).toNat : Nat) : Int) = _
  rw [BitVec.toNat_xor, BitVec.ofInt_natCast, BitVec.ofInt_natCast, BitVec.toNat_ofNat, BitVec.toNat_ofNat, Nat.mod_eq_of_lt ha, Nat.mod_eq_of_lt hb, u64_lt]
  exact Nat.xor_lt_two_pow ha hb
theorem andU {a b : Nat} (ha : a < 18446744073709551616) (hb : b < 18446744073709551616) : bitsI .and .u64 (a : Int) (b : Int) = ((a &&& b : Nat) : Int) := by
  show IntKind.u64.wrap (((BitVec.ofInt 64 (a : Int) &&& BitVec.ofInt 64 (b : Int)).toNat : Nat) : Int) = _
  rw [BitVec.toNat_and, BitVec.ofInt_natCast, BitVec.ofInt_natCast, BitVec.toNat_ofNat, BitVec.toNat_ofNat, Nat.mod_eq_of_lt ha, Nat.mod_eq_of_lt hb, u64_lt]
  exact Nat.and_lt_two_pow _ hb
theorem sh13 (x : Nat) : IntKind.u64.wrap ((x : Int) * 2 ^ (min (Int.toNat 13) IntKind.u64.bits)) = ((x * 8192 % 18446744073709551616 : Nat) : Int) := by
  have : (2 : Int) ^ (min (Int.toNat 13) IntKind.u64.bits) = 8192 := by decide
  rw [this, IntKind.wrap_u64]
  omega
theorem sh17 (x : Nat) : IntKind.u64.wrap ((x : Int) * 2 ^ (min (Int.toNat 17) IntKind.u64.bits)) = ((x * 131072 % 18446744073709551616 : Nat) : Int) := by
  have : (2 : Int) ^ (min (Int.toNat 17) IntKind.u64.bits) = 131072 := by decide
  rw [this, IntKind.wrap_u64]
  omega
theorem sh7 (x : Nat) : Int.fdiv (x : Int) (2 ^ (min (Int.toNat 7) IntKind.u64.bits)) = ((x / 128 : Nat) : Int) := by
  have : (2 : Int) ^ (min (Int.toNat 7) IntKind.u64.bits) = 128 := by decide
  rw [this, Int.fdiv_eq_ediv_of_nonneg _ (by decide)]
  omega
theorem sh8 (x : Nat) : Int.fdiv (x : Int) (2 ^ (min (Int.toNat 8) IntKind.u64.bits)) = ((x / 256 : Nat) : Int) := by
  have : (2 : Int) ^ (min (Int.toNat 8) IntKind.u64.bits) = 256 := by decide
  rw [this, Int.fdiv_eq_ediv_of_nonneg _ (by decide)]
  omega
abbrev xsO (x : Nat) : VO := newCells 108 [.sc (.int .u64 (x : Int))]
set_option maxRecDepth 100000 in
set_option maxHeartbeats 0 in
theorem next_spec (x : Nat) (hx : x < 18446744073709551616) : Ctr Try.prog 68 [.ptr 0 0] [xsO x] (fun c => c = ⟨.sc (.int .u64 (Sort.xorNextN x : Int)), [some (xsO (Sort.xorNextN x))]⟩) := by
  have hA : x ^^^ (x * 8192 % 18446744073709551616) < 18446744073709551616 := Nat.xor_lt_two_pow (n := 64) (by omega) (by omega)
  have eA := xorU (a := x) (b := x * 8192 % 18446744073709551616) hx (by omega)
  have eC : Sort.xorNextN x = Sort.xorNextN x := rfl
  conv at eC => rhs; unfold Sort.xorNextN
  simp only at eC
  generalize x ^^^ (x * 8192 % 18446744073709551616) = A at hA eA eC
  have hB : A ^^^ (A / 128) < 18446744073709551616 := Nat.xor_lt_two_pow (n := 64) (by omega) (by omega)
  have eB := xorU (a := A) (b := A / 128) hA (by omega)
  generalize A ^^^ (A / 128) = B at hB eB eC
  have eD := xorU (a := B) (b := B * 131072 % 18446744073709551616) hB (by omega)
  rw [← eC] at eD
  refine Fnc.start Try.func68 rfl rfl ?_
  (repeat (first | refine y_seq ?_ | refine w_region ?_ | refine y_regEnd ?_ | refine w_assign rfl rfl rfl ?_))
  refine w_draw (by kernel_rfl) (by kernel_rfl) ?_
  (repeat (first | refine dw_move rfl rfl rfl ?_ | refine dw_nilCheck rfl rfl rfl ?_ | refine dw_loadB1 rfl rfl rfl (F.ag _ rfl) rfl rfl ?_ | refine dw_store1 rfl rfl rfl (F.sz _ rfl) rfl rfl rfl ?_ | (refine dw_shlC rfl rfl rfl rfl (by decide) (sh13 x) ?_) | (refine dw_bitC rfl rfl rfl rfl (.inr (.inr (.inl rfl))) eA ?_)))
  (refine dk_nil ?_); (refine ⟨by kernel_rfl, ?_, ?_⟩); (focus (repeat (first | exact trivial | refine ⟨.inl rfl, ?_⟩ | refine ⟨.inr (by (repeat (refine ⟨(by first | exact rd_idxN (F.un _ rfl) (F.sz _ rfl) rfl rfl rfl (by omega) (by omega) (by omega) | exact rd_arith rfl rfl (.inl ⟨rfl, (Go.IntWalk.i64_in _ ⟨by omega, by omega⟩).symm⟩) | exact rd_arith rfl rfl (.inr (.inl ⟨rfl, (Go.IntWalk.i64_in _ ⟨by omega, by omega⟩).symm⟩)) | exact rd_fieldAddr (F.fo _ _ rfl rfl) rfl | exact rd_move rfl | exact rd_assign rfl | exact rd_load1 (F.ag _ rfl) rfl rfl (cell_box rfl) | exact rd_loadN (F.ag _ rfl) rfl rfl (cellsFrom_box _ 0 rfl rfl) | exact rd_extract rfl rfl | exact rd_lenSl (F.un _ rfl) rfl | exact rd_lenStr (F.un _ rfl) rfl | exact rd_nilCheck rfl | exact rd_pickT rfl rfl | exact rd_pickF rfl rfl), ?_⟩)); exact trivial), ?_⟩ | refine ⟨.inl (by kernel_rfl), ?_⟩)))
  (repeat (refine y_seq ?_))
  refine w_draw (by kernel_rfl) (by kernel_rfl) ?_
  (repeat (first | refine dw_move rfl rfl rfl ?_ | refine dw_nilCheck rfl rfl rfl ?_ | refine dw_loadB1 rfl rfl rfl (F.ag _ rfl) rfl rfl ?_ | refine dw_store1 rfl rfl rfl (F.sz _ rfl) rfl rfl rfl ?_ | (refine dw_shrC rfl rfl rfl rfl (by decide) (sh7 A) ?_) | (refine dw_bitC rfl rfl rfl rfl (.inr (.inr (.inl rfl))) eB ?_)))
  (refine dk_nil ?_); (refine ⟨by kernel_rfl, ?_, ?_⟩); (focus (repeat (first | exact trivial | refine ⟨.inl rfl, ?_⟩ | refine ⟨.inr (by (repeat (refine ⟨(by first | exact rd_idxN (F.un _ rfl) (F.sz _ rfl) rfl rfl rfl (by omega) (by omega) (by omega) | exact rd_arith rfl rfl (.inl ⟨rfl, (Go.IntWalk.i64_in _ ⟨by omega, by omega⟩).symm⟩) | exact rd_arith rfl rfl (.inr (.inl ⟨rfl, (Go.IntWalk.i64_in _ ⟨by omega, by omega⟩).symm⟩)) | exact rd_fieldAddr (F.fo _ _ rfl rfl) rfl | exact rd_move rfl | exact rd_assign rfl | exact rd_load1 (F.ag _ rfl) rfl rfl (cell_box rfl) | exact rd_loadN (F.ag _ rfl) rfl rfl (cellsFrom_box _ 0 rfl rfl) | exact rd_extract rfl rfl | exact rd_lenSl (F.un _ rfl) rfl | exact rd_lenStr (F.un _ rfl) rfl | exact rd_nilCheck rfl | exact rd_pickT rfl rfl | exact rd_pickF rfl rfl), ?_⟩)); exact trivial), ?_⟩ | refine ⟨.inl (by kernel_rfl), ?_⟩)))
  (repeat (refine y_seq ?_))
  refine w_draw (by kernel_rfl) (by kernel_rfl) ?_
  (repeat (first | refine dw_move rfl rfl rfl ?_ | refine dw_nilCheck rfl rfl rfl ?_ | refine dw_loadB1 rfl rfl rfl (F.ag _ rfl) rfl rfl ?_ | refine dw_store1 rfl rfl rfl (F.sz _ rfl) rfl rfl rfl ?_ | (refine dw_shlC rfl rfl rfl rfl (by decide) (sh17 B) ?_) | (refine dw_bitC rfl rfl rfl rfl (.inr (.inr (.inl rfl))) eD ?_)))
  (refine dk_nil ?_); (refine ⟨by kernel_rfl, ?_, ?_⟩); (focus (repeat (first | exact trivial | refine ⟨.inl rfl, ?_⟩ | refine ⟨.inr (by (repeat (refine ⟨(by first | exact rd_idxN (F.un _ rfl) (F.sz _ rfl) rfl rfl rfl (by omega) (by omega) (by omega) | exact rd_arith rfl rfl (.inl ⟨rfl, (Go.IntWalk.i64_in _ ⟨by omega, by omega⟩).symm⟩) | exact rd_arith rfl rfl (.inr (.inl ⟨rfl, (Go.IntWalk.i64_in _ ⟨by omega, by omega⟩).symm⟩)) | exact rd_fieldAddr (F.fo _ _ rfl rfl) rfl | exact rd_move rfl | exact rd_assign rfl | exact rd_load1 (F.ag _ rfl) rfl rfl (cell_box rfl) | exact rd_loadN (F.ag _ rfl) rfl rfl (cellsFrom_box _ 0 rfl rfl) | exact rd_extract rfl rfl | exact rd_lenSl (F.un _ rfl) rfl | exact rd_lenStr (F.un _ rfl) rfl | exact rd_nilCheck rfl | exact rd_pickT rfl rfl | exact rd_pickF rfl rfl), ?_⟩)); exact trivial), ?_⟩ | refine ⟨.inl (by kernel_rfl), ?_⟩)))
  (repeat (first | refine y_seq ?_ | refine w_region ?_ | refine y_regEnd ?_ | refine w_move rfl rfl rfl ?_ | refine w_assign rfl rfl rfl ?_ | refine w_nilCheck rfl rfl rfl ?_ | refine w_loadB1 rfl rfl rfl (F.ag _ rfl) rfl rfl ?_))
  ((apply w_ret Try.func68 (congrArg Array.toList Try.results68)); (focus (repeat (first | exact ResIs.nil | apply ResIs.tmp rfl))); refine ⟨_, rfl, Ends.mk [] (ExtOk.of rfl) rfl rfl ?_⟩)
  exact (by repeat (first | exact trivial | refine ⟨at_box rfl, ?_⟩))
def tabOk (s : ByteArray) : Bool := (List.range 256).all fun i => match s[i]? with
  | some v => v.toNat == Sort.bitsLen i
  | none => false
theorem tab_at {s : ByteArray} (h : tabOk s = true) {i : Nat} (hi : i < 256) : s[i]? = some (UInt8.ofNat (Sort.bitsLen i)) := by
  unfold tabOk at h
  rw [List.all_eq_true] at h
  have := h i (List.mem_range.2 hi)
  split at this
  · rename_i v hv
    rw [hv, ← (beq_iff_eq.1 this), UInt8.ofNat_toNat]
  · cases this
theorem bits_div (x : Nat) (h : 256 ≤ x) : Sort.bitsLen x = 8 + Sort.bitsLen (x / 256) := by
  have key : ∀ k, Sort.bitsLen (x / 256) ≤ k ↔ Sort.bitsLen x ≤ k + 8 := fun k => by
    rw [Sort.bitsLen_le_iff, Sort.bitsLen_le_iff, Nat.pow_add, Nat.div_lt_iff_lt_mul (by decide)]
  have h8 : ¬ Sort.bitsLen x ≤ 7 := by
    rw [Sort.bitsLen_le_iff]
    omega
  have h1 := (key (Sort.bitsLen (x / 256))).1 (Nat.le_refl _)
  have h2 := (key (Sort.bitsLen x - 8)).2 (by omega)
  omega
theorem bits16 {x : Nat} (h : x < 65536) : Sort.bitsLen x ≤ 16 := (Sort.bitsLen_le_iff x 16).2 h
theorem u8len {x : Nat} (h : x < 65536) : IntKind.i64.wrap (((UInt8.ofNat (Sort.bitsLen x)).toNat : Nat) : Int) = (Sort.bitsLen x : Int) := by
  have := bits16 h
  rw [UInt8.toNat_ofNat', Nat.mod_eq_of_lt (by omega), Go.IntWalk.i64_in _ ⟨by omega, by omega⟩]
set_option maxRecDepth 100000 in
set_option maxHeartbeats 0 in
theorem len64_spec (x : Nat) (hx : x < 65536) : Ctr Try.prog 62 [.sc (.int .u64 (x : Int))] [] (fun c => c = ⟨.sc (.int .i64 (Sort.bitsLen x : Int)), []⟩) := by
  have h16 := bits16 hx
  refine Fnc.start Try.func62 rfl rfl ?_
  (repeat (first | refine y_seq ?_ | refine w_region ?_ | refine y_regEnd ?_ | refine w_move rfl rfl rfl ?_ | refine w_assign rfl rfl rfl ?_))
  refine w_geqS rfl rfl rfl rfl ?_ ?_
  all_goals intro h1
  · exact absurd h1 (by omega)
  (repeat (first | refine y_seq ?_ | refine w_region ?_ | refine y_regEnd ?_ | refine y_skip ?_ | refine y_condF rfl ?_ | refine w_move rfl rfl rfl ?_))
  refine w_geqS rfl rfl rfl rfl ?_ ?_
  all_goals intro h2
  · exact absurd h2 (by omega)
  (repeat (first | refine y_seq ?_ | refine w_region ?_ | refine y_regEnd ?_ | refine y_skip ?_ | refine y_condF rfl ?_ | refine w_move rfl rfl rfl ?_))
  refine w_geqS rfl rfl rfl rfl ?_ ?_
  all_goals intro h3
  · have h17 := bits16 (x := x / 256) (by omega)
    (repeat (first | (first | refine y_seq ?_ | refine w_region ?_ | refine y_regEnd ?_ | refine y_condT rfl ?_ | refine w_move rfl rfl rfl ?_ | refine w_assign rfl rfl rfl ?_ | refine w_add rfl rfl rfl rfl (by omega) (by omega) ?_) | (refine w_shrC rfl rfl rfl rfl (by decide) (sh8 x) ?_) | refine w_conv rfl rfl rfl (F.un _ rfl) (F.un _ rfl) (show _ = ((x / 256 : Nat) : Int) from Go.IntWalk.u8_in _ ⟨by omega, by omega⟩) ?_ | (refine w_strAt rfl rfl rfl rfl (F.un _ rfl) (tab_at (by kernel_rfl) (show x / 256 < 256 by omega)) ?_) | refine w_conv rfl rfl rfl (F.un _ rfl) (F.un _ rfl) (u8len (x := x / 256) (by omega)) ?_))
    rw [bits_div x (by omega)]
    (apply w_ret Try.func62 (congrArg Array.toList Try.results62); (focus (repeat (first | exact ResIs.nil | apply ResIs.tmp rfl))))
    (refine ⟨_, rfl, Ends.val (ExtOk.of rfl) rfl ?_ ?_⟩)
    · simp
    · trivial
  · (repeat (first | (first | refine y_seq ?_ | refine w_region ?_ | refine y_regEnd ?_ | refine y_skip ?_ | refine y_condF rfl ?_ | refine w_move rfl rfl rfl ?_ | refine w_assign rfl rfl rfl ?_ | refine w_add rfl rfl rfl rfl (by omega) (by omega) ?_) | refine w_conv rfl rfl rfl (F.un _ rfl) (F.un _ rfl) (show _ = (x : Int) from Go.IntWalk.u8_in _ ⟨by omega, by omega⟩) ?_ | (refine w_strAt rfl rfl rfl rfl (F.un _ rfl) (tab_at (by kernel_rfl) (show x < 256 by omega)) ?_) | refine w_conv rfl rfl rfl (F.un _ rfl) (F.un _ rfl) (u8len (x := x) (by omega)) ?_))
    (apply w_ret Try.func62 (congrArg Array.toList Try.results62); (focus (repeat (first | exact ResIs.nil | apply ResIs.tmp rfl))))
    (refine ⟨_, rfl, Ends.val (ExtOk.of rfl) rfl ?_ ?_⟩)
    · simp
    · trivial
theorem len_spec (x : Nat) (hx : x < 65536) : Ctr Try.prog 43 [.sc (.int .u64 (x : Int))] [] (fun c => c = ⟨.sc (.int .i64 (Sort.bitsLen x : Int)), []⟩) := by
  refine Fnc.start Try.func43 rfl rfl ?_
  (repeat (first | (first | refine y_seq ?_ | refine w_region ?_ | refine y_regEnd ?_ | refine y_skip ?_ | refine y_condF rfl ?_ | refine w_move rfl rfl rfl ?_ | refine w_assign rfl rfl rfl ?_) | refine w_callV (len64_spec x hx) [] rfl rfl rfl (by kernel_rfl) rfl (ExtOk.of rfl) rfl trivial ?_))
  (apply w_ret Try.func43 (congrArg Array.toList Try.results43); (focus (repeat (first | exact ResIs.nil | apply ResIs.tmp rfl))))
  (refine ⟨_, rfl, Ends.val (ExtOk.of rfl) rfl ?_ ?_⟩)
  · rfl
  · trivial
theorem pow_in {k : Nat} (h : k ≤ 16) : IntKind.u64.wrap ((1 : Int) * 2 ^ (min (Int.toNat (k : Int)) IntKind.u64.bits)) = ((2 ^ k : Nat) : Int) := by
  have : ∀ k : Fin 17, IntKind.u64.wrap ((1 : Int) * 2 ^ (min (Int.toNat (k.val : Int)) IntKind.u64.bits)) = ((2 ^ k.val : Nat) : Int) := by decide
  exact this ⟨k, by omega⟩
theorem pow2_spec (x : Nat) (hx : x < 65536) : Ctr Try.prog 67 [.sc (.int .i64 (x : Int))] [] (fun c => c = ⟨.sc (.int .u64 ((2 ^ Sort.bitsLen x : Nat) : Int)), []⟩) := by
  refine Fnc.start Try.func67 rfl rfl ?_
  (repeat (first | (first | refine y_seq ?_ | refine w_region ?_ | refine y_regEnd ?_ | refine w_move rfl rfl rfl ?_ | refine w_assign rfl rfl rfl ?_) | refine w_conv rfl rfl rfl (F.un _ rfl) (F.un _ rfl) (show _ = (x : Int) from Go.IntWalk.u64_in _ ⟨by omega, by omega⟩) ?_ | refine w_callV (len_spec x hx) [] rfl rfl rfl (by kernel_rfl) rfl (ExtOk.of rfl) rfl trivial ?_ | (refine w_shlC rfl rfl rfl rfl (by omega) (pow_in (bits16 hx)) ?_)))
  (apply w_ret Try.func67 (congrArg Array.toList Try.results67); (focus (repeat (first | exact ResIs.nil | apply ResIs.tmp rfl))))
  (refine ⟨_, rfl, Ends.val (ExtOk.of rfl) rfl ?_ ?_⟩)
  · rfl
  · trivial
end Go.Proofs.Ytfkfiafohcoomaa
end
section
namespace Go.Proofs.Ytfkfiafohcoomaa
open Go Go.Sy
def brk (a len m : Nat) : Nat → UInt64 × Array (Int × Int) → Nat → UInt64 × Array (Int × Int)
  | 0, st, _ => st
  | k + 1, st, i => brk a len m k (Sort.breakStep a len m st i) (i + 1)
set_option maxRecDepth 100000 in
set_option maxHeartbeats 0 in
theorem brk_spec (n a b : Nat) (d : Array (Int × Int)) (hn : n < 65536) (hd : d.size = n) (hab : a ≤ b) (hb : b ≤ n) :
    Ctr Try.prog 55 [.slu 0 0 n, .sc (.int .i64 (a : Int)), .sc (.int .i64 (b : Int)), cmpF] [rowP n d] (fun c => c = ⟨.tup [], [some (rowP n (Sort.breakPatterns d a b))]⟩) := by
  have eba : (b : Int) - (a : Int) = ((b - a : Nat) : Int) := by omega
  refine Fnc.start Try.func55 rfl rfl ?_
  (repeat (first | refine y_seq ?_ | refine w_region ?_ | refine y_regEnd ?_ | refine w_move rfl rfl rfl ?_ | refine w_assign rfl rfl rfl ?_ | refine w_sub rfl rfl rfl rfl (by omega) (by omega) ?_))
  rw [eba]
  have ebp : Sort.breakPatterns d a b = Sort.breakPatterns d a b := rfl
  conv at ebp => rhs; unfold Sort.breakPatterns
  simp only at ebp
  refine w_geqS rfl rfl rfl rfl ?_ ?_
  all_goals intro h1
  · rw [if_pos (by omega)] at ebp
    have ep : Sort.bitsLen (b - a) ≤ 16 := bits16 (by omega)
    have eq1 : (1 : Nat) <<< Sort.bitsLen (b - a) = 2 ^ Sort.bitsLen (b - a) := by rw [Nat.shiftLeft_eq, Nat.one_mul]
    have eq2 : 2 ^ Sort.bitsLen (b - a) ≤ 2 * (b - a) := Sort.two_pow_bitsLen_le (by omega)
    have eq3 : 0 < 2 ^ Sort.bitsLen (b - a) := Nat.pow_pos (by decide)
    (repeat (first | (first | refine y_seq ?_ | refine w_region ?_ | refine y_regEnd ?_ | refine y_block ?_ | refine y_condT rfl ?_ | refine w_move rfl rfl rfl ?_ | refine w_assign rfl rfl rfl ?_ | refine w_alloc rfl rfl (F.zl _ rfl) ?_ | refine w_store1 rfl rfl rfl (F.sz _ rfl) rfl rfl rfl ?_ | refine w_add rfl rfl rfl rfl (by omega) (by omega) ?_ | refine w_sub rfl rfl rfl rfl (by omega) (by omega) ?_ | refine w_mul rfl rfl rfl rfl (by omega) (by omega) ?_ | refine w_quo rfl rfl rfl rfl (by omega) (by omega) (by omega) ?_) | refine w_conv rfl rfl rfl (F.un _ rfl) (F.un _ rfl) (show _ = ((b - a : Nat) : Int) from Go.IntWalk.u64_in _ ⟨by omega, by omega⟩) ?_ | refine w_callV (pow2_spec (b - a) (by omega)) [] rfl rfl rfl (by kernel_rfl) rfl (ExtOk.of rfl) rfl trivial ?_))
    rw [eq1] at ebp
    generalize hm : 2 ^ Sort.bitsLen (b - a) = m at ebp eq2 eq3
    have e4 : (a : Int) + ((b - a : Nat) : Int) / 4 * 2 - 1 = ((a + (b - a) / 4 * 2 - 1 : Nat) : Int) := by omega
    rw [e4]
    have hbase : a + (b - a) / 4 * 2 - 1 + 3 ≤ b := by omega
    have hlt : 0 < a + (b - a) / 4 * 2 := by omega
    generalize hbs : a + (b - a) / 4 * 2 - 1 = base at ebp hbase
    have ht : Sort.breakPatterns d a b = (brk a (b - a) m 3 (UInt64.ofNat (b - a), d) base).2 := ebp
    refine y_loopC 2 (fun s : (Nat × UInt64) × Array (Int × Int) => [(0, .slu 0 0 n), (1, .sc (.int .i64 (a : Int))), (8, .sc (.int .i64 ((b - a : Nat) : Int))), (9, .ptr 1 0), (10, .sc (.int .u64 (m : Int))), (11, .sc (.int .i64 ((base + 3 - s.1.1 : Nat) : Int)))]) (fun s => [some (rowP n s.2), some (xsO s.1.2.toNat)]) (fun s => s.1.1 ≤ 3 ∧ s.2.size = n ∧ (brk a (b - a) m s.1.1 (s.1.2, s.2) (base + 3 - s.1.1)).2 = Sort.breakPatterns d a b) (fun s => s.1.1) ((3, UInt64.ofNat (b - a)), d) [1]
      (fun _ => rfl) ⟨Nat.le_refl _, hd, by rw [ht]; rfl⟩ ?_ (fun _ => rfl) (fun _ => rfl) ?_
    · have e0 : (UInt64.ofNat (b - a)).toNat = b - a := by rw [UInt64.toNat_ofNat', Nat.mod_eq_of_lt (by omega)]
      rw [e0]
      (refine ⟨(ExtOk.of rfl), rfl, (by repeat (first | exact trivial | refine ⟨rfl, ?_⟩)), (by repeat (first | exact trivial | refine ⟨at_dat rfl, ?_⟩ | refine ⟨at_box rfl, ?_⟩))⟩)
    rintro ⟨⟨s, r⟩, d1⟩ ⟨hs, hd1, ho⟩ ih
    simp only at hs hd1 ho ih ⊢
    (repeat (first | refine y_seq ?_ | refine w_region ?_ | refine w_move rfl rfl rfl ?_ | refine w_add rfl rfl rfl rfl (by omega) (by omega) ?_ | refine w_mul rfl rfl rfl rfl (by omega) (by omega) ?_ | refine w_quo rfl rfl rfl rfl (by omega) (by omega) (by omega) ?_))
    refine w_leqS rfl rfl rfl rfl ?_ ?_
    all_goals intro h2
    · obtain ⟨s, rfl⟩ : ∃ s', s = s' + 1 := ⟨s - 1, by omega⟩
      have hr := UInt64.toNat_lt r
      have hnx := Sort.xorNextN_lt r.toNat hr
      have hxn := Sort.xorNext_toNat r
      have hst : Sort.breakStep a (b - a) m (r, d1) (base + 3 - (s + 1)) = (Sort.xorNext r, Sort.swp d1 (base + 3 - (s + 1)) (a + (if (Sort.xorNext r).toNat &&& (m - 1) ≥ b - a then ((Sort.xorNext r).toNat &&& (m - 1)) - (b - a) else (Sort.xorNext r).toNat &&& (m - 1)))) := rfl
      have ho' : (brk a (b - a) m s (Sort.breakStep a (b - a) m (r, d1) (base + 3 - (s + 1))) (base + 3 - s)).2 = Sort.breakPatterns d a b := by
        rw [← ho, brk, show base + 3 - (s + 1) + 1 = base + 3 - s by omega]
      rw [hst] at ho'
      rw [hxn] at ho'
      have hmw : IntKind.u64.wrap ((m : Int) - 1) = ((m - 1 : Nat) : Int) := by
        rw [Go.IntWalk.u64_in _ ⟨by omega, by omega⟩]
        omega
      have hand := andU (a := Sort.xorNextN r.toNat) (b := m - 1) hnx (by omega)
      have hle : Sort.xorNextN r.toNat &&& (m - 1) ≤ m - 1 := Nat.and_le_right
      generalize hoo : Sort.xorNextN r.toNat &&& (m - 1) = o at hand hle ho'
      (repeat (first | (first | refine y_seq ?_ | refine w_region ?_ | refine y_regEnd ?_ | refine y_block ?_ | refine y_skip ?_ | refine y_condT rfl ?_ | refine w_move rfl rfl rfl ?_) | refine w_callFn rfl rfl rfl (by kernel_rfl) (Ctr.callD (next_spec r.toNat hr) [1] rfl (ExtOk.of rfl) rfl (by repeat (first | exact trivial | refine ⟨at_box rfl, ?_⟩)) rfl (by repeat (first | exact trivial | refine ⟨closed_box (fun _ => rfl), ?_⟩)) (fun _ => rfl) rfl rfl) ?_))
      refine w_subW rfl rfl rfl rfl ?_
      rw [hmw]
      refine w_bitC rfl rfl rfl rfl (.inl rfl) hand ?_
      (repeat (first | (first | refine y_seq ?_ | refine w_region ?_ | refine y_regEnd ?_ | refine w_move rfl rfl rfl ?_ | refine w_assign rfl rfl rfl ?_) | refine w_conv rfl rfl rfl (F.un _ rfl) (F.un _ rfl) (show _ = (o : Int) from Go.IntWalk.i64_in _ ⟨by omega, by omega⟩) ?_))
      refine w_geqS rfl rfl rfl rfl ?_ ?_
      all_goals intro h3
      · rw [if_pos (by omega)] at ho'
        (repeat (first | refine w_region ?_ | refine y_regEnd ?_ | refine y_condT rfl ?_ | refine w_move rfl rfl rfl ?_ | refine w_assign rfl rfl rfl ?_ | refine w_sub rfl rfl rfl rfl (by omega) (by omega) ?_))
        refine w_draw (by kernel_rfl) (by kernel_rfl) ?_
        (repeat (first | refine dw_move rfl rfl rfl ?_ | refine dw_add rfl rfl rfl rfl (by omega) (by omega) ?_ | refine dw_ldR rfl rfl rfl (F.ag _ rfl) (recP) rfl (by first | omega | (simp only [Array.size_setIfInBounds, swp_size]; omega)) (by first | omega | (simp only [Array.size_setIfInBounds, swp_size]; omega)) ?_ | refine dw_stR rfl rfl rfl (recP) (F.sz _ rfl) rfl (by first | omega | (simp only [Array.size_setIfInBounds, swp_size]; omega)) (by first | omega | (simp only [Array.size_setIfInBounds, swp_size]; omega)) ?_ | refine dw_idxN (q := base + 3 - (s + 1)) rfl rfl rfl rfl (F.un _ rfl) (F.sz _ rfl) rfl (by omega) (by omega) (by omega) ?_ | refine dw_idxN (q := a + (o - (b - a))) rfl rfl rfl rfl (F.un _ rfl) (F.sz _ rfl) rfl (by omega) (by omega) (by omega) ?_))
        (refine dk_nil ?_); (refine ⟨by kernel_rfl, ?_, ?_⟩); (focus (repeat (first | exact trivial | refine ⟨.inl rfl, ?_⟩ | refine ⟨.inr (by (repeat (refine ⟨(by first | exact rd_idxN (F.un _ rfl) (F.sz _ rfl) rfl rfl rfl (by omega) (by omega) (by omega) | exact rd_arith rfl rfl (.inl ⟨rfl, (Go.IntWalk.i64_in _ ⟨by omega, by omega⟩).symm⟩) | exact rd_arith rfl rfl (.inr (.inl ⟨rfl, (Go.IntWalk.i64_in _ ⟨by omega, by omega⟩).symm⟩)) | exact rd_fieldAddr (F.fo _ _ rfl rfl) rfl | exact rd_move rfl | exact rd_assign rfl | exact rd_load1 (F.ag _ rfl) rfl rfl (cell_box rfl) | exact rd_loadN (F.ag _ rfl) rfl rfl (cellsFrom_box _ 0 rfl rfl) | exact rd_extract rfl rfl | exact rd_lenSl (F.un _ rfl) rfl | exact rd_lenStr (F.un _ rfl) rfl | exact rd_nilCheck rfl | exact rd_pickT rfl rfl | exact rd_pickF rfl rfl), ?_⟩)); exact trivial), ?_⟩ | refine ⟨.inl (by kernel_rfl), ?_⟩)))
        (repeat (first | refine w_region ?_ | refine y_regEnd ?_ | refine y_inBlock ?_ | refine w_move rfl rfl rfl ?_ | refine w_assign rfl rfl rfl ?_ | refine w_add rfl rfl rfl rfl (by omega) (by omega) ?_))
        refine ih _ _ _ ((s, Sort.xorNext r), Sort.swp d1 (base + 3 - (s + 1)) (a + (o - (b - a)))) [1] ⟨by simp only; omega, by rw [swp_size]; exact hd1, ho'⟩ (by simp only; omega) ?_
        rw [hxn]
        (refine ⟨(ExtOk.of rfl), rfl, (by repeat (first | exact trivial | refine ⟨rfl, ?_⟩ | refine ⟨sl_eq (by first | omega | (simp only; omega)), ?_⟩)), (by repeat (first | exact trivial | refine ⟨at_dat rfl, ?_⟩ | refine ⟨at_box rfl, ?_⟩))⟩)
      · rw [if_neg (by omega)] at ho'
        (repeat (first | refine y_regEnd ?_ | refine y_skip ?_ | refine y_condF rfl ?_))
        refine w_draw (by kernel_rfl) (by kernel_rfl) ?_
        (repeat (first | refine dw_move rfl rfl rfl ?_ | refine dw_add rfl rfl rfl rfl (by omega) (by omega) ?_ | refine dw_ldR rfl rfl rfl (F.ag _ rfl) (recP) rfl (by first | omega | (simp only [Array.size_setIfInBounds, swp_size]; omega)) (by first | omega | (simp only [Array.size_setIfInBounds, swp_size]; omega)) ?_ | refine dw_stR rfl rfl rfl (recP) (F.sz _ rfl) rfl (by first | omega | (simp only [Array.size_setIfInBounds, swp_size]; omega)) (by first | omega | (simp only [Array.size_setIfInBounds, swp_size]; omega)) ?_ | refine dw_idxN (q := base + 3 - (s + 1)) rfl rfl rfl rfl (F.un _ rfl) (F.sz _ rfl) rfl (by omega) (by omega) (by omega) ?_ | refine dw_idxN (q := a + o) rfl rfl rfl rfl (F.un _ rfl) (F.sz _ rfl) rfl (by omega) (by omega) (by omega) ?_))
        (refine dk_nil ?_); (refine ⟨by kernel_rfl, ?_, ?_⟩); (focus (repeat (first | exact trivial | refine ⟨.inl rfl, ?_⟩ | refine ⟨.inr (by (repeat (refine ⟨(by first | exact rd_idxN (F.un _ rfl) (F.sz _ rfl) rfl rfl rfl (by omega) (by omega) (by omega) | exact rd_arith rfl rfl (.inl ⟨rfl, (Go.IntWalk.i64_in _ ⟨by omega, by omega⟩).symm⟩) | exact rd_arith rfl rfl (.inr (.inl ⟨rfl, (Go.IntWalk.i64_in _ ⟨by omega, by omega⟩).symm⟩)) | exact rd_fieldAddr (F.fo _ _ rfl rfl) rfl | exact rd_move rfl | exact rd_assign rfl | exact rd_load1 (F.ag _ rfl) rfl rfl (cell_box rfl) | exact rd_loadN (F.ag _ rfl) rfl rfl (cellsFrom_box _ 0 rfl rfl) | exact rd_extract rfl rfl | exact rd_lenSl (F.un _ rfl) rfl | exact rd_lenStr (F.un _ rfl) rfl | exact rd_nilCheck rfl | exact rd_pickT rfl rfl | exact rd_pickF rfl rfl), ?_⟩)); exact trivial), ?_⟩ | refine ⟨.inl (by kernel_rfl), ?_⟩)))
        (repeat (first | refine w_region ?_ | refine y_regEnd ?_ | refine y_inBlock ?_ | refine w_move rfl rfl rfl ?_ | refine w_assign rfl rfl rfl ?_ | refine w_add rfl rfl rfl rfl (by omega) (by omega) ?_))
        refine ih _ _ _ ((s, Sort.xorNext r), Sort.swp d1 (base + 3 - (s + 1)) (a + o)) [1] ⟨by simp only; omega, by rw [swp_size]; exact hd1, ho'⟩ (by simp only; omega) ?_
        rw [hxn]
        (refine ⟨(ExtOk.of rfl), rfl, (by repeat (first | exact trivial | refine ⟨rfl, ?_⟩ | refine ⟨sl_eq (by first | omega | (simp only; omega)), ?_⟩)), (by repeat (first | exact trivial | refine ⟨at_dat rfl, ?_⟩ | refine ⟨at_box rfl, ?_⟩))⟩)
    · obtain rfl : s = 0 := by omega
      (repeat (first | refine y_regEnd ?_ | refine y_exit rfl ?_ | refine y_condF rfl ?_))
      ((apply w_end Try.func55 (congrArg Array.toList Try.results55)); (focus (repeat (exact ResIs.nil))); refine ⟨_, rfl, Ends.mk [] (ExtOk.of rfl) rfl rfl ?_⟩)
      rw [← ho]
      exact (by repeat (first | exact trivial | refine ⟨at_dat rfl, ?_⟩))
  · rw [if_neg (by omega)] at ebp
    (repeat (first | refine y_regEnd ?_ | refine y_skip ?_ | refine y_condF rfl ?_))
    ((apply w_end Try.func55 (congrArg Array.toList Try.results55)); (focus (repeat (exact ResIs.nil))); refine ⟨_, rfl, Ends.mk [] (ExtOk.of rfl) rfl rfl ?_⟩)
    rw [ebp]
    exact (by repeat (first | exact trivial | refine ⟨at_dat rfl, ?_⟩))
end Go.Proofs.Ytfkfiafohcoomaa
end
section
namespace Go.Proofs.Ytfkfiafohcoomaa
open Go Go.Sy
theorem cmpI_neg {a b : Int} : cmpI a b < 0 ↔ a < b := by unfold cmpI; split <;> (try split) <;> omega
theorem cmpI_zero {a b : Int} : cmpI a b = 0 ↔ a = b := by unfold cmpI; split <;> (try split) <;> omega
theorem ordP_neg {a b : Int × Int} : ordP a b < 0 ↔ a.1 < b.1 ∨ (a.1 = b.1 ∧ a.2 < b.2) := by
  unfold ordP
  split
  · rename_i h
    rw [cmpI_zero] at h
    rw [cmpI_neg]
    omega
  · rename_i h
    rw [cmpI_zero] at h
    rw [cmpI_neg]
    omega
theorem lessP_iff {a b : Int × Int} : lessP a b = true ↔ a.1 < b.1 ∨ (a.1 = b.1 ∧ a.2 < b.2) := by simp [lessP, ordP_neg]
theorem uptoP_iff {a b : Int × Int} : uptoP a b = true ↔ a.1 < b.1 ∨ (a.1 = b.1 ∧ a.2 ≤ b.2) := by simp [uptoP]
theorem less_not (a b : Int × Int) : lessP a b = !uptoP b a := by
  rw [Bool.eq_iff_iff, Bool.not_eq_true', ← Bool.not_eq_true, lessP_iff, uptoP_iff]
  omega
theorem upto_refl (a : Int × Int) : uptoP a a = true := uptoP_iff.2 (by omega)
theorem upto_trans {a b c : Int × Int} (h : uptoP a b = true) (h' : uptoP b c = true) : uptoP a c = true := by
  rw [uptoP_iff] at h h' ⊢
  omega
theorem upto_anti {a b : Int × Int} (h : uptoP a b = true) (h' : uptoP b a = true) : a = b := by
  rw [uptoP_iff] at h h'
  exact Prod.ext (by omega) (by omega)
theorem upto_of_not {a b : Int × Int} (h : uptoP a b = false) : uptoP b a = true := by
  rw [← Bool.not_eq_true, uptoP_iff] at h
  rw [uptoP_iff]
  omega
theorem swoP : Sort.SWO ltP where
  irrefl := fun a => by
    rw [← Bool.not_eq_true]
    simp only [ltP, decide_eq_true_eq, ordP_neg]
    omega
  trans := fun a b c h h' => by
    simp only [ltP, decide_eq_true_eq, ordP_neg] at h h' ⊢
    omega
  ntrans := fun a b c h h' => by
    rw [← Bool.not_eq_true] at h h' ⊢
    simp only [ltP, decide_eq_true_eq, ordP_neg] at h h' ⊢
    omega
theorem have_sorted (p : Int × Int) : ∀ (ds : List (Int × Int)), ds.Pairwise (fun x y => uptoP y x = true) → ∀ k, k < haveP ds p ↔ ∃ a, ds[k]? = some a ∧ uptoP p a = true
  | [], _, k => by simp [haveP]
  | x :: t, h, k => by
    rw [List.pairwise_cons] at h
    have ih := have_sorted p t h.2
    cases hx : uptoP p x
    · have h0 : haveP (x :: t) p = 0 := by
        unfold haveP
        rw [List.length_eq_zero_iff, List.filter_eq_nil_iff]
        intro y hy hpy
        rcases List.mem_cons.1 hy with rfl | hy
        · rw [hx] at hpy; cases hpy
        · rw [upto_trans hpy (h.1 y hy)] at hx; cases hx
      rw [h0]
      constructor
      · intro h; omega
      · rintro ⟨a, ha, hpa⟩
        exfalso
        have hm := List.mem_of_getElem? ha
        rcases List.mem_cons.1 hm with rfl | hm
        · rw [hx] at hpa; cases hpa
        · rw [upto_trans hpa (h.1 a hm)] at hx; cases hx
    · have h0 : haveP (x :: t) p = haveP t p + 1 := by simp [haveP, List.filter_cons, hx]
      rw [h0]
      cases k with
      | zero => simp [hx]
      | succ k =>
        simp only [List.getElem?_cons_succ]
        rw [← ih k]
        omega
theorem haveP_perm {l l' : List (Int × Int)} (h : l.Perm l') (p : Int × Int) : haveP l p = haveP l' p := (h.filter _).length_eq
def descP (l : List (Int × Int)) : List (Int × Int) := (Sort.sort ltP l.toArray).toList
theorem desc_facts (l : List (Int × Int)) : (descP l).Perm l ∧ (descP l).Pairwise (fun x y => uptoP y x = true) := by
  obtain ⟨⟨h1, h2, h3⟩, h4⟩ := Sort.sort_sorts ltP swoP l.toArray
  have hsz : (Sort.sort ltP l.toArray).size = l.length := by simpa using h1
  constructor
  · have e1 : ((Sort.sort ltP l.toArray).extract 0 l.toArray.size) = Sort.sort ltP l.toArray := by
      rw [show l.toArray.size = (Sort.sort ltP l.toArray).size by simpa using h1.symm]
      exact Array.extract_size
    have e2 : (l.toArray.extract 0 l.toArray.size) = l.toArray := Array.extract_size
    rw [e1, e2] at h3
    exact h3
  · rw [List.pairwise_iff_getElem]
    intro i j hi hj hij
    have hi' : i < (Sort.sort ltP l.toArray).size := hi
    have hj' : j < (Sort.sort ltP l.toArray).size := hj
    have := h4 i j (Nat.zero_le _) hij (by simp; omega)
    rw [getElem!_pos _ i hi', getElem!_pos _ j hj'] at this
    simp only [descP, Array.getElem_toList]
    cases hu : uptoP (Sort.sort ltP l.toArray)[j] (Sort.sort ltP l.toArray)[i] with
    | true => rfl
    | false =>
      exfalso
      have hl : lessP (Sort.sort ltP l.toArray)[i] (Sort.sort ltP l.toArray)[j] = true := by rw [less_not, hu]; rfl
      have hl2 : ltP (Sort.sort ltP l.toArray)[j] (Sort.sort ltP l.toArray)[i] = true := hl
      rw [hl2] at this
      cases this
theorem desc_length (l : List (Int × Int)) : (descP l).length = l.length := (desc_facts l).1.length_eq
theorem have_desc (l : List (Int × Int)) (p : Int × Int) (k : Nat) : k < haveP l p ↔ ∃ a, (descP l)[k]? = some a ∧ uptoP p a = true := by
  rw [← haveP_perm (desc_facts l).1]
  exact have_sorted p _ (desc_facts l).2 k
def leastQ (k : Int) (l : List (Int × Int)) : (Int × Int) × Bool := if k < 1 ∨ (l.length : Int) < k then ((0, 0), false) else ((descP l).getD (k - 1).toNat (0, 0), true)
end Go.Proofs.Ytfkfiafohcoomaa
end
section
namespace Go.Sy
open Go Go.Sl Go.RowKit
section
variable {P : Program}
theorem y_ifC {β : Type} {fn nt k0 nx : Nat} {T : Tr SV} {k : List AIt} {dfs : List ADf} {H : Heap} {Q0 : Cz → Prop} {c : Operand} {x y : Code} {t : Bool} (n2 : Nat) (sl2 : β → List (Nat × SV)) (ob2 : β → List (Option VO)) (ψ : β → Prop)
    (hn2 : ∀ a, (ob2 a).length = n2) (hc : evalS T c = some (.sc (.bool t))) (hk : ∀ ρ, k.map (AIt.ren ρ) = k) (hd : ∀ ρ, dfs.map (ADf.ren ρ) = dfs)
    (arm1 : t = true → (∀ T' H' nx' a' L', ψ a' → IsAt k0 L' (sl2 a') (ob2 a') T' H' nx' → Wp P none ⟨fn, nt, T', k, dfs, H', nx'⟩ (fun r => ∃ c, Q0 c ∧ Ends k0 c r)) →
      Wp P none ⟨fn, nt, T, .code x :: k, dfs, H, nx⟩ (fun r => ∃ c, Q0 c ∧ Ends k0 c r))
    (arm2 : t = false → (∀ T' H' nx' a' L', ψ a' → IsAt k0 L' (sl2 a') (ob2 a') T' H' nx' → Wp P none ⟨fn, nt, T', k, dfs, H', nx'⟩ (fun r => ∃ c, Q0 c ∧ Ends k0 c r)) →
      Wp P none ⟨fn, nt, T, .code y :: k, dfs, H, nx⟩ (fun r => ∃ c, Q0 c ∧ Ends k0 c r))
    (rest : ∀ a, ψ a → Wp P none ⟨fn, nt, slT (sl2 a), k, dfs, heapO (ob2 a), n2⟩ (fun r => ∃ c, Q0 c ∧ Ends k0 c r)) :
    Wp P none ⟨fn, nt, T, .code (.cond c x y) :: k, dfs, H, nx⟩ (fun r => ∃ c, Q0 c ∧ Ends k0 c r) := by
  have out : ∀ T' H' nx' a' L', ψ a' → IsAt k0 L' (sl2 a') (ob2 a') T' H' nx' → Wp P none ⟨fn, nt, T', k, dfs, H', nx'⟩ (fun r => ∃ c, Q0 c ∧ Ends k0 c r) := fun T' H' nx' a' L' hψ hat => by
    refine Wp.can hat (hk _) (hd _) ?_
    rw [hn2 a']
    exact rest a' hψ
  exact y_cond hc (fun h => arm1 h out) (fun h => arm2 h out)
theorem y_itemC {β : Type} {fn nt k0 nx : Nat} {T : Tr SV} {it : AIt} {k : List AIt} {dfs : List ADf} {H : Heap} {Q0 : Cz → Prop} (n2 : Nat) (sl2 : β → List (Nat × SV)) (ob2 : β → List (Option VO)) (ψ : β → Prop)
    (hn2 : ∀ a, (ob2 a).length = n2) (hk : ∀ ρ, k.map (AIt.ren ρ) = k) (hd : ∀ ρ, dfs.map (ADf.ren ρ) = dfs)
    (body : (∀ T' H' nx' a' L', ψ a' → IsAt k0 L' (sl2 a') (ob2 a') T' H' nx' → Wp P none ⟨fn, nt, T', k, dfs, H', nx'⟩ (fun r => ∃ c, Q0 c ∧ Ends k0 c r)) →
      Wp P none ⟨fn, nt, T, it :: k, dfs, H, nx⟩ (fun r => ∃ c, Q0 c ∧ Ends k0 c r))
    (rest : ∀ a, ψ a → Wp P none ⟨fn, nt, slT (sl2 a), k, dfs, heapO (ob2 a), n2⟩ (fun r => ∃ c, Q0 c ∧ Ends k0 c r)) :
    Wp P none ⟨fn, nt, T, it :: k, dfs, H, nx⟩ (fun r => ∃ c, Q0 c ∧ Ends k0 c r) :=
  body fun T' H' nx' a' L' hψ hat => by
    refine Wp.can hat (hk _) (hd _) ?_
    rw [hn2 a']
    exact rest a' hψ
end
end Go.Sy
end
section
namespace Go.Proofs.Ytfkfiafohcoomaa
open Go Go.Sy
abbrev ArP := Array (Int × Int)
theorem pdq_ins {lt : Int × Int → Int × Int → Bool} {d : ArP} {a b limit : Nat} {wb wp : Bool} (h : b - a ≤ 12) : Sort.pdq lt d a b limit wb wp = Sort.insertionSort lt d a b := by rw [Sort.pdq, if_pos h]
theorem pdq_heap {lt : Int × Int → Int × Int → Bool} {d : ArP} {a b limit : Nat} {wb wp : Bool} (h : ¬ b - a ≤ 12) (h0 : limit = 0) : Sort.pdq lt d a b limit wb wp = Sort.heapSort lt d a b := by rw [Sort.pdq, if_neg h, if_pos h0]
def pdqTail (lt : Int × Int → Int × Int → Bool) (d3 : ArP) (a b pivot limit : Nat) (wb wp : Bool) : ArP :=
  if a > 0 && !lt d3[a - 1]! d3[pivot]! then
    match Sort.partitionEqual lt d3 a b pivot with
    | (mid, d4) => if _h : a < mid ∧ mid ≤ b then Sort.pdq lt d4 mid b limit wb wp else d4
  else
    match Sort.partition lt d3 a b pivot with
    | (mid, alreadyPartitioned, d4) =>
      if _h : a ≤ mid ∧ mid < b then
        if mid - a < b - mid then
          Sort.pdq lt (Sort.pdq lt d4 a mid limit true true) (mid + 1) b limit (decide (mid - a ≥ (b - a) / 8)) alreadyPartitioned
        else
          Sort.pdq lt (Sort.pdq lt d4 (mid + 1) b limit true true) a mid limit (decide (b - mid ≥ (b - a) / 8)) alreadyPartitioned
      else d4
theorem pdq_go {lt : Int × Int → Int × Int → Bool} {d d1 d2 : ArP} {a b limit limit1 pivot : Nat} {wb wp : Bool} {c : Nat × Sort.Hint} {hint : Sort.Hint} {pi : ArP × Bool} (h : ¬ b - a ≤ 12) (h0 : ¬ limit = 0)
    (e1 : d1 = (if (!wb) = true then Sort.breakPatterns d a b else d)) (el : limit1 = (if (!wb) = true then limit - 1 else limit)) (ec : Sort.choosePivot lt d1 a b = c)
    (e2 : d2 = (if c.2 = .decreasing then Sort.reverseRange d1 a b else d1)) (ep : pivot = (if c.2 = .decreasing then (b - 1) - (c.1 - a) else c.1)) (eh : hint = (if c.2 = .decreasing then .increasing else c.2))
    (ei : (if (wb && wp && decide (hint = .increasing)) = true then Sort.partialInsertionSort lt d2 a b else (d2, false)) = pi) :
    Sort.pdq lt d a b limit wb wp = if pi.2 = true then pi.1 else pdqTail lt pi.1 a b pivot limit1 wb wp := by
  subst e1 el ec e2 ep eh ei
  rw [Sort.pdq, if_neg h, if_neg h0]
  rfl
theorem tail_eq {lt : Int × Int → Int × Int → Bool} {d3 d4 : ArP} {a b pivot limit mid : Nat} {wb wp : Bool} (h : (decide (a > 0) && !lt d3[a - 1]! d3[pivot]!) = true) (hx : Sort.partitionEqual lt d3 a b pivot = (mid, d4)) (hm : a < mid ∧ mid ≤ b) :
    pdqTail lt d3 a b pivot limit wb wp = Sort.pdq lt d4 mid b limit wb wp := by
  unfold pdqTail
  rw [if_pos h, hx]
  simp only [dif_pos hm]
theorem tail_left {lt : Int × Int → Int × Int → Bool} {d3 d4 : ArP} {a b pivot limit mid : Nat} {wb wp ap : Bool} (h : ¬ (decide (a > 0) && !lt d3[a - 1]! d3[pivot]!) = true) (hx : Sort.partition lt d3 a b pivot = (mid, ap, d4)) (hm : a ≤ mid ∧ mid < b) (hl : mid - a < b - mid) :
    pdqTail lt d3 a b pivot limit wb wp = Sort.pdq lt (Sort.pdq lt d4 a mid limit true true) (mid + 1) b limit (decide (mid - a ≥ (b - a) / 8)) ap := by
  unfold pdqTail
  rw [if_neg h, hx]
  simp only [dif_pos hm, if_pos hl]
theorem tail_right {lt : Int × Int → Int × Int → Bool} {d3 d4 : ArP} {a b pivot limit mid : Nat} {wb wp ap : Bool} (h : ¬ (decide (a > 0) && !lt d3[a - 1]! d3[pivot]!) = true) (hx : Sort.partition lt d3 a b pivot = (mid, ap, d4)) (hm : a ≤ mid ∧ mid < b) (hl : ¬ mid - a < b - mid) :
    pdqTail lt d3 a b pivot limit wb wp = Sort.pdq lt (Sort.pdq lt d4 (mid + 1) b limit true true) a mid limit (decide (b - mid ≥ (b - a) / 8)) ap := by
  unfold pdqTail
  rw [if_neg h, hx]
  simp only [dif_pos hm, if_neg hl]
theorem hintI_dec {h : Sort.Hint} : (hintI h == 2) = decide (h = .decreasing) := by cases h <;> rfl
set_option maxRecDepth 100000 in
set_option maxHeartbeats 0 in
theorem pdq_spec (n : Nat) (hn : n < 65536) : ∀ (k a b limit : Nat) (d : ArP), b - a = k → a ≤ b → b ≤ n → d.size = n → limit < 4611686018427387904 → Sort.Below ltP a b d →
    Ctr Try.prog 42 [.slu 0 0 n, .sc (.int .i64 (a : Int)), .sc (.int .i64 (b : Int)), .sc (.int .i64 (limit : Int)), cmpF] [rowP n d] (fun c => c = ⟨.tup [], [some (rowP n (Sort.pdq ltP d a b limit true true))]⟩) := by
  intro k
  induction k using Nat.strongRecOn with
  | _ k ihk =>
  intro a b limit d hk hab hb hd hl hB
  refine Fnc.start Try.func42 rfl rfl ?_
  (repeat (first | refine y_seq ?_ | refine w_region ?_ | refine y_regEnd ?_ | refine y_block ?_ | refine w_assign rfl rfl rfl ?_))
  refine y_loopC 1 (fun s : ((Nat × Nat) × Nat) × ((Bool × Bool) × ArP) => [(0, .slu 0 0 n), (1, .sc (.int .i64 (s.1.1.1 : Int))), (2, .sc (.int .i64 (s.1.1.2 : Int))), (3, .sc (.int .i64 (s.1.2 : Int))), (4, cmpF), (10, .sc (.bool s.2.1.1)), (11, .sc (.bool s.2.1.2))]) (fun s => [some (rowP n s.2.2)])
    (fun s => s.1.1.1 ≤ s.1.1.2 ∧ s.1.1.2 ≤ n ∧ s.1.1.2 - s.1.1.1 ≤ k ∧ s.2.2.size = n ∧ s.1.2 < 4611686018427387904 ∧ Sort.Below ltP s.1.1.1 s.1.1.2 s.2.2 ∧ Sort.pdq ltP s.2.2 s.1.1.1 s.1.1.2 s.1.2 s.2.1.1 s.2.1.2 = Sort.pdq ltP d a b limit true true) (fun s => s.1.1.2 - s.1.1.1) (((a, b), limit), ((true, true), d)) []
    (fun _ => rfl) ⟨hab, hb, Nat.le_of_eq hk, hd, hl, hB, rfl⟩ ?_ (fun _ => rfl) (fun _ => rfl) ?_
  · (refine ⟨(ExtOk.of rfl), rfl, (by repeat (first | exact trivial | refine ⟨rfl, ?_⟩)), (by repeat (first | exact trivial | refine ⟨at_dat rfl, ?_⟩))⟩)
  rintro ⟨⟨⟨a1, b1⟩, l1⟩, ⟨⟨wb, wp⟩, d1⟩⟩ ⟨hab1, hb1, hk1, hd1, hl1, hB1, ho⟩ ih
  simp only at hab1 hb1 hk1 hd1 hl1 hB1 ho ih ⊢
  have eba : (b1 : Int) - (a1 : Int) = ((b1 - a1 : Nat) : Int) := by omega
  (repeat (first | refine y_seq ?_ | refine w_region ?_ | refine y_regEnd ?_ | refine y_block ?_ | refine w_move rfl rfl rfl ?_ | refine w_assign rfl rfl rfl ?_ | refine w_sub rfl rfl rfl rfl (by omega) (by omega) ?_))
  rw [eba]
  refine w_leqS rfl rfl rfl rfl ?_ ?_
  all_goals intro h1
  · rw [pdq_ins (by omega)] at ho
    (repeat (first | (first | refine y_seq ?_ | refine w_region ?_ | refine y_regEnd ?_ | refine y_condT rfl ?_ | refine w_move rfl rfl rfl ?_) | refine w_callFn rfl rfl rfl (by kernel_rfl) (Ctr.callD (ins_spec n a1 b1 d1 (by omega) hd1 hab1 hb1) [0] rfl (ExtOk.of rfl) rfl (by repeat (first | exact trivial | refine ⟨at_dat rfl, ?_⟩)) rfl (by repeat (first | exact trivial | refine ⟨closed_dat, ?_⟩)) (fun _ => rfl) rfl rfl) ?_))
    ((apply w_ret Try.func42 (congrArg Array.toList Try.results42)); (focus (repeat (exact ResIs.nil))); refine ⟨_, rfl, Ends.mk [] (ExtOk.of rfl) rfl rfl ?_⟩)
    rw [← ho]
    exact (by repeat (first | exact trivial | refine ⟨at_dat rfl, ?_⟩))
  (repeat (first | refine y_seq ?_ | refine w_region ?_ | refine y_regEnd ?_ | refine y_skip ?_ | refine y_condF rfl ?_ | refine w_move rfl rfl rfl ?_))
  refine w_eqlS rfl rfl rfl rfl ?_ ?_
  all_goals intro h2
  · rw [pdq_heap (by omega) (by omega)] at ho
    (repeat (first | (first | refine y_seq ?_ | refine w_region ?_ | refine y_regEnd ?_ | refine y_condT rfl ?_ | refine w_move rfl rfl rfl ?_) | refine w_callFn rfl rfl rfl (by kernel_rfl) (Ctr.callD (heap_spec n a1 b1 d1 (by omega) hd1 hab1 hb1) [0] rfl (ExtOk.of rfl) rfl (by repeat (first | exact trivial | refine ⟨at_dat rfl, ?_⟩)) rfl (by repeat (first | exact trivial | refine ⟨closed_dat, ?_⟩)) (fun _ => rfl) rfl rfl) ?_))
    ((apply w_ret Try.func42 (congrArg Array.toList Try.results42)); (focus (repeat (exact ResIs.nil))); refine ⟨_, rfl, Ends.mk [] (ExtOk.of rfl) rfl rfl ?_⟩)
    rw [← ho]
    exact (by repeat (first | exact trivial | refine ⟨at_dat rfl, ?_⟩))
  (repeat (first | refine y_seq ?_ | refine w_region ?_ | refine y_regEnd ?_ | refine y_skip ?_ | refine y_condF rfl ?_ | refine w_move rfl rfl rfl ?_ | refine w_notB rfl rfl rfl ?_))
  refine y_ifC 1 (fun s : Nat × ArP => [(0, .slu 0 0 n), (1, .sc (.int .i64 (a1 : Int))), (2, .sc (.int .i64 (b1 : Int))), (3, .sc (.int .i64 (s.1 : Int))), (4, cmpF), (10, .sc (.bool wb)), (11, .sc (.bool wp)), (12, .sc (.int .i64 ((b1 - a1 : Nat) : Int)))]) (fun s => [some (rowP n s.2)])
    (fun s => s.1 = (if (!wb) = true then l1 - 1 else l1) ∧ s.2 = (if (!wb) = true then Sort.breakPatterns d1 a1 b1 else d1)) (fun _ => rfl) rfl (fun _ => rfl) (fun _ => rfl) ?_ ?_ ?_
  · intro hw out
    (repeat (first | (refine out _ _ _ (l1 - 1, Sort.breakPatterns d1 a1 b1) [] ⟨by rw [if_pos hw], by rw [if_pos hw]⟩ ?_; (refine ⟨(ExtOk.of rfl), rfl, (by repeat (first | exact trivial | refine ⟨rfl, ?_⟩ | refine ⟨sl_eq (by first | omega | (simp only; omega)), ?_⟩)), (by repeat (first | exact trivial | refine ⟨at_dat rfl, ?_⟩))⟩)) | (first | refine y_seq ?_ | refine w_region ?_ | refine y_regEnd ?_ | refine w_move rfl rfl rfl ?_ | refine w_assign rfl rfl rfl ?_ | refine w_sub rfl rfl rfl rfl (by omega) (by omega) ?_) | refine w_callFn rfl rfl rfl (by kernel_rfl) (Ctr.callD (brk_spec n a1 b1 d1 hn hd1 hab1 hb1) [0] rfl (ExtOk.of rfl) rfl (by repeat (first | exact trivial | refine ⟨at_dat rfl, ?_⟩)) rfl (by repeat (first | exact trivial | refine ⟨closed_dat, ?_⟩)) (fun _ => rfl) rfl rfl) ?_))
  · intro hw out
    (repeat (first | (refine out _ _ _ (l1, d1) [] ⟨by rw [hw]; rfl, by rw [hw]; rfl⟩ ?_; (refine ⟨(ExtOk.of rfl), rfl, (by repeat (first | exact trivial | refine ⟨rfl, ?_⟩)), (by repeat (first | exact trivial | refine ⟨at_dat rfl, ?_⟩))⟩)) | (refine y_skip ?_)))
  rintro ⟨l2, d2⟩ ⟨el, ed⟩
  simp only at el ed ⊢
  have hl2 : l2 < 4611686018427387904 := by rw [el]; split <;> omega
  have hpd : Sort.PermIn a1 b1 d1 d2 := by
    rw [ed]
    split
    · exact Sort.breakPatterns_holds d1 a1 b1 hab1 (by omega)
    · exact Sort.permIn_refl d1 a1 b1
  have hd2 : d2.size = n := by rw [hpd.1]; exact hd1
  have hB2 : Sort.Below ltP a1 b1 d2 := hB1.perm (by omega) hpd
  have hpv := piv_spec n a1 b1 d2 (by omega) hd2 (by omega) hb1
  have hpr := Sort.choosePivot_holds ltP d2 a1 b1 (by omega)
  have hgo := fun d3 pivot hint pi => pdq_go (lt := ltP) (d := d1) (d1 := d2) (d2 := d3) (a := a1) (b := b1) (limit := l1) (limit1 := l2) (pivot := pivot) (wb := wb) (wp := wp) (c := Sort.choosePivot ltP d2 a1 b1) (hint := hint) (pi := pi) (by omega) (by omega) ed el rfl
  generalize Sort.choosePivot ltP d2 a1 b1 = c at hpv hpr hgo
  obtain ⟨p, hint⟩ := c
  simp only at hpv hpr hgo
  (repeat (first | (first | refine y_seq ?_ | refine w_region ?_ | refine y_regEnd ?_ | refine w_move rfl rfl rfl ?_ | refine w_assign rfl rfl rfl ?_ | refine w_extract rfl rfl rfl rfl ?_) | refine w_callFn rfl rfl rfl (by kernel_rfl) (Ctr.callD (hpv) [0] rfl (ExtOk.of rfl) rfl (by repeat (first | exact trivial | refine ⟨at_dat rfl, ?_⟩)) rfl (by repeat (first | exact trivial | refine ⟨closed_dat, ?_⟩)) (fun _ => rfl) rfl rfl) ?_))
  refine w_eql rfl rfl rfl rfl ?_
  rw [hintI_dec]
  (repeat (refine y_regEnd ?_))
  refine y_ifC 1 (fun s : (Nat × Sort.Hint) × ArP => [(0, .slu 0 0 n), (1, .sc (.int .i64 (a1 : Int))), (2, .sc (.int .i64 (b1 : Int))), (3, .sc (.int .i64 (l2 : Int))), (4, cmpF), (10, .sc (.bool wb)), (11, .sc (.bool wp)), (12, .sc (.int .i64 ((b1 - a1 : Nat) : Int))), (13, .sc (.int .i64 (s.1.1 : Int))), (14, .sc (.int .i64 (hintI s.1.2)))]) (fun s => [some (rowP n s.2)])
    (fun s => s.2 = (if hint = .decreasing then Sort.reverseRange d2 a1 b1 else d2) ∧ s.1.1 = (if hint = .decreasing then (b1 - 1) - (p - a1) else p) ∧ s.1.2 = (if hint = .decreasing then .increasing else hint)) (fun _ => rfl) rfl (fun _ => rfl) (fun _ => rfl) ?_ ?_ ?_
  · intro hw out
    have hw := of_decide_eq_true hw
    (repeat (first | (refine out _ _ _ (((b1 - 1) - (p - a1), .increasing), Sort.reverseRange d2 a1 b1) [] ⟨by rw [if_pos hw], by rw [if_pos hw], by rw [if_pos hw]⟩ ?_; (refine ⟨(ExtOk.of rfl), rfl, (by repeat (first | exact trivial | refine ⟨rfl, ?_⟩ | refine ⟨sl_eq (by first | omega | (simp only; omega)), ?_⟩)), (by repeat (first | exact trivial | refine ⟨at_dat rfl, ?_⟩))⟩)) | (first | refine y_seq ?_ | refine w_region ?_ | refine y_regEnd ?_ | refine w_move rfl rfl rfl ?_ | refine w_assign rfl rfl rfl ?_ | refine w_sub rfl rfl rfl rfl (by omega) (by omega) ?_) | refine w_callFn rfl rfl rfl (by kernel_rfl) (Ctr.callD (rev_spec n a1 b1 d2 (by omega) hd2 (by omega) hb1) [0] rfl (ExtOk.of rfl) rfl (by repeat (first | exact trivial | refine ⟨at_dat rfl, ?_⟩)) rfl (by repeat (first | exact trivial | refine ⟨closed_dat, ?_⟩)) (fun _ => rfl) rfl rfl) ?_))
  · intro hw out
    have hw := of_decide_eq_false hw
    (repeat (first | (refine out _ _ _ ((p, hint), d2) [] ⟨by rw [if_neg hw], by rw [if_neg hw], by rw [if_neg hw]⟩ ?_; (refine ⟨(ExtOk.of rfl), rfl, (by repeat (first | exact trivial | refine ⟨rfl, ?_⟩)), (by repeat (first | exact trivial | refine ⟨at_dat rfl, ?_⟩))⟩)) | (refine y_skip ?_)))
  rintro ⟨⟨pv, hint2⟩, d3⟩ ⟨ed3, epv, ehi⟩
  simp only at ed3 epv ehi ⊢
  have hpd3 : Sort.PermIn a1 b1 d2 d3 := by
    rw [ed3]
    split
    · exact Sort.reverseRange_holds d2 a1 b1 hab1 (by omega)
    · exact Sort.permIn_refl d2 a1 b1
  have hd3 : d3.size = n := by rw [hpd3.1]; exact hd2
  have hB3 : Sort.Below ltP a1 b1 d3 := hB2.perm (by omega) hpd3
  have hpv1 : a1 ≤ pv ∧ pv < b1 := by rw [epv]; split <;> omega
  have hgo := fun pi => hgo d3 pv hint2 pi ed3 epv ehi
  (repeat refine y_seq ?_)
  refine y_itemC 1 (fun _ : Unit => [(0, .slu 0 0 n), (1, .sc (.int .i64 (a1 : Int))), (2, .sc (.int .i64 (b1 : Int))), (3, .sc (.int .i64 (l2 : Int))), (4, cmpF), (10, .sc (.bool wb)), (11, .sc (.bool wp)), (12, .sc (.int .i64 ((b1 - a1 : Nat) : Int))), (13, .sc (.int .i64 (pv : Int))), (75, .sc (.bool (wb && wp && decide (hint2 = .increasing))))]) (fun _ => [some (rowP n d3)])
    (fun _ => True) (fun _ => rfl) (fun _ => rfl) (fun _ => rfl) ?_ ?_
  · intro out
    clear ih ihk ho hgo ehi ed el hpr hpv
    cases wb <;> cases wp <;> cases hint2 <;> (repeat (first | (refine out _ _ _ () [] trivial ?_; (refine ⟨(ExtOk.of rfl), rfl, (by repeat (first | exact trivial | refine ⟨rfl, ?_⟩)), (by repeat (first | exact trivial | refine ⟨at_dat rfl, ?_⟩))⟩)) | (first | refine w_region ?_ | refine y_regEnd ?_ | refine w_move rfl rfl rfl ?_ | refine w_pickT rfl rfl rfl rfl ?_ | refine w_pickF rfl rfl rfl rfl ?_ | refine w_not rfl ?_) | (refine w_eql rfl rfl rfl rfl ?_)))
  rintro _ -
  (repeat refine y_seq ?_)
  refine y_ifC 1 (fun d' : ArP => [(0, .slu 0 0 n), (1, .sc (.int .i64 (a1 : Int))), (2, .sc (.int .i64 (b1 : Int))), (3, .sc (.int .i64 (l2 : Int))), (4, cmpF), (10, .sc (.bool wb)), (11, .sc (.bool wp)), (12, .sc (.int .i64 ((b1 - a1 : Nat) : Int))), (13, .sc (.int .i64 (pv : Int)))]) (fun d' => [some (rowP n d')])
    (fun d' => d'.size = n ∧ Sort.Below ltP a1 b1 d' ∧ Sort.pdq ltP d1 a1 b1 l1 wb wp = pdqTail ltP d' a1 b1 pv l2 wb wp) (fun _ => rfl) rfl (fun _ => rfl) (fun _ => rfl) ?_ ?_ ?_
  · intro hw out
    have hps := pins_spec n a1 b1 d3 (by omega) hd3 (by omega) hb1
    have hpp := (Sort.partialInsertionSort_holds swoP d3 a1 b1 (by omega) (by omega) hB3).1
    have hgo := hgo _ (by rw [if_pos hw])
    generalize Sort.partialInsertionSort ltP d3 a1 b1 = pi at hps hpp hgo
    obtain ⟨d4, done⟩ := pi
    simp only at hps hpp hgo
    cases done
    · rw [if_neg (by decide)] at hgo
      (repeat (first | (refine out _ _ _ d4 [] ⟨by rw [hpp.1]; exact hd3, hB3.perm (by omega) hpp, hgo⟩ ?_; (refine ⟨(ExtOk.of rfl), rfl, (by repeat (first | exact trivial | refine ⟨rfl, ?_⟩)), (by repeat (first | exact trivial | refine ⟨at_dat rfl, ?_⟩))⟩)) | (first | refine y_seq ?_ | refine w_region ?_ | refine y_regEnd ?_ | refine y_skip ?_ | refine y_condF rfl ?_ | refine w_move rfl rfl rfl ?_) | refine w_callFn rfl rfl rfl (by kernel_rfl) (Ctr.callD (hps) [0] rfl (ExtOk.of rfl) rfl (by repeat (first | exact trivial | refine ⟨at_dat rfl, ?_⟩)) rfl (by repeat (first | exact trivial | refine ⟨closed_dat, ?_⟩)) (fun _ => rfl) rfl rfl) ?_))
    · rw [if_pos rfl] at hgo
      (repeat (first | (first | refine y_seq ?_ | refine w_region ?_ | refine y_regEnd ?_ | refine y_condT rfl ?_ | refine w_move rfl rfl rfl ?_) | refine w_callFn rfl rfl rfl (by kernel_rfl) (Ctr.callD (hps) [0] rfl (ExtOk.of rfl) rfl (by repeat (first | exact trivial | refine ⟨at_dat rfl, ?_⟩)) rfl (by repeat (first | exact trivial | refine ⟨closed_dat, ?_⟩)) (fun _ => rfl) rfl rfl) ?_))
      ((apply w_ret Try.func42 (congrArg Array.toList Try.results42)); (focus (repeat (exact ResIs.nil))); refine ⟨_, rfl, Ends.mk [] (ExtOk.of rfl) rfl rfl ?_⟩)
      rw [← ho, hgo]
      exact (by repeat (first | exact trivial | refine ⟨at_dat rfl, ?_⟩))
  · intro hw out
    have hgo := hgo (d3, false) (by rw [hw]; rfl)
    (repeat (first | (refine out _ _ _ d3 [] ⟨hd3, hB3, by rw [hgo]; rfl⟩ ?_; (refine ⟨(ExtOk.of rfl), rfl, (by repeat (first | exact trivial | refine ⟨rfl, ?_⟩)), (by repeat (first | exact trivial | refine ⟨at_dat rfl, ?_⟩))⟩)) | (refine y_skip ?_)))
  rintro d4 ⟨hd4, hB4, hT⟩
  rw [hT] at ho
  clear hgo hT hB3 hd3 hpd3 hB2 hd2 hpd ed ed3 ehi epv el hpv
  have arm : ∀ t : Bool, (decide (a1 > 0) && !ltP d4[a1 - 1]! d4[pv]!) = t → (decide (a1 > 0) && !ltP d4[a1 - 1]! d4[pv]!) = t := fun _ h => h
  (repeat (refine y_seq ?_))
  refine y_itemC 1 (fun _ : Unit => [(0, .slu 0 0 n), (1, .sc (.int .i64 (a1 : Int))), (2, .sc (.int .i64 (b1 : Int))), (3, .sc (.int .i64 (l2 : Int))), (4, cmpF), (10, .sc (.bool wb)), (11, .sc (.bool wp)), (12, .sc (.int .i64 ((b1 - a1 : Nat) : Int))), (13, .sc (.int .i64 (pv : Int))), (97, .sc (.bool (decide (a1 > 0) && !ltP d4[a1 - 1]! d4[pv]!)))]) (fun _ => [some (rowP n d4)])
    (fun _ => True) (fun _ => rfl) (fun _ => rfl) (fun _ => rfl) ?_ ?_
  · intro out
    refine w_draw (by kernel_rfl) (by kernel_rfl) ?_
    (repeat (refine dw_move rfl rfl rfl ?_))
    refine dw_gtrS rfl rfl rfl rfl ?_ ?_
    all_goals intro h5
    · (repeat (first | refine dw_move rfl rfl rfl ?_ | refine dw_sub rfl rfl rfl rfl (by omega) (by omega) ?_ | refine dw_ldR rfl rfl rfl (F.ag _ rfl) (recP) rfl (by first | omega | (simp only [Array.size_setIfInBounds, swp_size]; omega)) (by first | omega | (simp only [Array.size_setIfInBounds, swp_size]; omega)) ?_ | refine dw_idxN (q := a1 - 1) rfl rfl rfl rfl (F.un _ rfl) (F.sz _ rfl) rfl (by omega) (by omega) (by omega) ?_ | refine dw_idxN (q := pv) rfl rfl rfl rfl (F.un _ rfl) (F.sz _ rfl) rfl (by omega) (by omega) (by omega) ?_ | refine dk_callF rfl rfl rfl rfl (by kernel_rfl) rfl (Ctr.callV (cmp_spec d4[a1 - 1]! d4[pv]!) [] rfl (ExtOk.of rfl) rfl trivial rfl) ?_))
      refine dw_lssS rfl rfl rfl rfl ?_ ?_
      all_goals intro h6
      · (repeat (first | refine dw_pickT rfl rfl rfl rfl ?_ | refine dw_notB rfl rfl rfl ?_))
        (refine dk_nil ?_); (refine ⟨by kernel_rfl, ?_, ?_⟩); (focus (repeat (first | exact trivial | refine ⟨.inl rfl, ?_⟩ | refine ⟨.inr (by (repeat (refine ⟨(by first | exact rd_idxN (F.un _ rfl) (F.sz _ rfl) rfl rfl rfl (by omega) (by omega) (by omega) | exact rd_arith rfl rfl (.inl ⟨rfl, (Go.IntWalk.i64_in _ ⟨by omega, by omega⟩).symm⟩) | exact rd_arith rfl rfl (.inr (.inl ⟨rfl, (Go.IntWalk.i64_in _ ⟨by omega, by omega⟩).symm⟩)) | exact rd_fieldAddr (F.fo _ _ rfl rfl) rfl | exact rd_move rfl | exact rd_assign rfl | exact rd_load1 (F.ag _ rfl) rfl rfl (cell_box rfl) | exact rd_loadN (F.ag _ rfl) rfl rfl (cellsFrom_box _ 0 rfl rfl) | exact rd_extract rfl rfl | exact rd_lenSl (F.un _ rfl) rfl | exact rd_lenStr (F.un _ rfl) rfl | exact rd_nilCheck rfl | exact rd_pickT rfl rfl | exact rd_pickF rfl rfl), ?_⟩)); exact trivial), ?_⟩ | refine ⟨.inl (by kernel_rfl), ?_⟩)))
        have e5 : (decide (a1 > 0) && !ltP d4[a1 - 1]! d4[pv]!) = false := by simp [ltP, h6]
        rw [e5] at out
        (repeat (refine out _ _ _ () [] trivial ?_; (refine ⟨(ExtOk.of rfl), rfl, (by repeat (first | exact trivial | refine ⟨rfl, ?_⟩)), (by repeat (first | exact trivial | refine ⟨at_dat rfl, ?_⟩))⟩)))
      · (repeat (first | refine dw_pickT rfl rfl rfl rfl ?_ | refine dw_notB rfl rfl rfl ?_))
        (refine dk_nil ?_); (refine ⟨by kernel_rfl, ?_, ?_⟩); (focus (repeat (first | exact trivial | refine ⟨.inl rfl, ?_⟩ | refine ⟨.inr (by (repeat (refine ⟨(by first | exact rd_idxN (F.un _ rfl) (F.sz _ rfl) rfl rfl rfl (by omega) (by omega) (by omega) | exact rd_arith rfl rfl (.inl ⟨rfl, (Go.IntWalk.i64_in _ ⟨by omega, by omega⟩).symm⟩) | exact rd_arith rfl rfl (.inr (.inl ⟨rfl, (Go.IntWalk.i64_in _ ⟨by omega, by omega⟩).symm⟩)) | exact rd_fieldAddr (F.fo _ _ rfl rfl) rfl | exact rd_move rfl | exact rd_assign rfl | exact rd_load1 (F.ag _ rfl) rfl rfl (cell_box rfl) | exact rd_loadN (F.ag _ rfl) rfl rfl (cellsFrom_box _ 0 rfl rfl) | exact rd_extract rfl rfl | exact rd_lenSl (F.un _ rfl) rfl | exact rd_lenStr (F.un _ rfl) rfl | exact rd_nilCheck rfl | exact rd_pickT rfl rfl | exact rd_pickF rfl rfl), ?_⟩)); exact trivial), ?_⟩ | refine ⟨.inl (by kernel_rfl), ?_⟩)))
        have e5 : (decide (a1 > 0) && !ltP d4[a1 - 1]! d4[pv]!) = true := by
          have : 0 < a1 := by omega
          simp [ltP, this, h6]
        rw [e5] at out
        (repeat (refine out _ _ _ () [] trivial ?_; (refine ⟨(ExtOk.of rfl), rfl, (by repeat (first | exact trivial | refine ⟨rfl, ?_⟩)), (by repeat (first | exact trivial | refine ⟨at_dat rfl, ?_⟩))⟩)))
    · (repeat (first | refine dw_move rfl rfl rfl ?_ | refine dw_pickF rfl rfl rfl rfl ?_ | refine dk_skip rfl rfl ?_))
      (refine dk_nil ?_); (refine ⟨by kernel_rfl, ?_, ?_⟩); (focus (repeat (first | exact trivial | refine ⟨.inl rfl, ?_⟩)))
      have e5 : (decide (a1 > 0) && !ltP d4[a1 - 1]! d4[pv]!) = false := by
        have : ¬ 0 < a1 := by omega
        simp [this]
      rw [e5] at out
      (repeat (refine out _ _ _ () [] trivial ?_; (refine ⟨(ExtOk.of rfl), rfl, (by repeat (first | exact trivial | refine ⟨rfl, ?_⟩)), (by repeat (first | exact trivial | refine ⟨at_dat rfl, ?_⟩))⟩)))
  rintro _ -
  cases h7 : (decide (a1 > 0) && !ltP d4[a1 - 1]! d4[pv]!)
  · have hps := part_spec n a1 b1 pv d4 (by omega) hd4 hpv1.1 hpv1.2 hb1
    obtain ⟨mid, ap, d5, hx⟩ : ∃ mid ap, ∃ d5, Sort.partition ltP d4 a1 b1 pv = (mid, ap, d5) := ⟨_, _, _, rfl⟩
    obtain ⟨g1, g2, g3, g4, g5, g6, g7⟩ := Sort.round_part swoP (Sort.partition_holds ltP) hpv1.1 hpv1.2 (by omega) hB4 hx
    rw [hx] at hps
    simp only at hps
    have hd5 : d5.size = n := by rw [g3]; exact hd4
    (repeat (first | (first | refine y_seq ?_ | refine w_region ?_ | refine y_regEnd ?_ | refine y_skip ?_ | refine y_condF rfl ?_ | refine w_move rfl rfl rfl ?_ | refine w_assign rfl rfl rfl ?_ | refine w_extract rfl rfl rfl rfl ?_ | refine w_sub rfl rfl rfl rfl (by omega) (by omega) ?_ | refine w_quo rfl rfl rfl rfl (by omega) (by omega) (by omega) ?_) | refine w_callFn rfl rfl rfl (by kernel_rfl) (Ctr.callD (hps) [0] rfl (ExtOk.of rfl) rfl (by repeat (first | exact trivial | refine ⟨at_dat rfl, ?_⟩)) rfl (by repeat (first | exact trivial | refine ⟨closed_dat, ?_⟩)) (fun _ => rfl) rfl rfl) ?_))
    refine w_lssS rfl rfl rfl rfl ?_ ?_
    all_goals intro h8
    · rw [tail_left (by rw [h7]; decide) hx ⟨g1, g2⟩ (by omega)] at ho
      have hrec := ihk (mid - a1) (by omega) a1 mid l2 d5 rfl g1 (by omega) hd5 hl2 g4
      have hL := Sort.pdq_sorts ltP swoP d5 a1 mid l2 true true g1 (by omega) g4
      have hB6 := (g6 _ hL.1 hL.2).1
      have hd6 : (Sort.pdq ltP d5 a1 mid l2 true true).size = n := by rw [hL.1.1]; exact hd5
      generalize Sort.pdq ltP d5 a1 mid l2 true true = d6 at hrec hB6 hd6 ho
      clear hL g6 g7 hps hpr
      (repeat (first | (first | refine y_seq ?_ | refine w_region ?_ | refine y_regEnd ?_ | refine y_inBlock ?_ | refine y_condT rfl ?_ | refine w_move rfl rfl rfl ?_ | refine w_assign rfl rfl rfl ?_ | refine w_add rfl rfl rfl rfl (by omega) (by omega) ?_) | refine w_callFn rfl rfl rfl (by kernel_rfl) (Ctr.callD (hrec) [0] rfl (ExtOk.of rfl) rfl (by repeat (first | exact trivial | refine ⟨at_dat rfl, ?_⟩)) rfl (by repeat (first | exact trivial | refine ⟨closed_dat, ?_⟩)) (fun _ => rfl) rfl rfl) ?_ | (refine w_geq rfl rfl rfl rfl ?_)))
      refine ih _ _ _ (((mid + 1, b1), l2), ((decide (mid - a1 ≥ (b1 - a1) / 8), ap), d6)) [] ⟨by simp only; omega, hb1, by simp only; omega, hd6, hl2, hB6, ho⟩ (by simp only; omega) ?_
      have eb : decide ((mid : Int) - (a1 : Int) ≥ ((b1 - a1 : Nat) : Int) / 8) = decide (mid - a1 ≥ (b1 - a1) / 8) := by
        rw [Bool.eq_iff_iff, decide_eq_true_eq, decide_eq_true_eq]
        omega
      rw [← eb]
      (refine ⟨(ExtOk.of rfl), rfl, (by repeat (first | exact trivial | refine ⟨rfl, ?_⟩)), (by repeat (first | exact trivial | refine ⟨at_dat rfl, ?_⟩))⟩)
    · rw [tail_right (by rw [h7]; decide) hx ⟨g1, g2⟩ (by omega)] at ho
      have hrec := ihk (b1 - (mid + 1)) (by omega) (mid + 1) b1 l2 d5 rfl (by omega) hb1 hd5 hl2 g5
      have hL := Sort.pdq_sorts ltP swoP d5 (mid + 1) b1 l2 true true (by omega) (by omega) g5
      have hB6 := (g7 _ hL.1 hL.2).1
      have hd6 : (Sort.pdq ltP d5 (mid + 1) b1 l2 true true).size = n := by rw [hL.1.1]; exact hd5
      generalize Sort.pdq ltP d5 (mid + 1) b1 l2 true true = d6 at hrec hB6 hd6 ho
      clear hL g6 g7 hps hpr
      have emid : ((mid : Int) + 1) = ((mid + 1 : Nat) : Int) := by omega
      (repeat (first | (first | refine y_seq ?_ | refine w_region ?_ | refine y_regEnd ?_ | refine y_condF rfl ?_ | refine w_move rfl rfl rfl ?_ | refine w_assign rfl rfl rfl ?_ | refine w_add rfl rfl rfl rfl (by omega) (by omega) ?_) | (refine w_geq rfl rfl rfl rfl ?_)))
      rw [emid]
      (repeat (first | (first | refine w_region ?_ | refine y_regEnd ?_ | refine y_inBlock ?_ | refine w_move rfl rfl rfl ?_ | refine w_assign rfl rfl rfl ?_) | refine w_callFn rfl rfl rfl (by kernel_rfl) (Ctr.callD (hrec) [0] rfl (ExtOk.of rfl) rfl (by repeat (first | exact trivial | refine ⟨at_dat rfl, ?_⟩)) rfl (by repeat (first | exact trivial | refine ⟨closed_dat, ?_⟩)) (fun _ => rfl) rfl rfl) ?_))
      refine ih _ _ _ (((a1, mid), l2), ((decide (b1 - mid ≥ (b1 - a1) / 8), ap), d6)) [] ⟨g1, by simp only; omega, by simp only; omega, hd6, hl2, hB6, ho⟩ (by simp only; omega) ?_
      have eb : decide ((b1 : Int) - (mid : Int) ≥ ((b1 - a1 : Nat) : Int) / 8) = decide (b1 - mid ≥ (b1 - a1) / 8) := by
        rw [Bool.eq_iff_iff, decide_eq_true_eq, decide_eq_true_eq]
        omega
      rw [← eb]
      (refine ⟨(ExtOk.of rfl), rfl, (by repeat (first | exact trivial | refine ⟨rfl, ?_⟩)), (by repeat (first | exact trivial | refine ⟨at_dat rfl, ?_⟩))⟩)
  · have h7' := h7
    rw [Bool.and_eq_true, decide_eq_true_eq, Bool.not_eq_true'] at h7'
    have hps := partEq_spec n a1 b1 pv d4 (by omega) hd4 hpv1.1 hpv1.2 hb1
    obtain ⟨mid, d5, hx⟩ : ∃ mid, ∃ d5, Sort.partitionEqual ltP d4 a1 b1 pv = (mid, d5) := ⟨_, _, rfl⟩
    obtain ⟨g1, g2, g3, g4, _⟩ := Sort.round_eq swoP (Sort.partitionEqual_holds ltP) h7'.1 hpv1.1 hpv1.2 (by omega) hB4 h7'.2 hx
    rw [hx] at hps
    simp only at hps
    rw [tail_eq h7 hx ⟨g1, g2⟩] at ho
    (repeat (first | (first | refine y_seq ?_ | refine w_region ?_ | refine y_regEnd ?_ | refine y_exit rfl ?_ | refine y_condT rfl ?_ | refine w_move rfl rfl rfl ?_ | refine w_assign rfl rfl rfl ?_) | refine w_callFn rfl rfl rfl (by kernel_rfl) (Ctr.callD (hps) [0] rfl (ExtOk.of rfl) rfl (by repeat (first | exact trivial | refine ⟨at_dat rfl, ?_⟩)) rfl (by repeat (first | exact trivial | refine ⟨closed_dat, ?_⟩)) (fun _ => rfl) rfl rfl) ?_))
    refine ih _ _ _ (((mid, b1), l2), ((wb, wp), d5)) [] ⟨g2, hb1, by simp only; omega, by rw [g3]; exact hd4, hl2, g4, ho⟩ (by simp only; omega) ?_
    (refine ⟨(ExtOk.of rfl), rfl, (by repeat (first | exact trivial | refine ⟨rfl, ?_⟩)), (by repeat (first | exact trivial | refine ⟨at_dat rfl, ?_⟩))⟩)
end Go.Proofs.Ytfkfiafohcoomaa
end
section
namespace Go.Sy
open Go Go.Sl Go.RowKit
section
variable {P : Program}
theorem Ctr.callN {f : FuncId} {args0 args : List SV} {pre : List VO} {c : Cz} (h : Ctr P f args0 pre (fun c' => c' = c)) (L L2 : List Nat) (m : Nat) {H H' : Heap} {nx : Nat} {v : SV} {Q : Pst} (hlen : L.length = pre.length) (hL : ExtOk L nx) (ha : args = args0.map (SV.ren (ext L nx)))
    (hp : HasO (ext L nx) H 0 (pre.map some)) (hL2 : L2 = L ++ (List.range m).map (fun i => nx + i)) (hol : c.objs.length = L.length + m) (hc : AllClosed c.objs) (hv : c.v.ren (ext L nx) = v) (hH : wrL L2 H c.objs = H') (hQ : Q (v, H', nx + m)) : Fnc P f args H nx Q := by
  have hl2 : L2.length = L.length + m := by rw [hL2]; simp
  refine h.callM L hlen hL ha hp hv ((wrO_wrL L2 c.objs 0 H (fun j hj => ?_) (by omega) hc).trans hH) (show nx + (c.objs.length - pre.length) = nx + m by omega) hQ
  rw [Nat.zero_add]
  by_cases hjl : j < L.length
  · rw [ext_lt hjl, hL2]
    simp only [List.getD_eq_getElem?_getD]
    rw [List.getElem?_append_left hjl]
  · rw [ext_ge (by omega), hL2]
    simp only [List.getD_eq_getElem?_getD]
    rw [List.getElem?_append_right (by omega), List.getElem?_map, List.getElem?_range (by omega)]
    rfl
end
section
variable {P : Program} {ro : Option Nat} {fn nt nx : Nat} {T : Tr SV} {k : List AIt} {dfs : List ADf} {H : Heap} {Q : Pst} {ops : Array Oper} {i : Nat} {l : List Oper} {ty : TypeId} {pos : String} {af : Array Edge} {gd : Option (Nat × Bool)}
theorem w_callN {g : FuncId} {as1 : List Operand} {ats : Array TypeId} {args : List SV} {v : SV} {H' : Heap} {nx' : Nat} {dd : Nat} (hw : wantedS T ops ⟨some dd, .call { callee := .value (.func g), args := as1.toArray, argTypes := ats }, ty, pos, af, gd⟩ = some true) (hd : Nat.blt dd nt = true) (ha : evalL T as1 = some args) (hm : mayEnter P g = true)
    (hr : Fnc P g args H nx (fun r => r = (v, H', nx')))
    (h : Wp P ro ⟨fn, nt, T.set dd v, .inReg ops (i + 1) l :: k, dfs, H', nx'⟩ Q) :
    Wp P ro ⟨fn, nt, T, .inReg ops i (⟨some dd, .call { callee := .value (.func g), args := as1.toArray, argTypes := ats }, ty, pos, af, gd⟩ :: l) :: k, dfs, H, nx⟩ Q :=
  w_call hw hd ha hm (hr.mono fun r hr => by subst hr; exact h)
end
end Go.Sy
end
section
namespace Go.Sy
open Go Go.Sl Go.RowKit
section
variable {P : Program}
theorem y_nilRow {ro : Option Nat} {fn nt nx : Nat} {T : Tr SV} {k : List AIt} {dfs : List ADf} {H : Heap} {Q : Pst} {d : Nat} (sz : Nat) (t : TypeId) (hT : T.at' d = some (.sc (.slice none 0 0))) (h0 : Nat.blt 0 sz = true)
    (h : Wp P ro ⟨fn, nt, T.set d (.slu nx 0 0), k, dfs, H.set nx (dat false 0 sz t []), nx + 1⟩ Q) : Wp P ro ⟨fn, nt, T, k, dfs, H, nx⟩ Q := by
  refine ⟨fun K w0 e w tmps todo ds kd rof cs hS hTr htd hds hc => ?_⟩
  have hf := hS.fresh nx (Nat.le_refl _)
  have hle := Env.le_put (x := ⟨0, 0, 0, sz, true⟩) hf
  have hT2 : TRel (e.put nx ⟨0, 0, 0, sz, true⟩) nt (T.set d (.slu nx 0 0)) tmps := by
    refine ⟨hTr.1, fun t s hs => ?_⟩
    rcases Tr.at_set hs with ⟨rfl, rfl⟩ | ⟨_, hs⟩
    · obtain ⟨v, g1, g2⟩ := hTr.2 _ _ hT
      simp only [SV.conc, Option.some.injEq] at g1
      subst g1
      exact ⟨_, by simp [SV.conc, Env.put_same, Ent.at], g2⟩
    · obtain ⟨v, g1, g2⟩ := hTr.2 _ _ hs
      exact ⟨v, SV.conc_mono hle _ _ g1, g2⟩
  obtain ⟨r, hr, e1, w', v, g1, g2⟩ := h.run K w0 _ w tmps todo ds kd rof cs (hS.newNil false sz t _ (lt_of_blt h0)) hT2 (htd.mono hle) (hds.mono hle) (hc.mono hle)
  exact ⟨r, hr, e1, w', v, Env.le_trans hle g1, g2⟩
theorem y_same {ro : Option Nat} {fn nt nx : Nat} {T : Tr SV} {k : List AIt} {dfs : List ADf} {H : Heap} {Q : Pst} {d : Nat} {s s' : SV} (hT : T.at' d = some s) (hc : ∀ e v, s.conc e = some v → s'.conc e = some v)
    (h : Wp P ro ⟨fn, nt, T.set d s', k, dfs, H, nx⟩ Q) : Wp P ro ⟨fn, nt, T, k, dfs, H, nx⟩ Q := by
  refine ⟨fun K w0 e w tmps todo ds kd rof cs hS hTr htd hds hcx => ?_⟩
  refine h.run K w0 e w tmps todo ds kd rof cs hS ⟨hTr.1, fun t u hu => ?_⟩ htd hds hcx
  rcases Tr.at_set hu with ⟨rfl, rfl⟩ | ⟨_, hu⟩
  · obtain ⟨v, g1, g2⟩ := hTr.2 _ _ hT
    exact ⟨v, hc e v g1, g2⟩
  · exact hTr.2 _ _ hu
end
end Go.Sy
end
