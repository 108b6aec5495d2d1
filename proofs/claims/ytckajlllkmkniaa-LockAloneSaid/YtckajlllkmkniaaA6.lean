/-
  Texts of the proof, merged: OU13 OU14 OU16 OU17 Ot L17 L18 L19 LkV LkE.
-/
import Derived.Test.YtckajlllkmkniaaA5
set_option linter.unusedVariables false
set_option linter.unusedSimpArgs false
section
namespace Go.Proofs.Ytckajlllkmkniaa
open Go Go.Sy Go.RowKit
theorem oU_part_step {lt : Nat → Nat → Bool} {d : Array (Nat)} {a i j i2 j2 : Nat} (hi : Sort.scanUp (fun x => lt x d[a]!) d j i = i2) (hj : Sort.scanDown (fun x => !lt x d[a]!) d i2 j = j2) (h1 : i ≤ i2) (h2 : j2 ≤ j) :
    Sort.partLoop lt a i j d = if j2 < i2 then (j2, d) else Sort.partLoop lt a (i2 + 1) (j2 - 1) (Sort.swp d i2 j2) := by
  conv => lhs; unfold Sort.partLoop
  simp only [hi, hj]
  split
  · rfl
  · rw [dif_pos (by omega)]
theorem oU_part_one {lt : Nat → Nat → Bool} {d : Array (Nat)} {a b pv i2 j2 : Nat} (hi : Sort.scanUp (fun x => lt x (Sort.swp d a pv)[a]!) (Sort.swp d a pv) (b - 1) (a + 1) = i2) (hj : Sort.scanDown (fun x => !lt x (Sort.swp d a pv)[a]!) (Sort.swp d a pv) i2 (b - 1) = j2) :
    Sort.partition lt d a b pv = if j2 < i2 then (j2, true, Sort.swp (Sort.swp d a pv) j2 a) else ((Sort.partLoop lt a (i2 + 1) (j2 - 1) (Sort.swp (Sort.swp d a pv) i2 j2)).1, false, Sort.swp (Sort.partLoop lt a (i2 + 1) (j2 - 1) (Sort.swp (Sort.swp d a pv) i2 j2)).2 (Sort.partLoop lt a (i2 + 1) (j2 - 1) (Sort.swp (Sort.swp d a pv) i2 j2)).1 a) := by
  simp only [Sort.partition, hi, hj]
set_option maxRecDepth 100000 in
set_option maxHeartbeats 0 in
theorem oU_part_spec (n a b pv : Nat) (d : Array (Nat)) (hn : n < 4611686018427387904) (hd : d.size = n) (hap : a ≤ pv) (hpb : pv < b) (hb : b ≤ n) :
    Ctr Try.prog 67 [.slu 0 0 n, .sc (.int .i64 (a : Int)), .sc (.int .i64 (b : Int)), .sc (.int .i64 (pv : Int))] [oUrow n d] (fun c => c = ⟨.tup [.sc (.int .i64 ((Sort.partition oUlt d a b pv).1 : Int)), .sc (.bool (Sort.partition oUlt d a b pv).2.1)], [some (oUrow n (Sort.partition oUlt d a b pv).2.2)]⟩) := by
  refine Fnc.start Try.func67 rfl rfl ?_
  (repeat (first | refine y_seq ?_ | refine w_region ?_ | refine y_regEnd ?_ | refine w_assign rfl rfl rfl ?_))
  refine w_draw (by kernel_rfl) (by kernel_rfl) ?_
  (repeat (first | refine dw_move rfl rfl rfl ?_ | (refine dw_ldS (g := fun x : Nat => .int .u64 x) rfl rfl rfl (F.ag _ rfl) rfl (by first | omega | (simp only [Array.size_setIfInBounds, swp_size]; omega)) (by first | omega | (simp only [Array.size_setIfInBounds, swp_size]; omega)) ?_) | (refine dw_stS (g := fun x : Nat => .int .u64 x) rfl rfl rfl (fun _ => rfl) (F.sz _ rfl) rfl (by first | omega | (simp only [Array.size_setIfInBounds, swp_size]; omega)) (by first | omega | (simp only [Array.size_setIfInBounds, swp_size]; omega)) ?_) | refine dw_idxN (q := a) rfl rfl rfl rfl (F.un _ rfl) (F.sz _ rfl) rfl (by omega) (by omega) (by omega) ?_ | refine dw_idxN (q := pv) rfl rfl rfl rfl (F.un _ rfl) (F.sz _ rfl) rfl (by omega) (by omega) (by omega) ?_))
  (refine dk_nil ?_); (refine ⟨by kernel_rfl, ?_, ?_⟩); (focus (repeat (first | exact trivial | refine ⟨.inl rfl, ?_⟩ | refine ⟨.inr (by (repeat (refine ⟨(by first | exact rd_not rfl | exact rd_cmp rfl rfl (.inr (.inr (.inr (.inr (.inl ⟨rfl, rfl⟩))))) | exact rd_idxN (F.un _ rfl) (F.sz _ rfl) rfl rfl rfl (by omega) (by omega) (by omega) | exact rd_arith rfl rfl (.inl ⟨rfl, (Go.IntWalk.i64_in _ ⟨by omega, by omega⟩).symm⟩) | exact rd_arith rfl rfl (.inr (.inl ⟨rfl, (Go.IntWalk.i64_in _ ⟨by omega, by omega⟩).symm⟩)) | exact rd_fieldAddr (F.fo _ _ rfl rfl) rfl | exact rd_move rfl | exact rd_assign rfl | exact rd_load1 (F.ag _ rfl) rfl rfl (cell_box rfl) | exact rd_loadN (F.ag _ rfl) rfl rfl (cellsFrom_box _ 0 rfl rfl) | exact rd_extract rfl rfl | exact rd_lenSl (F.un _ rfl) rfl | exact rd_lenStr (F.un _ rfl) rfl | exact rd_nilCheck rfl | exact rd_pickT rfl rfl | exact rd_pickF rfl rfl), ?_⟩)); exact trivial), ?_⟩ | refine ⟨.inl (by kernel_rfl), ?_⟩)))
  have e0 := oU_part_one (lt := oUlt) (d := d) (a := a) (b := b) (pv := pv) rfl rfl
  have hd1 : (Sort.swp d a pv).size = n := by rw [swp_size]; exact hd
  generalize hsw : Sort.swp d a pv = d1 at e0 hd1
  have hsw' : (d.setIfInBounds a d[pv]!).setIfInBounds pv d[a]! = d1 := hsw
  rw [hsw']
  (repeat (first | refine y_seq ?_ | refine w_region ?_ | refine y_regEnd ?_ | refine y_block ?_ | refine w_move rfl rfl rfl ?_ | refine w_assign rfl rfl rfl ?_ | refine w_add rfl rfl rfl rfl (by omega) (by omega) ?_ | refine w_sub rfl rfl rfl rfl (by omega) (by omega) ?_))
  refine y_loopE 1 (fun x : Nat => [(0, .slu 0 0 n), (1, .sc (.int .i64 (a : Int))), (10, .sc (.int .i64 (x : Int))), (11, .sc (.int .i64 ((b - 1 : Nat) : Int)))]) (fun _ => [some (oUrow n d1)]) (fun x => a + 1 ≤ x ∧ x ≤ n ∧ Sort.scanUp (fun y => oUlt y d1[a]!) d1 (b - 1) x = Sort.scanUp (fun y => oUlt y d1[a]!) d1 (b - 1) (a + 1)) (fun x => n - x) (a + 1) []
    1 (fun x : Nat => [(0, .slu 0 0 n), (1, .sc (.int .i64 (a : Int))), (10, .sc (.int .i64 (x : Int))), (11, .sc (.int .i64 ((b - 1 : Nat) : Int)))]) (fun _ => [some (oUrow n d1)]) (fun x => a + 1 ≤ x ∧ x ≤ n ∧ Sort.scanUp (fun y => oUlt y d1[a]!) d1 (b - 1) (a + 1) = x)
    (fun _ => rfl) (fun _ => rfl) ⟨Nat.le_refl _, by omega, rfl⟩ ?_ (fun _ => rfl) (fun _ => rfl) ?_ ?_
  · (refine ⟨(ExtOk.of rfl), rfl, (by repeat (first | exact trivial | refine ⟨rfl, ?_⟩ | refine ⟨sl_eq (by first | omega | (simp only; omega)), ?_⟩)), (by repeat (first | exact trivial | refine ⟨at_dat rfl, ?_⟩))⟩)
  · rintro i1 ⟨hii, hi1, hu⟩ ihu out
    (repeat (refine y_seq ?_))
    refine w_draw (by kernel_rfl) (by kernel_rfl) ?_
    (repeat (refine dw_move rfl rfl rfl ?_))
    refine dw_leqS rfl rfl rfl rfl ?_ ?_
    all_goals intro h1
    · have hls_h2 := oUless (d1[i1]!) (d1[a]!)
      cases h2 : oUlt (d1[i1]!) (d1[a]!)
      all_goals rw [h2] at hls_h2
      rotate_left
      all_goals (repeat (first | refine dw_move rfl rfl rfl ?_ | refine dw_pickT rfl rfl rfl rfl ?_ | (refine dw_ldS (g := fun x : Nat => .int .u64 x) rfl rfl rfl (F.ag _ rfl) rfl (by first | omega | (simp only [Array.size_setIfInBounds, swp_size]; omega)) (by first | omega | (simp only [Array.size_setIfInBounds, swp_size]; omega)) ?_) | refine dw_idxN (q := a) rfl rfl rfl rfl (F.un _ rfl) (F.sz _ rfl) rfl (by omega) (by omega) (by omega) ?_ | refine dw_idxN (q := i1) rfl rfl rfl rfl (F.un _ rfl) (F.sz _ rfl) rfl (by omega) (by omega) (by omega) ?_ | refine dk_call rfl rfl rfl (by kernel_rfl) (Ctr.callV (hls_h2) [] rfl (ExtOk.of rfl) rfl trivial rfl) ?_))
      · skip
        (refine dk_nil ?_); (refine ⟨by kernel_rfl, ?_, ?_⟩); (focus (repeat (first | exact trivial | refine ⟨.inl rfl, ?_⟩ | refine ⟨.inr (by (repeat (refine ⟨(by first | exact rd_not rfl | exact rd_cmp rfl rfl (.inr (.inr (.inr (.inr (.inl ⟨rfl, rfl⟩))))) | exact rd_idxN (F.un _ rfl) (F.sz _ rfl) rfl rfl rfl (by omega) (by omega) (by omega) | exact rd_arith rfl rfl (.inl ⟨rfl, (Go.IntWalk.i64_in _ ⟨by omega, by omega⟩).symm⟩) | exact rd_arith rfl rfl (.inr (.inl ⟨rfl, (Go.IntWalk.i64_in _ ⟨by omega, by omega⟩).symm⟩)) | exact rd_fieldAddr (F.fo _ _ rfl rfl) rfl | exact rd_move rfl | exact rd_assign rfl | exact rd_load1 (F.ag _ rfl) rfl rfl (cell_box rfl) | exact rd_loadN (F.ag _ rfl) rfl rfl (cellsFrom_box _ 0 rfl rfl) | exact rd_extract rfl rfl | exact rd_lenSl (F.un _ rfl) rfl | exact rd_lenStr (F.un _ rfl) rfl | exact rd_nilCheck rfl | exact rd_pickT rfl rfl | exact rd_pickF rfl rfl), ?_⟩)); exact trivial), ?_⟩ | refine ⟨.inl (by kernel_rfl), ?_⟩)))
        (repeat (first | refine w_region ?_ | refine y_regEnd ?_ | refine y_block ?_ | refine y_inBlock ?_ | refine y_skip ?_ | refine y_condT rfl ?_ | refine w_move rfl rfl rfl ?_ | refine w_assign rfl rfl rfl ?_ | refine w_add rfl rfl rfl rfl (by omega) (by omega) ?_))
        refine ihu _ _ _ (i1 + 1) [] ⟨by omega, by omega, ?_⟩ (by omega) ?_
        · rw [← hu]
          exact (oU_scanUp_go (by omega) (by simpa [oUlt] using h2)).symm
        · (refine ⟨(ExtOk.of rfl), rfl, (by repeat (first | exact trivial | refine ⟨rfl, ?_⟩)), (by repeat (first | exact trivial | refine ⟨at_dat rfl, ?_⟩))⟩)
      · skip
        (refine dk_nil ?_); (refine ⟨by kernel_rfl, ?_, ?_⟩); (focus (repeat (first | exact trivial | refine ⟨.inl rfl, ?_⟩ | refine ⟨.inr (by (repeat (refine ⟨(by first | exact rd_not rfl | exact rd_cmp rfl rfl (.inr (.inr (.inr (.inr (.inl ⟨rfl, rfl⟩))))) | exact rd_idxN (F.un _ rfl) (F.sz _ rfl) rfl rfl rfl (by omega) (by omega) (by omega) | exact rd_arith rfl rfl (.inl ⟨rfl, (Go.IntWalk.i64_in _ ⟨by omega, by omega⟩).symm⟩) | exact rd_arith rfl rfl (.inr (.inl ⟨rfl, (Go.IntWalk.i64_in _ ⟨by omega, by omega⟩).symm⟩)) | exact rd_fieldAddr (F.fo _ _ rfl rfl) rfl | exact rd_move rfl | exact rd_assign rfl | exact rd_load1 (F.ag _ rfl) rfl rfl (cell_box rfl) | exact rd_loadN (F.ag _ rfl) rfl rfl (cellsFrom_box _ 0 rfl rfl) | exact rd_extract rfl rfl | exact rd_lenSl (F.un _ rfl) rfl | exact rd_lenStr (F.un _ rfl) rfl | exact rd_nilCheck rfl | exact rd_pickT rfl rfl | exact rd_pickF rfl rfl), ?_⟩)); exact trivial), ?_⟩ | refine ⟨.inl (by kernel_rfl), ?_⟩)))
        (repeat (first | (refine out _ _ _ i1 [] ⟨hii, hi1, by rw [← hu]; exact oU_scanUp_stop (.inr (by simpa [oUlt] using h2))⟩ ?_; (refine ⟨(ExtOk.of rfl), rfl, (by repeat (first | exact trivial | refine ⟨rfl, ?_⟩)), (by repeat (first | exact trivial | refine ⟨at_dat rfl, ?_⟩))⟩)) | (first | refine y_exit rfl ?_ | refine y_condF rfl ?_)))
    · (repeat (first | refine dw_move rfl rfl rfl ?_ | refine dw_pickF rfl rfl rfl rfl ?_ | refine dk_skip rfl rfl ?_))
      (refine dk_nil ?_); (refine ⟨by kernel_rfl, ?_, ?_⟩); (focus (repeat (first | exact trivial | refine ⟨.inl rfl, ?_⟩)))
      (repeat (first | (refine out _ _ _ i1 [] ⟨hii, hi1, by rw [← hu]; exact oU_scanUp_stop (.inl (by omega))⟩ ?_; (refine ⟨(ExtOk.of rfl), rfl, (by repeat (first | exact trivial | refine ⟨rfl, ?_⟩)), (by repeat (first | exact trivial | refine ⟨at_dat rfl, ?_⟩))⟩)) | (first | refine y_exit rfl ?_ | refine y_condF rfl ?_)))
  rintro i2 ⟨hii, hi2, hu⟩
  rw [hu] at e0
  (repeat (first | refine y_seq ?_ | refine y_block ?_))
  refine y_loopE 1 (fun x : Nat => [(0, .slu 0 0 n), (1, .sc (.int .i64 (a : Int))), (10, .sc (.int .i64 (i2 : Int))), (11, .sc (.int .i64 (x : Int)))]) (fun _ => [some (oUrow n d1)]) (fun x => x ≤ b - 1 ∧ Sort.scanDown (fun y => !oUlt y d1[a]!) d1 i2 x = Sort.scanDown (fun y => !oUlt y d1[a]!) d1 i2 (b - 1)) (fun x => x) (b - 1) []
    1 (fun x : Nat => [(0, .slu 0 0 n), (1, .sc (.int .i64 (a : Int))), (10, .sc (.int .i64 (i2 : Int))), (11, .sc (.int .i64 (x : Int)))]) (fun _ => [some (oUrow n d1)]) (fun x => x ≤ b - 1 ∧ Sort.scanDown (fun y => !oUlt y d1[a]!) d1 i2 (b - 1) = x)
    (fun _ => rfl) (fun _ => rfl) ⟨Nat.le_refl _, rfl⟩ ?_ (fun _ => rfl) (fun _ => rfl) ?_ ?_
  · (refine ⟨(ExtOk.of rfl), rfl, (by repeat (first | exact trivial | refine ⟨rfl, ?_⟩)), (by repeat (first | exact trivial | refine ⟨at_dat rfl, ?_⟩))⟩)
  · rintro j1 ⟨hjj, hv⟩ ihv out
    (repeat (refine y_seq ?_))
    refine w_draw (by kernel_rfl) (by kernel_rfl) ?_
    (repeat (refine dw_move rfl rfl rfl ?_))
    refine dw_leqS rfl rfl rfl rfl ?_ ?_
    all_goals intro h1
    · have hls_h2 := oUless (d1[j1]!) (d1[a]!)
      cases h2 : oUlt (d1[j1]!) (d1[a]!)
      all_goals rw [h2] at hls_h2
      rotate_left
      all_goals (repeat (first | refine dw_move rfl rfl rfl ?_ | refine dw_pickT rfl rfl rfl rfl ?_ | refine dw_notB rfl rfl rfl ?_ | (refine dw_ldS (g := fun x : Nat => .int .u64 x) rfl rfl rfl (F.ag _ rfl) rfl (by first | omega | (simp only [Array.size_setIfInBounds, swp_size]; omega)) (by first | omega | (simp only [Array.size_setIfInBounds, swp_size]; omega)) ?_) | refine dw_idxN (q := a) rfl rfl rfl rfl (F.un _ rfl) (F.sz _ rfl) rfl (by omega) (by omega) (by omega) ?_ | refine dw_idxN (q := j1) rfl rfl rfl rfl (F.un _ rfl) (F.sz _ rfl) rfl (by omega) (by omega) (by omega) ?_ | refine dk_call rfl rfl rfl (by kernel_rfl) (Ctr.callV (hls_h2) [] rfl (ExtOk.of rfl) rfl trivial rfl) ?_))
      · skip
        (refine dk_nil ?_); (refine ⟨by kernel_rfl, ?_, ?_⟩); (focus (repeat (first | exact trivial | refine ⟨.inl rfl, ?_⟩ | refine ⟨.inr (by (repeat (refine ⟨(by first | exact rd_not rfl | exact rd_cmp rfl rfl (.inr (.inr (.inr (.inr (.inl ⟨rfl, rfl⟩))))) | exact rd_idxN (F.un _ rfl) (F.sz _ rfl) rfl rfl rfl (by omega) (by omega) (by omega) | exact rd_arith rfl rfl (.inl ⟨rfl, (Go.IntWalk.i64_in _ ⟨by omega, by omega⟩).symm⟩) | exact rd_arith rfl rfl (.inr (.inl ⟨rfl, (Go.IntWalk.i64_in _ ⟨by omega, by omega⟩).symm⟩)) | exact rd_fieldAddr (F.fo _ _ rfl rfl) rfl | exact rd_move rfl | exact rd_assign rfl | exact rd_load1 (F.ag _ rfl) rfl rfl (cell_box rfl) | exact rd_loadN (F.ag _ rfl) rfl rfl (cellsFrom_box _ 0 rfl rfl) | exact rd_extract rfl rfl | exact rd_lenSl (F.un _ rfl) rfl | exact rd_lenStr (F.un _ rfl) rfl | exact rd_nilCheck rfl | exact rd_pickT rfl rfl | exact rd_pickF rfl rfl), ?_⟩)); exact trivial), ?_⟩ | refine ⟨.inl (by kernel_rfl), ?_⟩)))
        (repeat (first | (refine out _ _ _ j1 [] ⟨hjj, by rw [← hv]; exact oU_scanDown_stop (.inr (by simpa [oUlt] using h2))⟩ ?_; (refine ⟨(ExtOk.of rfl), rfl, (by repeat (first | exact trivial | refine ⟨rfl, ?_⟩)), (by repeat (first | exact trivial | refine ⟨at_dat rfl, ?_⟩))⟩)) | (first | refine y_exit rfl ?_ | refine y_condF rfl ?_)))
      · skip
        (refine dk_nil ?_); (refine ⟨by kernel_rfl, ?_, ?_⟩); (focus (repeat (first | exact trivial | refine ⟨.inl rfl, ?_⟩ | refine ⟨.inr (by (repeat (refine ⟨(by first | exact rd_not rfl | exact rd_cmp rfl rfl (.inr (.inr (.inr (.inr (.inl ⟨rfl, rfl⟩))))) | exact rd_idxN (F.un _ rfl) (F.sz _ rfl) rfl rfl rfl (by omega) (by omega) (by omega) | exact rd_arith rfl rfl (.inl ⟨rfl, (Go.IntWalk.i64_in _ ⟨by omega, by omega⟩).symm⟩) | exact rd_arith rfl rfl (.inr (.inl ⟨rfl, (Go.IntWalk.i64_in _ ⟨by omega, by omega⟩).symm⟩)) | exact rd_fieldAddr (F.fo _ _ rfl rfl) rfl | exact rd_move rfl | exact rd_assign rfl | exact rd_load1 (F.ag _ rfl) rfl rfl (cell_box rfl) | exact rd_loadN (F.ag _ rfl) rfl rfl (cellsFrom_box _ 0 rfl rfl) | exact rd_extract rfl rfl | exact rd_lenSl (F.un _ rfl) rfl | exact rd_lenStr (F.un _ rfl) rfl | exact rd_nilCheck rfl | exact rd_pickT rfl rfl | exact rd_pickF rfl rfl), ?_⟩)); exact trivial), ?_⟩ | refine ⟨.inl (by kernel_rfl), ?_⟩)))
        (repeat (first | refine w_region ?_ | refine y_regEnd ?_ | refine y_block ?_ | refine y_inBlock ?_ | refine y_skip ?_ | refine y_condT rfl ?_ | refine w_move rfl rfl rfl ?_ | refine w_assign rfl rfl rfl ?_ | refine w_sub rfl rfl rfl rfl (by omega) (by omega) ?_))
        obtain ⟨j1, rfl⟩ : ∃ j', j1 = j' + 1 := ⟨j1 - 1, by omega⟩
        refine ihv _ _ _ j1 [] ⟨by omega, ?_⟩ (by omega) ?_
        · rw [← hv]
          exact (oU_scanDown_go (by omega) (by simpa [oUlt] using h2)).symm
        · (refine ⟨(ExtOk.of rfl), rfl, (by repeat (first | exact trivial | refine ⟨rfl, ?_⟩ | refine ⟨sl_eq (by first | omega | (simp only; omega)), ?_⟩)), (by repeat (first | exact trivial | refine ⟨at_dat rfl, ?_⟩))⟩)
    · (repeat (first | refine dw_move rfl rfl rfl ?_ | refine dw_pickF rfl rfl rfl rfl ?_ | refine dk_skip rfl rfl ?_))
      (refine dk_nil ?_); (refine ⟨by kernel_rfl, ?_, ?_⟩); (focus (repeat (first | exact trivial | refine ⟨.inl rfl, ?_⟩)))
      (repeat (first | (refine out _ _ _ j1 [] ⟨hjj, by rw [← hv]; exact oU_scanDown_stop (.inl (by omega))⟩ ?_; (refine ⟨(ExtOk.of rfl), rfl, (by repeat (first | exact trivial | refine ⟨rfl, ?_⟩)), (by repeat (first | exact trivial | refine ⟨at_dat rfl, ?_⟩))⟩)) | (first | refine y_exit rfl ?_ | refine y_condF rfl ?_)))
  rintro j2 ⟨hjj, hv⟩
  rw [hv] at e0
  (repeat (first | refine y_seq ?_ | refine w_region ?_ | refine w_move rfl rfl rfl ?_))
  refine w_gtrS rfl rfl rfl rfl ?_ ?_
  all_goals intro h3
  · rw [if_pos (by omega)] at e0
    rw [e0]
    (repeat (first | refine y_seq ?_ | refine y_regEnd ?_ | refine y_condT rfl ?_))
    refine w_draw (by kernel_rfl) (by kernel_rfl) ?_
    (repeat (first | refine dw_move rfl rfl rfl ?_ | (refine dw_ldS (g := fun x : Nat => .int .u64 x) rfl rfl rfl (F.ag _ rfl) rfl (by first | omega | (simp only [Array.size_setIfInBounds, swp_size]; omega)) (by first | omega | (simp only [Array.size_setIfInBounds, swp_size]; omega)) ?_) | (refine dw_stS (g := fun x : Nat => .int .u64 x) rfl rfl rfl (fun _ => rfl) (F.sz _ rfl) rfl (by first | omega | (simp only [Array.size_setIfInBounds, swp_size]; omega)) (by first | omega | (simp only [Array.size_setIfInBounds, swp_size]; omega)) ?_) | refine dw_idxN (q := a) rfl rfl rfl rfl (F.un _ rfl) (F.sz _ rfl) rfl (by omega) (by omega) (by omega) ?_ | refine dw_idxN (q := j2) rfl rfl rfl rfl (F.un _ rfl) (F.sz _ rfl) rfl (by omega) (by omega) (by omega) ?_))
    (refine dk_nil ?_); (refine ⟨by kernel_rfl, ?_, ?_⟩); (focus (repeat (first | exact trivial | refine ⟨.inl rfl, ?_⟩ | refine ⟨.inr (by (repeat (refine ⟨(by first | exact rd_not rfl | exact rd_cmp rfl rfl (.inr (.inr (.inr (.inr (.inl ⟨rfl, rfl⟩))))) | exact rd_idxN (F.un _ rfl) (F.sz _ rfl) rfl rfl rfl (by omega) (by omega) (by omega) | exact rd_arith rfl rfl (.inl ⟨rfl, (Go.IntWalk.i64_in _ ⟨by omega, by omega⟩).symm⟩) | exact rd_arith rfl rfl (.inr (.inl ⟨rfl, (Go.IntWalk.i64_in _ ⟨by omega, by omega⟩).symm⟩)) | exact rd_fieldAddr (F.fo _ _ rfl rfl) rfl | exact rd_move rfl | exact rd_assign rfl | exact rd_load1 (F.ag _ rfl) rfl rfl (cell_box rfl) | exact rd_loadN (F.ag _ rfl) rfl rfl (cellsFrom_box _ 0 rfl rfl) | exact rd_extract rfl rfl | exact rd_lenSl (F.un _ rfl) rfl | exact rd_lenStr (F.un _ rfl) rfl | exact rd_nilCheck rfl | exact rd_pickT rfl rfl | exact rd_pickF rfl rfl), ?_⟩)); exact trivial), ?_⟩ | refine ⟨.inl (by kernel_rfl), ?_⟩)))
    (repeat (first | refine y_seq ?_ | refine w_region ?_ | refine y_regEnd ?_ | refine w_move rfl rfl rfl ?_ | refine w_assign rfl rfl rfl ?_))
    ((apply w_ret Try.func67 (congrArg Array.toList Try.results67)); (focus (repeat (first | exact ResIs.nil | apply ResIs.tmp rfl))); refine ⟨_, rfl, Ends.mk [] (ExtOk.of rfl) rfl rfl ?_⟩)
    exact (by repeat (first | exact trivial | refine ⟨at_dat rfl, ?_⟩))
  rw [if_neg (by omega)] at e0
  rw [e0]
  (repeat (first | refine y_seq ?_ | refine y_regEnd ?_ | refine y_skip ?_ | refine y_condF rfl ?_))
  refine w_draw (by kernel_rfl) (by kernel_rfl) ?_
  (repeat (first | refine dw_move rfl rfl rfl ?_ | (refine dw_ldS (g := fun x : Nat => .int .u64 x) rfl rfl rfl (F.ag _ rfl) rfl (by first | omega | (simp only [Array.size_setIfInBounds, swp_size]; omega)) (by first | omega | (simp only [Array.size_setIfInBounds, swp_size]; omega)) ?_) | (refine dw_stS (g := fun x : Nat => .int .u64 x) rfl rfl rfl (fun _ => rfl) (F.sz _ rfl) rfl (by first | omega | (simp only [Array.size_setIfInBounds, swp_size]; omega)) (by first | omega | (simp only [Array.size_setIfInBounds, swp_size]; omega)) ?_) | refine dw_idxN (q := i2) rfl rfl rfl rfl (F.un _ rfl) (F.sz _ rfl) rfl (by omega) (by omega) (by omega) ?_ | refine dw_idxN (q := j2) rfl rfl rfl rfl (F.un _ rfl) (F.sz _ rfl) rfl (by omega) (by omega) (by omega) ?_))
  (refine dk_nil ?_); (refine ⟨by kernel_rfl, ?_, ?_⟩); (focus (repeat (first | exact trivial | refine ⟨.inl rfl, ?_⟩ | refine ⟨.inr (by (repeat (refine ⟨(by first | exact rd_not rfl | exact rd_cmp rfl rfl (.inr (.inr (.inr (.inr (.inl ⟨rfl, rfl⟩))))) | exact rd_idxN (F.un _ rfl) (F.sz _ rfl) rfl rfl rfl (by omega) (by omega) (by omega) | exact rd_arith rfl rfl (.inl ⟨rfl, (Go.IntWalk.i64_in _ ⟨by omega, by omega⟩).symm⟩) | exact rd_arith rfl rfl (.inr (.inl ⟨rfl, (Go.IntWalk.i64_in _ ⟨by omega, by omega⟩).symm⟩)) | exact rd_fieldAddr (F.fo _ _ rfl rfl) rfl | exact rd_move rfl | exact rd_assign rfl | exact rd_load1 (F.ag _ rfl) rfl rfl (cell_box rfl) | exact rd_loadN (F.ag _ rfl) rfl rfl (cellsFrom_box _ 0 rfl rfl) | exact rd_extract rfl rfl | exact rd_lenSl (F.un _ rfl) rfl | exact rd_lenStr (F.un _ rfl) rfl | exact rd_nilCheck rfl | exact rd_pickT rfl rfl | exact rd_pickF rfl rfl), ?_⟩)); exact trivial), ?_⟩ | refine ⟨.inl (by kernel_rfl), ?_⟩)))
  (repeat (first | refine y_seq ?_ | refine w_region ?_ | refine y_regEnd ?_ | refine y_block ?_ | refine w_move rfl rfl rfl ?_ | refine w_assign rfl rfl rfl ?_ | refine w_add rfl rfl rfl rfl (by omega) (by omega) ?_ | refine w_sub rfl rfl rfl rfl (by omega) (by omega) ?_))
  refine y_loopE 1 (fun s : (Nat × Nat) × Array (Nat) => [(0, .slu 0 0 n), (1, .sc (.int .i64 (a : Int))), (10, .sc (.int .i64 (s.1.1 : Int))), (11, .sc (.int .i64 (s.1.2 : Int)))]) (fun s => [some (oUrow n s.2)]) (fun s => a < s.1.1 ∧ s.1.1 ≤ n ∧ s.1.2 < n ∧ s.2.size = n ∧ Sort.partLoop oUlt a s.1.1 s.1.2 s.2 = Sort.partLoop oUlt a (i2 + 1) (j2 - 1) (Sort.swp d1 i2 j2)) (fun s => s.1.2 + 1 - s.1.1) ((i2 + 1, j2 - 1), Sort.swp d1 i2 j2) []
    1 (fun s : Nat × Array (Nat) => [(0, .slu 0 0 n), (1, .sc (.int .i64 (a : Int))), (11, .sc (.int .i64 (s.1 : Int)))]) (fun s => [some (oUrow n s.2)]) (fun s => s.1 < n ∧ s.2.size = n ∧ Sort.partLoop oUlt a (i2 + 1) (j2 - 1) (Sort.swp d1 i2 j2) = s)
    (fun _ => rfl) (fun _ => rfl) ⟨by simp only; omega, by simp only; omega, by simp only; omega, by rw [swp_size]; exact hd1, rfl⟩ ?_ (fun _ => rfl) (fun _ => rfl) ?_ ?_
  · (refine ⟨(ExtOk.of rfl), rfl, (by repeat (first | exact trivial | refine ⟨rfl, ?_⟩ | refine ⟨sl_eq (by first | omega | (simp only; omega)), ?_⟩)), (by repeat (first | exact trivial | refine ⟨at_dat rfl, ?_⟩))⟩)
  · rintro ⟨⟨i, j⟩, d3⟩ ⟨hai, hi, hj, hd3, ho⟩ ih outer
    simp only at hai hi hj hd3 ho ih ⊢
    (repeat (first | refine y_seq ?_ | refine y_block ?_))
    refine y_loopE 1 (fun x : Nat => [(0, .slu 0 0 n), (1, .sc (.int .i64 (a : Int))), (10, .sc (.int .i64 (x : Int))), (11, .sc (.int .i64 (j : Int)))]) (fun _ => [some (oUrow n d3)]) (fun x => i ≤ x ∧ x ≤ n ∧ Sort.scanUp (fun y => oUlt y d3[a]!) d3 j x = Sort.scanUp (fun y => oUlt y d3[a]!) d3 j i) (fun x => n - x) i []
      1 (fun x : Nat => [(0, .slu 0 0 n), (1, .sc (.int .i64 (a : Int))), (10, .sc (.int .i64 (x : Int))), (11, .sc (.int .i64 (j : Int)))]) (fun _ => [some (oUrow n d3)]) (fun x => i ≤ x ∧ x ≤ n ∧ Sort.scanUp (fun y => oUlt y d3[a]!) d3 j i = x)
      (fun _ => rfl) (fun _ => rfl) ⟨Nat.le_refl _, hi, rfl⟩ ?_ (fun _ => rfl) (fun _ => rfl) ?_ ?_
    · (refine ⟨(ExtOk.of rfl), rfl, (by repeat (first | exact trivial | refine ⟨rfl, ?_⟩)), (by repeat (first | exact trivial | refine ⟨at_dat rfl, ?_⟩))⟩)
    · rintro i1 ⟨hii, hi1, hu⟩ ihu out
      (repeat (refine y_seq ?_))
      refine w_draw (by kernel_rfl) (by kernel_rfl) ?_
      (repeat (refine dw_move rfl rfl rfl ?_))
      refine dw_leqS rfl rfl rfl rfl ?_ ?_
      all_goals intro h1
      · have hls_h2 := oUless (d3[i1]!) (d3[a]!)
        cases h2 : oUlt (d3[i1]!) (d3[a]!)
        all_goals rw [h2] at hls_h2
        rotate_left
        all_goals (repeat (first | refine dw_move rfl rfl rfl ?_ | refine dw_pickT rfl rfl rfl rfl ?_ | (refine dw_ldS (g := fun x : Nat => .int .u64 x) rfl rfl rfl (F.ag _ rfl) rfl (by first | omega | (simp only [Array.size_setIfInBounds, swp_size]; omega)) (by first | omega | (simp only [Array.size_setIfInBounds, swp_size]; omega)) ?_) | refine dw_idxN (q := a) rfl rfl rfl rfl (F.un _ rfl) (F.sz _ rfl) rfl (by omega) (by omega) (by omega) ?_ | refine dw_idxN (q := i1) rfl rfl rfl rfl (F.un _ rfl) (F.sz _ rfl) rfl (by omega) (by omega) (by omega) ?_ | refine dk_call rfl rfl rfl (by kernel_rfl) (Ctr.callV (hls_h2) [] rfl (ExtOk.of rfl) rfl trivial rfl) ?_))
        · skip
          (refine dk_nil ?_); (refine ⟨by kernel_rfl, ?_, ?_⟩); (focus (repeat (first | exact trivial | refine ⟨.inl rfl, ?_⟩ | refine ⟨.inr (by (repeat (refine ⟨(by first | exact rd_not rfl | exact rd_cmp rfl rfl (.inr (.inr (.inr (.inr (.inl ⟨rfl, rfl⟩))))) | exact rd_idxN (F.un _ rfl) (F.sz _ rfl) rfl rfl rfl (by omega) (by omega) (by omega) | exact rd_arith rfl rfl (.inl ⟨rfl, (Go.IntWalk.i64_in _ ⟨by omega, by omega⟩).symm⟩) | exact rd_arith rfl rfl (.inr (.inl ⟨rfl, (Go.IntWalk.i64_in _ ⟨by omega, by omega⟩).symm⟩)) | exact rd_fieldAddr (F.fo _ _ rfl rfl) rfl | exact rd_move rfl | exact rd_assign rfl | exact rd_load1 (F.ag _ rfl) rfl rfl (cell_box rfl) | exact rd_loadN (F.ag _ rfl) rfl rfl (cellsFrom_box _ 0 rfl rfl) | exact rd_extract rfl rfl | exact rd_lenSl (F.un _ rfl) rfl | exact rd_lenStr (F.un _ rfl) rfl | exact rd_nilCheck rfl | exact rd_pickT rfl rfl | exact rd_pickF rfl rfl), ?_⟩)); exact trivial), ?_⟩ | refine ⟨.inl (by kernel_rfl), ?_⟩)))
          (repeat (first | refine w_region ?_ | refine y_regEnd ?_ | refine y_block ?_ | refine y_inBlock ?_ | refine y_skip ?_ | refine y_condT rfl ?_ | refine w_move rfl rfl rfl ?_ | refine w_assign rfl rfl rfl ?_ | refine w_add rfl rfl rfl rfl (by omega) (by omega) ?_))
          refine ihu _ _ _ (i1 + 1) [] ⟨by omega, by omega, ?_⟩ (by omega) ?_
          · rw [← hu]
            exact (oU_scanUp_go (by omega) (by simpa [oUlt] using h2)).symm
          · (refine ⟨(ExtOk.of rfl), rfl, (by repeat (first | exact trivial | refine ⟨rfl, ?_⟩)), (by repeat (first | exact trivial | refine ⟨at_dat rfl, ?_⟩))⟩)
        · skip
          (refine dk_nil ?_); (refine ⟨by kernel_rfl, ?_, ?_⟩); (focus (repeat (first | exact trivial | refine ⟨.inl rfl, ?_⟩ | refine ⟨.inr (by (repeat (refine ⟨(by first | exact rd_not rfl | exact rd_cmp rfl rfl (.inr (.inr (.inr (.inr (.inl ⟨rfl, rfl⟩))))) | exact rd_idxN (F.un _ rfl) (F.sz _ rfl) rfl rfl rfl (by omega) (by omega) (by omega) | exact rd_arith rfl rfl (.inl ⟨rfl, (Go.IntWalk.i64_in _ ⟨by omega, by omega⟩).symm⟩) | exact rd_arith rfl rfl (.inr (.inl ⟨rfl, (Go.IntWalk.i64_in _ ⟨by omega, by omega⟩).symm⟩)) | exact rd_fieldAddr (F.fo _ _ rfl rfl) rfl | exact rd_move rfl | exact rd_assign rfl | exact rd_load1 (F.ag _ rfl) rfl rfl (cell_box rfl) | exact rd_loadN (F.ag _ rfl) rfl rfl (cellsFrom_box _ 0 rfl rfl) | exact rd_extract rfl rfl | exact rd_lenSl (F.un _ rfl) rfl | exact rd_lenStr (F.un _ rfl) rfl | exact rd_nilCheck rfl | exact rd_pickT rfl rfl | exact rd_pickF rfl rfl), ?_⟩)); exact trivial), ?_⟩ | refine ⟨.inl (by kernel_rfl), ?_⟩)))
          (repeat (first | (refine out _ _ _ i1 [] ⟨hii, hi1, by rw [← hu]; exact oU_scanUp_stop (.inr (by simpa [oUlt] using h2))⟩ ?_; (refine ⟨(ExtOk.of rfl), rfl, (by repeat (first | exact trivial | refine ⟨rfl, ?_⟩)), (by repeat (first | exact trivial | refine ⟨at_dat rfl, ?_⟩))⟩)) | (first | refine y_exit rfl ?_ | refine y_condF rfl ?_)))
      · (repeat (first | refine dw_move rfl rfl rfl ?_ | refine dw_pickF rfl rfl rfl rfl ?_ | refine dk_skip rfl rfl ?_))
        (refine dk_nil ?_); (refine ⟨by kernel_rfl, ?_, ?_⟩); (focus (repeat (first | exact trivial | refine ⟨.inl rfl, ?_⟩)))
        (repeat (first | (refine out _ _ _ i1 [] ⟨hii, hi1, by rw [← hu]; exact oU_scanUp_stop (.inl (by omega))⟩ ?_; (refine ⟨(ExtOk.of rfl), rfl, (by repeat (first | exact trivial | refine ⟨rfl, ?_⟩)), (by repeat (first | exact trivial | refine ⟨at_dat rfl, ?_⟩))⟩)) | (first | refine y_exit rfl ?_ | refine y_condF rfl ?_)))
    rintro i3 ⟨hii3, hi3, hu3⟩
    (repeat (first | refine y_seq ?_ | refine y_block ?_))
    refine y_loopE 1 (fun x : Nat => [(0, .slu 0 0 n), (1, .sc (.int .i64 (a : Int))), (10, .sc (.int .i64 (i3 : Int))), (11, .sc (.int .i64 (x : Int)))]) (fun _ => [some (oUrow n d3)]) (fun x => x ≤ j ∧ Sort.scanDown (fun y => !oUlt y d3[a]!) d3 i3 x = Sort.scanDown (fun y => !oUlt y d3[a]!) d3 i3 (j)) (fun x => x) (j) []
      1 (fun x : Nat => [(0, .slu 0 0 n), (1, .sc (.int .i64 (a : Int))), (10, .sc (.int .i64 (i3 : Int))), (11, .sc (.int .i64 (x : Int)))]) (fun _ => [some (oUrow n d3)]) (fun x => x ≤ j ∧ Sort.scanDown (fun y => !oUlt y d3[a]!) d3 i3 (j) = x)
      (fun _ => rfl) (fun _ => rfl) ⟨Nat.le_refl _, rfl⟩ ?_ (fun _ => rfl) (fun _ => rfl) ?_ ?_
    · (refine ⟨(ExtOk.of rfl), rfl, (by repeat (first | exact trivial | refine ⟨rfl, ?_⟩)), (by repeat (first | exact trivial | refine ⟨at_dat rfl, ?_⟩))⟩)
    · rintro j1 ⟨hjj, hv⟩ ihv out
      (repeat (refine y_seq ?_))
      refine w_draw (by kernel_rfl) (by kernel_rfl) ?_
      (repeat (refine dw_move rfl rfl rfl ?_))
      refine dw_leqS rfl rfl rfl rfl ?_ ?_
      all_goals intro h1
      · have hls_h2 := oUless (d3[j1]!) (d3[a]!)
        cases h2 : oUlt (d3[j1]!) (d3[a]!)
        all_goals rw [h2] at hls_h2
        rotate_left
        all_goals (repeat (first | refine dw_move rfl rfl rfl ?_ | refine dw_pickT rfl rfl rfl rfl ?_ | refine dw_notB rfl rfl rfl ?_ | (refine dw_ldS (g := fun x : Nat => .int .u64 x) rfl rfl rfl (F.ag _ rfl) rfl (by first | omega | (simp only [Array.size_setIfInBounds, swp_size]; omega)) (by first | omega | (simp only [Array.size_setIfInBounds, swp_size]; omega)) ?_) | refine dw_idxN (q := a) rfl rfl rfl rfl (F.un _ rfl) (F.sz _ rfl) rfl (by omega) (by omega) (by omega) ?_ | refine dw_idxN (q := j1) rfl rfl rfl rfl (F.un _ rfl) (F.sz _ rfl) rfl (by omega) (by omega) (by omega) ?_ | refine dk_call rfl rfl rfl (by kernel_rfl) (Ctr.callV (hls_h2) [] rfl (ExtOk.of rfl) rfl trivial rfl) ?_))
        · skip
          (refine dk_nil ?_); (refine ⟨by kernel_rfl, ?_, ?_⟩); (focus (repeat (first | exact trivial | refine ⟨.inl rfl, ?_⟩ | refine ⟨.inr (by (repeat (refine ⟨(by first | exact rd_not rfl | exact rd_cmp rfl rfl (.inr (.inr (.inr (.inr (.inl ⟨rfl, rfl⟩))))) | exact rd_idxN (F.un _ rfl) (F.sz _ rfl) rfl rfl rfl (by omega) (by omega) (by omega) | exact rd_arith rfl rfl (.inl ⟨rfl, (Go.IntWalk.i64_in _ ⟨by omega, by omega⟩).symm⟩) | exact rd_arith rfl rfl (.inr (.inl ⟨rfl, (Go.IntWalk.i64_in _ ⟨by omega, by omega⟩).symm⟩)) | exact rd_fieldAddr (F.fo _ _ rfl rfl) rfl | exact rd_move rfl | exact rd_assign rfl | exact rd_load1 (F.ag _ rfl) rfl rfl (cell_box rfl) | exact rd_loadN (F.ag _ rfl) rfl rfl (cellsFrom_box _ 0 rfl rfl) | exact rd_extract rfl rfl | exact rd_lenSl (F.un _ rfl) rfl | exact rd_lenStr (F.un _ rfl) rfl | exact rd_nilCheck rfl | exact rd_pickT rfl rfl | exact rd_pickF rfl rfl), ?_⟩)); exact trivial), ?_⟩ | refine ⟨.inl (by kernel_rfl), ?_⟩)))
          (repeat (first | (refine out _ _ _ j1 [] ⟨hjj, by rw [← hv]; exact oU_scanDown_stop (.inr (by simpa [oUlt] using h2))⟩ ?_; (refine ⟨(ExtOk.of rfl), rfl, (by repeat (first | exact trivial | refine ⟨rfl, ?_⟩)), (by repeat (first | exact trivial | refine ⟨at_dat rfl, ?_⟩))⟩)) | (first | refine y_exit rfl ?_ | refine y_condF rfl ?_)))
        · skip
          (refine dk_nil ?_); (refine ⟨by kernel_rfl, ?_, ?_⟩); (focus (repeat (first | exact trivial | refine ⟨.inl rfl, ?_⟩ | refine ⟨.inr (by (repeat (refine ⟨(by first | exact rd_not rfl | exact rd_cmp rfl rfl (.inr (.inr (.inr (.inr (.inl ⟨rfl, rfl⟩))))) | exact rd_idxN (F.un _ rfl) (F.sz _ rfl) rfl rfl rfl (by omega) (by omega) (by omega) | exact rd_arith rfl rfl (.inl ⟨rfl, (Go.IntWalk.i64_in _ ⟨by omega, by omega⟩).symm⟩) | exact rd_arith rfl rfl (.inr (.inl ⟨rfl, (Go.IntWalk.i64_in _ ⟨by omega, by omega⟩).symm⟩)) | exact rd_fieldAddr (F.fo _ _ rfl rfl) rfl | exact rd_move rfl | exact rd_assign rfl | exact rd_load1 (F.ag _ rfl) rfl rfl (cell_box rfl) | exact rd_loadN (F.ag _ rfl) rfl rfl (cellsFrom_box _ 0 rfl rfl) | exact rd_extract rfl rfl | exact rd_lenSl (F.un _ rfl) rfl | exact rd_lenStr (F.un _ rfl) rfl | exact rd_nilCheck rfl | exact rd_pickT rfl rfl | exact rd_pickF rfl rfl), ?_⟩)); exact trivial), ?_⟩ | refine ⟨.inl (by kernel_rfl), ?_⟩)))
          (repeat (first | refine w_region ?_ | refine y_regEnd ?_ | refine y_block ?_ | refine y_inBlock ?_ | refine y_skip ?_ | refine y_condT rfl ?_ | refine w_move rfl rfl rfl ?_ | refine w_assign rfl rfl rfl ?_ | refine w_sub rfl rfl rfl rfl (by omega) (by omega) ?_))
          obtain ⟨j1, rfl⟩ : ∃ j', j1 = j' + 1 := ⟨j1 - 1, by omega⟩
          refine ihv _ _ _ j1 [] ⟨by omega, ?_⟩ (by omega) ?_
          · rw [← hv]
            exact (oU_scanDown_go (by omega) (by simpa [oUlt] using h2)).symm
          · (refine ⟨(ExtOk.of rfl), rfl, (by repeat (first | exact trivial | refine ⟨rfl, ?_⟩ | refine ⟨sl_eq (by first | omega | (simp only; omega)), ?_⟩)), (by repeat (first | exact trivial | refine ⟨at_dat rfl, ?_⟩))⟩)
      · (repeat (first | refine dw_move rfl rfl rfl ?_ | refine dw_pickF rfl rfl rfl rfl ?_ | refine dk_skip rfl rfl ?_))
        (refine dk_nil ?_); (refine ⟨by kernel_rfl, ?_, ?_⟩); (focus (repeat (first | exact trivial | refine ⟨.inl rfl, ?_⟩)))
        (repeat (first | (refine out _ _ _ j1 [] ⟨hjj, by rw [← hv]; exact oU_scanDown_stop (.inl (by omega))⟩ ?_; (refine ⟨(ExtOk.of rfl), rfl, (by repeat (first | exact trivial | refine ⟨rfl, ?_⟩)), (by repeat (first | exact trivial | refine ⟨at_dat rfl, ?_⟩))⟩)) | (first | refine y_exit rfl ?_ | refine y_condF rfl ?_)))
    rintro j3 ⟨hjj3, hv3⟩
    have e := oU_part_step hu3 hv3 hii3 hjj3
    (repeat (first | refine y_seq ?_ | refine w_region ?_ | refine w_move rfl rfl rfl ?_))
    refine w_gtrS rfl rfl rfl rfl ?_ ?_
    all_goals intro h3
    · rw [ho, if_pos (by omega)] at e
      (repeat (first | (refine outer _ _ _ (j3, d3) [] ⟨by simp only; omega, hd3, e⟩ ?_; (refine ⟨(ExtOk.of rfl), rfl, (by repeat (first | exact trivial | refine ⟨rfl, ?_⟩)), (by repeat (first | exact trivial | refine ⟨at_dat rfl, ?_⟩))⟩)) | (first | refine y_regEnd ?_ | refine y_exit rfl ?_ | refine y_condT rfl ?_)))
    · rw [ho, if_neg (by omega)] at e
      (repeat (first | refine y_seq ?_ | refine y_regEnd ?_ | refine y_skip ?_ | refine y_condF rfl ?_))
      refine w_draw (by kernel_rfl) (by kernel_rfl) ?_
      (repeat (first | refine dw_move rfl rfl rfl ?_ | (refine dw_ldS (g := fun x : Nat => .int .u64 x) rfl rfl rfl (F.ag _ rfl) rfl (by first | omega | (simp only [Array.size_setIfInBounds, swp_size]; omega)) (by first | omega | (simp only [Array.size_setIfInBounds, swp_size]; omega)) ?_) | (refine dw_stS (g := fun x : Nat => .int .u64 x) rfl rfl rfl (fun _ => rfl) (F.sz _ rfl) rfl (by first | omega | (simp only [Array.size_setIfInBounds, swp_size]; omega)) (by first | omega | (simp only [Array.size_setIfInBounds, swp_size]; omega)) ?_) | refine dw_idxN (q := i3) rfl rfl rfl rfl (F.un _ rfl) (F.sz _ rfl) rfl (by omega) (by omega) (by omega) ?_ | refine dw_idxN (q := j3) rfl rfl rfl rfl (F.un _ rfl) (F.sz _ rfl) rfl (by omega) (by omega) (by omega) ?_))
      (refine dk_nil ?_); (refine ⟨by kernel_rfl, ?_, ?_⟩); (focus (repeat (first | exact trivial | refine ⟨.inl rfl, ?_⟩ | refine ⟨.inr (by (repeat (refine ⟨(by first | exact rd_not rfl | exact rd_cmp rfl rfl (.inr (.inr (.inr (.inr (.inl ⟨rfl, rfl⟩))))) | exact rd_idxN (F.un _ rfl) (F.sz _ rfl) rfl rfl rfl (by omega) (by omega) (by omega) | exact rd_arith rfl rfl (.inl ⟨rfl, (Go.IntWalk.i64_in _ ⟨by omega, by omega⟩).symm⟩) | exact rd_arith rfl rfl (.inr (.inl ⟨rfl, (Go.IntWalk.i64_in _ ⟨by omega, by omega⟩).symm⟩)) | exact rd_fieldAddr (F.fo _ _ rfl rfl) rfl | exact rd_move rfl | exact rd_assign rfl | exact rd_load1 (F.ag _ rfl) rfl rfl (cell_box rfl) | exact rd_loadN (F.ag _ rfl) rfl rfl (cellsFrom_box _ 0 rfl rfl) | exact rd_extract rfl rfl | exact rd_lenSl (F.un _ rfl) rfl | exact rd_lenStr (F.un _ rfl) rfl | exact rd_nilCheck rfl | exact rd_pickT rfl rfl | exact rd_pickF rfl rfl), ?_⟩)); exact trivial), ?_⟩ | refine ⟨.inl (by kernel_rfl), ?_⟩)))
      (repeat (first | refine y_seq ?_ | refine w_region ?_ | refine y_regEnd ?_ | refine y_inBlock ?_ | refine w_move rfl rfl rfl ?_ | refine w_assign rfl rfl rfl ?_ | refine w_add rfl rfl rfl rfl (by omega) (by omega) ?_ | refine w_sub rfl rfl rfl rfl (by omega) (by omega) ?_))
      refine ih _ _ _ ((i3 + 1, j3 - 1), Sort.swp d3 i3 j3) [] ⟨by simp only; omega, by simp only; omega, by simp only; omega, by rw [swp_size]; exact hd3, e.symm⟩ (by simp only; omega) ?_
      (refine ⟨(ExtOk.of rfl), rfl, (by repeat (first | exact trivial | refine ⟨rfl, ?_⟩ | refine ⟨sl_eq (by first | omega | (simp only; omega)), ?_⟩)), (by repeat (first | exact trivial | refine ⟨at_dat rfl, ?_⟩))⟩)
  rintro ⟨j3, d3⟩ ⟨hj3, hd3, e⟩
  simp only at hj3 hd3 e ⊢
  rw [e]
  (repeat (refine y_seq ?_))
  refine w_draw (by kernel_rfl) (by kernel_rfl) ?_
  (repeat (first | refine dw_move rfl rfl rfl ?_ | (refine dw_ldS (g := fun x : Nat => .int .u64 x) rfl rfl rfl (F.ag _ rfl) rfl (by first | omega | (simp only [Array.size_setIfInBounds, swp_size]; omega)) (by first | omega | (simp only [Array.size_setIfInBounds, swp_size]; omega)) ?_) | (refine dw_stS (g := fun x : Nat => .int .u64 x) rfl rfl rfl (fun _ => rfl) (F.sz _ rfl) rfl (by first | omega | (simp only [Array.size_setIfInBounds, swp_size]; omega)) (by first | omega | (simp only [Array.size_setIfInBounds, swp_size]; omega)) ?_) | refine dw_idxN (q := a) rfl rfl rfl rfl (F.un _ rfl) (F.sz _ rfl) rfl (by omega) (by omega) (by omega) ?_ | refine dw_idxN (q := j3) rfl rfl rfl rfl (F.un _ rfl) (F.sz _ rfl) rfl (by omega) (by omega) (by omega) ?_))
  (refine dk_nil ?_); (refine ⟨by kernel_rfl, ?_, ?_⟩); (focus (repeat (first | exact trivial | refine ⟨.inl rfl, ?_⟩ | refine ⟨.inr (by (repeat (refine ⟨(by first | exact rd_not rfl | exact rd_cmp rfl rfl (.inr (.inr (.inr (.inr (.inl ⟨rfl, rfl⟩))))) | exact rd_idxN (F.un _ rfl) (F.sz _ rfl) rfl rfl rfl (by omega) (by omega) (by omega) | exact rd_arith rfl rfl (.inl ⟨rfl, (Go.IntWalk.i64_in _ ⟨by omega, by omega⟩).symm⟩) | exact rd_arith rfl rfl (.inr (.inl ⟨rfl, (Go.IntWalk.i64_in _ ⟨by omega, by omega⟩).symm⟩)) | exact rd_fieldAddr (F.fo _ _ rfl rfl) rfl | exact rd_move rfl | exact rd_assign rfl | exact rd_load1 (F.ag _ rfl) rfl rfl (cell_box rfl) | exact rd_loadN (F.ag _ rfl) rfl rfl (cellsFrom_box _ 0 rfl rfl) | exact rd_extract rfl rfl | exact rd_lenSl (F.un _ rfl) rfl | exact rd_lenStr (F.un _ rfl) rfl | exact rd_nilCheck rfl | exact rd_pickT rfl rfl | exact rd_pickF rfl rfl), ?_⟩)); exact trivial), ?_⟩ | refine ⟨.inl (by kernel_rfl), ?_⟩)))
  (repeat (first | refine y_seq ?_ | refine w_region ?_ | refine y_regEnd ?_ | refine w_move rfl rfl rfl ?_ | refine w_assign rfl rfl rfl ?_))
  ((apply w_ret Try.func67 (congrArg Array.toList Try.results67)); (focus (repeat (first | exact ResIs.nil | apply ResIs.tmp rfl))); refine ⟨_, rfl, Ends.mk [] (ExtOk.of rfl) rfl rfl ?_⟩)
  exact (by repeat (first | exact trivial | refine ⟨at_dat rfl, ?_⟩))
end Go.Proofs.Ytckajlllkmkniaa
end
section
namespace Go.Proofs.Ytckajlllkmkniaa
open Go Go.Sy Go.RowKit
theorem oU_scanSorted_go {lt : Nat → Nat → Bool} {d : Array (Nat)} {b i : Nat} (h : i < b) (hp : lt d[i]! d[i - 1]! = false) : Sort.scanSorted lt d b i = Sort.scanSorted lt d b (i + 1) := by
  conv => lhs; rw [Sort.scanSorted, if_pos (by simp [h, hp])]
theorem oU_scanSorted_stop {lt : Nat → Nat → Bool} {d : Array (Nat)} {b i : Nat} (h : b ≤ i ∨ lt d[i]! d[i - 1]! = true) : Sort.scanSorted lt d b i = i := by
  rw [Sort.scanSorted, if_neg]
  simp only [Bool.and_eq_true, decide_eq_true_eq, Bool.not_eq_true']
  rintro ⟨h1, h2⟩
  rcases h with h | h
  · omega
  · rw [h] at h2; cases h2
theorem oU_shiftUp_go {lt : Nat → Nat → Bool} {d : Array (Nat)} {b j : Nat} (h : j < b) (hp : lt d[j]! d[j - 1]! = true) : Sort.shiftUp lt b j d = Sort.shiftUp lt b (j + 1) (Sort.swp d j (j - 1)) := by
  conv => lhs; rw [Sort.shiftUp, if_pos h, if_neg (by simp [hp])]
theorem oU_shiftUp_stop {lt : Nat → Nat → Bool} {d : Array (Nat)} {b j : Nat} (h : b ≤ j ∨ lt d[j]! d[j - 1]! = false) : Sort.shiftUp lt b j d = d := by
  rw [Sort.shiftUp]
  split
  · rename_i h1
    rw [if_pos]
    rcases h with h | h
    · omega
    · simp [h]
  · rfl
theorem oU_pins_step {lt : Nat → Nat → Bool} {a b s i i1 : Nat} {d d2 d3 : Array (Nat)} (hi : Sort.scanSorted lt d b i = i1) (h1 : i1 ≠ b) (h2 : ¬ b - a < 50)
    (e2 : (if i1 - a ≥ 2 then Sort.shiftDown lt (i1 - 1) (Sort.swp d i1 (i1 - 1)) else Sort.swp d i1 (i1 - 1)) = d2) (e3 : (if b - i1 ≥ 2 then Sort.shiftUp lt b (i1 + 1) d2 else d2) = d3) : Sort.partialIns lt a b (s + 1) i d = Sort.partialIns lt a b s i1 d3 := by
  rw [Sort.partialIns]
  simp only [hi, if_neg h1, if_neg h2]
  rw [e2, e3]
theorem oU_pins_true {lt : Nat → Nat → Bool} {a b s i i1 : Nat} {d : Array (Nat)} (hi : Sort.scanSorted lt d b i = i1) (h1 : i1 = b) : Sort.partialIns lt a b (s + 1) i d = (d, true) := by
  rw [Sort.partialIns]
  simp only [hi, if_pos h1]
theorem oU_pins_false {lt : Nat → Nat → Bool} {a b s i i1 : Nat} {d : Array (Nat)} (hi : Sort.scanSorted lt d b i = i1) (h1 : i1 ≠ b) (h2 : b - a < 50) : Sort.partialIns lt a b (s + 1) i d = (d, false) := by
  rw [Sort.partialIns]
  simp only [hi, if_neg h1, if_pos h2]
set_option maxRecDepth 100000 in
set_option maxHeartbeats 0 in
theorem oU_pins_spec (n a b : Nat) (d : Array (Nat)) (hn : n < 4611686018427387904) (hd : d.size = n) (hab : a < b) (hb : b ≤ n) :
    Ctr Try.prog 64 [.slu 0 0 n, .sc (.int .i64 (a : Int)), .sc (.int .i64 (b : Int))] [oUrow n d] (fun c => c = ⟨.sc (.bool (Sort.partialInsertionSort oUlt d a b).2), [some (oUrow n (Sort.partialInsertionSort oUlt d a b).1)]⟩) := by
  refine Fnc.start Try.func64 rfl rfl ?_
  (repeat (first | refine y_seq ?_ | refine w_region ?_ | refine y_regEnd ?_ | refine y_block ?_ | refine w_move rfl rfl rfl ?_ | refine w_assign rfl rfl rfl ?_ | refine w_add rfl rfl rfl rfl (by omega) (by omega) ?_))
  refine y_loopC 1 (fun s : (Nat × Nat) × Array (Nat) => [(0, .slu 0 0 n), (1, .sc (.int .i64 (a : Int))), (2, .sc (.int .i64 (b : Int))), (7, .sc (.int .i64 (s.1.2 : Int))), (8, .sc (.int .i64 ((5 - s.1.1 : Nat) : Int)))]) (fun s => [some (oUrow n s.2)]) (fun s => s.1.1 ≤ 5 ∧ a + 1 ≤ s.1.2 ∧ s.1.2 ≤ b ∧ s.2.size = n ∧ Sort.partialIns oUlt a b s.1.1 s.1.2 s.2 = Sort.partialInsertionSort oUlt d a b) (fun s => s.1.1) ((5, a + 1), d) []
    (fun _ => rfl) ⟨Nat.le_refl _, Nat.le_refl _, hab, hd, rfl⟩ ?_ (fun _ => rfl) (fun _ => rfl) ?_
  · (refine ⟨(ExtOk.of rfl), rfl, (by repeat (first | exact trivial | refine ⟨rfl, ?_⟩)), (by repeat (first | exact trivial | refine ⟨at_dat rfl, ?_⟩))⟩)
  rintro ⟨⟨s, i⟩, d0⟩ ⟨hs, hai, hi, hd0, ho⟩ ih
  simp only at hs hai hi hd0 ho ih ⊢
  (repeat (first | refine y_seq ?_ | refine w_region ?_ | refine w_move rfl rfl rfl ?_))
  refine w_lssS rfl rfl rfl rfl ?_ ?_
  all_goals intro h0
  · obtain ⟨s, rfl⟩ : ∃ s', s = s' + 1 := ⟨s - 1, by omega⟩
    (repeat (first | refine y_seq ?_ | refine y_regEnd ?_ | refine y_block ?_ | refine y_skip ?_ | refine y_condT rfl ?_))
    refine y_loopE 1 (fun x : Nat => [(0, .slu 0 0 n), (1, .sc (.int .i64 (a : Int))), (2, .sc (.int .i64 (b : Int))), (7, .sc (.int .i64 (x : Int))), (8, .sc (.int .i64 ((5 - (s + 1) : Nat) : Int)))]) (fun _ => [some (oUrow n d0)]) (fun x => a + 1 ≤ x ∧ x ≤ b ∧ Sort.scanSorted oUlt d0 b x = Sort.scanSorted oUlt d0 b i) (fun x => b - x) i []
      1 (fun x : Nat => [(0, .slu 0 0 n), (1, .sc (.int .i64 (a : Int))), (2, .sc (.int .i64 (b : Int))), (7, .sc (.int .i64 (x : Int))), (8, .sc (.int .i64 ((5 - (s + 1) : Nat) : Int)))]) (fun _ => [some (oUrow n d0)]) (fun x => a + 1 ≤ x ∧ x ≤ b ∧ Sort.scanSorted oUlt d0 b i = x)
      (fun _ => rfl) (fun _ => rfl) ⟨hai, hi, rfl⟩ ?_ (fun _ => rfl) (fun _ => rfl) ?_ ?_
    · (refine ⟨(ExtOk.of rfl), rfl, (by repeat (first | exact trivial | refine ⟨rfl, ?_⟩)), (by repeat (first | exact trivial | refine ⟨at_dat rfl, ?_⟩))⟩)
    · rintro i1 ⟨hai1, hi1, hu⟩ ihu out
      (repeat (refine y_seq ?_))
      refine w_draw (by kernel_rfl) (by kernel_rfl) ?_
      (repeat (refine dw_move rfl rfl rfl ?_))
      refine dw_lssS rfl rfl rfl rfl ?_ ?_
      all_goals intro h1
      · have hls_h2 := oUless (d0[i1]!) (d0[i1 - 1]!)
        cases h2 : oUlt (d0[i1]!) (d0[i1 - 1]!)
        all_goals rw [h2] at hls_h2
        rotate_left
        all_goals (repeat (first | refine dw_move rfl rfl rfl ?_ | refine dw_pickT rfl rfl rfl rfl ?_ | refine dw_sub rfl rfl rfl rfl (by omega) (by omega) ?_ | refine dw_notB rfl rfl rfl ?_ | (refine dw_ldS (g := fun x : Nat => .int .u64 x) rfl rfl rfl (F.ag _ rfl) rfl (by first | omega | (simp only [Array.size_setIfInBounds, swp_size]; omega)) (by first | omega | (simp only [Array.size_setIfInBounds, swp_size]; omega)) ?_) | refine dw_idxN (q := i1) rfl rfl rfl rfl (F.un _ rfl) (F.sz _ rfl) rfl (by omega) (by omega) (by omega) ?_ | refine dw_idxN (q := i1 - 1) rfl rfl rfl rfl (F.un _ rfl) (F.sz _ rfl) rfl (by omega) (by omega) (by omega) ?_ | refine dk_call rfl rfl rfl (by kernel_rfl) (Ctr.callV (hls_h2) [] rfl (ExtOk.of rfl) rfl trivial rfl) ?_))
        · skip
          (refine dk_nil ?_); (refine ⟨by kernel_rfl, ?_, ?_⟩); (focus (repeat (first | exact trivial | refine ⟨.inl rfl, ?_⟩ | refine ⟨.inr (by (repeat (refine ⟨(by first | exact rd_not rfl | exact rd_cmp rfl rfl (.inr (.inr (.inr (.inr (.inl ⟨rfl, rfl⟩))))) | exact rd_idxN (F.un _ rfl) (F.sz _ rfl) rfl rfl rfl (by omega) (by omega) (by omega) | exact rd_arith rfl rfl (.inl ⟨rfl, (Go.IntWalk.i64_in _ ⟨by omega, by omega⟩).symm⟩) | exact rd_arith rfl rfl (.inr (.inl ⟨rfl, (Go.IntWalk.i64_in _ ⟨by omega, by omega⟩).symm⟩)) | exact rd_fieldAddr (F.fo _ _ rfl rfl) rfl | exact rd_move rfl | exact rd_assign rfl | exact rd_load1 (F.ag _ rfl) rfl rfl (cell_box rfl) | exact rd_loadN (F.ag _ rfl) rfl rfl (cellsFrom_box _ 0 rfl rfl) | exact rd_extract rfl rfl | exact rd_lenSl (F.un _ rfl) rfl | exact rd_lenStr (F.un _ rfl) rfl | exact rd_nilCheck rfl | exact rd_pickT rfl rfl | exact rd_pickF rfl rfl), ?_⟩)); exact trivial), ?_⟩ | refine ⟨.inl (by kernel_rfl), ?_⟩)))
          (repeat (first | (refine out _ _ _ i1 [] ⟨hai1, hi1, by rw [← hu]; exact oU_scanSorted_stop (.inr (by simpa [oUlt] using h2))⟩ ?_; (refine ⟨(ExtOk.of rfl), rfl, (by repeat (first | exact trivial | refine ⟨rfl, ?_⟩)), (by repeat (first | exact trivial | refine ⟨at_dat rfl, ?_⟩))⟩)) | (first | refine y_exit rfl ?_ | refine y_condF rfl ?_)))
        · skip
          (refine dk_nil ?_); (refine ⟨by kernel_rfl, ?_, ?_⟩); (focus (repeat (first | exact trivial | refine ⟨.inl rfl, ?_⟩ | refine ⟨.inr (by (repeat (refine ⟨(by first | exact rd_not rfl | exact rd_cmp rfl rfl (.inr (.inr (.inr (.inr (.inl ⟨rfl, rfl⟩))))) | exact rd_idxN (F.un _ rfl) (F.sz _ rfl) rfl rfl rfl (by omega) (by omega) (by omega) | exact rd_arith rfl rfl (.inl ⟨rfl, (Go.IntWalk.i64_in _ ⟨by omega, by omega⟩).symm⟩) | exact rd_arith rfl rfl (.inr (.inl ⟨rfl, (Go.IntWalk.i64_in _ ⟨by omega, by omega⟩).symm⟩)) | exact rd_fieldAddr (F.fo _ _ rfl rfl) rfl | exact rd_move rfl | exact rd_assign rfl | exact rd_load1 (F.ag _ rfl) rfl rfl (cell_box rfl) | exact rd_loadN (F.ag _ rfl) rfl rfl (cellsFrom_box _ 0 rfl rfl) | exact rd_extract rfl rfl | exact rd_lenSl (F.un _ rfl) rfl | exact rd_lenStr (F.un _ rfl) rfl | exact rd_nilCheck rfl | exact rd_pickT rfl rfl | exact rd_pickF rfl rfl), ?_⟩)); exact trivial), ?_⟩ | refine ⟨.inl (by kernel_rfl), ?_⟩)))
          (repeat (first | refine w_region ?_ | refine y_regEnd ?_ | refine y_block ?_ | refine y_inBlock ?_ | refine y_skip ?_ | refine y_condT rfl ?_ | refine w_move rfl rfl rfl ?_ | refine w_assign rfl rfl rfl ?_ | refine w_add rfl rfl rfl rfl (by omega) (by omega) ?_))
          refine ihu _ _ _ (i1 + 1) [] ⟨by omega, by omega, ?_⟩ (by omega) ?_
          · rw [← hu]
            exact (oU_scanSorted_go (by omega) (by simpa [oUlt] using h2)).symm
          · (refine ⟨(ExtOk.of rfl), rfl, (by repeat (first | exact trivial | refine ⟨rfl, ?_⟩)), (by repeat (first | exact trivial | refine ⟨at_dat rfl, ?_⟩))⟩)
      · (repeat (first | refine dw_move rfl rfl rfl ?_ | refine dw_pickF rfl rfl rfl rfl ?_ | refine dk_skip rfl rfl ?_))
        (refine dk_nil ?_); (refine ⟨by kernel_rfl, ?_, ?_⟩); (focus (repeat (first | exact trivial | refine ⟨.inl rfl, ?_⟩)))
        (repeat (first | (refine out _ _ _ i1 [] ⟨hai1, hi1, by rw [← hu]; exact oU_scanSorted_stop (.inl (by omega))⟩ ?_; (refine ⟨(ExtOk.of rfl), rfl, (by repeat (first | exact trivial | refine ⟨rfl, ?_⟩)), (by repeat (first | exact trivial | refine ⟨at_dat rfl, ?_⟩))⟩)) | (first | refine y_exit rfl ?_ | refine y_condF rfl ?_)))
    rintro i1 ⟨hai1, hi1, hu⟩
    (repeat (first | refine y_seq ?_ | refine w_region ?_ | refine w_move rfl rfl rfl ?_))
    refine w_eqlS rfl rfl rfl rfl ?_ ?_
    all_goals intro h1
    · rw [oU_pins_true hu (by omega)] at ho
      (repeat (first | refine y_seq ?_ | refine w_region ?_ | refine y_regEnd ?_ | refine y_condT rfl ?_ | refine w_assign rfl rfl rfl ?_))
      rw [← ho]
      ((apply w_ret Try.func64 (congrArg Array.toList Try.results64)); (focus (repeat (first | exact ResIs.nil | apply ResIs.tmp rfl))); refine ⟨_, rfl, Ends.mk [] (ExtOk.of rfl) rfl rfl ?_⟩)
      exact (by repeat (first | exact trivial | refine ⟨at_dat rfl, ?_⟩))
    (repeat (first | refine y_seq ?_ | refine w_region ?_ | refine y_regEnd ?_ | refine y_skip ?_ | refine y_condF rfl ?_ | refine w_move rfl rfl rfl ?_ | refine w_sub rfl rfl rfl rfl (by omega) (by omega) ?_))
    refine w_lssS rfl rfl rfl rfl ?_ ?_
    all_goals intro h2
    · rw [oU_pins_false hu (by omega) (by omega)] at ho
      (repeat (first | refine y_seq ?_ | refine w_region ?_ | refine y_regEnd ?_ | refine y_condT rfl ?_ | refine w_assign rfl rfl rfl ?_))
      rw [← ho]
      ((apply w_ret Try.func64 (congrArg Array.toList Try.results64)); (focus (repeat (first | exact ResIs.nil | apply ResIs.tmp rfl))); refine ⟨_, rfl, Ends.mk [] (ExtOk.of rfl) rfl rfl ?_⟩)
      exact (by repeat (first | exact trivial | refine ⟨at_dat rfl, ?_⟩))
    (repeat (first | refine y_seq ?_ | refine y_regEnd ?_ | refine y_skip ?_ | refine y_condF rfl ?_))
    refine w_draw (by kernel_rfl) (by kernel_rfl) ?_
    (repeat (first | refine dw_move rfl rfl rfl ?_ | refine dw_sub rfl rfl rfl rfl (by omega) (by omega) ?_ | (refine dw_ldS (g := fun x : Nat => .int .u64 x) rfl rfl rfl (F.ag _ rfl) rfl (by first | omega | (simp only [Array.size_setIfInBounds, swp_size]; omega)) (by first | omega | (simp only [Array.size_setIfInBounds, swp_size]; omega)) ?_) | (refine dw_stS (g := fun x : Nat => .int .u64 x) rfl rfl rfl (fun _ => rfl) (F.sz _ rfl) rfl (by first | omega | (simp only [Array.size_setIfInBounds, swp_size]; omega)) (by first | omega | (simp only [Array.size_setIfInBounds, swp_size]; omega)) ?_) | refine dw_idxN (q := i1) rfl rfl rfl rfl (F.un _ rfl) (F.sz _ rfl) rfl (by omega) (by omega) (by omega) ?_ | refine dw_idxN (q := i1 - 1) rfl rfl rfl rfl (F.un _ rfl) (F.sz _ rfl) rfl (by omega) (by omega) (by omega) ?_))
    (refine dk_nil ?_); (refine ⟨by kernel_rfl, ?_, ?_⟩); (focus (repeat (first | exact trivial | refine ⟨.inl rfl, ?_⟩ | refine ⟨.inr (by (repeat (refine ⟨(by first | exact rd_not rfl | exact rd_cmp rfl rfl (.inr (.inr (.inr (.inr (.inl ⟨rfl, rfl⟩))))) | exact rd_idxN (F.un _ rfl) (F.sz _ rfl) rfl rfl rfl (by omega) (by omega) (by omega) | exact rd_arith rfl rfl (.inl ⟨rfl, (Go.IntWalk.i64_in _ ⟨by omega, by omega⟩).symm⟩) | exact rd_arith rfl rfl (.inr (.inl ⟨rfl, (Go.IntWalk.i64_in _ ⟨by omega, by omega⟩).symm⟩)) | exact rd_fieldAddr (F.fo _ _ rfl rfl) rfl | exact rd_move rfl | exact rd_assign rfl | exact rd_load1 (F.ag _ rfl) rfl rfl (cell_box rfl) | exact rd_loadN (F.ag _ rfl) rfl rfl (cellsFrom_box _ 0 rfl rfl) | exact rd_extract rfl rfl | exact rd_lenSl (F.un _ rfl) rfl | exact rd_lenStr (F.un _ rfl) rfl | exact rd_nilCheck rfl | exact rd_pickT rfl rfl | exact rd_pickF rfl rfl), ?_⟩)); exact trivial), ?_⟩ | refine ⟨.inl (by kernel_rfl), ?_⟩)))
    have hd1 : (Sort.swp d0 i1 (i1 - 1)).size = n := by rw [swp_size]; exact hd0
    have e2 : ∃ d2, (if i1 - a ≥ 2 then Sort.shiftDown oUlt (i1 - 1) (Sort.swp d0 i1 (i1 - 1)) else Sort.swp d0 i1 (i1 - 1)) = d2 := ⟨_, rfl⟩
    obtain ⟨d2, e2⟩ := e2
    have hps := fun d3 e3 => oU_pins_step (s := s) (d3 := d3) hu (by omega) (by omega) e2 e3
    generalize hsw : Sort.swp d0 i1 (i1 - 1) = d1 at e2 hd1
    have hsw' : (d0.setIfInBounds i1 d0[i1 - 1]!).setIfInBounds (i1 - 1) d0[i1]! = d1 := hsw
    rw [hsw']
    (repeat (first | refine y_seq ?_ | refine w_region ?_ | refine w_move rfl rfl rfl ?_ | refine w_sub rfl rfl rfl rfl (by omega) (by omega) ?_))
    refine w_geqS rfl rfl rfl rfl ?_ ?_
    all_goals intro h3
    · rw [if_pos (by omega)] at e2
      (repeat (first | refine y_seq ?_ | refine w_region ?_ | refine y_regEnd ?_ | refine y_block ?_ | refine y_condT rfl ?_ | refine w_move rfl rfl rfl ?_ | refine w_assign rfl rfl rfl ?_ | refine w_sub rfl rfl rfl rfl (by omega) (by omega) ?_))
      refine y_loopE 1 (fun s1 : Nat × Array (Nat) => [(0, .slu 0 0 n), (1, .sc (.int .i64 (a : Int))), (2, .sc (.int .i64 (b : Int))), (7, .sc (.int .i64 (i1 : Int))), (8, .sc (.int .i64 ((5 - (s + 1) : Nat) : Int))), (9, .sc (.int .i64 (s1.1 : Int)))]) (fun s1 => [some (oUrow n s1.2)]) (fun s1 => s1.1 ≤ i1 - 1 ∧ s1.2.size = n ∧ Sort.shiftDown oUlt s1.1 s1.2 = d2) (fun s1 => s1.1) (i1 - 1, d1) []
        1 (fun d' : Array (Nat) => [(0, .slu 0 0 n), (1, .sc (.int .i64 (a : Int))), (2, .sc (.int .i64 (b : Int))), (7, .sc (.int .i64 (i1 : Int))), (8, .sc (.int .i64 ((5 - (s + 1) : Nat) : Int)))]) (fun d' => [some (oUrow n d')]) (fun d' => d'.size = n ∧ d' = d2)
        (fun _ => rfl) (fun _ => rfl) ⟨Nat.le_refl _, hd1, e2⟩ ?_ (fun _ => rfl) (fun _ => rfl) ?_ ?_
      · (refine ⟨(ExtOk.of rfl), rfl, (by repeat (first | exact trivial | refine ⟨rfl, ?_⟩ | refine ⟨sl_eq (by first | omega | (simp only; omega)), ?_⟩)), (by repeat (first | exact trivial | refine ⟨at_dat rfl, ?_⟩))⟩)
      · rintro ⟨j, d'⟩ ⟨hj, hd', hsd⟩ ihd out
        simp only at hj hd' hsd ihd ⊢
        (repeat (first | refine y_seq ?_ | refine w_region ?_ | refine w_move rfl rfl rfl ?_))
        refine w_geqS rfl rfl rfl rfl ?_ ?_
        all_goals intro h4
        · obtain ⟨j, rfl⟩ : ∃ j', j = j' + 1 := ⟨j - 1, by omega⟩
          (repeat (first | refine y_seq ?_ | refine y_regEnd ?_ | refine y_block ?_ | refine y_skip ?_ | refine y_condT rfl ?_))
          refine w_draw (by kernel_rfl) (by kernel_rfl) ?_
          have hls_h5 := oUless (d'[j + 1]!) (d'[j]!)
          cases h5 : oUlt (d'[j + 1]!) (d'[j]!)
          all_goals rw [h5] at hls_h5
          rotate_left
          all_goals (repeat (first | refine dw_move rfl rfl rfl ?_ | refine dw_sub rfl rfl rfl rfl (by omega) (by omega) ?_ | refine dw_notB rfl rfl rfl ?_ | (refine dw_ldS (g := fun x : Nat => .int .u64 x) rfl rfl rfl (F.ag _ rfl) rfl (by first | omega | (simp only [Array.size_setIfInBounds, swp_size]; omega)) (by first | omega | (simp only [Array.size_setIfInBounds, swp_size]; omega)) ?_) | refine dw_idxN (q := j + 1) rfl rfl rfl rfl (F.un _ rfl) (F.sz _ rfl) rfl (by omega) (by omega) (by omega) ?_ | refine dw_idxN (q := j) rfl rfl rfl rfl (F.un _ rfl) (F.sz _ rfl) rfl (by omega) (by omega) (by omega) ?_ | refine dk_call rfl rfl rfl (by kernel_rfl) (Ctr.callV (hls_h5) [] rfl (ExtOk.of rfl) rfl trivial rfl) ?_))
          · skip
            (refine dk_nil ?_); (refine ⟨by kernel_rfl, ?_, ?_⟩); (focus (repeat (first | exact trivial | refine ⟨.inl rfl, ?_⟩ | refine ⟨.inr (by (repeat (refine ⟨(by first | exact rd_not rfl | exact rd_cmp rfl rfl (.inr (.inr (.inr (.inr (.inl ⟨rfl, rfl⟩))))) | exact rd_idxN (F.un _ rfl) (F.sz _ rfl) rfl rfl rfl (by omega) (by omega) (by omega) | exact rd_arith rfl rfl (.inl ⟨rfl, (Go.IntWalk.i64_in _ ⟨by omega, by omega⟩).symm⟩) | exact rd_arith rfl rfl (.inr (.inl ⟨rfl, (Go.IntWalk.i64_in _ ⟨by omega, by omega⟩).symm⟩)) | exact rd_fieldAddr (F.fo _ _ rfl rfl) rfl | exact rd_move rfl | exact rd_assign rfl | exact rd_load1 (F.ag _ rfl) rfl rfl (cell_box rfl) | exact rd_loadN (F.ag _ rfl) rfl rfl (cellsFrom_box _ 0 rfl rfl) | exact rd_extract rfl rfl | exact rd_lenSl (F.un _ rfl) rfl | exact rd_lenStr (F.un _ rfl) rfl | exact rd_nilCheck rfl | exact rd_pickT rfl rfl | exact rd_pickF rfl rfl), ?_⟩)); exact trivial), ?_⟩ | refine ⟨.inl (by kernel_rfl), ?_⟩)))
            (repeat (first | refine y_skip ?_ | refine y_condF rfl ?_))
            refine w_draw (by kernel_rfl) (by kernel_rfl) ?_
            (repeat (first | refine dw_move rfl rfl rfl ?_ | refine dw_sub rfl rfl rfl rfl (by omega) (by omega) ?_ | (refine dw_ldS (g := fun x : Nat => .int .u64 x) rfl rfl rfl (F.ag _ rfl) rfl (by first | omega | (simp only [Array.size_setIfInBounds, swp_size]; omega)) (by first | omega | (simp only [Array.size_setIfInBounds, swp_size]; omega)) ?_) | (refine dw_stS (g := fun x : Nat => .int .u64 x) rfl rfl rfl (fun _ => rfl) (F.sz _ rfl) rfl (by first | omega | (simp only [Array.size_setIfInBounds, swp_size]; omega)) (by first | omega | (simp only [Array.size_setIfInBounds, swp_size]; omega)) ?_) | refine dw_idxN (q := j + 1) rfl rfl rfl rfl (F.un _ rfl) (F.sz _ rfl) rfl (by omega) (by omega) (by omega) ?_ | refine dw_idxN (q := j) rfl rfl rfl rfl (F.un _ rfl) (F.sz _ rfl) rfl (by omega) (by omega) (by omega) ?_))
            (refine dk_nil ?_); (refine ⟨by kernel_rfl, ?_, ?_⟩); (focus (repeat (first | exact trivial | refine ⟨.inl rfl, ?_⟩ | refine ⟨.inr (by (repeat (refine ⟨(by first | exact rd_not rfl | exact rd_cmp rfl rfl (.inr (.inr (.inr (.inr (.inl ⟨rfl, rfl⟩))))) | exact rd_idxN (F.un _ rfl) (F.sz _ rfl) rfl rfl rfl (by omega) (by omega) (by omega) | exact rd_arith rfl rfl (.inl ⟨rfl, (Go.IntWalk.i64_in _ ⟨by omega, by omega⟩).symm⟩) | exact rd_arith rfl rfl (.inr (.inl ⟨rfl, (Go.IntWalk.i64_in _ ⟨by omega, by omega⟩).symm⟩)) | exact rd_fieldAddr (F.fo _ _ rfl rfl) rfl | exact rd_move rfl | exact rd_assign rfl | exact rd_load1 (F.ag _ rfl) rfl rfl (cell_box rfl) | exact rd_loadN (F.ag _ rfl) rfl rfl (cellsFrom_box _ 0 rfl rfl) | exact rd_extract rfl rfl | exact rd_lenSl (F.un _ rfl) rfl | exact rd_lenStr (F.un _ rfl) rfl | exact rd_nilCheck rfl | exact rd_pickT rfl rfl | exact rd_pickF rfl rfl), ?_⟩)); exact trivial), ?_⟩ | refine ⟨.inl (by kernel_rfl), ?_⟩)))
            (repeat (first | refine w_region ?_ | refine y_regEnd ?_ | refine y_inBlock ?_ | refine w_move rfl rfl rfl ?_ | refine w_assign rfl rfl rfl ?_ | refine w_sub rfl rfl rfl rfl (by omega) (by omega) ?_))
            refine ihd _ _ _ (j, Sort.swp d' (j + 1) j) [] ⟨by simp only; omega, by rw [swp_size]; exact hd', ?_⟩ (by simp only; omega) ?_
            · rw [← hsd]
              conv => rhs; rw [Sort.shiftDown, if_neg (by simpa [oUlt] using h5)]
            · (refine ⟨(ExtOk.of rfl), rfl, (by repeat (first | exact trivial | refine ⟨rfl, ?_⟩ | refine ⟨sl_eq (by first | omega | (simp only; omega)), ?_⟩)), (by repeat (first | exact trivial | refine ⟨at_dat rfl, ?_⟩))⟩)
          · skip
            (refine dk_nil ?_); (refine ⟨by kernel_rfl, ?_, ?_⟩); (focus (repeat (first | exact trivial | refine ⟨.inl rfl, ?_⟩ | refine ⟨.inr (by (repeat (refine ⟨(by first | exact rd_not rfl | exact rd_cmp rfl rfl (.inr (.inr (.inr (.inr (.inl ⟨rfl, rfl⟩))))) | exact rd_idxN (F.un _ rfl) (F.sz _ rfl) rfl rfl rfl (by omega) (by omega) (by omega) | exact rd_arith rfl rfl (.inl ⟨rfl, (Go.IntWalk.i64_in _ ⟨by omega, by omega⟩).symm⟩) | exact rd_arith rfl rfl (.inr (.inl ⟨rfl, (Go.IntWalk.i64_in _ ⟨by omega, by omega⟩).symm⟩)) | exact rd_fieldAddr (F.fo _ _ rfl rfl) rfl | exact rd_move rfl | exact rd_assign rfl | exact rd_load1 (F.ag _ rfl) rfl rfl (cell_box rfl) | exact rd_loadN (F.ag _ rfl) rfl rfl (cellsFrom_box _ 0 rfl rfl) | exact rd_extract rfl rfl | exact rd_lenSl (F.un _ rfl) rfl | exact rd_lenStr (F.un _ rfl) rfl | exact rd_nilCheck rfl | exact rd_pickT rfl rfl | exact rd_pickF rfl rfl), ?_⟩)); exact trivial), ?_⟩ | refine ⟨.inl (by kernel_rfl), ?_⟩)))
            (repeat (first | (refine out _ _ _ d' [] ⟨hd', by rw [← hsd, Sort.shiftDown, if_pos (by simpa [oUlt] using h5)]⟩ ?_; (refine ⟨(ExtOk.of rfl), rfl, (by repeat (first | exact trivial | refine ⟨rfl, ?_⟩)), (by repeat (first | exact trivial | refine ⟨at_dat rfl, ?_⟩))⟩)) | (first | refine y_exit rfl ?_ | refine y_condT rfl ?_)))
        · obtain rfl : j = 0 := by omega
          (repeat (first | (refine out _ _ _ d' [] ⟨hd', hsd⟩ ?_; (refine ⟨(ExtOk.of rfl), rfl, (by repeat (first | exact trivial | refine ⟨rfl, ?_⟩)), (by repeat (first | exact trivial | refine ⟨at_dat rfl, ?_⟩))⟩)) | (first | refine y_regEnd ?_ | refine y_exit rfl ?_ | refine y_condF rfl ?_)))
      rintro d2' ⟨hd2, rfl⟩
      (repeat (first | refine y_seq ?_ | refine w_region ?_ | refine w_move rfl rfl rfl ?_ | refine w_sub rfl rfl rfl rfl (by omega) (by omega) ?_))
      refine w_geqS rfl rfl rfl rfl ?_ ?_
      all_goals intro h6
      · (repeat (first | refine y_seq ?_ | refine w_region ?_ | refine y_regEnd ?_ | refine y_block ?_ | refine y_condT rfl ?_ | refine w_move rfl rfl rfl ?_ | refine w_assign rfl rfl rfl ?_ | refine w_add rfl rfl rfl rfl (by omega) (by omega) ?_))
        refine y_loopE 1 (fun s1 : Nat × Array (Nat) => [(0, .slu 0 0 n), (1, .sc (.int .i64 (a : Int))), (2, .sc (.int .i64 (b : Int))), (7, .sc (.int .i64 (i1 : Int))), (8, .sc (.int .i64 ((5 - (s + 1) : Nat) : Int))), (10, .sc (.int .i64 (s1.1 : Int)))]) (fun s1 => [some (oUrow n s1.2)]) (fun s1 => i1 + 1 ≤ s1.1 ∧ s1.1 ≤ b ∧ s1.2.size = n ∧ Sort.shiftUp oUlt b s1.1 s1.2 = Sort.shiftUp oUlt b (i1 + 1) d2') (fun s1 => b - s1.1) (i1 + 1, d2') []
          1 (fun d' : Array (Nat) => [(0, .slu 0 0 n), (1, .sc (.int .i64 (a : Int))), (2, .sc (.int .i64 (b : Int))), (7, .sc (.int .i64 (i1 : Int))), (8, .sc (.int .i64 ((5 - (s + 1) : Nat) : Int)))]) (fun d' => [some (oUrow n d')]) (fun d' => d'.size = n ∧ Sort.shiftUp oUlt b (i1 + 1) d2' = d')
          (fun _ => rfl) (fun _ => rfl) ⟨Nat.le_refl _, by simp only; omega, hd2, rfl⟩ ?_ (fun _ => rfl) (fun _ => rfl) ?_ ?_
        · (refine ⟨(ExtOk.of rfl), rfl, (by repeat (first | exact trivial | refine ⟨rfl, ?_⟩)), (by repeat (first | exact trivial | refine ⟨at_dat rfl, ?_⟩))⟩)
        · rintro ⟨j, d'⟩ ⟨hj, hjb, hd', hsd⟩ ihd out
          simp only at hj hjb hd' hsd ihd ⊢
          (repeat (first | refine y_seq ?_ | refine w_region ?_ | refine w_move rfl rfl rfl ?_))
          refine w_lssS rfl rfl rfl rfl ?_ ?_
          all_goals intro h4
          · (repeat (first | refine y_seq ?_ | refine y_regEnd ?_ | refine y_block ?_ | refine y_skip ?_ | refine y_condT rfl ?_))
            refine w_draw (by kernel_rfl) (by kernel_rfl) ?_
            have hls_h5 := oUless (d'[j]!) (d'[j - 1]!)
            cases h5 : oUlt (d'[j]!) (d'[j - 1]!)
            all_goals rw [h5] at hls_h5
            rotate_left
            all_goals (repeat (first | refine dw_move rfl rfl rfl ?_ | refine dw_sub rfl rfl rfl rfl (by omega) (by omega) ?_ | refine dw_notB rfl rfl rfl ?_ | (refine dw_ldS (g := fun x : Nat => .int .u64 x) rfl rfl rfl (F.ag _ rfl) rfl (by first | omega | (simp only [Array.size_setIfInBounds, swp_size]; omega)) (by first | omega | (simp only [Array.size_setIfInBounds, swp_size]; omega)) ?_) | refine dw_idxN (q := j) rfl rfl rfl rfl (F.un _ rfl) (F.sz _ rfl) rfl (by omega) (by omega) (by omega) ?_ | refine dw_idxN (q := j - 1) rfl rfl rfl rfl (F.un _ rfl) (F.sz _ rfl) rfl (by omega) (by omega) (by omega) ?_ | refine dk_call rfl rfl rfl (by kernel_rfl) (Ctr.callV (hls_h5) [] rfl (ExtOk.of rfl) rfl trivial rfl) ?_))
            · skip
              (refine dk_nil ?_); (refine ⟨by kernel_rfl, ?_, ?_⟩); (focus (repeat (first | exact trivial | refine ⟨.inl rfl, ?_⟩ | refine ⟨.inr (by (repeat (refine ⟨(by first | exact rd_not rfl | exact rd_cmp rfl rfl (.inr (.inr (.inr (.inr (.inl ⟨rfl, rfl⟩))))) | exact rd_idxN (F.un _ rfl) (F.sz _ rfl) rfl rfl rfl (by omega) (by omega) (by omega) | exact rd_arith rfl rfl (.inl ⟨rfl, (Go.IntWalk.i64_in _ ⟨by omega, by omega⟩).symm⟩) | exact rd_arith rfl rfl (.inr (.inl ⟨rfl, (Go.IntWalk.i64_in _ ⟨by omega, by omega⟩).symm⟩)) | exact rd_fieldAddr (F.fo _ _ rfl rfl) rfl | exact rd_move rfl | exact rd_assign rfl | exact rd_load1 (F.ag _ rfl) rfl rfl (cell_box rfl) | exact rd_loadN (F.ag _ rfl) rfl rfl (cellsFrom_box _ 0 rfl rfl) | exact rd_extract rfl rfl | exact rd_lenSl (F.un _ rfl) rfl | exact rd_lenStr (F.un _ rfl) rfl | exact rd_nilCheck rfl | exact rd_pickT rfl rfl | exact rd_pickF rfl rfl), ?_⟩)); exact trivial), ?_⟩ | refine ⟨.inl (by kernel_rfl), ?_⟩)))
              (repeat (first | refine y_skip ?_ | refine y_condF rfl ?_))
              refine w_draw (by kernel_rfl) (by kernel_rfl) ?_
              (repeat (first | refine dw_move rfl rfl rfl ?_ | refine dw_sub rfl rfl rfl rfl (by omega) (by omega) ?_ | (refine dw_ldS (g := fun x : Nat => .int .u64 x) rfl rfl rfl (F.ag _ rfl) rfl (by first | omega | (simp only [Array.size_setIfInBounds, swp_size]; omega)) (by first | omega | (simp only [Array.size_setIfInBounds, swp_size]; omega)) ?_) | (refine dw_stS (g := fun x : Nat => .int .u64 x) rfl rfl rfl (fun _ => rfl) (F.sz _ rfl) rfl (by first | omega | (simp only [Array.size_setIfInBounds, swp_size]; omega)) (by first | omega | (simp only [Array.size_setIfInBounds, swp_size]; omega)) ?_) | refine dw_idxN (q := j) rfl rfl rfl rfl (F.un _ rfl) (F.sz _ rfl) rfl (by omega) (by omega) (by omega) ?_ | refine dw_idxN (q := j - 1) rfl rfl rfl rfl (F.un _ rfl) (F.sz _ rfl) rfl (by omega) (by omega) (by omega) ?_))
              (refine dk_nil ?_); (refine ⟨by kernel_rfl, ?_, ?_⟩); (focus (repeat (first | exact trivial | refine ⟨.inl rfl, ?_⟩ | refine ⟨.inr (by (repeat (refine ⟨(by first | exact rd_not rfl | exact rd_cmp rfl rfl (.inr (.inr (.inr (.inr (.inl ⟨rfl, rfl⟩))))) | exact rd_idxN (F.un _ rfl) (F.sz _ rfl) rfl rfl rfl (by omega) (by omega) (by omega) | exact rd_arith rfl rfl (.inl ⟨rfl, (Go.IntWalk.i64_in _ ⟨by omega, by omega⟩).symm⟩) | exact rd_arith rfl rfl (.inr (.inl ⟨rfl, (Go.IntWalk.i64_in _ ⟨by omega, by omega⟩).symm⟩)) | exact rd_fieldAddr (F.fo _ _ rfl rfl) rfl | exact rd_move rfl | exact rd_assign rfl | exact rd_load1 (F.ag _ rfl) rfl rfl (cell_box rfl) | exact rd_loadN (F.ag _ rfl) rfl rfl (cellsFrom_box _ 0 rfl rfl) | exact rd_extract rfl rfl | exact rd_lenSl (F.un _ rfl) rfl | exact rd_lenStr (F.un _ rfl) rfl | exact rd_nilCheck rfl | exact rd_pickT rfl rfl | exact rd_pickF rfl rfl), ?_⟩)); exact trivial), ?_⟩ | refine ⟨.inl (by kernel_rfl), ?_⟩)))
              (repeat (first | refine w_region ?_ | refine y_regEnd ?_ | refine y_inBlock ?_ | refine w_move rfl rfl rfl ?_ | refine w_assign rfl rfl rfl ?_ | refine w_add rfl rfl rfl rfl (by omega) (by omega) ?_))
              refine ihd _ _ _ (j + 1, Sort.swp d' j (j - 1)) [] ⟨by simp only; omega, by simp only; omega, by rw [swp_size]; exact hd', ?_⟩ (by simp only; omega) ?_
              · rw [← hsd]
                exact (oU_shiftUp_go (by omega) (by simpa [oUlt] using h5)).symm
              · (refine ⟨(ExtOk.of rfl), rfl, (by repeat (first | exact trivial | refine ⟨rfl, ?_⟩)), (by repeat (first | exact trivial | refine ⟨at_dat rfl, ?_⟩))⟩)
            · skip
              (refine dk_nil ?_); (refine ⟨by kernel_rfl, ?_, ?_⟩); (focus (repeat (first | exact trivial | refine ⟨.inl rfl, ?_⟩ | refine ⟨.inr (by (repeat (refine ⟨(by first | exact rd_not rfl | exact rd_cmp rfl rfl (.inr (.inr (.inr (.inr (.inl ⟨rfl, rfl⟩))))) | exact rd_idxN (F.un _ rfl) (F.sz _ rfl) rfl rfl rfl (by omega) (by omega) (by omega) | exact rd_arith rfl rfl (.inl ⟨rfl, (Go.IntWalk.i64_in _ ⟨by omega, by omega⟩).symm⟩) | exact rd_arith rfl rfl (.inr (.inl ⟨rfl, (Go.IntWalk.i64_in _ ⟨by omega, by omega⟩).symm⟩)) | exact rd_fieldAddr (F.fo _ _ rfl rfl) rfl | exact rd_move rfl | exact rd_assign rfl | exact rd_load1 (F.ag _ rfl) rfl rfl (cell_box rfl) | exact rd_loadN (F.ag _ rfl) rfl rfl (cellsFrom_box _ 0 rfl rfl) | exact rd_extract rfl rfl | exact rd_lenSl (F.un _ rfl) rfl | exact rd_lenStr (F.un _ rfl) rfl | exact rd_nilCheck rfl | exact rd_pickT rfl rfl | exact rd_pickF rfl rfl), ?_⟩)); exact trivial), ?_⟩ | refine ⟨.inl (by kernel_rfl), ?_⟩)))
              (repeat (first | (refine out _ _ _ d' [] ⟨hd', by rw [← hsd]; exact oU_shiftUp_stop (.inr (by simpa [oUlt] using h5))⟩ ?_; (refine ⟨(ExtOk.of rfl), rfl, (by repeat (first | exact trivial | refine ⟨rfl, ?_⟩)), (by repeat (first | exact trivial | refine ⟨at_dat rfl, ?_⟩))⟩)) | (first | refine y_exit rfl ?_ | refine y_condT rfl ?_)))
          · (repeat (first | (refine out _ _ _ d' [] ⟨hd', by rw [← hsd]; exact oU_shiftUp_stop (.inl (by omega))⟩ ?_; (refine ⟨(ExtOk.of rfl), rfl, (by repeat (first | exact trivial | refine ⟨rfl, ?_⟩)), (by repeat (first | exact trivial | refine ⟨at_dat rfl, ?_⟩))⟩)) | (first | refine y_regEnd ?_ | refine y_exit rfl ?_ | refine y_condF rfl ?_)))
        rintro d3 ⟨hd3, e3⟩
        (repeat (first | refine w_region ?_ | refine y_regEnd ?_ | refine y_inBlock ?_ | refine w_move rfl rfl rfl ?_ | refine w_assign rfl rfl rfl ?_ | refine w_add rfl rfl rfl rfl (by omega) (by omega) ?_))
        refine ih _ _ _ ((s, i1), d3) [] ⟨by simp only; omega, hai1, hi1, hd3, by rw [← ho]; exact (hps d3 (by rw [if_pos (by omega)]; exact e3)).symm⟩ (by simp only; omega) ?_
        (refine ⟨(ExtOk.of rfl), rfl, (by repeat (first | exact trivial | refine ⟨rfl, ?_⟩ | refine ⟨sl_eq (by first | omega | (simp only; omega)), ?_⟩)), (by repeat (first | exact trivial | refine ⟨at_dat rfl, ?_⟩))⟩)
      · (repeat (first | refine w_region ?_ | refine y_regEnd ?_ | refine y_inBlock ?_ | refine y_skip ?_ | refine y_condF rfl ?_ | refine w_move rfl rfl rfl ?_ | refine w_assign rfl rfl rfl ?_ | refine w_add rfl rfl rfl rfl (by omega) (by omega) ?_))
        refine ih _ _ _ ((s, i1), d2') [] ⟨by simp only; omega, hai1, hi1, hd2, by rw [← ho]; exact (hps d2' (by rw [if_neg (by omega)])).symm⟩ (by simp only; omega) ?_
        (refine ⟨(ExtOk.of rfl), rfl, (by repeat (first | exact trivial | refine ⟨rfl, ?_⟩ | refine ⟨sl_eq (by first | omega | (simp only; omega)), ?_⟩)), (by repeat (first | exact trivial | refine ⟨at_dat rfl, ?_⟩))⟩)
    · rw [if_neg (by omega)] at e2
      subst e2
      have hd2 := hd1
      (repeat (first | refine y_seq ?_ | refine w_region ?_ | refine y_regEnd ?_ | refine y_skip ?_ | refine y_condF rfl ?_ | refine w_move rfl rfl rfl ?_ | refine w_sub rfl rfl rfl rfl (by omega) (by omega) ?_))
      refine w_geqS rfl rfl rfl rfl ?_ ?_
      all_goals intro h6
      · (repeat (first | refine y_seq ?_ | refine w_region ?_ | refine y_regEnd ?_ | refine y_block ?_ | refine y_condT rfl ?_ | refine w_move rfl rfl rfl ?_ | refine w_assign rfl rfl rfl ?_ | refine w_add rfl rfl rfl rfl (by omega) (by omega) ?_))
        refine y_loopE 1 (fun s1 : Nat × Array (Nat) => [(0, .slu 0 0 n), (1, .sc (.int .i64 (a : Int))), (2, .sc (.int .i64 (b : Int))), (7, .sc (.int .i64 (i1 : Int))), (8, .sc (.int .i64 ((5 - (s + 1) : Nat) : Int))), (10, .sc (.int .i64 (s1.1 : Int)))]) (fun s1 => [some (oUrow n s1.2)]) (fun s1 => i1 + 1 ≤ s1.1 ∧ s1.1 ≤ b ∧ s1.2.size = n ∧ Sort.shiftUp oUlt b s1.1 s1.2 = Sort.shiftUp oUlt b (i1 + 1) d1) (fun s1 => b - s1.1) (i1 + 1, d1) []
          1 (fun d' : Array (Nat) => [(0, .slu 0 0 n), (1, .sc (.int .i64 (a : Int))), (2, .sc (.int .i64 (b : Int))), (7, .sc (.int .i64 (i1 : Int))), (8, .sc (.int .i64 ((5 - (s + 1) : Nat) : Int)))]) (fun d' => [some (oUrow n d')]) (fun d' => d'.size = n ∧ Sort.shiftUp oUlt b (i1 + 1) d1 = d')
          (fun _ => rfl) (fun _ => rfl) ⟨Nat.le_refl _, by simp only; omega, hd2, rfl⟩ ?_ (fun _ => rfl) (fun _ => rfl) ?_ ?_
        · (refine ⟨(ExtOk.of rfl), rfl, (by repeat (first | exact trivial | refine ⟨rfl, ?_⟩)), (by repeat (first | exact trivial | refine ⟨at_dat rfl, ?_⟩))⟩)
        · rintro ⟨j, d'⟩ ⟨hj, hjb, hd', hsd⟩ ihd out
          simp only at hj hjb hd' hsd ihd ⊢
          (repeat (first | refine y_seq ?_ | refine w_region ?_ | refine w_move rfl rfl rfl ?_))
          refine w_lssS rfl rfl rfl rfl ?_ ?_
          all_goals intro h4
          · (repeat (first | refine y_seq ?_ | refine y_regEnd ?_ | refine y_block ?_ | refine y_skip ?_ | refine y_condT rfl ?_))
            refine w_draw (by kernel_rfl) (by kernel_rfl) ?_
            have hls_h5 := oUless (d'[j]!) (d'[j - 1]!)
            cases h5 : oUlt (d'[j]!) (d'[j - 1]!)
            all_goals rw [h5] at hls_h5
            rotate_left
            all_goals (repeat (first | refine dw_move rfl rfl rfl ?_ | refine dw_sub rfl rfl rfl rfl (by omega) (by omega) ?_ | refine dw_notB rfl rfl rfl ?_ | (refine dw_ldS (g := fun x : Nat => .int .u64 x) rfl rfl rfl (F.ag _ rfl) rfl (by first | omega | (simp only [Array.size_setIfInBounds, swp_size]; omega)) (by first | omega | (simp only [Array.size_setIfInBounds, swp_size]; omega)) ?_) | refine dw_idxN (q := j) rfl rfl rfl rfl (F.un _ rfl) (F.sz _ rfl) rfl (by omega) (by omega) (by omega) ?_ | refine dw_idxN (q := j - 1) rfl rfl rfl rfl (F.un _ rfl) (F.sz _ rfl) rfl (by omega) (by omega) (by omega) ?_ | refine dk_call rfl rfl rfl (by kernel_rfl) (Ctr.callV (hls_h5) [] rfl (ExtOk.of rfl) rfl trivial rfl) ?_))
            · skip
              (refine dk_nil ?_); (refine ⟨by kernel_rfl, ?_, ?_⟩); (focus (repeat (first | exact trivial | refine ⟨.inl rfl, ?_⟩ | refine ⟨.inr (by (repeat (refine ⟨(by first | exact rd_not rfl | exact rd_cmp rfl rfl (.inr (.inr (.inr (.inr (.inl ⟨rfl, rfl⟩))))) | exact rd_idxN (F.un _ rfl) (F.sz _ rfl) rfl rfl rfl (by omega) (by omega) (by omega) | exact rd_arith rfl rfl (.inl ⟨rfl, (Go.IntWalk.i64_in _ ⟨by omega, by omega⟩).symm⟩) | exact rd_arith rfl rfl (.inr (.inl ⟨rfl, (Go.IntWalk.i64_in _ ⟨by omega, by omega⟩).symm⟩)) | exact rd_fieldAddr (F.fo _ _ rfl rfl) rfl | exact rd_move rfl | exact rd_assign rfl | exact rd_load1 (F.ag _ rfl) rfl rfl (cell_box rfl) | exact rd_loadN (F.ag _ rfl) rfl rfl (cellsFrom_box _ 0 rfl rfl) | exact rd_extract rfl rfl | exact rd_lenSl (F.un _ rfl) rfl | exact rd_lenStr (F.un _ rfl) rfl | exact rd_nilCheck rfl | exact rd_pickT rfl rfl | exact rd_pickF rfl rfl), ?_⟩)); exact trivial), ?_⟩ | refine ⟨.inl (by kernel_rfl), ?_⟩)))
              (repeat (first | refine y_skip ?_ | refine y_condF rfl ?_))
              refine w_draw (by kernel_rfl) (by kernel_rfl) ?_
              (repeat (first | refine dw_move rfl rfl rfl ?_ | refine dw_sub rfl rfl rfl rfl (by omega) (by omega) ?_ | (refine dw_ldS (g := fun x : Nat => .int .u64 x) rfl rfl rfl (F.ag _ rfl) rfl (by first | omega | (simp only [Array.size_setIfInBounds, swp_size]; omega)) (by first | omega | (simp only [Array.size_setIfInBounds, swp_size]; omega)) ?_) | (refine dw_stS (g := fun x : Nat => .int .u64 x) rfl rfl rfl (fun _ => rfl) (F.sz _ rfl) rfl (by first | omega | (simp only [Array.size_setIfInBounds, swp_size]; omega)) (by first | omega | (simp only [Array.size_setIfInBounds, swp_size]; omega)) ?_) | refine dw_idxN (q := j) rfl rfl rfl rfl (F.un _ rfl) (F.sz _ rfl) rfl (by omega) (by omega) (by omega) ?_ | refine dw_idxN (q := j - 1) rfl rfl rfl rfl (F.un _ rfl) (F.sz _ rfl) rfl (by omega) (by omega) (by omega) ?_))
              (refine dk_nil ?_); (refine ⟨by kernel_rfl, ?_, ?_⟩); (focus (repeat (first | exact trivial | refine ⟨.inl rfl, ?_⟩ | refine ⟨.inr (by (repeat (refine ⟨(by first | exact rd_not rfl | exact rd_cmp rfl rfl (.inr (.inr (.inr (.inr (.inl ⟨rfl, rfl⟩))))) | exact rd_idxN (F.un _ rfl) (F.sz _ rfl) rfl rfl rfl (by omega) (by omega) (by omega) | exact rd_arith rfl rfl (.inl ⟨rfl, (Go.IntWalk.i64_in _ ⟨by omega, by omega⟩).symm⟩) | exact rd_arith rfl rfl (.inr (.inl ⟨rfl, (Go.IntWalk.i64_in _ ⟨by omega, by omega⟩).symm⟩)) | exact rd_fieldAddr (F.fo _ _ rfl rfl) rfl | exact rd_move rfl | exact rd_assign rfl | exact rd_load1 (F.ag _ rfl) rfl rfl (cell_box rfl) | exact rd_loadN (F.ag _ rfl) rfl rfl (cellsFrom_box _ 0 rfl rfl) | exact rd_extract rfl rfl | exact rd_lenSl (F.un _ rfl) rfl | exact rd_lenStr (F.un _ rfl) rfl | exact rd_nilCheck rfl | exact rd_pickT rfl rfl | exact rd_pickF rfl rfl), ?_⟩)); exact trivial), ?_⟩ | refine ⟨.inl (by kernel_rfl), ?_⟩)))
              (repeat (first | refine w_region ?_ | refine y_regEnd ?_ | refine y_inBlock ?_ | refine w_move rfl rfl rfl ?_ | refine w_assign rfl rfl rfl ?_ | refine w_add rfl rfl rfl rfl (by omega) (by omega) ?_))
              refine ihd _ _ _ (j + 1, Sort.swp d' j (j - 1)) [] ⟨by simp only; omega, by simp only; omega, by rw [swp_size]; exact hd', ?_⟩ (by simp only; omega) ?_
              · rw [← hsd]
                exact (oU_shiftUp_go (by omega) (by simpa [oUlt] using h5)).symm
              · (refine ⟨(ExtOk.of rfl), rfl, (by repeat (first | exact trivial | refine ⟨rfl, ?_⟩)), (by repeat (first | exact trivial | refine ⟨at_dat rfl, ?_⟩))⟩)
            · skip
              (refine dk_nil ?_); (refine ⟨by kernel_rfl, ?_, ?_⟩); (focus (repeat (first | exact trivial | refine ⟨.inl rfl, ?_⟩ | refine ⟨.inr (by (repeat (refine ⟨(by first | exact rd_not rfl | exact rd_cmp rfl rfl (.inr (.inr (.inr (.inr (.inl ⟨rfl, rfl⟩))))) | exact rd_idxN (F.un _ rfl) (F.sz _ rfl) rfl rfl rfl (by omega) (by omega) (by omega) | exact rd_arith rfl rfl (.inl ⟨rfl, (Go.IntWalk.i64_in _ ⟨by omega, by omega⟩).symm⟩) | exact rd_arith rfl rfl (.inr (.inl ⟨rfl, (Go.IntWalk.i64_in _ ⟨by omega, by omega⟩).symm⟩)) | exact rd_fieldAddr (F.fo _ _ rfl rfl) rfl | exact rd_move rfl | exact rd_assign rfl | exact rd_load1 (F.ag _ rfl) rfl rfl (cell_box rfl) | exact rd_loadN (F.ag _ rfl) rfl rfl (cellsFrom_box _ 0 rfl rfl) | exact rd_extract rfl rfl | exact rd_lenSl (F.un _ rfl) rfl | exact rd_lenStr (F.un _ rfl) rfl | exact rd_nilCheck rfl | exact rd_pickT rfl rfl | exact rd_pickF rfl rfl), ?_⟩)); exact trivial), ?_⟩ | refine ⟨.inl (by kernel_rfl), ?_⟩)))
              (repeat (first | (refine out _ _ _ d' [] ⟨hd', by rw [← hsd]; exact oU_shiftUp_stop (.inr (by simpa [oUlt] using h5))⟩ ?_; (refine ⟨(ExtOk.of rfl), rfl, (by repeat (first | exact trivial | refine ⟨rfl, ?_⟩)), (by repeat (first | exact trivial | refine ⟨at_dat rfl, ?_⟩))⟩)) | (first | refine y_exit rfl ?_ | refine y_condT rfl ?_)))
          · (repeat (first | (refine out _ _ _ d' [] ⟨hd', by rw [← hsd]; exact oU_shiftUp_stop (.inl (by omega))⟩ ?_; (refine ⟨(ExtOk.of rfl), rfl, (by repeat (first | exact trivial | refine ⟨rfl, ?_⟩)), (by repeat (first | exact trivial | refine ⟨at_dat rfl, ?_⟩))⟩)) | (first | refine y_regEnd ?_ | refine y_exit rfl ?_ | refine y_condF rfl ?_)))
        rintro d3 ⟨hd3, e3⟩
        (repeat (first | refine w_region ?_ | refine y_regEnd ?_ | refine y_inBlock ?_ | refine w_move rfl rfl rfl ?_ | refine w_assign rfl rfl rfl ?_ | refine w_add rfl rfl rfl rfl (by omega) (by omega) ?_))
        refine ih _ _ _ ((s, i1), d3) [] ⟨by simp only; omega, hai1, hi1, hd3, by rw [← ho]; exact (hps d3 (by rw [if_pos (by omega)]; exact e3)).symm⟩ (by simp only; omega) ?_
        (refine ⟨(ExtOk.of rfl), rfl, (by repeat (first | exact trivial | refine ⟨rfl, ?_⟩ | refine ⟨sl_eq (by first | omega | (simp only; omega)), ?_⟩)), (by repeat (first | exact trivial | refine ⟨at_dat rfl, ?_⟩))⟩)
      · (repeat (first | refine w_region ?_ | refine y_regEnd ?_ | refine y_inBlock ?_ | refine y_skip ?_ | refine y_condF rfl ?_ | refine w_move rfl rfl rfl ?_ | refine w_assign rfl rfl rfl ?_ | refine w_add rfl rfl rfl rfl (by omega) (by omega) ?_))
        refine ih _ _ _ ((s, i1), d1) [] ⟨by simp only; omega, hai1, hi1, hd2, by rw [← ho]; exact (hps d1 (by rw [if_neg (by omega)])).symm⟩ (by simp only; omega) ?_
        (refine ⟨(ExtOk.of rfl), rfl, (by repeat (first | exact trivial | refine ⟨rfl, ?_⟩ | refine ⟨sl_eq (by first | omega | (simp only; omega)), ?_⟩)), (by repeat (first | exact trivial | refine ⟨at_dat rfl, ?_⟩))⟩)
  · obtain rfl : s = 0 := by omega
    (repeat (first | refine y_seq ?_ | refine w_region ?_ | refine y_regEnd ?_ | refine y_exit rfl ?_ | refine y_condF rfl ?_ | refine w_assign rfl rfl rfl ?_))
    rw [← ho]
    ((apply w_ret Try.func64 (congrArg Array.toList Try.results64)); (focus (repeat (first | exact ResIs.nil | apply ResIs.tmp rfl))); refine ⟨_, rfl, Ends.mk [] (ExtOk.of rfl) rfl rfl ?_⟩)
    exact (by repeat (first | exact trivial | refine ⟨at_dat rfl, ?_⟩))
end Go.Proofs.Ytckajlllkmkniaa
end
section
namespace Go.Proofs.Ytckajlllkmkniaa
open Go Go.Sy Go.RowKit
def oU_brk (a len m : Nat) : Nat → UInt64 × Array (Nat) → Nat → UInt64 × Array (Nat)
  | 0, st, _ => st
  | k + 1, st, i => oU_brk a len m k (Sort.breakStep a len m st i) (i + 1)
set_option maxRecDepth 100000 in
set_option maxHeartbeats 0 in
theorem oU_brk_spec (n a b : Nat) (d : Array (Nat)) (hn : n < 65536) (hd : d.size = n) (hab : a ≤ b) (hb : b ≤ n) :
    Ctr Try.prog 61 [.slu 0 0 n, .sc (.int .i64 (a : Int)), .sc (.int .i64 (b : Int))] [oUrow n d] (fun c => c = ⟨.tup [], [some (oUrow n (Sort.breakPatterns d a b))]⟩) := by
  have eba : (b : Int) - (a : Int) = ((b - a : Nat) : Int) := by omega
  refine Fnc.start Try.func61 rfl rfl ?_
  (repeat (first | refine y_seq ?_ | refine w_region ?_ | refine y_regEnd ?_ | refine w_move rfl rfl rfl ?_ | refine w_assign rfl rfl rfl ?_ | refine w_sub rfl rfl rfl rfl (by omega) (by omega) ?_))
  rw [eba]
  have ebp : Sort.breakPatterns d a b = Sort.breakPatterns d a b := rfl
  conv at ebp => rhs; unfold Sort.breakPatterns
  simp only at ebp
  refine w_geqS rfl rfl rfl rfl ?_ ?_
  all_goals intro h1
  · rw [if_pos (by omega)] at ebp
    have ep : Sort.bitsLen (b - a) ≤ 16 := bits16 (by omega)
    have eq1 : (1 : Nat) <<< Sort.bitsLen (b - a) = 2 ^ Sort.bitsLen (b - a) := by rw [Nat.shiftLeft_eq, Nat.one_mul]
    have eq2 : 2 ^ Sort.bitsLen (b - a) ≤ 2 * (b - a) := Sort.two_pow_bitsLen_le (by omega)
    have eq3 : 0 < 2 ^ Sort.bitsLen (b - a) := Nat.pow_pos (by decide)
    (repeat (first | (first | refine y_seq ?_ | refine w_region ?_ | refine y_regEnd ?_ | refine y_block ?_ | refine y_condT rfl ?_ | refine w_move rfl rfl rfl ?_ | refine w_assign rfl rfl rfl ?_ | refine w_alloc rfl rfl (F.zl _ rfl) ?_ | refine w_store1 rfl rfl rfl (F.sz _ rfl) rfl rfl rfl ?_ | refine w_add rfl rfl rfl rfl (by omega) (by omega) ?_ | refine w_sub rfl rfl rfl rfl (by omega) (by omega) ?_ | refine w_mul rfl rfl rfl rfl (by omega) (by omega) ?_ | refine w_quo rfl rfl rfl rfl (by omega) (by omega) (by omega) ?_) | refine w_conv rfl rfl rfl (F.un _ rfl) (F.un _ rfl) (show _ = ((b - a : Nat) : Int) from Go.IntWalk.u64_in _ ⟨by omega, by omega⟩) ?_ | refine w_callV (pow2_spec (b - a) (by omega)) [] rfl rfl rfl (by kernel_rfl) rfl (ExtOk.of rfl) rfl trivial ?_))
    rw [eq1] at ebp
    generalize hm : 2 ^ Sort.bitsLen (b - a) = m at ebp eq2 eq3
    have e4 : (a : Int) + ((b - a : Nat) : Int) / 4 * 2 - 1 = ((a + (b - a) / 4 * 2 - 1 : Nat) : Int) := by omega
    rw [e4]
    have hbase : a + (b - a) / 4 * 2 - 1 + 3 ≤ b := by omega
    have hlt : 0 < a + (b - a) / 4 * 2 := by omega
    generalize hbs : a + (b - a) / 4 * 2 - 1 = base at ebp hbase
    have ht : Sort.breakPatterns d a b = (oU_brk a (b - a) m 3 (UInt64.ofNat (b - a), d) base).2 := ebp
    refine y_loopC 2 (fun s : (Nat × UInt64) × Array (Nat) => [(0, .slu 0 0 n), (1, .sc (.int .i64 (a : Int))), (6, .sc (.int .i64 ((b - a : Nat) : Int))), (7, .ptr 1 0), (8, .sc (.int .u64 (m : Int))), (9, .sc (.int .i64 ((base + 3 - s.1.1 : Nat) : Int)))]) (fun s => [some (oUrow n s.2), some (xsO s.1.2.toNat)]) (fun s => s.1.1 ≤ 3 ∧ s.2.size = n ∧ (oU_brk a (b - a) m s.1.1 (s.1.2, s.2) (base + 3 - s.1.1)).2 = Sort.breakPatterns d a b) (fun s => s.1.1) ((3, UInt64.ofNat (b - a)), d) [1]
      (fun _ => rfl) ⟨Nat.le_refl _, hd, by rw [ht]; rfl⟩ ?_ (fun _ => rfl) (fun _ => rfl) ?_
    · have e0 : (UInt64.ofNat (b - a)).toNat = b - a := by rw [UInt64.toNat_ofNat', Nat.mod_eq_of_lt (by omega)]
      rw [e0]
      (refine ⟨(ExtOk.of rfl), rfl, (by repeat (first | exact trivial | refine ⟨rfl, ?_⟩)), (by repeat (first | exact trivial | refine ⟨at_dat rfl, ?_⟩ | refine ⟨at_box rfl, ?_⟩))⟩)
    rintro ⟨⟨s, r⟩, d1⟩ ⟨hs, hd1, ho⟩ ih
    simp only at hs hd1 ho ih ⊢
    (repeat (first | refine y_seq ?_ | refine w_region ?_ | refine w_move rfl rfl rfl ?_ | refine w_add rfl rfl rfl rfl (by omega) (by omega) ?_ | refine w_mul rfl rfl rfl rfl (by omega) (by omega) ?_ | refine w_quo rfl rfl rfl rfl (by omega) (by omega) (by omega) ?_))
    refine w_leqS rfl rfl rfl rfl ?_ ?_
    all_goals intro h2
    · obtain ⟨s, rfl⟩ : ∃ s', s = s' + 1 := ⟨s - 1, by omega⟩
      have hr := UInt64.toNat_lt r
      have hnx := Sort.xorNextN_lt r.toNat hr
      have hxn := Sort.xorNext_toNat r
      have hst : Sort.breakStep a (b - a) m (r, d1) (base + 3 - (s + 1)) = (Sort.xorNext r, Sort.swp d1 (base + 3 - (s + 1)) (a + (if (Sort.xorNext r).toNat &&& (m - 1) ≥ b - a then ((Sort.xorNext r).toNat &&& (m - 1)) - (b - a) else (Sort.xorNext r).toNat &&& (m - 1)))) := rfl
      have ho' : (oU_brk a (b - a) m s (Sort.breakStep a (b - a) m (r, d1) (base + 3 - (s + 1))) (base + 3 - s)).2 = Sort.breakPatterns d a b := by
        rw [← ho, oU_brk, show base + 3 - (s + 1) + 1 = base + 3 - s by omega]
      rw [hst] at ho'
      rw [hxn] at ho'
      have hmw : IntKind.u64.wrap ((m : Int) - 1) = ((m - 1 : Nat) : Int) := by
        rw [Go.IntWalk.u64_in _ ⟨by omega, by omega⟩]
        omega
      have hand := andU (a := Sort.xorNextN r.toNat) (b := m - 1) hnx (by omega)
      have hle : Sort.xorNextN r.toNat &&& (m - 1) ≤ m - 1 := Nat.and_le_right
      generalize hoo : Sort.xorNextN r.toNat &&& (m - 1) = o at hand hle ho'
      (repeat (first | (first | refine y_seq ?_ | refine w_region ?_ | refine y_regEnd ?_ | refine y_block ?_ | refine y_skip ?_ | refine y_condT rfl ?_ | refine w_move rfl rfl rfl ?_) | refine w_callFn rfl rfl rfl (by kernel_rfl) (Ctr.callD (next_spec r.toNat hr) [1] rfl (ExtOk.of rfl) rfl (by repeat (first | exact trivial | refine ⟨at_box rfl, ?_⟩)) rfl (by repeat (first | exact trivial | refine ⟨closed_box (fun _ => rfl), ?_⟩)) (fun _ => rfl) rfl rfl) ?_))
      refine w_subW rfl rfl rfl rfl ?_
      rw [hmw]
      refine w_bitC rfl rfl rfl rfl (.inl rfl) hand ?_
      (repeat (first | (first | refine y_seq ?_ | refine w_region ?_ | refine y_regEnd ?_ | refine w_move rfl rfl rfl ?_ | refine w_assign rfl rfl rfl ?_) | refine w_conv rfl rfl rfl (F.un _ rfl) (F.un _ rfl) (show _ = (o : Int) from Go.IntWalk.i64_in _ ⟨by omega, by omega⟩) ?_))
      refine w_geqS rfl rfl rfl rfl ?_ ?_
      all_goals intro h3
      · rw [if_pos (by omega)] at ho'
        (repeat (first | refine w_region ?_ | refine y_regEnd ?_ | refine y_condT rfl ?_ | refine w_move rfl rfl rfl ?_ | refine w_assign rfl rfl rfl ?_ | refine w_sub rfl rfl rfl rfl (by omega) (by omega) ?_))
        refine w_draw (by kernel_rfl) (by kernel_rfl) ?_
        (repeat (first | refine dw_move rfl rfl rfl ?_ | refine dw_add rfl rfl rfl rfl (by omega) (by omega) ?_ | (refine dw_ldS (g := fun x : Nat => .int .u64 x) rfl rfl rfl (F.ag _ rfl) rfl (by first | omega | (simp only [Array.size_setIfInBounds, swp_size]; omega)) (by first | omega | (simp only [Array.size_setIfInBounds, swp_size]; omega)) ?_) | (refine dw_stS (g := fun x : Nat => .int .u64 x) rfl rfl rfl (fun _ => rfl) (F.sz _ rfl) rfl (by first | omega | (simp only [Array.size_setIfInBounds, swp_size]; omega)) (by first | omega | (simp only [Array.size_setIfInBounds, swp_size]; omega)) ?_) | refine dw_idxN (q := base + 3 - (s + 1)) rfl rfl rfl rfl (F.un _ rfl) (F.sz _ rfl) rfl (by omega) (by omega) (by omega) ?_ | refine dw_idxN (q := a + (o - (b - a))) rfl rfl rfl rfl (F.un _ rfl) (F.sz _ rfl) rfl (by omega) (by omega) (by omega) ?_))
        (refine dk_nil ?_); (refine ⟨by kernel_rfl, ?_, ?_⟩); (focus (repeat (first | exact trivial | refine ⟨.inl rfl, ?_⟩ | refine ⟨.inr (by (repeat (refine ⟨(by first | exact rd_not rfl | exact rd_cmp rfl rfl (.inr (.inr (.inr (.inr (.inl ⟨rfl, rfl⟩))))) | exact rd_idxN (F.un _ rfl) (F.sz _ rfl) rfl rfl rfl (by omega) (by omega) (by omega) | exact rd_arith rfl rfl (.inl ⟨rfl, (Go.IntWalk.i64_in _ ⟨by omega, by omega⟩).symm⟩) | exact rd_arith rfl rfl (.inr (.inl ⟨rfl, (Go.IntWalk.i64_in _ ⟨by omega, by omega⟩).symm⟩)) | exact rd_fieldAddr (F.fo _ _ rfl rfl) rfl | exact rd_move rfl | exact rd_assign rfl | exact rd_load1 (F.ag _ rfl) rfl rfl (cell_box rfl) | exact rd_loadN (F.ag _ rfl) rfl rfl (cellsFrom_box _ 0 rfl rfl) | exact rd_extract rfl rfl | exact rd_lenSl (F.un _ rfl) rfl | exact rd_lenStr (F.un _ rfl) rfl | exact rd_nilCheck rfl | exact rd_pickT rfl rfl | exact rd_pickF rfl rfl), ?_⟩)); exact trivial), ?_⟩ | refine ⟨.inl (by kernel_rfl), ?_⟩)))
        (repeat (first | refine w_region ?_ | refine y_regEnd ?_ | refine y_inBlock ?_ | refine w_move rfl rfl rfl ?_ | refine w_assign rfl rfl rfl ?_ | refine w_add rfl rfl rfl rfl (by omega) (by omega) ?_))
        refine ih _ _ _ ((s, Sort.xorNext r), Sort.swp d1 (base + 3 - (s + 1)) (a + (o - (b - a)))) [1] ⟨by simp only; omega, by rw [swp_size]; exact hd1, ho'⟩ (by simp only; omega) ?_
        rw [hxn]
        (refine ⟨(ExtOk.of rfl), rfl, (by repeat (first | exact trivial | refine ⟨rfl, ?_⟩ | refine ⟨sl_eq (by first | omega | (simp only; omega)), ?_⟩)), (by repeat (first | exact trivial | refine ⟨at_dat rfl, ?_⟩ | refine ⟨at_box rfl, ?_⟩))⟩)
      · rw [if_neg (by omega)] at ho'
        (repeat (first | refine y_regEnd ?_ | refine y_skip ?_ | refine y_condF rfl ?_))
        refine w_draw (by kernel_rfl) (by kernel_rfl) ?_
        (repeat (first | refine dw_move rfl rfl rfl ?_ | refine dw_add rfl rfl rfl rfl (by omega) (by omega) ?_ | (refine dw_ldS (g := fun x : Nat => .int .u64 x) rfl rfl rfl (F.ag _ rfl) rfl (by first | omega | (simp only [Array.size_setIfInBounds, swp_size]; omega)) (by first | omega | (simp only [Array.size_setIfInBounds, swp_size]; omega)) ?_) | (refine dw_stS (g := fun x : Nat => .int .u64 x) rfl rfl rfl (fun _ => rfl) (F.sz _ rfl) rfl (by first | omega | (simp only [Array.size_setIfInBounds, swp_size]; omega)) (by first | omega | (simp only [Array.size_setIfInBounds, swp_size]; omega)) ?_) | refine dw_idxN (q := base + 3 - (s + 1)) rfl rfl rfl rfl (F.un _ rfl) (F.sz _ rfl) rfl (by omega) (by omega) (by omega) ?_ | refine dw_idxN (q := a + o) rfl rfl rfl rfl (F.un _ rfl) (F.sz _ rfl) rfl (by omega) (by omega) (by omega) ?_))
        (refine dk_nil ?_); (refine ⟨by kernel_rfl, ?_, ?_⟩); (focus (repeat (first | exact trivial | refine ⟨.inl rfl, ?_⟩ | refine ⟨.inr (by (repeat (refine ⟨(by first | exact rd_not rfl | exact rd_cmp rfl rfl (.inr (.inr (.inr (.inr (.inl ⟨rfl, rfl⟩))))) | exact rd_idxN (F.un _ rfl) (F.sz _ rfl) rfl rfl rfl (by omega) (by omega) (by omega) | exact rd_arith rfl rfl (.inl ⟨rfl, (Go.IntWalk.i64_in _ ⟨by omega, by omega⟩).symm⟩) | exact rd_arith rfl rfl (.inr (.inl ⟨rfl, (Go.IntWalk.i64_in _ ⟨by omega, by omega⟩).symm⟩)) | exact rd_fieldAddr (F.fo _ _ rfl rfl) rfl | exact rd_move rfl | exact rd_assign rfl | exact rd_load1 (F.ag _ rfl) rfl rfl (cell_box rfl) | exact rd_loadN (F.ag _ rfl) rfl rfl (cellsFrom_box _ 0 rfl rfl) | exact rd_extract rfl rfl | exact rd_lenSl (F.un _ rfl) rfl | exact rd_lenStr (F.un _ rfl) rfl | exact rd_nilCheck rfl | exact rd_pickT rfl rfl | exact rd_pickF rfl rfl), ?_⟩)); exact trivial), ?_⟩ | refine ⟨.inl (by kernel_rfl), ?_⟩)))
        (repeat (first | refine w_region ?_ | refine y_regEnd ?_ | refine y_inBlock ?_ | refine w_move rfl rfl rfl ?_ | refine w_assign rfl rfl rfl ?_ | refine w_add rfl rfl rfl rfl (by omega) (by omega) ?_))
        refine ih _ _ _ ((s, Sort.xorNext r), Sort.swp d1 (base + 3 - (s + 1)) (a + o)) [1] ⟨by simp only; omega, by rw [swp_size]; exact hd1, ho'⟩ (by simp only; omega) ?_
        rw [hxn]
        (refine ⟨(ExtOk.of rfl), rfl, (by repeat (first | exact trivial | refine ⟨rfl, ?_⟩ | refine ⟨sl_eq (by first | omega | (simp only; omega)), ?_⟩)), (by repeat (first | exact trivial | refine ⟨at_dat rfl, ?_⟩ | refine ⟨at_box rfl, ?_⟩))⟩)
    · obtain rfl : s = 0 := by omega
      (repeat (first | refine y_regEnd ?_ | refine y_exit rfl ?_ | refine y_condF rfl ?_))
      ((apply w_end Try.func61 (congrArg Array.toList Try.results61)); (focus (repeat (exact ResIs.nil))); refine ⟨_, rfl, Ends.mk [] (ExtOk.of rfl) rfl rfl ?_⟩)
      rw [← ho]
      exact (by repeat (first | exact trivial | refine ⟨at_dat rfl, ?_⟩))
  · rw [if_neg (by omega)] at ebp
    (repeat (first | refine y_regEnd ?_ | refine y_skip ?_ | refine y_condF rfl ?_))
    ((apply w_end Try.func61 (congrArg Array.toList Try.results61)); (focus (repeat (exact ResIs.nil))); refine ⟨_, rfl, Ends.mk [] (ExtOk.of rfl) rfl rfl ?_⟩)
    rw [ebp]
    exact (by repeat (first | exact trivial | refine ⟨at_dat rfl, ?_⟩))
end Go.Proofs.Ytckajlllkmkniaa
end
section
namespace Go.Proofs.Ytckajlllkmkniaa
open Go Go.Sy Go.RowKit
abbrev oUAr := Array (Nat)
theorem oUswo : Sort.SWO oUlt where
  irrefl := fun a => by simp [oUlt]
  trans := fun a b c h h' => by
    simp only [oUlt, decide_eq_true_eq] at h h' ⊢
    omega
  ntrans := fun a b c h h' => by
    simp only [oUlt, decide_eq_false_iff_not] at h h' ⊢
    omega
theorem oU_pdq_ins {lt : Nat → Nat → Bool} {d : oUAr} {a b limit : Nat} {wb wp : Bool} (h : b - a ≤ 12) : Sort.pdq lt d a b limit wb wp = Sort.insertionSort lt d a b := by rw [Sort.pdq, if_pos h]
theorem oU_pdq_heap {lt : Nat → Nat → Bool} {d : oUAr} {a b limit : Nat} {wb wp : Bool} (h : ¬ b - a ≤ 12) (h0 : limit = 0) : Sort.pdq lt d a b limit wb wp = Sort.heapSort lt d a b := by rw [Sort.pdq, if_neg h, if_pos h0]
def oU_pdqTail (lt : Nat → Nat → Bool) (d3 : oUAr) (a b pivot limit : Nat) (wb wp : Bool) : oUAr :=
  if a > 0 && !lt d3[a - 1]! d3[pivot]! then
    match Sort.partitionEqual lt d3 a b pivot with
    | (mid, d4) => if _h : a < mid ∧ mid ≤ b then Sort.pdq lt d4 mid b limit wb wp else d4
  else
    match Sort.partition lt d3 a b pivot with
    | (mid, alreadyPartitioned, d4) =>
      if _h : a ≤ mid ∧ mid < b then
        if mid - a < b - mid then
          Sort.pdq lt (Sort.pdq lt d4 a mid limit true true) (mid + 1) b limit (decide (mid - a ≥ (b - a) / 8)) alreadyPartitioned
        else
          Sort.pdq lt (Sort.pdq lt d4 (mid + 1) b limit true true) a mid limit (decide (b - mid ≥ (b - a) / 8)) alreadyPartitioned
      else d4
theorem oU_pdq_go {lt : Nat → Nat → Bool} {d d1 d2 : oUAr} {a b limit limit1 pivot : Nat} {wb wp : Bool} {c : Nat × Sort.Hint} {hint : Sort.Hint} {pi : oUAr × Bool} (h : ¬ b - a ≤ 12) (h0 : ¬ limit = 0)
    (e1 : d1 = (if (!wb) = true then Sort.breakPatterns d a b else d)) (el : limit1 = (if (!wb) = true then limit - 1 else limit)) (ec : Sort.choosePivot lt d1 a b = c)
    (e2 : d2 = (if c.2 = .decreasing then Sort.reverseRange d1 a b else d1)) (ep : pivot = (if c.2 = .decreasing then (b - 1) - (c.1 - a) else c.1)) (eh : hint = (if c.2 = .decreasing then .increasing else c.2))
    (ei : (if (wb && wp && decide (hint = .increasing)) = true then Sort.partialInsertionSort lt d2 a b else (d2, false)) = pi) :
    Sort.pdq lt d a b limit wb wp = if pi.2 = true then pi.1 else oU_pdqTail lt pi.1 a b pivot limit1 wb wp := by
  subst e1 el ec e2 ep eh ei
  rw [Sort.pdq, if_neg h, if_neg h0]
  rfl
theorem oU_tail_eq {lt : Nat → Nat → Bool} {d3 d4 : oUAr} {a b pivot limit mid : Nat} {wb wp : Bool} (h : (decide (a > 0) && !lt d3[a - 1]! d3[pivot]!) = true) (hx : Sort.partitionEqual lt d3 a b pivot = (mid, d4)) (hm : a < mid ∧ mid ≤ b) :
    oU_pdqTail lt d3 a b pivot limit wb wp = Sort.pdq lt d4 mid b limit wb wp := by
  unfold oU_pdqTail
  rw [if_pos h, hx]
  simp only [dif_pos hm]
theorem oU_tail_left {lt : Nat → Nat → Bool} {d3 d4 : oUAr} {a b pivot limit mid : Nat} {wb wp ap : Bool} (h : ¬ (decide (a > 0) && !lt d3[a - 1]! d3[pivot]!) = true) (hx : Sort.partition lt d3 a b pivot = (mid, ap, d4)) (hm : a ≤ mid ∧ mid < b) (hl : mid - a < b - mid) :
    oU_pdqTail lt d3 a b pivot limit wb wp = Sort.pdq lt (Sort.pdq lt d4 a mid limit true true) (mid + 1) b limit (decide (mid - a ≥ (b - a) / 8)) ap := by
  unfold oU_pdqTail
  rw [if_neg h, hx]
  simp only [dif_pos hm, if_pos hl]
theorem oU_tail_right {lt : Nat → Nat → Bool} {d3 d4 : oUAr} {a b pivot limit mid : Nat} {wb wp ap : Bool} (h : ¬ (decide (a > 0) && !lt d3[a - 1]! d3[pivot]!) = true) (hx : Sort.partition lt d3 a b pivot = (mid, ap, d4)) (hm : a ≤ mid ∧ mid < b) (hl : ¬ mid - a < b - mid) :
    oU_pdqTail lt d3 a b pivot limit wb wp = Sort.pdq lt (Sort.pdq lt d4 (mid + 1) b limit true true) a mid limit (decide (b - mid ≥ (b - a) / 8)) ap := by
  unfold oU_pdqTail
  rw [if_neg h, hx]
  simp only [dif_pos hm, if_neg hl]
set_option maxRecDepth 100000 in
set_option maxHeartbeats 0 in
theorem oU_pdq_spec (n : Nat) (hn : n < 65536) : ∀ (k a b limit : Nat) (d : oUAr), b - a = k → a ≤ b → b ≤ n → d.size = n → limit < 4611686018427387904 → Sort.Below oUlt a b d →
    Ctr Try.prog 55 [.slu 0 0 n, .sc (.int .i64 (a : Int)), .sc (.int .i64 (b : Int)), .sc (.int .i64 (limit : Int))] [oUrow n d] (fun c => c = ⟨.tup [], [some (oUrow n (Sort.pdq oUlt d a b limit true true))]⟩) := by
  intro k
  induction k using Nat.strongRecOn with
  | _ k ihk =>
  intro a b limit d hk hab hb hd hl hB
  refine Fnc.start Try.func55 rfl rfl ?_
  (repeat (first | refine y_seq ?_ | refine w_region ?_ | refine y_regEnd ?_ | refine y_block ?_ | refine w_assign rfl rfl rfl ?_))
  refine y_loopC 1 (fun s : ((Nat × Nat) × Nat) × ((Bool × Bool) × oUAr) => [(0, .slu 0 0 n), (1, .sc (.int .i64 (s.1.1.1 : Int))), (2, .sc (.int .i64 (s.1.1.2 : Int))), (3, .sc (.int .i64 (s.1.2 : Int))), (8, .sc (.bool s.2.1.1)), (9, .sc (.bool s.2.1.2))]) (fun s => [some (oUrow n s.2.2)])
    (fun s => s.1.1.1 ≤ s.1.1.2 ∧ s.1.1.2 ≤ n ∧ s.1.1.2 - s.1.1.1 ≤ k ∧ s.2.2.size = n ∧ s.1.2 < 4611686018427387904 ∧ Sort.Below oUlt s.1.1.1 s.1.1.2 s.2.2 ∧ Sort.pdq oUlt s.2.2 s.1.1.1 s.1.1.2 s.1.2 s.2.1.1 s.2.1.2 = Sort.pdq oUlt d a b limit true true) (fun s => s.1.1.2 - s.1.1.1) (((a, b), limit), ((true, true), d)) []
    (fun _ => rfl) ⟨hab, hb, Nat.le_of_eq hk, hd, hl, hB, rfl⟩ ?_ (fun _ => rfl) (fun _ => rfl) ?_
  · (refine ⟨(ExtOk.of rfl), rfl, (by repeat (first | exact trivial | refine ⟨rfl, ?_⟩)), (by repeat (first | exact trivial | refine ⟨at_dat rfl, ?_⟩))⟩)
  rintro ⟨⟨⟨a1, b1⟩, l1⟩, ⟨⟨wb, wp⟩, d1⟩⟩ ⟨hab1, hb1, hk1, hd1, hl1, hB1, ho⟩ ih
  simp only at hab1 hb1 hk1 hd1 hl1 hB1 ho ih ⊢
  have eba : (b1 : Int) - (a1 : Int) = ((b1 - a1 : Nat) : Int) := by omega
  (repeat (first | refine y_seq ?_ | refine w_region ?_ | refine y_regEnd ?_ | refine y_block ?_ | refine w_move rfl rfl rfl ?_ | refine w_assign rfl rfl rfl ?_ | refine w_sub rfl rfl rfl rfl (by omega) (by omega) ?_))
  rw [eba]
  refine w_leqS rfl rfl rfl rfl ?_ ?_
  all_goals intro h1
  · rw [oU_pdq_ins (by omega)] at ho
    (repeat (first | (first | refine y_seq ?_ | refine w_region ?_ | refine y_regEnd ?_ | refine y_condT rfl ?_ | refine w_move rfl rfl rfl ?_) | refine w_callFn rfl rfl rfl (by kernel_rfl) (Ctr.callD (oUins n a1 b1 d1 (by omega) hd1 hab1 hb1) [0] rfl (ExtOk.of rfl) rfl (by repeat (first | exact trivial | refine ⟨at_dat rfl, ?_⟩)) rfl (by repeat (first | exact trivial | refine ⟨closed_dat, ?_⟩)) (fun _ => rfl) rfl rfl) ?_))
    ((apply w_ret Try.func55 (congrArg Array.toList Try.results55)); (focus (repeat (exact ResIs.nil))); refine ⟨_, rfl, Ends.mk [] (ExtOk.of rfl) rfl rfl ?_⟩)
    rw [← ho]
    exact (by repeat (first | exact trivial | refine ⟨at_dat rfl, ?_⟩))
  (repeat (first | refine y_seq ?_ | refine w_region ?_ | refine y_regEnd ?_ | refine y_skip ?_ | refine y_condF rfl ?_ | refine w_move rfl rfl rfl ?_))
  refine w_eqlS rfl rfl rfl rfl ?_ ?_
  all_goals intro h2
  · rw [oU_pdq_heap (by omega) (by omega)] at ho
    (repeat (first | (first | refine y_seq ?_ | refine w_region ?_ | refine y_regEnd ?_ | refine y_condT rfl ?_ | refine w_move rfl rfl rfl ?_) | refine w_callFn rfl rfl rfl (by kernel_rfl) (Ctr.callD (oU_heap_spec n a1 b1 d1 (by omega) hd1 hab1 hb1) [0] rfl (ExtOk.of rfl) rfl (by repeat (first | exact trivial | refine ⟨at_dat rfl, ?_⟩)) rfl (by repeat (first | exact trivial | refine ⟨closed_dat, ?_⟩)) (fun _ => rfl) rfl rfl) ?_))
    ((apply w_ret Try.func55 (congrArg Array.toList Try.results55)); (focus (repeat (exact ResIs.nil))); refine ⟨_, rfl, Ends.mk [] (ExtOk.of rfl) rfl rfl ?_⟩)
    rw [← ho]
    exact (by repeat (first | exact trivial | refine ⟨at_dat rfl, ?_⟩))
  (repeat (first | refine y_seq ?_ | refine w_region ?_ | refine y_regEnd ?_ | refine y_skip ?_ | refine y_condF rfl ?_ | refine w_move rfl rfl rfl ?_ | refine w_notB rfl rfl rfl ?_))
  refine y_ifC 1 (fun s : Nat × oUAr => [(0, .slu 0 0 n), (1, .sc (.int .i64 (a1 : Int))), (2, .sc (.int .i64 (b1 : Int))), (3, .sc (.int .i64 (s.1 : Int))), (8, .sc (.bool wb)), (9, .sc (.bool wp)), (10, .sc (.int .i64 ((b1 - a1 : Nat) : Int)))]) (fun s => [some (oUrow n s.2)])
    (fun s => s.1 = (if (!wb) = true then l1 - 1 else l1) ∧ s.2 = (if (!wb) = true then Sort.breakPatterns d1 a1 b1 else d1)) (fun _ => rfl) rfl (fun _ => rfl) (fun _ => rfl) ?_ ?_ ?_
  · intro hw out
    (repeat (first | (refine out _ _ _ (l1 - 1, Sort.breakPatterns d1 a1 b1) [] ⟨by rw [if_pos hw], by rw [if_pos hw]⟩ ?_; (refine ⟨(ExtOk.of rfl), rfl, (by repeat (first | exact trivial | refine ⟨rfl, ?_⟩ | refine ⟨sl_eq (by first | omega | (simp only; omega)), ?_⟩)), (by repeat (first | exact trivial | refine ⟨at_dat rfl, ?_⟩))⟩)) | (first | refine y_seq ?_ | refine w_region ?_ | refine y_regEnd ?_ | refine w_move rfl rfl rfl ?_ | refine w_assign rfl rfl rfl ?_ | refine w_sub rfl rfl rfl rfl (by omega) (by omega) ?_) | refine w_callFn rfl rfl rfl (by kernel_rfl) (Ctr.callD (oU_brk_spec n a1 b1 d1 hn hd1 hab1 hb1) [0] rfl (ExtOk.of rfl) rfl (by repeat (first | exact trivial | refine ⟨at_dat rfl, ?_⟩)) rfl (by repeat (first | exact trivial | refine ⟨closed_dat, ?_⟩)) (fun _ => rfl) rfl rfl) ?_))
  · intro hw out
    (repeat (first | (refine out _ _ _ (l1, d1) [] ⟨by rw [hw]; rfl, by rw [hw]; rfl⟩ ?_; (refine ⟨(ExtOk.of rfl), rfl, (by repeat (first | exact trivial | refine ⟨rfl, ?_⟩)), (by repeat (first | exact trivial | refine ⟨at_dat rfl, ?_⟩))⟩)) | (refine y_skip ?_)))
  rintro ⟨l2, d2⟩ ⟨el, ed⟩
  simp only at el ed ⊢
  have hl2 : l2 < 4611686018427387904 := by rw [el]; split <;> omega
  have hpd : Sort.PermIn a1 b1 d1 d2 := by
    rw [ed]
    split
    · exact Sort.breakPatterns_holds d1 a1 b1 hab1 (by omega)
    · exact Sort.permIn_refl d1 a1 b1
  have hd2 : d2.size = n := by rw [hpd.1]; exact hd1
  have hB2 : Sort.Below oUlt a1 b1 d2 := hB1.perm (by omega) hpd
  have hpv := oU_piv_spec n a1 b1 d2 (by omega) hd2 (by omega) hb1
  have hpr := Sort.choosePivot_holds oUlt d2 a1 b1 (by omega)
  have hgo := fun d3 pivot hint pi => oU_pdq_go (lt := oUlt) (d := d1) (d1 := d2) (d2 := d3) (a := a1) (b := b1) (limit := l1) (limit1 := l2) (pivot := pivot) (wb := wb) (wp := wp) (c := Sort.choosePivot oUlt d2 a1 b1) (hint := hint) (pi := pi) (by omega) (by omega) ed el rfl
  generalize Sort.choosePivot oUlt d2 a1 b1 = c at hpv hpr hgo
  obtain ⟨p, hint⟩ := c
  simp only at hpv hpr hgo
  (repeat (first | (first | refine y_seq ?_ | refine w_region ?_ | refine y_regEnd ?_ | refine w_move rfl rfl rfl ?_ | refine w_assign rfl rfl rfl ?_ | refine w_extract rfl rfl rfl rfl ?_) | refine w_callFn rfl rfl rfl (by kernel_rfl) (Ctr.callD (hpv) [0] rfl (ExtOk.of rfl) rfl (by repeat (first | exact trivial | refine ⟨at_dat rfl, ?_⟩)) rfl (by repeat (first | exact trivial | refine ⟨closed_dat, ?_⟩)) (fun _ => rfl) rfl rfl) ?_))
  refine w_eql rfl rfl rfl rfl ?_
  rw [hintI_dec]
  (repeat (refine y_regEnd ?_))
  refine y_ifC 1 (fun s : (Nat × Sort.Hint) × oUAr => [(0, .slu 0 0 n), (1, .sc (.int .i64 (a1 : Int))), (2, .sc (.int .i64 (b1 : Int))), (3, .sc (.int .i64 (l2 : Int))), (8, .sc (.bool wb)), (9, .sc (.bool wp)), (10, .sc (.int .i64 ((b1 - a1 : Nat) : Int))), (11, .sc (.int .i64 (s.1.1 : Int))), (12, .sc (.int .i64 (hintI s.1.2)))]) (fun s => [some (oUrow n s.2)])
    (fun s => s.2 = (if hint = .decreasing then Sort.reverseRange d2 a1 b1 else d2) ∧ s.1.1 = (if hint = .decreasing then (b1 - 1) - (p - a1) else p) ∧ s.1.2 = (if hint = .decreasing then .increasing else hint)) (fun _ => rfl) rfl (fun _ => rfl) (fun _ => rfl) ?_ ?_ ?_
  · intro hw out
    have hw := of_decide_eq_true hw
    (repeat (first | (refine out _ _ _ (((b1 - 1) - (p - a1), .increasing), Sort.reverseRange d2 a1 b1) [] ⟨by rw [if_pos hw], by rw [if_pos hw], by rw [if_pos hw]⟩ ?_; (refine ⟨(ExtOk.of rfl), rfl, (by repeat (first | exact trivial | refine ⟨rfl, ?_⟩ | refine ⟨sl_eq (by first | omega | (simp only; omega)), ?_⟩)), (by repeat (first | exact trivial | refine ⟨at_dat rfl, ?_⟩))⟩)) | (first | refine y_seq ?_ | refine w_region ?_ | refine y_regEnd ?_ | refine w_move rfl rfl rfl ?_ | refine w_assign rfl rfl rfl ?_ | refine w_sub rfl rfl rfl rfl (by omega) (by omega) ?_) | refine w_callFn rfl rfl rfl (by kernel_rfl) (Ctr.callD (oU_rev_spec n a1 b1 d2 (by omega) hd2 (by omega) hb1) [0] rfl (ExtOk.of rfl) rfl (by repeat (first | exact trivial | refine ⟨at_dat rfl, ?_⟩)) rfl (by repeat (first | exact trivial | refine ⟨closed_dat, ?_⟩)) (fun _ => rfl) rfl rfl) ?_))
  · intro hw out
    have hw := of_decide_eq_false hw
    (repeat (first | (refine out _ _ _ ((p, hint), d2) [] ⟨by rw [if_neg hw], by rw [if_neg hw], by rw [if_neg hw]⟩ ?_; (refine ⟨(ExtOk.of rfl), rfl, (by repeat (first | exact trivial | refine ⟨rfl, ?_⟩)), (by repeat (first | exact trivial | refine ⟨at_dat rfl, ?_⟩))⟩)) | (refine y_skip ?_)))
  rintro ⟨⟨pv, hint2⟩, d3⟩ ⟨ed3, epv, ehi⟩
  simp only at ed3 epv ehi ⊢
  have hpd3 : Sort.PermIn a1 b1 d2 d3 := by
    rw [ed3]
    split
    · exact Sort.reverseRange_holds d2 a1 b1 hab1 (by omega)
    · exact Sort.permIn_refl d2 a1 b1
  have hd3 : d3.size = n := by rw [hpd3.1]; exact hd2
  have hB3 : Sort.Below oUlt a1 b1 d3 := hB2.perm (by omega) hpd3
  have hpv1 : a1 ≤ pv ∧ pv < b1 := by rw [epv]; split <;> omega
  have hgo := fun pi => hgo d3 pv hint2 pi ed3 epv ehi
  (repeat refine y_seq ?_)
  refine y_itemC 1 (fun _ : Unit => [(0, .slu 0 0 n), (1, .sc (.int .i64 (a1 : Int))), (2, .sc (.int .i64 (b1 : Int))), (3, .sc (.int .i64 (l2 : Int))), (8, .sc (.bool wb)), (9, .sc (.bool wp)), (10, .sc (.int .i64 ((b1 - a1 : Nat) : Int))), (11, .sc (.int .i64 (pv : Int))), (68, .sc (.bool (wb && wp && decide (hint2 = .increasing))))]) (fun _ => [some (oUrow n d3)])
    (fun _ => True) (fun _ => rfl) (fun _ => rfl) (fun _ => rfl) ?_ ?_
  · intro out
    clear ih ihk ho hgo ehi ed el hpr hpv
    cases wb <;> cases wp <;> cases hint2 <;> (repeat (first | (refine out _ _ _ () [] trivial ?_; (refine ⟨(ExtOk.of rfl), rfl, (by repeat (first | exact trivial | refine ⟨rfl, ?_⟩)), (by repeat (first | exact trivial | refine ⟨at_dat rfl, ?_⟩))⟩)) | (first | refine w_region ?_ | refine y_regEnd ?_ | refine w_move rfl rfl rfl ?_ | refine w_pickT rfl rfl rfl rfl ?_ | refine w_pickF rfl rfl rfl rfl ?_ | refine w_not rfl ?_) | (refine w_eql rfl rfl rfl rfl ?_)))
  rintro _ -
  (repeat refine y_seq ?_)
  refine y_ifC 1 (fun d' : oUAr => [(0, .slu 0 0 n), (1, .sc (.int .i64 (a1 : Int))), (2, .sc (.int .i64 (b1 : Int))), (3, .sc (.int .i64 (l2 : Int))), (8, .sc (.bool wb)), (9, .sc (.bool wp)), (10, .sc (.int .i64 ((b1 - a1 : Nat) : Int))), (11, .sc (.int .i64 (pv : Int)))]) (fun d' => [some (oUrow n d')])
    (fun d' => d'.size = n ∧ Sort.Below oUlt a1 b1 d' ∧ Sort.pdq oUlt d1 a1 b1 l1 wb wp = oU_pdqTail oUlt d' a1 b1 pv l2 wb wp) (fun _ => rfl) rfl (fun _ => rfl) (fun _ => rfl) ?_ ?_ ?_
  · intro hw out
    have hps := oU_pins_spec n a1 b1 d3 (by omega) hd3 (by omega) hb1
    have hpp := (Sort.partialInsertionSort_holds oUswo d3 a1 b1 (by omega) (by omega) hB3).1
    have hgo := hgo _ (by rw [if_pos hw])
    generalize Sort.partialInsertionSort oUlt d3 a1 b1 = pi at hps hpp hgo
    obtain ⟨d4, done⟩ := pi
    simp only at hps hpp hgo
    cases done
    · rw [if_neg (by decide)] at hgo
      (repeat (first | (refine out _ _ _ d4 [] ⟨by rw [hpp.1]; exact hd3, hB3.perm (by omega) hpp, hgo⟩ ?_; (refine ⟨(ExtOk.of rfl), rfl, (by repeat (first | exact trivial | refine ⟨rfl, ?_⟩)), (by repeat (first | exact trivial | refine ⟨at_dat rfl, ?_⟩))⟩)) | (first | refine y_seq ?_ | refine w_region ?_ | refine y_regEnd ?_ | refine y_skip ?_ | refine y_condF rfl ?_ | refine w_move rfl rfl rfl ?_) | refine w_callFn rfl rfl rfl (by kernel_rfl) (Ctr.callD (hps) [0] rfl (ExtOk.of rfl) rfl (by repeat (first | exact trivial | refine ⟨at_dat rfl, ?_⟩)) rfl (by repeat (first | exact trivial | refine ⟨closed_dat, ?_⟩)) (fun _ => rfl) rfl rfl) ?_))
    · rw [if_pos rfl] at hgo
      (repeat (first | (first | refine y_seq ?_ | refine w_region ?_ | refine y_regEnd ?_ | refine y_condT rfl ?_ | refine w_move rfl rfl rfl ?_) | refine w_callFn rfl rfl rfl (by kernel_rfl) (Ctr.callD (hps) [0] rfl (ExtOk.of rfl) rfl (by repeat (first | exact trivial | refine ⟨at_dat rfl, ?_⟩)) rfl (by repeat (first | exact trivial | refine ⟨closed_dat, ?_⟩)) (fun _ => rfl) rfl rfl) ?_))
      ((apply w_ret Try.func55 (congrArg Array.toList Try.results55)); (focus (repeat (exact ResIs.nil))); refine ⟨_, rfl, Ends.mk [] (ExtOk.of rfl) rfl rfl ?_⟩)
      rw [← ho, hgo]
      exact (by repeat (first | exact trivial | refine ⟨at_dat rfl, ?_⟩))
  · intro hw out
    have hgo := hgo (d3, false) (by rw [hw]; rfl)
    (repeat (first | (refine out _ _ _ d3 [] ⟨hd3, hB3, by rw [hgo]; rfl⟩ ?_; (refine ⟨(ExtOk.of rfl), rfl, (by repeat (first | exact trivial | refine ⟨rfl, ?_⟩)), (by repeat (first | exact trivial | refine ⟨at_dat rfl, ?_⟩))⟩)) | (refine y_skip ?_)))
  rintro d4 ⟨hd4, hB4, hT⟩
  rw [hT] at ho
  clear hgo hT hB3 hd3 hpd3 hB2 hd2 hpd ed ed3 ehi epv el hpv
  have arm : ∀ t : Bool, (decide (a1 > 0) && !oUlt d4[a1 - 1]! d4[pv]!) = t → (decide (a1 > 0) && !oUlt d4[a1 - 1]! d4[pv]!) = t := fun _ h => h
  (repeat (refine y_seq ?_))
  refine y_itemC 1 (fun _ : Unit => [(0, .slu 0 0 n), (1, .sc (.int .i64 (a1 : Int))), (2, .sc (.int .i64 (b1 : Int))), (3, .sc (.int .i64 (l2 : Int))), (8, .sc (.bool wb)), (9, .sc (.bool wp)), (10, .sc (.int .i64 ((b1 - a1 : Nat) : Int))), (11, .sc (.int .i64 (pv : Int))), (87, .sc (.bool (decide (a1 > 0) && !oUlt d4[a1 - 1]! d4[pv]!)))]) (fun _ => [some (oUrow n d4)])
    (fun _ => True) (fun _ => rfl) (fun _ => rfl) (fun _ => rfl) ?_ ?_
  · intro out
    refine w_draw (by kernel_rfl) (by kernel_rfl) ?_
    (repeat (refine dw_move rfl rfl rfl ?_))
    refine dw_gtrS rfl rfl rfl rfl ?_ ?_
    all_goals intro h5
    · have hls_h6 := oUless (d4[a1 - 1]!) (d4[pv]!)
      cases h6 : oUlt (d4[a1 - 1]!) (d4[pv]!)
      all_goals rw [h6] at hls_h6
      rotate_left
      all_goals (repeat (first | refine dw_move rfl rfl rfl ?_ | refine dw_pickT rfl rfl rfl rfl ?_ | refine dw_sub rfl rfl rfl rfl (by omega) (by omega) ?_ | refine dw_notB rfl rfl rfl ?_ | (refine dw_ldS (g := fun x : Nat => .int .u64 x) rfl rfl rfl (F.ag _ rfl) rfl (by first | omega | (simp only [Array.size_setIfInBounds, swp_size]; omega)) (by first | omega | (simp only [Array.size_setIfInBounds, swp_size]; omega)) ?_) | refine dw_idxN (q := a1 - 1) rfl rfl rfl rfl (F.un _ rfl) (F.sz _ rfl) rfl (by omega) (by omega) (by omega) ?_ | refine dw_idxN (q := pv) rfl rfl rfl rfl (F.un _ rfl) (F.sz _ rfl) rfl (by omega) (by omega) (by omega) ?_ | refine dk_call rfl rfl rfl (by kernel_rfl) (Ctr.callV (hls_h6) [] rfl (ExtOk.of rfl) rfl trivial rfl) ?_))
      · skip
        (refine dk_nil ?_); (refine ⟨by kernel_rfl, ?_, ?_⟩); (focus (repeat (first | exact trivial | refine ⟨.inl rfl, ?_⟩ | refine ⟨.inr (by (repeat (refine ⟨(by first | exact rd_not rfl | exact rd_cmp rfl rfl (.inr (.inr (.inr (.inr (.inl ⟨rfl, rfl⟩))))) | exact rd_idxN (F.un _ rfl) (F.sz _ rfl) rfl rfl rfl (by omega) (by omega) (by omega) | exact rd_arith rfl rfl (.inl ⟨rfl, (Go.IntWalk.i64_in _ ⟨by omega, by omega⟩).symm⟩) | exact rd_arith rfl rfl (.inr (.inl ⟨rfl, (Go.IntWalk.i64_in _ ⟨by omega, by omega⟩).symm⟩)) | exact rd_fieldAddr (F.fo _ _ rfl rfl) rfl | exact rd_move rfl | exact rd_assign rfl | exact rd_load1 (F.ag _ rfl) rfl rfl (cell_box rfl) | exact rd_loadN (F.ag _ rfl) rfl rfl (cellsFrom_box _ 0 rfl rfl) | exact rd_extract rfl rfl | exact rd_lenSl (F.un _ rfl) rfl | exact rd_lenStr (F.un _ rfl) rfl | exact rd_nilCheck rfl | exact rd_pickT rfl rfl | exact rd_pickF rfl rfl), ?_⟩)); exact trivial), ?_⟩ | refine ⟨.inl (by kernel_rfl), ?_⟩)))
        have e5 : (decide (a1 > 0) && !oUlt d4[a1 - 1]! d4[pv]!) = false := by simp [h6]
        rw [e5] at out
        (repeat (refine out _ _ _ () [] trivial ?_; (refine ⟨(ExtOk.of rfl), rfl, (by repeat (first | exact trivial | refine ⟨rfl, ?_⟩)), (by repeat (first | exact trivial | refine ⟨at_dat rfl, ?_⟩))⟩)))
      · skip
        (refine dk_nil ?_); (refine ⟨by kernel_rfl, ?_, ?_⟩); (focus (repeat (first | exact trivial | refine ⟨.inl rfl, ?_⟩ | refine ⟨.inr (by (repeat (refine ⟨(by first | exact rd_not rfl | exact rd_cmp rfl rfl (.inr (.inr (.inr (.inr (.inl ⟨rfl, rfl⟩))))) | exact rd_idxN (F.un _ rfl) (F.sz _ rfl) rfl rfl rfl (by omega) (by omega) (by omega) | exact rd_arith rfl rfl (.inl ⟨rfl, (Go.IntWalk.i64_in _ ⟨by omega, by omega⟩).symm⟩) | exact rd_arith rfl rfl (.inr (.inl ⟨rfl, (Go.IntWalk.i64_in _ ⟨by omega, by omega⟩).symm⟩)) | exact rd_fieldAddr (F.fo _ _ rfl rfl) rfl | exact rd_move rfl | exact rd_assign rfl | exact rd_load1 (F.ag _ rfl) rfl rfl (cell_box rfl) | exact rd_loadN (F.ag _ rfl) rfl rfl (cellsFrom_box _ 0 rfl rfl) | exact rd_extract rfl rfl | exact rd_lenSl (F.un _ rfl) rfl | exact rd_lenStr (F.un _ rfl) rfl | exact rd_nilCheck rfl | exact rd_pickT rfl rfl | exact rd_pickF rfl rfl), ?_⟩)); exact trivial), ?_⟩ | refine ⟨.inl (by kernel_rfl), ?_⟩)))
        have e5 : (decide (a1 > 0) && !oUlt d4[a1 - 1]! d4[pv]!) = true := by
          have : 0 < a1 := by omega
          simp [this, h6]
        rw [e5] at out
        (repeat (refine out _ _ _ () [] trivial ?_; (refine ⟨(ExtOk.of rfl), rfl, (by repeat (first | exact trivial | refine ⟨rfl, ?_⟩)), (by repeat (first | exact trivial | refine ⟨at_dat rfl, ?_⟩))⟩)))
    · (repeat (first | refine dw_move rfl rfl rfl ?_ | refine dw_pickF rfl rfl rfl rfl ?_ | refine dk_skip rfl rfl ?_))
      (refine dk_nil ?_); (refine ⟨by kernel_rfl, ?_, ?_⟩); (focus (repeat (first | exact trivial | refine ⟨.inl rfl, ?_⟩)))
      have e5 : (decide (a1 > 0) && !oUlt d4[a1 - 1]! d4[pv]!) = false := by
        have : ¬ 0 < a1 := by omega
        simp [this]
      rw [e5] at out
      (repeat (refine out _ _ _ () [] trivial ?_; (refine ⟨(ExtOk.of rfl), rfl, (by repeat (first | exact trivial | refine ⟨rfl, ?_⟩)), (by repeat (first | exact trivial | refine ⟨at_dat rfl, ?_⟩))⟩)))
  rintro _ -
  cases h7 : (decide (a1 > 0) && !oUlt d4[a1 - 1]! d4[pv]!)
  · have hps := oU_part_spec n a1 b1 pv d4 (by omega) hd4 hpv1.1 hpv1.2 hb1
    obtain ⟨mid, ap, d5, hx⟩ : ∃ mid ap, ∃ d5, Sort.partition oUlt d4 a1 b1 pv = (mid, ap, d5) := ⟨_, _, _, rfl⟩
    obtain ⟨g1, g2, g3, g4, g5, g6, g7⟩ := Sort.round_part oUswo (Sort.partition_holds oUlt) hpv1.1 hpv1.2 (by omega) hB4 hx
    rw [hx] at hps
    simp only at hps
    have hd5 : d5.size = n := by rw [g3]; exact hd4
    (repeat (first | (first | refine y_seq ?_ | refine w_region ?_ | refine y_regEnd ?_ | refine y_skip ?_ | refine y_condF rfl ?_ | refine w_move rfl rfl rfl ?_ | refine w_assign rfl rfl rfl ?_ | refine w_extract rfl rfl rfl rfl ?_ | refine w_sub rfl rfl rfl rfl (by omega) (by omega) ?_ | refine w_quo rfl rfl rfl rfl (by omega) (by omega) (by omega) ?_) | refine w_callFn rfl rfl rfl (by kernel_rfl) (Ctr.callD (hps) [0] rfl (ExtOk.of rfl) rfl (by repeat (first | exact trivial | refine ⟨at_dat rfl, ?_⟩)) rfl (by repeat (first | exact trivial | refine ⟨closed_dat, ?_⟩)) (fun _ => rfl) rfl rfl) ?_))
    refine w_lssS rfl rfl rfl rfl ?_ ?_
    all_goals intro h8
    · rw [oU_tail_left (by rw [h7]; decide) hx ⟨g1, g2⟩ (by omega)] at ho
      have hrec := ihk (mid - a1) (by omega) a1 mid l2 d5 rfl g1 (by omega) hd5 hl2 g4
      have hL := Sort.pdq_sorts oUlt oUswo d5 a1 mid l2 true true g1 (by omega) g4
      have hB6 := (g6 _ hL.1 hL.2).1
      have hd6 : (Sort.pdq oUlt d5 a1 mid l2 true true).size = n := by rw [hL.1.1]; exact hd5
      generalize Sort.pdq oUlt d5 a1 mid l2 true true = d6 at hrec hB6 hd6 ho
      clear hL g6 g7 hps hpr
      (repeat (first | (first | refine y_seq ?_ | refine w_region ?_ | refine y_regEnd ?_ | refine y_inBlock ?_ | refine y_condT rfl ?_ | refine w_move rfl rfl rfl ?_ | refine w_assign rfl rfl rfl ?_ | refine w_add rfl rfl rfl rfl (by omega) (by omega) ?_) | refine w_callFn rfl rfl rfl (by kernel_rfl) (Ctr.callD (hrec) [0] rfl (ExtOk.of rfl) rfl (by repeat (first | exact trivial | refine ⟨at_dat rfl, ?_⟩)) rfl (by repeat (first | exact trivial | refine ⟨closed_dat, ?_⟩)) (fun _ => rfl) rfl rfl) ?_ | (refine w_geq rfl rfl rfl rfl ?_)))
      refine ih _ _ _ (((mid + 1, b1), l2), ((decide (mid - a1 ≥ (b1 - a1) / 8), ap), d6)) [] ⟨by simp only; omega, hb1, by simp only; omega, hd6, hl2, hB6, ho⟩ (by simp only; omega) ?_
      have eb : decide ((mid : Int) - (a1 : Int) ≥ ((b1 - a1 : Nat) : Int) / 8) = decide (mid - a1 ≥ (b1 - a1) / 8) := by
        rw [Bool.eq_iff_iff, decide_eq_true_eq, decide_eq_true_eq]
        omega
      rw [← eb]
      (refine ⟨(ExtOk.of rfl), rfl, (by repeat (first | exact trivial | refine ⟨rfl, ?_⟩)), (by repeat (first | exact trivial | refine ⟨at_dat rfl, ?_⟩))⟩)
    · rw [oU_tail_right (by rw [h7]; decide) hx ⟨g1, g2⟩ (by omega)] at ho
      have hrec := ihk (b1 - (mid + 1)) (by omega) (mid + 1) b1 l2 d5 rfl (by omega) hb1 hd5 hl2 g5
      have hL := Sort.pdq_sorts oUlt oUswo d5 (mid + 1) b1 l2 true true (by omega) (by omega) g5
      have hB6 := (g7 _ hL.1 hL.2).1
      have hd6 : (Sort.pdq oUlt d5 (mid + 1) b1 l2 true true).size = n := by rw [hL.1.1]; exact hd5
      generalize Sort.pdq oUlt d5 (mid + 1) b1 l2 true true = d6 at hrec hB6 hd6 ho
      clear hL g6 g7 hps hpr
      have emid : ((mid : Int) + 1) = ((mid + 1 : Nat) : Int) := by omega
      (repeat (first | (first | refine y_seq ?_ | refine w_region ?_ | refine y_regEnd ?_ | refine y_condF rfl ?_ | refine w_move rfl rfl rfl ?_ | refine w_assign rfl rfl rfl ?_ | refine w_add rfl rfl rfl rfl (by omega) (by omega) ?_) | (refine w_geq rfl rfl rfl rfl ?_)))
      rw [emid]
      (repeat (first | (first | refine w_region ?_ | refine y_regEnd ?_ | refine y_inBlock ?_ | refine w_move rfl rfl rfl ?_ | refine w_assign rfl rfl rfl ?_) | refine w_callFn rfl rfl rfl (by kernel_rfl) (Ctr.callD (hrec) [0] rfl (ExtOk.of rfl) rfl (by repeat (first | exact trivial | refine ⟨at_dat rfl, ?_⟩)) rfl (by repeat (first | exact trivial | refine ⟨closed_dat, ?_⟩)) (fun _ => rfl) rfl rfl) ?_))
      refine ih _ _ _ (((a1, mid), l2), ((decide (b1 - mid ≥ (b1 - a1) / 8), ap), d6)) [] ⟨g1, by simp only; omega, by simp only; omega, hd6, hl2, hB6, ho⟩ (by simp only; omega) ?_
      have eb : decide ((b1 : Int) - (mid : Int) ≥ ((b1 - a1 : Nat) : Int) / 8) = decide (b1 - mid ≥ (b1 - a1) / 8) := by
        rw [Bool.eq_iff_iff, decide_eq_true_eq, decide_eq_true_eq]
        omega
      rw [← eb]
      (refine ⟨(ExtOk.of rfl), rfl, (by repeat (first | exact trivial | refine ⟨rfl, ?_⟩)), (by repeat (first | exact trivial | refine ⟨at_dat rfl, ?_⟩))⟩)
  · have h7' := h7
    rw [Bool.and_eq_true, decide_eq_true_eq, Bool.not_eq_true'] at h7'
    have hps := oU_partEq_spec n a1 b1 pv d4 (by omega) hd4 hpv1.1 hpv1.2 hb1
    obtain ⟨mid, d5, hx⟩ : ∃ mid, ∃ d5, Sort.partitionEqual oUlt d4 a1 b1 pv = (mid, d5) := ⟨_, _, rfl⟩
    obtain ⟨g1, g2, g3, g4, _⟩ := Sort.round_eq oUswo (Sort.partitionEqual_holds oUlt) h7'.1 hpv1.1 hpv1.2 (by omega) hB4 h7'.2 hx
    rw [hx] at hps
    simp only at hps
    rw [oU_tail_eq h7 hx ⟨g1, g2⟩] at ho
    (repeat (first | (first | refine y_seq ?_ | refine w_region ?_ | refine y_regEnd ?_ | refine y_exit rfl ?_ | refine y_condT rfl ?_ | refine w_move rfl rfl rfl ?_ | refine w_assign rfl rfl rfl ?_) | refine w_callFn rfl rfl rfl (by kernel_rfl) (Ctr.callD (hps) [0] rfl (ExtOk.of rfl) rfl (by repeat (first | exact trivial | refine ⟨at_dat rfl, ?_⟩)) rfl (by repeat (first | exact trivial | refine ⟨closed_dat, ?_⟩)) (fun _ => rfl) rfl rfl) ?_))
    refine ih _ _ _ (((mid, b1), l2), ((wb, wp), d5)) [] ⟨g2, hb1, by simp only; omega, by rw [g3]; exact hd4, hl2, g4, ho⟩ (by simp only; omega) ?_
    (refine ⟨(ExtOk.of rfl), rfl, (by repeat (first | exact trivial | refine ⟨rfl, ?_⟩)), (by repeat (first | exact trivial | refine ⟨at_dat rfl, ?_⟩))⟩)
end Go.Proofs.Ytckajlllkmkniaa
end
section
namespace Go.Proofs.Ytckajlllkmkniaa
theorem nodup_len {A : Type} : ∀ (l m : List A), l.Nodup → (∀ x ∈ l, x ∈ m) → l.length ≤ m.length
  | [], m, _, _ => Nat.zero_le _
  | x :: l, m, hn, hs => by
    obtain ⟨a, b, rfl⟩ := List.append_of_mem (hs x (by simp))
    rw [List.nodup_cons] at hn
    have := nodup_len l (a ++ b) hn.2 fun y hy => by
      have := hs y (List.mem_cons_of_mem _ hy)
      rcases List.mem_append.1 this with h | h
      · exact List.mem_append_left _ h
      · rcases List.mem_cons.1 h with rfl | h
        · exact absurd hy hn.1
        · exact List.mem_append_right _ h
    simp only [List.length_cons, List.length_append] at this ⊢
    omega
end Go.Proofs.Ytckajlllkmkniaa
end
section
namespace Go.Proofs.Ytckajlllkmkniaa
open Go Go.Sy Go.Sl Go.RowKit
abbrev collU_f : Nat → List Value := fun x : Nat => [.int .u64 x]
theorem collU_rec : RecOf collU_f 1 := recOne (fun _ => rfl)
abbrev collU_row (ro : Bool) (l : List Nat) : VO := dat ro l.length 1 23 (l.flatMap collU_f)
set_option maxRecDepth 100000 in
theorem collU_keys {V : Type} (val : V → SV) (m : List (Nat × V × Nat)) (c : Nat) {H : Heap} {nx b : Nat} : Fnc Try.prog 39 [.mp b] H nx
    (fun r => r = (.fn (.func 50) [] [.ptr nx 0], H.set nx (newCells 65 [.mp b]), nx + 1)) := by
  refine Fnc.start Try.func39 rfl rfl ?_
  (repeat (first | refine y_seq ?_ | refine w_region ?_ | refine y_regEnd ?_ | refine w_assign rfl rfl rfl ?_ | refine w_makeFunc rfl rfl rfl rfl ?_ | refine w_box rfl rfl rfl rfl ?_))
  apply w_ret Try.func39 (congrArg Array.toList Try.results39)
  · (repeat (first | exact ResIs.nil | apply ResIs.tmp rfl))
  rfl
set_option maxRecDepth 100000 in
set_option maxHeartbeats 0 in
theorem collU {V : Type} (val : V → SV) (m : List (Nat × V × Nat)) (c : Nat) (hok : KOk m c) (hl : m.length < 1000000) {H : Heap} {nx bx b : Nat} (hbx : H.at' bx = some (newCells 65 [.mp b])) (hb : H.at' b = some (mapV (fun x : Nat => .int .u64 x) val m c)) (g1 : bx < nx) (g2 : b < nx) :
    Fnc Try.prog 48 [.fn (.func 50) [] [.ptr bx 0]] H nx
      (fun r => ∃ (done : List (Nat × V × Nat)) (nm : Nat), done.Perm m ∧ r.1 = .slu nm 0 (done.map (·.1)).length ∧ nx ≤ nm ∧ nm < r.2.2 ∧ r.2.1.at' nm = some (collU_row false (done.map (·.1))) ∧ ∀ n, n < nx → r.2.1.at' n = H.at' n) := by
  refine Fnc.start Try.func48 rfl rfl ?_
  (repeat (first | refine y_seq ?_ | refine w_region ?_ | refine y_regEnd ?_ | refine w_move rfl rfl rfl ?_ | refine w_assign rfl rfl rfl ?_))
  refine w_call rfl rfl rfl (by kernel_rfl) ?_
  refine Fnc.start Try.func54 rfl rfl ?_
  refine y_nilRow (d := 0) 1 23 rfl rfl ?_
  (repeat (first | refine y_seq ?_ | refine w_region ?_ | refine y_regEnd ?_ | refine y_block ?_ | refine w_move rfl rfl rfl ?_ | refine w_assign rfl rfl rfl ?_ | refine w_box rfl rfl rfl rfl ?_))
  refine y_rangeFunc [(2, .ptr (nx + 1) 0)] rfl rfl (by kernel_rfl) (SlIn.sub ⟨rfl, trivial⟩) ?_
  intro cA cB hcA hcB
  refine Fnc.start Try.func50 rfl rfl ?_
  (repeat (first | (first | refine y_seq ?_ | refine w_region ?_ | refine y_regEnd ?_ | refine y_block ?_ | refine w_loadB1 rfl rfl rfl (F.ag _ rfl) (by (focus ((repeat (refine (Tr.at_set_other _ _ (by omega)).trans ?_)); first | exact Tr.at_set_same _ _ _ | assumption))) (by exact rfl) ?_) | (refine w_range (b := b) (m := m) (c := c) (enc := fun x : Nat => .int .u64 x) (val := val) rfl rfl rfl (F.un _ rfl) (by (focus ((repeat (refine (Tr.at_set_other _ _ (by omega)).trans ?_)); first | exact Tr.at_set_same _ _ _ | assumption))) ?_)))
  refine y_loopT (α := List (Nat × V × Nat)) (fun _ => [(0, .yld (nx + 1 + 1 + 1)), (1, .ptr bx 0), (5, .ptr (nx + 1 + 1 + 1 + 1) 0)]) (fun done H1 nx1 => (done.Nodup ∧ ∀ x ∈ done, x ∈ m) ∧ nx + 1 + 1 + 1 + 1 + 1 ≤ nx1 ∧ (∀ n, n < nx → H1.at' n = H.at' n) ∧ H1.at' (nx + 1 + 1) = some (.dfd (some [])) ∧ H1.at' (nx + 1 + 1 + 1) = some (.loop .ready none 54 13 (slT [(2, .ptr (nx + 1) 0)]) #[7] cA cB (nx + 1 + 1))
      ∧ H1.at' (nx + 1 + 1 + 1 + 1) = some (itV b c done) ∧ ∃ r, r < nx1 ∧ (r = nx ∨ nx + 1 + 1 + 1 + 1 + 1 ≤ r) ∧ H1.at' (nx + 1) = some (newCells 28 [.slu r 0 (done.map (·.1)).length]) ∧ H1.at' r = some (collU_row false (done.map (·.1)))) (fun done => m.length - done.length) []
    ⟨⟨List.nodup_nil, fun _ h => by cases h⟩, Nat.le_refl _, fun n hn => by (focus ((repeat (refine (Tr.at_set_other _ _ (by omega)).trans ?_)); exact rfl)), by (focus ((repeat (refine (Tr.at_set_other _ _ (by omega)).trans ?_)); first | exact Tr.at_set_same _ _ _ | assumption)), by (focus ((repeat (refine (Tr.at_set_other _ _ (by omega)).trans ?_)); first | exact Tr.at_set_same _ _ _ | assumption)), by (focus (skip; first | exact Tr.at_set_same _ _ _ | assumption)), nx, by omega, .inl rfl, by (focus ((repeat (refine (Tr.at_set_other _ _ (by omega)).trans ?_)); first | exact Tr.at_set_same _ _ _ | assumption)), by (focus ((repeat (refine (Tr.at_set_other _ _ (by omega)).trans ?_)); first | exact Tr.at_set_same _ _ _ | assumption))⟩ (SlIn.sub ⟨rfl, rfl, rfl, trivial⟩) ?_
  rintro done H1 nx1 ⟨hdn, hnx, hold, h4, h5, h6, r, hr, hr2, h3, hrow⟩ ih
  have hlen := nodup_len done m hdn.1 hdn.2
  have hb1 : H1.at' b = some (mapV (fun x : Nat => .int .u64 x) val m c) := (hold b g2).trans hb
  have hbx1 : H1.at' bx = some (newCells 65 [.mp b]) := (hold bx g1).trans hbx
  (repeat (first | refine y_seq ?_ | refine w_region ?_))
  refine w_next (b := b) (m := m) (c := c) (enc := fun x : Nat => .int .u64 x) (val := val) (done := done) rfl rfl rfl ?_ ?_ hok hdn ?_ ?_
  · (focus (skip; first | exact Tr.at_set_same _ _ _ | assumption))
  · (focus (skip; first | exact Tr.at_set_same _ _ _ | assumption))
  · intro hp
    (repeat (first | refine y_seq ?_ | refine y_regEnd ?_ | refine y_exit rfl ?_ | refine y_condF rfl ?_ | refine w_extractV rfl rfl rfl rfl ?_))
    apply w_end Try.func50 (congrArg Array.toList Try.results50) ResIs.nil
    dsimp only
    refine y_endRange h5 (fun h => by cases h) ?_
    (repeat (first | refine y_seq ?_ | refine w_region ?_ | refine y_regEnd ?_ | refine y_inBlock ?_ | refine w_assign rfl rfl rfl ?_ | refine w_loadB1 rfl rfl rfl (F.ag _ rfl) (by (focus ((repeat (refine (Tr.at_set_other _ _ (by omega)).trans ?_)); first | exact Tr.at_set_same _ _ _ | assumption))) (by exact rfl) ?_))
    refine y_retT Try.func54 (congrArg Array.toList Try.results54) (rs := [nx + 1 + 1]) rfl (fun r hr => by rw [List.mem_singleton] at hr; subst hr; (focus ((repeat (refine (Tr.at_set_other _ _ (by omega)).trans ?_)); first | exact Tr.at_set_same _ _ _ | assumption))) (by simp) ?_
    intro H2 hH2
    refine ⟨_, (by (repeat (first | exact ResIs.nil | apply ResIs.tmp rfl))), ?_⟩
    dsimp only
    (repeat (first | refine y_regEnd ?_ | refine w_assign rfl rfl rfl ?_))
    apply w_ret Try.func48 (congrArg Array.toList Try.results48)
    · (repeat (first | exact ResIs.nil | apply ResIs.tmp rfl))
    refine ⟨done, r, hp, rfl, by omega, hr, ?_, fun n hn => ?_⟩
    · exact (hH2 r (by simp; omega)).trans (by (focus ((repeat (refine (Tr.at_set_other _ _ (by omega)).trans ?_)); first | exact Tr.at_set_same _ _ _ | assumption)))
    · refine (hH2 n (by simp; omega)).trans ((Tr.at_set_other _ _ (by omega)).trans (hold n hn))
  · intro x hx hxn hdn2
    have hlm : (done.map (·.1)).length = done.length := List.length_map ..
    have hlen2 := nodup_len _ m hdn2.1 hdn2.2
    rw [List.length_append, List.length_singleton] at hlen2
    (repeat (first | (first | refine y_seq ?_ | refine w_region ?_ | refine y_regEnd ?_ | refine y_block ?_ | refine y_skip ?_ | refine y_condT rfl ?_ | refine w_move rfl rfl rfl ?_ | refine w_assign rfl rfl rfl ?_ | refine w_extract rfl rfl rfl rfl ?_) | (refine w_entry (b := b) (m := m) (c := c) (enc := fun x : Nat => .int .u64 x) (val := val) (x := x) (done := done) rfl rfl rfl ?_ ?_ hok hx ?_; (focus (skip; first | exact Tr.at_set_same _ _ _ | assumption)); (focus ((repeat (refine (Tr.at_set_other _ _ (by omega)).trans ?_)); first | exact Tr.at_set_same _ _ _ | assumption)))))
    refine w_round (n := nx + 1 + 1 + 1) rfl rfl rfl rfl (by (focus ((repeat (refine (Tr.at_set_other _ _ (by omega)).trans ?_)); first | exact Tr.at_set_same _ _ _ | assumption))) (by exact rfl) ?_
    refine y_cast hcA ?_
    (repeat (first | refine w_region ?_ | refine y_regEnd ?_ | refine w_assign rfl rfl rfl ?_))
    refine y_begin (by (focus ((repeat (refine (Tr.at_set_other _ _ (by omega)).trans ?_)); first | exact Tr.at_set_same _ _ _ | assumption))) ?_
    refine y_cast hcB ?_
    (repeat (first | (first | refine w_region ?_ | refine y_block ?_ | refine w_move rfl rfl rfl ?_ | refine w_loadB1 rfl rfl rfl (F.ag _ rfl) (by (focus ((repeat (refine (Tr.at_set_other _ _ (by omega)).trans ?_)); first | exact Tr.at_set_same _ _ _ | assumption))) (by exact rfl) ?_) | refine w_buildSlice rfl rfl (F.un _ rfl) (F.sz _ rfl) rfl (F.ze _ rfl) rfl rfl rfl rfl rfl ?_))
    refine w_push (b := 8) (xs := done.map (·.1)) (a := x.1) rfl rfl rfl rfl (F.un _ rfl) (.inl ⟨_, F.un _ rfl⟩) (F.sz _ rfl) rfl (by kernel_rfl) (by kernel_rfl) (by (focus ((repeat (refine (Tr.at_set_other _ _ (by omega)).trans ?_)); first | exact Tr.at_set_same _ _ _ | assumption))) (by (focus (skip; first | exact Tr.at_set_same _ _ _ | assumption))) (by exact rfl) (collU_rec) (by omega) (by omega) ?_
    (repeat (first | refine y_regEnd ?_ | refine y_inBlock ?_ | refine w_storeC rfl rfl rfl rfl (F.sz _ rfl) (by first | exact rfl | (focus ((repeat (first | refine (Tr.at_set_other _ _ (by omega)).trans ?_ | refine (Tr.at_del_other _ (by omega)).trans ?_)); first | exact Tr.at_set_same _ _ _ | assumption))) rfl (by exact Nat.le_of_ble_eq_true rfl) rfl ?_))
    refine y_roundEnd (by (focus ((repeat (first | refine (Tr.at_set_other _ _ (by omega)).trans ?_ | refine (Tr.at_del_other _ (by omega)).trans ?_)); first | exact Tr.at_set_same _ _ _ | assumption))) ?_
    dsimp only
    (repeat (first | refine y_regEnd ?_ | refine y_inBlock ?_ | refine y_skip ?_ | refine y_condF rfl ?_ | refine w_notB rfl rfl rfl ?_))
    have e : done.map (·.1) ++ [x.1] = (done ++ [x]).map (·.1) := by simp
    refine ih _ _ _ (done ++ [x]) ⟨hdn2, by omega, fun n hn => ?_, by (focus ((repeat (first | refine (Tr.at_set_other _ _ (by omega)).trans ?_ | refine (Tr.at_del_other _ (by omega)).trans ?_)); first | exact Tr.at_set_same _ _ _ | assumption)), by (focus (skip; first | exact Tr.at_set_same _ _ _ | assumption)), by (focus ((repeat (first | refine (Tr.at_set_other _ _ (by omega)).trans ?_ | refine (Tr.at_del_other _ (by omega)).trans ?_)); first | exact Tr.at_set_same _ _ _ | assumption)), nx1 + 1, by omega, .inr (by omega), ?_, ?_⟩ (by simp only [List.length_append, List.length_singleton]; omega) (SlIn.sub ⟨rfl, rfl, rfl, trivial⟩)
    · (focus ((repeat (first | refine (Tr.at_set_other _ _ (by omega)).trans ?_ | refine (Tr.at_del_other _ (by omega)).trans ?_)); exact hold n hn))
    · rw [← e]
      (focus ((repeat (refine (Tr.at_set_other _ _ (by omega)).trans ?_)); first | exact Tr.at_set_same _ _ _ | assumption))
    · rw [← e]
      (focus ((repeat (refine (Tr.at_set_other _ _ (by omega)).trans ?_)); first | exact Tr.at_set_same _ _ _ | assumption))
end Go.Proofs.Ytckajlllkmkniaa
end
section
namespace Go.Proofs.Ytckajlllkmkniaa
open Go Go.Sy Go.Sl Go.RowKit
def sortU (l : List Nat) : List Nat := (Sort.sort oUlt l.toArray).toList
theorem sortU_facts (l : List Nat) : (sortU l).Perm l ∧ (sortU l).Pairwise (fun x y => x ≤ y) := by
  obtain ⟨⟨h1, h2, h3⟩, h4⟩ := Sort.sort_sorts oUlt oUswo l.toArray
  have hsz : (Sort.sort oUlt l.toArray).size = l.length := by simpa using h1
  constructor
  · have e1 : ((Sort.sort oUlt l.toArray).extract 0 l.toArray.size) = Sort.sort oUlt l.toArray := by
      rw [show l.toArray.size = (Sort.sort oUlt l.toArray).size by simpa using h1.symm]
      exact Array.extract_size
    have e2 : (l.toArray.extract 0 l.toArray.size) = l.toArray := Array.extract_size
    rw [e1, e2] at h3
    exact h3
  · rw [List.pairwise_iff_getElem]
    intro i j hi hj hij
    have hi' : i < (Sort.sort oUlt l.toArray).size := hi
    have hj' : j < (Sort.sort oUlt l.toArray).size := hj
    have := h4 i j (Nat.zero_le _) hij (by simp; omega)
    rw [getElem!_pos _ i hi', getElem!_pos _ j hj'] at this
    simp only [sortU, Array.getElem_toList]
    simp only [oUlt, decide_eq_false_iff_not] at this
    omega
theorem sortU_perm {l l' : List Nat} (h : l.Perm l') : sortU l = sortU l' := by
  obtain ⟨a1, a2⟩ := sortU_facts l
  obtain ⟨b1, b2⟩ := sortU_facts l'
  exact List.Perm.eq_of_pairwise (le := fun x y => x ≤ y) (fun a b _ _ h1 h2 => Nat.le_antisymm h1 h2) a2 b2 (a1.trans (h.trans b1.symm))
theorem sortU_length (l : List Nat) : (sortU l).length = l.length := (sortU_facts l).1.length_eq
set_option maxRecDepth 100000 in
set_option maxHeartbeats 0 in
theorem sort_u (n : Nat) (d : Array Nat) (hn : n < 65536) (hd : d.size = n) :
    Ctr Try.prog 49 [.slu 0 0 n] [oUrow n d] (fun c => c = ⟨.tup [], [some (oUrow n (Sort.sort oUlt d))]⟩) := by
  have h16 := bits16 hn
  refine Fnc.start Try.func49 rfl rfl ?_
  have hp := oU_pdq_spec n hn n 0 n (Sort.bitsLen n) d rfl (Nat.zero_le _) (Nat.le_refl _) hd (by omega) (.inl rfl)
  have hs : Sort.pdq oUlt d 0 n (Sort.bitsLen n) true true = Sort.sort oUlt d := by unfold Sort.sort; rw [hd]
  rw [hs] at hp
  (repeat (first | (first | refine y_seq ?_ | refine w_region ?_ | refine y_regEnd ?_ | refine w_move rfl rfl rfl ?_ | refine w_assign rfl rfl rfl ?_ | refine w_lenSl rfl rfl rfl (F.un _ rfl) ?_) | refine w_conv rfl rfl rfl (F.un _ rfl) (F.un _ rfl) (show _ = (n : Int) from Go.IntWalk.u64_in _ ⟨by omega, by omega⟩) ?_ | refine w_callV (len_spec n hn) [] rfl rfl rfl (by kernel_rfl) rfl (ExtOk.of rfl) rfl trivial ?_ | refine w_callFn rfl rfl rfl (by kernel_rfl) (Ctr.callD (hp) [0] rfl (ExtOk.of rfl) rfl (by repeat (first | exact trivial | refine ⟨at_dat rfl, ?_⟩)) rfl (by repeat (first | exact trivial | refine ⟨closed_dat, ?_⟩)) (fun _ => rfl) rfl rfl) ?_))
  ((apply w_end Try.func49 (congrArg Array.toList Try.results49)); (focus (repeat (exact ResIs.nil))); refine ⟨_, rfl, Ends.mk [] (ExtOk.of rfl) rfl rfl ?_⟩)
  exact (by repeat (first | exact trivial | refine ⟨at_dat rfl, ?_⟩))
set_option maxRecDepth 100000 in
set_option maxHeartbeats 0 in
theorem sorted_u {V : Type} (val : V → SV) (m : List (Nat × V × Nat)) (c : Nat) (hok : KOk m c) (hl : m.length < 60000) {H : Heap} {nx bx b : Nat} (hbx : H.at' bx = some (newCells 65 [.mp b])) (hb : H.at' b = some (mapV (fun x : Nat => .int .u64 x) val m c)) (g1 : bx < nx) (g2 : b < nx) :
    Fnc Try.prog 38 [.fn (.func 50) [] [.ptr bx 0]] H nx
      (fun r => ∃ nm, r.1 = .slu nm 0 (sortU (m.map (·.1))).length ∧ nx ≤ nm ∧ nm < r.2.2 ∧ r.2.1.at' nm = some (uR false (sortU (m.map (·.1)))) ∧ ∀ n, n < nx → r.2.1.at' n = H.at' n) := by
  refine Fnc.start Try.func38 rfl rfl ?_
  (repeat (first | refine y_seq ?_ | refine w_region ?_ | refine y_regEnd ?_ | refine w_move rfl rfl rfl ?_ | refine w_assign rfl rfl rfl ?_))
  refine w_call rfl rfl rfl (by kernel_rfl) (Fnc.mono (collU val m c hok (by omega) hbx hb g1 g2) ?_)
  rintro ⟨_, H1, n1⟩ ⟨done, nm, hp, rfl, h1, h2, h3, h4⟩
  dsimp only at h1 h2 h3 h4 ⊢
  have hpm : (done.map (·.1)).Perm (m.map (·.1)) := hp.map _
  have hlen : (done.map (·.1)).length = m.length := by rw [hpm.length_eq, List.length_map]
  have hse : sortU (m.map (·.1)) = sortU (done.map (·.1)) := (sortU_perm hpm).symm
  rw [hse]
  generalize done.map (·.1) = ks at h3 hlen ⊢
  have h3' : H1.at' nm = some (oUrow ks.length ks.toArray) := h3
  have hs := sort_u ks.length ks.toArray (by omega) (by simp)
  have hrow : oUrow ks.length (Sort.sort oUlt ks.toArray) = uR false (sortU ks) := by
    have : (sortU ks).length = ks.length := sortU_length ks
    show dat false ks.length 1 23 _ = dat false (sortU ks).length 1 23 _
    rw [this]
    rfl
  have hsl := sortU_length ks
  rw [hrow] at hs
  (repeat (first | refine y_seq ?_ | refine w_region ?_ | refine y_regEnd ?_ | refine w_move rfl rfl rfl ?_ | refine w_assign rfl rfl rfl ?_))
  (refine w_call rfl rfl rfl (by kernel_rfl) (Ctr.callX (hs) [nm] rfl ⟨by intro n hn; simp at hn; omega, by simp; try omega⟩ rfl (by repeat (first | exact trivial | refine ⟨at_dat (by (focus (skip; first | exact Tr.at_set_same _ _ _ | assumption))), ?_⟩)) ?_); rintro _ rfl; refine ⟨_, 0, [nm], [some _], rfl, (by repeat (first | exact trivial | refine ⟨ren_dat _ _ _ _ _ _, ?_⟩)), rfl, rfl, ?_⟩; dsimp only [wrL])
  (repeat (first | refine y_seq ?_ | refine w_region ?_ | refine y_regEnd ?_ | refine w_move rfl rfl rfl ?_ | refine w_assign rfl rfl rfl ?_))
  ((apply w_ret Try.func38 (congrArg Array.toList Try.results38)); (focus (repeat (first | exact ResIs.nil | apply ResIs.tmp rfl))))
  rw [← hsl]
  exact ⟨nm, rfl, h1, h2, Tr.at_set_same _ _ _, fun n hn => (Tr.at_set_other _ _ (by omega)).trans (h4 n hn)⟩
end Go.Proofs.Ytckajlllkmkniaa
end
section
namespace Go.Proofs.Ytckajlllkmkniaa
open Go Go.Sy Go.Sl Go.RowKit
def LT.owners (T : LT) : List Nat := sortU (T.parties.map (·.1))
theorem owners_keys (ml : MLk) (mp : MPt) : (ltOf ml mp).owners = sortU (mp.map (·.1)) := by
  unfold LT.owners ltOf kv
  simp only [List.map_map]
  rfl
set_option maxRecDepth 100000 in
set_option maxHeartbeats 0 in
theorem owners_t {t : Nat} {T : LT} {Fp : Nat → Prop} {H : Heap} {nx : Nat} (hT : TabAt t T Fp H) (hl : T.parties.length < 60000) : Fnc Try.prog 21 [.ptr t 0] H nx (fun q => ∃ r, q.1 = .fn (.func 40) [] [.ptr nx 0] ∧ q.2.1.at' nx = some (newCells 28 [.slu r 0 T.owners.length]) ∧ q.2.1.at' r = some (uR false T.owners) ∧ nx < r ∧ r < q.2.2 ∧ ∀ n, n < nx → q.2.1.at' n = H.at' n) := by
  obtain ⟨a, b, ml, cl, mp, cp, F1, F2, h, rfl, hF⟩ := hT
  have htab := h.tab
  have hpar := h.parties
  have hlen : mp.length < 60000 := by
    have : (ltOf ml mp).parties.length = mp.length := by simp [ltOf, kv]
    omega
  refine Fnc.start Try.func21 rfl rfl ?_
  refine y_under fun hund => ?_
  obtain ⟨ut, ua, ub, u1, u2⟩ := h.lt hund
  rw [owners_keys]
  (repeat (first | (first | refine y_seq ?_ | refine w_region ?_ | refine y_regEnd ?_ | refine y_block ?_ | refine y_inBlock ?_ | refine y_skip ?_ | refine y_label ?_ | refine y_scope ?_ | refine y_inScope ?_ | refine y_exit rfl ?_ | refine y_condT rfl ?_ | refine y_condF rfl ?_ | refine y_goto rfl ?_ | refine w_move rfl rfl rfl ?_ | refine w_assign rfl rfl rfl ?_ | refine w_pickT rfl rfl rfl rfl ?_ | refine w_pickF rfl rfl rfl rfl ?_ | refine w_extract rfl rfl rfl rfl ?_ | refine w_nilCheck rfl rfl rfl ?_ | refine w_nilCheckF rfl rfl rfl ?_ | refine w_nilCheckI rfl rfl rfl ?_ | refine w_fieldAddr rfl rfl rfl (F.fo _ _ rfl rfl) ?_ | refine w_makeFunc rfl rfl rfl rfl ?_ | refine w_not rfl ?_ | refine w_extractV rfl rfl rfl rfl ?_ | refine w_makeMap rfl rfl ?_ | refine w_eqNil rfl rfl rfl rfl (F.un _ rfl) rfl ?_ | refine w_neNil rfl rfl rfl rfl (F.un _ rfl) rfl ?_ | refine w_isNil rfl rfl rfl rfl rfl (F.un _ rfl) rfl ?_ | refine w_noNil rfl rfl rfl rfl rfl (F.un _ rfl) rfl ?_ | refine w_storeC rfl rfl rfl rfl (F.sz _ rfl) (by first | exact rfl | (focus ((repeat (first | refine (Tr.at_set_other _ _ (by omega)).trans ?_ | refine (Tr.at_del_other _ (by omega)).trans ?_)); first | exact Tr.at_set_same _ _ _ | assumption))) rfl (by exact Nat.le_of_ble_eq_true rfl) rfl ?_ | refine w_loadB1 rfl rfl rfl (F.ag _ rfl) rfl rfl ?_ | refine w_loadBN rfl rfl rfl (F.ag _ rfl) rfl rfl ?_ | refine w_alloc rfl rfl (F.zl _ rfl) ?_ | refine w_boxN rfl rfl rfl ?_ | refine w_box rfl rfl rfl rfl ?_ | refine w_store1 rfl rfl rfl (F.sz _ rfl) rfl rfl rfl ?_ | refine w_storeN rfl rfl rfl (F.sz _ rfl) rfl rfl (by decide) rfl rfl ?_ | refine w_loadB1 rfl rfl rfl (F.ag _ rfl) (by (focus ((repeat (first | refine (Tr.at_set_other _ _ (by omega)).trans ?_ | refine (Tr.at_del_other _ (by omega)).trans ?_)); first | exact Tr.at_set_same _ _ _ | assumption))) (by exact rfl) ?_ | refine w_loadBN rfl rfl rfl (F.ag _ rfl) (by (focus ((repeat (first | refine (Tr.at_set_other _ _ (by omega)).trans ?_ | refine (Tr.at_del_other _ (by omega)).trans ?_)); first | exact Tr.at_set_same _ _ _ | assumption))) (by exact rfl) ?_ | refine w_store1 rfl rfl rfl (F.sz _ rfl) (by (focus ((repeat (first | refine (Tr.at_set_other _ _ (by omega)).trans ?_ | refine (Tr.at_del_other _ (by omega)).trans ?_)); first | exact Tr.at_set_same _ _ _ | assumption))) (by exact rfl) (by exact rfl) ?_ | refine w_storeN rfl rfl rfl (F.sz _ rfl) (by (focus ((repeat (first | refine (Tr.at_set_other _ _ (by omega)).trans ?_ | refine (Tr.at_del_other _ (by omega)).trans ?_)); first | exact Tr.at_set_same _ _ _ | assumption))) rfl (by exact Nat.le_of_ble_eq_true rfl) rfl (by exact rfl) ?_ | refine w_lenSl rfl rfl rfl (F.un _ rfl) ?_ | refine w_lenStr rfl rfl rfl (F.un _ rfl) ?_ | refine w_add rfl rfl rfl rfl (by omega) (by omega) ?_ | refine w_sub rfl rfl rfl rfl (by omega) (by omega) ?_ | refine w_mul rfl rfl rfl rfl (by omega) (by omega) ?_ | refine w_notB rfl rfl rfl ?_ | refine w_quo rfl rfl rfl rfl (by omega) (by omega) (by omega) ?_ | refine w_build rfl rfl rfl (F.ze _ rfl) (F.pl _ rfl) rfl ?_ | fail) | (refine w_call rfl rfl rfl (by kernel_rfl) (Fnc.mono (none_t (by (focus ((repeat (first | refine (Tr.at_set_other _ _ (by omega)).trans ?_ | refine (Tr.at_del_other _ (by omega)).trans ?_)); first | exact Tr.at_set_same _ _ _ | assumption)))) ?_); rintro _ rfl; dsimp only) | (refine w_call rfl rfl rfl (by kernel_rfl) (Fnc.mono (collU_keys pVal mp cp) ?_); rintro _ rfl; dsimp only) | fail))
  refine w_call rfl rfl rfl (by kernel_rfl) (Fnc.mono (sorted_u pVal mp cp h.okp hlen (by (focus ((repeat (first | refine (Tr.at_set_other _ _ (by omega)).trans ?_ | refine (Tr.at_del_other _ (by omega)).trans ?_)); first | exact Tr.at_set_same _ _ _ | assumption))) (b := b) (by (focus ((repeat (first | refine (Tr.at_set_other _ _ (by omega)).trans ?_ | refine (Tr.at_del_other _ (by omega)).trans ?_)); first | exact Tr.at_set_same _ _ _ | assumption))) (by omega) (by omega)) ?_)
  rintro ⟨_, H1, n1⟩ ⟨nm, rfl, h1, h2, h3, h4⟩
  dsimp only at h1 h2 h3 h4 ⊢
  have h5 : H1.at' nx = some (newCells 28 [.sc (.slice none 0 0)]) := (h4 nx (by omega)).trans (by (focus ((repeat (first | refine (Tr.at_set_other _ _ (by omega)).trans ?_ | refine (Tr.at_del_other _ (by omega)).trans ?_)); first | exact Tr.at_set_same _ _ _ | assumption)))
  (repeat (first | (first | refine y_seq ?_ | refine w_region ?_ | refine y_regEnd ?_ | refine y_block ?_ | refine y_inBlock ?_ | refine y_skip ?_ | refine y_label ?_ | refine y_scope ?_ | refine y_inScope ?_ | refine y_exit rfl ?_ | refine y_condT rfl ?_ | refine y_condF rfl ?_ | refine y_goto rfl ?_ | refine w_move rfl rfl rfl ?_ | refine w_assign rfl rfl rfl ?_ | refine w_pickT rfl rfl rfl rfl ?_ | refine w_pickF rfl rfl rfl rfl ?_ | refine w_extract rfl rfl rfl rfl ?_ | refine w_nilCheck rfl rfl rfl ?_ | refine w_nilCheckF rfl rfl rfl ?_ | refine w_nilCheckI rfl rfl rfl ?_ | refine w_fieldAddr rfl rfl rfl (F.fo _ _ rfl rfl) ?_ | refine w_makeFunc rfl rfl rfl rfl ?_ | refine w_not rfl ?_ | refine w_extractV rfl rfl rfl rfl ?_ | refine w_makeMap rfl rfl ?_ | refine w_eqNil rfl rfl rfl rfl (F.un _ rfl) rfl ?_ | refine w_neNil rfl rfl rfl rfl (F.un _ rfl) rfl ?_ | refine w_isNil rfl rfl rfl rfl rfl (F.un _ rfl) rfl ?_ | refine w_noNil rfl rfl rfl rfl rfl (F.un _ rfl) rfl ?_ | refine w_storeC rfl rfl rfl rfl (F.sz _ rfl) (by first | exact rfl | (focus ((repeat (first | refine (Tr.at_set_other _ _ (by omega)).trans ?_ | refine (Tr.at_del_other _ (by omega)).trans ?_)); first | exact Tr.at_set_same _ _ _ | assumption))) rfl (by exact Nat.le_of_ble_eq_true rfl) rfl ?_ | refine w_loadB1 rfl rfl rfl (F.ag _ rfl) rfl rfl ?_ | refine w_loadBN rfl rfl rfl (F.ag _ rfl) rfl rfl ?_ | refine w_alloc rfl rfl (F.zl _ rfl) ?_ | refine w_boxN rfl rfl rfl ?_ | refine w_box rfl rfl rfl rfl ?_ | refine w_store1 rfl rfl rfl (F.sz _ rfl) rfl rfl rfl ?_ | refine w_storeN rfl rfl rfl (F.sz _ rfl) rfl rfl (by decide) rfl rfl ?_ | refine w_loadB1 rfl rfl rfl (F.ag _ rfl) (by (focus ((repeat (first | refine (Tr.at_set_other _ _ (by omega)).trans ?_ | refine (Tr.at_del_other _ (by omega)).trans ?_)); first | exact Tr.at_set_same _ _ _ | assumption))) (by exact rfl) ?_ | refine w_loadBN rfl rfl rfl (F.ag _ rfl) (by (focus ((repeat (first | refine (Tr.at_set_other _ _ (by omega)).trans ?_ | refine (Tr.at_del_other _ (by omega)).trans ?_)); first | exact Tr.at_set_same _ _ _ | assumption))) (by exact rfl) ?_ | refine w_store1 rfl rfl rfl (F.sz _ rfl) (by (focus ((repeat (first | refine (Tr.at_set_other _ _ (by omega)).trans ?_ | refine (Tr.at_del_other _ (by omega)).trans ?_)); first | exact Tr.at_set_same _ _ _ | assumption))) (by exact rfl) (by exact rfl) ?_ | refine w_storeN rfl rfl rfl (F.sz _ rfl) (by (focus ((repeat (first | refine (Tr.at_set_other _ _ (by omega)).trans ?_ | refine (Tr.at_del_other _ (by omega)).trans ?_)); first | exact Tr.at_set_same _ _ _ | assumption))) rfl (by exact Nat.le_of_ble_eq_true rfl) rfl (by exact rfl) ?_ | refine w_lenSl rfl rfl rfl (F.un _ rfl) ?_ | refine w_lenStr rfl rfl rfl (F.un _ rfl) ?_ | refine w_add rfl rfl rfl rfl (by omega) (by omega) ?_ | refine w_sub rfl rfl rfl rfl (by omega) (by omega) ?_ | refine w_mul rfl rfl rfl rfl (by omega) (by omega) ?_ | refine w_notB rfl rfl rfl ?_ | refine w_quo rfl rfl rfl rfl (by omega) (by omega) (by omega) ?_ | refine w_build rfl rfl rfl (F.ze _ rfl) (F.pl _ rfl) rfl ?_ | fail) | fail))
  ((first | apply w_end Try.func21 (congrArg Array.toList Try.results21) | apply w_ret Try.func21 (congrArg Array.toList Try.results21)); (focus (repeat (first | exact ResIs.nil | apply ResIs.tmp rfl | apply ResIs.cell rfl (LoadIs.one (F.ag _ rfl) rfl (cell_box rfl)) | apply ResIs.cell rfl (LoadIs.many (F.ag _ rfl) rfl (cellsFrom_box _ 0 rfl rfl))))))
  exact ⟨nm, rfl, Tr.at_set_same _ _ _, (Tr.at_set_other _ _ (by omega)).trans h3, by omega, h2, fun n hn => (Tr.at_set_other _ _ (by omega)).trans ((h4 n (by omega)).trans (by (focus ((repeat (first | refine (Tr.at_set_other _ _ (by omega)).trans ?_ | refine (Tr.at_del_other _ (by omega)).trans ?_)); exact rfl))))⟩
end Go.Proofs.Ytckajlllkmkniaa
end
section
namespace Go.Proofs.Ytckajlllkmkniaa
open Go.Sl
theorem length_mput_le {K V : Type} [DecidableEq K] (l : List (K × V)) (k : K) (v : V) : (mput l k v).length ≤ l.length + 1 := by
  induction l with
  | nil => simp [mput]
  | cons x l ih =>
    unfold mput
    split
    · simp
    · simp only [List.length_cons]; omega
theorem length_mdel_has {K V : Type} [DecidableEq K] {l : List (K × V)} {k : K} {v : V} (h : mget l k = some v) : (mdel l k).length + 1 = l.length := by
  induction l with
  | nil => cases h
  | cons x l ih =>
    rw [mget_cons] at h
    unfold mdel
    split
    · simp
    · rename_i hx
      rw [if_neg hx] at h
      simp only [List.length_cons]
      have := ih h
      omega
theorem LT.Fine.mono {T : LT} {N M : Nat} (H : T.Fine N) (h : N ≤ M) : T.Fine M := ⟨H.wf, H.ndL, H.ndP, Nat.le_trans H.szL h, Nat.le_trans H.szP h⟩
theorem LT.Fine.empty : LT.empty.Fine 0 := ⟨LT.WF.empty, List.nodup_nil, List.nodup_nil, Nat.le_refl _, Nat.le_refl _⟩
theorem LT.Fine.ask {T : LT} {N : Nat} (H : T.Fine N) (o : Nat) (k : ByteArray) : (T.ask o k).1.Fine (N + 1) := by
  have hwf := H.wf.ask o k
  have h0 := H.mono (Nat.le_succ N)
  unfold LT.ask at hwf ⊢
  split
  · exact h0
  · split
    · exact h0
    · cases hg : mget T.locks k with
      | none =>
        rename_i h1 h2
        rw [if_neg h1, if_neg h2, hg] at hwf
        have a1 := length_mput_le T.locks k (o, ([] : List Nat))
        have a2 := length_mput_le T.parties o (T.keys o ++ [k], (⟨#[]⟩ : ByteArray))
        have := H.szL
        have := H.szP
        exact ⟨hwf, nodup_mput H.ndL _ _, nodup_mput H.ndP _ _, by simp only; omega, by simp only; omega⟩
      | some x =>
        obtain ⟨h, l⟩ := x
        rename_i h1 h2
        rw [if_neg h1, if_neg h2, hg] at hwf
        simp only at hwf ⊢
        split
        · exact h0
        · rename_i h3
          rw [if_neg h3] at hwf
          split
          · exact h0
          · rename_i h4
            rw [if_neg h4] at hwf
            have a1 := length_mput_le T.locks k (h, l ++ [o])
            have a2 := length_mput_le T.parties o (T.keys o, k)
            have := H.szL
            have := H.szP
            exact ⟨hwf, nodup_mput H.ndL _ _, nodup_mput H.ndP _ _, by simp only; omega, by simp only; omega⟩
theorem LT.Fine.askOk {T : LT} {N : Nat} (H : T.Fine N) (hN : N < 900) (o : Nat) (k : ByteArray) :
    (T.keys o).length < 999999 ∧ (T.line k).length < 999999 ∧ ∀ h l, mget T.locks k = some (h, l) → T.chase o 1001 h = some (decide (T.chase o (T.parties.length + 1) h = some true)) := by
  have h1 := H.wf.keys_le o
  have h2 := H.szL
  have h3 := H.szP
  have h4 := H.wf.line_le k
  refine ⟨by omega, by omega, fun h l _ => ?_⟩
  obtain ⟨b, hb⟩ := H.wf.chase o h
  have h5 := LT.chase_far hb (1001 - (T.parties.length + 1))
  rw [show T.parties.length + 1 + (1001 - (T.parties.length + 1)) = 1001 by omega] at h5
  rw [h5, hb]
  cases b <;> rfl
theorem LT.Fine.popsLaw {N : Nat} (hN : N < 900000) {o : Nat} {w : ByteArray} (hws : w.size = 0) : ∀ (r : Nat) (T : LT) (ks : List ByteArray) (came : List Nat), T.Fine N → mget T.parties o = some (ks, w) → r ≤ ks.length →
    (LT.pops o r T came).1.locks.length + r + came.length = T.locks.length + (LT.pops o r T came).2.length ∧
    (∀ k, k ∉ ks.drop (ks.length - r) → mget (LT.pops o r T came).1.locks k = mget T.locks k) ∧
    (∀ k, k ∈ ks.drop (ks.length - r) → (LT.pops o r T came).1.has k = (T.line k).headD 0)
  | 0, T, ks, came, H, hp, _ => by
    unfold LT.pops
    rw [Nat.sub_zero, List.drop_length]
    exact ⟨by simp, fun _ _ => rfl, fun _ h => by cases h⟩
  | r + 1, T, ks, came, H, hp, hr => by
    obtain ⟨ks', k, rfl⟩ : ∃ ks' k, ks = ks' ++ [k] := by
      refine ⟨ks.dropLast, ks.getLast (by intro h; subst h; simp at hr), ?_⟩
      rw [List.dropLast_concat_getLast]
    obtain ⟨s1, s2, s3⟩ := H.step hN hp hws
    have hlen : (ks' ++ [k]).length = ks'.length + 1 := by simp
    rw [hlen] at hr ⊢
    have hk : T.keys o = ks' ++ [k] := by unfold LT.keys; rw [hp]
    have hlast : (T.keys o).getLast? = some k := by rw [hk]; simp
    obtain ⟨_, p2, p3, _⟩ := H.wf.par o _ w hp
    obtain ⟨l, hg⟩ := p3 k (by simp)
    have hnk : k ∉ ks' := by
      rw [List.nodup_append] at p2
      intro q
      exact p2.2.2 _ q _ (List.mem_singleton.2 rfl) rfl
    have hd : (ks' ++ [k]).drop (ks'.length + 1 - (r + 1)) = ks'.drop (ks'.length - r) ++ [k] := by
      rw [show ks'.length + 1 - (r + 1) = ks'.length - r by omega, List.drop_append_of_le_length (by omega)]
    rw [hd]
    have hpopl : (T.pop o).locks = T.locks := rfl
    have hline : T.line k = l := by unfold LT.line; rw [hg]
    -- what is let go
    have key : ∃ c1, (((T.pop o).letGo k).1.locks.length + 1 + came.length = T.locks.length + c1.length) ∧ (if ((T.pop o).letGo k).2 = 0 then came else came ++ [((T.pop o).letGo k).2]) = c1 ∧ (∀ k', k' ≠ k → mget ((T.pop o).letGo k).1.locks k' = mget T.locks k') ∧ ((T.pop o).letGo k).1.has k = (T.line k).headD 0 := by
      have hgo : mget (T.pop o).locks k = some (o, l) := hg
      rw [hline]
      cases l with
      | nil =>
        have hlg : (T.pop o).letGo k = (⟨mdel (T.pop o).locks k, (T.pop o).parties⟩, 0) := by unfold LT.letGo; rw [hgo]
        rw [hlg]
        refine ⟨came, ?_, if_pos rfl, fun k' hne => ?_, ?_⟩
        · have := length_mdel_has hg
          simp only [hpopl]
          omega
        · simp only [hpopl]
          rw [mget_mdel H.ndL, if_neg (Ne.symm hne)]
        · unfold LT.has
          simp only [hpopl]
          rw [mget_mdel H.ndL, if_pos rfl]
          rfl
      | cons n rest =>
        have hn0 : n ≠ 0 := ((H.wf.own k o _ hg).2.2.2.2 n (List.mem_cons_self ..)).1
        have hlg : (T.pop o).letGo k = (⟨mput (T.pop o).locks k (n, rest), mput (T.pop o).parties n ((T.pop o).keys n ++ [k], ⟨#[]⟩)⟩, n) := by unfold LT.letGo; rw [hgo]
        rw [hlg]
        refine ⟨came ++ [n], ?_, if_neg hn0, fun k' hne => ?_, ?_⟩
        · simp only [hpopl]
          rw [length_mput_has hg, List.length_append, List.length_singleton]
          omega
        · simp only [hpopl]
          rw [mget_mput, if_neg (Ne.symm hne)]
        · unfold LT.has
          simp only [hpopl]
          rw [mget_mput, if_pos rfl]
          rfl
    obtain ⟨c1, q1, q2, q3, q4⟩ := key
    have hpops : LT.pops o (r + 1) T came = LT.pops o r ((T.pop o).letGo k).1 c1 := by
      conv => lhs; unfold LT.pops
      rw [hlast]
      simp only
      rw [q2]
    rw [hpops]
    obtain ⟨i1, i2, i3⟩ := LT.Fine.popsLaw hN hws r _ ks' c1 s2 s3 (by omega)
    have hnd : k ∉ ks'.drop (ks'.length - r) := fun q => hnk (List.mem_of_mem_drop q)
    refine ⟨by omega, fun k' hk' => ?_, fun k' hk' => ?_⟩
    · rw [List.mem_append, List.mem_singleton, not_or] at hk'
      rw [i2 k' hk'.1, q3 k' hk'.2]
    · rw [List.mem_append, List.mem_singleton] at hk'
      rcases hk' with hk' | rfl
      · have hne : k' ≠ k := fun e => hnd (e ▸ hk')
        rw [i3 k' hk']
        unfold LT.line
        rw [q3 k' hne]
      · rw [← q4]
        unfold LT.has
        rw [i2 k' hnd]
theorem LT.Fine.marks {T : LT} {N : Nat} (H : T.Fine N) (hN : N < 900000) (o m : Nat) (ho : o ≠ 0) (hm : m ≤ (T.keys o).length) :
    (T.back o (m : Int)).2.2 = 0 ∧ (T.back o (m : Int)).1.keys o = (T.keys o).take m ∧ ((T.back o (m : Int)).1.locks.length : Int) = (T.locks.length : Int) - (((T.keys o).length : Int) - m) + ((T.back o (m : Int)).2.1.length : Int) ∧
      (∀ k, k ∈ (T.keys o).drop m → (T.back o (m : Int)).1.has k = (T.line k).headD 0) ∧ (T.back o (m : Int)).1.waits o = ⟨#[]⟩ := by
  have hc : ¬ (o = 0 ∨ (m : Int) < 0 ∨ ((T.keys o).length : Int) < m) := by omega
  cases hp : mget T.parties o with
  | none =>
    have hk : T.keys o = [] := by unfold LT.keys; rw [hp]
    have hb : T.back o (m : Int) = (T, [], 0) := by unfold LT.back; rw [if_neg hc, hp]
    rw [hb, hk]
    rw [hk, List.length_nil] at hm
    refine ⟨rfl, by simp [hk], by simp; omega, fun k h => by simp at h, ?_⟩
    unfold LT.waits
    rw [hp]
  | some p =>
    obtain ⟨ks, w⟩ := p
    have hk : T.keys o = ks := by unfold LT.keys; rw [hp]
    have hw : T.waits o = w := by unfold LT.waits; rw [hp]
    obtain ⟨F, w', hw', hp'⟩ := H.leave hp
    have hk1 : (T.leave o).keys o = ks := by unfold LT.keys; rw [hp']
    have hback : T.back o (m : Int) = (if ((LT.pops o (ks.length - m) (T.leave o) []).1.keys o).length = 0 then ⟨(LT.pops o (ks.length - m) (T.leave o) []).1.locks, mdel (LT.pops o (ks.length - m) (T.leave o) []).1.parties o⟩ else (LT.pops o (ks.length - m) (T.leave o) []).1, (LT.pops o (ks.length - m) (T.leave o) []).2, 0) := by
      unfold LT.back
      rw [if_neg hc, hp]
      simp only [hk1, Int.toNat_natCast]
    rw [hk] at hm
    obtain ⟨l1, l2, l3⟩ := LT.Fine.popsLaw hN hw' (ks.length - m) _ ks [] F hp' (by omega)
    obtain ⟨g1, g2⟩ := (LT.Fine.pops hN hw' (ks.length - m) _ ks F hp' (by omega)).2 []
    rw [show ks.length - (ks.length - m) = m by omega] at l2 l3 g2
    -- leaving a line turns no key of its own
    have hleave : (T.leave o).locks.length = T.locks.length ∧ ∀ k ∈ ks, (T.leave o).line k = T.line k := by
      unfold LT.leave
      rw [hw, hk]
      by_cases hws : w.size = 0
      · rw [if_pos hws]
        exact ⟨rfl, fun _ _ => rfl⟩
      · rw [if_neg hws]
        obtain ⟨h, l, hg, hin⟩ := (H.wf.par o ks w hp).2.2.2 hws
        rw [hg]
        refine ⟨length_mput_has hg _, fun k hkm => ?_⟩
        have hne : w ≠ k := by
          rintro rfl
          obtain ⟨l', hl'⟩ := (H.wf.par o ks w hp).2.2.1 w hkm
          rw [hg] at hl'
          have := ((H.wf.own w h l hg).2.2.2.2 o hin).2.1
          simp only [Option.some.injEq, Prod.mk.injEq] at hl'
          exact this hl'.1.symm
        unfold LT.line
        simp only
        rw [mget_mput, if_neg hne]
    rw [hleave.1] at l1
    rw [hback, hk]
    generalize LT.pops o (ks.length - m) (T.leave o) [] = r at l1 l2 l3 g1 g2 ⊢
    obtain ⟨T2, came⟩ := r
    simp only at l1 l2 l3 g1 g2 ⊢
    have hk2 : T2.keys o = ks.take m := by unfold LT.keys; rw [g2]
    have hhas : ∀ k, k ∈ ks.drop m → T2.has k = (T.line k).headD 0 := fun k hkm => by
      rw [l3 k hkm, hleave.2 k (List.mem_of_mem_drop hkm)]
    have hwe : ∀ w : ByteArray, w.size = 0 → w = ⟨#[]⟩ := fun w h => by
      obtain ⟨⟨l⟩⟩ := w
      cases l with
      | nil => rfl
      | cons a l => cases h
    have hlenI : (T2.locks.length : Int) = (T.locks.length : Int) - ((ks.length : Int) - m) + (came.length : Int) := by
      simp only [List.length_nil] at l1
      omega
    split
    · rename_i h0
      rw [hk2] at h0
      have hnone : mget (mdel T2.parties o) o = none := by rw [mget_mdel g1.ndP, if_pos rfl]
      refine ⟨trivial, ?_, hlenI, hhas, ?_⟩
      · unfold LT.keys
        simp only
        rw [hnone]
        exact (List.eq_nil_of_length_eq_zero h0).symm
      · unfold LT.waits
        simp only
        rw [hnone]
    · refine ⟨trivial, hk2, hlenI, hhas, ?_⟩
      unfold LT.waits
      rw [g2]
      exact hwe _ hw'
theorem mget_perm {K V : Type} [DecidableEq K] {l m : List (K × V)} (hn : (m.map (·.1)).Nodup) (hp : l.Perm m) (k : K) : mget l k = mget m k := by
  have hl : (l.map (·.1)).Nodup := (hp.map (·.1)).nodup_iff.2 hn
  cases hg : mget m k with
  | none =>
    apply mget_out
    intro q
    obtain ⟨x, hx, e⟩ := List.mem_map.1 q
    have hx2 := hp.mem_iff.1 hx
    have : k ∈ m.map (·.1) := e ▸ List.mem_map_of_mem hx2
    exact absurd hg (by
      clear hg q hl hp hn hx hx2 x e
      induction m with
      | nil => simp at this
      | cons y m ih =>
        rw [mget_cons]
        split
        · simp
        · rename_i hne
          rw [List.map_cons, List.mem_cons] at this
          rcases this with h | h
          · exact absurd h.symm hne
          · exact ih h)
  | some v =>
    obtain ⟨A, B, rfl, _⟩ := mget_split hg
    have hx : (k, v) ∈ l := hp.mem_iff.2 (by simp)
    clear hg hp hn
    induction l with
    | nil => cases hx
    | cons y l ih =>
      rw [mget_cons]
      rw [List.map_cons, List.nodup_cons] at hl
      rcases List.mem_cons.1 hx with rfl | hx
      · rw [if_pos rfl]
      · have hne : y.1 ≠ k := fun e => hl.1 (by rw [e]; exact List.mem_map_of_mem hx)
        rw [if_neg hne]
        exact ih hl.2 hx
structure LT.Like (T' T : LT) : Prop where
  locks : T'.locks.Perm T.locks
  parties : T'.parties.Perm T.parties
theorem LT.Like.keys {T' T : LT} (h : T'.Like T) {N : Nat} (H : T.Fine N) (o : Nat) : T'.keys o = T.keys o := by unfold LT.keys; rw [mget_perm H.ndP h.parties]
theorem LT.Like.line {T' T : LT} (h : T'.Like T) {N : Nat} (H : T.Fine N) (k : ByteArray) : T'.line k = T.line k := by unfold LT.line; rw [mget_perm H.ndL h.locks]
end Go.Proofs.Ytckajlllkmkniaa
end
section
namespace Go.Proofs.Ytckajlllkmkniaa
open Go.Sl
theorem mget_perm_mem {K V : Type} [DecidableEq K] {l : List (K × V)} (hn : (l.map (·.1)).Nodup) {k : K} {v : V} (h : (k, v) ∈ l) : mget l k = some v := by
  induction l with
  | nil => cases h
  | cons y l ih =>
    rw [mget_cons]
    rw [List.map_cons, List.nodup_cons] at hn
    rcases List.mem_cons.1 h with rfl | hx
    · rw [if_pos rfl]
    · have hne : y.1 ≠ k := fun e => hn.1 (by rw [e]; exact List.mem_map_of_mem hx)
      rw [if_neg hne]
      exact ih hn.2 hx
theorem mget_key {K V : Type} [DecidableEq K] {l : List (K × V)} {k : K} (h : k ∈ l.map (·.1)) : ∃ v, mget l k = some v := by
  cases hg : mget l k with
  | some v => exact ⟨v, rfl⟩
  | none =>
    exfalso
    induction l with
    | nil => simp at h
    | cons y l ih =>
      rw [mget_cons] at hg
      split at hg
      · cases hg
      · rename_i hne
        rw [List.map_cons, List.mem_cons] at h
        rcases h with h | h
        · exact hne h.symm
        · exact ih h hg
def LT.BusyBut (T : LT) (o : Nat) : Prop := ∀ o' ks w, mget T.parties o' = some (ks, w) → o' = o ∨ ks ≠ [] ∨ w.size ≠ 0
def LT.Busy (T : LT) : Prop := ∀ o ks w, mget T.parties o = some (ks, w) → ks ≠ [] ∨ w.size ≠ 0
theorem LT.Busy.empty : LT.empty.Busy := fun o ks w h => by simp [LT.empty, mget_nil] at h
theorem LT.Busy.but {T : LT} (h : T.Busy) (o : Nat) : T.BusyBut o := fun o' ks w hg => .inr (h o' ks w hg)
theorem LT.Busy.ask {T : LT} (h : T.Busy) (o : Nat) (k : ByteArray) : (T.ask o k).1.Busy := by
  unfold LT.ask
  split
  · exact h
  · split
    · exact h
    · rename_i h1 h2
      cases hg : mget T.locks k with
      | none =>
        intro o' ks w hp
        simp only [mget_mput] at hp
        split at hp
        · simp only [Option.some.injEq, Prod.mk.injEq] at hp
          left
          rw [← hp.1]
          simp
        · exact h o' ks w hp
      | some x =>
        obtain ⟨ow, l⟩ := x
        simp only
        split
        · exact h
        · split
          · exact h
          · intro o' ks w hp
            simp only [mget_mput] at hp
            split at hp
            · simp only [Option.some.injEq, Prod.mk.injEq] at hp
              right
              rw [← hp.2]
              omega
            · exact h o' ks w hp
def LT.mass (T : LT) : Nat := (T.locks.map fun x => 1 + x.2.2.length).sum
theorem sum_mput_has {l : List (ByteArray × (Nat × List Nat))} {k : ByteArray} {v : Nat × List Nat} (h : mget l k = some v) (v' : Nat × List Nat) : ((mput l k v').map fun x => 1 + x.2.2.length).sum + v.2.length = (l.map fun x => 1 + x.2.2.length).sum + v'.2.length := by
  obtain ⟨A, B, rfl, hA⟩ := mget_split h
  rw [mput_split hA]
  simp only [List.map_append, List.map_cons, List.sum_append, List.sum_cons]
  omega
theorem sum_mput_new {l : List (ByteArray × (Nat × List Nat))} {k : ByteArray} (h : mget l k = none) (v' : Nat × List Nat) : ((mput l k v').map fun x => 1 + x.2.2.length).sum = (l.map fun x => 1 + x.2.2.length).sum + 1 + v'.2.length := by
  induction l with
  | nil => simp [mput]
  | cons y l ih =>
    rw [mget_cons] at h
    split at h
    · cases h
    · rename_i hne
      unfold mput
      rw [if_neg hne]
      simp only [List.map_cons, List.sum_cons]
      rw [ih h]
      omega
theorem sum_mdel_has {l : List (ByteArray × (Nat × List Nat))} {k : ByteArray} {v : Nat × List Nat} (h : mget l k = some v) : ((mdel l k).map fun x => 1 + x.2.2.length).sum + 1 + v.2.length = (l.map fun x => 1 + x.2.2.length).sum := by
  induction l with
  | nil => cases h
  | cons y l ih =>
    rw [mget_cons] at h
    unfold mdel
    split at h
    · rename_i he
      simp only [Option.some.injEq] at h
      rw [if_pos he]
      simp only [List.map_cons, List.sum_cons]
      rw [h]
      omega
    · rename_i hne
      rw [if_neg hne]
      simp only [List.map_cons, List.sum_cons]
      have := ih h
      omega
theorem LT.mass_ask {T : LT} (o : Nat) (k : ByteArray) : (T.ask o k).1.mass ≤ T.mass + 1 := by
  unfold LT.ask LT.mass
  split
  · exact Nat.le_succ _
  · split
    · exact Nat.le_succ _
    · cases hg : mget T.locks k with
      | none =>
        simp only
        rw [sum_mput_new hg]
        simp
      | some x =>
        obtain ⟨ow, l⟩ := x
        simp only
        split
        · exact Nat.le_succ _
        · split
          · exact Nat.le_succ _
          · have := sum_mput_has hg (ow, l ++ [o])
            simp only [List.length_append, List.length_singleton] at this ⊢
            omega
theorem LT.Fine.popsMore {N : Nat} (hN : N < 900000) {o : Nat} {w : ByteArray} (hws : w.size = 0) : ∀ (r : Nat) (T : LT) (ks : List ByteArray) (came : List Nat), T.Fine N → mget T.parties o = some (ks, w) → r ≤ ks.length → T.BusyBut o →
    (∀ n ∈ came, n ≠ o ∧ (T.waits n).size = 0 ∧ T.keys n ≠ []) →
    (LT.pops o r T came).1.mass + r = T.mass ∧ (LT.pops o r T came).1.BusyBut o ∧ (∀ n ∈ (LT.pops o r T came).2, n ≠ o ∧ ((LT.pops o r T came).1.waits n).size = 0 ∧ (LT.pops o r T came).1.keys n ≠ [])
  | 0, T, ks, came, H, hp, _, hb, hc => by
    unfold LT.pops
    exact ⟨rfl, hb, hc⟩
  | r + 1, T, ks, came, H, hp, hr, hb, hc => by
    obtain ⟨ks', k, rfl⟩ : ∃ ks' k, ks = ks' ++ [k] := by
      refine ⟨ks.dropLast, ks.getLast (by intro h; subst h; simp at hr), ?_⟩
      rw [List.dropLast_concat_getLast]
    obtain ⟨s1, s2, s3⟩ := H.step hN hp hws
    have hlen : (ks' ++ [k]).length = ks'.length + 1 := by simp
    rw [hlen] at hr
    have hk : T.keys o = ks' ++ [k] := by unfold LT.keys; rw [hp]
    have hwt : T.waits o = w := by unfold LT.waits; rw [hp]
    have hlast : (T.keys o).getLast? = some k := by rw [hk]; simp
    obtain ⟨_, p2, p3, _⟩ := H.wf.par o _ w hp
    obtain ⟨l, hg⟩ := p3 k (by simp)
    have hpop : T.pop o = ⟨T.locks, mput T.parties o (ks', w)⟩ := by
      unfold LT.pop
      rw [hk, hwt]
      simp
    have key : ((T.pop o).letGo k).1.mass + 1 = T.mass ∧ ((T.pop o).letGo k).1.BusyBut o ∧ (∀ n ∈ (if ((T.pop o).letGo k).2 = 0 then came else came ++ [((T.pop o).letGo k).2]), n ≠ o ∧ (((T.pop o).letGo k).1.waits n).size = 0 ∧ ((T.pop o).letGo k).1.keys n ≠ []) := by
      have hbp : (T.pop o).BusyBut o := by
        rw [hpop]
        intro o' ks2 w2 hg2
        simp only [mget_mput] at hg2
        split at hg2
        · rename_i he
          exact .inl he.symm
        · exact hb o' ks2 w2 hg2
      have hcp : ∀ n ∈ came, n ≠ o ∧ ((T.pop o).waits n).size = 0 ∧ (T.pop o).keys n ≠ [] := fun n hn => by
        obtain ⟨c1, c2, c3⟩ := hc n hn
        have : mget (T.pop o).parties n = mget T.parties n := by
          rw [hpop]
          simp only [mget_mput]
          rw [if_neg (Ne.symm c1)]
        simp only [LT.waits, LT.keys] at c2 c3 ⊢
        rw [this]
        exact ⟨c1, c2, c3⟩
      have hgo : mget (T.pop o).locks k = some (o, l) := hg
      have hm : (T.pop o).mass = T.mass := rfl
      generalize T.pop o = S at hbp hcp hgo hm
      rw [← hm]
      cases l with
      | nil =>
        have hlg : S.letGo k = (⟨mdel S.locks k, S.parties⟩, 0) := by unfold LT.letGo; rw [hgo]
        rw [hlg, if_pos rfl]
        refine ⟨?_, hbp, hcp⟩
        unfold LT.mass
        have := sum_mdel_has hgo
        simp only [List.length_nil] at this ⊢
        omega
      | cons n rest =>
        obtain ⟨b1, b2, _⟩ := (H.wf.own k o _ hg).2.2.2.2 n (List.mem_cons_self ..)
        have hlg : S.letGo k = (⟨mput S.locks k (n, rest), mput S.parties n (S.keys n ++ [k], ⟨#[]⟩)⟩, n) := by unfold LT.letGo; rw [hgo]
        rw [hlg, if_neg b1]
        refine ⟨?_, fun o' ks2 w2 hg2 => ?_, fun x hx => ?_⟩
        · unfold LT.mass
          have := sum_mput_has hgo (n, rest)
          simp only [List.length_cons] at this ⊢
          omega
        · simp only [mget_mput] at hg2
          split at hg2
          · simp only [Option.some.injEq, Prod.mk.injEq] at hg2
            right; left
            rw [← hg2.1]
            simp
          · exact hbp o' ks2 w2 hg2
        · by_cases hxn : n = x
          · subst hxn
            refine ⟨b2, ?_, ?_⟩
            · unfold LT.waits
              simp only [mget_mput, if_true]
              rfl
            · unfold LT.keys
              simp only [mget_mput, if_true]
              simp
          · have hxc : x ∈ came := by
              rw [List.mem_append, List.mem_singleton] at hx
              rcases hx with hx | hx
              · exact hx
              · exact absurd hx.symm hxn
            obtain ⟨c1, c2, c3⟩ := hcp x hxc
            have : ∀ y, mget (mput S.parties n y) x = mget S.parties x := fun y => by rw [mget_mput, if_neg hxn]
            simp only [LT.waits, LT.keys] at c2 c3 ⊢
            rw [this]
            exact ⟨c1, c2, c3⟩
    obtain ⟨q1, q2, q3⟩ := key
    have hpops : LT.pops o (r + 1) T came = LT.pops o r ((T.pop o).letGo k).1 (if ((T.pop o).letGo k).2 = 0 then came else came ++ [((T.pop o).letGo k).2]) := by
      conv => lhs; unfold LT.pops
      rw [hlast]
    rw [hpops]
    obtain ⟨i1, i2, i3⟩ := LT.Fine.popsMore hN hws r _ ks' _ s2 s3 (by omega) q2 q3
    exact ⟨by omega, i2, i3⟩
theorem LT.mass_leave {T : LT} {N : Nat} (H : T.Fine N) {o : Nat} {ks : List ByteArray} {w : ByteArray} (hp : mget T.parties o = some (ks, w)) : (T.leave o).mass ≤ T.mass ∧ ((T.waits o).size = 0 → (T.leave o).mass = T.mass) := by
  have hw : T.waits o = w := by unfold LT.waits; rw [hp]
  unfold LT.leave
  rw [hw]
  by_cases hws : w.size = 0
  · rw [if_pos hws]
    exact ⟨Nat.le_refl _, fun _ => rfl⟩
  · rw [if_neg hws]
    obtain ⟨h, l, hg, hin⟩ := (H.wf.par o ks w hp).2.2.2 hws
    rw [hg]
    refine ⟨?_, fun h => absurd h hws⟩
    unfold LT.mass
    have := sum_mput_has hg (h, l.erase o)
    have hle := List.length_erase_of_mem hin
    simp only at this ⊢
    omega
theorem LT.Busy.leave {T : LT} {N : Nat} (h : T.Busy) (H : T.Fine N) {o : Nat} {ks : List ByteArray} {w : ByteArray} (hp : mget T.parties o = some (ks, w)) : (T.leave o).BusyBut o := by
  have hw : T.waits o = w := by unfold LT.waits; rw [hp]
  unfold LT.leave
  rw [hw]
  by_cases hws : w.size = 0
  · rw [if_pos hws]
    exact h.but o
  · rw [if_neg hws]
    obtain ⟨h', l, hg, hin⟩ := (H.wf.par o ks w hp).2.2.2 hws
    rw [hg]
    intro o' ks2 w2 hg2
    simp only [mget_mput] at hg2
    split at hg2
    · rename_i he
      exact .inl he.symm
    · exact .inr (h o' ks2 w2 hg2)
theorem LT.Fine.backMore {T : LT} {N : Nat} (H : T.Fine N) (hN : N < 900000) (hb : T.Busy) (o : Nat) (mark : Int) :
    (T.back o mark).1.Busy ∧ (T.back o mark).1.mass ≤ T.mass ∧ ((T.waits o).size = 0 → mark = 0 → o ≠ 0 → (T.back o mark).1.mass + (T.keys o).length = T.mass) ∧ (∀ n ∈ (T.back o mark).2.1, ((T.back o mark).1.waits n).size = 0 ∧ (T.back o mark).1.keys n ≠ []) := by
  by_cases hc : o = 0 ∨ mark < 0 ∨ ((T.keys o).length : Int) < mark
  · have : T.back o mark = (T, [], 2) := by unfold LT.back; rw [if_pos hc]
    rw [this]
    refine ⟨hb, Nat.le_refl _, fun _ h0 ho => ?_, fun n hn => by cases hn⟩
    subst h0
    omega
  · cases hp : mget T.parties o with
    | none =>
      have : T.back o mark = (T, [], 0) := by unfold LT.back; rw [if_neg hc, hp]
      have hk : T.keys o = [] := by unfold LT.keys; rw [hp]
      rw [this, hk]
      exact ⟨hb, Nat.le_refl _, fun _ _ _ => rfl, fun n hn => by cases hn⟩
    | some p =>
      obtain ⟨ks, w⟩ := p
      obtain ⟨m, rfl⟩ : ∃ m : Nat, mark = (m : Int) := ⟨mark.toNat, by omega⟩
      have hk : T.keys o = ks := by unfold LT.keys; rw [hp]
      obtain ⟨Fl, w', hw', hp'⟩ := H.leave hp
      have hk1 : (T.leave o).keys o = ks := by unfold LT.keys; rw [hp']
      have hback : T.back o (m : Int) = (if ((LT.pops o (ks.length - m) (T.leave o) []).1.keys o).length = 0 then ⟨(LT.pops o (ks.length - m) (T.leave o) []).1.locks, mdel (LT.pops o (ks.length - m) (T.leave o) []).1.parties o⟩ else (LT.pops o (ks.length - m) (T.leave o) []).1, (LT.pops o (ks.length - m) (T.leave o) []).2, 0) := by
        unfold LT.back
        rw [if_neg hc, hp]
        simp only [hk1, Int.toNat_natCast]
      obtain ⟨m1, m2⟩ := LT.mass_leave H hp
      obtain ⟨q1, q2, q3⟩ := LT.Fine.popsMore hN hw' (ks.length - m) _ ks [] Fl hp' (by omega) (hb.leave H hp) (fun n hn => by cases hn)
      obtain ⟨g1, g2⟩ := (LT.Fine.pops hN hw' (ks.length - m) _ ks Fl hp' (by omega)).2 []
      rw [hback, hk]
      rw [hk] at hc
      generalize LT.pops o (ks.length - m) (T.leave o) [] = r at q1 q2 q3 g1 g2 ⊢
      obtain ⟨T2, came⟩ := r
      simp only at q1 q2 q3 g1 g2 ⊢
      have hk2 : T2.keys o = ks.take (ks.length - (ks.length - m)) := by unfold LT.keys; rw [g2]
      have hmass : ∀ P : List (Nat × (List ByteArray × ByteArray)), LT.mass ⟨T2.locks, P⟩ = T2.mass := fun _ => rfl
      split
      · rename_i h0
        refine ⟨fun o' ks2 w2 hg2 => ?_, by rw [hmass]; omega, fun h1 h2 _ => ?_, fun n hn => ?_⟩
        · simp only [mget_mdel g1.ndP] at hg2
          split at hg2
          · cases hg2
          · rename_i hne
            rcases q2 o' ks2 w2 hg2 with h | h
            · exact absurd h.symm hne
            · exact h
        · have := m2 h1
          rw [hmass]
          omega
        · obtain ⟨c1, c2, c3⟩ := q3 n hn
          have : mget (mdel T2.parties o) n = mget T2.parties n := by rw [mget_mdel g1.ndP, if_neg (Ne.symm c1)]
          simp only [LT.waits, LT.keys] at c2 c3 ⊢
          rw [this]
          exact ⟨c2, c3⟩
      · rename_i h0
        refine ⟨fun o' ks2 w2 hg2 => ?_, by omega, fun h1 h2 _ => ?_, fun n hn => (q3 n hn).2⟩
        · rcases q2 o' ks2 w2 hg2 with h | h
          · subst h
            rw [g2] at hg2
            simp only [Option.some.injEq, Prod.mk.injEq] at hg2
            left
            rw [← hg2.1]
            intro he
            rw [hk2, he] at h0
            exact h0 rfl
          · exact h
        · have := m2 h1
          omega
end Go.Proofs.Ytckajlllkmkniaa
end
