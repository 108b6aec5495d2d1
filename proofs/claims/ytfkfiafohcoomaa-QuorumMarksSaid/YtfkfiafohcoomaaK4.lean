/-
  Texts of the proof, merged: Q5 Q6 Q7 Q15 Qp SyNew SyNil Q18 Ex ExR ExA ExB ExC ExD ExE.
-/
import Derived.Sort.AssemblyPlain
import Derived.Sort.LotD5
import Derived.Laws.Tables
import Derived.Laws.BytesString
import Derived.Test.YtfkfiafohcoomaaK3
set_option linter.unusedVariables false
set_option linter.unusedSimpArgs false
section
namespace Go.Proofs.Ytfkfiafohcoomaa
open Go Go.Sy
def leastB (k : Int) (l : List (Int × Int)) : Nat → Int
  | 0 => -1
  | i + 1 => if (haveP l (l.getD i (0, 0)) : Int) ≥ k ∧ (leastB k l i < 0 ∨ uptoP (l.getD (leastB k l i).toNat (0, 0)) (l.getD i (0, 0)) = true) then i else leastB k l i
theorem leastB_ge (k : Int) (l : List (Int × Int)) : ∀ i, -1 ≤ leastB k l i
  | 0 => by simp [leastB]
  | i + 1 => by
    have := leastB_ge k l i
    unfold leastB
    split <;> omega
theorem leastB_lt (k : Int) (l : List (Int × Int)) : ∀ i : Nat, leastB k l i < i
  | 0 => by simp [leastB]
  | i + 1 => by
    have := leastB_lt k l i
    unfold leastB
    split <;> omega
theorem getD_of {l : List (Int × Int)} {i : Nat} {a : Int × Int} (h : l[i]? = some a) : l.getD i (0, 0) = a := by simp [List.getD, h]
theorem leastB_new {k : Int} {l : List (Int × Int)} {i : Nat} {a : Int × Int} (h : l[i]? = some a) (h1 : k ≤ (haveP l a : Int)) (h2 : leastB k l i < 0 ∨ ∃ b, l[(leastB k l i).toNat]? = some b ∧ uptoP b a = true) : leastB k l (i + 1) = i := by
  rw [leastB, if_pos]
  refine ⟨by rw [getD_of h]; exact h1, ?_⟩
  rcases h2 with h2 | ⟨b, h2, h3⟩
  · exact .inl h2
  · exact .inr (by rw [getD_of h2, getD_of h]; exact h3)
theorem leastB_old {k : Int} {l : List (Int × Int)} {i : Nat} {a : Int × Int} (h : l[i]? = some a) (h1 : (haveP l a : Int) < k ∨ ∃ b, 0 ≤ leastB k l i ∧ l[(leastB k l i).toNat]? = some b ∧ uptoP b a = false) : leastB k l (i + 1) = leastB k l i := by
  rw [leastB, if_neg]
  rintro ⟨g1, g2⟩
  rw [getD_of h] at g1 g2
  rcases h1 with h1 | ⟨b, h0, h1, h3⟩
  · omega
  · rw [getD_of h1, h3] at g2
    rcases g2 with g2 | g2
    · omega
    · cases g2
def leastR (k : Int) (l : List (Int × Int)) : (Int × Int) × Bool := if k < 1 ∨ leastB k l l.length < 0 then ((0, 0), false) else (l.getD (leastB k l l.length).toNat (0, 0), true)
set_option maxRecDepth 100000 in
set_option maxHeartbeats 0 in
theorem rleast_spec (ro : Bool) (k : Int) (l : List (Int × Int)) (hl : l.length < 4611686018427387904) : Ctr Try.prog 10 [.sc (.int .i64 k), .slu 0 0 l.length] [plR ro l] (fun c => c = ⟨.tup [plS (leastR k l).1, .sc (.bool (leastR k l).2)], [some (plR ro l)]⟩) := by
  refine Fnc.start Try.func10 rfl rfl ?_
  (repeat (first | refine y_seq ?_ | refine w_region ?_ | refine y_regEnd ?_ | refine y_block ?_ | refine w_assign rfl rfl rfl ?_ | refine w_alloc rfl rfl (F.zl _ rfl) ?_))
  refine y_loopC 2 (fun i : Nat => [(0, .sc (.int .i64 k)), (1, .slu 0 0 l.length), (4, .ptr 1 0), (6, .sc (.int .i64 (leastB k l i))), (7, .sc (.int .i64 (i : Int)))]) (fun _ => [some (plR ro l), some (newCells 25 [.sc (.int .u64 0), .sc (.int .u64 0)])]) (fun i => i ≤ l.length ∧ (k < 1 → i = 0)) (fun i => l.length - i) 0 [1]
    (fun _ => rfl) ⟨Nat.zero_le _, fun _ => rfl⟩ ?_ (fun _ => rfl) (fun _ => rfl) ?_
  · (refine ⟨(ExtOk.of rfl), rfl, (by repeat (first | exact trivial | refine ⟨rfl, ?_⟩)), (by repeat (first | exact trivial | refine ⟨at_dat rfl, ?_⟩ | refine ⟨at_box rfl, ?_⟩))⟩)
  rintro i ⟨hi, hi0⟩ ih
  have hge := leastB_ge k l i
  have hlt := leastB_lt k l i
  (repeat (first | refine y_seq ?_ | refine w_region ?_ | refine w_move rfl rfl rfl ?_ | refine w_lenSl rfl rfl rfl (F.un _ rfl) ?_))
  refine w_lssS rfl rfl rfl rfl ?_ ?_
  all_goals intro h1
  · (repeat (refine w_move rfl rfl rfl ?_))
    refine w_geqS rfl rfl rfl rfl ?_ ?_
    all_goals intro hk
    · obtain ⟨a, ha⟩ : ∃ a, l[i]? = some a := ⟨_, List.getElem?_eq_getElem (by omega)⟩
      (repeat (first | refine y_seq ?_ | refine y_regEnd ?_ | refine y_block ?_ | refine y_skip ?_ | refine y_condT rfl ?_ | refine w_pickT rfl rfl rfl rfl ?_))
      refine w_draw (by kernel_rfl) (by kernel_rfl) ?_
      (repeat (first | refine dw_move rfl rfl rfl ?_ | refine dw_index rfl rfl rfl rfl (F.un _ rfl) (F.sz _ rfl) rfl (by omega) (by omega) (by omega) ?_ | (refine dw_loadDN rfl rfl rfl (F.ag _ rfl) rfl (show _ = plV a by simpa using flat_one plV_len ha) rfl (by simp; omega) ?_) | refine dk_call rfl rfl rfl (by kernel_rfl) (Ctr.callV (have_spec ro l a hl) [0] rfl (ExtOk.of rfl) rfl (by repeat (first | exact trivial | refine ⟨at_dat rfl, ?_⟩)) rfl) ?_))
      refine dw_geqS rfl rfl rfl rfl ?_ ?_
      all_goals intro h2
      · (repeat (refine dw_move rfl rfl rfl ?_))
        refine dw_lssS rfl rfl rfl rfl ?_ ?_
        all_goals intro h3
        · (repeat (first | refine dw_move rfl rfl rfl ?_ | refine dw_pickT rfl rfl rfl rfl ?_ | refine dk_skip rfl rfl ?_))
          (refine dk_nil ?_); (refine ⟨by kernel_rfl, ?_, ?_⟩); (focus (repeat (first | exact trivial | refine ⟨.inl rfl, ?_⟩ | refine ⟨.inr (by (repeat (refine ⟨(by first | exact rd_idxN (F.un _ rfl) (F.sz _ rfl) rfl rfl rfl (by omega) (by omega) (by omega) | exact rd_arith rfl rfl (.inl ⟨rfl, (Go.IntWalk.i64_in _ ⟨by omega, by omega⟩).symm⟩) | exact rd_arith rfl rfl (.inr (.inl ⟨rfl, (Go.IntWalk.i64_in _ ⟨by omega, by omega⟩).symm⟩)) | exact rd_fieldAddr (F.fo _ _ rfl rfl) rfl | exact rd_move rfl | exact rd_assign rfl | exact rd_load1 (F.ag _ rfl) rfl rfl (cell_box rfl) | exact rd_loadN (F.ag _ rfl) rfl rfl (cellsFrom_box _ 0 rfl rfl) | exact rd_extract rfl rfl | exact rd_lenSl (F.un _ rfl) rfl | exact rd_lenStr (F.un _ rfl) rfl | exact rd_nilCheck rfl | exact rd_pickT rfl rfl | exact rd_pickF rfl rfl), ?_⟩)); exact trivial), ?_⟩ | refine ⟨.inl (by kernel_rfl), ?_⟩)))
          (repeat (first | refine w_region ?_ | refine y_regEnd ?_ | refine y_inBlock ?_ | refine y_condT rfl ?_ | refine w_move rfl rfl rfl ?_ | refine w_assign rfl rfl rfl ?_ | refine w_add rfl rfl rfl rfl (by omega) (by omega) ?_))
          refine ih _ _ _ (i + 1) [1] ⟨by omega, fun _ => by omega⟩ (by omega) ?_
          rw [leastB_new ha h2 (.inl h3)]
          (refine ⟨(ExtOk.of rfl), rfl, (by repeat (first | exact trivial | refine ⟨rfl, ?_⟩)), (by repeat (first | exact trivial | refine ⟨at_dat rfl, ?_⟩ | refine ⟨at_box rfl, ?_⟩))⟩)
        · obtain ⟨b, hb⟩ : ∃ b, l[(leastB k l i).toNat]? = some b := ⟨_, List.getElem?_eq_getElem (by omega)⟩
          have hc := upto_spec b a
          cases hu : uptoP b a
          all_goals rw [hu] at hc
          all_goals (repeat (first | refine dw_move rfl rfl rfl ?_ | refine dw_pickT rfl rfl rfl rfl ?_ | refine dw_pickF rfl rfl rfl rfl ?_ | refine dw_index rfl rfl rfl rfl (F.un _ rfl) (F.sz _ rfl) rfl (by omega) (by omega) (by omega) ?_ | (refine dw_loadDN rfl rfl rfl (F.ag _ rfl) rfl (show _ = plV a by simpa using flat_one plV_len ha) rfl (by simp; omega) ?_) | (refine dw_loadDN rfl rfl rfl (F.ag _ rfl) rfl (show _ = plV b by simpa using flat_one plV_len hb) rfl (by simp; omega) ?_) | refine dk_call rfl rfl rfl (by kernel_rfl) (Ctr.callV (hc) [] rfl (ExtOk.of rfl) rfl trivial rfl) ?_))
          all_goals refine dk_nil ?_
          all_goals refine ⟨by kernel_rfl, ?_, ?_⟩
          · (repeat (first | exact trivial | refine ⟨.inl rfl, ?_⟩ | refine ⟨.inr (by (repeat (refine ⟨(by first | exact rd_idxN (F.un _ rfl) (F.sz _ rfl) rfl rfl rfl (by omega) (by omega) (by omega) | exact rd_arith rfl rfl (.inl ⟨rfl, (Go.IntWalk.i64_in _ ⟨by omega, by omega⟩).symm⟩) | exact rd_arith rfl rfl (.inr (.inl ⟨rfl, (Go.IntWalk.i64_in _ ⟨by omega, by omega⟩).symm⟩)) | exact rd_fieldAddr (F.fo _ _ rfl rfl) rfl | exact rd_move rfl | exact rd_assign rfl | exact rd_load1 (F.ag _ rfl) rfl rfl (cell_box rfl) | exact rd_loadN (F.ag _ rfl) rfl rfl (cellsFrom_box _ 0 rfl rfl) | exact rd_extract rfl rfl | exact rd_lenSl (F.un _ rfl) rfl | exact rd_lenStr (F.un _ rfl) rfl | exact rd_nilCheck rfl | exact rd_pickT rfl rfl | exact rd_pickF rfl rfl), ?_⟩)); exact trivial), ?_⟩ | refine ⟨.inl (by kernel_rfl), ?_⟩))
          · (repeat (first | refine w_region ?_ | refine y_regEnd ?_ | refine y_inBlock ?_ | refine y_skip ?_ | refine y_condF rfl ?_ | refine w_move rfl rfl rfl ?_ | refine w_assign rfl rfl rfl ?_ | refine w_add rfl rfl rfl rfl (by omega) (by omega) ?_))
            refine ih _ _ _ (i + 1) [1] ⟨by omega, fun _ => by omega⟩ (by omega) ?_
            rw [leastB_old ha (.inr ⟨b, by omega, hb, hu⟩)]
            (refine ⟨(ExtOk.of rfl), rfl, (by repeat (first | exact trivial | refine ⟨rfl, ?_⟩)), (by repeat (first | exact trivial | refine ⟨at_dat rfl, ?_⟩ | refine ⟨at_box rfl, ?_⟩))⟩)
          · (repeat (first | exact trivial | refine ⟨.inl rfl, ?_⟩ | refine ⟨.inr (by (repeat (refine ⟨(by first | exact rd_idxN (F.un _ rfl) (F.sz _ rfl) rfl rfl rfl (by omega) (by omega) (by omega) | exact rd_arith rfl rfl (.inl ⟨rfl, (Go.IntWalk.i64_in _ ⟨by omega, by omega⟩).symm⟩) | exact rd_arith rfl rfl (.inr (.inl ⟨rfl, (Go.IntWalk.i64_in _ ⟨by omega, by omega⟩).symm⟩)) | exact rd_fieldAddr (F.fo _ _ rfl rfl) rfl | exact rd_move rfl | exact rd_assign rfl | exact rd_load1 (F.ag _ rfl) rfl rfl (cell_box rfl) | exact rd_loadN (F.ag _ rfl) rfl rfl (cellsFrom_box _ 0 rfl rfl) | exact rd_extract rfl rfl | exact rd_lenSl (F.un _ rfl) rfl | exact rd_lenStr (F.un _ rfl) rfl | exact rd_nilCheck rfl | exact rd_pickT rfl rfl | exact rd_pickF rfl rfl), ?_⟩)); exact trivial), ?_⟩ | refine ⟨.inl (by kernel_rfl), ?_⟩))
          · (repeat (first | refine w_region ?_ | refine y_regEnd ?_ | refine y_inBlock ?_ | refine y_condT rfl ?_ | refine w_move rfl rfl rfl ?_ | refine w_assign rfl rfl rfl ?_ | refine w_add rfl rfl rfl rfl (by omega) (by omega) ?_))
            refine ih _ _ _ (i + 1) [1] ⟨by omega, fun _ => by omega⟩ (by omega) ?_
            rw [leastB_new ha h2 (.inr ⟨b, hb, hu⟩)]
            (refine ⟨(ExtOk.of rfl), rfl, (by repeat (first | exact trivial | refine ⟨rfl, ?_⟩)), (by repeat (first | exact trivial | refine ⟨at_dat rfl, ?_⟩ | refine ⟨at_box rfl, ?_⟩))⟩)
      · (repeat (first | refine dw_move rfl rfl rfl ?_ | refine dw_pickF rfl rfl rfl rfl ?_ | refine dk_skip rfl rfl ?_))
        (refine dk_nil ?_); (refine ⟨by kernel_rfl, ?_, ?_⟩); (focus (repeat (first | exact trivial | refine ⟨.inl rfl, ?_⟩ | refine ⟨.inr (by (repeat (refine ⟨(by first | exact rd_idxN (F.un _ rfl) (F.sz _ rfl) rfl rfl rfl (by omega) (by omega) (by omega) | exact rd_arith rfl rfl (.inl ⟨rfl, (Go.IntWalk.i64_in _ ⟨by omega, by omega⟩).symm⟩) | exact rd_arith rfl rfl (.inr (.inl ⟨rfl, (Go.IntWalk.i64_in _ ⟨by omega, by omega⟩).symm⟩)) | exact rd_fieldAddr (F.fo _ _ rfl rfl) rfl | exact rd_move rfl | exact rd_assign rfl | exact rd_load1 (F.ag _ rfl) rfl rfl (cell_box rfl) | exact rd_loadN (F.ag _ rfl) rfl rfl (cellsFrom_box _ 0 rfl rfl) | exact rd_extract rfl rfl | exact rd_lenSl (F.un _ rfl) rfl | exact rd_lenStr (F.un _ rfl) rfl | exact rd_nilCheck rfl | exact rd_pickT rfl rfl | exact rd_pickF rfl rfl), ?_⟩)); exact trivial), ?_⟩ | refine ⟨.inl (by kernel_rfl), ?_⟩)))
        (repeat (first | refine w_region ?_ | refine y_regEnd ?_ | refine y_inBlock ?_ | refine y_skip ?_ | refine y_condF rfl ?_ | refine w_move rfl rfl rfl ?_ | refine w_assign rfl rfl rfl ?_ | refine w_add rfl rfl rfl rfl (by omega) (by omega) ?_))
        refine ih _ _ _ (i + 1) [1] ⟨by omega, fun _ => by omega⟩ (by omega) ?_
        rw [leastB_old ha (.inl h2)]
        (refine ⟨(ExtOk.of rfl), rfl, (by repeat (first | exact trivial | refine ⟨rfl, ?_⟩)), (by repeat (first | exact trivial | refine ⟨at_dat rfl, ?_⟩ | refine ⟨at_box rfl, ?_⟩))⟩)
    · obtain rfl := hi0 hk
      (repeat (first | refine y_seq ?_ | refine w_region ?_ | refine y_regEnd ?_ | refine y_exit rfl ?_ | refine y_condF rfl ?_ | refine w_move rfl rfl rfl ?_ | refine w_pickT rfl rfl rfl rfl ?_))
      refine w_lssS rfl rfl rfl rfl ?_ ?_
      all_goals intro h4
      · (repeat (first | refine y_seq ?_ | refine w_region ?_ | refine y_regEnd ?_ | refine y_condT rfl ?_ | refine w_assign rfl rfl rfl ?_ | refine w_storeN rfl rfl rfl (F.sz _ rfl) rfl rfl (by decide) rfl rfl ?_ | refine w_build rfl rfl rfl (F.ze _ rfl) (F.pl _ rfl) rfl ?_))
        (apply w_ret Try.func10 (congrArg Array.toList Try.results10); (focus (repeat (first | exact ResIs.nil | apply ResIs.tmp rfl | apply ResIs.cell rfl (LoadIs.many (F.ag _ rfl) rfl (cellsFrom_box _ 0 rfl rfl))))))
        refine ⟨_, rfl, Ends.mk [] (ExtOk.of rfl) rfl ?_ ?_⟩
        · simp only [leastR]; rw [if_pos (.inl hk)]; rfl
        · exact (by repeat (first | exact trivial | refine ⟨at_dat rfl, ?_⟩))
      · exact absurd h4 (by simp [leastB])
  · (repeat (first | refine y_seq ?_ | refine w_region ?_ | refine y_regEnd ?_ | refine y_exit rfl ?_ | refine y_condF rfl ?_ | refine w_move rfl rfl rfl ?_ | refine w_pickF rfl rfl rfl rfl ?_ | refine w_not rfl ?_))
    obtain rfl : i = l.length := by omega
    refine w_lssS rfl rfl rfl rfl ?_ ?_
    all_goals intro h4
    · (repeat (first | refine y_seq ?_ | refine w_region ?_ | refine y_regEnd ?_ | refine y_condT rfl ?_ | refine w_assign rfl rfl rfl ?_ | refine w_storeN rfl rfl rfl (F.sz _ rfl) rfl rfl (by decide) rfl rfl ?_ | refine w_build rfl rfl rfl (F.ze _ rfl) (F.pl _ rfl) rfl ?_))
      (apply w_ret Try.func10 (congrArg Array.toList Try.results10); (focus (repeat (first | exact ResIs.nil | apply ResIs.tmp rfl | apply ResIs.cell rfl (LoadIs.many (F.ag _ rfl) rfl (cellsFrom_box _ 0 rfl rfl))))))
      refine ⟨_, rfl, Ends.mk [] (ExtOk.of rfl) rfl ?_ ?_⟩
      · simp only [leastR]; rw [if_pos (.inr h4)]; rfl
      · exact (by repeat (first | exact trivial | refine ⟨at_dat rfl, ?_⟩))
    · obtain ⟨b, hb⟩ : ∃ b, l[(leastB k l l.length).toNat]? = some b := ⟨_, List.getElem?_eq_getElem (by omega)⟩
      (repeat (first | (first | refine y_seq ?_ | refine w_region ?_ | refine y_regEnd ?_ | refine y_skip ?_ | refine y_condF rfl ?_ | refine w_move rfl rfl rfl ?_ | refine w_assign rfl rfl rfl ?_ | refine w_storeN rfl rfl rfl (F.sz _ rfl) rfl rfl (by decide) rfl rfl ?_) | refine w_index rfl rfl rfl rfl (F.un _ rfl) (F.sz _ rfl) rfl (by omega) (by omega) (by omega) ?_ | (refine w_loadDN rfl rfl rfl (F.ag _ rfl) rfl (show _ = plV b by simpa using flat_one plV_len hb) rfl (by simp; omega) ?_)))
      (apply w_ret Try.func10 (congrArg Array.toList Try.results10); (focus (repeat (first | exact ResIs.nil | apply ResIs.tmp rfl | apply ResIs.cell rfl (LoadIs.many (F.ag _ rfl) rfl (cellsFrom_box _ 0 rfl rfl))))))
      refine ⟨_, rfl, Ends.mk [] (ExtOk.of rfl) rfl ?_ ?_⟩
      · have hk : ¬ k < 1 := fun h => by have := hi0 h; rw [this] at h4; simp [leastB] at h4
        simp only [leastR]; rw [if_neg (by omega), getD_of hb]; rfl
      · exact (by repeat (first | exact trivial | refine ⟨at_dat rfl, ?_⟩))
end Go.Proofs.Ytfkfiafohcoomaa
end
section
namespace Go.Proofs.Ytfkfiafohcoomaa
open Go Go.Sy
def chooseB (l : List (Int × Int)) : Nat → Int
  | 0 => -1
  | i + 1 => if chooseB l i < 0 ∨ lessP (l.getD (chooseB l i).toNat (0, 0)) (l.getD i (0, 0)) = true then i else chooseB l i
theorem chooseB_ge (l : List (Int × Int)) : ∀ i, -1 ≤ chooseB l i
  | 0 => by simp [chooseB]
  | i + 1 => by
    have := chooseB_ge l i
    unfold chooseB
    split <;> omega
theorem chooseB_lt (l : List (Int × Int)) : ∀ i : Nat, chooseB l i < i
  | 0 => by simp [chooseB]
  | i + 1 => by
    have := chooseB_lt l i
    unfold chooseB
    split <;> omega
theorem chooseB_new {l : List (Int × Int)} {i : Nat} {a : Int × Int} (h : l[i]? = some a) (h2 : chooseB l i < 0 ∨ ∃ b, l[(chooseB l i).toNat]? = some b ∧ lessP b a = true) : chooseB l (i + 1) = i := by
  rw [chooseB, if_pos]
  rcases h2 with h2 | ⟨b, h2, h3⟩
  · exact .inl h2
  · exact .inr (by rw [getD_of h2, getD_of h]; exact h3)
theorem chooseB_old {l : List (Int × Int)} {i : Nat} {a b : Int × Int} (h : l[i]? = some a) (h0 : 0 ≤ chooseB l i) (h1 : l[(chooseB l i).toNat]? = some b) (h3 : lessP b a = false) : chooseB l (i + 1) = chooseB l i := by
  rw [chooseB, if_neg]
  rintro (g2 | g2)
  · omega
  · rw [getD_of h1, getD_of h, h3] at g2; cases g2
def chooseP (l : List (Int × Int)) : Int := chooseB l l.length
set_option maxRecDepth 100000 in
set_option maxHeartbeats 0 in
theorem choose_spec (ro : Bool) (l : List (Int × Int)) (hl : l.length < 4611686018427387904) : Ctr Try.prog 11 [.slu 0 0 l.length] [plR ro l] (fun c => c = ⟨.sc (.int .i64 (chooseP l)), [some (plR ro l)]⟩) := by
  refine Fnc.start Try.func11 rfl rfl ?_
  (repeat (first | refine y_seq ?_ | refine w_region ?_ | refine y_regEnd ?_ | refine y_block ?_ | refine w_move rfl rfl rfl ?_ | refine w_assign rfl rfl rfl ?_ | refine w_lenSl rfl rfl rfl (F.un _ rfl) ?_))
  refine y_loopC 1 (fun i : Nat => [(0, .slu 0 0 l.length), (3, .sc (.int .i64 (chooseB l i))), (6, .slu 0 0 l.length), (7, .sc (.int .i64 (l.length : Int))), (8, .sc (.int .i64 (i : Int)))]) (fun _ => [some (plR ro l)]) (fun i => i ≤ l.length) (fun i => l.length - i) 0 []
    (fun _ => rfl) (Nat.zero_le _) ?_ (fun _ => rfl) (fun _ => rfl) ?_
  · (refine ⟨(ExtOk.of rfl), rfl, (by repeat (first | exact trivial | refine ⟨rfl, ?_⟩)), (by repeat (first | exact trivial | refine ⟨at_dat rfl, ?_⟩))⟩)
  intro i hi ih
  have hge := chooseB_ge l i
  have hlt := chooseB_lt l i
  (repeat (first | refine y_seq ?_ | refine w_region ?_))
  refine w_lssS rfl rfl rfl rfl ?_ ?_
  all_goals intro h1
  · obtain ⟨a, ha⟩ : ∃ a, l[i]? = some a := ⟨_, List.getElem?_eq_getElem (by omega)⟩
    (repeat (first | (first | refine y_seq ?_ | refine w_region ?_ | refine y_regEnd ?_ | refine y_block ?_ | refine y_skip ?_ | refine y_condT rfl ?_ | refine w_move rfl rfl rfl ?_ | refine w_assign rfl rfl rfl ?_ | refine w_alloc rfl rfl (F.zl _ rfl) ?_ | refine w_storeN rfl rfl rfl (F.sz _ rfl) rfl rfl (by decide) rfl rfl ?_) | refine w_index rfl rfl rfl rfl (F.un _ rfl) (F.sz _ rfl) rfl (by omega) (by omega) (by omega) ?_ | (refine w_loadDN rfl rfl rfl (F.ag _ rfl) rfl (show _ = plV a by simpa using flat_one plV_len ha) rfl (by simp; omega) ?_)))
    refine w_draw (by kernel_rfl) (by kernel_rfl) ?_
    (repeat (refine dw_move rfl rfl rfl ?_))
    refine dw_lssS rfl rfl rfl rfl ?_ ?_
    all_goals intro h3
    · (repeat (first | refine dw_move rfl rfl rfl ?_ | refine dw_pickT rfl rfl rfl rfl ?_ | refine dk_skip rfl rfl ?_))
      (refine dk_nil ?_); (refine ⟨by kernel_rfl, ?_, ?_⟩); (focus (repeat (first | exact trivial | refine ⟨.inl rfl, ?_⟩)))
      (repeat (first | refine w_region ?_ | refine y_regEnd ?_ | refine y_inBlock ?_ | refine y_condT rfl ?_ | refine w_move rfl rfl rfl ?_ | refine w_assign rfl rfl rfl ?_ | refine w_add rfl rfl rfl rfl (by omega) (by omega) ?_))
      refine ih _ _ _ (i + 1) [] (by omega) (by omega) ?_
      rw [chooseB_new ha (.inl h3)]
      (refine ⟨(ExtOk.of rfl), rfl, (by repeat (first | exact trivial | refine ⟨rfl, ?_⟩)), (by repeat (first | exact trivial | refine ⟨at_dat rfl, ?_⟩))⟩)
    · obtain ⟨b, hb⟩ : ∃ b, l[(chooseB l i).toNat]? = some b := ⟨_, List.getElem?_eq_getElem (by omega)⟩
      have hc := less_spec b a
      cases hu : lessP b a
      all_goals rw [hu] at hc
      all_goals (repeat (first | refine dw_move rfl rfl rfl ?_ | refine dw_pickF rfl rfl rfl rfl ?_ | refine dw_loadBN rfl rfl rfl (F.ag _ rfl) rfl rfl ?_ | refine dw_index rfl rfl rfl rfl (F.un _ rfl) (F.sz _ rfl) rfl (by omega) (by omega) (by omega) ?_ | (refine dw_loadDN rfl rfl rfl (F.ag _ rfl) rfl (show _ = plV b by simpa using flat_one plV_len hb) rfl (by simp; omega) ?_) | refine dk_call rfl rfl rfl (by kernel_rfl) (Ctr.callV (hc) [] rfl (ExtOk.of rfl) rfl trivial rfl) ?_))
      all_goals refine dk_nil ?_
      all_goals refine ⟨by kernel_rfl, ?_, ?_⟩
      · (repeat (first | exact trivial | refine ⟨.inl rfl, ?_⟩ | refine ⟨.inr (by (repeat (refine ⟨(by first | exact rd_idxN (F.un _ rfl) (F.sz _ rfl) rfl rfl rfl (by omega) (by omega) (by omega) | exact rd_arith rfl rfl (.inl ⟨rfl, (Go.IntWalk.i64_in _ ⟨by omega, by omega⟩).symm⟩) | exact rd_arith rfl rfl (.inr (.inl ⟨rfl, (Go.IntWalk.i64_in _ ⟨by omega, by omega⟩).symm⟩)) | exact rd_fieldAddr (F.fo _ _ rfl rfl) rfl | exact rd_move rfl | exact rd_assign rfl | exact rd_load1 (F.ag _ rfl) rfl rfl (cell_box rfl) | exact rd_loadN (F.ag _ rfl) rfl rfl (cellsFrom_box _ 0 rfl rfl) | exact rd_extract rfl rfl | exact rd_lenSl (F.un _ rfl) rfl | exact rd_lenStr (F.un _ rfl) rfl | exact rd_nilCheck rfl | exact rd_pickT rfl rfl | exact rd_pickF rfl rfl), ?_⟩)); exact trivial), ?_⟩ | refine ⟨.inl (by kernel_rfl), ?_⟩))
      · (repeat (first | refine w_region ?_ | refine y_regEnd ?_ | refine y_inBlock ?_ | refine y_skip ?_ | refine y_condF rfl ?_ | refine w_move rfl rfl rfl ?_ | refine w_add rfl rfl rfl rfl (by omega) (by omega) ?_))
        refine ih _ _ _ (i + 1) [] (by omega) (by omega) ?_
        rw [chooseB_old ha h3 hb hu]
        (refine ⟨(ExtOk.of rfl), rfl, (by repeat (first | exact trivial | refine ⟨rfl, ?_⟩)), (by repeat (first | exact trivial | refine ⟨at_dat rfl, ?_⟩))⟩)
      · (repeat (first | exact trivial | refine ⟨.inl rfl, ?_⟩ | refine ⟨.inr (by (repeat (refine ⟨(by first | exact rd_idxN (F.un _ rfl) (F.sz _ rfl) rfl rfl rfl (by omega) (by omega) (by omega) | exact rd_arith rfl rfl (.inl ⟨rfl, (Go.IntWalk.i64_in _ ⟨by omega, by omega⟩).symm⟩) | exact rd_arith rfl rfl (.inr (.inl ⟨rfl, (Go.IntWalk.i64_in _ ⟨by omega, by omega⟩).symm⟩)) | exact rd_fieldAddr (F.fo _ _ rfl rfl) rfl | exact rd_move rfl | exact rd_assign rfl | exact rd_load1 (F.ag _ rfl) rfl rfl (cell_box rfl) | exact rd_loadN (F.ag _ rfl) rfl rfl (cellsFrom_box _ 0 rfl rfl) | exact rd_extract rfl rfl | exact rd_lenSl (F.un _ rfl) rfl | exact rd_lenStr (F.un _ rfl) rfl | exact rd_nilCheck rfl | exact rd_pickT rfl rfl | exact rd_pickF rfl rfl), ?_⟩)); exact trivial), ?_⟩ | refine ⟨.inl (by kernel_rfl), ?_⟩))
      · (repeat (first | refine w_region ?_ | refine y_regEnd ?_ | refine y_inBlock ?_ | refine y_condT rfl ?_ | refine w_move rfl rfl rfl ?_ | refine w_assign rfl rfl rfl ?_ | refine w_add rfl rfl rfl rfl (by omega) (by omega) ?_))
        refine ih _ _ _ (i + 1) [] (by omega) (by omega) ?_
        rw [chooseB_new ha (.inr ⟨b, hb, hu⟩)]
        (refine ⟨(ExtOk.of rfl), rfl, (by repeat (first | exact trivial | refine ⟨rfl, ?_⟩)), (by repeat (first | exact trivial | refine ⟨at_dat rfl, ?_⟩))⟩)
  · (repeat (first | refine y_seq ?_ | refine w_region ?_ | refine y_regEnd ?_ | refine y_exit rfl ?_ | refine y_condF rfl ?_ | refine w_move rfl rfl rfl ?_ | refine w_assign rfl rfl rfl ?_))
    obtain rfl : i = l.length := by omega
    (apply w_ret Try.func11 (congrArg Array.toList Try.results11); (focus (repeat (first | exact ResIs.nil | apply ResIs.tmp rfl))))
    (refine ⟨_, rfl, Ends.val (ExtOk.of rfl) rfl ?_ ?_⟩)
    · rfl
    · exact (by repeat (first | exact trivial | refine ⟨at_dat rfl, ?_⟩))
end Go.Proofs.Ytfkfiafohcoomaa
end
section
namespace Go.Proofs.Ytfkfiafohcoomaa
open Go Go.Sy
abbrev rowP (n : Nat) (d : Array (Int × Int)) : VO := arr false n 2 25 plV d
theorem recP : RecOf plV 2 := ⟨fun _ => rfl, fun a v hv => by
  simp only [plV, List.mem_cons, List.not_mem_nil, or_false] at hv
  rcases hv with rfl | rfl <;> rfl⟩
def ltP (x y : Int × Int) : Bool := decide (ordP y x < 0)
abbrev cmpF : SV := .fn (.func 31) [] []
theorem swp_size {A : Type} [Inhabited A] (d : Array A) (i j : Nat) : (Sort.swp d i j).size = d.size := by simp [Sort.swp]
set_option maxRecDepth 100000 in
theorem cmp_spec (a b : Int × Int) : Ctr Try.prog 31 [plS a, plS b] [] (fun c => c = ⟨.sc (.int .i64 (ordP b a)), []⟩) := by
  refine Fnc.start Try.func31 rfl rfl ?_
  (repeat (first | (first | refine y_seq ?_ | refine w_region ?_ | refine y_regEnd ?_ | refine w_assign rfl rfl rfl ?_ | refine w_loadBN rfl rfl rfl (F.ag _ rfl) rfl rfl ?_ | refine w_boxN rfl rfl rfl ?_) | refine w_callV (order_spec b a) [] rfl rfl rfl (by kernel_rfl) rfl (ExtOk.of rfl) rfl trivial ?_))
  (apply w_ret Try.func31 (congrArg Array.toList Try.results31); (focus (repeat (first | exact ResIs.nil | apply ResIs.tmp rfl))))
  (refine ⟨_, rfl, Ends.val (ExtOk.of rfl) rfl ?_ ?_⟩)
  · rfl
  · trivial
set_option maxRecDepth 100000 in
set_option maxHeartbeats 0 in
theorem ins_spec (n a b : Nat) (d : Array (Int × Int)) (hn : n < 4611686018427387904) (hd : d.size = n) (hab : a ≤ b) (hb : b ≤ n) :
    Ctr Try.prog 53 [.slu 0 0 n, .sc (.int .i64 (a : Int)), .sc (.int .i64 (b : Int)), cmpF] [rowP n d] (fun c => c = ⟨.tup [], [some (rowP n (Sort.insertionSort ltP d a b))]⟩) := by
  refine Fnc.start Try.func53 rfl rfl ?_
  (repeat (first | refine y_seq ?_ | refine w_region ?_ | refine y_regEnd ?_ | refine y_block ?_ | refine w_move rfl rfl rfl ?_ | refine w_assign rfl rfl rfl ?_ | refine w_add rfl rfl rfl rfl (by omega) (by omega) ?_))
  refine y_loopC 1 (fun s : Nat × Array (Int × Int) => [(0, .slu 0 0 n), (1, .sc (.int .i64 (a : Int))), (2, .sc (.int .i64 (b : Int))), (3, cmpF), (8, .sc (.int .i64 (s.1 : Int)))]) (fun s => [some (rowP n s.2)]) (fun s => s.1 ≤ n + 1 ∧ a < s.1 ∧ s.2.size = n ∧ Sort.insOuter ltP a b s.1 s.2 = Sort.insertionSort ltP d a b) (fun s => n + 1 - s.1) (a + 1, d) []
    (fun _ => rfl) ⟨by omega, by omega, hd, rfl⟩ ?_ (fun _ => rfl) (fun _ => rfl) ?_
  · (refine ⟨(ExtOk.of rfl), rfl, (by repeat (first | exact trivial | refine ⟨rfl, ?_⟩)), (by repeat (first | exact trivial | refine ⟨at_dat rfl, ?_⟩))⟩)
  rintro ⟨i, d1⟩ ⟨hi, hai, hd1, ho⟩ ih
  simp only at hi hai hd1 ho ih ⊢
  (repeat (first | refine y_seq ?_ | refine w_region ?_ | refine w_move rfl rfl rfl ?_))
  refine w_lssS rfl rfl rfl rfl ?_ ?_
  all_goals intro h1
  · (repeat (first | refine y_seq ?_ | refine w_region ?_ | refine y_regEnd ?_ | refine y_block ?_ | refine y_skip ?_ | refine y_condT rfl ?_ | refine w_move rfl rfl rfl ?_ | refine w_assign rfl rfl rfl ?_))
    have ho2 : Sort.insOuter ltP a b (i + 1) (Sort.insInner ltP a i d1) = Sort.insertionSort ltP d a b := by
      rw [← ho]
      conv => rhs; rw [Sort.insOuter, if_pos (by omega)]
    refine y_loopC 1 (fun s : Nat × Array (Int × Int) => [(0, .slu 0 0 n), (1, .sc (.int .i64 (a : Int))), (2, .sc (.int .i64 (b : Int))), (3, cmpF), (8, .sc (.int .i64 (i : Int))), (9, .sc (.int .i64 (s.1 : Int)))]) (fun s => [some (rowP n s.2)]) (fun s => s.1 ≤ i ∧ s.2.size = n ∧ Sort.insInner ltP a s.1 s.2 = Sort.insInner ltP a i d1) (fun s => s.1) (i, d1) []
      (fun _ => rfl) ⟨by omega, hd1, rfl⟩ ?_ (fun _ => rfl) (fun _ => rfl) ?_
    · (refine ⟨(ExtOk.of rfl), rfl, (by repeat (first | exact trivial | refine ⟨rfl, ?_⟩)), (by repeat (first | exact trivial | refine ⟨at_dat rfl, ?_⟩))⟩)
    rintro ⟨j, d2⟩ ⟨hj, hd2, hin⟩ ihj
    simp only at hj hd2 hin ihj ⊢
    (repeat (refine y_seq ?_))
    refine w_draw (by kernel_rfl) (by kernel_rfl) ?_
    (repeat (refine dw_move rfl rfl rfl ?_))
    refine dw_gtrS rfl rfl rfl rfl ?_ ?_
    all_goals intro h2
    · obtain ⟨j, rfl⟩ : ∃ j', j = j' + 1 := ⟨j - 1, by omega⟩
      (repeat (first | refine dw_move rfl rfl rfl ?_ | refine dw_sub rfl rfl rfl rfl (by omega) (by omega) ?_ | refine dw_idxN (q := j + 1) rfl rfl rfl rfl (F.un _ rfl) (F.sz _ rfl) rfl (by omega) (by omega) (by omega) ?_ | refine dw_idxN (q := j) rfl rfl rfl rfl (F.un _ rfl) (F.sz _ rfl) rfl (by omega) (by omega) (by omega) ?_ | refine dw_ldR rfl rfl rfl (F.ag _ rfl) (recP) rfl (by first | omega | (simp only [Array.size_setIfInBounds, swp_size]; omega)) (by first | omega | (simp only [Array.size_setIfInBounds, swp_size]; omega)) ?_ | refine dk_callF rfl rfl rfl rfl (by kernel_rfl) rfl (Ctr.callV (cmp_spec d2[j + 1]! d2[j]!) [] rfl (ExtOk.of rfl) rfl trivial rfl) ?_))
      refine dw_lssS rfl rfl rfl rfl ?_ ?_
      all_goals intro h3
      · (repeat (refine dw_pickT rfl rfl rfl rfl ?_))
        (refine dk_nil ?_); (refine ⟨by kernel_rfl, ?_, ?_⟩); (focus (repeat (first | exact trivial | refine ⟨.inl rfl, ?_⟩ | refine ⟨.inr (by (repeat (refine ⟨(by first | exact rd_idxN (F.un _ rfl) (F.sz _ rfl) rfl rfl rfl (by omega) (by omega) (by omega) | exact rd_arith rfl rfl (.inl ⟨rfl, (Go.IntWalk.i64_in _ ⟨by omega, by omega⟩).symm⟩) | exact rd_arith rfl rfl (.inr (.inl ⟨rfl, (Go.IntWalk.i64_in _ ⟨by omega, by omega⟩).symm⟩)) | exact rd_fieldAddr (F.fo _ _ rfl rfl) rfl | exact rd_move rfl | exact rd_assign rfl | exact rd_load1 (F.ag _ rfl) rfl rfl (cell_box rfl) | exact rd_loadN (F.ag _ rfl) rfl rfl (cellsFrom_box _ 0 rfl rfl) | exact rd_extract rfl rfl | exact rd_lenSl (F.un _ rfl) rfl | exact rd_lenStr (F.un _ rfl) rfl | exact rd_nilCheck rfl | exact rd_pickT rfl rfl | exact rd_pickF rfl rfl), ?_⟩)); exact trivial), ?_⟩ | refine ⟨.inl (by kernel_rfl), ?_⟩)))
        (repeat (first | refine y_seq ?_ | refine y_block ?_ | refine y_skip ?_ | refine y_condT rfl ?_))
        refine w_draw (by kernel_rfl) (by kernel_rfl) ?_
        (repeat (first | refine dw_move rfl rfl rfl ?_ | refine dw_sub rfl rfl rfl rfl (by omega) (by omega) ?_ | refine dw_idxN (q := j + 1) rfl rfl rfl rfl (F.un _ rfl) (F.sz _ rfl) rfl (by omega) (by omega) (by omega) ?_ | refine dw_idxN (q := j) rfl rfl rfl rfl (F.un _ rfl) (F.sz _ rfl) rfl (by omega) (by omega) (by omega) ?_ | refine dw_ldR rfl rfl rfl (F.ag _ rfl) (recP) rfl (by first | omega | (simp only [Array.size_setIfInBounds, swp_size]; omega)) (by first | omega | (simp only [Array.size_setIfInBounds, swp_size]; omega)) ?_ | refine dw_stR rfl rfl rfl (recP) (F.sz _ rfl) rfl (by first | omega | (simp only [Array.size_setIfInBounds, swp_size]; omega)) (by first | omega | (simp only [Array.size_setIfInBounds, swp_size]; omega)) ?_))
        (refine dk_nil ?_); (refine ⟨by kernel_rfl, ?_, ?_⟩); (focus (repeat (first | exact trivial | refine ⟨.inl rfl, ?_⟩ | refine ⟨.inr (by (repeat (refine ⟨(by first | exact rd_idxN (F.un _ rfl) (F.sz _ rfl) rfl rfl rfl (by omega) (by omega) (by omega) | exact rd_arith rfl rfl (.inl ⟨rfl, (Go.IntWalk.i64_in _ ⟨by omega, by omega⟩).symm⟩) | exact rd_arith rfl rfl (.inr (.inl ⟨rfl, (Go.IntWalk.i64_in _ ⟨by omega, by omega⟩).symm⟩)) | exact rd_fieldAddr (F.fo _ _ rfl rfl) rfl | exact rd_move rfl | exact rd_assign rfl | exact rd_load1 (F.ag _ rfl) rfl rfl (cell_box rfl) | exact rd_loadN (F.ag _ rfl) rfl rfl (cellsFrom_box _ 0 rfl rfl) | exact rd_extract rfl rfl | exact rd_lenSl (F.un _ rfl) rfl | exact rd_lenStr (F.un _ rfl) rfl | exact rd_nilCheck rfl | exact rd_pickT rfl rfl | exact rd_pickF rfl rfl), ?_⟩)); exact trivial), ?_⟩ | refine ⟨.inl (by kernel_rfl), ?_⟩)))
        (repeat (first | refine w_region ?_ | refine y_regEnd ?_ | refine y_inBlock ?_ | refine w_move rfl rfl rfl ?_ | refine w_assign rfl rfl rfl ?_ | refine w_sub rfl rfl rfl rfl (by omega) (by omega) ?_))
        refine ihj _ _ _ (j, Sort.swp d2 (j + 1) j) [] ⟨by omega, by rw [swp_size]; exact hd2, ?_⟩ (by simp only; omega) ?_
        · rw [← hin]
          conv => rhs; rw [Sort.insInner, if_pos (by simp only [ltP, Bool.and_eq_true, decide_eq_true_eq]; exact ⟨by omega, h3⟩)]
        · (refine ⟨(ExtOk.of rfl), rfl, (by repeat (first | exact trivial | refine ⟨rfl, ?_⟩ | refine ⟨sl_eq (by first | omega | (simp only; omega)), ?_⟩)), (by repeat (first | exact trivial | refine ⟨at_dat rfl, ?_⟩))⟩)
      · (repeat (refine dw_pickT rfl rfl rfl rfl ?_))
        (refine dk_nil ?_); (refine ⟨by kernel_rfl, ?_, ?_⟩); (focus (repeat (first | exact trivial | refine ⟨.inl rfl, ?_⟩ | refine ⟨.inr (by (repeat (refine ⟨(by first | exact rd_idxN (F.un _ rfl) (F.sz _ rfl) rfl rfl rfl (by omega) (by omega) (by omega) | exact rd_arith rfl rfl (.inl ⟨rfl, (Go.IntWalk.i64_in _ ⟨by omega, by omega⟩).symm⟩) | exact rd_arith rfl rfl (.inr (.inl ⟨rfl, (Go.IntWalk.i64_in _ ⟨by omega, by omega⟩).symm⟩)) | exact rd_fieldAddr (F.fo _ _ rfl rfl) rfl | exact rd_move rfl | exact rd_assign rfl | exact rd_load1 (F.ag _ rfl) rfl rfl (cell_box rfl) | exact rd_loadN (F.ag _ rfl) rfl rfl (cellsFrom_box _ 0 rfl rfl) | exact rd_extract rfl rfl | exact rd_lenSl (F.un _ rfl) rfl | exact rd_lenStr (F.un _ rfl) rfl | exact rd_nilCheck rfl | exact rd_pickT rfl rfl | exact rd_pickF rfl rfl), ?_⟩)); exact trivial), ?_⟩ | refine ⟨.inl (by kernel_rfl), ?_⟩)))
        (repeat (first | refine w_region ?_ | refine y_regEnd ?_ | refine y_inBlock ?_ | refine y_exit rfl ?_ | refine y_condF rfl ?_ | refine w_move rfl rfl rfl ?_ | refine w_assign rfl rfl rfl ?_ | refine w_add rfl rfl rfl rfl (by omega) (by omega) ?_))
        have hin2 : Sort.insInner ltP a i d1 = d2 := by
          rw [← hin, Sort.insInner, if_neg (by simp only [ltP, Bool.and_eq_true, decide_eq_true_eq]; omega)]
        refine ih _ _ _ (i + 1, d2) [] ⟨by omega, by omega, hd2, by rw [← hin2]; exact ho2⟩ (by simp only; omega) ?_
        (refine ⟨(ExtOk.of rfl), rfl, (by repeat (first | exact trivial | refine ⟨rfl, ?_⟩)), (by repeat (first | exact trivial | refine ⟨at_dat rfl, ?_⟩))⟩)
    · (repeat (first | refine dw_move rfl rfl rfl ?_ | refine dw_pickF rfl rfl rfl rfl ?_ | refine dk_skip rfl rfl ?_))
      (refine dk_nil ?_); (refine ⟨by kernel_rfl, ?_, ?_⟩); (focus (repeat (first | exact trivial | refine ⟨.inl rfl, ?_⟩)))
      (repeat (first | refine w_region ?_ | refine y_regEnd ?_ | refine y_inBlock ?_ | refine y_exit rfl ?_ | refine y_condF rfl ?_ | refine w_move rfl rfl rfl ?_ | refine w_assign rfl rfl rfl ?_ | refine w_add rfl rfl rfl rfl (by omega) (by omega) ?_))
      have hin2 : Sort.insInner ltP a i d1 = d2 := by
        rw [← hin]
        cases j with
        | zero => rfl
        | succ j => rw [Sort.insInner, if_neg (by simp only [Bool.and_eq_true, decide_eq_true_eq]; omega)]
      refine ih _ _ _ (i + 1, d2) [] ⟨by omega, by omega, hd2, by rw [← hin2]; exact ho2⟩ (by simp only; omega) ?_
      (refine ⟨(ExtOk.of rfl), rfl, (by repeat (first | exact trivial | refine ⟨rfl, ?_⟩)), (by repeat (first | exact trivial | refine ⟨at_dat rfl, ?_⟩))⟩)
  · (repeat (first | refine y_regEnd ?_ | refine y_exit rfl ?_ | refine y_condF rfl ?_))
    have ho2 : d1 = Sort.insertionSort ltP d a b := by rw [← ho, Sort.insOuter, if_neg (by omega)]
    apply w_end Try.func53 (congrArg Array.toList Try.results53)
    (focus (repeat (exact ResIs.nil)))
    refine ⟨_, rfl, Ends.mk [] (ExtOk.of rfl) rfl rfl ?_⟩
    rw [← ho2]
    exact (by repeat (first | exact trivial | refine ⟨at_dat rfl, ?_⟩))
end Go.Proofs.Ytfkfiafohcoomaa
end
section
namespace Go.Proofs.Ytfkfiafohcoomaa
open Go Go.Sy
theorem sh8 (x : Nat) : Int.fdiv (x : Int) (2 ^ (min (Int.toNat 8) IntKind.u64.bits)) = ((x / 256 : Nat) : Int) := by
  have : (2 : Int) ^ (min (Int.toNat 8) IntKind.u64.bits) = 256 := by decide
  rw [this, Int.fdiv_eq_ediv_of_nonneg _ (by decide)]
  omega
def tabOk (s : ByteArray) : Bool := (List.range 256).all fun i => match s[i]? with
  | some v => v.toNat == Sort.bitsLen i
  | none => false
theorem tab_at {s : ByteArray} (h : tabOk s = true) {i : Nat} (hi : i < 256) : s[i]? = some (UInt8.ofNat (Sort.bitsLen i)) := by
  unfold tabOk at h
  rw [List.all_eq_true] at h
  have := h i (List.mem_range.2 hi)
  split at this
  · rename_i v hv
    rw [hv, ← (beq_iff_eq.1 this), UInt8.ofNat_toNat]
  · cases this
theorem bits_div (x : Nat) (h : 256 ≤ x) : Sort.bitsLen x = 8 + Sort.bitsLen (x / 256) := by
  have key : ∀ k, Sort.bitsLen (x / 256) ≤ k ↔ Sort.bitsLen x ≤ k + 8 := fun k => by
    rw [Sort.bitsLen_le_iff, Sort.bitsLen_le_iff, Nat.pow_add, Nat.div_lt_iff_lt_mul (by decide)]
  have h8 : ¬ Sort.bitsLen x ≤ 7 := by
    rw [Sort.bitsLen_le_iff]
    omega
  have h1 := (key (Sort.bitsLen (x / 256))).1 (Nat.le_refl _)
  have h2 := (key (Sort.bitsLen x - 8)).2 (by omega)
  omega
theorem bits16 {x : Nat} (h : x < 65536) : Sort.bitsLen x ≤ 16 := (Sort.bitsLen_le_iff x 16).2 h
theorem u8len {x : Nat} (h : x < 65536) : IntKind.i64.wrap (((UInt8.ofNat (Sort.bitsLen x)).toNat : Nat) : Int) = (Sort.bitsLen x : Int) := by
  have := bits16 h
  rw [UInt8.toNat_ofNat', Nat.mod_eq_of_lt (by omega), Go.IntWalk.i64_in _ ⟨by omega, by omega⟩]
set_option maxRecDepth 100000 in
set_option maxHeartbeats 0 in
theorem len64_spec (x : Nat) (hx : x < 65536) : Ctr Try.prog 62 [.sc (.int .u64 (x : Int))] [] (fun c => c = ⟨.sc (.int .i64 (Sort.bitsLen x : Int)), []⟩) := by
  have h16 := bits16 hx
  refine Fnc.start Try.func62 rfl rfl ?_
  (repeat (first | refine y_seq ?_ | refine w_region ?_ | refine y_regEnd ?_ | refine w_move rfl rfl rfl ?_ | refine w_assign rfl rfl rfl ?_))
  refine w_geqS rfl rfl rfl rfl ?_ ?_
  all_goals intro h1
  · exact absurd h1 (by omega)
  (repeat (first | refine y_seq ?_ | refine w_region ?_ | refine y_regEnd ?_ | refine y_skip ?_ | refine y_condF rfl ?_ | refine w_move rfl rfl rfl ?_))
  refine w_geqS rfl rfl rfl rfl ?_ ?_
  all_goals intro h2
  · exact absurd h2 (by omega)
  (repeat (first | refine y_seq ?_ | refine w_region ?_ | refine y_regEnd ?_ | refine y_skip ?_ | refine y_condF rfl ?_ | refine w_move rfl rfl rfl ?_))
  refine w_geqS rfl rfl rfl rfl ?_ ?_
  all_goals intro h3
  · have h17 := bits16 (x := x / 256) (by omega)
    (repeat (first | (first | refine y_seq ?_ | refine w_region ?_ | refine y_regEnd ?_ | refine y_condT rfl ?_ | refine w_move rfl rfl rfl ?_ | refine w_assign rfl rfl rfl ?_ | refine w_add rfl rfl rfl rfl (by omega) (by omega) ?_) | (refine w_shrC rfl rfl rfl rfl (by decide) (sh8 x) ?_) | refine w_conv rfl rfl rfl (F.un _ rfl) (F.un _ rfl) (show _ = ((x / 256 : Nat) : Int) from Go.IntWalk.u8_in _ ⟨by omega, by omega⟩) ?_ | (refine w_strAt rfl rfl rfl rfl (F.un _ rfl) (tab_at (by kernel_rfl) (show x / 256 < 256 by omega)) ?_) | refine w_conv rfl rfl rfl (F.un _ rfl) (F.un _ rfl) (u8len (x := x / 256) (by omega)) ?_))
    rw [bits_div x (by omega)]
    (apply w_ret Try.func62 (congrArg Array.toList Try.results62); (focus (repeat (first | exact ResIs.nil | apply ResIs.tmp rfl))))
    (refine ⟨_, rfl, Ends.val (ExtOk.of rfl) rfl ?_ ?_⟩)
    · simp
    · trivial
  · (repeat (first | (first | refine y_seq ?_ | refine w_region ?_ | refine y_regEnd ?_ | refine y_skip ?_ | refine y_condF rfl ?_ | refine w_move rfl rfl rfl ?_ | refine w_assign rfl rfl rfl ?_ | refine w_add rfl rfl rfl rfl (by omega) (by omega) ?_) | refine w_conv rfl rfl rfl (F.un _ rfl) (F.un _ rfl) (show _ = (x : Int) from Go.IntWalk.u8_in _ ⟨by omega, by omega⟩) ?_ | (refine w_strAt rfl rfl rfl rfl (F.un _ rfl) (tab_at (by kernel_rfl) (show x < 256 by omega)) ?_) | refine w_conv rfl rfl rfl (F.un _ rfl) (F.un _ rfl) (u8len (x := x) (by omega)) ?_))
    (apply w_ret Try.func62 (congrArg Array.toList Try.results62); (focus (repeat (first | exact ResIs.nil | apply ResIs.tmp rfl))))
    (refine ⟨_, rfl, Ends.val (ExtOk.of rfl) rfl ?_ ?_⟩)
    · simp
    · trivial
theorem len_spec (x : Nat) (hx : x < 65536) : Ctr Try.prog 43 [.sc (.int .u64 (x : Int))] [] (fun c => c = ⟨.sc (.int .i64 (Sort.bitsLen x : Int)), []⟩) := by
  refine Fnc.start Try.func43 rfl rfl ?_
  (repeat (first | (first | refine y_seq ?_ | refine w_region ?_ | refine y_regEnd ?_ | refine y_skip ?_ | refine y_condF rfl ?_ | refine w_move rfl rfl rfl ?_ | refine w_assign rfl rfl rfl ?_) | refine w_callV (len64_spec x hx) [] rfl rfl rfl (by kernel_rfl) rfl (ExtOk.of rfl) rfl trivial ?_))
  (apply w_ret Try.func43 (congrArg Array.toList Try.results43); (focus (repeat (first | exact ResIs.nil | apply ResIs.tmp rfl))))
  (refine ⟨_, rfl, Ends.val (ExtOk.of rfl) rfl ?_ ?_⟩)
  · rfl
  · trivial
end Go.Proofs.Ytfkfiafohcoomaa
end
section
namespace Go.Proofs.Ytfkfiafohcoomaa
open Go Go.Sy
theorem cmpI_neg {a b : Int} : cmpI a b < 0 ↔ a < b := by unfold cmpI; split <;> (try split) <;> omega
theorem cmpI_zero {a b : Int} : cmpI a b = 0 ↔ a = b := by unfold cmpI; split <;> (try split) <;> omega
theorem ordP_neg {a b : Int × Int} : ordP a b < 0 ↔ a.1 < b.1 ∨ (a.1 = b.1 ∧ a.2 < b.2) := by
  unfold ordP
  split
  · rename_i h
    rw [cmpI_zero] at h
    rw [cmpI_neg]
    omega
  · rename_i h
    rw [cmpI_zero] at h
    rw [cmpI_neg]
    omega
theorem lessP_iff {a b : Int × Int} : lessP a b = true ↔ a.1 < b.1 ∨ (a.1 = b.1 ∧ a.2 < b.2) := by simp [lessP, ordP_neg]
theorem uptoP_iff {a b : Int × Int} : uptoP a b = true ↔ a.1 < b.1 ∨ (a.1 = b.1 ∧ a.2 ≤ b.2) := by simp [uptoP]
theorem less_not (a b : Int × Int) : lessP a b = !uptoP b a := by
  rw [Bool.eq_iff_iff, Bool.not_eq_true', ← Bool.not_eq_true, lessP_iff, uptoP_iff]
  omega
theorem upto_refl (a : Int × Int) : uptoP a a = true := uptoP_iff.2 (by omega)
theorem upto_trans {a b c : Int × Int} (h : uptoP a b = true) (h' : uptoP b c = true) : uptoP a c = true := by
  rw [uptoP_iff] at h h' ⊢
  omega
theorem upto_anti {a b : Int × Int} (h : uptoP a b = true) (h' : uptoP b a = true) : a = b := by
  rw [uptoP_iff] at h h'
  exact Prod.ext (by omega) (by omega)
theorem upto_of_not {a b : Int × Int} (h : uptoP a b = false) : uptoP b a = true := by
  rw [← Bool.not_eq_true, uptoP_iff] at h
  rw [uptoP_iff]
  omega
theorem swoP : Sort.SWO ltP where
  irrefl := fun a => by
    rw [← Bool.not_eq_true]
    simp only [ltP, decide_eq_true_eq, ordP_neg]
    omega
  trans := fun a b c h h' => by
    simp only [ltP, decide_eq_true_eq, ordP_neg] at h h' ⊢
    omega
  ntrans := fun a b c h h' => by
    rw [← Bool.not_eq_true] at h h' ⊢
    simp only [ltP, decide_eq_true_eq, ordP_neg] at h h' ⊢
    omega
theorem have_sorted (p : Int × Int) : ∀ (ds : List (Int × Int)), ds.Pairwise (fun x y => uptoP y x = true) → ∀ k, k < haveP ds p ↔ ∃ a, ds[k]? = some a ∧ uptoP p a = true
  | [], _, k => by simp [haveP]
  | x :: t, h, k => by
    rw [List.pairwise_cons] at h
    have ih := have_sorted p t h.2
    cases hx : uptoP p x
    · have h0 : haveP (x :: t) p = 0 := by
        unfold haveP
        rw [List.length_eq_zero_iff, List.filter_eq_nil_iff]
        intro y hy hpy
        rcases List.mem_cons.1 hy with rfl | hy
        · rw [hx] at hpy; cases hpy
        · rw [upto_trans hpy (h.1 y hy)] at hx; cases hx
      rw [h0]
      constructor
      · intro h; omega
      · rintro ⟨a, ha, hpa⟩
        exfalso
        have hm := List.mem_of_getElem? ha
        rcases List.mem_cons.1 hm with rfl | hm
        · rw [hx] at hpa; cases hpa
        · rw [upto_trans hpa (h.1 a hm)] at hx; cases hx
    · have h0 : haveP (x :: t) p = haveP t p + 1 := by simp [haveP, List.filter_cons, hx]
      rw [h0]
      cases k with
      | zero => simp [hx]
      | succ k =>
        simp only [List.getElem?_cons_succ]
        rw [← ih k]
        omega
theorem haveP_perm {l l' : List (Int × Int)} (h : l.Perm l') (p : Int × Int) : haveP l p = haveP l' p := (h.filter _).length_eq
def descP (l : List (Int × Int)) : List (Int × Int) := (Sort.sort ltP l.toArray).toList
theorem desc_facts (l : List (Int × Int)) : (descP l).Perm l ∧ (descP l).Pairwise (fun x y => uptoP y x = true) := by
  obtain ⟨⟨h1, h2, h3⟩, h4⟩ := Sort.sort_sorts ltP swoP l.toArray
  have hsz : (Sort.sort ltP l.toArray).size = l.length := by simpa using h1
  constructor
  · have e1 : ((Sort.sort ltP l.toArray).extract 0 l.toArray.size) = Sort.sort ltP l.toArray := by
      rw [show l.toArray.size = (Sort.sort ltP l.toArray).size by simpa using h1.symm]
      exact Array.extract_size
    have e2 : (l.toArray.extract 0 l.toArray.size) = l.toArray := Array.extract_size
    rw [e1, e2] at h3
    exact h3
  · rw [List.pairwise_iff_getElem]
    intro i j hi hj hij
    have hi' : i < (Sort.sort ltP l.toArray).size := hi
    have hj' : j < (Sort.sort ltP l.toArray).size := hj
    have := h4 i j (Nat.zero_le _) hij (by simp; omega)
    rw [getElem!_pos _ i hi', getElem!_pos _ j hj'] at this
    simp only [descP, Array.getElem_toList]
    cases hu : uptoP (Sort.sort ltP l.toArray)[j] (Sort.sort ltP l.toArray)[i] with
    | true => rfl
    | false =>
      exfalso
      have hl : lessP (Sort.sort ltP l.toArray)[i] (Sort.sort ltP l.toArray)[j] = true := by rw [less_not, hu]; rfl
      have hl2 : ltP (Sort.sort ltP l.toArray)[j] (Sort.sort ltP l.toArray)[i] = true := hl
      rw [hl2] at this
      cases this
theorem desc_length (l : List (Int × Int)) : (descP l).length = l.length := (desc_facts l).1.length_eq
theorem have_desc (l : List (Int × Int)) (p : Int × Int) (k : Nat) : k < haveP l p ↔ ∃ a, (descP l)[k]? = some a ∧ uptoP p a = true := by
  rw [← haveP_perm (desc_facts l).1]
  exact have_sorted p _ (desc_facts l).2 k
def leastQ (k : Int) (l : List (Int × Int)) : (Int × Int) × Bool := if k < 1 ∨ (l.length : Int) < k then ((0, 0), false) else ((descP l).getD (k - 1).toNat (0, 0), true)
theorem leastB_best (k : Int) (l : List (Int × Int)) : ∀ i : Nat, i ≤ l.length →
    (leastB k l i < 0 ∧ ∀ j a, j < i → l[j]? = some a → (haveP l a : Int) < k) ∨
    (∃ b, 0 ≤ leastB k l i ∧ l[(leastB k l i).toNat]? = some b ∧ k ≤ (haveP l b : Int) ∧ ∀ j a, j < i → l[j]? = some a → k ≤ (haveP l a : Int) → uptoP a b = true)
  | 0, _ => .inl ⟨by simp [leastB], fun j a h => by omega⟩
  | i + 1, hi => by
    obtain ⟨c, hc⟩ : ∃ c, l[i]? = some c := ⟨_, List.getElem?_eq_getElem (by omega)⟩
    have one : ∀ {j a} {q : Int × Int → Prop}, (∀ j a, j < i → l[j]? = some a → q a) → q c → j < i + 1 → l[j]? = some a → q a := by
      intro j a q h1 h2 hj ha
      rcases Nat.lt_or_ge j i with h | h
      · exact h1 j a h ha
      · obtain rfl : j = i := by omega
        rw [hc] at ha
        cases ha
        exact h2
    by_cases hk : k ≤ (haveP l c : Int)
    · rcases leastB_best k l i (by omega) with ⟨h1, h2⟩ | ⟨b, h1, h2, h3, h4⟩
      · rw [leastB_new hc hk (.inl h1)]
        refine .inr ⟨c, by omega, by simpa using hc, hk, fun j a hj ha hka => ?_⟩
        exact one (q := fun a => k ≤ (haveP l a : Int) → uptoP a c = true) (fun j a hj ha h => by have := h2 j a hj ha; omega) (fun _ => upto_refl _) hj ha hka
      · cases hu : uptoP b c
        · rw [leastB_old hc (.inr ⟨b, h1, h2, hu⟩)]
          refine .inr ⟨b, h1, h2, h3, fun j a hj ha hka => ?_⟩
          exact one (q := fun a => k ≤ (haveP l a : Int) → uptoP a b = true) (fun j a hj ha h => h4 j a hj ha h) (fun _ => upto_of_not hu) hj ha hka
        · rw [leastB_new hc hk (.inr ⟨b, h2, hu⟩)]
          refine .inr ⟨c, by omega, by simpa using hc, hk, fun j a hj ha hka => ?_⟩
          exact one (q := fun a => k ≤ (haveP l a : Int) → uptoP a c = true) (fun j a hj ha h => upto_trans (h4 j a hj ha h) hu) (fun _ => upto_refl _) hj ha hka
    · rw [leastB_old hc (.inl (by omega))]
      rcases leastB_best k l i (by omega) with ⟨h1, h2⟩ | ⟨b, h1, h2, h3, h4⟩
      · exact .inl ⟨h1, fun j a hj ha => one (q := fun a => (haveP l a : Int) < k) h2 (by omega) hj ha⟩
      · exact .inr ⟨b, h1, h2, h3, fun j a hj ha hka => one (q := fun a => k ≤ (haveP l a : Int) → uptoP a b = true) h4 (fun h => absurd h hk) hj ha hka⟩
theorem least_same (k : Int) (l : List (Int × Int)) : leastQ k l = leastR k l := by
  unfold leastQ leastR
  by_cases hk : k < 1
  · rw [if_pos (.inl hk), if_pos (.inl hk)]
  · have hle := leastB_best k l l.length (Nat.le_refl _)
    by_cases hn : (l.length : Int) < k
    · rw [if_pos (.inr hn), if_pos]
      rcases hle with ⟨h, _⟩ | ⟨b, _, _, h3, _⟩
      · exact .inr h
      · have := haveP_le l b
        omega
    · rw [if_neg (by omega)]
      have hlt : (k - 1).toNat < (descP l).length := by rw [desc_length]; omega
      obtain ⟨v, hv⟩ : ∃ v, (descP l)[(k - 1).toNat]? = some v := ⟨_, List.getElem?_eq_getElem hlt⟩
      have hvk : k ≤ (haveP l v : Int) := by
        have := (have_desc l v (k - 1).toNat).2 ⟨v, hv, upto_refl v⟩
        omega
      have hvm : v ∈ l := (desc_facts l).1.mem_iff.1 (List.mem_of_getElem? hv)
      obtain ⟨j, hj⟩ := List.getElem?_of_mem hvm
      have hjl := (List.getElem?_eq_some_iff.1 hj).1
      rcases hle with ⟨_, h2⟩ | ⟨b, h1, h2, h3, h4⟩
      · have := h2 j v hjl hj
        omega
      · rw [if_neg (by omega), getD_of h2, getD_of hv]
        obtain ⟨a, ha, hu⟩ := (have_desc l b (k - 1).toNat).1 (by omega)
        rw [hv] at ha
        cases ha
        rw [upto_anti hu (h4 j v hjl hj hvk)]
end Go.Proofs.Ytfkfiafohcoomaa
end
section
namespace Go.Sy
open Go Go.Sl Go.RowKit
section
variable {P : Program}
theorem Ctr.callN {f : FuncId} {args0 args : List SV} {pre : List VO} {c : Cz} (h : Ctr P f args0 pre (fun c' => c' = c)) (L L2 : List Nat) (m : Nat) {H H' : Heap} {nx : Nat} {v : SV} {Q : Pst} (hlen : L.length = pre.length) (hL : ExtOk L nx) (ha : args = args0.map (SV.ren (ext L nx)))
    (hp : HasO (ext L nx) H 0 (pre.map some)) (hL2 : L2 = L ++ (List.range m).map (fun i => nx + i)) (hol : c.objs.length = L.length + m) (hc : AllClosed c.objs) (hv : c.v.ren (ext L nx) = v) (hH : wrL L2 H c.objs = H') (hQ : Q (v, H', nx + m)) : Fnc P f args H nx Q := by
  have hl2 : L2.length = L.length + m := by rw [hL2]; simp
  refine h.callM L hlen hL ha hp hv ((wrO_wrL L2 c.objs 0 H (fun j hj => ?_) (by omega) hc).trans hH) (show nx + (c.objs.length - pre.length) = nx + m by omega) hQ
  rw [Nat.zero_add]
  by_cases hjl : j < L.length
  · rw [ext_lt hjl, hL2]
    simp only [List.getD_eq_getElem?_getD]
    rw [List.getElem?_append_left hjl]
  · rw [ext_ge (by omega), hL2]
    simp only [List.getD_eq_getElem?_getD]
    rw [List.getElem?_append_right (by omega), List.getElem?_map, List.getElem?_range (by omega)]
    rfl
end
section
variable {P : Program} {ro : Option Nat} {fn nt nx : Nat} {T : Tr SV} {k : List AIt} {dfs : List ADf} {H : Heap} {Q : Pst} {ops : Array Oper} {i : Nat} {l : List Oper} {ty : TypeId} {pos : String} {af : Array Edge} {gd : Option (Nat × Bool)}
theorem w_callN {g : FuncId} {as1 : List Operand} {ats : Array TypeId} {args : List SV} {v : SV} {H' : Heap} {nx' : Nat} {dd : Nat} (hw : wantedS T ops ⟨some dd, .call { callee := .value (.func g), args := as1.toArray, argTypes := ats }, ty, pos, af, gd⟩ = some true) (hd : Nat.blt dd nt = true) (ha : evalL T as1 = some args) (hm : mayEnter P g = true)
    (hr : Fnc P g args H nx (fun r => r = (v, H', nx')))
    (h : Wp P ro ⟨fn, nt, T.set dd v, .inReg ops (i + 1) l :: k, dfs, H', nx'⟩ Q) :
    Wp P ro ⟨fn, nt, T, .inReg ops i (⟨some dd, .call { callee := .value (.func g), args := as1.toArray, argTypes := ats }, ty, pos, af, gd⟩ :: l) :: k, dfs, H, nx⟩ Q :=
  w_call hw hd ha hm (hr.mono fun r hr => by subst hr; exact h)
end
end Go.Sy
end
section
namespace Go.Sy
open Go Go.Sl Go.RowKit
section
variable {P : Program}
theorem y_nilRow {ro : Option Nat} {fn nt nx : Nat} {T : Tr SV} {k : List AIt} {dfs : List ADf} {H : Heap} {Q : Pst} {d : Nat} (sz : Nat) (t : TypeId) (hT : T.at' d = some (.sc (.slice none 0 0))) (h0 : Nat.blt 0 sz = true)
    (h : Wp P ro ⟨fn, nt, T.set d (.slu nx 0 0), k, dfs, H.set nx (dat false 0 sz t []), nx + 1⟩ Q) : Wp P ro ⟨fn, nt, T, k, dfs, H, nx⟩ Q := by
  refine ⟨fun K w0 e w tmps todo ds kd rof cs hS hTr htd hds hc => ?_⟩
  have hf := hS.fresh nx (Nat.le_refl _)
  have hle := Env.le_put (x := ⟨0, 0, 0, sz, true⟩) hf
  have hT2 : TRel (e.put nx ⟨0, 0, 0, sz, true⟩) nt (T.set d (.slu nx 0 0)) tmps := by
    refine ⟨hTr.1, fun t s hs => ?_⟩
    rcases Tr.at_set hs with ⟨rfl, rfl⟩ | ⟨_, hs⟩
    · obtain ⟨v, g1, g2⟩ := hTr.2 _ _ hT
      simp only [SV.conc, Option.some.injEq] at g1
      subst g1
      exact ⟨_, by simp [SV.conc, Env.put_same, Ent.at], g2⟩
    · obtain ⟨v, g1, g2⟩ := hTr.2 _ _ hs
      exact ⟨v, SV.conc_mono hle _ _ g1, g2⟩
  obtain ⟨r, hr, e1, w', v, g1, g2⟩ := h.run K w0 _ w tmps todo ds kd rof cs (hS.newNil false sz t _ (lt_of_blt h0)) hT2 (htd.mono hle) (hds.mono hle) (hc.mono hle)
  exact ⟨r, hr, e1, w', v, Env.le_trans hle g1, g2⟩
theorem y_same {ro : Option Nat} {fn nt nx : Nat} {T : Tr SV} {k : List AIt} {dfs : List ADf} {H : Heap} {Q : Pst} {d : Nat} {s s' : SV} (hT : T.at' d = some s) (hc : ∀ e v, s.conc e = some v → s'.conc e = some v)
    (h : Wp P ro ⟨fn, nt, T.set d s', k, dfs, H, nx⟩ Q) : Wp P ro ⟨fn, nt, T, k, dfs, H, nx⟩ Q := by
  refine ⟨fun K w0 e w tmps todo ds kd rof cs hS hTr htd hds hcx => ?_⟩
  refine h.run K w0 e w tmps todo ds kd rof cs hS ⟨hTr.1, fun t u hu => ?_⟩ htd hds hcx
  rcases Tr.at_set hu with ⟨rfl, rfl⟩ | ⟨_, hu⟩
  · obtain ⟨v, g1, g2⟩ := hTr.2 _ _ hT
    exact ⟨v, hc e v g1, g2⟩
  · exact hTr.2 _ _ hu
end
end Go.Sy
end
section
namespace Go.Proofs.Ytfkfiafohcoomaa
open Go Go.Sy
abbrev cmpC : SV := .sc (.func (.func 31) #[] #[])
abbrev ArP := Array (Int × Int)
set_option maxRecDepth 100000 in
set_option maxHeartbeats 0 in
theorem pdqS_spec (n limit : Nat) (d : ArP) (hn : n ≤ 12) (hd : d.size = n) (hl : limit < 4611686018427387904) :
    Ctr Try.prog 42 [.slu 0 0 n, .sc (.int .i64 0), .sc (.int .i64 (n : Int)), .sc (.int .i64 (limit : Int)), cmpF] [rowP n d] (fun c => c = ⟨.tup [], [some (rowP n (Sort.insertionSort ltP d 0 n))]⟩) := by
  have hi := ins_spec n 0 n d (by omega) hd (by omega) (by omega)
  refine Fnc.start Try.func42 rfl rfl ?_
  (repeat (first | (first | refine y_seq ?_ | refine w_region ?_ | refine y_regEnd ?_ | refine y_block ?_ | refine w_move rfl rfl rfl ?_ | refine w_assign rfl rfl rfl ?_ | refine w_sub rfl rfl rfl rfl (by omega) (by omega) ?_) | refine y_unroll ?_))
  refine w_leqS rfl rfl rfl rfl ?_ ?_
  all_goals intro h1
  · (repeat (first | (first | refine y_seq ?_ | refine w_region ?_ | refine y_regEnd ?_ | refine y_condT rfl ?_ | refine w_move rfl rfl rfl ?_) | refine w_callFn rfl rfl rfl (by kernel_rfl) (Ctr.callD (hi) [0] rfl (ExtOk.of rfl) rfl (by repeat (first | exact trivial | refine ⟨at_dat rfl, ?_⟩)) rfl (by repeat (first | exact trivial | refine ⟨closed_dat, ?_⟩)) (fun _ => rfl) rfl rfl) ?_))
    ((apply w_ret Try.func42 (congrArg Array.toList Try.results42)); (focus (repeat (exact ResIs.nil))); refine ⟨_, rfl, Ends.mk [] (ExtOk.of rfl) rfl rfl ?_⟩)
    exact (by repeat (first | exact trivial | refine ⟨at_dat rfl, ?_⟩))
  · exact absurd h1 (by omega)
set_option maxRecDepth 100000 in
set_option maxHeartbeats 0 in
theorem sort_spec (n : Nat) (d : ArP) (hn : n ≤ 12) (hd : d.size = n) :
    Ctr Try.prog 30 [.slu 0 0 n, cmpC] [rowP n d] (fun c => c = ⟨.tup [], [some (rowP n (Sort.sort ltP d))]⟩) := by
  have h16 := bits16 (x := n) (by omega)
  refine Fnc.start Try.func30 rfl rfl ?_
  refine y_same (d := 1) (s := cmpC) (s' := cmpF) rfl (fun e v h => by simpa [SV.conc, SV.concL] using h) ?_
  have hp := pdqS_spec n (Sort.bitsLen n) d hn hd (by omega)
  have hs : Sort.insertionSort ltP d 0 n = Sort.sort ltP d := by unfold Sort.sort; rw [hd, Sort.pdq, if_pos (by omega)]
  rw [hs] at hp
  (repeat (first | (first | refine y_seq ?_ | refine w_region ?_ | refine y_regEnd ?_ | refine w_move rfl rfl rfl ?_ | refine w_assign rfl rfl rfl ?_ | refine w_lenSl rfl rfl rfl (F.un _ rfl) ?_) | refine w_conv rfl rfl rfl (F.un _ rfl) (F.un _ rfl) (show _ = (n : Int) from Go.IntWalk.u64_in _ ⟨by omega, by omega⟩) ?_ | refine w_callV (len_spec n (by omega)) [] rfl rfl rfl (by kernel_rfl) rfl (ExtOk.of rfl) rfl trivial ?_ | refine w_callFn rfl rfl rfl (by kernel_rfl) (Ctr.callD (hp) [0] rfl (ExtOk.of rfl) rfl (by repeat (first | exact trivial | refine ⟨at_dat rfl, ?_⟩)) rfl (by repeat (first | exact trivial | refine ⟨closed_dat, ?_⟩)) (fun _ => rfl) rfl rfl) ?_))
  ((apply w_end Try.func30 (congrArg Array.toList Try.results30)); (focus (repeat (exact ResIs.nil))); refine ⟨_, rfl, Ends.mk [] (ExtOk.of rfl) rfl rfl ?_⟩)
  exact (by repeat (first | exact trivial | refine ⟨at_dat rfl, ?_⟩))
theorem flat_len : ∀ l : List (Int × Int), (l.flatMap plV).length = l.length * 2
  | [] => rfl
  | a :: l => by
    rw [List.flatMap_cons, List.length_append, flat_len l, plV_len, List.length_cons]
    omega
theorem flat_one1 : ∀ l : List (Int × Int), oneV (l.flatMap plV)
  | [], v, hv => by simp at hv
  | a :: l, v, hv => by
    rw [List.flatMap_cons, List.mem_append] at hv
    rcases hv with hv | hv
    · exact recP.one a v hv
    · exact flat_one1 l v hv
theorem rdv_pl {P : Program} {H : Heap} {b : Nat} {ro : Bool} {rt : TypeId} (l : List (Int × Int)) (hb : H.at' b = some (dat ro l.length 2 rt (l.flatMap plV))) : RdV P H 2 (.slu b 0 l.length) l.length (l.flatMap plV) := by
  refine rdv_dat hb (by omega) ?_ (flat_len l)
  rw [Nat.zero_mul, List.drop_zero]
  exact List.take_of_length_le (by rw [flat_len]; exact Nat.le_refl _)
set_option maxRecDepth 100000 in
set_option maxHeartbeats 0 in
theorem clone_spec (ro : Bool) (l : List (Int × Int)) (h0 : 0 < l.length) (hl : l.length ≤ 12) :
    Ctr Try.prog 29 [.slu 0 0 l.length] [plR ro l] (fun c => c = ⟨.slu 1 0 l.length, [some (plR ro l), some (plR false l)]⟩) := by
  refine Fnc.start Try.func29 rfl rfl ?_
  (repeat (first | (first | refine y_seq ?_ | refine w_region ?_ | refine y_regEnd ?_ | refine y_skip ?_ | refine y_condF rfl ?_ | refine w_move rfl rfl rfl ?_ | refine w_assign rfl rfl rfl ?_) | (refine w_notNil rfl rfl rfl rfl (F.un _ rfl) h0 ?_) | refine w_bsl0 rfl rfl (F.un _ rfl) (F.sz _ rfl) rfl (F.ze _ rfl) ?_))
  refine w_append (b := 16) (us := []) (ws := []) rfl rfl rfl rfl (F.un _ rfl) (.inl ⟨_, F.un _ rfl⟩) (F.sz _ rfl) rfl (by kernel_rfl) (by kernel_rfl) rfl rfl rfl (rdv_pl l rfl) (flat_one1 l) h0 (by omega) (by omega) ?_
  rw [Nat.zero_add, List.nil_append]
  (repeat (first | refine y_regEnd ?_ | refine w_assign rfl rfl rfl ?_))
  (apply w_ret Try.func29 (congrArg Array.toList Try.results29)); (focus (repeat (first | exact ResIs.nil | apply ResIs.tmp rfl))); refine ⟨_, rfl, Ends.mk [2] (ExtOk.of rfl) rfl rfl ?_⟩
  exact (by repeat (first | exact trivial | refine ⟨at_dat rfl, ?_⟩))
theorem desc_at (l : List (Int × Int)) {q : Nat} (hq : q < l.length) : (Sort.sort ltP l.toArray)[q]! = (descP l).getD q (0, 0) := by
  have hs : (Sort.sort ltP l.toArray).size = l.length := by have := desc_length l; simpa [descP] using this
  rw [getElem!_pos _ q (by omega), List.getD_eq_getElem?_getD]
  simp [descP, hs, hq]
set_option maxRecDepth 100000 in
set_option maxHeartbeats 0 in
theorem qleast_spec (ro : Bool) (k : Int) (l : List (Int × Int)) (hl : l.length ≤ 12) :
    Ctr Try.prog 9 [.sc (.int .i64 k), .slu 0 0 l.length] [plR ro l] (fun c => c = ⟨.tup [plS (leastQ k l).1, .sc (.bool (leastQ k l).2)], [some (plR ro l)]⟩) := by
  refine Fnc.start Try.func9 rfl rfl ?_
  have eq : leastQ k l = leastQ k l := rfl
  conv at eq => rhs; unfold leastQ
  (repeat (first | refine y_seq ?_ | refine w_region ?_ | refine y_regEnd ?_ | refine w_move rfl rfl rfl ?_ | refine w_assign rfl rfl rfl ?_ | refine w_alloc rfl rfl (F.zl _ rfl) ?_))
  refine w_lssS rfl rfl rfl rfl ?_ ?_
  all_goals intro h1
  · rw [if_pos (.inl h1)] at eq
    (repeat (first | refine y_seq ?_ | refine w_region ?_ | refine y_regEnd ?_ | refine y_condT rfl ?_ | refine w_move rfl rfl rfl ?_ | refine w_assign rfl rfl rfl ?_ | refine w_pickT rfl rfl rfl rfl ?_ | refine w_not rfl ?_ | refine w_storeN rfl rfl rfl (F.sz _ rfl) rfl rfl (by decide) rfl rfl ?_ | refine w_build rfl rfl rfl (F.ze _ rfl) (F.pl _ rfl) rfl ?_))
    rw [eq]
    ((apply w_ret Try.func9 (congrArg Array.toList Try.results9)); (focus (repeat (first | exact ResIs.nil | apply ResIs.tmp rfl | apply ResIs.cell rfl (LoadIs.many (F.ag _ rfl) rfl (cellsFrom_box _ 0 rfl rfl))))); refine ⟨_, rfl, Ends.mk [] (ExtOk.of rfl) rfl rfl ?_⟩)
    exact (by repeat (first | exact trivial | refine ⟨at_dat rfl, ?_⟩))
  (repeat (first | refine w_move rfl rfl rfl ?_ | refine w_lenSl rfl rfl rfl (F.un _ rfl) ?_))
  refine w_gtrS rfl rfl rfl rfl ?_ ?_
  all_goals intro h2
  · rw [if_pos (.inr h2)] at eq
    (repeat (first | refine y_seq ?_ | refine w_region ?_ | refine y_regEnd ?_ | refine y_condT rfl ?_ | refine w_assign rfl rfl rfl ?_ | refine w_pickF rfl rfl rfl rfl ?_ | refine w_storeN rfl rfl rfl (F.sz _ rfl) rfl rfl (by decide) rfl rfl ?_ | refine w_build rfl rfl rfl (F.ze _ rfl) (F.pl _ rfl) rfl ?_))
    rw [eq]
    ((apply w_ret Try.func9 (congrArg Array.toList Try.results9)); (focus (repeat (first | exact ResIs.nil | apply ResIs.tmp rfl | apply ResIs.cell rfl (LoadIs.many (F.ag _ rfl) rfl (cellsFrom_box _ 0 rfl rfl))))); refine ⟨_, rfl, Ends.mk [] (ExtOk.of rfl) rfl rfl ?_⟩)
    exact (by repeat (first | exact trivial | refine ⟨at_dat rfl, ?_⟩))
  rw [if_neg (by omega)] at eq
  have hq : (k - 1).toNat < l.length := by omega
  have hc := clone_spec ro l (by omega) hl
  have hs := sort_spec l.length l.toArray hl (by simp)
  have hz : (Sort.sort ltP l.toArray).size = l.length := by have := desc_length l; simpa [descP] using this
  have hv := desc_at l hq
  generalize Sort.sort ltP l.toArray = d at hs hz hv
  (repeat (first | (first | refine y_seq ?_ | refine w_region ?_ | refine y_regEnd ?_ | refine y_skip ?_ | refine y_condF rfl ?_ | refine w_move rfl rfl rfl ?_ | refine w_assign rfl rfl rfl ?_ | refine w_pickF rfl rfl rfl rfl ?_ | refine w_storeN rfl rfl rfl (F.sz _ rfl) rfl rfl (by decide) rfl rfl ?_ | refine w_sub rfl rfl rfl rfl (by omega) (by omega) ?_) | refine w_callN rfl rfl rfl (by kernel_rfl) (Ctr.callN (hc) [0] [0, 2] 1 rfl (ExtOk.of rfl) rfl (by repeat (first | exact trivial | refine ⟨at_dat rfl, ?_⟩)) rfl rfl (by repeat (first | exact trivial | refine ⟨closed_dat, ?_⟩)) rfl rfl rfl) ?_ | refine w_callFn rfl rfl rfl (by kernel_rfl) (Ctr.callD (hs) [2] rfl (ExtOk.of rfl) rfl (by repeat (first | exact trivial | refine ⟨at_dat rfl, ?_⟩)) rfl (by repeat (first | exact trivial | refine ⟨closed_dat, ?_⟩)) (fun _ => rfl) rfl rfl) ?_ | refine w_idxN (q := (k - 1).toNat) rfl rfl rfl rfl (F.un _ rfl) (F.sz _ rfl) rfl (by omega) (by omega) (by omega) ?_ | refine w_ldR rfl rfl rfl (F.ag _ rfl) (recP) rfl (by first | omega | (simp only [Array.size_setIfInBounds, swp_size]; omega)) (by first | omega | (simp only [Array.size_setIfInBounds, swp_size]; omega)) ?_))
  rw [eq, ← hv]
  ((apply w_ret Try.func9 (congrArg Array.toList Try.results9)); (focus (repeat (first | exact ResIs.nil | apply ResIs.tmp rfl | apply ResIs.cell rfl (LoadIs.many (F.ag _ rfl) rfl (cellsFrom_box _ 0 rfl rfl))))); refine ⟨_, rfl, Ends.mk [] (ExtOk.of rfl) rfl rfl ?_⟩)
  exact (by repeat (first | exact trivial | refine ⟨at_dat rfl, ?_⟩))
end Go.Proofs.Ytfkfiafohcoomaa
end
section
namespace Go.Ex
open Go
noncomputable section
inductive Tr (A : Type) where
  | nil
  | tip (k : Nat) (v : A)
  | node (l r : Tr A)
def Tr.get {A : Type} (t : Tr A) : Nat → Nat → Option A :=
  Tr.rec (motive := fun _ => Nat → Nat → Option A) (fun _ _ => none) (fun k v n _ => Bool.rec none (some v) (Nat.beq k n))
    (fun _ _ gl gr n s => Bool.rec (gr n (Nat.succ s)) (gl n (Nat.succ s)) (Nat.beq (Nat.land (Nat.shiftRight n s) 1) 0)) t
def Tr.split {A : Type} (k : Nat) (u : A) (n : Nat) (v : A) (f : Nat) : Nat → Tr A :=
  Nat.rec (motive := fun _ => Nat → Tr A) (fun _ => .nil) (fun _ ih s =>
    Bool.rec (Bool.rec (.node .nil (ih (Nat.succ s))) (.node (.tip n v) (.tip k u)) (Nat.beq (Nat.land (Nat.shiftRight n s) 1) 0))
      (Bool.rec (.node (.tip k u) (.tip n v)) (.node (ih (Nat.succ s)) .nil) (Nat.beq (Nat.land (Nat.shiftRight n s) 1) 0))
      (Nat.beq (Nat.land (Nat.shiftRight k s) 1) 0)) f
def Tr.ins {A : Type} (t : Tr A) (n : Nat) (v : A) : Nat → Tr A :=
  Tr.rec (motive := fun _ => Nat → Tr A) (fun _ => .tip n v) (fun k u s => Bool.rec (Tr.split k u n v 80 s) (.tip n v) (Nat.beq k n))
    (fun l r il ir s => Bool.rec (.node l (ir (Nat.succ s))) (.node (il (Nat.succ s)) r) (Nat.beq (Nat.land (Nat.shiftRight n s) 1) 0)) t
def Tr.cut {A : Type} (t : Tr A) (n : Nat) : Nat → Tr A :=
  Tr.rec (motive := fun _ => Nat → Tr A) (fun _ => .nil) (fun k u _ => Bool.rec (.tip k u) .nil (Nat.beq k n))
    (fun l r il ir s => Bool.rec (.node l (ir (Nat.succ s))) (.node (il (Nat.succ s)) r) (Nat.beq (Nat.land (Nat.shiftRight n s) 1) 0)) t
def Tr.at' {A : Type} (t : Tr A) (n : Nat) : Option A := t.get n 0
def Tr.set {A : Type} (t : Tr A) (n : Nat) (v : A) : Tr A := t.ins n v 0
def Tr.del {A : Type} (t : Tr A) (n : Nat) : Tr A := t.cut n 0
inductive SV where
  | sc (v : Value)
  | ptr (b off : Nat)
  | sl (b off len cap : Nat)
  | slu (b off eo len : Nat)
  | mp (b : Nat)
  | yld (b : Nat)
  | agg (l : List SV)
  | tup (l : List SV)
  | ifc (t : TypeId) (v : SV)
  | fn (f : Fn) (first captured : List SV)
mutual
def SV.lit : SV → Option Value
  | .sc v => some v
  | .agg l => match SV.litL l with
    | some vs => some (.agg vs.toArray)
    | none => none
  | .tup l => match SV.litL l with
    | some vs => some (.tuple vs.toArray)
    | none => none
  | .ifc t v => match SV.lit v with
    | some x => some (.iface t x)
    | none => none
  | .fn f a b => match SV.litL a with
    | some x => match SV.litL b with
      | some y => some (.func f x.toArray y.toArray)
      | none => none
    | none => none
  | .ptr _ _ => none
  | .sl _ _ _ _ => none
  | .slu _ _ _ _ => none
  | .mp _ => none
  | .yld _ => none
def SV.litL : List SV → Option (List Value)
  | [] => some []
  | x :: l => match SV.lit x with
    | some v => match SV.litL l with
      | some vs => some (v :: vs)
      | none => none
    | none => none
end
def SV.cells : SV → List SV
  | .sc (.agg cs) => cs.toList.map .sc
  | .agg l => l
  | s => [s]
def SV.one : SV → Bool
  | .sc (.agg _) => false
  | .sc (.tuple _) => false
  | .agg _ => false
  | .tup _ => false
  | _ => true
inductive ADf where
  | call (f : FuncId) (args : List SV)
  | taken (r : Nat)
inductive VO where
  | cells (n : Nat) (t : TypeId) (c : Tr SV)
  | row (ne sz : Nat) (t : TypeId) (c : Tr SV)
  | map (l : List (Value × SV × Nat)) (clock : Nat)
  | iter (m : Option Nat) (since : Nat) (seen : List Nat) (stepped : Nat)
  | siter (s : ByteArray) (pos : Nat)
  | loop (st : LoopState) (pending : Option Code) (fn : FuncId) (nt : Nat) (T : Tr SV) (params : Array Tmp) (assign body : Code) (defers : Nat)
  | dfd (calls : Option (List ADf))
abbrev Heap := Tr VO
def VO.cell : VO → Nat → Option SV
  | .cells n _ c, i => bif Nat.blt i n then c.at' i else none
  | .row ne sz _ c, i => bif Nat.blt i (ne * sz) then c.at' i else none
  | _, _ => none
def VO.cellsFrom (vo : VO) : Nat → Nat → Option (List SV)
  | _, 0 => some []
  | i, n + 1 => match vo.cell i with
    | some x => match vo.cellsFrom (i + 1) n with
      | some l => some (x :: l)
      | none => none
    | none => none
def VO.setCell : VO → Nat → SV → Option VO
  | .cells n t c, i, x => bif Nat.blt i n && x.one then some (.cells n t (c.set i x)) else none
  | .row ne sz t c, i, x => bif Nat.blt i (ne * sz) && x.one then some (.row ne sz t (c.set i x)) else none
  | _, _, _ => none
def VO.setCells (vo : VO) : Nat → List SV → Option VO
  | _, [] => some vo
  | i, x :: l => match vo.setCell i x with
    | some vo' => vo'.setCells (i + 1) l
    | none => none
def fillTr : Tr SV → Nat → List SV → Tr SV
  | c, _, [] => c
  | c, i, x :: l => fillTr (c.set i x) (i + 1) l
def undefS : SV := .sc (.tuple #[])
def newCells (t : TypeId) (l : List SV) : VO := .cells l.length t (fillTr .nil 0 l)
def allOne : List SV → Bool
  | [] => true
  | x :: l => x.one && allOne l
inductive ANx where
  | val (v : SV)
  | skip
  | enter (f : FuncId) (args : List SV)
  | round (l : Nat) (args : List SV)
  | dfr (d : ADf)
  | recover
def pureRun (P : Program) {A : Type} : Sem A → Option A
  | .pure a => some a
  | .program k => pureRun P (k P)
  | .mark _ k => pureRun P k
  | .choose q k => bif q.forced then pureRun P (k 0) else none
  | _ => none
section
variable (P : Program)
def evalS (T : Tr SV) : Operand → Option SV
  | .tmp t => T.at' t
  | .const v => some (.sc v)
  | .global g => some (.sc (.pointer (some ⟨g, 0, none⟩)))
  | .func f => some (.sc (.func (.func f) #[] #[]))
def evalL (T : Tr SV) : List Operand → Option (List SV)
  | [] => some []
  | x :: l => match evalS T x with
    | some v => match evalL T l with
      | some r => some (v :: r)
      | none => none
    | none => none
def evalP (T : Tr SV) : List (Nat × Operand) → Option (List (Nat × SV))
  | [] => some []
  | (i, x) :: l => match evalS T x with
    | some v => match evalP T l with
      | some r => some ((i, v) :: r)
      | none => none
    | none => none
def aggSize (t : TypeId) : Option (Option Nat) :=
  match P.underlying t with
  | none => none
  | some (.struct _) => ((P.info? t).map (·.size)).map some
  | some (.array _ _) => ((P.info? t).map (·.size)).map some
  | some _ => some none
def sizeT (t : TypeId) : Option Nat := (P.info? t).map (·.size)
def zeroT (t : TypeId) : Option Value := (P.info? t).bind (·.zero)
def partS (t : TypeId) (l : List SV) (off : Nat) : Option SV :=
  match aggSize P t with
  | none => none
  | some none => l[off]?
  | some (some n) => some (.agg ((l.drop off).take n))
def fillS (place : Nat → Option (Nat × Nat)) (cells : List SV) : List (Nat × SV) → Option (List SV)
  | [] => some cells
  | (i, v) :: rest =>
    match place i with
    | none => none
    | some (off, size) =>
      let vc := v.cells
      bif Nat.beq vc.length size && Nat.ble (off + size) cells.length then fillS place (cells.take off ++ vc ++ cells.drop (off + size)) rest else none
def places : List Field → Option (List (Nat × Nat))
  | [] => some []
  | f :: l => match sizeT P f.type with
    | some s => match places l with
      | some r => some ((f.offset, s) :: r)
      | none => none
    | none => none
def natS (T : Tr SV) (x : Operand) : Option Nat := match evalS T x with
  | some (.sc (.int _ (.ofNat n))) => some n
  | _ => none
def natOr (T : Tr SV) (d : Nat) : Option Operand → Option Nat
  | none => some d
  | some x => natS T x
def sliceCells (H : Heap) (sz : Nat) : SV → Option (Nat × List SV)
  | .sc (.slice none 0 _) => some (0, [])
  | .sc (.string s) => bif Nat.beq sz 1 then some (s.size, s.data.toList.map fun b => .sc (.int .u8 b.toNat)) else none
  | .sl b o n _ => match H.at' b with
    | some vo => (vo.cellsFrom o (n * sz)).map fun l => (n, l)
    | none => none
  | .slu b o _ n => match H.at' b with
    | some vo => (vo.cellsFrom o (n * sz)).map fun l => (n, l)
    | none => none
  | _ => none
def bytesOk (t : TypeId) (n : Nat) : Bool := match P.info? t with
  | some i => Nat.ble (n * i.bytes) 140737488355328 && Nat.ble n 1000000000
  | none => false
def dummies (l : List (Value × SV × Nat)) : List MapEntry := l.map fun x => { key := x.1, val := .nilFunc, born := x.2.2 }
def findK (kt : TypeId) (k : Value) (l : List (Value × SV × Nat)) : Option (Option Nat) :=
  match pureRun P (Instr.checkKey l.isEmpty 10000 kt k) with
  | none => none
  | some _ => match pureRun P (Instr.findKey kt k (dummies l)) with
    | some none => some none
    | some (some (i, _)) => some (some i)
    | none => none
def litS (T : Tr SV) (x : Operand) : Option Value := match evalS T x with
  | some s => s.lit
  | none => none
def putK (kt : TypeId) (k : Value) (v : SV) (l : List (Value × SV × Nat)) (clock : Nat) : Option (List (Value × SV × Nat) × Nat) :=
  match pureRun P (Instr.checkKey false 10000 kt k) with
  | none => none
  | some _ => match findK P kt k l with
    | none => none
    | some none => some (l ++ [(k, v, clock)], clock + 1)
    | some (some i) => match l[i]? with
      | some (k', _, b) => bif Instr.sameBits 10000 k' k then some (l.set i (k, v, b), clock) else none
      | none => none
def bytesL : List SV → Option (List UInt8)
  | [] => some []
  | .sc (.int .u8 (.ofNat n)) :: l => match bytesL l with
    | some r => some (UInt8.ofNat n :: r)
    | none => none
  | _ :: _ => none
def bytesS (l : List SV) : Option SV := (bytesL l).map fun b => .sc (.string ⟨b.toArray⟩)
def loadS (H : Heap) (t : TypeId) (b o : Nat) : Option SV :=
  match H.at' b with
  | none => none
  | some vo => match aggSize P t with
    | some none => vo.cell o
    | some (some n) => (vo.cellsFrom o n).map .agg
    | none => none
def fieldAddrS (s : TypeId) (f : Nat) : SV → Option SV
  | .ptr b o => match P.underlying s with
    | some (.struct fields) => match fields[f]? with
      | some fd => match sizeT P fd.type with
        | some (_ + 1) => some (.ptr b (o + fd.offset))
        | _ => none
      | none => none
    | _ => none
  | _ => none
def indexAddrS (t : TypeId) (n : Nat) : SV → Option SV
  | .ptr b o => match P.underlying t with
    | some (.array len e) => match sizeT P e with
      | some sz => bif Nat.blt n len then some (.ptr b (o + n * sz)) else none
      | none => none
    | _ => none
  | .sl b o len _ => match P.underlying t with
    | some (.slice e) => match sizeT P e with
      | some sz => bif Nat.blt n len then some (.ptr b (o + n * sz)) else none
      | none => none
    | _ => none
  | .slu b o _ len => match P.underlying t with
    | some (.slice e) => match sizeT P e with
      | some sz => bif Nat.blt n len then some (.ptr b (o + n * sz)) else none
      | none => none
    | _ => none
  | _ => none
def fieldS (t : TypeId) (f : Nat) (l : List SV) : Option SV :=
  match P.underlying t with
  | some (.struct fields) => match fields[f]? with
    | some fd => partS P fd.type l fd.offset
    | none => none
  | _ => none
def buildS (t : TypeId) (parts : List (Nat × SV)) : Option SV :=
  match zeroT P t with
  | none => none
  | some z => match P.underlying t with
    | some (.struct fields) => match places P fields.toList with
      | some pl => (fillS (fun i => pl[i]?) (z.cells.toList.map .sc) parts).map .agg
      | none => none
    | some (.array _ e) => match sizeT P e with
      | some sz => (fillS (fun i => some (i * sz, sz)) (z.cells.toList.map .sc) parts).map .agg
      | none => none
    | _ => none
def lookupS (H : Heap) (t : TypeId) (ok : Bool) (k : Value) : SV → Option SV
  | .mp b => match P.underlying t with
    | some (.map kt e) => match H.at' b with
      | some (.map l _) => match findK P kt k l with
        | some (some i) => match l[i]? with
          | some (_, v, _) => some (bif ok then .tup [v, .sc (.bool true)] else v)
          | none => none
        | some none => match zeroT P e with
          | some z => some (bif ok then .tup [.sc z, .sc (.bool false)] else .sc z)
          | none => none
        | none => none
      | _ => none
    | _ => none
  | .sc (.map none) => match P.underlying t with
    | some (.map kt e) => match findK P kt k [] with
      | some none => match zeroT P e with
        | some z => some (bif ok then .tup [.sc z, .sc (.bool false)] else .sc z)
        | none => none
      | _ => none
    | _ => none
  | _ => none
def sliceS (T : Tr SV) (H : Heap) (t : TypeId) (lo hi mx : Option Operand) : SV → Option SV
  | .ptr b o => match P.underlying t with
    | some (.array n e) => match sizeT P e, natOr T 0 lo, natOr T n hi, natOr T n mx with
      | some sz, some l, some h, some m => bif Nat.ble l h && Nat.ble h m && Nat.ble m n && (hi.isSome || mx.isNone) then some (.sl b (bif Nat.beq m l then o else o + l * sz) (h - l) (m - l)) else none
      | _, _, _, _ => none
    | _ => none
  | .sl b o len cap => match P.underlying t with
    | some (.slice e) => match sizeT P e, natOr T 0 lo, natOr T len hi, natOr T cap mx with
      | some sz, some l, some h, some m => bif Nat.ble l h && Nat.ble h m && Nat.ble m cap && (hi.isSome || mx.isNone) then some (.sl b (bif Nat.beq m l then o else o + l * sz) (h - l) (m - l)) else none
      | _, _, _, _ => none
    | _ => none
  | .slu b o eo len => match P.underlying t with
    | some (.slice e) => match H.at' b with
      | some (.row ne _ _ _) => match sizeT P e, natOr T 0 lo, natOr T len hi with
        | some sz, some l, some h => match mx with
          | none => bif Nat.ble l h && Nat.ble (eo + h) ne && Nat.blt (eo + l) ne then some (.slu b (o + l * sz) (eo + l) (h - l)) else none
          | some x => match natS T x with
            | some m => bif Nat.ble l h && Nat.ble h m && Nat.ble (eo + m) ne && hi.isSome then some (.sl b (bif Nat.beq m l then o else o + l * sz) (h - l) (m - l)) else none
            | none => none
        | _, _, _ => none
      | _ => none
    | _ => none
  | _ => none
def isNilS : SV → Value → TypeDesc → Bool
  | .ptr _ _, .pointer none, .pointer _ => true
  | .ifc _ _, .nilIface, .interface _ => true
  | .mp _, .map none, .map _ _ => true
  | .sl _ _ _ _, .slice none _ _, .slice _ => true
  | .slu _ _ _ _, .slice none _ _, .slice _ => true
  | .fn _ _ _, .nilFunc, .func _ _ _ => true
  | .yld _, .nilFunc, .func _ _ _ => true
  | _, _, _ => false
def nilTest (op : BinOp) (t : TypeId) (x y : SV) : Option SV :=
  match y with
  | .sc v => match P.underlying t with
    | some d => bif isNilS x v d then match op with
        | .eql => some (.sc (.bool false))
        | .neq => some (.sc (.bool true))
        | _ => none
      else none
    | none => none
  | _ => none
def lenS (H : Heap) (t : TypeId) : SV → Option SV
  | .sl _ _ n _ => match P.underlying t with
    | some (.slice _) => some (.sc (.int .i64 n))
    | _ => none
  | .slu _ _ _ n => match P.underlying t with
    | some (.slice _) => some (.sc (.int .i64 n))
    | _ => none
  | .mp b => match P.underlying t with
    | some (.map _ _) => match H.at' b with
      | some (.map l _) => some (.sc (.int .i64 l.length))
      | _ => none
    | _ => none
  | _ => none
def lenCall (T : Tr SV) (H : Heap) (c : Call) : Option SV :=
  match c.callee with
  | .builtin b => match b with
    | .len => match c.argTypes.toList with
      | t :: _ => match c.args.toList with
        | [x] => (evalS T x).bind (lenS P H t)
        | _ => none
      | _ => none
    | _ => none
  | _ => none
def strOfS (H : Heap) (s t : TypeId) (x : SV) : Option SV :=
  match P.underlying s with
  | some (.slice e) => match P.underlying t with
    | some .string => match P.underlying e with
      | some (.int .u8) => match x with
        | .sl _ _ _ _ => match sliceCells H 1 x with
          | some (_, l) => bytesS l
          | none => none
        | .slu _ _ _ _ => match sliceCells H 1 x with
          | some (_, l) => bytesS l
          | none => none
        | _ => none
      | _ => none
    | _ => none
  | _ => none
def checkedS : SV → Option SV
  | .ptr b o => some (.ptr b o)
  | .fn (.func f) a c => some (.fn (.func f) a c)
  | .yld l => some (.yld l)
  | .ifc t v => some (.ifc t v)
  | _ => none
def ifaceV (t : TypeId) : SV → SV
  | .sc x => .sc (.iface t x)
  | v => .ifc t v
def ifaceS (t : TypeId) (v : SV) : Option SV :=
  match P.underlying t with
  | none => none
  | some (.interface _) => none
  | some _ => some (ifaceV t v)
def nthS (i : Nat) : SV → Option SV
  | .tup l => l[i]?
  | .sc (.tuple vs) => (vs[i]?).map .sc
  | _ => none
def entryS (H : Heap) : SV → Option SV
  | .ptr r 0 => match H.at' r with
    | some (.iter (some m) _ seen stepped) => match seen.getLast? with
      | some stamp => match H.at' m with
        | some (.map l clock) => bif Nat.beq clock stepped then match l.find? (fun x => Nat.beq x.2.2 stamp) with
            | some x => some (.tup [.sc x.1, x.2.1])
            | none => none
          else none
        | _ => none
      | none => none
    | _ => none
  | _ => none
def readOp (T : Tr SV) (H : Heap) (o : Oper) : Option SV :=
  match o.op with
  | .move x => evalS T x
  | .assign x => evalS T x
  | .pick c a b => match evalS T c with
    | some (.sc (.bool t)) => bif t then evalS T a else evalS T b
    | _ => none
  | .extract x i => (evalS T x).bind (nthS i)
  | .nilCheck x => (evalS T x).bind checkedS
  | .fieldAddr s x f => (evalS T x).bind (fieldAddrS P s f)
  | .indexAddr t x i => (natS T i).bind fun n => (evalS T x).bind (indexAddrS P t n)
  | .load t x => match evalS T x with
    | some (.ptr b o) => loadS P H t b o
    | _ => none
  | .field t x f => match evalS T x with
    | some (.agg l) => fieldS P t f l
    | _ => none
  | .makeInterface t x => (evalS T x).bind (ifaceS P t)
  | .makeFunc f a b => (evalL T a.toList).bind fun x => (evalL T b.toList).map fun y => .fn f x y
  | .build t parts => (evalP T parts.toList).bind (buildS P t)
  | .lookup t m k ok => (litS T k).bind fun kv => (evalS T m).bind (lookupS P H t ok kv)
  | .slice t x lo hi mx => (evalS T x).bind (sliceS P T H t lo hi mx)
  | .binOp op t x y _ => (evalS T x).bind fun a => (evalS T y).bind (nilTest P op t a)
  | .call c => lenCall P T H c
  | .convert s t x => (evalS T x).bind (strOfS P H s t)
  | .entry it => (evalS T it).bind (entryS H)
  | _ => none
def litOps (T : Tr SV) : List Operand → Bool
  | [] => true
  | x :: l => (litS T x).isSome && litOps T l
def litEval (T : Tr SV) (x : Operand) : Value := (litS T x).getD (.tuple #[])
def pureKind : Op → Bool
  | .binOp .. | .unOp .. | .convert .. | .index .. | .slice .. | .pick .. | .field .. | .nilCheck _ | .extract .. => true
  | .call { callee := .builtin b, .. } => match b with
    | .len | .min | .max | .cap => true
    | _ => false
  | _ => false
def pureOp (T : Tr SV) (o : Oper) : Option SV :=
  bif pureKind o.op && litOps T o.op.operands.toList then match pureRun P (execOp (litEval T) o) with
    | some (.value v) => some (.sc v)
    | _ => none
  else none
abbrev Out := ANx × Heap × Nat
def zeroIs (t : TypeId) (sz : Nat) : Bool := match zeroT P t with
  | some z => Nat.beq z.cells.size sz
  | none => false
def appendS (H : Heap) (nx : Nat) (e : TypeId) (s x : SV) : Option Out :=
  match sizeT P e with
  | none => none
  | some 0 => none
  | some sz => match sliceCells H sz x with
    | none => none
    | some (m, news) => bif !(allOne news) then none else match s with
      | .sc (.slice none 0 0) =>
        bif Nat.beq m 0 then some (.val s, H, nx)
        else bif bytesOk P e m && zeroIs P e sz then some (.val (.slu nx 0 0 m), H.set nx (.row m sz e (fillTr .nil 0 news)), nx + 1) else none
      | .sl b o n cap =>
        bif Nat.ble (n + m) cap then match H.at' b with
          | some vo => match vo.setCells (o + n * sz) news with
            | some vo' => some (.val (.sl b o (n + m) cap), H.set b vo', nx)
            | none => none
          | none => none
        else bif bytesOk P e (n + m) && zeroIs P e sz then match sliceCells H sz s with
          | some (_, olds) => some (.val (.slu nx 0 0 (n + m)), H.set nx (.row (n + m) sz e (fillTr .nil 0 (olds ++ news))), nx + 1)
          | none => none
        else none
      | .slu b o eo n => match H.at' b with
        | some (.row ne sz' t c) =>
          bif Nat.beq m 0 then bif Nat.ble (eo + n) ne then some (.val s, H, nx) else none
          else bif Nat.beq sz sz' && Nat.beq t e && Nat.beq o (eo * sz) && Nat.beq (eo + n) ne && bytesOk P e (n + m) && zeroIs P e sz then match sliceCells H sz s with
            | some (_, olds) => some (.val (.slu nx 0 0 (n + m)), (H.del b).set nx (.row (n + m) sz e (fillTr .nil 0 (olds ++ news))), nx + 1)
            | none => none
          else none
        | _ => none
      | _ => none
def storeS (H : Heap) (b o : Nat) (l : List SV) : Option Heap :=
  match H.at' b with
  | some vo => match vo.setCells o l with
    | some vo' => some (H.set b vo')
    | none => none
  | none => none
def sizeIs (t : TypeId) (n : Nat) : Bool := match sizeT P t with
  | some s => Nat.beq s n
  | none => false
def zerosL (z : Value) (n : Nat) : List SV := (Builtin.zeroCells z.cells n).toList.map .sc
def mayEnter (f : FuncId) : Bool := match P.funcs[f]? with
  | some fn => fn.body.isSome && !(fn.name == "runtime.NumGoroutine")
  | none => false
def fnTarget : SV → Option (FuncId × List SV × List SV)
  | .sc (.func (.func g) a b) => some (g, a.toList.map .sc, b.toList.map .sc)
  | .fn (.func g) a b => some (g, a, b)
  | _ => none
def methodS (t : TypeId) (name : String) : Option FuncId :=
  match P.info? t with
  | none => none
  | some i => match i.methods.find? (fun m => m.name == name) with
    | none => none
    | some m => match m.func with
      | some (g, true) => match P.underlying t with
        | some (.pointer _) => bif m.path.isEmpty && mayEnter P g then some g else none
        | _ => none
      | _ => none
def callTarget (T : Tr SV) (c : Call) : Option ANx :=
  match evalL T c.args.toList with
  | none => none
  | some args => match c.callee with
    | .value f => match evalS T f with
      | none => none
      | some (.yld l) => some (.round l args)
      | some s => match fnTarget s with
        | some (g, a, b) => bif mayEnter P g then some (.enter g (a ++ args ++ b)) else none
        | none => none
    | .invoke r name => match evalS T r with
      | some (.ifc t v) => match methodS P t name with
        | some g => some (.enter g (v :: args))
        | none => none
      | _ => none
    | .builtin _ => none
def mapUpS (H : Heap) (nx : Nat) (t : TypeId) (k : Value) (v : SV) : SV → Option Out
  | .mp b => match P.underlying t with
    | some (.map kt _) => match H.at' b with
      | some (.map l clock) => match putK P kt k v l clock with
        | some (l', clock') => some (.skip, H.set b (.map l' clock'), nx)
        | none => none
      | _ => none
    | _ => none
  | _ => none
def mapDelS (H : Heap) (nx : Nat) (t : TypeId) (k : Value) : SV → Option Out
  | .mp b => match P.underlying t with
    | some (.map kt _) => match H.at' b with
      | some (.map l clock) => match findK P kt k l with
        | some (some i) => some (.val (.sc (.tuple #[])), H.set b (.map (l.eraseIdx i) clock), nx)
        | some none => some (.val (.sc (.tuple #[])), H.set b (.map l clock), nx)
        | none => none
      | _ => none
    | _ => none
  | _ => none
def clearS (H : Heap) (nx : Nat) (t : TypeId) : SV → Option Out
  | .mp b => match P.underlying t with
    | some (.map _ _) => match H.at' b with
      | some (.map _ clock) => some (.val (.sc (.tuple #[])), H.set b (.map [] clock), nx)
      | _ => none
    | _ => none
  | .sl b o (n + 1) _ => match P.underlying t with
    | some (.slice e) => match zeroT P e with
      | some z => match storeS H b o (zerosL z (n + 1)) with
        | some H' => some (.val (.sc (.tuple #[])), H', nx)
        | none => none
      | none => none
    | _ => none
  | .slu b o _ (n + 1) => match P.underlying t with
    | some (.slice e) => match zeroT P e with
      | some z => match storeS H b o (zerosL z (n + 1)) with
        | some H' => some (.val (.sc (.tuple #[])), H', nx)
        | none => none
      | none => none
    | _ => none
  | _ => none
def copyS (H : Heap) (nx : Nat) (t : TypeId) (d x : SV) : Option Out :=
  match P.underlying t with
  | some (.slice e) => match sizeT P e with
    | some sz => match sliceCells H sz x with
      | some (m, l) => match d with
        | .sl b o n _ => match storeS H b o (l.take (min m n * sz)) with
          | some H' => some (.val (.sc (.int .i64 (min m n : Nat))), H', nx)
          | none => none
        | .slu b o _ n => match storeS H b o (l.take (min m n * sz)) with
          | some H' => some (.val (.sc (.int .i64 (min m n : Nat))), H', nx)
          | none => none
        | _ => none
      | none => none
    | none => none
  | _ => none
def emptyS (T : Tr SV) (H : Heap) (nx : Nat) (t : TypeId) (lo hi : Option Operand) : SV → Option Out
  | .slu b o eo len => match P.underlying t with
    | some (.slice e) => match H.at' b with
      | some (.row ne sz' t' _) => match sizeT P e, natOr T 0 lo, natOr T len hi with
        | some sz, some l, some h =>
          bif Nat.beq l h && Nat.beq (eo + l) ne && Nat.beq sz sz' && Nat.beq t' e && Nat.beq o (eo * sz) then some (.val (.slu nx 0 0 0), (H.del b).set nx (.row 0 sz e .nil), nx + 1) else none
        | _, _, _ => none
      | _ => none
    | _ => none
  | _ => none
def bytesOfS (H : Heap) (nx : Nat) (s t : TypeId) : SV → Option Out
  | .sc (.string b) => match P.underlying s with
    | some .string => match P.underlying t with
      | some (.slice e) => match P.underlying e with
        | some (.int .u8) => bif bytesOk P e b.size then some (.val (.slu nx 0 0 b.size), H.set nx (.row b.size 1 e (fillTr .nil 0 (b.data.toList.map fun c => .sc (.int .u8 c.toNat)))), nx + 1) else none
        | _ => none
      | _ => none
    | _ => none
  | _ => none
def rangeS (H : Heap) (nx : Nat) (t : TypeId) : SV → Option Out
  | .sc (.string s) => match P.underlying t with
    | some .string => some (.val (.ptr nx 0), H.set nx (.siter s 0), nx + 1)
    | _ => none
  | .sc (.map none) => match P.underlying t with
    | some (.map _ _) => some (.val (.ptr nx 0), H.set nx (.iter none 0 [] 0), nx + 1)
    | _ => none
  | .mp b => match P.underlying t with
    | some (.map _ _) => match H.at' b with
      | some (.map _ clock) => some (.val (.ptr nx 0), H.set nx (.iter (some b) clock [] clock), nx + 1)
      | _ => none
    | _ => none
  | _ => none
def buildSliceS (H : Heap) (nx : Nat) (t : TypeId) (len : Nat) (parts : List (Nat × SV)) : Option Out :=
  match P.underlying t with
  | some (.slice e) => match sizeT P e with
    | some sz => bif Nat.beq (len * sz) 0 then
        bif parts.isEmpty then some (.val (.sl nx 0 len len), H.set nx (newCells e []), nx + 1) else none
      else match zeroT P e with
        | some z => bif Nat.ble (len * sz) 16777216 then
            match fillS (fun i => some (i * sz, sz)) (((Array.range (len * sz)).map (z.cells[· % z.cells.size]!)).toList.map .sc) parts with
            | some l => bif allOne l then some (.val (.sl nx 0 len len), H.set nx (newCells e l), nx + 1) else none
            | none => none
          else none
        | none => none
    | none => none
  | _ => none
def makeSliceS (H : Heap) (nx : Nat) (t : TypeId) (n m : Nat) : Option Out :=
  match P.underlying t with
  | some (.slice e) => match sizeT P e with
    | some sz => match zeroT P e with
      | some z => bif Nat.ble n m && bytesOk P e m && Nat.beq z.cells.size sz && Nat.blt 0 (m * sz) then
          some (.val (.sl nx 0 n m), H.set nx (newCells e (zerosL z m)), nx + 1) else none
      | none => none
    | none => none
  | _ => none
def appendAt (H : Heap) (nx : Nat) (ts tx : TypeId) (s x : SV) : Option Out :=
  match P.underlying ts with
  | some (.slice e) => match P.underlying tx with
    | some (.slice _) => appendS P H nx e s x
    | some .string => appendS P H nx e s x
    | _ => none
  | _ => none
def builtinS (H : Heap) (nx : Nat) (b : Builtin) (ts : List TypeId) (xs : List SV) : Option Out :=
  match b with
  | .append => match ts, xs with
    | [t, u], [s, x] => appendAt P H nx t u s x
    | _, _ => none
  | .copy => match ts, xs with
    | t :: _, [d, x] => copyS P H nx t d x
    | _, _ => none
  | .clear => match ts, xs with
    | t :: _, [d] => clearS P H nx t d
    | _, _ => none
  | .delete => match ts, xs with
    | t :: _, [m, k] => match k.lit with
      | some kv => mapDelS P H nx t kv m
      | none => none
    | _, _ => none
  | .recover => match xs with
    | [] => some (.recover, H, nx)
    | _ => none
  | _ => none
def effOp (T : Tr SV) (H : Heap) (nx : Nat) (o : Oper) : Option Out :=
  match o.op with
  | .alloc t => match zeroT P t with
    | some z => some (.val (.ptr nx 0), H.set nx (newCells t (z.cells.toList.map .sc)), nx + 1)
    | none => none
  | .box t x => match evalS T x with
    | some v => some (.val (.ptr nx 0), H.set nx (newCells t v.cells), nx + 1)
    | none => none
  | .store t a x => match evalS T a with
    | some (.ptr b off) => match evalS T x with
      | some v => bif sizeIs P t v.cells.length then match storeS H b off v.cells with
          | some H' => some (.skip, H', nx)
          | none => none
        else none
      | none => none
    | _ => none
  | .buildSlice t len parts => (evalP T parts.toList).bind (buildSliceS P H nx t len)
  | .makeMap _ none => some (.val (.mp nx), H.set nx (.map [] 0), nx + 1)
  | .makeSlice t l c => (natS T l).bind fun n => (natS T c).bind (makeSliceS P H nx t n)
  | .slice t x lo hi none => (evalS T x).bind (emptyS P T H nx t lo hi)
  | .mapUpdate t m k x => (litS T k).bind fun kv => (evalS T x).bind fun v => (evalS T m).bind (mapUpS P H nx t kv v)
  | .insert t m k x => (litS T k).bind fun kv => (evalS T x).bind fun v => (evalS T m).bind (mapUpS P H nx t kv v)
  | .convert s t x => (evalS T x).bind (bytesOfS P H nx s t)
  | .range t x => (evalS T x).bind (rangeS P H nx t)
  | .call c => match c.callee with
    | .builtin b => (evalL T c.args.toList).bind (builtinS P H nx b c.argTypes.toList)
    | _ => (callTarget P T c).map fun a => (a, H, nx)
  | .defer c => match c.callee with
    | .builtin _ => none
    | .invoke _ _ => none
    | .value _ => match callTarget P T c with
      | some (.enter f args) => some (.dfr (.call f args), H, nx)
      | _ => none
  | _ => none
def nextOp (T : Tr SV) (H : Heap) (nx : Nat) (o : Oper) : Option (List Out) :=
  match o.op with
  | .next it isString => match evalS T it with
    | some (.ptr r 0) => match H.at' r, isString with
      | some (.siter s pos), true =>
        bif Nat.blt pos s.size then match Utf8.decode s pos with
          | (c, width) => some [(.val (.sc (.tuple #[.bool true, goInt pos, .int .i32 c])), H.set r (.siter s (pos + width)), nx)]
        else some [(.val (.sc (.tuple #[.bool false])), H, nx)]
      | some (.iter none _ _ _), false => some [(.val (.sc (.tuple #[.bool false])), H, nx)]
      | some (.iter (some m) since seen last), false => match H.at' m with
        | some (.map l clock) =>
          bif !seen.isEmpty && !l.isEmpty && l.all (fun x => Nat.ble last x.2.2) then none else
          let left := l.filter fun x => !(seen.contains x.2.2)
          let old := left.filter fun x => Nat.blt x.2.2 since
          let new := left.filter fun x => Nat.ble since x.2.2
          let go (x : Value × SV × Nat) : Out := (.val (.tup [.sc (.bool true), .sc x.1, x.2.1]), H.set r (.iter (some m) since (seen ++ [x.2.2]) clock), nx)
          some ((bif old.isEmpty then [(.val (.sc (.tuple #[.bool false])), H, nx)] else []) ++ (old ++ new).map go)
        | _ => none
      | _, _ => none
    | _ => none
  | _ => none
def anyOp (T : Tr SV) (H : Heap) (nx : Nat) (o : Oper) : Option (List Out) :=
  match readOp P T H o with
  | some v => some [(.val v, H, nx)]
  | none => match pureOp P T o with
    | some v => some [(.val v, H, nx)]
    | none => match effOp P T H nx o with
      | some r => some [r]
      | none => nextOp T H nx o
end
inductive AIt where
  | code (c : Code)
  | inBlock (id : Nat)
  | inLoop (body : Code)
  | inScope (body : Code)
  | inReg (ops : Array Oper) (i : Nat) (l : List Oper)
  | inRange (l : Nat)
  | endRange (l : Nat)
  | beginRound
structure FrS where
  fn : FuncId
  nt : Nat
  T : Tr SV
  todo : List AIt
  dfs : List ADf
  hp : Heap
  nx : Nat
abbrev Res := SV × Heap × Nat
def exitS (id : Nat) : List AIt → Option (List AIt)
  | .inBlock id' :: k => bif Nat.beq id' id then some k else exitS id k
  | _ :: k => exitS id k
  | [] => none
def gotoS (l : Nat) : List AIt → Option (List AIt)
  | .inScope body :: k =>
    match findLabel body l with
    | some rest => some (.code rest :: .inScope body :: k)
    | none => gotoS l k
  | _ :: k => gotoS l k
  | [] => none
def putS (nt : Nat) (T : Tr SV) (dst : Option Tmp) (v : SV) : Tr SV := match dst with
  | some d => bif Nat.blt d nt then T.set d v else T
  | none => T
def wantedS (T : Tr SV) (ops : Array Oper) (o : Oper) : Option Bool :=
  match o.guard with
  | none => some true
  | some (j, want) => match ops[j]? with
    | some oj => match oj.dst with
      | some d => match T.at' d with
        | some (.sc (.bool b)) => some (b == want)
        | some (.sc (.tuple _)) => some false
        | _ => none
      | none => some false
    | none => some false
def enterT : Tr SV → Nat → List SV → Tr SV
  | T, _, [] => T
  | T, i, x :: l => enterT (T.set i x) (i + 1) l
def flat {A : Type} (f : A → Option (List Res)) : List A → Option (List Res)
  | [] => some []
  | x :: l => match f x with
    | some r => match flat f l with
      | some r' => some (r ++ r')
      | none => none
    | none => none
def resS (P : Program) (H : Heap) (T : Tr SV) : List ResultVar → Option (List SV)
  | [] => some []
  | .tmp t :: l => match T.at' t with
    | some v => match resS P H T l with
      | some r => some (v :: r)
      | none => none
    | none => none
  | .cell a t :: l => match T.at' a with
    | some (.ptr b o) => match H.at' b, aggSize P t with
      | some vo, some none => match vo.cell o, resS P H T l with
        | some v, some r => some (v :: r)
        | _, _ => none
      | some vo, some (some n) => match vo.cellsFrom o n, resS P H T l with
        | some v, some r => some (.agg v :: r)
        | _, _ => none
      | _, _ => none
    | _ => none
end
end Go.Ex
end
section
namespace Go.Ex
open Go
noncomputable section
mutual
def SV.same : SV → SV → Bool
  | .sc (.bool a), .sc (.bool b) => a == b
  | .sc (.int k a), .sc (.int k' b) => decide (k = k') && decide (a = b)
  | .sc (.string a), .sc (.string b) => decide (a = b)
  | .sc (.pointer none), .sc (.pointer none) => true
  | .sc (.slice none n c), .sc (.slice none n' c') => Nat.beq n n' && Nat.beq c c'
  | .sc (.map none), .sc (.map none) => true
  | .sc .nilFunc, .sc .nilFunc => true
  | .sc .nilIface, .sc .nilIface => true
  | .ptr b o, .ptr b' o' => Nat.beq b b' && Nat.beq o o'
  | .sl b o n c, .sl b' o' n' c' => Nat.beq b b' && Nat.beq o o' && Nat.beq n n' && Nat.beq c c'
  | .slu b o n c, .slu b' o' n' c' => Nat.beq b b' && Nat.beq o o' && Nat.beq n n' && Nat.beq c c'
  | .mp b, .mp b' => Nat.beq b b'
  | .yld b, .yld b' => Nat.beq b b'
  | .agg l, .agg l' => SV.sameL l l'
  | .tup l, .tup l' => SV.sameL l l'
  | .ifc t v, .ifc t' v' => Nat.beq t t' && SV.same v v'
  | _, _ => false
def SV.sameL : List SV → List SV → Bool
  | [], [] => true
  | x :: l, y :: l' => SV.same x y && SV.sameL l l'
  | _, _ => false
end
structure Rec where
  i : Nat
  o : Oper
  T : Tr SV
  stg : Nat
  chain : Bool
  wanted : Bool
  val : SV
def dstsOk (nt : Nat) : List Oper → List Tmp → Bool
  | [], _ => true
  | o :: l, seen => match o.dst with
    | some d => Nat.blt d nt && !(seen.contains d) && dstsOk nt l (d :: seen)
    | none => dstsOk nt l seen
def writer (t : Tmp) : List Oper → Nat → Option Nat
  | [], _ => none
  | o :: l, i => match o.dst with
    | some d => bif Nat.beq d t then some i else writer t l (i + 1)
    | none => writer t l (i + 1)
def guardOp (ops : List Oper) (o : Oper) : List Operand := match o.guard with
  | none => []
  | some (j, _) => match ops[j]? with
    | none => []
    | some oj => match oj.dst with
      | some d => [.tmp d]
      | none => []
def needs (ops : List Oper) (o : Oper) : List Operand := guardOp ops o ++ o.op.operands.toList
def operandsOk (ops : List Oper) (anc : Nat) : List Operand → Bool
  | [] => true
  | .tmp t :: l => (match writer t ops 0 with
    | some j => anc.testBit j
    | none => true) && operandsOk ops anc l
  | _ :: l => operandsOk ops anc l
def ancOf (acc : List Nat) : List Edge → Nat
  | [] => 0
  | e :: l => bif Region.binds .any e then 2 ^ e.on ||| (acc.getD e.on 0 ||| ancOf acc l) else ancOf acc l
def ancGo : List Nat → List Oper → List Nat
  | acc, [] => acc
  | acc, o :: l => ancGo (acc ++ [ancOf acc o.after.toList]) l
def edgesOk (i : Nat) : List Edge → Bool
  | [] => true
  | e :: l => (bif Region.binds .any e then Nat.blt e.on i else true) && edgesOk i l
def opsOk (all : List Oper) : List Nat → List Oper → Nat → Bool
  | anc :: ancs, o :: l, i => edgesOk i o.after.toList && operandsOk all anc (needs all o) && opsOk all ancs l (i + 1)
  | _, [], _ => true
  | [], _ :: _, _ => false
def regionOk (nt : Nat) (ops : List Oper) : Bool :=
  dstsOk nt ops [] && opsOk ops (ancGo [] ops) ops 0
def onlyT (T : Tr SV) : List Operand → Tr SV
  | [] => .nil
  | .tmp t :: l => match T.at' t with
    | some v => (onlyT T l).set t v
    | none => onlyT T l
  | _ :: l => onlyT T l
def looksAtHeap : Op → Bool
  | .load .. | .lookup .. | .slice .. | .convert .. | .call _ | .entry _ => true
  | _ => false
def floatOp (P : Program) (T : Tr SV) (H : Heap) (o : Oper) : Option SV :=
  match readOp P T H o with
  | some v => some v
  | none => pureOp P T o
def stableAt (P : Program) (T : Tr SV) (o : Oper) (v : SV) : List Heap → Bool
  | [] => true
  | H :: l => (match floatOp P T H o with
    | some u => SV.same v u
    | none => false) && stableAt P T o v l
def lowOf (anc : Nat) : List Nat → Nat
  | [] => 0
  | c :: l => bif anc.testBit c then lowOf anc l + 1 else 0
def highOf (ancs : List Nat) (i : Nat) : List Nat → Nat
  | [] => 0
  | c :: l => bif (ancs.getD c 0).testBit i then 0 else highOf ancs i l + 1
def chainOk (ancs : List Nat) : List Nat → Bool
  | a :: b :: l => (ancs.getD b 0).testBit a && chainOk ancs (b :: l)
  | _ => true
def floatsOk (P : Program) (ancs : List Nat) (chain : List Nat) (Hs : List (Heap × Nat)) : List Rec → Bool
  | [] => true
  | r :: l => (bif r.chain || !r.wanted || !(looksAtHeap r.o.op) then true else
      let lo := lowOf (ancs.getD r.i 0) chain
      let hi := highOf ancs r.i chain
      bif Nat.beq lo r.stg && Nat.beq hi r.stg then true else stableAt P r.T r.o r.val (((Hs.drop lo).take (hi + 1 - lo)).map (·.1))) && floatsOk P ancs chain Hs l
structure DS where
  T : Tr SV
  H : Heap
  nx : Nat
  recs : List Rec
  Hs : List (Heap × Nat)
  stg : Nat
abbrev Rn := Option Nat → Bool → FrS → Option (List Res)
def bodyOf (P : Program) (f : FuncId) : Option Code := match P.funcs[f]? with
  | some fn => fn.body
  | none => none
def ntOf (P : Program) (f : FuncId) : Nat := match P.funcs[f]? with
  | some fn => fn.ntmps
  | none => 0
def resultsOf (P : Program) (f : FuncId) : Option (List ResultVar) := match P.funcs[f]? with
  | some fn => some fn.results.toList
  | none => none
def callS (P : Program) (rn : Rn) (f : FuncId) (args : List SV) (H : Heap) (nx : Nat) : Option (List Res) :=
  match bodyOf P f with
  | some c => rn none false { fn := f, nt := max args.length (ntOf P f), T := enterT .nil 0 args, todo := [.code c], dfs := [], hp := H, nx := nx }
  | none => none
def roundS (rn : Rn) (l : Nat) (args : List SV) (H : Heap) (nx : Nat) : Option (List Res) :=
  match H.at' l with
  | some (.loop _ _ fn nt T params assign body _) =>
    bif Nat.beq params.size args.length then
      rn (some l) false { fn := fn, nt := nt, T := (params.toList.zip args).foldl (fun T x => putS nt T (some x.1) x.2) T, todo := [.code assign, .beginRound, .code body], dfs := [], hp := H, nx := nx }
    else none
  | _ => none
def drawEff (P : Program) (rn : Rn) (T : Tr SV) (H : Heap) (nx : Nat) (o : Oper) : Option Res :=
  match effOp P T H nx o with
  | none => none
  | some (a, H, nx) => match a with
    | .val v => some (v, H, nx)
    | .skip => some (undefS, H, nx)
    | .enter f args => match callS P rn f args H nx with
      | some [r] => some r
      | _ => none
    | .round l args => match roundS rn l args H nx with
      | some [r] => some r
      | _ => none
    | _ => none
def drawOne (P : Program) (rn : Rn) (nt : Nat) (ops : Array Oper) (i : Nat) (o : Oper) (s : DS) : Option DS :=
  let T := onlyT s.T (needs ops.toList o)
  match wantedS T ops o with
  | none => none
  | some false => some { s with T := putS nt s.T o.dst undefS, recs := ⟨i, o, T, s.stg, false, false, undefS⟩ :: s.recs }
  | some true => match floatOp P T s.H o with
    | some v => some { s with T := putS nt s.T o.dst v, recs := ⟨i, o, T, s.stg, false, true, v⟩ :: s.recs }
    | none => match drawEff P rn T s.H s.nx o with
      | some (v, H, nx) => some ⟨putS nt s.T o.dst v, H, nx, ⟨i, o, T, s.stg, true, true, v⟩ :: s.recs, (H, nx) :: s.Hs, s.stg + 1⟩
      | none => none
def drawAll (P : Program) (rn : Rn) (nt : Nat) (ops : Array Oper) : Nat → List Oper → DS → Option DS
  | _, [], s => some s
  | i, o :: l, s => match drawOne P rn nt ops i o s with
    | some s' => drawAll P rn nt ops (i + 1) l s'
    | none => none
def drawRegion (P : Program) (rn : Rn) (ops : Array Oper) (nt : Nat) (T : Tr SV) (H : Heap) (nx : Nat) : Option (Tr SV × Heap × Nat) :=
  bif regionOk nt ops.toList then match drawAll P rn nt ops 0 ops.toList ⟨T, H, nx, [], [(H, nx)], 0⟩ with
    | some s =>
      let chain := (s.recs.reverse.filter (·.chain)).map (·.i)
      let ancs := ancGo [] ops.toList
      bif chainOk ancs chain && floatsOk P ancs chain s.Hs.reverse s.recs then some (s.T, s.H, s.nx) else none
    | none => none
  else none
def valueOf : List SV → SV
  | [v] => v
  | l => .tup l
def leaveS (l : Nat) (jump : Option Code) (H : Heap) (nx : Nat) : Option (List Res) :=
  match H.at' l with
  | some (.loop _ _ fn nt T params assign body dr) =>
    some [(.sc (.bool jump.isNone), H.set l (.loop (if jump.isNone then .ready else .done) jump fn nt T params assign body dr), nx)]
  | _ => none
def finS (P : Program) (rn : Rn) (s : FrS) : Option (List Res) :=
  match s.dfs with
  | .taken r :: ds => match s.hp.at' r with
    | some (.dfd (some l)) => rn none true { s with dfs := l ++ ds, hp := s.hp.set r (.dfd none) }
    | _ => none
  | .call g args :: ds => bif mayEnter P g then match callS P rn g args s.hp s.nx with
      | some rs => flat (fun r => rn none true { s with dfs := ds, hp := r.2.1, nx := r.2.2 }) rs
      | none => none
    else none
  | [] => match resultsOf P s.fn with
    | some l => match resS P s.hp s.T l with
      | some vs => some [(valueOf vs, s.hp, s.nx)]
      | none => none
    | none => none
def leaveR (rn : Rn) (ro : Option Nat) (jump : Option Code) (s : FrS) : Option (List Res) :=
  match ro with
  | none => match jump with
    | none => rn none true s
    | some .ret => rn none true s
    | _ => none
  | some l => leaveS l jump s.hp s.nx
def loopDefers (ro : Option Nat) (H : Heap) (nx : Nat) : Option (Nat × Heap × Nat × List ADf) :=
  match ro with
  | none => some (nx, H.set nx (.dfd (some [])), nx + 1, [.taken nx])
  | some l => match H.at' l with
    | some (.loop _ _ _ _ _ _ _ _ dr) => some (dr, H, nx, [])
    | _ => none
def codeS (P : Program) (rn : Rn) (ro : Option Nat) (s : FrS) (k : List AIt) (c : Code) : Option (List Res) :=
  match c with
  | .ret => leaveR rn ro (some .ret) s
  | .skip => rn ro false { s with todo := k }
  | .label _ => rn ro false { s with todo := k }
  | .seq a b => rn ro false { s with todo := .code a :: .code b :: k }
  | .cond c a b => match evalS s.T c with
    | some (.sc (.bool t)) => rn ro false { s with todo := .code (bif t then a else b) :: k }
    | _ => none
  | .block id b => rn ro false { s with todo := .code b :: .inBlock id :: k }
  | .loop b => rn ro false { s with todo := .code b :: .inLoop b :: k }
  | .scope b => rn ro false { s with todo := .code b :: .inScope b :: k }
  | .exit id => match exitS id k with
    | some k' => rn ro false { s with todo := k' }
    | none => leaveR rn ro (some (.exit id)) s
  | .goto l => match gotoS l k with
    | some k' => rn ro false { s with todo := k' }
    | none => leaveR rn ro (some (.goto l)) s
  | .refuse _ => none
  | .region _ ops draw => match draw with
    | false => rn ro false { s with todo := .inReg ops 0 ops.toList :: k }
    | true => match drawRegion P rn ops s.nt s.T s.hp s.nx with
      | some (T, H, nx) => rn ro false { s with todo := k, T := T, hp := H, nx := nx }
      | none => none
  | .rangeFunc fo params assign body =>
    match loopDefers ro s.hp s.nx with
    | none => none
    | some (dr, H, nx, mark) => match evalS s.T fo with
      | none => none
      | some sf => match fnTarget sf with
        | none => none
        | some (g, a, b) => bif mayEnter P g then
            match callS P rn g (a ++ [.yld nx] ++ b) (H.set nx (.loop .ready none s.fn s.nt s.T params assign body dr)) (nx + 1) with
            | some rs => flat (fun r => rn ro false { s with todo := .endRange nx :: k, dfs := mark ++ s.dfs, hp := r.2.1, nx := r.2.2 }) rs
            | none => none
          else none
def outS (P : Program) (rn : Rn) (ro : Option Nat) (s : FrS) (dst : Option Tmp) (k' : List AIt) (r : Out) : Option (List Res) :=
  let go (v : SV) (H : Heap) (nx : Nat) := rn ro false { s with T := putS s.nt s.T dst v, todo := k', hp := H, nx := nx }
  match r with
  | (.val v, H, nx) => go v H nx
  | (.skip, H, nx) => go undefS H nx
  | (.recover, H, nx) => match ro with
    | none => go (.sc .nilIface) H nx
    | some _ => none
  | (.dfr d, H, nx) => match ro with
    | none => rn ro false { s with T := putS s.nt s.T dst undefS, dfs := d :: s.dfs, todo := k', hp := H, nx := nx }
    | some _ => none
  | (.enter g args, H, nx) => match callS P rn g args H nx with
    | some rs => flat (fun r => go r.1 r.2.1 r.2.2) rs
    | none => none
  | (.round l' args, H, nx) => match roundS rn l' args H nx with
    | some rs => flat (fun r => go r.1 r.2.1 r.2.2) rs
    | none => none
def opS (P : Program) (rn : Rn) (ro : Option Nat) (s : FrS) (k : List AIt) (ops : Array Oper) (i : Nat) (o : Oper) (l : List Oper) : Option (List Res) :=
  match wantedS s.T ops o with
  | none => none
  | some false => rn ro false { s with T := putS s.nt s.T o.dst undefS, todo := .inReg ops (i + 1) l :: k }
  | some true => match anyOp P s.T s.hp s.nx o with
    | none => none
    | some outs => flat (outS P rn ro s o.dst (.inReg ops (i + 1) l :: k)) outs
def withPend (pend : Option Code) (k : List AIt) : List AIt := match pend with
  | some c => .code c :: k
  | none => k
def stepS (P : Program) (rn : Rn) (ro : Option Nat) (s : FrS) : Option (List Res) :=
  match s.todo with
  | [] => leaveR rn ro none s
  | it :: k => match it with
    | .code c => codeS P rn ro s k c
    | .inBlock _ => rn ro false { s with todo := k }
    | .inScope _ => rn ro false { s with todo := k }
    | .inLoop b => rn ro false { s with todo := .code b :: .inLoop b :: k }
    | .inReg ops i l => match l with
      | [] => rn ro false { s with todo := k }
      | o :: l => opS P rn ro s k ops i o l
    | .inRange _ => none
    | .endRange l => match s.hp.at' l with
      | some (.loop st pend fn nt T params assign body dr) => match st with
        | .busy => none
        | _ => rn ro false { s with todo := withPend pend k, hp := s.hp.set l (.loop .exhausted pend fn nt T params assign body dr) }
      | _ => none
    | .beginRound => match ro with
      | some l => match s.hp.at' l with
        | some (.loop st pend fn nt T params assign body dr) => match st with
          | .ready => rn ro false { s with todo := k, hp := s.hp.set l (.loop .busy pend fn nt T params assign body dr) }
          | _ => none
        | _ => none
      | none => none
def normFS (s : FrS) : FrS :=
  FrS.rec (motive := fun _ => FrS) (fun fn nt T todo dfs hp nx => Nat.rec (motive := fun _ => FrS) ⟨fn, 0, T, todo, dfs, hp, nx⟩ (fun n _ => ⟨fn, Nat.succ n, T, todo, dfs, hp, nx⟩) nt) s
theorem normFS_eq (s : FrS) : normFS s = s := by
  obtain ⟨fn, nt, T, todo, dfs, hp, nx⟩ := s
  cases nt <;> rfl
def run (P : Program) (f : Nat) : Rn :=
  Nat.rec (motive := fun _ => Rn) (fun _ _ _ => none)
    (fun _ ih ro lv s => Bool.rec (motive := fun _ => Option (List Res)) (stepS P ih ro (normFS s)) (Option.rec (motive := fun _ => Option (List Res)) (finS P ih s) (fun _ => none) ro) lv) f
def isTrue : List Res → Bool
  | [] => true
  | (.sc (.bool true), _, _) :: l => isTrue l
  | _ :: _ => false
def proves (P : Program) (fuel : Nat) (f : FuncId) : Bool :=
  bif P.follows .mixedOrders then match callS P (run P fuel) f [] .nil 0 with
    | some (r :: rs) => isTrue (r :: rs)
    | _ => false
  else false
end
end Go.Ex
end
section
namespace Go.Ex
open Go Go.Sl Go.RowKit
abbrev bt (n s : Nat) : Bool := Nat.beq (Nat.land (Nat.shiftRight n s) 1) 0
section
variable {A : Type}
theorem Tr.get_tip (k : Nat) (v : A) (n s : Nat) : (Tr.tip k v).get n s = bif Nat.beq k n then some v else none := by
  show @Bool.rec (fun _ => Option A) none (some v) (Nat.beq k n) = _
  cases Nat.beq k n <;> rfl
theorem Tr.get_node (l r : Tr A) (n s : Nat) : (Tr.node l r).get n s = bif bt n s then l.get n (s + 1) else r.get n (s + 1) := by
  show @Bool.rec (fun _ => Option A) (r.get n (s + 1)) (l.get n (s + 1)) (bt n s) = _
  cases bt n s <;> rfl
theorem Tr.ins_nil (n : Nat) (v : A) (s : Nat) : (Tr.nil : Tr A).ins n v s = .tip n v := rfl
theorem Tr.ins_tip (k : Nat) (u : A) (n : Nat) (v : A) (s : Nat) : (Tr.tip k u).ins n v s = bif Nat.beq k n then .tip n v else Tr.split k u n v 80 s := by
  show @Bool.rec (fun _ => Tr A) (Tr.split k u n v 80 s) (.tip n v) (Nat.beq k n) = _
  cases Nat.beq k n <;> rfl
theorem Tr.ins_node (l r : Tr A) (n : Nat) (v : A) (s : Nat) : (Tr.node l r).ins n v s = bif bt n s then .node (l.ins n v (s + 1)) r else .node l (r.ins n v (s + 1)) := by
  show @Bool.rec (fun _ => Tr A) (Tr.node l (r.ins n v (s + 1))) (.node (l.ins n v (s + 1)) r) (bt n s) = _
  cases bt n s <;> rfl
theorem Tr.cut_tip (k : Nat) (u : A) (n : Nat) (s : Nat) : (Tr.tip k u).cut n s = bif Nat.beq k n then .nil else .tip k u := by
  show @Bool.rec (fun _ => Tr A) (.tip k u) .nil (Nat.beq k n) = _
  cases Nat.beq k n <;> rfl
theorem Tr.cut_node (l r : Tr A) (n : Nat) (s : Nat) : (Tr.node l r).cut n s = bif bt n s then .node (l.cut n (s + 1)) r else .node l (r.cut n (s + 1)) := by
  show @Bool.rec (fun _ => Tr A) (Tr.node l (r.cut n (s + 1))) (.node (l.cut n (s + 1)) r) (bt n s) = _
  cases bt n s <;> rfl
theorem Tr.split_succ (k : Nat) (u : A) (n : Nat) (v : A) (f s : Nat) : Tr.split k u n v (f + 1) s =
    bif bt k s then (bif bt n s then .node (Tr.split k u n v f (s + 1)) .nil else .node (.tip k u) (.tip n v))
    else (bif bt n s then .node (.tip n v) (.tip k u) else .node .nil (Tr.split k u n v f (s + 1))) := by
  show @Bool.rec (fun _ => Tr A) (@Bool.rec (fun _ => Tr A) (.node .nil (Tr.split k u n v f (s + 1))) (.node (.tip n v) (.tip k u)) (bt n s))
      (@Bool.rec (fun _ => Tr A) (.node (.tip k u) (.tip n v)) (.node (Tr.split k u n v f (s + 1)) .nil) (bt n s)) (bt k s) = _
  cases bt k s <;> cases bt n s <;> rfl
theorem Tr.get_split {k : Nat} {u : A} {n : Nat} {v : A} (hne : Nat.beq k n = false) : ∀ (f s m : Nat) (x : A), (Tr.split k u n v f s).get m s = some x → (m = n ∧ x = v) ∨ (m ≠ n ∧ (Tr.tip k u).get m s = some x)
  | 0, s, m, x, h => by cases h
  | f + 1, s, m, x, h => by
    have tipn : ∀ s', (Tr.tip n v).get m s' = some x → (m = n ∧ x = v) := by
      intro s' h
      rw [Tr.get_tip] at h
      cases hb : Nat.beq n m with
      | true => rw [hb] at h; simp only [cond_true, Option.some.injEq] at h; exact ⟨(Nat.eq_of_beq_eq_true hb).symm, h.symm⟩
      | false => rw [hb] at h; cases h
    have tipk : ∀ s', (Tr.tip k u).get m s' = some x → m ≠ n ∧ (Tr.tip k u).get m s = some x := by
      intro s' h'
      refine ⟨?_, by rw [Tr.get_tip] at h' ⊢; exact h'⟩
      rintro rfl
      rw [Tr.get_tip, hne] at h'
      cases h'
    rw [Tr.split_succ] at h
    cases hk : bt k s <;> cases hn : bt n s <;> rw [hk, hn] at h <;> simp only [cond_true, cond_false] at h <;> rw [Tr.get_node] at h <;>
      (cases hm : bt m s <;> rw [hm] at h <;> simp only [cond_true, cond_false] at h)
    · rcases Tr.get_split hne f (s + 1) m x h with h | ⟨h1, h2⟩
      · exact .inl h
      · exact .inr (tipk _ h2)
    · cases h
    · exact .inr (tipk _ h)
    · exact .inl (tipn _ h)
    · exact .inl (tipn _ h)
    · exact .inr (tipk _ h)
    · cases h
    · rcases Tr.get_split hne f (s + 1) m x h with h | ⟨h1, h2⟩
      · exact .inl h
      · exact .inr (tipk _ h2)
theorem Tr.get_ins : ∀ (t : Tr A) (n : Nat) (v : A) (s m : Nat) (x : A), (t.ins n v s).get m s = some x → (m = n ∧ x = v) ∨ (m ≠ n ∧ t.get m s = some x)
  | .nil, n, v, s, m, x, h => by
    rw [Tr.ins_nil, Tr.get_tip] at h
    cases hb : Nat.beq n m with
    | true => rw [hb] at h; simp only [cond_true, Option.some.injEq] at h; exact .inl ⟨(Nat.eq_of_beq_eq_true hb).symm, h.symm⟩
    | false => rw [hb] at h; cases h
  | .tip k u, n, v, s, m, x, h => by
    rw [Tr.ins_tip] at h
    cases hk : Nat.beq k n with
    | true =>
      have := Nat.eq_of_beq_eq_true hk
      subst this
      rw [hk] at h
      simp only [cond_true, Tr.get_tip] at h
      cases hb : Nat.beq k m with
      | true =>
        rw [hb] at h
        have := Nat.eq_of_beq_eq_true hb
        simp only [cond_true, Option.some.injEq] at h
        exact .inl ⟨this.symm, h.symm⟩
      | false => rw [hb] at h; cases h
    | false =>
      rw [hk] at h
      exact Tr.get_split hk 80 s m x h
  | .node l r, n, v, s, m, x, h => by
    rw [Tr.ins_node] at h
    cases hn : bt n s <;> rw [hn] at h <;> simp only [cond_true, cond_false] at h <;> rw [Tr.get_node] at h <;>
      (cases hm : bt m s <;> rw [hm] at h <;> simp only [cond_true, cond_false] at h)
    · rcases Tr.get_ins r n v (s + 1) m x h with h | ⟨h1, h2⟩
      · exact .inl h
      · exact .inr ⟨h1, by rw [Tr.get_node, hm]; exact h2⟩
    · refine .inr ⟨?_, by rw [Tr.get_node, hm]; exact h⟩
      rintro rfl; rw [hm] at hn; cases hn
    · refine .inr ⟨?_, by rw [Tr.get_node, hm]; exact h⟩
      rintro rfl; rw [hm] at hn; cases hn
    · rcases Tr.get_ins l n v (s + 1) m x h with h | ⟨h1, h2⟩
      · exact .inl h
      · exact .inr ⟨h1, by rw [Tr.get_node, hm]; exact h2⟩
theorem Tr.get_cut : ∀ (t : Tr A) (n s m : Nat) (x : A), (t.cut n s).get m s = some x → m ≠ n ∧ t.get m s = some x
  | .nil, n, s, m, x, h => by cases h
  | .tip k v, n, s, m, x, h => by
    rw [Tr.cut_tip] at h
    cases hk : Nat.beq k n with
    | true => rw [hk] at h; cases h
    | false =>
      rw [hk] at h
      refine ⟨?_, h⟩
      rintro rfl
      simp only [Tr.get_tip, hk, cond_false] at h
      cases h
  | .node l r, n, s, m, x, h => by
    rw [Tr.cut_node] at h
    cases hn : bt n s <;> rw [hn] at h <;> simp only [cond_true, cond_false] at h <;> rw [Tr.get_node] at h <;>
      (cases hm : bt m s <;> rw [hm] at h <;> simp only [cond_true, cond_false] at h)
    · obtain ⟨h1, h2⟩ := Tr.get_cut r n (s + 1) m x h
      exact ⟨h1, by rw [Tr.get_node, hm]; exact h2⟩
    · refine ⟨?_, by rw [Tr.get_node, hm]; exact h⟩
      rintro rfl; rw [hm] at hn; cases hn
    · refine ⟨?_, by rw [Tr.get_node, hm]; exact h⟩
      rintro rfl; rw [hm] at hn; cases hn
    · obtain ⟨h1, h2⟩ := Tr.get_cut l n (s + 1) m x h
      exact ⟨h1, by rw [Tr.get_node, hm]; exact h2⟩
end
theorem Tr.at_set {A : Type} {t : Tr A} {n m : Nat} {v x : A} (h : (t.set n v).at' m = some x) : (m = n ∧ x = v) ∨ (m ≠ n ∧ t.at' m = some x) := Tr.get_ins t n v 0 m x h
theorem Tr.at_del {A : Type} {t : Tr A} {n m : Nat} {x : A} (h : (t.del n).at' m = some x) : m ≠ n ∧ t.at' m = some x := Tr.get_cut t n 0 m x h
theorem Tr.at_nil {A : Type} (m : Nat) : (Tr.nil : Tr A).at' m = none := rfl
theorem fillTr_at : ∀ (l : List SV) (c : Tr SV) (i j : Nat) (x : SV), (fillTr c i l).at' j = some x → (i ≤ j ∧ l[j - i]? = some x ∧ j < i + l.length) ∨ ((j < i ∨ i + l.length ≤ j) ∧ c.at' j = some x)
  | [], c, i, j, x, h => .inr ⟨by simp; omega, h⟩
  | y :: l, c, i, j, x, h => by
    rcases fillTr_at l (c.set i y) (i + 1) j x h with ⟨h1, h2, h3⟩ | ⟨h1, h2⟩
    · refine .inl ⟨by omega, ?_, by simp only [List.length_cons]; omega⟩
      rw [show j - i = (j - (i + 1)) + 1 by omega, List.getElem?_cons_succ]
      exact h2
    · rcases Tr.at_set h2 with ⟨rfl, rfl⟩ | ⟨h3, h4⟩
      · exact .inl ⟨Nat.le_refl _, by simp, by simp⟩
      · refine .inr ⟨?_, h4⟩
        simp only [List.length_cons]
        omega
structure Ent where
  blk : Nat
  base : Nat
  cap : Nat
abbrev Env := Nat → Option Ent
def Env.le (e e' : Env) : Prop := ∀ i x, e i = some x → e' i = some x
def Env.put (e : Env) (n : Nat) (x : Ent) : Env := fun i => if i = n then some x else e i
theorem Env.le_refl (e : Env) : e.le e := fun _ _ h => h
theorem Env.le_trans {a b c : Env} (h : a.le b) (h' : b.le c) : a.le c := fun i x hx => h' i x (h i x hx)
theorem Env.le_put {e : Env} {n : Nat} {x : Ent} (h : e n = none) : e.le (e.put n x) := by
  intro i y hy
  unfold Env.put
  by_cases hi : i = n
  · subst hi; rw [h] at hy; cases hy
  · rw [if_neg hi]; exact hy
theorem Env.put_same (e : Env) (n : Nat) (x : Ent) : (e.put n x) n = some x := by simp [Env.put]
theorem Env.put_other (e : Env) {n m : Nat} (x : Ent) (h : m ≠ n) : (e.put n x) m = e m := by simp [Env.put, h]
mutual
def SV.conc (e : Env) : SV → Option Value
  | .sc v => some v
  | .ptr b o => (e b).map fun x => .pointer (some ⟨x.blk, x.base + o, none⟩)
  | .sl b o n c => (e b).map fun x => .slice (some ⟨x.blk, x.base + o, none⟩) n c
  | .slu b o eo n => (e b).map fun x => .slice (some ⟨x.blk, x.base + o, none⟩) n (x.cap - eo)
  | .mp b => (e b).map fun x => .map (some x.blk)
  | .yld b => (e b).map fun x => .func (.yield x.blk) #[] #[]
  | .agg l => (SV.concL e l).map fun vs => .agg vs.toArray
  | .tup l => (SV.concL e l).map fun vs => .tuple vs.toArray
  | .ifc t v => (SV.conc e v).map fun x => .iface t x
  | .fn f a b => match SV.concL e a, SV.concL e b with
    | some x, some y => some (.func f x.toArray y.toArray)
    | _, _ => none
def SV.concL (e : Env) : List SV → Option (List Value)
  | [] => some []
  | x :: l => match SV.conc e x, SV.concL e l with
    | some v, some vs => some (v :: vs)
    | _, _ => none
end
mutual
theorem SV.conc_mono {e e' : Env} (h : e.le e') : ∀ (s : SV) (v : Value), s.conc e = some v → s.conc e' = some v
  | .sc _, v, hs => by simpa [SV.conc] using hs
  | .ptr b o, v, hs => by
    simp only [SV.conc, Option.map_eq_some_iff] at hs ⊢
    obtain ⟨x, hx, rfl⟩ := hs; exact ⟨x, h _ _ hx, rfl⟩
  | .sl b o n c, v, hs => by
    simp only [SV.conc, Option.map_eq_some_iff] at hs ⊢
    obtain ⟨x, hx, rfl⟩ := hs; exact ⟨x, h _ _ hx, rfl⟩
  | .slu b o eo n, v, hs => by
    simp only [SV.conc, Option.map_eq_some_iff] at hs ⊢
    obtain ⟨x, hx, rfl⟩ := hs; exact ⟨x, h _ _ hx, rfl⟩
  | .mp b, v, hs => by
    simp only [SV.conc, Option.map_eq_some_iff] at hs ⊢
    obtain ⟨x, hx, rfl⟩ := hs; exact ⟨x, h _ _ hx, rfl⟩
  | .yld b, v, hs => by
    simp only [SV.conc, Option.map_eq_some_iff] at hs ⊢
    obtain ⟨x, hx, rfl⟩ := hs; exact ⟨x, h _ _ hx, rfl⟩
  | .agg l, v, hs => by
    simp only [SV.conc, Option.map_eq_some_iff] at hs ⊢
    obtain ⟨x, hx, rfl⟩ := hs; exact ⟨x, SV.concL_mono h l x hx, rfl⟩
  | .tup l, v, hs => by
    simp only [SV.conc, Option.map_eq_some_iff] at hs ⊢
    obtain ⟨x, hx, rfl⟩ := hs; exact ⟨x, SV.concL_mono h l x hx, rfl⟩
  | .ifc t s, v, hs => by
    simp only [SV.conc, Option.map_eq_some_iff] at hs ⊢
    obtain ⟨x, hx, rfl⟩ := hs; exact ⟨x, SV.conc_mono h s x hx, rfl⟩
  | .fn f a b, v, hs => by
    simp only [SV.conc] at hs ⊢
    cases ha : SV.concL e a with
    | none => rw [ha] at hs; cases hs
    | some x =>
      cases hb : SV.concL e b with
      | none => rw [ha, hb] at hs; cases hs
      | some y =>
        rw [ha, hb] at hs
        rw [SV.concL_mono h a x ha, SV.concL_mono h b y hb]
        exact hs
theorem SV.concL_mono {e e' : Env} (h : e.le e') : ∀ (l : List SV) (vs : List Value), SV.concL e l = some vs → SV.concL e' l = some vs
  | [], vs, hs => by simpa [SV.concL] using hs
  | x :: l, vs, hs => by
    simp only [SV.concL] at hs ⊢
    cases hx : SV.conc e x with
    | none => rw [hx] at hs; cases hs
    | some v =>
      cases hl : SV.concL e l with
      | none => rw [hx, hl] at hs; cases hs
      | some ws =>
        rw [hx, hl] at hs
        rw [SV.conc_mono h x v hx, SV.concL_mono h l ws hl]
        exact hs
end
mutual
theorem SV.lit_conc (e : Env) : ∀ (s : SV) (v : Value), s.lit = some v → s.conc e = some v
  | .sc _, v, hs => by simpa [SV.lit, SV.conc] using hs
  | .ptr _ _, v, hs => by simp [SV.lit] at hs
  | .sl _ _ _ _, v, hs => by simp [SV.lit] at hs
  | .slu _ _ _ _, v, hs => by simp [SV.lit] at hs
  | .mp _, v, hs => by simp [SV.lit] at hs
  | .yld _, v, hs => by simp [SV.lit] at hs
  | .agg l, v, hs => by
    simp only [SV.lit] at hs
    cases hl : SV.litL l with
    | none => rw [hl] at hs; cases hs
    | some vs => rw [hl] at hs; simp only [SV.conc, SV.litL_conc e l vs hl, Option.map_some]; exact hs
  | .tup l, v, hs => by
    simp only [SV.lit] at hs
    cases hl : SV.litL l with
    | none => rw [hl] at hs; cases hs
    | some vs => rw [hl] at hs; simp only [SV.conc, SV.litL_conc e l vs hl, Option.map_some]; exact hs
  | .ifc t s, v, hs => by
    simp only [SV.lit] at hs
    cases hl : SV.lit s with
    | none => rw [hl] at hs; cases hs
    | some vs => rw [hl] at hs; simp only [SV.conc, SV.lit_conc e s vs hl, Option.map_some]; exact hs
  | .fn f a b, v, hs => by
    simp only [SV.lit] at hs
    cases ha : SV.litL a with
    | none => rw [ha] at hs; cases hs
    | some x =>
      rw [ha] at hs
      simp only at hs
      cases hb : SV.litL b with
      | none => rw [hb] at hs; cases hs
      | some y => rw [hb] at hs; simp only [SV.conc, SV.litL_conc e a x ha, SV.litL_conc e b y hb]; exact hs
theorem SV.litL_conc (e : Env) : ∀ (l : List SV) (vs : List Value), SV.litL l = some vs → SV.concL e l = some vs
  | [], vs, hs => by simpa [SV.litL, SV.concL] using hs
  | x :: l, vs, hs => by
    simp only [SV.litL] at hs
    cases hx : SV.lit x with
    | none => rw [hx] at hs; cases hs
    | some v =>
      rw [hx] at hs
      simp only at hs
      cases hl : SV.litL l with
      | none => rw [hl] at hs; cases hs
      | some ws => rw [hl] at hs; simp only [SV.concL, SV.lit_conc e x v hx, SV.litL_conc e l ws hl]; exact hs
end
theorem concL_length {e : Env} : ∀ {l : List SV} {vs : List Value}, SV.concL e l = some vs → vs.length = l.length
  | [], vs, h => by simp only [SV.concL, Option.some.injEq] at h; subst h; rfl
  | x :: l, vs, h => by
    simp only [SV.concL] at h
    cases hx : SV.conc e x with
    | none => rw [hx] at h; cases h
    | some v =>
      cases hl : SV.concL e l with
      | none => rw [hx, hl] at h; cases h
      | some ws =>
        rw [hx, hl] at h
        simp only [Option.some.injEq] at h
        subst h
        simp [concL_length hl]
theorem concL_cons {e : Env} {x : SV} {l : List SV} {vs : List Value} (h : SV.concL e (x :: l) = some vs) : ∃ v ws, vs = v :: ws ∧ x.conc e = some v ∧ SV.concL e l = some ws := by
  simp only [SV.concL] at h
  cases hx : SV.conc e x with
  | none => rw [hx] at h; cases h
  | some v =>
    cases hl : SV.concL e l with
    | none => rw [hx, hl] at h; cases h
    | some ws =>
      rw [hx, hl] at h
      simp only [Option.some.injEq] at h
      exact ⟨v, ws, h.symm, rfl, rfl⟩
theorem concL_cons_mk {e : Env} {x : SV} {l : List SV} {v : Value} {ws : List Value} (hx : x.conc e = some v) (hl : SV.concL e l = some ws) : SV.concL e (x :: l) = some (v :: ws) := by
  simp only [SV.concL, hx, hl]
theorem concL_get {e : Env} : ∀ {l : List SV} {vs : List Value}, SV.concL e l = some vs → ∀ {i : Nat} {x : SV}, l[i]? = some x → ∃ v, x.conc e = some v ∧ vs[i]? = some v
  | [], vs, h, i, x, hx => by simp at hx
  | y :: l, vs, h, i, x, hx => by
    obtain ⟨v, ws, rfl, hv, hl⟩ := concL_cons h
    cases i with
    | zero => simp only [List.getElem?_cons_zero, Option.some.injEq] at hx; subst hx; exact ⟨v, hv, rfl⟩
    | succ i => simpa using concL_get hl (i := i) (by simpa using hx)
theorem concL_append {e : Env} : ∀ {l m : List SV} {vs ws : List Value}, SV.concL e l = some vs → SV.concL e m = some ws → SV.concL e (l ++ m) = some (vs ++ ws)
  | [], m, vs, ws, h, h' => by simp only [SV.concL, Option.some.injEq] at h; subst h; exact h'
  | x :: l, m, vs, ws, h, h' => by
    obtain ⟨v, us, rfl, hv, hl⟩ := concL_cons h
    exact concL_cons_mk hv (concL_append hl h')
theorem concL_take {e : Env} : ∀ {l : List SV} {vs : List Value} (n : Nat), SV.concL e l = some vs → SV.concL e (l.take n) = some (vs.take n)
  | [], vs, n, h => by simp only [SV.concL, Option.some.injEq] at h; subst h; simp [SV.concL]
  | x :: l, vs, 0, h => by simp [SV.concL]
  | x :: l, vs, n + 1, h => by
    obtain ⟨v, us, rfl, hv, hl⟩ := concL_cons h
    exact concL_cons_mk hv (concL_take n hl)
theorem concL_drop {e : Env} : ∀ {l : List SV} {vs : List Value} (n : Nat), SV.concL e l = some vs → SV.concL e (l.drop n) = some (vs.drop n)
  | [], vs, n, h => by simp only [SV.concL, Option.some.injEq] at h; subst h; simp [SV.concL]
  | x :: l, vs, 0, h => by simpa using h
  | x :: l, vs, n + 1, h => by
    obtain ⟨v, us, rfl, hv, hl⟩ := concL_cons h
    exact concL_drop n hl
theorem concL_sc {e : Env} : ∀ (vs : List Value), SV.concL e (vs.map .sc) = some vs
  | [] => rfl
  | v :: vs => concL_cons_mk rfl (concL_sc vs)
theorem cells_conc {e : Env} {s : SV} {v : Value} (h : s.conc e = some v) : SV.concL e s.cells = some v.cells.toList := by
  have one : ∀ s : SV, s.conc e = some v → v.cells = #[v] → SV.concL e [s] = some v.cells.toList := fun s hs hv => by
    rw [hv]; exact concL_cons_mk hs rfl
  cases s with
  | sc u =>
    simp only [SV.conc, Option.some.injEq] at h
    subst h
    cases u with
    | agg cs => exact concL_sc _
    | _ => exact concL_cons_mk rfl rfl
  | agg l =>
    simp only [SV.conc, Option.map_eq_some_iff] at h
    obtain ⟨vs, hvs, rfl⟩ := h
    simpa [SV.cells, Value.cells] using hvs
  | fn f a b =>
    refine one _ h ?_
    simp only [SV.conc] at h
    cases ha : SV.concL e a with
    | none => rw [ha] at h; cases h
    | some x =>
      cases hb : SV.concL e b with
      | none => rw [ha, hb] at h; cases h
      | some y => rw [ha, hb] at h; simp only [Option.some.injEq] at h; subst h; rfl
  | _ =>
    refine one _ h ?_
    simp only [SV.conc, Option.map_eq_some_iff] at h
    obtain ⟨x, _, rfl⟩ := h
    rfl
theorem one_conc {e : Env} {s : SV} {v : Value} (h : s.conc e = some v) (h1 : s.one = true) : v.oneCell' = true := by
  cases s with
  | sc u =>
    simp only [SV.conc, Option.some.injEq] at h
    subst h
    cases u <;> first | rfl | simp [SV.one] at h1
  | agg l => simp [SV.one] at h1
  | tup l => simp [SV.one] at h1
  | fn f a b =>
    simp only [SV.conc] at h
    cases ha : SV.concL e a with
    | none => rw [ha] at h; cases h
    | some x =>
      cases hb : SV.concL e b with
      | none => rw [ha, hb] at h; cases h
      | some y => rw [ha, hb] at h; simp only [Option.some.injEq] at h; subst h; rfl
  | _ =>
    simp only [SV.conc, Option.map_eq_some_iff] at h
    obtain ⟨x, _, rfl⟩ := h
    rfl
def NoFz (fz : Nat × Nat) (n : Nat) : Prop := ∀ i, i < n → (decide (fz.1 ≤ i) && decide (i < fz.2)) = false
def TRel (e : Env) (nt : Nat) (T : Tr SV) (tmps : Array Value) : Prop :=
  tmps.size = nt ∧ ∀ t s, T.at' t = some s → ∃ v, s.conc e = some v ∧ tmps.getD t undef = v
def DRel (e : Env) : ADf → Deferred → Prop
  | .call f args, d => ∃ a cap, d = { target := .fn (.func f) cap, args := a } ∧ SV.concL e args = some (a.toList ++ cap.toList)
  | .taken r, d => ∃ x, e r = some x ∧ d = { target := .collected x.blk, args := #[] }
def DsRel (e : Env) : List ADf → List Deferred → Prop
  | [], [] => True
  | a :: l, d :: m => DRel e a d ∧ DsRel e l m
  | _, _ => False
def MRel (e : Env) : List (Value × SV × Nat) → List MapEntry → Prop
  | [], [] => True
  | (k, s, b) :: l, m :: ms => m.key = k ∧ m.born = b ∧ s.conc e = some m.val ∧ MRel e l ms
  | _, _ => False
def ORel (e : Env) (vo : VO) (x : Ent) (o : Obj) : Prop :=
  match vo with
  | .cells n t c => x.base = 0 ∧ ∃ cs fz, o = .cells cs t fz ∧ cs.size = n ∧ NoFz fz n ∧ ∀ i, i < n → ∀ s, c.at' i = some s → ∃ v, s.conc e = some v ∧ cs[i]? = some v
  | .row ne sz t c => ∃ cs fz, o = .cells cs t fz ∧ ne ≤ x.cap ∧ x.base + x.cap * sz ≤ cs.size ∧ x.cap ≤ maxLen ∧ NoFz fz cs.size ∧ 0 < sz ∧
      ∀ i, i < ne * sz → ∀ s, c.at' i = some s → ∃ v, s.conc e = some v ∧ cs[x.base + i]? = some v
  | .map l clock => ∃ es, o = .map es clock ∧ MRel e l es.toList
  | .iter none since seen stepped => x.base = 0 ∧ o = .mapIter none since seen.toArray stepped
  | .iter (some m) since seen stepped => x.base = 0 ∧ ∃ y, e m = some y ∧ o = .mapIter (some y.blk) since seen.toArray stepped
  | .siter s pos => x.base = 0 ∧ o = .stringIter s pos
  | .loop st pend fn nt T params assign body dr => ∃ tmps y, e dr = some y ∧ TRel e nt T tmps ∧
      o = .loop { state := st, pending := pend, fn := fn, tmps := tmps, params := params, assign := assign, body := body, defers := y.blk }
  | .dfd none => o = .deferred none
  | .dfd (some l) => ∃ ds, o = .deferred (some ds) ∧ DsRel e l ds
theorem TRel.mono {e e' : Env} (h : e.le e') {nt : Nat} {T : Tr SV} {tmps : Array Value} (hT : TRel e nt T tmps) : TRel e' nt T tmps :=
  ⟨hT.1, fun t s hs => let ⟨v, hv, hg⟩ := hT.2 t s hs; ⟨v, SV.conc_mono h s v hv, hg⟩⟩
theorem DRel.mono {e e' : Env} (h : e.le e') {a : ADf} {d : Deferred} (hd : DRel e a d) : DRel e' a d := by
  cases a with
  | call f args => obtain ⟨x, cap, rfl, hl⟩ := hd; exact ⟨x, cap, rfl, SV.concL_mono h _ _ hl⟩
  | taken r => obtain ⟨x, hx, rfl⟩ := hd; exact ⟨x, h _ _ hx, rfl⟩
theorem DsRel.mono {e e' : Env} (h : e.le e') : ∀ {l : List ADf} {m : List Deferred}, DsRel e l m → DsRel e' l m
  | [], [], _ => trivial
  | _ :: _, _ :: _, hd => ⟨hd.1.mono h, DsRel.mono h hd.2⟩
  | [], _ :: _, hd => hd.elim
  | _ :: _, [], hd => hd.elim
theorem DsRel.append {e : Env} : ∀ {l l' : List ADf} {m m' : List Deferred}, DsRel e l m → DsRel e l' m' → DsRel e (l ++ l') (m ++ m')
  | [], l', [], m', _, h => h
  | _ :: _, l', _ :: _, m', h, h' => ⟨h.1, DsRel.append h.2 h'⟩
  | [], _, _ :: _, _, h, _ => h.elim
  | _ :: _, _, [], _, h, _ => h.elim
theorem MRel.mono {e e' : Env} (h : e.le e') : ∀ {l : List (Value × SV × Nat)} {m : List MapEntry}, MRel e l m → MRel e' l m
  | [], [], _ => trivial
  | (_, _, _) :: _, _ :: _, hd => ⟨hd.1, hd.2.1, SV.conc_mono h _ _ hd.2.2.1, MRel.mono h hd.2.2.2⟩
  | [], _ :: _, hd => hd.elim
  | _ :: _, [], hd => by simp [MRel] at hd
theorem ORel.mono {e e' : Env} (h : e.le e') {vo : VO} {x : Ent} {o : Obj} (ho : ORel e vo x o) : ORel e' vo x o := by
  cases vo with
  | cells n t c =>
    obtain ⟨h0, cs, fz, h1, h2, h3, h4⟩ := ho
    exact ⟨h0, cs, fz, h1, h2, h3, fun i hi s hs => let ⟨v, hv, hg⟩ := h4 i hi s hs; ⟨v, SV.conc_mono h _ v hv, hg⟩⟩
  | row ne sz t c =>
    obtain ⟨cs, fz, h1, h2, h3, h4, h5, h6, h7⟩ := ho
    exact ⟨cs, fz, h1, h2, h3, h4, h5, h6, fun i hi s hs => let ⟨v, hv, hg⟩ := h7 i hi s hs; ⟨v, SV.conc_mono h _ v hv, hg⟩⟩
  | map l clock => obtain ⟨es, h1, h2⟩ := ho; exact ⟨es, h1, h2.mono h⟩
  | iter m since seen stepped =>
    cases m with
    | none => exact ho
    | some m => obtain ⟨h0, y, h1, h2⟩ := ho; exact ⟨h0, y, h _ _ h1, h2⟩
  | siter s pos => exact ho
  | loop st pend fn nt T params assign body dr => obtain ⟨tmps, y, h1, h2, h3⟩ := ho; exact ⟨tmps, y, h _ _ h1, h2.mono h, h3⟩
  | dfd calls =>
    cases calls with
    | none => exact ho
    | some l => obtain ⟨ds, h1, h2⟩ := ho; exact ⟨ds, h1, h2.mono h⟩
structure St (B : Nat) (w0 : World) (e : Env) (H : Heap) (nx : Nat) (w : World) : Prop where
  below : Below B w0 w
  size : B ≤ w.heap.size
  rel : ∀ id vo, H.at' id = some vo → ∃ x o, e id = some x ∧ B ≤ x.blk ∧ w.heap[x.blk]? = some o ∧ ORel e vo x o
  inj : ∀ id id' vo vo' x x', H.at' id = some vo → H.at' id' = some vo' → e id = some x → e id' = some x' → id ≠ id' → x.blk ≠ x'.blk
  fresh : ∀ i, nx ≤ i → e i = none
section
variable {B : Nat} {w0 w w' : World} {e : Env} {H H' : Heap} {nx : Nat}
theorem St.sub (hS : St B w0 e H nx w) (h : ∀ id vo, H'.at' id = some vo → H.at' id = some vo) : St B w0 e H' nx w :=
  ⟨hS.below, hS.size, fun id vo hv => hS.rel id vo (h id vo hv), fun id id' vo vo' x x' a b => hS.inj id id' vo vo' x x' (h _ _ a) (h _ _ b), hS.fresh⟩
structure Turned (w w' : World) (k : Nat) : Prop where
  os : w'.os = w.os
  tape : w'.tape = w.tape
  output : w'.output = w.output
  size : w.heap.size ≤ w'.heap.size
  other : ∀ j, j < w.heap.size → j ≠ k → w'.heap[j]? = w.heap[j]?
theorem Turned.refl (w : World) (k : Nat) : Turned w w k := ⟨rfl, rfl, rfl, Nat.le_refl _, fun _ _ _ => rfl⟩
theorem Turned.trans {w1 w2 w3 : World} {k : Nat} (h : Turned w1 w2 k) (h' : Turned w2 w3 k) : Turned w1 w3 k :=
  ⟨h'.os.trans h.os, h'.tape.trans h.tape, h'.output.trans h.output, Nat.le_trans h.size h'.size, fun j hj hk => (h'.other j (by have := h.size; omega) hk).trans (h.other j hj hk)⟩
theorem Turned.setCell (w : World) (a : Addr) (v : Value) : Turned w (w.setCell a v) a.block :=
  ⟨rfl, rfl, rfl, by simp [World.setCell], fun j _ hk => Below.heap_setCell _ _ _ _ hk⟩
theorem lt_of_heap {k : Nat} {o : Obj} (h : w.heap[k]? = some o) : k < w.heap.size := (Array.getElem?_eq_some_iff.1 h).1
theorem below_turned {k : Nat} (hb : Below B w0 w) (hB : B ≤ w.heap.size) (hk : B ≤ k) (ht : Turned w w' k) (hsz : w0.heap.size ≤ w.heap.size) : Below B w0 w' :=
  ⟨ht.os.trans hb.os, ht.tape.trans hb.tape, ht.output.trans hb.output, Nat.le_trans hb.size ht.size, fun j hj => by rw [ht.other j (by omega) (by omega)]; exact hb.block j hj⟩
theorem St.upd (hS : St B w0 e H nx w) {b : Nat} {vo vo' : VO} {x : Ent} {o' : Obj} (hb : H.at' b = some vo) (hx : e b = some x) (ht : Turned w w' x.blk) (ho : w'.heap[x.blk]? = some o') (hr : ORel e vo' x o') :
    St B w0 e (H.set b vo') nx w' := by
  obtain ⟨x1, o1, h1, h2, h3, h4⟩ := hS.rel b vo hb
  rw [hx] at h1
  simp only [Option.some.injEq] at h1
  subst h1
  refine ⟨below_turned hS.below hS.size h2 ht hS.below.size, Nat.le_trans hS.size ht.size, ?_, ?_, hS.fresh⟩
  · intro id v hv
    rcases Tr.at_set hv with ⟨rfl, rfl⟩ | ⟨hne, hv⟩
    · exact ⟨x, o', hx, h2, ho, hr⟩
    · obtain ⟨y, p, g1, g2, g3, g4⟩ := hS.rel id v hv
      refine ⟨y, p, g1, g2, ?_, g4⟩
      rw [ht.other y.blk (lt_of_heap g3) (hS.inj id b v vo y x hv hb g1 hx hne)]
      exact g3
  · intro id id' v v' y y' hv0 hv' hy hy' hne
    rcases Tr.at_set hv0 with ⟨rfl, rfl⟩ | ⟨h5, hv⟩
    · rcases Tr.at_set hv' with ⟨rfl, rfl⟩ | ⟨h6, hv'⟩
      · exact absurd rfl hne
      · exact hS.inj _ _ _ _ _ _ hb hv' hy hy' hne
    · clear hv0
      rcases Tr.at_set hv' with ⟨rfl, rfl⟩ | ⟨h6, hv'⟩
      · exact hS.inj _ _ _ _ _ _ hv hb hy hy' hne
      · exact hS.inj _ _ _ _ _ _ hv hv' hy hy' hne
theorem St.new (hS : St B w0 e H nx w) {vo : VO} {x : Ent} {o : Obj} (hb : x.blk = w.heap.size) (hos : w'.os = w.os) (htape : w'.tape = w.tape) (hout : w'.output = w.output) (hheap : w'.heap = w.heap.push o)
    (hr : ORel (e.put nx x) vo x o) : St B w0 (e.put nx x) (H.set nx vo) (nx + 1) w' := by
  have hf := hS.fresh nx (Nat.le_refl _)
  have hle := Env.le_put (x := x) hf
  have hold : ∀ {k : Nat} {p : Obj}, w.heap[k]? = some p → w'.heap[k]? = some p := fun {k p} h => by
    have := lt_of_heap h
    rw [hheap, Array.getElem?_push, if_neg (by omega)]
    exact h
  have hsz : w'.heap.size = w.heap.size + 1 := by rw [hheap, Array.size_push]
  refine ⟨⟨hos.trans hS.below.os, htape.trans hS.below.tape, hout.trans hS.below.output, by have := hS.below.size; omega, fun j hj => ?_⟩, by have := hS.size; omega, ?_, ?_, ?_⟩
  · have := hS.size
    rw [hheap, Array.getElem?_push, if_neg (by omega)]
    exact hS.below.block j hj
  · intro id v hv
    rcases Tr.at_set hv with ⟨rfl, rfl⟩ | ⟨hne, hv⟩
    · exact ⟨x, o, Env.put_same _ _ _, by rw [hb]; exact hS.size, by rw [hheap, hb]; simp, hr⟩
    · obtain ⟨y, p, g1, g2, g3, g4⟩ := hS.rel id v hv
      exact ⟨y, p, hle _ _ g1, g2, hold g3, g4.mono hle⟩
  · intro id id' v v' y y' hv0 hv' hy hy' hne
    have key : ∀ {i : Nat} {u : VO} {z : Ent}, H.at' i = some u → (e.put nx x) i = some z → e i = some z ∧ z.blk < w.heap.size := fun {i u z} hu hz => by
      obtain ⟨z1, p, g1, g2, g3, g4⟩ := hS.rel i u hu
      have := hle _ _ g1
      rw [hz] at this
      simp only [Option.some.injEq] at this
      subst this
      exact ⟨g1, lt_of_heap g3⟩
    rcases Tr.at_set hv0 with ⟨rfl, rfl⟩ | ⟨h5, hv⟩
    · rw [Env.put_same] at hy
      simp only [Option.some.injEq] at hy
      subst hy
      rcases Tr.at_set hv' with ⟨rfl, rfl⟩ | ⟨h6, hv'⟩
      · exact absurd rfl hne
      · have := (key hv' hy').2; omega
    · clear hv0
      rcases Tr.at_set hv' with ⟨rfl, rfl⟩ | ⟨h6, hv'⟩
      · rw [Env.put_same] at hy'
        simp only [Option.some.injEq] at hy'
        subst hy'
        have := (key hv hy).2; omega
      · exact hS.inj _ _ _ _ _ _ hv hv' (key hv hy).1 (key hv' hy').1 hne
  · intro i hi
    rw [Env.put_other _ _ (by omega)]
    exact hS.fresh i (by omega)
theorem St.move (hS : St B w0 e H nx w) {b : Nat} {vo vo' : VO} {x y : Ent} {o' : Obj} (hb : H.at' b = some vo) (hx : e b = some x) (hy : y.blk = x.blk) (ht : Turned w w' x.blk) (ho : w'.heap[x.blk]? = some o')
    (hr : ORel (e.put nx y) vo' y o') : St B w0 (e.put nx y) ((H.del b).set nx vo') (nx + 1) w' := by
  have hf := hS.fresh nx (Nat.le_refl _)
  have hle := Env.le_put (x := y) hf
  obtain ⟨x1, o1, h1, h2, h3, h4⟩ := hS.rel b vo hb
  rw [hx] at h1
  simp only [Option.some.injEq] at h1
  subst h1
  have key : ∀ {i : Nat} {u : VO} {z : Ent}, H.at' i = some u → (e.put nx y) i = some z → e i = some z := fun {i u z} hu hz => by
    obtain ⟨z1, p, g1, g2, g3, g4⟩ := hS.rel i u hu
    have := hle _ _ g1
    rw [hz] at this
    simp only [Option.some.injEq] at this
    subst this
    exact g1
  refine ⟨below_turned hS.below hS.size h2 ht hS.below.size, Nat.le_trans hS.size ht.size, ?_, ?_, ?_⟩
  · intro id v hv
    rcases Tr.at_set hv with ⟨rfl, rfl⟩ | ⟨hne, hv⟩
    · exact ⟨y, o', Env.put_same _ _ _, by rw [hy]; exact h2, by rw [hy]; exact ho, hr⟩
    · obtain ⟨hnb, hv⟩ := Tr.at_del hv
      obtain ⟨z, p, g1, g2, g3, g4⟩ := hS.rel id v hv
      refine ⟨z, p, hle _ _ g1, g2, ?_, g4.mono hle⟩
      rw [ht.other z.blk (lt_of_heap g3) (hS.inj id b v vo z x hv hb g1 hx hnb)]
      exact g3
  · intro id id' v v' z z' hv0 hv' hz hz' hne
    rcases Tr.at_set hv0 with ⟨rfl, rfl⟩ | ⟨h5, hv⟩
    · rw [Env.put_same] at hz
      simp only [Option.some.injEq] at hz
      subst hz
      rcases Tr.at_set hv' with ⟨rfl, rfl⟩ | ⟨h6, hv'⟩
      · exact absurd rfl hne
      · obtain ⟨hnb, hv'⟩ := Tr.at_del hv'
        rw [hy]
        exact fun h => hS.inj id' b v' vo z' x hv' hb (key hv' hz') hx hnb h.symm
    · clear hv0
      obtain ⟨hnb, hv1⟩ := Tr.at_del hv
      clear hv
      have hv := hv1
      clear hv1
      rcases Tr.at_set hv' with ⟨rfl, rfl⟩ | ⟨h6, hv'⟩
      · rw [Env.put_same] at hz'
        simp only [Option.some.injEq] at hz'
        subst hz'
        rw [hy]
        exact hS.inj id b v vo z x hv hb (key hv hz) hx hnb
      · obtain ⟨hnb', hv'⟩ := Tr.at_del hv'
        exact hS.inj _ _ _ _ _ _ hv hv' (key hv hz) (key hv' hz') hne
  · intro i hi
    rw [Env.put_other _ _ (by omega)]
    exact hS.fresh i (by omega)
theorem St.drew (hS : St B w0 e H nx w) : St B w0 e H nx { w with drawn := w.drawn + 1 } :=
  ⟨⟨hS.below.os, hS.below.tape, hS.below.output, hS.below.size, hS.below.block⟩, hS.size, hS.rel, hS.inj, hS.fresh⟩
end
end Go.Ex
end
section
namespace Go.Ex
open Go Go.Sl Go.RowKit
section
variable {P : Program} {w : World} {e : Env}
theorem lt_of_blt {i n : Nat} (h : Nat.blt i n = true) : i < n := Nat.le_of_ble_eq_true h
theorem le_of_ble {i n : Nat} (h : Nat.ble i n = true) : i ≤ n := Nat.le_of_ble_eq_true h
theorem eq_of_beq {i n : Nat} (h : Nat.beq i n = true) : i = n := Nat.eq_of_beq_eq_true h
theorem ORel.cell {vo : VO} {x : Ent} {o : Obj} {i : Nat} {s : SV} (h : ORel e vo x o) (hc : vo.cell i = some s) (hw : w.heap[x.blk]? = some o) :
    ∃ v, s.conc e = some v ∧ w.cell? ⟨x.blk, x.base + i, none⟩ = some v ∧ w.frozen? ⟨x.blk, x.base + i, none⟩ = false := by
  cases vo with
  | cells n t c =>
    obtain ⟨h0, cs, fz, rfl, h2, h3, h4⟩ := h
    simp only [VO.cell] at hc
    cases hb : Nat.blt i n with
    | false => rw [hb] at hc; cases hc
    | true =>
      rw [hb] at hc
      simp only [cond_true] at hc
      have hi : i < n := lt_of_blt hb
      obtain ⟨v, hv, hg⟩ := h4 i hi s hc
      refine ⟨v, hv, ?_, ?_⟩
      · simp only [World.cell?, hw, h0, Nat.zero_add]; simpa using hg
      · simp only [World.frozen?, hw, h0, Nat.zero_add]; exact h3 i hi
  | row ne sz t c =>
    obtain ⟨cs, fz, rfl, h2, h3, h4, h5, h6, h7⟩ := h
    simp only [VO.cell] at hc
    cases hb : Nat.blt i (ne * sz) with
    | false => rw [hb] at hc; cases hc
    | true =>
      rw [hb] at hc
      simp only [cond_true] at hc
      have hi : i < ne * sz := lt_of_blt hb
      obtain ⟨v, hv, hg⟩ := h7 i hi s hc
      refine ⟨v, hv, ?_, ?_⟩
      · simp only [World.cell?, hw]; simpa using hg
      · simp only [World.frozen?, hw]
        exact h5 _ (Array.getElem?_eq_some_iff.1 hg).1
  | _ => simp [VO.cell] at hc
theorem ORel.cellsFrom {vo : VO} {x : Ent} {o : Obj} (h : ORel e vo x o) (hw : w.heap[x.blk]? = some o) : ∀ (n i : Nat) (l : List SV), vo.cellsFrom i n = some l →
    ∃ vs, SV.concL e l = some vs ∧ vs.length = n ∧ ∀ j v, vs[j]? = some v → w.cell? ⟨x.blk, x.base + i + j, none⟩ = some v
  | 0, i, l, hc => by
    simp only [VO.cellsFrom, Option.some.injEq] at hc
    subst hc
    exact ⟨[], rfl, rfl, by simp⟩
  | n + 1, i, l, hc => by
    simp only [VO.cellsFrom] at hc
    cases h1 : vo.cell i with
    | none => rw [h1] at hc; cases hc
    | some s =>
      rw [h1] at hc
      simp only at hc
      cases h2 : vo.cellsFrom (i + 1) n with
      | none => rw [h2] at hc; cases hc
      | some m =>
        rw [h2] at hc
        simp only [Option.some.injEq] at hc
        subst hc
        obtain ⟨v, hv, hcell, _⟩ := h.cell h1 hw
        obtain ⟨vs, hvs, hl, hj⟩ := ORel.cellsFrom h hw n (i + 1) m h2
        refine ⟨v :: vs, concL_cons_mk hv hvs, by simp [hl], fun j u hu => ?_⟩
        cases j with
        | zero => simp only [List.getElem?_cons_zero, Option.some.injEq] at hu; subst hu; simpa using hcell
        | succ j =>
          have := hj j u (by simpa using hu)
          rw [show x.base + i + (j + 1) = x.base + (i + 1) + j by omega]
          exact this
theorem addr_add (b o j : Nat) : (⟨b, o, none⟩ : Addr).add j = ⟨b, o + j, none⟩ := by
  unfold Addr.add
  by_cases h : j = 0
  · subst h; simp
  · simp [h]
theorem run_sizeT {t : TypeId} {n : Nat} (h : sizeT P t = some n) (w : World) : (sizeOf t).run P w = .ok n w := run_sizeOf_agg h w
theorem run_zeroT {t : TypeId} {z : Value} (h : zeroT P t = some z) (w : World) : (zeroValue t).run P w = .ok z w := run_zero h w
theorem run_isAggS {t : TypeId} {r : Option Nat} (h : aggSize P t = some r) (w : World) : (isAgg t).run P w = .ok r.isSome w := by
  unfold aggSize at h
  cases hu : P.underlying t with
  | none => rw [hu] at h; cases h
  | some d =>
    rw [hu] at h
    cases d <;> simp at h <;> first
      | (subst h; simp [isAgg, run_underlying hu]; done)
      | (obtain ⟨a, _, rfl⟩ := h; simp [isAgg, run_underlying hu])
theorem aggSize_size {t : TypeId} {n : Nat} (h : aggSize P t = some (some n)) : sizeT P t = some n := by
  unfold aggSize at h
  unfold sizeT
  cases hu : P.underlying t with
  | none => rw [hu] at h; cases h
  | some d =>
    rw [hu] at h
    cases d <;> simp at h <;> (obtain ⟨a, h1, h2⟩ := h; simp [h1, h2])
theorem run_load_S {t : TypeId} {vo : VO} {x : Ent} {o : Obj} {off : Nat} {s : SV} (h : ORel e vo x o) (hw : w.heap[x.blk]? = some o)
    (hl : (match aggSize P t with | some none => vo.cell off | some (some n) => (vo.cellsFrom off n).map .agg | none => none) = some s) :
    ∃ v, s.conc e = some v ∧ (loadVar t ⟨x.blk, x.base + off, none⟩).run P w = .ok v w := by
  cases ha : aggSize P t with
  | none => rw [ha] at hl; cases hl
  | some r =>
    rw [ha] at hl
    cases r with
    | none =>
      obtain ⟨v, hv, hc, _⟩ := h.cell hl hw
      exact ⟨v, hv, by simp [loadVar, run_isAggS ha, hc]⟩
    | some n =>
      simp only [Option.map_eq_some_iff] at hl
      obtain ⟨l, hl, rfl⟩ := hl
      obtain ⟨vs, hvs, hlen, hj⟩ := h.cellsFrom hw n off l hl
      refine ⟨.agg vs.toArray, by simp [SV.conc, hvs], ?_⟩
      have := run_loadCells_list (P := P) (w := w) ⟨x.blk, x.base + off, none⟩ vs (fun j v hv => by rw [addr_add]; exact hj j v hv)
      rw [hlen] at this
      simp [loadVar, run_isAggS ha, run_sizeT (aggSize_size ha), this]
def EvRel (e : Env) (T : Tr SV) (ev : Operand → Value) : Prop := ∀ x s, evalS T x = some s → s.conc e = some (ev x)
theorem TRel.ev {nt : Nat} {T : Tr SV} {fr : Frame} (h : TRel e nt T fr.tmps) : EvRel e T fr.eval := by
  intro x s hs
  cases x with
  | tmp t =>
    obtain ⟨v, hv, hg⟩ := h.2 t s hs
    rw [hv]
    simp [Frame.eval, ← hg]
  | const v => simp only [evalS, Option.some.injEq] at hs; subst hs; rfl
  | global g => simp only [evalS, Option.some.injEq] at hs; subst hs; rfl
  | func f => simp only [evalS, Option.some.injEq] at hs; subst hs; rfl
variable {T : Tr SV} {ev : Operand → Value}
theorem EvRel.list (hE : EvRel e T ev) : ∀ (l : List Operand) (ss : List SV), evalL T l = some ss → SV.concL e ss = some (l.map ev)
  | [], ss, h => by simp only [evalL, Option.some.injEq] at h; subst h; rfl
  | x :: l, ss, h => by
    simp only [evalL] at h
    cases hx : evalS T x with
    | none => rw [hx] at h; cases h
    | some s =>
      rw [hx] at h
      simp only at h
      cases hl : evalL T l with
      | none => rw [hl] at h; cases h
      | some r =>
        rw [hl] at h
        simp only [Option.some.injEq] at h
        subst h
        exact concL_cons_mk (hE x s hx) (EvRel.list hE l r hl)
def PRel (e : Env) : List (Nat × SV) → List (Nat × Value) → Prop
  | [], [] => True
  | (i, s) :: l, (j, v) :: m => i = j ∧ s.conc e = some v ∧ PRel e l m
  | _, _ => False
theorem EvRel.parts (hE : EvRel e T ev) : ∀ (l : List (Nat × Operand)) (ss : List (Nat × SV)), evalP T l = some ss → PRel e ss (l.map fun x => (x.1, ev x.2))
  | [], ss, h => by simp only [evalP, Option.some.injEq] at h; subst h; trivial
  | (i, x) :: l, ss, h => by
    simp only [evalP] at h
    cases hx : evalS T x with
    | none => rw [hx] at h; cases h
    | some s =>
      rw [hx] at h
      simp only at h
      cases hl : evalP T l with
      | none => rw [hl] at h; cases h
      | some r =>
        rw [hl] at h
        simp only [Option.some.injEq] at h
        subst h
        exact ⟨rfl, hE x s hx, EvRel.parts hE l r hl⟩
theorem EvRel.nat (hE : EvRel e T ev) {x : Operand} {n : Nat} (h : natS T x = some n) : ∃ k, ev x = .int k (n : Int) := by
  unfold natS at h
  cases hx : evalS T x with
  | none => rw [hx] at h; cases h
  | some s =>
    have hv := hE x s hx
    rw [hx] at h
    cases s with
    | sc v =>
      cases v with
      | int k i =>
        cases i with
        | ofNat m =>
          simp only [Option.some.injEq] at h
          subst h
          simp only [SV.conc, Option.some.injEq] at hv
          exact ⟨k, hv.symm⟩
        | negSucc m => simp at h
      | _ => simp at h
    | _ => simp at h
theorem EvRel.lit (hE : EvRel e T ev) {x : Operand} {v : Value} (h : litS T x = some v) : ev x = v := by
  unfold litS at h
  cases hx : evalS T x with
  | none => rw [hx] at h; cases h
  | some s =>
    rw [hx] at h
    have h1 := SV.lit_conc e s v h
    rw [hE x s hx] at h1
    simpa using h1
theorem take_mid {A B : List Value} {v : Value} {k : Nat} (h : A.length = k) : (A ++ v :: B).take (k + 1) = A ++ [v] := by
  subst h
  rw [List.take_append, List.take_of_length_le (by omega)]
  simp
theorem drop_mid {A B : List Value} {v : Value} {k n : Nat} (h : A.length = k) : (A ++ v :: B).drop (k + 1 + n) = B.drop n := by
  subst h
  rw [List.drop_append, List.drop_of_length_le (by omega), show A.length + 1 + n - A.length = n + 1 by omega]
  simp
theorem fill_fold : ∀ (l : List Value) (off j : Nat) (cs : Array Value), off + j + l.length ≤ cs.size →
    ((l.zipIdx j).foldl (fun cs x => cs.setIfInBounds (off + x.2) x.1) cs).toList = cs.toList.take (off + j) ++ l ++ cs.toList.drop (off + j + l.length)
  | [], off, j, cs, _ => by simp
  | v :: l, off, j, cs, h => by
    simp only [List.length_cons] at h
    simp only [List.zipIdx_cons, List.foldl_cons]
    have ih := fill_fold l off (j + 1) (cs.setIfInBounds (off + j) v) (by simp; omega)
    rw [ih]
    have hlt : off + j < cs.toList.length := by simp; omega
    have hk : (cs.toList.take (off + j)).length = off + j := by simp; omega
    simp only [Array.toList_setIfInBounds, List.length_cons]
    rw [List.set_eq_take_append_cons_drop, if_pos hlt]
    rw [show off + (j + 1) = off + j + 1 by omega, take_mid hk, drop_mid hk, List.drop_drop]
    simp only [List.append_assoc, List.cons_append, List.nil_append]
    congr 4
    omega
theorem fill_S {place : Nat → Option (Nat × Nat)} : ∀ (ps : List (Nat × SV)) (qs : List (Nat × Value)) (cells cells' : List SV) (vs : List Value), fillS place cells ps = some cells' → PRel e ps qs → SV.concL e cells = some vs →
    ∃ vs', Instr.fill place vs.toArray qs = some vs'.toArray ∧ SV.concL e cells' = some vs'
  | [], [], cells, cells', vs, h, _, hc => by
    simp only [fillS, Option.some.injEq] at h
    subst h
    exact ⟨vs, rfl, hc⟩
  | [], _ :: _, _, _, _, _, hp, _ => hp.elim
  | (_, _) :: _, [], _, _, _, _, hp, _ => hp.elim
  | (i, s) :: ps, (j, v) :: qs, cells, cells', vs, h, hp, hc => by
    obtain ⟨rfl, hs, hp⟩ := hp
    simp only [fillS] at h
    cases hpl : place i with
    | none => rw [hpl] at h; cases h
    | some x =>
      obtain ⟨off, size⟩ := x
      rw [hpl] at h
      simp only at h
      have hcs := cells_conc hs
      have hl := concL_length hcs
      have hl2 := concL_length hc
      simp only [Array.length_toList] at hl
      cases hb : (Nat.beq s.cells.length size && Nat.ble (off + size) cells.length) with
      | false => rw [hb] at h; cases h
      | true =>
        rw [hb] at h
        simp only [cond_true] at h
        rw [Bool.and_eq_true] at hb
        have h1 := eq_of_beq hb.1
        have h2 := le_of_ble hb.2
        have hnew : SV.concL e (cells.take off ++ s.cells ++ cells.drop (off + size)) = some (vs.take off ++ v.cells.toList ++ vs.drop (off + size)) := concL_append (concL_append (concL_take off hc) hcs) (concL_drop (off + size) hc)
        obtain ⟨vs', g1, g2⟩ := fill_S ps qs _ cells' _ h hp hnew
        refine ⟨vs', ?_, g2⟩
        simp only [Instr.fill, hpl]
        rw [if_neg (by simp; omega)]
        rw [← g1]
        congr 1
        apply Array.ext'
        rw [← Array.foldl_toList, Array.toList_zipIdx]
        have := fill_fold v.cells.toList off 0 vs.toArray (by simp; omega)
        simp only [Nat.add_zero] at this
        rw [this]
        simp only [Array.length_toList, hl, h1]
end
end Go.Ex
end
section
namespace Go.Ex
open Go Go.Sl Go.RowKit
theorem pureRun_run {P : Program} {A : Type} : ∀ (s : Sem A) (a : A), pureRun P s = some a → ∀ w, s.run P w = .ok a w
  | .pure b, a, h, w => by simp only [pureRun, Option.some.injEq] at h; subst h; rfl
  | .program k, a, h, w => pureRun_run (k P) a h w
  | .mark m k, a, h, w => pureRun_run k a h w
  | .choose q k, a, h, w => by
    simp only [pureRun] at h
    cases hq : q.forced with
    | false => rw [hq] at h; cases h
    | true =>
      rw [hq] at h
      simp only [Sem.run, hq, if_true]
      exact pureRun_run (k 0) a h w
  | .load .., a, h, w => by simp [pureRun] at h
  | .store .., a, h, w => by simp [pureRun] at h
  | .new .., a, h, w => by simp [pureRun] at h
  | .shape .., a, h, w => by simp [pureRun] at h
  | .freeze .., a, h, w => by simp [pureRun] at h
  | .frozen .., a, h, w => by simp [pureRun] at h
  | .getObj .., a, h, w => by simp [pureRun] at h
  | .setObj .., a, h, w => by simp [pureRun] at h
  | .sys .., a, h, w => by simp [pureRun] at h
  | .halt .., a, h, w => by simp [pureRun] at h
section
variable {P : Program} {B : Nat} {w0 w : World} {e : Env} {H : Heap} {nx : Nat} {T : Tr SV} {ev : Operand → Value}
theorem conc_ptr {b o : Nat} {v : Value} (h : (SV.ptr b o).conc e = some v) : ∃ x, e b = some x ∧ v = .pointer (some ⟨x.blk, x.base + o, none⟩) := by
  simp only [SV.conc, Option.map_eq_some_iff] at h
  obtain ⟨x, hx, rfl⟩ := h
  exact ⟨x, hx, rfl⟩
theorem conc_sl {b o n c : Nat} {v : Value} (h : (SV.sl b o n c).conc e = some v) : ∃ x, e b = some x ∧ v = .slice (some ⟨x.blk, x.base + o, none⟩) n c := by
  simp only [SV.conc, Option.map_eq_some_iff] at h
  obtain ⟨x, hx, rfl⟩ := h
  exact ⟨x, hx, rfl⟩
theorem conc_slu {b o eo n : Nat} {v : Value} (h : (SV.slu b o eo n).conc e = some v) : ∃ x, e b = some x ∧ v = .slice (some ⟨x.blk, x.base + o, none⟩) n (x.cap - eo) := by
  simp only [SV.conc, Option.map_eq_some_iff] at h
  obtain ⟨x, hx, rfl⟩ := h
  exact ⟨x, hx, rfl⟩
theorem conc_mp {b : Nat} {v : Value} (h : (SV.mp b).conc e = some v) : ∃ x, e b = some x ∧ v = .map (some x.blk) := by
  simp only [SV.conc, Option.map_eq_some_iff] at h
  obtain ⟨x, hx, rfl⟩ := h
  exact ⟨x, hx, rfl⟩
theorem conc_agg {l : List SV} {v : Value} (h : (SV.agg l).conc e = some v) : ∃ vs, SV.concL e l = some vs ∧ v = .agg vs.toArray := by
  simp only [SV.conc, Option.map_eq_some_iff] at h
  obtain ⟨x, hx, rfl⟩ := h
  exact ⟨x, hx, rfl⟩
theorem conc_tup {l : List SV} {v : Value} (h : (SV.tup l).conc e = some v) : ∃ vs, SV.concL e l = some vs ∧ v = .tuple vs.toArray := by
  simp only [SV.conc, Option.map_eq_some_iff] at h
  obtain ⟨x, hx, rfl⟩ := h
  exact ⟨x, hx, rfl⟩
theorem conc_ifc {t : TypeId} {s : SV} {v : Value} (h : (SV.ifc t s).conc e = some v) : ∃ u, s.conc e = some u ∧ v = .iface t u := by
  simp only [SV.conc, Option.map_eq_some_iff] at h
  obtain ⟨x, hx, rfl⟩ := h
  exact ⟨x, hx, rfl⟩
theorem conc_fn {f : Fn} {a b : List SV} {v : Value} (h : (SV.fn f a b).conc e = some v) : ∃ x y, SV.concL e a = some x ∧ SV.concL e b = some y ∧ v = .func f x.toArray y.toArray := by
  simp only [SV.conc] at h
  cases ha : SV.concL e a with
  | none => rw [ha] at h; cases h
  | some x =>
    cases hb : SV.concL e b with
    | none => rw [ha, hb] at h; cases h
    | some y => rw [ha, hb] at h; simp only [Option.some.injEq] at h; exact ⟨x, y, rfl, rfl, h.symm⟩
theorem conc_yld {b : Nat} {v : Value} (h : (SV.yld b).conc e = some v) : ∃ x, e b = some x ∧ v = .func (.yield x.blk) #[] #[] := by
  simp only [SV.conc, Option.map_eq_some_iff] at h
  obtain ⟨x, hx, rfl⟩ := h
  exact ⟨x, hx, rfl⟩
theorem nthS_ok {i : Nat} {s r : SV} {v : Value} (h : nthS i s = some r) (hv : s.conc e = some v) (w : World) : ∃ u, r.conc e = some u ∧ (Instr.extract v i).run P w = .ok u w := by
  cases s with
  | tup l =>
    obtain ⟨vs, hl, rfl⟩ := conc_tup hv
    obtain ⟨u, hu, hg⟩ := concL_get hl h
    exact ⟨u, hu, by simp [Instr.extract, hg]⟩
  | sc c =>
    cases c with
    | tuple vs =>
      simp only [SV.conc, Option.some.injEq] at hv
      subst hv
      simp only [nthS, Option.map_eq_some_iff] at h
      obtain ⟨u, hu, rfl⟩ := h
      exact ⟨u, rfl, by simp [Instr.extract, hu]⟩
    | _ => simp [nthS] at h
  | _ => simp [nthS] at h
theorem run_nilCheck {o : Oper} {x : Operand} (hop : o.op = .nilCheck x) {s r : SV} (h : checkedS s = some r) (hv : s.conc e = some (ev x)) (w : World) :
    ∃ u, r.conc e = some u ∧ (execOp ev o).run P w = .ok (.value u) w := by
  cases s with
  | ptr b off =>
    obtain ⟨y, hy, hx⟩ := conc_ptr hv
    simp only [checkedS, Option.some.injEq] at h
    subst h
    exact ⟨_, hv, by simp [execOp, hop, hx]⟩
  | yld l =>
    obtain ⟨y, hy, hx⟩ := conc_yld hv
    simp only [checkedS, Option.some.injEq] at h
    subst h
    exact ⟨_, hv, by simp [execOp, hop, hx]⟩
  | ifc t u =>
    obtain ⟨y, hy, hx⟩ := conc_ifc hv
    simp only [checkedS, Option.some.injEq] at h
    subst h
    exact ⟨_, hv, by simp [execOp, hop, hx]⟩
  | fn f a c =>
    cases f with
    | func g =>
      obtain ⟨x1, y1, _, _, hx⟩ := conc_fn hv
      simp only [checkedS, Option.some.injEq] at h
      subst h
      exact ⟨_, hv, by simp [execOp, hop, hx]⟩
    | _ => simp [checkedS] at h
  | _ => simp [checkedS] at h
theorem run_fieldPlace {f : Field} {n : Nat} (h : sizeT P f.type = some (n + 1)) (b o : Nat) (w : World) : (fieldPlace ⟨b, o, none⟩ f).run P w = .ok ⟨b, o + f.offset, none⟩ w := by
  simp [fieldPlace, run_sizeT h, addr_add]
theorem fieldAddrS_ok {t : TypeId} {f : Nat} {s r : SV} {v : Value} (h : fieldAddrS P t f s = some r) (hv : s.conc e = some v) (w : World) : ∃ u, r.conc e = some u ∧ (Instr.fieldAt t v f).run P w = .ok u w := by
  cases s with
  | ptr b off =>
    obtain ⟨y, hy, rfl⟩ := conc_ptr hv
    simp only [fieldAddrS] at h
    cases hu : P.underlying t with
    | none => rw [hu] at h; cases h
    | some d =>
      rw [hu] at h
      cases d with
      | struct fields =>
        simp only at h
        cases hf : fields[f]? with
        | none => rw [hf] at h; cases h
        | some fd =>
          rw [hf] at h
          simp only at h
          cases hs : sizeT P fd.type with
          | none => rw [hs] at h; cases h
          | some n =>
            rw [hs] at h
            cases n with
            | zero => cases h
            | succ n =>
              simp only [Option.some.injEq] at h
              subst h
              refine ⟨.pointer (some ⟨y.blk, y.base + (off + fd.offset), none⟩), by simp [SV.conc, hy], ?_⟩
              simp [Instr.fieldAt, run_underlying hu, hf, Instr.sureAddr, run_fieldPlace hs, Nat.add_assoc]
      | _ => cases h
  | _ => simp [fieldAddrS] at h
theorem indexAddrS_ok {t : TypeId} {n : Nat} {k : IntKind} {s r : SV} {v : Value} (h : indexAddrS P t n s = some r) (hv : s.conc e = some v) (w : World) : ∃ u, r.conc e = some u ∧ (Instr.indexAt t v (.int k (n : Int))).run P w = .ok u w := by
  cases s with
  | ptr b off =>
    obtain ⟨y, hy, rfl⟩ := conc_ptr hv
    simp only [indexAddrS] at h
    cases hu : P.underlying t with
    | none => rw [hu] at h; cases h
    | some d =>
      rw [hu] at h
      cases d with
      | array len el =>
        simp only at h
        cases hs : sizeT P el with
        | none => rw [hs] at h; cases h
        | some sz =>
          rw [hs] at h
          simp only at h
          cases hb : Nat.blt n len with
          | false => rw [hb] at h; cases h
          | true =>
            rw [hb] at h
            simp only [cond_true, Option.some.injEq] at h
            subst h
            have hlt := lt_of_blt hb
            refine ⟨.pointer (some ⟨y.blk, y.base + (off + n * sz), none⟩), by simp [SV.conc, hy], ?_⟩
            simp [Instr.indexAt, asIntOf, run_underlying hu, Instr.sureAddr, run_sizeT hs, addr_add, Nat.add_assoc]
            intro hc; omega
      | _ => cases h
  | sl b off len cap =>
    obtain ⟨y, hy, rfl⟩ := conc_sl hv
    simp only [indexAddrS] at h
    cases hu : P.underlying t with
    | none => rw [hu] at h; cases h
    | some d =>
      rw [hu] at h
      cases d with
      | slice el =>
        simp only at h
        cases hs : sizeT P el with
        | none => rw [hs] at h; cases h
        | some sz =>
          rw [hs] at h
          simp only at h
          cases hb : Nat.blt n len with
          | false => rw [hb] at h; cases h
          | true =>
            rw [hb] at h
            simp only [cond_true, Option.some.injEq] at h
            subst h
            have hlt := lt_of_blt hb
            refine ⟨.pointer (some ⟨y.blk, y.base + (off + n * sz), none⟩), by simp [SV.conc, hy], ?_⟩
            simp [Instr.indexAt, asIntOf, run_underlying hu, run_sizeT hs, addr_add, Nat.add_assoc]
            intro hc; omega
      | _ => cases h
  | slu b off eo len =>
    obtain ⟨y, hy, rfl⟩ := conc_slu hv
    simp only [indexAddrS] at h
    cases hu : P.underlying t with
    | none => rw [hu] at h; cases h
    | some d =>
      rw [hu] at h
      cases d with
      | slice el =>
        simp only at h
        cases hs : sizeT P el with
        | none => rw [hs] at h; cases h
        | some sz =>
          rw [hs] at h
          simp only at h
          cases hb : Nat.blt n len with
          | false => rw [hb] at h; cases h
          | true =>
            rw [hb] at h
            simp only [cond_true, Option.some.injEq] at h
            subst h
            have hlt := lt_of_blt hb
            refine ⟨.pointer (some ⟨y.blk, y.base + (off + n * sz), none⟩), by simp [SV.conc, hy], ?_⟩
            simp [Instr.indexAt, asIntOf, run_underlying hu, run_sizeT hs, addr_add, Nat.add_assoc]
            intro hc; omega
      | _ => cases h
  | _ => simp [indexAddrS] at h
theorem loadS_ok {t : TypeId} {b o : Nat} {r : SV} {x : Ent} (hS : St B w0 e H nx w) (h : loadS P H t b o = some r) (hx : e b = some x) : ∃ u, r.conc e = some u ∧ (loadVar t ⟨x.blk, x.base + o, none⟩).run P w = .ok u w := by
  unfold loadS at h
  cases hb : H.at' b with
  | none => rw [hb] at h; cases h
  | some vo =>
    rw [hb] at h
    obtain ⟨y, ob, h1, h2, h3, h4⟩ := hS.rel b vo hb
    rw [hx] at h1
    simp only [Option.some.injEq] at h1
    subst h1
    exact run_load_S h4 h3 h
theorem partS_ok {t : TypeId} {l : List SV} {off : Nat} {r : SV} {vs : List Value} (h : partS P t l off = some r) (hl : SV.concL e l = some vs) (w : World) : ∃ u, r.conc e = some u ∧ (part t vs.toArray off).run P w = .ok u w := by
  unfold partS at h
  cases ha : aggSize P t with
  | none => rw [ha] at h; cases h
  | some q =>
    rw [ha] at h
    cases q with
    | none =>
      obtain ⟨u, hu, hg⟩ := concL_get hl h
      exact ⟨u, hu, by simp [part, run_isAggS ha, hg]⟩
    | some n =>
      simp only [Option.some.injEq] at h
      subst h
      refine ⟨.agg ((vs.drop off).take n).toArray, by simp [SV.conc, concL_take n (concL_drop off hl)], ?_⟩
      simp only [part, run_isAggS ha, run_sizeT (aggSize_size ha), Sem.run_bind, Result.andThen, Option.isSome_some, if_true, Sem.run_pure]
      congr 2
      apply Array.ext'
      simp [List.take_drop, Nat.add_comm]
theorem fieldS_ok {t : TypeId} {f : Nat} {l : List SV} {r : SV} {vs : List Value} (h : fieldS P t f l = some r) (hl : SV.concL e l = some vs) (w : World) : ∃ u, r.conc e = some u ∧ (Instr.field t (.agg vs.toArray) f).run P w = .ok u w := by
  unfold fieldS at h
  cases hu : P.underlying t with
  | none => rw [hu] at h; cases h
  | some d =>
    rw [hu] at h
    cases d with
    | struct fields =>
      simp only at h
      cases hf : fields[f]? with
      | none => rw [hf] at h; cases h
      | some fd =>
        rw [hf] at h
        obtain ⟨u, hu', hr⟩ := partS_ok h hl w
        exact ⟨u, hu', by simp [Instr.field, run_underlying hu, hf, asAgg, hr]⟩
    | _ => cases h
theorem ifaceV_ok {t : TypeId} {s : SV} {v : Value} (hv : s.conc e = some v) : (ifaceV t s).conc e = some (.iface t v) := by
  cases s <;> first
    | (simp only [SV.conc, Option.some.injEq] at hv; subst hv; rfl)
    | (simp only [ifaceV]; rw [SV.conc, hv]; rfl)
theorem ifaceS_ok {t : TypeId} {s r : SV} {v : Value} (h : ifaceS P t s = some r) (hv : s.conc e = some v) (w : World) : ∃ u, r.conc e = some u ∧ (Instr.makeInterface t v).run P w = .ok u w := by
  unfold ifaceS at h
  cases hu : P.underlying t with
  | none => rw [hu] at h; cases h
  | some d =>
    rw [hu] at h
    cases d <;> first
      | (simp only [Option.some.injEq] at h
         subst h
         exact ⟨_, ifaceV_ok hv, by simp [Instr.makeInterface, run_underlying hu]⟩)
      | cases h
theorem places_ok : ∀ (fs : List Field) (pl : List (Nat × Nat)), places P fs = some pl → fs.mapM (fun f => (P.info? f.type).map fun i => (f.offset, i.size)) = some pl
  | [], pl, h => by simp only [places, Option.some.injEq] at h; subst h; rfl
  | f :: fs, pl, h => by
    simp only [places, sizeT] at h
    cases hi : P.info? f.type with
    | none => rw [hi] at h; cases h
    | some i =>
      rw [hi] at h
      simp only [Option.map_some] at h
      cases hr : places P fs with
      | none => rw [hr] at h; cases h
      | some r =>
        rw [hr] at h
        simp only [Option.some.injEq] at h
        subst h
        simp [List.mapM_cons, hi, places_ok fs r hr]
theorem buildS_ok {t : TypeId} {ps : List (Nat × SV)} {qs : Array (Nat × Value)} {r : SV} (h : buildS P t ps = some r) (hp : PRel e ps qs.toList) (w : World) : ∃ u, r.conc e = some u ∧ (Instr.build t qs).run P w = .ok u w := by
  unfold buildS zeroT at h
  cases hi : P.info? t with
  | none => rw [hi] at h; cases h
  | some it =>
    rw [hi] at h
    simp only [Option.bind_some] at h
    cases hz : it.zero with
    | none => rw [hz] at h; cases h
    | some z =>
      rw [hz] at h
      simp only at h
      have hzl : SV.concL e (z.cells.toList.map .sc) = some z.cells.toList := concL_sc _
      cases hu : P.underlying t with
      | none => rw [hu] at h; cases h
      | some d =>
        rw [hu] at h
        cases d with
        | struct fields =>
          simp only at h
          cases hpl : places P fields.toList with
          | none => rw [hpl] at h; cases h
          | some pl =>
            rw [hpl] at h
            simp only [Option.map_eq_some_iff] at h
            obtain ⟨cs, hf, rfl⟩ := h
            obtain ⟨vs, g1, g2⟩ := fill_S ps qs.toList _ cs _ hf hp hzl
            refine ⟨.agg vs.toArray, by simp [SV.conc, g2], run_build w t qs vs.toArray ?_⟩
            unfold Program.built
            rw [hi, hu]
            simp only [hz, places_ok _ _ hpl]
            rw [← g1]
            congr 1
            funext i
            simp
        | array len el =>
          simp only at h
          cases hs : sizeT P el with
          | none => rw [hs] at h; cases h
          | some sz =>
            rw [hs] at h
            simp only [Option.map_eq_some_iff] at h
            obtain ⟨cs, hf, rfl⟩ := h
            obtain ⟨vs, g1, g2⟩ := fill_S ps qs.toList _ cs _ hf hp hzl
            refine ⟨.agg vs.toArray, by simp [SV.conc, g2], run_build w t qs vs.toArray ?_⟩
            unfold sizeT at hs
            cases hie : P.info? el with
            | none => rw [hie] at hs; cases hs
            | some ie =>
              rw [hie] at hs
              simp only [Option.map_some, Option.some.injEq] at hs
              subst hs
              unfold Program.built
              rw [hi, hu]
              simp only [hz, hie]
              rw [← g1]
        | _ => cases h
theorem MRel.dummies : ∀ {l : List (Value × SV × Nat)} {ms : List MapEntry}, MRel e l ms → dummies l = ms.map fun m => { m with val := .nilFunc }
  | [], [], _ => rfl
  | (k, s, b) :: l, m :: ms, h => by
    obtain ⟨rfl, rfl, _, h4⟩ := h
    simp only [Ex.dummies, List.map_cons, List.cons.injEq]
    exact ⟨trivial, MRel.dummies h4⟩
  | [], _ :: _, h => h.elim
  | (_, _, _) :: _, [], h => by simp [MRel] at h
theorem MRel.length : ∀ {l : List (Value × SV × Nat)} {ms : List MapEntry}, MRel e l ms → ms.length = l.length
  | [], [], _ => rfl
  | (k, s, b) :: l, m :: ms, h => by simp [MRel.length h.2.2.2]
  | [], _ :: _, h => h.elim
  | (_, _, _) :: _, [], h => by simp [MRel] at h
theorem MRel.get : ∀ {l : List (Value × SV × Nat)} {ms : List MapEntry}, MRel e l ms → ∀ {i : Nat} {k : Value} {s : SV} {b : Nat}, l[i]? = some (k, s, b) → ∃ m, ms[i]? = some m ∧ m.key = k ∧ m.born = b ∧ s.conc e = some m.val
  | [], [], _, i, k, s, b, hg => by simp at hg
  | (k', s', b') :: l, m :: ms, h, i, k, s, b, hg => by
    cases i with
    | zero =>
      simp only [List.getElem?_cons_zero, Option.some.injEq, Prod.mk.injEq] at hg
      obtain ⟨rfl, rfl, rfl⟩ := hg
      exact ⟨m, rfl, h.1, h.2.1, h.2.2.1⟩
    | succ i => simpa using MRel.get h.2.2.2 (i := i) (by simpa using hg)
  | [], _ :: _, h, _, _, _, _, _ => h.elim
  | (_, _, _) :: _, [], h, _, _, _, _, _ => by simp [MRel] at h
theorem findNow_dummy (d : TypeDesc) (k : Value) : ∀ (ms : List MapEntry) (i : Nat), Instr.findNow d k (ms.map fun m => { m with val := .nilFunc }) i = (Instr.findNow d k ms i).map (·.map fun x => (x.1, .nilFunc))
  | [], i => rfl
  | m :: ms, i => by
    simp only [List.map_cons, Instr.findNow]
    cases Instr.sameNow d k m.key with
    | none => rfl
    | some b => cases b <;> simp [findNow_dummy d k ms (i + 1)]
theorem pureRun_bind {A C : Type} (f : A → Sem C) (c : C) : ∀ (s : Sem A), pureRun P (s.bind f) = some c → ∃ a, pureRun P s = some a ∧ pureRun P (f a) = some c
  | .pure a, h => ⟨a, rfl, h⟩
  | .program k, h => pureRun_bind f c (k P) h
  | .mark m k, h => pureRun_bind f c k h
  | .choose q k, h => by
    simp only [Sem.bind, pureRun] at h ⊢
    cases hq : q.forced with
    | false => rw [hq] at h; cases h
    | true => rw [hq] at h; exact pureRun_bind f c (k 0) h
  | .load .., h => by simp [Sem.bind, pureRun] at h
  | .store .., h => by simp [Sem.bind, pureRun] at h
  | .new .., h => by simp [Sem.bind, pureRun] at h
  | .shape .., h => by simp [Sem.bind, pureRun] at h
  | .freeze .., h => by simp [Sem.bind, pureRun] at h
  | .frozen .., h => by simp [Sem.bind, pureRun] at h
  | .getObj .., h => by simp [Sem.bind, pureRun] at h
  | .setObj .., h => by simp [Sem.bind, pureRun] at h
  | .sys .., h => by simp [Sem.bind, pureRun] at h
  | .halt .., h => by simp [Sem.bind, pureRun] at h
theorem findAsking_dummy (kt : TypeId) (k : Value) (w : World) : ∀ (ms : List MapEntry) (i : Nat) (r : Option (Nat × Value)), pureRun P (Instr.findAsking kt k (ms.map fun m => { m with val := .nilFunc }) i) = some r →
    ∃ r', (Instr.findAsking kt k ms i).run P w = .ok r' w ∧ r = r'.map fun x => (x.1, .nilFunc)
  | [], i, r, h => by
    simp only [List.map_nil, Instr.findAsking] at h
    have : r = none := by
      change some none = some r at h
      simpa using h.symm
    subst this
    exact ⟨none, rfl, rfl⟩
  | m :: ms, i, r, h => by
    simp only [List.map_cons, Instr.findAsking] at h
    obtain ⟨b, h1, h2⟩ := pureRun_bind _ _ _ h
    have hr := pureRun_run _ _ h1 w
    simp only [Instr.findAsking, Sem.run_bind, hr, Result.andThen]
    cases b with
    | true =>
      simp only [if_true] at h2 ⊢
      have : r = some (i, .nilFunc) := by
        change some _ = some r at h2
        simpa using h2.symm
      subst this
      exact ⟨some (i, m.val), rfl, rfl⟩
    | false =>
      simp only [Bool.false_eq_true, if_false] at h2 ⊢
      exact findAsking_dummy kt k w ms (i + 1) r h2
theorem findKey_dummy (kt : TypeId) (k : Value) (w : World) (ms : List MapEntry) (r : Option (Nat × Value)) (h : pureRun P (Instr.findKey kt k (ms.map fun m => { m with val := .nilFunc })) = some r) :
    ∃ r', (Instr.findKey kt k ms).run P w = .ok r' w ∧ r = r'.map fun x => (x.1, .nilFunc) := by
  unfold Instr.findKey at h ⊢
  obtain ⟨d, h1, h2⟩ := pureRun_bind _ _ _ h
  have hr := pureRun_run _ _ h1 w
  simp only [Sem.run_bind, hr, Result.andThen]
  rw [findNow_dummy] at h2
  cases hf : Instr.findNow d k ms 0 with
  | none =>
    rw [hf] at h2
    exact findAsking_dummy kt k w ms 0 r h2
  | some q =>
    rw [hf] at h2
    refine ⟨q, rfl, ?_⟩
    change some _ = some r at h2
    simpa using h2.symm
theorem findNow_get (d : TypeDesc) (k : Value) : ∀ (ms : List MapEntry) (i j : Nat) (v : Value), Instr.findNow d k ms i = some (some (j, v)) → i ≤ j ∧ ∃ m, ms[j - i]? = some m ∧ m.val = v
  | [], i, j, v, h => by simp [Instr.findNow] at h
  | m :: ms, i, j, v, h => by
    simp only [Instr.findNow] at h
    cases hs : Instr.sameNow d k m.key with
    | none => rw [hs] at h; cases h
    | some b =>
      rw [hs] at h
      cases b with
      | true =>
        simp only [Option.some.injEq, Prod.mk.injEq] at h
        obtain ⟨rfl, rfl⟩ := h
        exact ⟨Nat.le_refl _, m, by simp, rfl⟩
      | false =>
        obtain ⟨h1, n, h2, h3⟩ := findNow_get d k ms (i + 1) j v h
        exact ⟨by omega, n, by rw [show j - i = (j - (i + 1)) + 1 by omega]; simpa using h2, h3⟩
theorem findAsking_get (kt : TypeId) (k : Value) (w : World) : ∀ (ms : List MapEntry) (i : Nat) (r : Option (Nat × Value)), pureRun P (Instr.findAsking kt k (ms.map fun m => { m with val := .nilFunc }) i) = some r → ∀ j v, (Instr.findAsking kt k ms i).run P w = .ok (some (j, v)) w → i ≤ j ∧ ∃ m, ms[j - i]? = some m ∧ m.val = v
  | [], i, r, _, j, v, h => by simp [Instr.findAsking] at h
  | m :: ms, i, r, hp, j, v, h => by
    simp only [List.map_cons, Instr.findAsking] at hp
    obtain ⟨b, h1, h2⟩ := pureRun_bind _ _ _ hp
    have hr := pureRun_run _ _ h1 w
    simp only [Instr.findAsking, Sem.run_bind, hr, Result.andThen] at h
    cases b with
    | true =>
      simp only [if_true, Sem.run_pure, Result.ok.injEq, Option.some.injEq, Prod.mk.injEq, and_true] at h
      obtain ⟨rfl, rfl⟩ := h
      exact ⟨Nat.le_refl _, m, by simp, rfl⟩
    | false =>
      simp only [Bool.false_eq_true, if_false] at h2 h
      obtain ⟨g1, n, g2, g3⟩ := findAsking_get kt k w ms (i + 1) r h2 j v h
      exact ⟨by omega, n, by rw [show j - i = (j - (i + 1)) + 1 by omega]; simpa using g2, g3⟩
theorem findK_ok {kt : TypeId} {k : Value} {l : List (Value × SV × Nat)} {ms : List MapEntry} {r : Option Nat} (h : findK P kt k l = some r) (hm : MRel e l ms) (w : World) :
    (∀ b, b = ms.isEmpty → (Instr.checkKey b 10000 kt k).run P w = .ok () w) ∧ ∃ r', (Instr.findKey kt k ms).run P w = .ok r' w ∧ r = r'.map (·.1) ∧ ∀ j v, r' = some (j, v) → ∃ m, ms[j]? = some m ∧ m.val = v := by
  unfold findK at h
  have hlen := hm.length
  have hemp : l.isEmpty = ms.isEmpty := by
    cases l <;> cases ms <;> simp at hlen ⊢
  rw [hemp] at h
  cases hc : pureRun P (Instr.checkKey ms.isEmpty 10000 kt k) with
  | none => rw [hc] at h; cases h
  | some u =>
    rw [hc] at h
    simp only at h
    rw [hm.dummies] at h
    cases hf : pureRun P (Instr.findKey kt k (ms.map fun m => { m with val := .nilFunc })) with
    | none => rw [hf] at h; cases h
    | some q =>
      rw [hf] at h
      refine ⟨fun b hb => by subst hb; exact pureRun_run _ _ hc w, ?_⟩
      obtain ⟨r', h1, h2⟩ := findKey_dummy kt k w ms q hf
      refine ⟨r', h1, ?_, ?_⟩
      · subst h2
        cases r' with
        | none => simpa using h.symm
        | some x => simpa using h.symm
      · rintro j v rfl
        unfold Instr.findKey at hf h1
        obtain ⟨d, g1, g2⟩ := pureRun_bind _ _ _ hf
        have hr := pureRun_run _ _ g1 w
        simp only [Sem.run_bind, hr, Result.andThen] at h1
        rw [findNow_dummy] at g2
        cases hn : Instr.findNow d k ms 0 with
        | none =>
          rw [hn] at g2 h1
          obtain ⟨_, m, a, b⟩ := findAsking_get kt k w ms 0 q g2 j v h1
          exact ⟨m, by simpa using a, b⟩
        | some p =>
          rw [hn] at h1
          simp only [Sem.run_pure, Result.ok.injEq, and_true] at h1
          subst h1
          obtain ⟨_, m, a, b⟩ := findNow_get d k ms 0 j v hn
          exact ⟨m, by simpa using a, b⟩
end
end Go.Ex
end
section
namespace Go.Ex
open Go Go.Sl Go.RowKit
section
variable {P : Program} {B : Nat} {w0 w : World} {e : Env} {H : Heap} {nx : Nat} {T : Tr SV} {ev : Operand → Value}
theorem St.at (hS : St B w0 e H nx w) {b : Nat} {vo : VO} {x : Ent} (hb : H.at' b = some vo) (hx : e b = some x) : ∃ o, B ≤ x.blk ∧ w.heap[x.blk]? = some o ∧ ORel e vo x o := by
  obtain ⟨y, o, h1, h2, h3, h4⟩ := hS.rel b vo hb
  rw [hx] at h1
  simp only [Option.some.injEq] at h1
  subst h1
  exact ⟨o, h2, h3, h4⟩
theorem okPair {s z : SV} {v : Value} {b ok : Bool} (hs : s.conc e = some v) (hz : (bif ok then SV.tup [s, .sc (.bool b)] else s) = z) : z.conc e = some (if ok then .tuple #[v, .bool b] else v) := by
  subst hz
  cases ok with
  | true => simp [SV.conc, SV.concL, hs]
  | false => simpa using hs
theorem lookupS_ok {t : TypeId} {ok : Bool} {k : Value} {s r : SV} {v : Value} (hS : St B w0 e H nx w) (h : lookupS P H t ok k s = some r) (hv : s.conc e = some v) : ∃ u, r.conc e = some u ∧ (Instr.lookup t v k ok).run P w = .ok u w := by
  cases s with
  | mp b =>
    obtain ⟨x, hx, rfl⟩ := conc_mp hv
    simp only [lookupS] at h
    cases hu : P.underlying t with
    | none => rw [hu] at h; cases h
    | some d =>
      rw [hu] at h
      cases d with
      | map kt el =>
        simp only at h
        cases hb : H.at' b with
        | none => rw [hb] at h; cases h
        | some vo =>
          rw [hb] at h
          cases vo with
          | map l clock =>
            simp only at h
            obtain ⟨o, _, hw, ho⟩ := hS.at hb hx
            obtain ⟨es, rfl, hm⟩ := ho
            have hg := Go.MapKept.run_getObj_map (P := P) hw
            cases hf : findK P kt k l with
            | none => rw [hf] at h; cases h
            | some q =>
              obtain ⟨hc, r', hr, hq, hget⟩ := findK_ok hf hm w
              have hc' := hc es.isEmpty (by simp)
              rw [hf] at h
              cases q with
              | none =>
                simp only at h
                have : r' = none := by cases r' with | none => rfl | some x => simp at hq
                subst this
                cases hz : zeroT P el with
                | none => rw [hz] at h; cases h
                | some z =>
                  rw [hz] at h
                  simp only [Option.some.injEq] at h
                  refine ⟨_, okPair (s := .sc z) rfl h, ?_⟩
                  simp [Instr.lookup, run_underlying hu, hg, hc', hr, run_zeroT hz]
              | some i =>
                simp only at h
                cases r' with
                | none => simp at hq
                | some jv =>
                  obtain ⟨j, u⟩ := jv
                  simp only [Option.map_some, Option.some.injEq] at hq
                  subst hq
                  cases hl : l[i]? with
                  | none => rw [hl] at h; cases h
                  | some y =>
                    obtain ⟨k', s', b'⟩ := y
                    rw [hl] at h
                    simp only [Option.some.injEq] at h
                    obtain ⟨m, g1, _, _, g4⟩ := hm.get hl
                    obtain ⟨m', g5, g6⟩ := hget i u rfl
                    rw [g1] at g5
                    simp only [Option.some.injEq] at g5
                    subst g5
                    rw [g6] at g4
                    refine ⟨_, okPair g4 h, ?_⟩
                    simp [Instr.lookup, run_underlying hu, hg, hc', hr]
          | _ => cases h
      | _ => cases h
  | sc c =>
    simp only [SV.conc, Option.some.injEq] at hv
    subst hv
    cases c with
    | map m =>
      cases m with
      | none =>
        simp only [lookupS] at h
        cases hu : P.underlying t with
        | none => rw [hu] at h; cases h
        | some d =>
          rw [hu] at h
          cases d with
          | map kt el =>
            simp only at h
            cases hf : findK P kt k [] with
            | none => rw [hf] at h; cases h
            | some q =>
              obtain ⟨hc, r', hr, hq, hget⟩ := findK_ok (e := e) (ms := []) hf trivial w
              have hc' := hc true rfl
              rw [hf] at h
              cases q with
              | some i => cases h
              | none =>
                simp only at h
                have : r' = none := by cases r' with | none => rfl | some x => simp at hq
                subst this
                cases hz : zeroT P el with
                | none => rw [hz] at h; cases h
                | some z =>
                  rw [hz] at h
                  simp only [Option.some.injEq] at h
                  refine ⟨_, okPair (s := .sc z) rfl h, ?_⟩
                  simp [Instr.lookup, run_underlying hu, hc', hr, run_zeroT hz]
          | _ => cases h
      | some m => simp [lookupS] at h
    | _ => simp [lookupS] at h
  | _ => simp [lookupS] at h
def Bnd (d n : Nat) (x : Option Value) : Prop := (x = none ∧ n = d) ∨ ∃ k, x = some (.int k (n : Int))
theorem EvRel.natOr (hE : EvRel e T ev) {d n : Nat} {x : Option Operand} (h : natOr T d x = some n) : Bnd d n (x.map ev) := by
  cases x with
  | none => simp only [Ex.natOr, Option.some.injEq] at h; exact .inl ⟨rfl, h.symm⟩
  | some x =>
    obtain ⟨k, hk⟩ := hE.nat h
    exact .inr ⟨k, by simp [hk]⟩
theorem run_sliceBound {k : IntKind} {n y : Nat} (h : n ≤ y) (c : BoundsCode) (w : World) : (Instr.sliceBound (.int k (n : Int)) y c).run P w = .ok n w := by
  simp only [Instr.sliceBound, asIntOf, Sem.run_bind, Sem.run_pure, Result.andThen]
  rw [if_pos (by omega)]
  simp
theorem run_sliceBounds {isS : Bool} {len cap l h m : Nat} {lo hi mx : Option Value} (hl : Bnd 0 l lo) (hh : Bnd len h hi) (hm : Bnd cap m mx) (h1 : l ≤ h) (h2 : h ≤ m) (h3 : m ≤ cap) (h4 : hi.isSome = true ∨ mx = none) (w : World) :
    (Instr.sliceBounds isS len cap lo hi mx).run P w = .ok (l, h, m) w := by
  rcases hm with ⟨rfl, rfl⟩ | ⟨km, rfl⟩
  · rcases hh with ⟨rfl, rfl⟩ | ⟨kh, rfl⟩ <;> rcases hl with ⟨rfl, rfl⟩ | ⟨kl, rfl⟩ <;> simp [Instr.sliceBounds, run_sliceBound, h1, h2, h3]
  · rcases hh with ⟨rfl, rfl⟩ | ⟨kh, rfl⟩
    · simp at h4
    · rcases hl with ⟨rfl, rfl⟩ | ⟨kl, rfl⟩ <;> simp [Instr.sliceBounds, run_sliceBound, h1, h2, h3]
theorem isSome_or {A C : Type} {hi : Option A} {mx : Option C} (h : (hi.isSome || mx.isNone) = true) {f : A → Value} {g : C → Value} : (hi.map f).isSome = true ∨ mx.map g = none := by
  rw [Bool.or_eq_true] at h
  rcases h with h | h
  · exact .inl (by simpa using h)
  · exact .inr (by cases mx <;> simp_all)
theorem sliceS_ok {t : TypeId} {lo hi mx : Option Operand} {s r : SV} {v : Value} (hS : St B w0 e H nx w) (hE : EvRel e T ev) (h : sliceS P T H t lo hi mx s = some r) (hv : s.conc e = some v) :
    ∃ u, r.conc e = some u ∧ (Instr.sliceAt t v (lo.map ev) (hi.map ev) (mx.map ev)).run P w = .ok u w := by
  cases s with
  | ptr b off =>
    obtain ⟨x, hx, rfl⟩ := conc_ptr hv
    simp only [sliceS] at h
    cases hu : P.underlying t with
    | none => rw [hu] at h; cases h
    | some d =>
      rw [hu] at h
      cases d with
      | array n el =>
        simp only at h
        cases hs : sizeT P el with
        | none => rw [hs] at h; cases h
        | some sz =>
        cases hl : natOr T 0 lo with
        | none => rw [hs, hl] at h; cases h
        | some l =>
        cases hh : natOr T n hi with
        | none => rw [hs, hl, hh] at h; cases h
        | some hb =>
        cases hm : natOr T n mx with
        | none => rw [hs, hl, hh, hm] at h; cases h
        | some m =>
          rw [hs, hl, hh, hm] at h
          simp only at h
          cases hc : (Nat.ble l hb && Nat.ble hb m && Nat.ble m n && (hi.isSome || mx.isNone)) with
          | false => rw [hc] at h; cases h
          | true =>
            rw [hc] at h
            simp only [cond_true, Option.some.injEq] at h
            subst h
            simp only [Bool.and_eq_true] at hc
            obtain ⟨⟨⟨c1, c2⟩, c3⟩, c4⟩ := hc
            have hbd := run_sliceBounds (P := P) (isS := false) (hE.natOr hl) (hE.natOr hh) (hE.natOr hm) (le_of_ble c1) (le_of_ble c2) (le_of_ble c3) (isSome_or c4) w
            refine ⟨.slice (some ⟨x.blk, x.base + (bif Nat.beq m l then off else off + l * sz), none⟩) (hb - l) (m - l), by simp [SV.conc, hx], ?_⟩
            simp only [Instr.sliceAt, run_underlying hu, Sem.run_bind, Result.andThen, Instr.sureAddr, Sem.run_pure, hbd, run_sizeT hs]
            by_cases hml : m = l
            · subst hml
              simp [show Nat.beq m m = true from Nat.beq_refl m]
            · rw [if_neg hml]
              have : Nat.beq m l = false := by
                cases hbq : Nat.beq m l with
                | false => rfl
                | true => exact absurd (eq_of_beq hbq) hml
              simp [this, addr_add, Nat.add_assoc]
      | _ => cases h
  | sl b off len cap =>
    obtain ⟨x, hx, rfl⟩ := conc_sl hv
    simp only [sliceS] at h
    cases hu : P.underlying t with
    | none => rw [hu] at h; cases h
    | some d =>
      rw [hu] at h
      cases d with
      | slice el =>
        simp only at h
        cases hs : sizeT P el with
        | none => rw [hs] at h; cases h
        | some sz =>
        cases hl : natOr T 0 lo with
        | none => rw [hs, hl] at h; cases h
        | some l =>
        cases hh : natOr T len hi with
        | none => rw [hs, hl, hh] at h; cases h
        | some hb =>
        cases hm : natOr T cap mx with
        | none => rw [hs, hl, hh, hm] at h; cases h
        | some m =>
          rw [hs, hl, hh, hm] at h
          simp only at h
          cases hc : (Nat.ble l hb && Nat.ble hb m && Nat.ble m cap && (hi.isSome || mx.isNone)) with
          | false => rw [hc] at h; cases h
          | true =>
            rw [hc] at h
            simp only [cond_true, Option.some.injEq] at h
            subst h
            simp only [Bool.and_eq_true] at hc
            obtain ⟨⟨⟨c1, c2⟩, c3⟩, c4⟩ := hc
            have hbd := run_sliceBounds (P := P) (isS := true) (hE.natOr hl) (hE.natOr hh) (hE.natOr hm) (le_of_ble c1) (le_of_ble c2) (le_of_ble c3) (isSome_or c4) w
            refine ⟨.slice (some ⟨x.blk, x.base + (bif Nat.beq m l then off else off + l * sz), none⟩) (hb - l) (m - l), by simp [SV.conc, hx], ?_⟩
            simp only [Instr.sliceAt, Instr.slice, run_underlying hu, Sem.run_bind, Result.andThen, Sem.run_pure, hbd, run_sizeT hs]
            by_cases hml : m = l
            · subst hml
              simp [show Nat.beq m m = true from Nat.beq_refl m]
            · rw [if_neg hml]
              have : Nat.beq m l = false := by
                cases hbq : Nat.beq m l with
                | false => rfl
                | true => exact absurd (eq_of_beq hbq) hml
              simp [this, addr_add, Nat.add_assoc]
      | _ => cases h
  | slu b off eo len =>
    obtain ⟨x, hx, rfl⟩ := conc_slu hv
    simp only [sliceS] at h
    cases hu : P.underlying t with
    | none => rw [hu] at h; cases h
    | some d =>
      rw [hu] at h
      cases d with
      | slice el =>
        simp only at h
        cases hb : H.at' b with
        | none => rw [hb] at h; cases h
        | some vo =>
        rw [hb] at h
        cases vo with
        | row ne rsz rt rc =>
          simp only at h
          obtain ⟨o, _, hw, ho⟩ := hS.at hb hx
          obtain ⟨cs, fz, rfl, hne, hcap, hmax, _⟩ := ho
          cases hs : sizeT P el with
          | none => rw [hs] at h; cases h
          | some sz =>
          cases hl : natOr T 0 lo with
          | none => rw [hs, hl] at h; cases h
          | some l =>
          cases hh : natOr T len hi with
          | none => rw [hs, hl, hh] at h; cases h
          | some hb' =>
            rw [hs, hl, hh] at h
            simp only at h
            cases mx with
            | none =>
              simp only at h
              cases hc : (Nat.ble l hb' && Nat.ble (eo + hb') ne && Nat.blt (eo + l) ne) with
              | false => rw [hc] at h; cases h
              | true =>
                rw [hc] at h
                simp only [cond_true, Option.some.injEq] at h
                subst h
                simp only [Bool.and_eq_true] at hc
                obtain ⟨⟨c1, c2⟩, c3⟩ := hc
                have c2' := le_of_ble c2
                have c3' := lt_of_blt c3
                have hbd := run_sliceBounds (P := P) (isS := true) (cap := x.cap - eo) (m := x.cap - eo) (mx := none) (hE.natOr hl) (hE.natOr hh) (.inl ⟨rfl, rfl⟩) (le_of_ble c1) (by omega) (Nat.le_refl _) (.inr rfl) w
                refine ⟨.slice (some ⟨x.blk, x.base + (off + l * sz), none⟩) (hb' - l) (x.cap - (eo + l)), by simp [SV.conc, hx], ?_⟩
                simp only [Instr.sliceAt, Instr.slice, run_underlying hu, Sem.run_bind, Result.andThen, Sem.run_pure, Option.map_none, hbd, run_sizeT hs]
                rw [if_neg (by omega)]
                simp [addr_add, Nat.add_assoc, Nat.sub_sub]
            | some mo =>
              simp only at h
              cases hm : natS T mo with
              | none => rw [hm] at h; cases h
              | some m =>
                rw [hm] at h
                simp only at h
                cases hc : (Nat.ble l hb' && Nat.ble hb' m && Nat.ble (eo + m) ne && hi.isSome) with
                | false => rw [hc] at h; cases h
                | true =>
                  rw [hc] at h
                  simp only [cond_true, Option.some.injEq] at h
                  subst h
                  simp only [Bool.and_eq_true] at hc
                  obtain ⟨⟨⟨c1, c2⟩, c3⟩, c4⟩ := hc
                  have c3' := le_of_ble c3
                  obtain ⟨km, hkm⟩ := hE.nat hm
                  have hbd := run_sliceBounds (P := P) (isS := true) (cap := x.cap - eo) (m := m) (mx := some (.int km m)) (hE.natOr hl) (hE.natOr hh) (.inr ⟨km, rfl⟩) (le_of_ble c1) (le_of_ble c2) (by omega) (.inl (by simpa using c4)) w
                  refine ⟨.slice (some ⟨x.blk, x.base + (bif Nat.beq m l then off else off + l * sz), none⟩) (hb' - l) (m - l), by simp [SV.conc, hx], ?_⟩
                  simp only [Instr.sliceAt, Instr.slice, run_underlying hu, Sem.run_bind, Result.andThen, Sem.run_pure, Option.map_some, hkm, hbd, run_sizeT hs]
                  by_cases hml : m = l
                  · subst hml
                    simp [show Nat.beq m m = true from Nat.beq_refl m]
                  · rw [if_neg hml]
                    have : Nat.beq m l = false := by
                      cases hbq : Nat.beq m l with
                      | false => rfl
                      | true => exact absurd (eq_of_beq hbq) hml
                    simp [this, addr_add, Nat.add_assoc]
        | _ => cases h
      | _ => cases h
  | _ => simp [sliceS] at h
end
end Go.Ex
end
section
namespace Go.Ex
open Go Go.Sl Go.RowKit
section
variable {P : Program} {B : Nat} {w0 w : World} {e : Env} {H : Heap} {nx : Nat} {T : Tr SV} {ev : Operand → Value}
theorem run_eqlIn {t : TypeId} {x y : Value} {r : Bool} {w : World} (h : ∀ d, (Op.equalIn (d + 1) t x y).run P w = .ok r w) : (Op.equal t x y).run P w = .ok r w := h 9999
theorem isNilS_ok {s : SV} {v c : Value} {t : TypeId} {d : TypeDesc} (h : isNilS s c d = true) (hu : P.underlying t = some d) (hv : s.conc e = some v) (w : World) : (Op.equal t v c).run P w = .ok false w ∧ (∀ k n, v ≠ .int k n) ∧
    (∀ k n, v ≠ .float k n) ∧ (∀ k a b, v ≠ .complex k a b) ∧ (∀ s, v ≠ .string s) ∧ v ≠ .nilIface ∧ (∀ a, v ≠ .agg a) := by
  unfold isNilS at h
  split at h
  case h_1 b o el =>
    obtain ⟨x, _, rfl⟩ := conc_ptr hv
    refine ⟨run_eqlIn ?_, by simp, by simp, by simp, by simp, by simp, by simp⟩
    intro d; rw [Op.equalIn]; simp [run_underlying hu]
  case h_2 a b ms =>
    obtain ⟨x, _, rfl⟩ := conc_ifc hv
    refine ⟨run_eqlIn ?_, by simp, by simp, by simp, by simp, by simp, by simp⟩
    intro d; rw [Op.equalIn]; simp [run_underlying hu]
  case h_3 b k el =>
    obtain ⟨x, _, rfl⟩ := conc_mp hv
    refine ⟨run_eqlIn ?_, by simp, by simp, by simp, by simp, by simp, by simp⟩
    intro d; rw [Op.equalIn]; simp [run_underlying hu]
  case h_4 b o n c l2 c2 el =>
    obtain ⟨x, _, rfl⟩ := conc_sl hv
    refine ⟨run_eqlIn ?_, by simp, by simp, by simp, by simp, by simp, by simp⟩
    intro d; rw [Op.equalIn]; simp [run_underlying hu]
  case h_5 b o n c l2 c2 el =>
    obtain ⟨x, _, rfl⟩ := conc_slu hv
    refine ⟨run_eqlIn ?_, by simp, by simp, by simp, by simp, by simp, by simp⟩
    intro d; rw [Op.equalIn]; simp [run_underlying hu]
  case h_6 f a b ps rs va =>
    obtain ⟨x, y, _, _, rfl⟩ := conc_fn hv
    refine ⟨run_eqlIn ?_, by simp, by simp, by simp, by simp, by simp, by simp⟩
    intro d; rw [Op.equalIn]; simp [run_underlying hu]
  case h_7 b ps rs va =>
    obtain ⟨x, _, rfl⟩ := conc_yld hv
    refine ⟨run_eqlIn ?_, by simp, by simp, by simp, by simp, by simp, by simp⟩
    intro d; rw [Op.equalIn]; simp [run_underlying hu]
  case h_8 => cases h
theorem nilTest_ok {o : Oper} {op : BinOp} {t yt : TypeId} {xo yo : Operand} {x y r : SV} (hop : o.op = .binOp op t xo yo yt) (h : nilTest P op t x y = some r) (hx : x.conc e = some (ev xo)) (hy : y.conc e = some (ev yo)) (w : World) :
    ∃ u, r.conc e = some u ∧ (execOp ev o).run P w = .ok (.value u) w := by
  unfold nilTest at h
  cases y with
  | sc c =>
    simp only [SV.conc, Option.some.injEq] at hy
    subst hy
    simp only at h
    cases hu : P.underlying t with
    | none => rw [hu] at h; cases h
    | some d =>
      rw [hu] at h
      simp only at h
      cases hb : isNilS x (ev yo) d with
      | false => rw [hb] at h; cases h
      | true =>
        rw [hb] at h
        simp only [cond_true] at h
        obtain ⟨h1, n1, n2, n3, n4, n5, n6⟩ := isNilS_ok hb hu hx w
        generalize hA : ev xo = a at *
        generalize hC : ev yo = c at *
        cases op with
        | eql =>
          simp only [Option.some.injEq] at h
          subst h
          have hg : (eqGuard .eql t xo yo a c).run P w = .ok () w := by
            unfold eqGuard
            cases a <;> cases c <;> first | rfl | exact absurd rfl n5 | exact absurd rfl (n6 _)
          have hb2 : (Go.binOp .eql t a c).run P w = .ok (.bool false) w := by
            cases a <;> cases c <;> first
              | exact absurd rfl (n1 _ _)
              | exact absurd rfl (n2 _ _)
              | exact absurd rfl (n3 _ _ _)
              | exact absurd rfl (n4 _)
              | simp [Go.binOp, h1]
          exact ⟨_, rfl, by simp [execOp, hop, hA, hC, hg, hb2]⟩
        | neq =>
          simp only [Option.some.injEq] at h
          subst h
          have hg : (eqGuard .neq t xo yo a c).run P w = .ok () w := by
            unfold eqGuard
            cases a <;> cases c <;> first | rfl | exact absurd rfl n5 | exact absurd rfl (n6 _)
          have hb2 : (Go.binOp .neq t a c).run P w = .ok (.bool true) w := by
            cases a <;> cases c <;> first
              | exact absurd rfl (n1 _ _)
              | exact absurd rfl (n2 _ _)
              | exact absurd rfl (n3 _ _ _)
              | exact absurd rfl (n4 _)
              | simp [Go.binOp, h1]
          exact ⟨_, rfl, by simp [execOp, hop, hA, hC, hg, hb2]⟩
        | _ => cases h
  | _ => cases h
theorem lenS_ok {t : TypeId} {s r : SV} {v : Value} {ts : Array TypeId} {ty : TypeId} (hts : ts[0]? = some t) (hS : St B w0 e H nx w) (h : lenS P H t s = some r) (hv : s.conc e = some v) : ∃ u, r.conc e = some u ∧ (Builtin.len_ ts ty #[v]).run P w = .ok u w := by
  cases s with
  | sl b o n c =>
    obtain ⟨x, _, rfl⟩ := conc_sl hv
    simp only [lenS] at h
    cases hu : P.underlying t with
    | none => rw [hu] at h; cases h
    | some d =>
      rw [hu] at h
      cases d with
      | slice el => simp only [Option.some.injEq] at h; subst h; exact ⟨_, rfl, by simp [Builtin.len_, hts, run_underlying hu, goInt]⟩
      | _ => cases h
  | slu b o eo n =>
    obtain ⟨x, _, rfl⟩ := conc_slu hv
    simp only [lenS] at h
    cases hu : P.underlying t with
    | none => rw [hu] at h; cases h
    | some d =>
      rw [hu] at h
      cases d with
      | slice el => simp only [Option.some.injEq] at h; subst h; exact ⟨_, rfl, by simp [Builtin.len_, hts, run_underlying hu, goInt]⟩
      | _ => cases h
  | mp b =>
    obtain ⟨x, hx, rfl⟩ := conc_mp hv
    simp only [lenS] at h
    cases hu : P.underlying t with
    | none => rw [hu] at h; cases h
    | some d =>
      rw [hu] at h
      cases d with
      | map kt el =>
        simp only at h
        cases hb : H.at' b with
        | none => rw [hb] at h; cases h
        | some vo =>
          rw [hb] at h
          cases vo with
          | map l clock =>
            simp only [Option.some.injEq] at h
            subst h
            obtain ⟨o, _, hw, ho⟩ := hS.at hb hx
            obtain ⟨es, rfl, hm⟩ := ho
            have hg := Go.MapKept.run_getObj_map (P := P) hw
            have hl := hm.length
            simp only [Array.length_toList] at hl
            exact ⟨_, rfl, by simp [Builtin.len_, hts, run_underlying hu, hg, goInt, hl]⟩
          | _ => cases h
      | _ => cases h
  | _ => simp [lenS] at h
theorem sliceCells_ok {sz n : Nat} {s : SV} {l : List SV} {v : Value} (hS : St B w0 e H nx w) (h : sliceCells H sz s = some (n, l)) (hv : s.conc e = some v) :
    ∃ vs, SV.concL e l = some vs ∧ vs.length = n * sz ∧ (Builtin.lenOf v).run P w = .ok n w ∧ ∀ k, k ≤ n → (Builtin.firstCells sz k v).run P w = .ok (vs.take (k * sz)).toArray w := by
  have row : ∀ (b o : Nat) (a : Ent) (c : Nat), e b = some a → v = .slice (some ⟨a.blk, a.base + o, none⟩) n c → (match H.at' b with | some vo => (vo.cellsFrom o (n * sz)).map fun l => (n, l) | none => none) = some (n, l) →
      ∃ vs, SV.concL e l = some vs ∧ vs.length = n * sz ∧ (Builtin.lenOf v).run P w = .ok n w ∧ ∀ k, k ≤ n → (Builtin.firstCells sz k v).run P w = .ok (vs.take (k * sz)).toArray w := by
    intro b o a c ha hv h
    cases hb : H.at' b with
    | none => rw [hb] at h; cases h
    | some vo =>
      rw [hb] at h
      simp only [Option.map_eq_some_iff, Prod.mk.injEq, true_and] at h
      obtain ⟨l', hcf, rfl⟩ := h
      obtain ⟨ob, _, hw, ho⟩ := hS.at hb ha
      obtain ⟨vs, h1, h2, h3⟩ := ho.cellsFrom hw _ _ _ hcf
      subst hv
      refine ⟨vs, h1, h2, by simp [Builtin.lenOf], fun k hk => ?_⟩
      have hle : k * sz ≤ n * sz := Nat.mul_le_mul_right _ hk
      have := run_loadCells_list (P := P) (w := w) ⟨a.blk, a.base + o, none⟩ (vs.take (k * sz)) (fun j u hu => by
        rw [addr_add]
        have hj : j < (vs.take (k * sz)).length := (List.getElem?_eq_some_iff.1 hu).1
        rw [List.getElem?_take, if_pos (by rw [List.length_take] at hj; omega)] at hu
        exact h3 j u hu)
      rw [List.length_take, Nat.min_eq_left (by omega)] at this
      simp [Builtin.firstCells, this]
  cases s with
  | sl b o m c =>
    obtain ⟨x, hx, hv'⟩ := conc_sl hv
    simp only [sliceCells] at h
    have hmn : m = n := by
      cases hb : H.at' b with
      | none => rw [hb] at h; cases h
      | some vo => rw [hb] at h; simp only [Option.map_eq_some_iff, Prod.mk.injEq] at h; obtain ⟨_, _, h, _⟩ := h; exact h
    subst hmn
    exact row b o x c hx hv' h
  | slu b o eo m =>
    obtain ⟨x, hx, hv'⟩ := conc_slu hv
    simp only [sliceCells] at h
    have hmn : m = n := by
      cases hb : H.at' b with
      | none => rw [hb] at h; cases h
      | some vo => rw [hb] at h; simp only [Option.map_eq_some_iff, Prod.mk.injEq] at h; obtain ⟨_, _, h, _⟩ := h; exact h
    subst hmn
    exact row b o x _ hx hv' h
  | sc c =>
    simp only [SV.conc, Option.some.injEq] at hv
    subst hv
    unfold sliceCells at h
    split at h
    · simp only [Option.some.injEq, Prod.mk.injEq] at h
      obtain ⟨rfl, rfl⟩ := h
      rename_i heq
      simp only [SV.sc.injEq] at heq
      subst heq
      exact ⟨[], rfl, by simp, by simp [Builtin.lenOf], fun k hk => by simp [Builtin.firstCells]⟩
    · rename_i st heq
      simp only [SV.sc.injEq] at heq
      subst heq
      cases hb : Nat.beq sz 1 with
      | false => rw [hb] at h; cases h
      | true =>
        rw [hb] at h
        simp only [cond_true, Option.some.injEq, Prod.mk.injEq] at h
        obtain ⟨rfl, rfl⟩ := h
        have := eq_of_beq hb
        subst this
        refine ⟨st.data.toList.map fun b => .int .u8 b.toNat, ?_, ?_, by simp [Builtin.lenOf], fun k hk => ?_⟩
        · have := concL_sc (e := e) (st.data.toList.map fun b => Value.int .u8 b.toNat)
          rw [List.map_map] at this
          exact this
        · rw [List.length_map, Array.length_toList, Nat.mul_one]
          rfl
        · simp only [Builtin.firstCells, Sem.run_pure, Nat.mul_one]
          congr 1
          apply Array.ext'
          rw [Array.toList_map, ByteArray.data_extract, Array.toList_extract, List.extract_eq_take_drop, List.map_take]
          rfl
    · rename_i heq; cases heq
    · rename_i heq; cases heq
    · cases h
  | _ => simp [sliceCells] at h
theorem bytesL_ok : ∀ {l : List SV} {bs : List UInt8} {vs : List Value}, bytesL l = some bs → SV.concL e l = some vs → ∃ ns : List Int, vs = ns.map (Value.int .u8) ∧ ∀ r : ByteArray, ns.foldl (fun r n => r.push (UInt8.ofNat n.toNat)) r = ⟨r.data ++ bs.toArray⟩
  | [], bs, vs, h, hc => by
    simp only [bytesL, Option.some.injEq] at h
    simp only [SV.concL, Option.some.injEq] at hc
    subst h hc
    exact ⟨[], rfl, fun r => by simp⟩
  | s :: l, bs, vs, h, hc => by
    obtain ⟨v, ws, rfl, hv, hl⟩ := concL_cons hc
    unfold bytesL at h
    split at h
    · rename_i heq; cases heq
    · rename_i n l' heq
      simp only [List.cons.injEq] at heq
      obtain ⟨rfl, rfl⟩ := heq
      simp only [SV.conc, Option.some.injEq] at hv
      subst hv
      cases hb : bytesL l with
      | none => rw [hb] at h; cases h
      | some r =>
        rw [hb] at h
        simp only [Option.some.injEq] at h
        subst h
        obtain ⟨ns, rfl, hns⟩ := bytesL_ok hb hl
        refine ⟨(Int.ofNat n) :: ns, rfl, fun q => ?_⟩
        simp only [List.foldl_cons]
        rw [hns]
        simp [ByteArray.push]
    · cases h
theorem strOfS_ok {s t : TypeId} {x r : SV} {v : Value} (hS : St B w0 e H nx w) (h : strOfS P H s t x = some r) (hv : x.conc e = some v) : ∃ u, r.conc e = some u ∧ (Go.convert s t v).run P w = .ok u w := by
  unfold strOfS at h
  cases hs : P.underlying s with
  | none => rw [hs] at h; cases h
  | some d =>
    rw [hs] at h
    cases d with
    | slice el =>
      simp only at h
      cases ht : P.underlying t with
      | none => rw [ht] at h; cases h
      | some d2 =>
        rw [ht] at h
        cases d2 with
        | string =>
          simp only at h
          cases he : P.underlying el with
          | none => rw [he] at h; cases h
          | some d3 =>
            rw [he] at h
            have key : d3 = .int .u8 → ∀ n l, sliceCells H 1 x = some (n, l) → bytesS l = some r → (∃ a m c, v = .slice (some a) m c) → ∃ u, r.conc e = some u ∧ (Go.convert s t v).run P w = .ok u w := by
              intro hd n l hc hb hsl
              subst hd
              obtain ⟨a, m, c, rfl⟩ := hsl
              obtain ⟨vs, h1, h2, h3, h4⟩ := sliceCells_ok (P := P) hS hc hv
              simp only [Builtin.lenOf, Sem.run_pure, Result.ok.injEq, and_true] at h3
              subst h3
              have h5 := h4 m (Nat.le_refl _)
              simp only [bytesS, Option.map_eq_some_iff] at hb
              obtain ⟨bs, hb, rfl⟩ := hb
              obtain ⟨ns, rfl, hns⟩ := bytesL_ok hb h1
              simp only [Builtin.firstCells, Nat.mul_one] at h5
              rw [List.take_of_length_le (by omega)] at h5
              rw [run_convert_bytes_string w s t el (some a) m c hs he ht, run_bytesToString w a m c ns h5, hns]
              exact ⟨_, rfl, by rw [show (ByteArray.empty).data = #[] from rfl]; simp⟩
            cases d3 with
            | int k =>
              cases k with
              | u8 =>
                simp only at h
                cases x with
                | sl b o n c =>
                  simp only at h
                  obtain ⟨y, _, hv'⟩ := conc_sl hv
                  cases hc : sliceCells H 1 (.sl b o n c) with
                  | none => rw [hc] at h; cases h
                  | some q => rw [hc] at h; exact key rfl q.1 q.2 hc h ⟨_, _, _, hv'⟩
                | slu b o eo n =>
                  simp only at h
                  obtain ⟨y, _, hv'⟩ := conc_slu hv
                  cases hc : sliceCells H 1 (.slu b o eo n) with
                  | none => rw [hc] at h; cases h
                  | some q => rw [hc] at h; exact key rfl q.1 q.2 hc h ⟨_, _, _, hv'⟩
                | _ => cases h
              | _ => cases h
            | _ => cases h
        | _ => cases h
    | _ => cases h
theorem getObj_at {r : Nat} {o : Obj} (h : w.heap[r]? = some o) (hn : ∀ c t fz, o ≠ .cells c t fz) : (getObj r).run P w = .ok o w := by
  cases o <;> first
    | exact absurd rfl (hn _ _ _)
    | simp [getObj, Sem.run, h]
theorem MRel.find (f : Nat → Bool) : ∀ {l : List (Value × SV × Nat)} {ms : List MapEntry}, MRel e l ms → ∀ {x : Value × SV × Nat}, l.find? (fun x => f x.2.2) = some x → ∃ m, ms.find? (fun m => f m.born) = some m ∧ m.key = x.1 ∧ x.2.1.conc e = some m.val
  | [], [], _, x, h => by simp at h
  | (k, s, b) :: l, m :: ms, hr, x, h => by
    obtain ⟨h1, h2, h3, h4⟩ := hr
    simp only [List.find?_cons] at h ⊢
    rw [h2]
    cases hb : f b with
    | true =>
      rw [hb] at h
      simp only [Option.some.injEq] at h
      subst h
      exact ⟨m, rfl, h1, h3⟩
    | false =>
      rw [hb] at h
      exact MRel.find f h4 h
  | [], _ :: _, hr, _, _ => hr.elim
  | (_, _, _) :: _, [], hr, _, _ => by simp [MRel] at hr
theorem beq_eq_beq (a b : Nat) : (a == b) = Nat.beq a b := by
  cases h : Nat.beq a b with
  | true =>
    have := eq_of_beq h
    subst this
    simp
  | false =>
    rw [beq_eq_false_iff_ne]
    rintro rfl
    rw [show Nat.beq a a = true from Nat.beq_refl a] at h
    cases h
theorem entryS_ok {s r : SV} {v : Value} (hS : St B w0 e H nx w) (h : entryS H s = some r) (hv : s.conc e = some v) : ∃ u, r.conc e = some u ∧ (Instr.entry v).run P w = .ok u w := by
  unfold entryS at h
  split at h
  · rename_i b
    obtain ⟨x, hx, rfl⟩ := conc_ptr hv
    split at h
    · rename_i m since seen stepped hb
      obtain ⟨o, _, hw, ho⟩ := hS.at hb hx
      obtain ⟨h0, y, hy, rfl⟩ := ho
      have hg := getObj_at (P := P) hw (by simp)
      cases hs : seen.getLast? with
      | none => rw [hs] at h; cases h
      | some stamp =>
        rw [hs] at h
        simp only at h
        split at h
        · rename_i l clock hm
          obtain ⟨om, _, hwm, hom⟩ := hS.at hm hy
          obtain ⟨es, rfl, hmr⟩ := hom
          have hgm := getObj_at (P := P) hwm (by simp)
          cases hc : Nat.beq clock stepped with
          | false => rw [hc] at h; cases h
          | true =>
            rw [hc] at h
            have hcs := eq_of_beq hc
            subst hcs
            simp only [cond_true] at h
            cases hf : l.find? (fun x => Nat.beq x.2.2 stamp) with
            | none => rw [hf] at h; cases h
            | some z =>
              rw [hf] at h
              simp only [Option.some.injEq] at h
              subst h
              obtain ⟨m, g1, g2, g3⟩ := hmr.find (fun b => Nat.beq b stamp) hf
              have g1' : es.find? (fun m => m.born == stamp) = some m := by
                rw [← Array.find?_toList]
                simp only [beq_eq_beq]
                exact g1
              have hback : seen.toArray.back? = some stamp := by simpa using hs
              refine ⟨.tuple #[m.key, m.val], by simp [SV.conc, SV.concL, g2, g3], ?_⟩
              rw [h0, Nat.add_zero]
              simp [Instr.entry, hg, hback, hgm, g1']
        · cases h
    · cases h
  · cases h
theorem obind {A C : Type} {x : Option A} {f : A → Option C} {c : C} (h : x.bind f = some c) : ∃ a, x = some a ∧ f a = some c := by
  cases x with
  | none => cases h
  | some a => exact ⟨a, rfl, h⟩
theorem readOp_ok {o : Oper} {r : SV} (hS : St B w0 e H nx w) (hE : EvRel e T ev) (h : readOp P T H o = some r) : ∃ u, r.conc e = some u ∧ (execOp ev o).run P w = .ok (.value u) w := by
  unfold readOp at h
  cases hop : o.op with
  | move x => rw [hop] at h; exact ⟨_, hE x r h, by simp [execOp, hop]⟩
  | assign x => rw [hop] at h; exact ⟨_, hE x r h, by simp [execOp, hop]⟩
  | pick c a b =>
    rw [hop] at h
    simp only at h
    split at h
    · rename_i t hc
      have := hE c _ hc
      simp only [SV.conc, Option.some.injEq] at this
      cases t with
      | true => exact ⟨_, hE a r h, by simp [execOp, hop, ← this, asBool]⟩
      | false => exact ⟨_, hE b r h, by simp [execOp, hop, ← this, asBool]⟩
    · cases h
  | extract x i =>
    rw [hop] at h
    obtain ⟨s, hs, h⟩ := obind h
    obtain ⟨u, hu, hr⟩ := nthS_ok (P := P) h (hE x s hs) w
    exact ⟨u, hu, by simp [execOp, hop, hr]⟩
  | nilCheck x =>
    rw [hop] at h
    obtain ⟨s, hs, h⟩ := obind h
    exact run_nilCheck hop h (hE x s hs) w
  | fieldAddr t x f =>
    rw [hop] at h
    obtain ⟨s, hs, h⟩ := obind h
    obtain ⟨u, hu, hr⟩ := fieldAddrS_ok h (hE x s hs) w
    exact ⟨u, hu, by simp [execOp, hop, hr]⟩
  | indexAddr t x i =>
    rw [hop] at h
    obtain ⟨n, hn, h⟩ := obind h
    obtain ⟨s, hs, h⟩ := obind h
    obtain ⟨k, hk⟩ := hE.nat hn
    obtain ⟨u, hu, hr⟩ := indexAddrS_ok (k := k) h (hE x s hs) w
    exact ⟨u, hu, by simp [execOp, hop, hk, hr]⟩
  | load t x =>
    rw [hop] at h
    simp only at h
    split at h
    · rename_i b off hx
      obtain ⟨y, hy, hv⟩ := conc_ptr (hE x _ hx)
      obtain ⟨u, hu, hr⟩ := loadS_ok hS h hy
      exact ⟨u, hu, by simp [execOp, hop, hv, Instr.loadAt, Instr.sureAddr, hr]⟩
    · cases h
  | field t x f =>
    rw [hop] at h
    simp only at h
    split at h
    · rename_i l hx
      obtain ⟨vs, hl, hv⟩ := conc_agg (hE x _ hx)
      obtain ⟨u, hu, hr⟩ := fieldS_ok h hl w
      exact ⟨u, hu, by simp [execOp, hop, hv, hr]⟩
    · cases h
  | makeInterface t x =>
    rw [hop] at h
    obtain ⟨s, hs, h⟩ := obind h
    obtain ⟨u, hu, hr⟩ := ifaceS_ok h (hE x s hs) w
    exact ⟨u, hu, by simp [execOp, hop, hr]⟩
  | makeFunc f a b =>
    rw [hop] at h
    obtain ⟨s, hs, h⟩ := obind h
    simp only [Option.map_eq_some_iff] at h
    obtain ⟨s2, hs2, rfl⟩ := h
    have h1 := hE.list _ _ hs
    have h2 := hE.list _ _ hs2
    refine ⟨.func f (a.map ev) (b.map ev), ?_, by simp [execOp, hop, Instr.makeFunc]⟩
    simp only [SV.conc, h1, h2]
    congr 2 <;> (apply Array.ext'; simp)
  | build t parts =>
    rw [hop] at h
    obtain ⟨s, hs, h⟩ := obind h
    have h1 := hE.parts _ _ hs
    obtain ⟨u, hu, hr⟩ := buildS_ok (qs := parts.map fun x => (x.1, ev x.2)) h (by simpa using h1) w
    exact ⟨u, hu, by simp [execOp, hop, hr]⟩
  | lookup t m k ok =>
    rw [hop] at h
    obtain ⟨kv, hk, h⟩ := obind h
    obtain ⟨s, hs, h⟩ := obind h
    obtain ⟨u, hu, hr⟩ := lookupS_ok hS h (hE m s hs)
    exact ⟨u, hu, by simp [execOp, hop, hE.lit hk, hr]⟩
  | slice t x lo hi mx =>
    rw [hop] at h
    obtain ⟨s, hs, h⟩ := obind h
    obtain ⟨u, hu, hr⟩ := sliceS_ok hS hE h (hE x s hs)
    exact ⟨u, hu, by simp [execOp, hop, hr]⟩
  | binOp op t x y yt =>
    rw [hop] at h
    obtain ⟨a, ha, h⟩ := obind h
    obtain ⟨b, hb, h⟩ := obind h
    exact nilTest_ok hop h (hE x a ha) (hE y b hb) w
  | call c =>
    rw [hop] at h
    simp only [lenCall] at h
    obtain ⟨callee, args, ts⟩ := c
    cases callee with
    | builtin b =>
      simp only at h
      cases b with
      | len =>
        simp only at h
        obtain ⟨tl⟩ := ts
        obtain ⟨al⟩ := args
        cases tl with
        | nil => cases h
        | cons t tl =>
          simp only at h
          cases al with
          | nil => cases h
          | cons x al =>
            cases al with
            | cons _ _ => cases h
            | nil =>
              obtain ⟨s, hs, h⟩ := obind h
              obtain ⟨u, hu, hr⟩ := lenS_ok (ts := ⟨t :: tl⟩) (ty := o.type) (by simp) hS h (hE x s hs)
              exact ⟨u, hu, by simp [execOp, hop, resolve, invoke, Go.builtin, hr]⟩
      | _ => cases h
    | _ => cases h
  | convert s t x =>
    rw [hop] at h
    obtain ⟨q, hq, h⟩ := obind h
    obtain ⟨u, hu, hr⟩ := strOfS_ok hS h (hE x q hq)
    exact ⟨u, hu, by simp [execOp, hop, hr]⟩
  | entry it =>
    rw [hop] at h
    obtain ⟨q, hq, h⟩ := obind h
    obtain ⟨u, hu, hr⟩ := entryS_ok (P := P) hS h (hE it q hq)
    exact ⟨u, hu, by simp [execOp, hop, hr]⟩
  | _ => rw [hop] at h; cases h
theorem pureOp_ok {o : Oper} {r : SV} (hE : EvRel e T ev) (h : pureOp P T o = some r) (w : World) : ∃ u, r.conc e = some u ∧ (execOp ev o).run P w = .ok (.value u) w := by
  unfold pureOp at h
  cases hb : (pureKind o.op && litOps T o.op.operands.toList) with
  | false => rw [hb] at h; cases h
  | true =>
    rw [hb] at h
    simp only [cond_true] at h
    rw [Bool.and_eq_true] at hb
    have hl : ∀ l : List Operand, litOps T l = true → ∀ x ∈ l, ev x = litEval T x := by
      intro l
      induction l with
      | nil => intro _ x hx; cases hx
      | cons y l ih =>
        intro hl x hx
        simp only [litOps, Bool.and_eq_true] at hl
        rcases List.mem_cons.1 hx with rfl | hx
        · cases hk : litS T x with
          | none => rw [hk] at hl; simp at hl
          | some v => simp [litEval, hk, hE.lit hk]
        · exact ih hl.2 x hx
    have hc := execOp_congr (ρ := ev) (ρ' := litEval T) o (by
      intro cs b hop
      rw [hop] at hb
      simp [pureKind] at hb) (fun x hx => hl _ hb.2 x (by simpa using hx))
    split at h
    · rename_i v hp
      simp only [Option.some.injEq] at h
      subst h
      exact ⟨v, rfl, by rw [hc]; exact pureRun_run _ _ hp w⟩
    · cases h
end
end Go.Ex
end
