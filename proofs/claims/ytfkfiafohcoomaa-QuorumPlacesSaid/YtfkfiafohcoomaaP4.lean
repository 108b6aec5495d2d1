/-
  Texts of the proof, merged: Q6 Q7 Q8 Q9 Q10 Q11 SyLp Q12 Q13 Q14 Qe Q15 Q16.
-/
import Derived.Sort.AssemblyPlain
import Derived.Laws.StructEq
import Derived.Sort.LotD5
import Derived.Test.YtfkfiafohcoomaaP3
set_option linter.unusedVariables false
set_option linter.unusedSimpArgs false
section
namespace Go.Proofs.Ytfkfiafohcoomaa
open Go Go.Sy
def chooseB (l : List (Int × Int)) : Nat → Int
  | 0 => -1
  | i + 1 => if chooseB l i < 0 ∨ lessP (l.getD (chooseB l i).toNat (0, 0)) (l.getD i (0, 0)) = true then i else chooseB l i
theorem chooseB_ge (l : List (Int × Int)) : ∀ i, -1 ≤ chooseB l i
  | 0 => by simp [chooseB]
  | i + 1 => by
    have := chooseB_ge l i
    unfold chooseB
    split <;> omega
theorem chooseB_lt (l : List (Int × Int)) : ∀ i : Nat, chooseB l i < i
  | 0 => by simp [chooseB]
  | i + 1 => by
    have := chooseB_lt l i
    unfold chooseB
    split <;> omega
theorem chooseB_new {l : List (Int × Int)} {i : Nat} {a : Int × Int} (h : l[i]? = some a) (h2 : chooseB l i < 0 ∨ ∃ b, l[(chooseB l i).toNat]? = some b ∧ lessP b a = true) : chooseB l (i + 1) = i := by
  rw [chooseB, if_pos]
  rcases h2 with h2 | ⟨b, h2, h3⟩
  · exact .inl h2
  · exact .inr (by rw [getD_of h2, getD_of h]; exact h3)
theorem chooseB_old {l : List (Int × Int)} {i : Nat} {a b : Int × Int} (h : l[i]? = some a) (h0 : 0 ≤ chooseB l i) (h1 : l[(chooseB l i).toNat]? = some b) (h3 : lessP b a = false) : chooseB l (i + 1) = chooseB l i := by
  rw [chooseB, if_neg]
  rintro (g2 | g2)
  · omega
  · rw [getD_of h1, getD_of h, h3] at g2; cases g2
def chooseP (l : List (Int × Int)) : Int := chooseB l l.length
set_option maxRecDepth 100000 in
set_option maxHeartbeats 0 in
theorem choose_spec (ro : Bool) (l : List (Int × Int)) (hl : l.length < 4611686018427387904) : Ctr Try.prog 11 [.slu 0 0 l.length] [plR ro l] (fun c => c = ⟨.sc (.int .i64 (chooseP l)), [some (plR ro l)]⟩) := by
  refine Fnc.start Try.func11 rfl rfl ?_
  (repeat (first | refine y_seq ?_ | refine w_region ?_ | refine y_regEnd ?_ | refine y_block ?_ | refine w_move rfl rfl rfl ?_ | refine w_assign rfl rfl rfl ?_ | refine w_lenSl rfl rfl rfl (F.un _ rfl) ?_))
  refine y_loopC 1 (fun i : Nat => [(0, .slu 0 0 l.length), (3, .sc (.int .i64 (chooseB l i))), (6, .slu 0 0 l.length), (7, .sc (.int .i64 (l.length : Int))), (8, .sc (.int .i64 (i : Int)))]) (fun _ => [some (plR ro l)]) (fun i => i ≤ l.length) (fun i => l.length - i) 0 []
    (fun _ => rfl) (Nat.zero_le _) ?_ (fun _ => rfl) (fun _ => rfl) ?_
  · (refine ⟨(ExtOk.of rfl), rfl, (by repeat (first | exact trivial | refine ⟨rfl, ?_⟩)), (by repeat (first | exact trivial | refine ⟨at_dat rfl, ?_⟩))⟩)
  intro i hi ih
  have hge := chooseB_ge l i
  have hlt := chooseB_lt l i
  (repeat (first | refine y_seq ?_ | refine w_region ?_))
  refine w_lssS rfl rfl rfl rfl ?_ ?_
  all_goals intro h1
  · obtain ⟨a, ha⟩ : ∃ a, l[i]? = some a := ⟨_, List.getElem?_eq_getElem (by omega)⟩
    (repeat (first | (first | refine y_seq ?_ | refine w_region ?_ | refine y_regEnd ?_ | refine y_block ?_ | refine y_skip ?_ | refine y_condT rfl ?_ | refine w_move rfl rfl rfl ?_ | refine w_assign rfl rfl rfl ?_ | refine w_alloc rfl rfl (F.zl _ rfl) ?_ | refine w_storeN rfl rfl rfl (F.sz _ rfl) rfl rfl (by decide) rfl rfl ?_) | refine w_index rfl rfl rfl rfl (F.un _ rfl) (F.sz _ rfl) rfl (by omega) (by omega) (by omega) ?_ | (refine w_loadDN rfl rfl rfl (F.ag _ rfl) rfl (show _ = plV a by simpa using flat_one plV_len ha) rfl (by simp; omega) ?_)))
    refine w_draw (by kernel_rfl) (by kernel_rfl) ?_
    (repeat (refine dw_move rfl rfl rfl ?_))
    refine dw_lssS rfl rfl rfl rfl ?_ ?_
    all_goals intro h3
    · (repeat (first | refine dw_move rfl rfl rfl ?_ | refine dw_pickT rfl rfl rfl rfl ?_ | refine dk_skip rfl rfl ?_))
      (refine dk_nil ?_); (refine ⟨by kernel_rfl, ?_, ?_⟩); (focus (repeat (first | exact trivial | refine ⟨.inl rfl, ?_⟩)))
      (repeat (first | refine w_region ?_ | refine y_regEnd ?_ | refine y_inBlock ?_ | refine y_condT rfl ?_ | refine w_move rfl rfl rfl ?_ | refine w_assign rfl rfl rfl ?_ | refine w_add rfl rfl rfl rfl (by omega) (by omega) ?_))
      refine ih _ _ _ (i + 1) [] (by omega) (by omega) ?_
      rw [chooseB_new ha (.inl h3)]
      (refine ⟨(ExtOk.of rfl), rfl, (by repeat (first | exact trivial | refine ⟨rfl, ?_⟩)), (by repeat (first | exact trivial | refine ⟨at_dat rfl, ?_⟩))⟩)
    · obtain ⟨b, hb⟩ : ∃ b, l[(chooseB l i).toNat]? = some b := ⟨_, List.getElem?_eq_getElem (by omega)⟩
      have hc := less_spec b a
      cases hu : lessP b a
      all_goals rw [hu] at hc
      all_goals (repeat (first | refine dw_move rfl rfl rfl ?_ | refine dw_pickF rfl rfl rfl rfl ?_ | refine dw_loadBN rfl rfl rfl (F.ag _ rfl) rfl rfl ?_ | refine dw_index rfl rfl rfl rfl (F.un _ rfl) (F.sz _ rfl) rfl (by omega) (by omega) (by omega) ?_ | (refine dw_loadDN rfl rfl rfl (F.ag _ rfl) rfl (show _ = plV b by simpa using flat_one plV_len hb) rfl (by simp; omega) ?_) | refine dk_call rfl rfl rfl (by kernel_rfl) (Ctr.callV (hc) [] rfl (ExtOk.of rfl) rfl trivial rfl) ?_))
      all_goals refine dk_nil ?_
      all_goals refine ⟨by kernel_rfl, ?_, ?_⟩
      · (repeat (first | exact trivial | refine ⟨.inl rfl, ?_⟩ | refine ⟨.inr (by (repeat (refine ⟨(by first | exact rd_idxN (F.un _ rfl) (F.sz _ rfl) rfl rfl rfl (by omega) (by omega) (by omega) | exact rd_arith rfl rfl (.inl ⟨rfl, (Go.IntWalk.i64_in _ ⟨by omega, by omega⟩).symm⟩) | exact rd_arith rfl rfl (.inr (.inl ⟨rfl, (Go.IntWalk.i64_in _ ⟨by omega, by omega⟩).symm⟩)) | exact rd_fieldAddr (F.fo _ _ rfl rfl) rfl | exact rd_move rfl | exact rd_assign rfl | exact rd_load1 (F.ag _ rfl) rfl rfl (cell_box rfl) | exact rd_loadN (F.ag _ rfl) rfl rfl (cellsFrom_box _ 0 rfl rfl) | exact rd_extract rfl rfl | exact rd_lenSl (F.un _ rfl) rfl | exact rd_lenStr (F.un _ rfl) rfl | exact rd_nilCheck rfl | exact rd_pickT rfl rfl | exact rd_pickF rfl rfl), ?_⟩)); exact trivial), ?_⟩ | refine ⟨.inl (by kernel_rfl), ?_⟩))
      · (repeat (first | refine w_region ?_ | refine y_regEnd ?_ | refine y_inBlock ?_ | refine y_skip ?_ | refine y_condF rfl ?_ | refine w_move rfl rfl rfl ?_ | refine w_add rfl rfl rfl rfl (by omega) (by omega) ?_))
        refine ih _ _ _ (i + 1) [] (by omega) (by omega) ?_
        rw [chooseB_old ha h3 hb hu]
        (refine ⟨(ExtOk.of rfl), rfl, (by repeat (first | exact trivial | refine ⟨rfl, ?_⟩)), (by repeat (first | exact trivial | refine ⟨at_dat rfl, ?_⟩))⟩)
      · (repeat (first | exact trivial | refine ⟨.inl rfl, ?_⟩ | refine ⟨.inr (by (repeat (refine ⟨(by first | exact rd_idxN (F.un _ rfl) (F.sz _ rfl) rfl rfl rfl (by omega) (by omega) (by omega) | exact rd_arith rfl rfl (.inl ⟨rfl, (Go.IntWalk.i64_in _ ⟨by omega, by omega⟩).symm⟩) | exact rd_arith rfl rfl (.inr (.inl ⟨rfl, (Go.IntWalk.i64_in _ ⟨by omega, by omega⟩).symm⟩)) | exact rd_fieldAddr (F.fo _ _ rfl rfl) rfl | exact rd_move rfl | exact rd_assign rfl | exact rd_load1 (F.ag _ rfl) rfl rfl (cell_box rfl) | exact rd_loadN (F.ag _ rfl) rfl rfl (cellsFrom_box _ 0 rfl rfl) | exact rd_extract rfl rfl | exact rd_lenSl (F.un _ rfl) rfl | exact rd_lenStr (F.un _ rfl) rfl | exact rd_nilCheck rfl | exact rd_pickT rfl rfl | exact rd_pickF rfl rfl), ?_⟩)); exact trivial), ?_⟩ | refine ⟨.inl (by kernel_rfl), ?_⟩))
      · (repeat (first | refine w_region ?_ | refine y_regEnd ?_ | refine y_inBlock ?_ | refine y_condT rfl ?_ | refine w_move rfl rfl rfl ?_ | refine w_assign rfl rfl rfl ?_ | refine w_add rfl rfl rfl rfl (by omega) (by omega) ?_))
        refine ih _ _ _ (i + 1) [] (by omega) (by omega) ?_
        rw [chooseB_new ha (.inr ⟨b, hb, hu⟩)]
        (refine ⟨(ExtOk.of rfl), rfl, (by repeat (first | exact trivial | refine ⟨rfl, ?_⟩)), (by repeat (first | exact trivial | refine ⟨at_dat rfl, ?_⟩))⟩)
  · (repeat (first | refine y_seq ?_ | refine w_region ?_ | refine y_regEnd ?_ | refine y_exit rfl ?_ | refine y_condF rfl ?_ | refine w_move rfl rfl rfl ?_ | refine w_assign rfl rfl rfl ?_))
    obtain rfl : i = l.length := by omega
    (apply w_ret Try.func11 (congrArg Array.toList Try.results11); (focus (repeat (first | exact ResIs.nil | apply ResIs.tmp rfl))))
    (refine ⟨_, rfl, Ends.val (ExtOk.of rfl) rfl ?_ ?_⟩)
    · rfl
    · exact (by repeat (first | exact trivial | refine ⟨at_dat rfl, ?_⟩))
def greatP (l : List (Int × Int)) (a : Int × Int) : Bool := l.all (fun b => uptoP b a)
def chooseR (l : List (Int × Int)) : Int := match l.findIdx? (greatP l) with
  | some i => i
  | none => -1
theorem great_succ {l : List (Int × Int)} {i : Nat} {a b : Int × Int} (h : l[i]? = some b) : greatP (l.take (i + 1)) a = (greatP (l.take i) a && uptoP b a) := by
  obtain ⟨hi, rfl⟩ := List.getElem?_eq_some_iff.1 h
  rw [greatP, greatP, List.take_succ_eq_append_getElem hi, List.all_append]
  simp
theorem chooseR_at {l : List (Int × Int)} {i : Nat} {a : Int × Int} (h : l[i]? = some a) (hg : greatP l a = true) (hn : ∀ j b, j < i → l[j]? = some b → greatP l b = false) : chooseR l = i := by
  have : l.findIdx? (greatP l) = some i := by
    obtain ⟨hi, rfl⟩ := List.getElem?_eq_some_iff.1 h
    rw [List.findIdx?_eq_some_iff_getElem]
    exact ⟨hi, hg, fun j hj => by rw [hn j _ hj (List.getElem?_eq_getElem (by omega))]; simp⟩
  rw [chooseR, this]
theorem chooseR_no {l : List (Int × Int)} (hn : ∀ j b, j < l.length → l[j]? = some b → greatP l b = false) : chooseR l = -1 := by
  have : l.findIdx? (greatP l) = none := by
    rw [List.findIdx?_eq_none_iff]
    intro b hb
    obtain ⟨j, hj⟩ := List.getElem?_of_mem hb
    exact hn j b (List.getElem?_eq_some_iff.1 hj).1 hj
  rw [chooseR, this]
set_option maxRecDepth 100000 in
set_option maxHeartbeats 0 in
theorem rchoose_spec (ro : Bool) (l : List (Int × Int)) (hl : l.length < 4611686018427387904) : Ctr Try.prog 12 [.slu 0 0 l.length] [plR ro l] (fun c => c = ⟨.sc (.int .i64 (chooseR l)), [some (plR ro l)]⟩) := by
  refine Fnc.start Try.func12 rfl rfl ?_
  (repeat (first | refine y_seq ?_ | refine w_region ?_ | refine y_regEnd ?_ | refine y_block ?_ | refine w_assign rfl rfl rfl ?_))
  refine y_loopC 1 (fun i : Nat => [(0, .slu 0 0 l.length), (3, .sc (.int .i64 (i : Int)))]) (fun _ => [some (plR ro l)]) (fun i => i ≤ l.length ∧ ∀ j b, j < i → l[j]? = some b → greatP l b = false) (fun i => l.length - i) 0 []
    (fun _ => rfl) ⟨Nat.zero_le _, fun _ _ h => by omega⟩ ?_ (fun _ => rfl) (fun _ => rfl) ?_
  · (refine ⟨(ExtOk.of rfl), rfl, (by repeat (first | exact trivial | refine ⟨rfl, ?_⟩)), (by repeat (first | exact trivial | refine ⟨at_dat rfl, ?_⟩))⟩)
  rintro i ⟨hi, hn⟩ ih
  (repeat (first | refine y_seq ?_ | refine w_region ?_ | refine w_move rfl rfl rfl ?_ | refine w_lenSl rfl rfl rfl (F.un _ rfl) ?_))
  refine w_lssS rfl rfl rfl rfl ?_ ?_
  all_goals intro h1
  · obtain ⟨a, ha⟩ : ∃ a, l[i]? = some a := ⟨_, List.getElem?_eq_getElem (by omega)⟩
    (repeat (first | refine y_seq ?_ | refine w_region ?_ | refine y_regEnd ?_ | refine y_block ?_ | refine y_skip ?_ | refine y_condT rfl ?_ | refine w_assign rfl rfl rfl ?_))
    refine y_loopC 1 (fun k : Nat => [(0, .slu 0 0 l.length), (3, .sc (.int .i64 (i : Int))), (4, .sc (.bool (greatP (l.take k) a))), (5, .sc (.int .i64 (k : Int)))]) (fun _ => [some (plR ro l)]) (fun k => k ≤ l.length) (fun k => l.length - k) 0 []
      (fun _ => rfl) (Nat.zero_le _) ?_ (fun _ => rfl) (fun _ => rfl) ?_
    · (refine ⟨(ExtOk.of rfl), rfl, (by repeat (first | exact trivial | refine ⟨rfl, ?_⟩)), (by repeat (first | exact trivial | refine ⟨at_dat rfl, ?_⟩))⟩)
    intro k hk ihk
    (repeat (first | refine y_seq ?_ | refine w_region ?_ | refine w_move rfl rfl rfl ?_ | refine w_lenSl rfl rfl rfl (F.un _ rfl) ?_))
    refine w_lssS rfl rfl rfl rfl ?_ ?_
    all_goals intro h2
    · obtain ⟨b, hb⟩ : ∃ b, l[k]? = some b := ⟨_, List.getElem?_eq_getElem (by omega)⟩
      have hs := great_succ (a := a) hb
      have hc := upto_spec b a
      generalize greatP (l.take k) a = g at hs ⊢
      generalize uptoP b a = u at hs hc
      (repeat (first | refine y_seq ?_ | refine y_regEnd ?_ | refine y_block ?_ | refine y_skip ?_ | refine y_condT rfl ?_))
      cases g
      all_goals refine w_draw (by kernel_rfl) (by kernel_rfl) ?_
      all_goals (repeat (first | refine dw_move rfl rfl rfl ?_ | refine dw_assign rfl rfl rfl ?_ | refine dw_pickT rfl rfl rfl rfl ?_ | refine dw_pickF rfl rfl rfl rfl ?_ | refine dk_skip rfl rfl ?_ | refine dw_index rfl rfl rfl rfl (F.un _ rfl) (F.sz _ rfl) rfl (by omega) (by omega) (by omega) ?_ | (refine dw_loadDN rfl rfl rfl (F.ag _ rfl) rfl (show _ = plV b by simpa using flat_one plV_len hb) rfl (by simp; omega) ?_) | (refine dw_loadDN rfl rfl rfl (F.ag _ rfl) rfl (show _ = plV a by simpa using flat_one plV_len ha) rfl (by simp; omega) ?_) | refine dk_call rfl rfl rfl (by kernel_rfl) (Ctr.callV (hc) [] rfl (ExtOk.of rfl) rfl trivial rfl) ?_))
      all_goals refine dk_nil ?_
      all_goals refine ⟨by kernel_rfl, ?_, ?_⟩
      · (repeat (first | exact trivial | refine ⟨.inl rfl, ?_⟩))
      · (repeat (first | refine w_region ?_ | refine y_regEnd ?_ | refine y_inBlock ?_ | refine w_move rfl rfl rfl ?_ | refine w_assign rfl rfl rfl ?_ | refine w_add rfl rfl rfl rfl (by omega) (by omega) ?_))
        refine ihk _ _ _ (k + 1) [] (by omega) (by omega) ?_
        rw [hs]
        (refine ⟨(ExtOk.of rfl), rfl, (by repeat (first | exact trivial | refine ⟨rfl, ?_⟩)), (by repeat (first | exact trivial | refine ⟨at_dat rfl, ?_⟩))⟩)
      · (repeat (first | exact trivial | refine ⟨.inl rfl, ?_⟩ | refine ⟨.inr (by (repeat (refine ⟨(by first | exact rd_idxN (F.un _ rfl) (F.sz _ rfl) rfl rfl rfl (by omega) (by omega) (by omega) | exact rd_arith rfl rfl (.inl ⟨rfl, (Go.IntWalk.i64_in _ ⟨by omega, by omega⟩).symm⟩) | exact rd_arith rfl rfl (.inr (.inl ⟨rfl, (Go.IntWalk.i64_in _ ⟨by omega, by omega⟩).symm⟩)) | exact rd_fieldAddr (F.fo _ _ rfl rfl) rfl | exact rd_move rfl | exact rd_assign rfl | exact rd_load1 (F.ag _ rfl) rfl rfl (cell_box rfl) | exact rd_loadN (F.ag _ rfl) rfl rfl (cellsFrom_box _ 0 rfl rfl) | exact rd_extract rfl rfl | exact rd_lenSl (F.un _ rfl) rfl | exact rd_lenStr (F.un _ rfl) rfl | exact rd_nilCheck rfl | exact rd_pickT rfl rfl | exact rd_pickF rfl rfl), ?_⟩)); exact trivial), ?_⟩ | refine ⟨.inl (by kernel_rfl), ?_⟩))
      · (repeat (first | refine w_region ?_ | refine y_regEnd ?_ | refine y_inBlock ?_ | refine w_move rfl rfl rfl ?_ | refine w_assign rfl rfl rfl ?_ | refine w_add rfl rfl rfl rfl (by omega) (by omega) ?_))
        refine ihk _ _ _ (k + 1) [] (by omega) (by omega) ?_
        rw [hs]
        (refine ⟨(ExtOk.of rfl), rfl, (by repeat (first | exact trivial | refine ⟨rfl, ?_⟩)), (by repeat (first | exact trivial | refine ⟨at_dat rfl, ?_⟩))⟩)
    · obtain rfl : k = l.length := by omega
      rw [List.take_length]
      (repeat (first | refine y_seq ?_ | refine w_region ?_ | refine y_regEnd ?_ | refine y_exit rfl ?_ | refine y_condF rfl ?_ | refine w_move rfl rfl rfl ?_))
      cases hg : greatP l a
      all_goals (repeat (first | refine y_seq ?_ | refine w_region ?_ | refine y_regEnd ?_ | refine y_inBlock ?_ | refine y_skip ?_ | refine y_condT rfl ?_ | refine y_condF rfl ?_ | refine w_move rfl rfl rfl ?_ | refine w_assign rfl rfl rfl ?_ | refine w_add rfl rfl rfl rfl (by omega) (by omega) ?_))
      · refine ih _ _ _ (i + 1) [] ⟨by omega, fun j b hj hjb => ?_⟩ (by omega) ?_
        · rcases Nat.lt_or_ge j i with h | h
          · exact hn j b h hjb
          · obtain rfl : j = i := by omega
            rw [ha] at hjb
            cases hjb
            exact hg
        · (refine ⟨(ExtOk.of rfl), rfl, (by repeat (first | exact trivial | refine ⟨rfl, ?_⟩)), (by repeat (first | exact trivial | refine ⟨at_dat rfl, ?_⟩))⟩)
      · (apply w_ret Try.func12 (congrArg Array.toList Try.results12); (focus (repeat (first | exact ResIs.nil | apply ResIs.tmp rfl))))
        (refine ⟨_, rfl, Ends.val (ExtOk.of rfl) rfl ?_ ?_⟩)
        · rw [chooseR_at ha hg hn]
        · exact (by repeat (first | exact trivial | refine ⟨at_dat rfl, ?_⟩))
  · (repeat (first | refine y_seq ?_ | refine w_region ?_ | refine y_regEnd ?_ | refine y_exit rfl ?_ | refine y_condF rfl ?_ | refine w_assign rfl rfl rfl ?_))
    obtain rfl : i = l.length := by omega
    (apply w_ret Try.func12 (congrArg Array.toList Try.results12); (focus (repeat (first | exact ResIs.nil | apply ResIs.tmp rfl))))
    (refine ⟨_, rfl, Ends.val (ExtOk.of rfl) rfl ?_ ?_⟩)
    · rw [chooseR_no hn]
    · exact (by repeat (first | exact trivial | refine ⟨at_dat rfl, ?_⟩))
end Go.Proofs.Ytfkfiafohcoomaa
end
section
namespace Go.Proofs.Ytfkfiafohcoomaa
open Go Go.Sy
abbrev rowP (n : Nat) (d : Array (Int × Int)) : VO := arr false n 2 25 plV d
theorem recP : RecOf plV 2 := ⟨fun _ => rfl, fun a v hv => by
  simp only [plV, List.mem_cons, List.not_mem_nil, or_false] at hv
  rcases hv with rfl | rfl <;> rfl⟩
def ltP (x y : Int × Int) : Bool := decide (ordP y x < 0)
abbrev cmpF : SV := .fn (.func 31) [] []
theorem swp_size {A : Type} [Inhabited A] (d : Array A) (i j : Nat) : (Sort.swp d i j).size = d.size := by simp [Sort.swp]
set_option maxRecDepth 100000 in
theorem cmp_spec (a b : Int × Int) : Ctr Try.prog 31 [plS a, plS b] [] (fun c => c = ⟨.sc (.int .i64 (ordP b a)), []⟩) := by
  refine Fnc.start Try.func31 rfl rfl ?_
  (repeat (first | (first | refine y_seq ?_ | refine w_region ?_ | refine y_regEnd ?_ | refine w_assign rfl rfl rfl ?_ | refine w_loadBN rfl rfl rfl (F.ag _ rfl) rfl rfl ?_ | refine w_boxN rfl rfl rfl ?_) | refine w_callV (order_spec b a) [] rfl rfl rfl (by kernel_rfl) rfl (ExtOk.of rfl) rfl trivial ?_))
  (apply w_ret Try.func31 (congrArg Array.toList Try.results31); (focus (repeat (first | exact ResIs.nil | apply ResIs.tmp rfl))))
  (refine ⟨_, rfl, Ends.val (ExtOk.of rfl) rfl ?_ ?_⟩)
  · rfl
  · trivial
set_option maxRecDepth 100000 in
set_option maxHeartbeats 0 in
theorem ins_spec (n a b : Nat) (d : Array (Int × Int)) (hn : n < 4611686018427387904) (hd : d.size = n) (hab : a ≤ b) (hb : b ≤ n) :
    Ctr Try.prog 53 [.slu 0 0 n, .sc (.int .i64 (a : Int)), .sc (.int .i64 (b : Int)), cmpF] [rowP n d] (fun c => c = ⟨.tup [], [some (rowP n (Sort.insertionSort ltP d a b))]⟩) := by
  refine Fnc.start Try.func53 rfl rfl ?_
  (repeat (first | refine y_seq ?_ | refine w_region ?_ | refine y_regEnd ?_ | refine y_block ?_ | refine w_move rfl rfl rfl ?_ | refine w_assign rfl rfl rfl ?_ | refine w_add rfl rfl rfl rfl (by omega) (by omega) ?_))
  refine y_loopC 1 (fun s : Nat × Array (Int × Int) => [(0, .slu 0 0 n), (1, .sc (.int .i64 (a : Int))), (2, .sc (.int .i64 (b : Int))), (3, cmpF), (8, .sc (.int .i64 (s.1 : Int)))]) (fun s => [some (rowP n s.2)]) (fun s => s.1 ≤ n + 1 ∧ a < s.1 ∧ s.2.size = n ∧ Sort.insOuter ltP a b s.1 s.2 = Sort.insertionSort ltP d a b) (fun s => n + 1 - s.1) (a + 1, d) []
    (fun _ => rfl) ⟨by omega, by omega, hd, rfl⟩ ?_ (fun _ => rfl) (fun _ => rfl) ?_
  · (refine ⟨(ExtOk.of rfl), rfl, (by repeat (first | exact trivial | refine ⟨rfl, ?_⟩)), (by repeat (first | exact trivial | refine ⟨at_dat rfl, ?_⟩))⟩)
  rintro ⟨i, d1⟩ ⟨hi, hai, hd1, ho⟩ ih
  simp only at hi hai hd1 ho ih ⊢
  (repeat (first | refine y_seq ?_ | refine w_region ?_ | refine w_move rfl rfl rfl ?_))
  refine w_lssS rfl rfl rfl rfl ?_ ?_
  all_goals intro h1
  · (repeat (first | refine y_seq ?_ | refine w_region ?_ | refine y_regEnd ?_ | refine y_block ?_ | refine y_skip ?_ | refine y_condT rfl ?_ | refine w_move rfl rfl rfl ?_ | refine w_assign rfl rfl rfl ?_))
    have ho2 : Sort.insOuter ltP a b (i + 1) (Sort.insInner ltP a i d1) = Sort.insertionSort ltP d a b := by
      rw [← ho]
      conv => rhs; rw [Sort.insOuter, if_pos (by omega)]
    refine y_loopC 1 (fun s : Nat × Array (Int × Int) => [(0, .slu 0 0 n), (1, .sc (.int .i64 (a : Int))), (2, .sc (.int .i64 (b : Int))), (3, cmpF), (8, .sc (.int .i64 (i : Int))), (9, .sc (.int .i64 (s.1 : Int)))]) (fun s => [some (rowP n s.2)]) (fun s => s.1 ≤ i ∧ s.2.size = n ∧ Sort.insInner ltP a s.1 s.2 = Sort.insInner ltP a i d1) (fun s => s.1) (i, d1) []
      (fun _ => rfl) ⟨by omega, hd1, rfl⟩ ?_ (fun _ => rfl) (fun _ => rfl) ?_
    · (refine ⟨(ExtOk.of rfl), rfl, (by repeat (first | exact trivial | refine ⟨rfl, ?_⟩)), (by repeat (first | exact trivial | refine ⟨at_dat rfl, ?_⟩))⟩)
    rintro ⟨j, d2⟩ ⟨hj, hd2, hin⟩ ihj
    simp only at hj hd2 hin ihj ⊢
    (repeat (refine y_seq ?_))
    refine w_draw (by kernel_rfl) (by kernel_rfl) ?_
    (repeat (refine dw_move rfl rfl rfl ?_))
    refine dw_gtrS rfl rfl rfl rfl ?_ ?_
    all_goals intro h2
    · obtain ⟨j, rfl⟩ : ∃ j', j = j' + 1 := ⟨j - 1, by omega⟩
      (repeat (first | refine dw_move rfl rfl rfl ?_ | refine dw_sub rfl rfl rfl rfl (by omega) (by omega) ?_ | refine dw_idxN (q := j + 1) rfl rfl rfl rfl (F.un _ rfl) (F.sz _ rfl) rfl (by omega) (by omega) (by omega) ?_ | refine dw_idxN (q := j) rfl rfl rfl rfl (F.un _ rfl) (F.sz _ rfl) rfl (by omega) (by omega) (by omega) ?_ | refine dw_ldR rfl rfl rfl (F.ag _ rfl) (recP) rfl (by first | omega | (simp only [Array.size_setIfInBounds, swp_size]; omega)) (by first | omega | (simp only [Array.size_setIfInBounds, swp_size]; omega)) ?_ | refine dk_callF rfl rfl rfl rfl (by kernel_rfl) rfl (Ctr.callV (cmp_spec d2[j + 1]! d2[j]!) [] rfl (ExtOk.of rfl) rfl trivial rfl) ?_))
      refine dw_lssS rfl rfl rfl rfl ?_ ?_
      all_goals intro h3
      · (repeat (refine dw_pickT rfl rfl rfl rfl ?_))
        (refine dk_nil ?_); (refine ⟨by kernel_rfl, ?_, ?_⟩); (focus (repeat (first | exact trivial | refine ⟨.inl rfl, ?_⟩ | refine ⟨.inr (by (repeat (refine ⟨(by first | exact rd_idxN (F.un _ rfl) (F.sz _ rfl) rfl rfl rfl (by omega) (by omega) (by omega) | exact rd_arith rfl rfl (.inl ⟨rfl, (Go.IntWalk.i64_in _ ⟨by omega, by omega⟩).symm⟩) | exact rd_arith rfl rfl (.inr (.inl ⟨rfl, (Go.IntWalk.i64_in _ ⟨by omega, by omega⟩).symm⟩)) | exact rd_fieldAddr (F.fo _ _ rfl rfl) rfl | exact rd_move rfl | exact rd_assign rfl | exact rd_load1 (F.ag _ rfl) rfl rfl (cell_box rfl) | exact rd_loadN (F.ag _ rfl) rfl rfl (cellsFrom_box _ 0 rfl rfl) | exact rd_extract rfl rfl | exact rd_lenSl (F.un _ rfl) rfl | exact rd_lenStr (F.un _ rfl) rfl | exact rd_nilCheck rfl | exact rd_pickT rfl rfl | exact rd_pickF rfl rfl), ?_⟩)); exact trivial), ?_⟩ | refine ⟨.inl (by kernel_rfl), ?_⟩)))
        (repeat (first | refine y_seq ?_ | refine y_block ?_ | refine y_skip ?_ | refine y_condT rfl ?_))
        refine w_draw (by kernel_rfl) (by kernel_rfl) ?_
        (repeat (first | refine dw_move rfl rfl rfl ?_ | refine dw_sub rfl rfl rfl rfl (by omega) (by omega) ?_ | refine dw_idxN (q := j + 1) rfl rfl rfl rfl (F.un _ rfl) (F.sz _ rfl) rfl (by omega) (by omega) (by omega) ?_ | refine dw_idxN (q := j) rfl rfl rfl rfl (F.un _ rfl) (F.sz _ rfl) rfl (by omega) (by omega) (by omega) ?_ | refine dw_ldR rfl rfl rfl (F.ag _ rfl) (recP) rfl (by first | omega | (simp only [Array.size_setIfInBounds, swp_size]; omega)) (by first | omega | (simp only [Array.size_setIfInBounds, swp_size]; omega)) ?_ | refine dw_stR rfl rfl rfl (recP) (F.sz _ rfl) rfl (by first | omega | (simp only [Array.size_setIfInBounds, swp_size]; omega)) (by first | omega | (simp only [Array.size_setIfInBounds, swp_size]; omega)) ?_))
        (refine dk_nil ?_); (refine ⟨by kernel_rfl, ?_, ?_⟩); (focus (repeat (first | exact trivial | refine ⟨.inl rfl, ?_⟩ | refine ⟨.inr (by (repeat (refine ⟨(by first | exact rd_idxN (F.un _ rfl) (F.sz _ rfl) rfl rfl rfl (by omega) (by omega) (by omega) | exact rd_arith rfl rfl (.inl ⟨rfl, (Go.IntWalk.i64_in _ ⟨by omega, by omega⟩).symm⟩) | exact rd_arith rfl rfl (.inr (.inl ⟨rfl, (Go.IntWalk.i64_in _ ⟨by omega, by omega⟩).symm⟩)) | exact rd_fieldAddr (F.fo _ _ rfl rfl) rfl | exact rd_move rfl | exact rd_assign rfl | exact rd_load1 (F.ag _ rfl) rfl rfl (cell_box rfl) | exact rd_loadN (F.ag _ rfl) rfl rfl (cellsFrom_box _ 0 rfl rfl) | exact rd_extract rfl rfl | exact rd_lenSl (F.un _ rfl) rfl | exact rd_lenStr (F.un _ rfl) rfl | exact rd_nilCheck rfl | exact rd_pickT rfl rfl | exact rd_pickF rfl rfl), ?_⟩)); exact trivial), ?_⟩ | refine ⟨.inl (by kernel_rfl), ?_⟩)))
        (repeat (first | refine w_region ?_ | refine y_regEnd ?_ | refine y_inBlock ?_ | refine w_move rfl rfl rfl ?_ | refine w_assign rfl rfl rfl ?_ | refine w_sub rfl rfl rfl rfl (by omega) (by omega) ?_))
        refine ihj _ _ _ (j, Sort.swp d2 (j + 1) j) [] ⟨by omega, by rw [swp_size]; exact hd2, ?_⟩ (by simp only; omega) ?_
        · rw [← hin]
          conv => rhs; rw [Sort.insInner, if_pos (by simp only [ltP, Bool.and_eq_true, decide_eq_true_eq]; exact ⟨by omega, h3⟩)]
        · (refine ⟨(ExtOk.of rfl), rfl, (by repeat (first | exact trivial | refine ⟨rfl, ?_⟩ | refine ⟨sl_eq (by first | omega | (simp only; omega)), ?_⟩)), (by repeat (first | exact trivial | refine ⟨at_dat rfl, ?_⟩))⟩)
      · (repeat (refine dw_pickT rfl rfl rfl rfl ?_))
        (refine dk_nil ?_); (refine ⟨by kernel_rfl, ?_, ?_⟩); (focus (repeat (first | exact trivial | refine ⟨.inl rfl, ?_⟩ | refine ⟨.inr (by (repeat (refine ⟨(by first | exact rd_idxN (F.un _ rfl) (F.sz _ rfl) rfl rfl rfl (by omega) (by omega) (by omega) | exact rd_arith rfl rfl (.inl ⟨rfl, (Go.IntWalk.i64_in _ ⟨by omega, by omega⟩).symm⟩) | exact rd_arith rfl rfl (.inr (.inl ⟨rfl, (Go.IntWalk.i64_in _ ⟨by omega, by omega⟩).symm⟩)) | exact rd_fieldAddr (F.fo _ _ rfl rfl) rfl | exact rd_move rfl | exact rd_assign rfl | exact rd_load1 (F.ag _ rfl) rfl rfl (cell_box rfl) | exact rd_loadN (F.ag _ rfl) rfl rfl (cellsFrom_box _ 0 rfl rfl) | exact rd_extract rfl rfl | exact rd_lenSl (F.un _ rfl) rfl | exact rd_lenStr (F.un _ rfl) rfl | exact rd_nilCheck rfl | exact rd_pickT rfl rfl | exact rd_pickF rfl rfl), ?_⟩)); exact trivial), ?_⟩ | refine ⟨.inl (by kernel_rfl), ?_⟩)))
        (repeat (first | refine w_region ?_ | refine y_regEnd ?_ | refine y_inBlock ?_ | refine y_exit rfl ?_ | refine y_condF rfl ?_ | refine w_move rfl rfl rfl ?_ | refine w_assign rfl rfl rfl ?_ | refine w_add rfl rfl rfl rfl (by omega) (by omega) ?_))
        have hin2 : Sort.insInner ltP a i d1 = d2 := by
          rw [← hin, Sort.insInner, if_neg (by simp only [ltP, Bool.and_eq_true, decide_eq_true_eq]; omega)]
        refine ih _ _ _ (i + 1, d2) [] ⟨by omega, by omega, hd2, by rw [← hin2]; exact ho2⟩ (by simp only; omega) ?_
        (refine ⟨(ExtOk.of rfl), rfl, (by repeat (first | exact trivial | refine ⟨rfl, ?_⟩)), (by repeat (first | exact trivial | refine ⟨at_dat rfl, ?_⟩))⟩)
    · (repeat (first | refine dw_move rfl rfl rfl ?_ | refine dw_pickF rfl rfl rfl rfl ?_ | refine dk_skip rfl rfl ?_))
      (refine dk_nil ?_); (refine ⟨by kernel_rfl, ?_, ?_⟩); (focus (repeat (first | exact trivial | refine ⟨.inl rfl, ?_⟩)))
      (repeat (first | refine w_region ?_ | refine y_regEnd ?_ | refine y_inBlock ?_ | refine y_exit rfl ?_ | refine y_condF rfl ?_ | refine w_move rfl rfl rfl ?_ | refine w_assign rfl rfl rfl ?_ | refine w_add rfl rfl rfl rfl (by omega) (by omega) ?_))
      have hin2 : Sort.insInner ltP a i d1 = d2 := by
        rw [← hin]
        cases j with
        | zero => rfl
        | succ j => rw [Sort.insInner, if_neg (by simp only [Bool.and_eq_true, decide_eq_true_eq]; omega)]
      refine ih _ _ _ (i + 1, d2) [] ⟨by omega, by omega, hd2, by rw [← hin2]; exact ho2⟩ (by simp only; omega) ?_
      (refine ⟨(ExtOk.of rfl), rfl, (by repeat (first | exact trivial | refine ⟨rfl, ?_⟩)), (by repeat (first | exact trivial | refine ⟨at_dat rfl, ?_⟩))⟩)
  · (repeat (first | refine y_regEnd ?_ | refine y_exit rfl ?_ | refine y_condF rfl ?_))
    have ho2 : d1 = Sort.insertionSort ltP d a b := by rw [← ho, Sort.insOuter, if_neg (by omega)]
    apply w_end Try.func53 (congrArg Array.toList Try.results53)
    (focus (repeat (exact ResIs.nil)))
    refine ⟨_, rfl, Ends.mk [] (ExtOk.of rfl) rfl rfl ?_⟩
    rw [← ho2]
    exact (by repeat (first | exact trivial | refine ⟨at_dat rfl, ?_⟩))
end Go.Proofs.Ytfkfiafohcoomaa
end
section
namespace Go.Proofs.Ytfkfiafohcoomaa
open Go Go.Sy
theorem siftDown_size (lt : Int × Int → Int × Int → Bool) (hi first root : Nat) (d : Array (Int × Int)) : (Sort.siftDown lt hi first root d).size = d.size := by
  induction h : hi - root using Nat.strongRecOn generalizing root d with
  | _ m ih =>
    subst h
    unfold Sort.siftDown
    split
    · rfl
    · split
      · split
        · rfl
        · split
          · rw [ih _ (by omega) _ _ rfl, swp_size]
          · rfl
      · split
        · rfl
        · rw [ih _ (by omega) _ _ rfl, swp_size]
theorem sift_stop {lt : Int × Int → Int × Int → Bool} {hi first root : Nat} {d : Array (Int × Int)} (h : hi ≤ 2 * root + 1) : Sort.siftDown lt hi first root d = d := by
  unfold Sort.siftDown
  rw [dif_pos h]
theorem sift_r {lt : Int × Int → Int × Int → Bool} {hi first root : Nat} {d : Array (Int × Int)} (h : 2 * root + 2 < hi) (hl : lt d[first + (2 * root + 1)]! d[first + (2 * root + 2)]! = true) :
    Sort.siftDown lt hi first root d = if lt d[first + root]! d[first + (2 * root + 2)]! = true then Sort.siftDown lt hi first (2 * root + 2) (Sort.swp d (first + root) (first + (2 * root + 2))) else d := by
  conv => lhs; unfold Sort.siftDown
  rw [dif_neg (by omega), if_pos (by simp only [Bool.and_eq_true, decide_eq_true_eq]; exact ⟨by omega, hl⟩)]
  cases lt d[first + root]! d[first + (2 * root + 2)]!
  · simp
  · simp only [Bool.not_true, Bool.false_eq_true, if_false, if_true]
    rw [dif_pos (by omega)]
theorem sift_l {lt : Int × Int → Int × Int → Bool} {hi first root : Nat} {d : Array (Int × Int)} (h : 2 * root + 1 < hi) (hl : hi ≤ 2 * root + 2 ∨ lt d[first + (2 * root + 1)]! d[first + (2 * root + 2)]! = false) :
    Sort.siftDown lt hi first root d = if lt d[first + root]! d[first + (2 * root + 1)]! = true then Sort.siftDown lt hi first (2 * root + 1) (Sort.swp d (first + root) (first + (2 * root + 1))) else d := by
  conv => lhs; unfold Sort.siftDown
  rw [dif_neg (by omega), if_neg (by
    simp only [Bool.and_eq_true, decide_eq_true_eq]
    rintro ⟨h1, h2⟩
    rcases hl with hl | hl
    · omega
    · rw [show first + (2 * root + 2) = first + (2 * root + 1) + 1 by omega, h2] at hl; cases hl)]
  cases lt d[first + root]! d[first + (2 * root + 1)]! <;> simp
set_option maxRecDepth 100000 in
set_option maxHeartbeats 0 in
theorem sift_spec (n lo hi first : Nat) (d : Array (Int × Int)) (hn : n < 4611686018427387904) (hd : d.size = n) (hf : first + hi ≤ n) (hlo : lo ≤ n) :
    Ctr Try.prog 66 [.slu 0 0 n, .sc (.int .i64 (lo : Int)), .sc (.int .i64 (hi : Int)), .sc (.int .i64 (first : Int)), cmpF] [rowP n d] (fun c => c = ⟨.tup [], [some (rowP n (Sort.siftDown ltP hi first lo d))]⟩) := by
  refine Fnc.start Try.func66 rfl rfl ?_
  (repeat (first | refine y_seq ?_ | refine w_region ?_ | refine y_regEnd ?_ | refine y_block ?_ | refine w_move rfl rfl rfl ?_ | refine w_assign rfl rfl rfl ?_))
  refine y_loopC 1 (fun s : Nat × Array (Int × Int) => [(0, .slu 0 0 n), (2, .sc (.int .i64 (hi : Int))), (3, .sc (.int .i64 (first : Int))), (4, cmpF), (10, .sc (.int .i64 (s.1 : Int)))]) (fun s => [some (rowP n s.2)]) (fun s => s.1 ≤ n ∧ s.2.size = n ∧ Sort.siftDown ltP hi first s.1 s.2 = Sort.siftDown ltP hi first lo d) (fun s => n - s.1) (lo, d) []
    (fun _ => rfl) ⟨hlo, hd, rfl⟩ ?_ (fun _ => rfl) (fun _ => rfl) ?_
  · (refine ⟨(ExtOk.of rfl), rfl, (by repeat (first | exact trivial | refine ⟨rfl, ?_⟩)), (by repeat (first | exact trivial | refine ⟨at_dat rfl, ?_⟩))⟩)
  rintro ⟨r, d1⟩ ⟨hr, hd1, ho⟩ ih
  simp only at hr hd1 ho ih ⊢
  (repeat (first | refine y_seq ?_ | refine w_region ?_ | refine y_regEnd ?_ | refine y_block ?_ | refine w_move rfl rfl rfl ?_ | refine w_assign rfl rfl rfl ?_ | refine w_add rfl rfl rfl rfl (by omega) (by omega) ?_ | refine w_mul rfl rfl rfl rfl (by omega) (by omega) ?_))
  refine w_geqS rfl rfl rfl rfl ?_ ?_
  all_goals intro h1
  · (repeat (first | refine y_regEnd ?_ | refine y_exit rfl ?_ | refine y_condT rfl ?_))
    ((apply w_end Try.func66 (congrArg Array.toList Try.results66)); (focus (repeat (exact ResIs.nil))); refine ⟨_, rfl, Ends.mk [] (ExtOk.of rfl) rfl rfl ?_⟩)
    rw [← ho, sift_stop (by omega)]
    exact (by repeat (first | exact trivial | refine ⟨at_dat rfl, ?_⟩))
  · (repeat (first | refine y_seq ?_ | refine y_regEnd ?_ | refine y_skip ?_ | refine y_condF rfl ?_))
    refine w_draw (by kernel_rfl) (by kernel_rfl) ?_
    (repeat (first | refine dw_move rfl rfl rfl ?_ | refine dw_add rfl rfl rfl rfl (by omega) (by omega) ?_))
    refine dw_lssS rfl rfl rfl rfl ?_ ?_
    all_goals intro h2
    · (repeat (first | refine dw_move rfl rfl rfl ?_ | refine dw_add rfl rfl rfl rfl (by omega) (by omega) ?_ | refine dw_ldR rfl rfl rfl (F.ag _ rfl) (recP) rfl (by first | omega | (simp only [Array.size_setIfInBounds, swp_size]; omega)) (by first | omega | (simp only [Array.size_setIfInBounds, swp_size]; omega)) ?_ | refine dw_idxN (q := first + (2 * r + 1)) rfl rfl rfl rfl (F.un _ rfl) (F.sz _ rfl) rfl (by omega) (by omega) (by omega) ?_ | refine dw_idxN (q := first + (2 * r + 2)) rfl rfl rfl rfl (F.un _ rfl) (F.sz _ rfl) rfl (by omega) (by omega) (by omega) ?_ | refine dk_callF rfl rfl rfl rfl (by kernel_rfl) rfl (Ctr.callV (cmp_spec d1[first + (2 * r + 1)]! d1[first + (2 * r + 2)]!) [] rfl (ExtOk.of rfl) rfl trivial rfl) ?_))
      refine dw_lssS rfl rfl rfl rfl ?_ ?_
      all_goals intro h3
      · have e := sift_r (lt := ltP) (hi := hi) (first := first) (root := r) (d := d1) (by omega) (by simpa [ltP] using h3)
        (repeat (refine dw_pickT rfl rfl rfl rfl ?_))
        (refine dk_nil ?_); (refine ⟨by kernel_rfl, ?_, ?_⟩); (focus (repeat (first | exact trivial | refine ⟨.inl rfl, ?_⟩ | refine ⟨.inr (by (repeat (refine ⟨(by first | exact rd_idxN (F.un _ rfl) (F.sz _ rfl) rfl rfl rfl (by omega) (by omega) (by omega) | exact rd_arith rfl rfl (.inl ⟨rfl, (Go.IntWalk.i64_in _ ⟨by omega, by omega⟩).symm⟩) | exact rd_arith rfl rfl (.inr (.inl ⟨rfl, (Go.IntWalk.i64_in _ ⟨by omega, by omega⟩).symm⟩)) | exact rd_fieldAddr (F.fo _ _ rfl rfl) rfl | exact rd_move rfl | exact rd_assign rfl | exact rd_load1 (F.ag _ rfl) rfl rfl (cell_box rfl) | exact rd_loadN (F.ag _ rfl) rfl rfl (cellsFrom_box _ 0 rfl rfl) | exact rd_extract rfl rfl | exact rd_lenSl (F.un _ rfl) rfl | exact rd_lenStr (F.un _ rfl) rfl | exact rd_nilCheck rfl | exact rd_pickT rfl rfl | exact rd_pickF rfl rfl), ?_⟩)); exact trivial), ?_⟩ | refine ⟨.inl (by kernel_rfl), ?_⟩)))
        (repeat (first | refine y_seq ?_ | refine w_region ?_ | refine y_regEnd ?_ | refine y_condT rfl ?_ | refine w_move rfl rfl rfl ?_ | refine w_assign rfl rfl rfl ?_ | refine w_add rfl rfl rfl rfl (by omega) (by omega) ?_))
        refine w_draw (by kernel_rfl) (by kernel_rfl) ?_
        (repeat (first | refine dw_move rfl rfl rfl ?_ | refine dw_add rfl rfl rfl rfl (by omega) (by omega) ?_ | refine dw_ldR rfl rfl rfl (F.ag _ rfl) (recP) rfl (by first | omega | (simp only [Array.size_setIfInBounds, swp_size]; omega)) (by first | omega | (simp only [Array.size_setIfInBounds, swp_size]; omega)) ?_ | refine dw_idxN (q := first + r) rfl rfl rfl rfl (F.un _ rfl) (F.sz _ rfl) rfl (by omega) (by omega) (by omega) ?_ | refine dw_idxN (q := first + (2 * r + 2)) rfl rfl rfl rfl (F.un _ rfl) (F.sz _ rfl) rfl (by omega) (by omega) (by omega) ?_ | refine dk_callF rfl rfl rfl rfl (by kernel_rfl) rfl (Ctr.callV (cmp_spec d1[first + r]! d1[first + (2 * r + 2)]!) [] rfl (ExtOk.of rfl) rfl trivial rfl) ?_))
        refine dw_lssS rfl rfl rfl rfl ?_ ?_
        all_goals intro h4
        · rw [if_pos (by simpa [ltP] using h4)] at e
          (repeat (refine dw_notB rfl rfl rfl ?_))
          (refine dk_nil ?_); (refine ⟨by kernel_rfl, ?_, ?_⟩); (focus (repeat (first | exact trivial | refine ⟨.inl rfl, ?_⟩ | refine ⟨.inr (by (repeat (refine ⟨(by first | exact rd_idxN (F.un _ rfl) (F.sz _ rfl) rfl rfl rfl (by omega) (by omega) (by omega) | exact rd_arith rfl rfl (.inl ⟨rfl, (Go.IntWalk.i64_in _ ⟨by omega, by omega⟩).symm⟩) | exact rd_arith rfl rfl (.inr (.inl ⟨rfl, (Go.IntWalk.i64_in _ ⟨by omega, by omega⟩).symm⟩)) | exact rd_fieldAddr (F.fo _ _ rfl rfl) rfl | exact rd_move rfl | exact rd_assign rfl | exact rd_load1 (F.ag _ rfl) rfl rfl (cell_box rfl) | exact rd_loadN (F.ag _ rfl) rfl rfl (cellsFrom_box _ 0 rfl rfl) | exact rd_extract rfl rfl | exact rd_lenSl (F.un _ rfl) rfl | exact rd_lenStr (F.un _ rfl) rfl | exact rd_nilCheck rfl | exact rd_pickT rfl rfl | exact rd_pickF rfl rfl), ?_⟩)); exact trivial), ?_⟩ | refine ⟨.inl (by kernel_rfl), ?_⟩)))
          (repeat (first | refine y_seq ?_ | refine y_skip ?_ | refine y_condF rfl ?_))
          refine w_draw (by kernel_rfl) (by kernel_rfl) ?_
          (repeat (first | refine dw_move rfl rfl rfl ?_ | refine dw_add rfl rfl rfl rfl (by omega) (by omega) ?_ | refine dw_ldR rfl rfl rfl (F.ag _ rfl) (recP) rfl (by first | omega | (simp only [Array.size_setIfInBounds, swp_size]; omega)) (by first | omega | (simp only [Array.size_setIfInBounds, swp_size]; omega)) ?_ | refine dw_stR rfl rfl rfl (recP) (F.sz _ rfl) rfl (by first | omega | (simp only [Array.size_setIfInBounds, swp_size]; omega)) (by first | omega | (simp only [Array.size_setIfInBounds, swp_size]; omega)) ?_ | refine dw_idxN (q := first + r) rfl rfl rfl rfl (F.un _ rfl) (F.sz _ rfl) rfl (by omega) (by omega) (by omega) ?_ | refine dw_idxN (q := first + (2 * r + 2)) rfl rfl rfl rfl (F.un _ rfl) (F.sz _ rfl) rfl (by omega) (by omega) (by omega) ?_))
          (refine dk_nil ?_); (refine ⟨by kernel_rfl, ?_, ?_⟩); (focus (repeat (first | exact trivial | refine ⟨.inl rfl, ?_⟩ | refine ⟨.inr (by (repeat (refine ⟨(by first | exact rd_idxN (F.un _ rfl) (F.sz _ rfl) rfl rfl rfl (by omega) (by omega) (by omega) | exact rd_arith rfl rfl (.inl ⟨rfl, (Go.IntWalk.i64_in _ ⟨by omega, by omega⟩).symm⟩) | exact rd_arith rfl rfl (.inr (.inl ⟨rfl, (Go.IntWalk.i64_in _ ⟨by omega, by omega⟩).symm⟩)) | exact rd_fieldAddr (F.fo _ _ rfl rfl) rfl | exact rd_move rfl | exact rd_assign rfl | exact rd_load1 (F.ag _ rfl) rfl rfl (cell_box rfl) | exact rd_loadN (F.ag _ rfl) rfl rfl (cellsFrom_box _ 0 rfl rfl) | exact rd_extract rfl rfl | exact rd_lenSl (F.un _ rfl) rfl | exact rd_lenStr (F.un _ rfl) rfl | exact rd_nilCheck rfl | exact rd_pickT rfl rfl | exact rd_pickF rfl rfl), ?_⟩)); exact trivial), ?_⟩ | refine ⟨.inl (by kernel_rfl), ?_⟩)))
          (repeat (first | refine w_region ?_ | refine y_regEnd ?_ | refine y_inBlock ?_ | refine w_move rfl rfl rfl ?_ | refine w_assign rfl rfl rfl ?_))
          refine ih _ _ _ (2 * r + 2, Sort.swp d1 (first + r) (first + (2 * r + 2))) [] ⟨by simp only; omega, by rw [swp_size]; exact hd1, by rw [← ho, e]⟩ (by simp only; omega) ?_
          (refine ⟨(ExtOk.of rfl), rfl, (by repeat (first | exact trivial | refine ⟨rfl, ?_⟩)), (by repeat (first | exact trivial | refine ⟨at_dat rfl, ?_⟩))⟩)
        · rw [if_neg (by simpa [ltP] using h4)] at e
          (repeat (refine dw_notB rfl rfl rfl ?_))
          (refine dk_nil ?_); (refine ⟨by kernel_rfl, ?_, ?_⟩); (focus (repeat (first | exact trivial | refine ⟨.inl rfl, ?_⟩ | refine ⟨.inr (by (repeat (refine ⟨(by first | exact rd_idxN (F.un _ rfl) (F.sz _ rfl) rfl rfl rfl (by omega) (by omega) (by omega) | exact rd_arith rfl rfl (.inl ⟨rfl, (Go.IntWalk.i64_in _ ⟨by omega, by omega⟩).symm⟩) | exact rd_arith rfl rfl (.inr (.inl ⟨rfl, (Go.IntWalk.i64_in _ ⟨by omega, by omega⟩).symm⟩)) | exact rd_fieldAddr (F.fo _ _ rfl rfl) rfl | exact rd_move rfl | exact rd_assign rfl | exact rd_load1 (F.ag _ rfl) rfl rfl (cell_box rfl) | exact rd_loadN (F.ag _ rfl) rfl rfl (cellsFrom_box _ 0 rfl rfl) | exact rd_extract rfl rfl | exact rd_lenSl (F.un _ rfl) rfl | exact rd_lenStr (F.un _ rfl) rfl | exact rd_nilCheck rfl | exact rd_pickT rfl rfl | exact rd_pickF rfl rfl), ?_⟩)); exact trivial), ?_⟩ | refine ⟨.inl (by kernel_rfl), ?_⟩)))
          (repeat (refine y_condT rfl ?_))
          ((apply w_ret Try.func66 (congrArg Array.toList Try.results66)); (focus (repeat (exact ResIs.nil))); refine ⟨_, rfl, Ends.mk [] (ExtOk.of rfl) rfl rfl ?_⟩)
          rw [← ho, e]
          exact (by repeat (first | exact trivial | refine ⟨at_dat rfl, ?_⟩))
      · have e := sift_l (lt := ltP) (hi := hi) (first := first) (root := r) (d := d1) (by omega) (.inr (by simpa [ltP] using h3))
        (repeat (refine dw_pickT rfl rfl rfl rfl ?_))
        (refine dk_nil ?_); (refine ⟨by kernel_rfl, ?_, ?_⟩); (focus (repeat (first | exact trivial | refine ⟨.inl rfl, ?_⟩ | refine ⟨.inr (by (repeat (refine ⟨(by first | exact rd_idxN (F.un _ rfl) (F.sz _ rfl) rfl rfl rfl (by omega) (by omega) (by omega) | exact rd_arith rfl rfl (.inl ⟨rfl, (Go.IntWalk.i64_in _ ⟨by omega, by omega⟩).symm⟩) | exact rd_arith rfl rfl (.inr (.inl ⟨rfl, (Go.IntWalk.i64_in _ ⟨by omega, by omega⟩).symm⟩)) | exact rd_fieldAddr (F.fo _ _ rfl rfl) rfl | exact rd_move rfl | exact rd_assign rfl | exact rd_load1 (F.ag _ rfl) rfl rfl (cell_box rfl) | exact rd_loadN (F.ag _ rfl) rfl rfl (cellsFrom_box _ 0 rfl rfl) | exact rd_extract rfl rfl | exact rd_lenSl (F.un _ rfl) rfl | exact rd_lenStr (F.un _ rfl) rfl | exact rd_nilCheck rfl | exact rd_pickT rfl rfl | exact rd_pickF rfl rfl), ?_⟩)); exact trivial), ?_⟩ | refine ⟨.inl (by kernel_rfl), ?_⟩)))
        (repeat (first | refine y_seq ?_ | refine y_skip ?_ | refine y_condF rfl ?_))
        refine w_draw (by kernel_rfl) (by kernel_rfl) ?_
        (repeat (first | refine dw_move rfl rfl rfl ?_ | refine dw_add rfl rfl rfl rfl (by omega) (by omega) ?_ | refine dw_ldR rfl rfl rfl (F.ag _ rfl) (recP) rfl (by first | omega | (simp only [Array.size_setIfInBounds, swp_size]; omega)) (by first | omega | (simp only [Array.size_setIfInBounds, swp_size]; omega)) ?_ | refine dw_idxN (q := first + r) rfl rfl rfl rfl (F.un _ rfl) (F.sz _ rfl) rfl (by omega) (by omega) (by omega) ?_ | refine dw_idxN (q := first + (2 * r + 1)) rfl rfl rfl rfl (F.un _ rfl) (F.sz _ rfl) rfl (by omega) (by omega) (by omega) ?_ | refine dk_callF rfl rfl rfl rfl (by kernel_rfl) rfl (Ctr.callV (cmp_spec d1[first + r]! d1[first + (2 * r + 1)]!) [] rfl (ExtOk.of rfl) rfl trivial rfl) ?_))
        refine dw_lssS rfl rfl rfl rfl ?_ ?_
        all_goals intro h4
        · rw [if_pos (by simpa [ltP] using h4)] at e
          (repeat (refine dw_notB rfl rfl rfl ?_))
          (refine dk_nil ?_); (refine ⟨by kernel_rfl, ?_, ?_⟩); (focus (repeat (first | exact trivial | refine ⟨.inl rfl, ?_⟩ | refine ⟨.inr (by (repeat (refine ⟨(by first | exact rd_idxN (F.un _ rfl) (F.sz _ rfl) rfl rfl rfl (by omega) (by omega) (by omega) | exact rd_arith rfl rfl (.inl ⟨rfl, (Go.IntWalk.i64_in _ ⟨by omega, by omega⟩).symm⟩) | exact rd_arith rfl rfl (.inr (.inl ⟨rfl, (Go.IntWalk.i64_in _ ⟨by omega, by omega⟩).symm⟩)) | exact rd_fieldAddr (F.fo _ _ rfl rfl) rfl | exact rd_move rfl | exact rd_assign rfl | exact rd_load1 (F.ag _ rfl) rfl rfl (cell_box rfl) | exact rd_loadN (F.ag _ rfl) rfl rfl (cellsFrom_box _ 0 rfl rfl) | exact rd_extract rfl rfl | exact rd_lenSl (F.un _ rfl) rfl | exact rd_lenStr (F.un _ rfl) rfl | exact rd_nilCheck rfl | exact rd_pickT rfl rfl | exact rd_pickF rfl rfl), ?_⟩)); exact trivial), ?_⟩ | refine ⟨.inl (by kernel_rfl), ?_⟩)))
          (repeat (first | refine y_seq ?_ | refine y_skip ?_ | refine y_condF rfl ?_))
          refine w_draw (by kernel_rfl) (by kernel_rfl) ?_
          (repeat (first | refine dw_move rfl rfl rfl ?_ | refine dw_add rfl rfl rfl rfl (by omega) (by omega) ?_ | refine dw_ldR rfl rfl rfl (F.ag _ rfl) (recP) rfl (by first | omega | (simp only [Array.size_setIfInBounds, swp_size]; omega)) (by first | omega | (simp only [Array.size_setIfInBounds, swp_size]; omega)) ?_ | refine dw_stR rfl rfl rfl (recP) (F.sz _ rfl) rfl (by first | omega | (simp only [Array.size_setIfInBounds, swp_size]; omega)) (by first | omega | (simp only [Array.size_setIfInBounds, swp_size]; omega)) ?_ | refine dw_idxN (q := first + r) rfl rfl rfl rfl (F.un _ rfl) (F.sz _ rfl) rfl (by omega) (by omega) (by omega) ?_ | refine dw_idxN (q := first + (2 * r + 1)) rfl rfl rfl rfl (F.un _ rfl) (F.sz _ rfl) rfl (by omega) (by omega) (by omega) ?_))
          (refine dk_nil ?_); (refine ⟨by kernel_rfl, ?_, ?_⟩); (focus (repeat (first | exact trivial | refine ⟨.inl rfl, ?_⟩ | refine ⟨.inr (by (repeat (refine ⟨(by first | exact rd_idxN (F.un _ rfl) (F.sz _ rfl) rfl rfl rfl (by omega) (by omega) (by omega) | exact rd_arith rfl rfl (.inl ⟨rfl, (Go.IntWalk.i64_in _ ⟨by omega, by omega⟩).symm⟩) | exact rd_arith rfl rfl (.inr (.inl ⟨rfl, (Go.IntWalk.i64_in _ ⟨by omega, by omega⟩).symm⟩)) | exact rd_fieldAddr (F.fo _ _ rfl rfl) rfl | exact rd_move rfl | exact rd_assign rfl | exact rd_load1 (F.ag _ rfl) rfl rfl (cell_box rfl) | exact rd_loadN (F.ag _ rfl) rfl rfl (cellsFrom_box _ 0 rfl rfl) | exact rd_extract rfl rfl | exact rd_lenSl (F.un _ rfl) rfl | exact rd_lenStr (F.un _ rfl) rfl | exact rd_nilCheck rfl | exact rd_pickT rfl rfl | exact rd_pickF rfl rfl), ?_⟩)); exact trivial), ?_⟩ | refine ⟨.inl (by kernel_rfl), ?_⟩)))
          (repeat (first | refine w_region ?_ | refine y_regEnd ?_ | refine y_inBlock ?_ | refine w_move rfl rfl rfl ?_ | refine w_assign rfl rfl rfl ?_))
          refine ih _ _ _ (2 * r + 1, Sort.swp d1 (first + r) (first + (2 * r + 1))) [] ⟨by simp only; omega, by rw [swp_size]; exact hd1, by rw [← ho, e]⟩ (by simp only; omega) ?_
          (refine ⟨(ExtOk.of rfl), rfl, (by repeat (first | exact trivial | refine ⟨rfl, ?_⟩)), (by repeat (first | exact trivial | refine ⟨at_dat rfl, ?_⟩))⟩)
        · rw [if_neg (by simpa [ltP] using h4)] at e
          (repeat (refine dw_notB rfl rfl rfl ?_))
          (refine dk_nil ?_); (refine ⟨by kernel_rfl, ?_, ?_⟩); (focus (repeat (first | exact trivial | refine ⟨.inl rfl, ?_⟩ | refine ⟨.inr (by (repeat (refine ⟨(by first | exact rd_idxN (F.un _ rfl) (F.sz _ rfl) rfl rfl rfl (by omega) (by omega) (by omega) | exact rd_arith rfl rfl (.inl ⟨rfl, (Go.IntWalk.i64_in _ ⟨by omega, by omega⟩).symm⟩) | exact rd_arith rfl rfl (.inr (.inl ⟨rfl, (Go.IntWalk.i64_in _ ⟨by omega, by omega⟩).symm⟩)) | exact rd_fieldAddr (F.fo _ _ rfl rfl) rfl | exact rd_move rfl | exact rd_assign rfl | exact rd_load1 (F.ag _ rfl) rfl rfl (cell_box rfl) | exact rd_loadN (F.ag _ rfl) rfl rfl (cellsFrom_box _ 0 rfl rfl) | exact rd_extract rfl rfl | exact rd_lenSl (F.un _ rfl) rfl | exact rd_lenStr (F.un _ rfl) rfl | exact rd_nilCheck rfl | exact rd_pickT rfl rfl | exact rd_pickF rfl rfl), ?_⟩)); exact trivial), ?_⟩ | refine ⟨.inl (by kernel_rfl), ?_⟩)))
          (repeat (refine y_condT rfl ?_))
          ((apply w_ret Try.func66 (congrArg Array.toList Try.results66)); (focus (repeat (exact ResIs.nil))); refine ⟨_, rfl, Ends.mk [] (ExtOk.of rfl) rfl rfl ?_⟩)
          rw [← ho, e]
          exact (by repeat (first | exact trivial | refine ⟨at_dat rfl, ?_⟩))
    · have e := sift_l (lt := ltP) (hi := hi) (first := first) (root := r) (d := d1) (by omega) (.inl (by omega))
      (repeat (first | refine dw_move rfl rfl rfl ?_ | refine dw_pickF rfl rfl rfl rfl ?_ | refine dk_skip rfl rfl ?_))
      (refine dk_nil ?_); (refine ⟨by kernel_rfl, ?_, ?_⟩); (focus (repeat (first | exact trivial | refine ⟨.inl rfl, ?_⟩)))
      (repeat (first | refine y_seq ?_ | refine y_skip ?_ | refine y_condF rfl ?_))
      refine w_draw (by kernel_rfl) (by kernel_rfl) ?_
      (repeat (first | refine dw_move rfl rfl rfl ?_ | refine dw_add rfl rfl rfl rfl (by omega) (by omega) ?_ | refine dw_ldR rfl rfl rfl (F.ag _ rfl) (recP) rfl (by first | omega | (simp only [Array.size_setIfInBounds, swp_size]; omega)) (by first | omega | (simp only [Array.size_setIfInBounds, swp_size]; omega)) ?_ | refine dw_idxN (q := first + r) rfl rfl rfl rfl (F.un _ rfl) (F.sz _ rfl) rfl (by omega) (by omega) (by omega) ?_ | refine dw_idxN (q := first + (2 * r + 1)) rfl rfl rfl rfl (F.un _ rfl) (F.sz _ rfl) rfl (by omega) (by omega) (by omega) ?_ | refine dk_callF rfl rfl rfl rfl (by kernel_rfl) rfl (Ctr.callV (cmp_spec d1[first + r]! d1[first + (2 * r + 1)]!) [] rfl (ExtOk.of rfl) rfl trivial rfl) ?_))
      refine dw_lssS rfl rfl rfl rfl ?_ ?_
      all_goals intro h4
      · rw [if_pos (by simpa [ltP] using h4)] at e
        (repeat (refine dw_notB rfl rfl rfl ?_))
        (refine dk_nil ?_); (refine ⟨by kernel_rfl, ?_, ?_⟩); (focus (repeat (first | exact trivial | refine ⟨.inl rfl, ?_⟩ | refine ⟨.inr (by (repeat (refine ⟨(by first | exact rd_idxN (F.un _ rfl) (F.sz _ rfl) rfl rfl rfl (by omega) (by omega) (by omega) | exact rd_arith rfl rfl (.inl ⟨rfl, (Go.IntWalk.i64_in _ ⟨by omega, by omega⟩).symm⟩) | exact rd_arith rfl rfl (.inr (.inl ⟨rfl, (Go.IntWalk.i64_in _ ⟨by omega, by omega⟩).symm⟩)) | exact rd_fieldAddr (F.fo _ _ rfl rfl) rfl | exact rd_move rfl | exact rd_assign rfl | exact rd_load1 (F.ag _ rfl) rfl rfl (cell_box rfl) | exact rd_loadN (F.ag _ rfl) rfl rfl (cellsFrom_box _ 0 rfl rfl) | exact rd_extract rfl rfl | exact rd_lenSl (F.un _ rfl) rfl | exact rd_lenStr (F.un _ rfl) rfl | exact rd_nilCheck rfl | exact rd_pickT rfl rfl | exact rd_pickF rfl rfl), ?_⟩)); exact trivial), ?_⟩ | refine ⟨.inl (by kernel_rfl), ?_⟩)))
        (repeat (first | refine y_seq ?_ | refine y_skip ?_ | refine y_condF rfl ?_))
        refine w_draw (by kernel_rfl) (by kernel_rfl) ?_
        (repeat (first | refine dw_move rfl rfl rfl ?_ | refine dw_add rfl rfl rfl rfl (by omega) (by omega) ?_ | refine dw_ldR rfl rfl rfl (F.ag _ rfl) (recP) rfl (by first | omega | (simp only [Array.size_setIfInBounds, swp_size]; omega)) (by first | omega | (simp only [Array.size_setIfInBounds, swp_size]; omega)) ?_ | refine dw_stR rfl rfl rfl (recP) (F.sz _ rfl) rfl (by first | omega | (simp only [Array.size_setIfInBounds, swp_size]; omega)) (by first | omega | (simp only [Array.size_setIfInBounds, swp_size]; omega)) ?_ | refine dw_idxN (q := first + r) rfl rfl rfl rfl (F.un _ rfl) (F.sz _ rfl) rfl (by omega) (by omega) (by omega) ?_ | refine dw_idxN (q := first + (2 * r + 1)) rfl rfl rfl rfl (F.un _ rfl) (F.sz _ rfl) rfl (by omega) (by omega) (by omega) ?_))
        (refine dk_nil ?_); (refine ⟨by kernel_rfl, ?_, ?_⟩); (focus (repeat (first | exact trivial | refine ⟨.inl rfl, ?_⟩ | refine ⟨.inr (by (repeat (refine ⟨(by first | exact rd_idxN (F.un _ rfl) (F.sz _ rfl) rfl rfl rfl (by omega) (by omega) (by omega) | exact rd_arith rfl rfl (.inl ⟨rfl, (Go.IntWalk.i64_in _ ⟨by omega, by omega⟩).symm⟩) | exact rd_arith rfl rfl (.inr (.inl ⟨rfl, (Go.IntWalk.i64_in _ ⟨by omega, by omega⟩).symm⟩)) | exact rd_fieldAddr (F.fo _ _ rfl rfl) rfl | exact rd_move rfl | exact rd_assign rfl | exact rd_load1 (F.ag _ rfl) rfl rfl (cell_box rfl) | exact rd_loadN (F.ag _ rfl) rfl rfl (cellsFrom_box _ 0 rfl rfl) | exact rd_extract rfl rfl | exact rd_lenSl (F.un _ rfl) rfl | exact rd_lenStr (F.un _ rfl) rfl | exact rd_nilCheck rfl | exact rd_pickT rfl rfl | exact rd_pickF rfl rfl), ?_⟩)); exact trivial), ?_⟩ | refine ⟨.inl (by kernel_rfl), ?_⟩)))
        (repeat (first | refine w_region ?_ | refine y_regEnd ?_ | refine y_inBlock ?_ | refine w_move rfl rfl rfl ?_ | refine w_assign rfl rfl rfl ?_))
        refine ih _ _ _ (2 * r + 1, Sort.swp d1 (first + r) (first + (2 * r + 1))) [] ⟨by simp only; omega, by rw [swp_size]; exact hd1, by rw [← ho, e]⟩ (by simp only; omega) ?_
        (refine ⟨(ExtOk.of rfl), rfl, (by repeat (first | exact trivial | refine ⟨rfl, ?_⟩)), (by repeat (first | exact trivial | refine ⟨at_dat rfl, ?_⟩))⟩)
      · rw [if_neg (by simpa [ltP] using h4)] at e
        (repeat (refine dw_notB rfl rfl rfl ?_))
        (refine dk_nil ?_); (refine ⟨by kernel_rfl, ?_, ?_⟩); (focus (repeat (first | exact trivial | refine ⟨.inl rfl, ?_⟩ | refine ⟨.inr (by (repeat (refine ⟨(by first | exact rd_idxN (F.un _ rfl) (F.sz _ rfl) rfl rfl rfl (by omega) (by omega) (by omega) | exact rd_arith rfl rfl (.inl ⟨rfl, (Go.IntWalk.i64_in _ ⟨by omega, by omega⟩).symm⟩) | exact rd_arith rfl rfl (.inr (.inl ⟨rfl, (Go.IntWalk.i64_in _ ⟨by omega, by omega⟩).symm⟩)) | exact rd_fieldAddr (F.fo _ _ rfl rfl) rfl | exact rd_move rfl | exact rd_assign rfl | exact rd_load1 (F.ag _ rfl) rfl rfl (cell_box rfl) | exact rd_loadN (F.ag _ rfl) rfl rfl (cellsFrom_box _ 0 rfl rfl) | exact rd_extract rfl rfl | exact rd_lenSl (F.un _ rfl) rfl | exact rd_lenStr (F.un _ rfl) rfl | exact rd_nilCheck rfl | exact rd_pickT rfl rfl | exact rd_pickF rfl rfl), ?_⟩)); exact trivial), ?_⟩ | refine ⟨.inl (by kernel_rfl), ?_⟩)))
        (repeat (refine y_condT rfl ?_))
        ((apply w_ret Try.func66 (congrArg Array.toList Try.results66)); (focus (repeat (exact ResIs.nil))); refine ⟨_, rfl, Ends.mk [] (ExtOk.of rfl) rfl rfl ?_⟩)
        rw [← ho, e]
        exact (by repeat (first | exact trivial | refine ⟨at_dat rfl, ?_⟩))
end Go.Proofs.Ytfkfiafohcoomaa
end
section
namespace Go.Proofs.Ytfkfiafohcoomaa
open Go Go.Sy
theorem quo_half {x : Int} {m : Nat} (hx : x = (m : Int) - 1) (hm : m < 4611686018427387904) : IntKind.i64.wrap (x.tdiv 2) = (((m - 1) / 2 : Nat) : Int) := by
  subst hx
  rcases Nat.eq_zero_or_pos m with rfl | h
  · decide
  · rw [Int.tdiv_eq_ediv_of_nonneg (by omega), Go.IntWalk.i64_in _ ⟨by omega, by omega⟩]
    omega
set_option maxRecDepth 100000 in
set_option maxHeartbeats 0 in
theorem heap_spec (n a b : Nat) (d : Array (Int × Int)) (hn : n < 4611686018427387904) (hd : d.size = n) (hab : a ≤ b) (hb : b ≤ n) :
    Ctr Try.prog 54 [.slu 0 0 n, .sc (.int .i64 (a : Int)), .sc (.int .i64 (b : Int)), cmpF] [rowP n d] (fun c => c = ⟨.tup [], [some (rowP n (Sort.heapSort ltP d a b))]⟩) := by
  refine Fnc.start Try.func54 rfl rfl ?_
  (repeat (first | refine y_seq ?_ | refine w_region ?_ | refine y_regEnd ?_ | refine w_move rfl rfl rfl ?_ | refine w_assign rfl rfl rfl ?_ | refine w_sub rfl rfl rfl rfl (by omega) (by omega) ?_))
  refine w_quoC rfl rfl rfl rfl (by decide) (show _ = (((b - a - 1) / 2 : Nat) : Int) from quo_half (m := b - a) (by omega) (by omega)) ?_
  (repeat (first | refine y_regEnd ?_ | refine y_block ?_ | refine w_assign rfl rfl rfl ?_))
  refine y_loopC 1 (fun s : Nat × Array (Int × Int) => [(0, .slu 0 0 n), (3, cmpF), (8, .sc (.int .i64 (a : Int))), (9, .sc (.int .i64 0)), (10, .sc (.int .i64 ((b - a : Nat) : Int))), (11, .sc (.int .i64 ((s.1 : Int) - 1)))]) (fun s => [some (rowP n s.2)]) (fun s => s.1 ≤ (b - a - 1) / 2 + 1 ∧ s.2.size = n ∧ Sort.heapBuild ltP (b - a) a s.1 s.2 = Sort.heapBuild ltP (b - a) a ((b - a - 1) / 2 + 1) d) (fun s => s.1) ((b - a - 1) / 2 + 1, d) []
    (fun _ => rfl) ⟨Nat.le_refl _, hd, rfl⟩ ?_ (fun _ => rfl) (fun _ => rfl) ?_
  · (refine ⟨(ExtOk.of rfl), rfl, (by repeat (first | exact trivial | refine ⟨rfl, ?_⟩ | refine ⟨sl_eq (by first | omega | (simp only; omega)), ?_⟩)), (by repeat (first | exact trivial | refine ⟨at_dat rfl, ?_⟩))⟩)
  rintro ⟨k, d1⟩ ⟨hk, hd1, ho⟩ ih
  simp only at hk hd1 ho ih ⊢
  (repeat (first | refine y_seq ?_ | refine w_region ?_ | refine w_move rfl rfl rfl ?_))
  refine w_geqS rfl rfl rfl rfl ?_ ?_
  all_goals intro h1
  · obtain ⟨k, rfl⟩ : ∃ k', k = k' + 1 := ⟨k - 1, by omega⟩
    have ek : ((k + 1 : Nat) : Int) - 1 = (k : Int) := by omega
    rw [ek]
    (repeat (first | (first | refine y_seq ?_ | refine w_region ?_ | refine y_regEnd ?_ | refine y_block ?_ | refine y_inBlock ?_ | refine y_skip ?_ | refine y_condT rfl ?_ | refine w_move rfl rfl rfl ?_ | refine w_assign rfl rfl rfl ?_ | refine w_sub rfl rfl rfl rfl (by omega) (by omega) ?_) | refine w_callFn rfl rfl rfl (by kernel_rfl) (Ctr.callD (sift_spec n k (b - a) a d1 hn hd1 (by omega) (by omega)) [0] rfl (ExtOk.of rfl) rfl (by repeat (first | exact trivial | refine ⟨at_dat rfl, ?_⟩)) rfl (by repeat (first | exact trivial | refine ⟨closed_dat, ?_⟩)) (fun _ => rfl) rfl rfl) ?_))
    refine ih _ _ _ (k, Sort.siftDown ltP (b - a) a k d1) [] ⟨by simp only; omega, by rw [siftDown_size]; exact hd1, by rw [← ho]; rfl⟩ (by simp only; omega) ?_
    (refine ⟨(ExtOk.of rfl), rfl, (by repeat (first | exact trivial | refine ⟨rfl, ?_⟩)), (by repeat (first | exact trivial | refine ⟨at_dat rfl, ?_⟩))⟩)
  · obtain rfl : k = 0 := by omega
    have ho1 : d1 = Sort.heapBuild ltP (b - a) a ((b - a - 1) / 2 + 1) d := ho
    (repeat (first | refine y_seq ?_ | refine w_region ?_ | refine y_regEnd ?_ | refine y_block ?_ | refine y_exit rfl ?_ | refine y_condF rfl ?_ | refine w_move rfl rfl rfl ?_ | refine w_assign rfl rfl rfl ?_ | refine w_sub rfl rfl rfl rfl (by omega) (by omega) ?_))
    refine y_loopC 1 (fun s : Nat × Array (Int × Int) => [(0, .slu 0 0 n), (3, cmpF), (8, .sc (.int .i64 (a : Int))), (9, .sc (.int .i64 0)), (12, .sc (.int .i64 ((s.1 : Int) - 1)))]) (fun s => [some (rowP n s.2)]) (fun s => s.1 ≤ b - a ∧ s.2.size = n ∧ Sort.heapPop ltP a s.1 s.2 = Sort.heapSort ltP d a b) (fun s => s.1) (b - a, d1) []
      (fun _ => rfl) ⟨Nat.le_refl _, hd1, by rw [ho1]; rfl⟩ ?_ (fun _ => rfl) (fun _ => rfl) ?_
    · (refine ⟨(ExtOk.of rfl), rfl, (by repeat (first | exact trivial | refine ⟨rfl, ?_⟩)), (by repeat (first | exact trivial | refine ⟨at_dat rfl, ?_⟩))⟩)
    rintro ⟨m, d2⟩ ⟨hm, hd2, hp⟩ ihm
    simp only at hm hd2 hp ihm ⊢
    (repeat (first | refine y_seq ?_ | refine w_region ?_ | refine w_move rfl rfl rfl ?_))
    refine w_geqS rfl rfl rfl rfl ?_ ?_
    all_goals intro h2
    · obtain ⟨m, rfl⟩ : ∃ m', m = m' + 1 := ⟨m - 1, by omega⟩
      have em : ((m + 1 : Nat) : Int) - 1 = (m : Int) := by omega
      rw [em]
      (repeat (first | refine y_seq ?_ | refine y_regEnd ?_ | refine y_block ?_ | refine y_skip ?_ | refine y_condT rfl ?_))
      refine w_draw (by kernel_rfl) (by kernel_rfl) ?_
      (repeat (first | refine dw_move rfl rfl rfl ?_ | refine dw_add rfl rfl rfl rfl (by omega) (by omega) ?_ | refine dw_ldR rfl rfl rfl (F.ag _ rfl) (recP) rfl (by first | omega | (simp only [Array.size_setIfInBounds, swp_size]; omega)) (by first | omega | (simp only [Array.size_setIfInBounds, swp_size]; omega)) ?_ | refine dw_stR rfl rfl rfl (recP) (F.sz _ rfl) rfl (by first | omega | (simp only [Array.size_setIfInBounds, swp_size]; omega)) (by first | omega | (simp only [Array.size_setIfInBounds, swp_size]; omega)) ?_ | refine dw_idxN (q := a) rfl rfl rfl rfl (F.un _ rfl) (F.sz _ rfl) rfl (by omega) (by omega) (by omega) ?_ | refine dw_idxN (q := a + m) rfl rfl rfl rfl (F.un _ rfl) (F.sz _ rfl) rfl (by omega) (by omega) (by omega) ?_))
      (refine dk_nil ?_); (refine ⟨by kernel_rfl, ?_, ?_⟩); (focus (repeat (first | exact trivial | refine ⟨.inl rfl, ?_⟩ | refine ⟨.inr (by (repeat (refine ⟨(by first | exact rd_idxN (F.un _ rfl) (F.sz _ rfl) rfl rfl rfl (by omega) (by omega) (by omega) | exact rd_arith rfl rfl (.inl ⟨rfl, (Go.IntWalk.i64_in _ ⟨by omega, by omega⟩).symm⟩) | exact rd_arith rfl rfl (.inr (.inl ⟨rfl, (Go.IntWalk.i64_in _ ⟨by omega, by omega⟩).symm⟩)) | exact rd_fieldAddr (F.fo _ _ rfl rfl) rfl | exact rd_move rfl | exact rd_assign rfl | exact rd_load1 (F.ag _ rfl) rfl rfl (cell_box rfl) | exact rd_loadN (F.ag _ rfl) rfl rfl (cellsFrom_box _ 0 rfl rfl) | exact rd_extract rfl rfl | exact rd_lenSl (F.un _ rfl) rfl | exact rd_lenStr (F.un _ rfl) rfl | exact rd_nilCheck rfl | exact rd_pickT rfl rfl | exact rd_pickF rfl rfl), ?_⟩)); exact trivial), ?_⟩ | refine ⟨.inl (by kernel_rfl), ?_⟩)))
      (repeat (first | (first | refine w_region ?_ | refine y_regEnd ?_ | refine y_inBlock ?_ | refine w_move rfl rfl rfl ?_ | refine w_assign rfl rfl rfl ?_ | refine w_sub rfl rfl rfl rfl (by omega) (by omega) ?_) | refine w_callFn rfl rfl rfl (by kernel_rfl) (Ctr.callD (sift_spec n 0 m a (Sort.swp d2 a (a + m)) hn (by rw [swp_size]; exact hd2) (by omega) (by omega)) [0] rfl (ExtOk.of rfl) rfl (by repeat (first | exact trivial | refine ⟨at_dat rfl, ?_⟩)) rfl (by repeat (first | exact trivial | refine ⟨closed_dat, ?_⟩)) (fun _ => rfl) rfl rfl) ?_))
      refine ihm _ _ _ (m, Sort.siftDown ltP m a 0 (Sort.swp d2 a (a + m))) [] ⟨by simp only; omega, by rw [siftDown_size, swp_size]; exact hd2, by rw [← hp]; rfl⟩ (by simp only; omega) ?_
      (refine ⟨(ExtOk.of rfl), rfl, (by repeat (first | exact trivial | refine ⟨rfl, ?_⟩)), (by repeat (first | exact trivial | refine ⟨at_dat rfl, ?_⟩))⟩)
    · obtain rfl : m = 0 := by omega
      (repeat (first | refine y_regEnd ?_ | refine y_exit rfl ?_ | refine y_condF rfl ?_))
      ((apply w_end Try.func54 (congrArg Array.toList Try.results54)); (focus (repeat (exact ResIs.nil))); refine ⟨_, rfl, Ends.mk [] (ExtOk.of rfl) rfl rfl ?_⟩)
      rw [← hp]
      exact (by repeat (first | exact trivial | refine ⟨at_dat rfl, ?_⟩))
end Go.Proofs.Ytfkfiafohcoomaa
end
section
namespace Go.Proofs.Ytfkfiafohcoomaa
open Go Go.Sy
set_option maxRecDepth 100000 in
set_option maxHeartbeats 0 in
theorem rev_spec (n a b : Nat) (d : Array (Int × Int)) (hn : n < 4611686018427387904) (hd : d.size = n) (hab : a < b) (hb : b ≤ n) :
    Ctr Try.prog 57 [.slu 0 0 n, .sc (.int .i64 (a : Int)), .sc (.int .i64 (b : Int)), cmpF] [rowP n d] (fun c => c = ⟨.tup [], [some (rowP n (Sort.reverseRange d a b))]⟩) := by
  refine Fnc.start Try.func57 rfl rfl ?_
  (repeat (first | refine y_seq ?_ | refine w_region ?_ | refine y_regEnd ?_ | refine y_block ?_ | refine w_move rfl rfl rfl ?_ | refine w_assign rfl rfl rfl ?_ | refine w_sub rfl rfl rfl rfl (by omega) (by omega) ?_))
  refine y_loopC 1 (fun s : (Nat × Nat) × Array (Int × Int) => [(0, .slu 0 0 n), (8, .sc (.int .i64 (s.1.1 : Int))), (9, .sc (.int .i64 (s.1.2 : Int)))]) (fun s => [some (rowP n s.2)]) (fun s => s.1.1 ≤ n ∧ s.1.2 < n ∧ s.1.1 ≤ s.1.2 + 1 ∧ s.2.size = n ∧ Sort.reverseLoop s.1.1 s.1.2 s.2 = Sort.reverseRange d a b) (fun s => s.1.2 + 1 - s.1.1) ((a, b - 1), d) []
    (fun _ => rfl) ⟨by simp only; omega, by simp only; omega, by simp only; omega, hd, rfl⟩ ?_ (fun _ => rfl) (fun _ => rfl) ?_
  · (refine ⟨(ExtOk.of rfl), rfl, (by repeat (first | exact trivial | refine ⟨rfl, ?_⟩ | refine ⟨sl_eq (by first | omega | (simp only; omega)), ?_⟩)), (by repeat (first | exact trivial | refine ⟨at_dat rfl, ?_⟩))⟩)
  rintro ⟨⟨i, j⟩, d1⟩ ⟨hi, hj, hij, hd1, ho⟩ ih
  simp only at hi hj hij hd1 ho ih ⊢
  (repeat (first | refine y_seq ?_ | refine w_region ?_ | refine w_move rfl rfl rfl ?_))
  refine w_lssS rfl rfl rfl rfl ?_ ?_
  all_goals intro h1
  · (repeat (first | refine y_seq ?_ | refine y_regEnd ?_ | refine y_block ?_ | refine y_skip ?_ | refine y_condT rfl ?_))
    refine w_draw (by kernel_rfl) (by kernel_rfl) ?_
    (repeat (first | refine dw_move rfl rfl rfl ?_ | refine dw_ldR rfl rfl rfl (F.ag _ rfl) (recP) rfl (by first | omega | (simp only [Array.size_setIfInBounds, swp_size]; omega)) (by first | omega | (simp only [Array.size_setIfInBounds, swp_size]; omega)) ?_ | refine dw_stR rfl rfl rfl (recP) (F.sz _ rfl) rfl (by first | omega | (simp only [Array.size_setIfInBounds, swp_size]; omega)) (by first | omega | (simp only [Array.size_setIfInBounds, swp_size]; omega)) ?_ | refine dw_idxN (q := i) rfl rfl rfl rfl (F.un _ rfl) (F.sz _ rfl) rfl (by omega) (by omega) (by omega) ?_ | refine dw_idxN (q := j) rfl rfl rfl rfl (F.un _ rfl) (F.sz _ rfl) rfl (by omega) (by omega) (by omega) ?_))
    (refine dk_nil ?_); (refine ⟨by kernel_rfl, ?_, ?_⟩); (focus (repeat (first | exact trivial | refine ⟨.inl rfl, ?_⟩ | refine ⟨.inr (by (repeat (refine ⟨(by first | exact rd_idxN (F.un _ rfl) (F.sz _ rfl) rfl rfl rfl (by omega) (by omega) (by omega) | exact rd_arith rfl rfl (.inl ⟨rfl, (Go.IntWalk.i64_in _ ⟨by omega, by omega⟩).symm⟩) | exact rd_arith rfl rfl (.inr (.inl ⟨rfl, (Go.IntWalk.i64_in _ ⟨by omega, by omega⟩).symm⟩)) | exact rd_fieldAddr (F.fo _ _ rfl rfl) rfl | exact rd_move rfl | exact rd_assign rfl | exact rd_load1 (F.ag _ rfl) rfl rfl (cell_box rfl) | exact rd_loadN (F.ag _ rfl) rfl rfl (cellsFrom_box _ 0 rfl rfl) | exact rd_extract rfl rfl | exact rd_lenSl (F.un _ rfl) rfl | exact rd_lenStr (F.un _ rfl) rfl | exact rd_nilCheck rfl | exact rd_pickT rfl rfl | exact rd_pickF rfl rfl), ?_⟩)); exact trivial), ?_⟩ | refine ⟨.inl (by kernel_rfl), ?_⟩)))
    (repeat (first | refine y_seq ?_ | refine w_region ?_ | refine y_regEnd ?_ | refine y_inBlock ?_ | refine w_move rfl rfl rfl ?_ | refine w_assign rfl rfl rfl ?_ | refine w_add rfl rfl rfl rfl (by omega) (by omega) ?_ | refine w_sub rfl rfl rfl rfl (by omega) (by omega) ?_))
    refine ih _ _ _ ((i + 1, j - 1), Sort.swp d1 i j) [] ⟨by simp only; omega, by simp only; omega, by simp only; omega, by rw [swp_size]; exact hd1, ?_⟩ (by simp only; omega) ?_
    · rw [← ho]
      conv => rhs; rw [Sort.reverseLoop, if_pos (by omega)]
    · (refine ⟨(ExtOk.of rfl), rfl, (by repeat (first | exact trivial | refine ⟨rfl, ?_⟩ | refine ⟨sl_eq (by first | omega | (simp only; omega)), ?_⟩)), (by repeat (first | exact trivial | refine ⟨at_dat rfl, ?_⟩))⟩)
  · (repeat (first | refine y_regEnd ?_ | refine y_exit rfl ?_ | refine y_condF rfl ?_))
    ((apply w_end Try.func57 (congrArg Array.toList Try.results57)); (focus (repeat (exact ResIs.nil))); refine ⟨_, rfl, Ends.mk [] (ExtOk.of rfl) rfl rfl ?_⟩)
    rw [← ho, Sort.reverseLoop, if_neg (by omega)]
    exact (by repeat (first | exact trivial | refine ⟨at_dat rfl, ?_⟩))
abbrev cntB (k : Nat) : VO := newCells 3 [.sc (.int .i64 (k : Int))]
set_option maxRecDepth 100000 in
set_option maxHeartbeats 0 in
theorem order2_spec (n a b k : Nat) (d : Array (Int × Int)) (hn : n < 4611686018427387904) (hd : d.size = n) (ha : a < n) (hb : b < n) (hk : k < 1000) :
    Ctr Try.prog 80 [.slu 0 0 n, .sc (.int .i64 (a : Int)), .sc (.int .i64 (b : Int)), .ptr 1 0, cmpF] [rowP n d, cntB k] (fun c => c = ⟨.tup [.sc (.int .i64 ((Sort.order2 ltP d a b k).1 : Int)), .sc (.int .i64 ((Sort.order2 ltP d a b k).2.1 : Int))], [some (rowP n d), some (cntB (Sort.order2 ltP d a b k).2.2)]⟩) := by
  refine Fnc.start Try.func80 rfl rfl ?_
  (repeat (first | refine y_seq ?_ | refine w_region ?_ | refine y_regEnd ?_ | refine w_assign rfl rfl rfl ?_))
  refine w_draw (by kernel_rfl) (by kernel_rfl) ?_
  (repeat (first | refine dw_move rfl rfl rfl ?_ | refine dw_ldR rfl rfl rfl (F.ag _ rfl) (recP) rfl (by first | omega | (simp only [Array.size_setIfInBounds, swp_size]; omega)) (by first | omega | (simp only [Array.size_setIfInBounds, swp_size]; omega)) ?_ | refine dw_idxN (q := a) rfl rfl rfl rfl (F.un _ rfl) (F.sz _ rfl) rfl (by omega) (by omega) (by omega) ?_ | refine dw_idxN (q := b) rfl rfl rfl rfl (F.un _ rfl) (F.sz _ rfl) rfl (by omega) (by omega) (by omega) ?_ | refine dk_callF rfl rfl rfl rfl (by kernel_rfl) rfl (Ctr.callV (cmp_spec d[b]! d[a]!) [] rfl (ExtOk.of rfl) rfl trivial rfl) ?_))
  refine dw_lssS rfl rfl rfl rfl ?_ ?_
  all_goals intro h1
  · skip
    (refine dk_nil ?_); (refine ⟨by kernel_rfl, ?_, ?_⟩); (focus (repeat (first | exact trivial | refine ⟨.inl rfl, ?_⟩ | refine ⟨.inr (by (repeat (refine ⟨(by first | exact rd_idxN (F.un _ rfl) (F.sz _ rfl) rfl rfl rfl (by omega) (by omega) (by omega) | exact rd_arith rfl rfl (.inl ⟨rfl, (Go.IntWalk.i64_in _ ⟨by omega, by omega⟩).symm⟩) | exact rd_arith rfl rfl (.inr (.inl ⟨rfl, (Go.IntWalk.i64_in _ ⟨by omega, by omega⟩).symm⟩)) | exact rd_fieldAddr (F.fo _ _ rfl rfl) rfl | exact rd_move rfl | exact rd_assign rfl | exact rd_load1 (F.ag _ rfl) rfl rfl (cell_box rfl) | exact rd_loadN (F.ag _ rfl) rfl rfl (cellsFrom_box _ 0 rfl rfl) | exact rd_extract rfl rfl | exact rd_lenSl (F.un _ rfl) rfl | exact rd_lenStr (F.un _ rfl) rfl | exact rd_nilCheck rfl | exact rd_pickT rfl rfl | exact rd_pickF rfl rfl), ?_⟩)); exact trivial), ?_⟩ | refine ⟨.inl (by kernel_rfl), ?_⟩)))
    (repeat (first | refine y_seq ?_ | refine w_region ?_ | refine y_regEnd ?_ | refine y_condT rfl ?_ | refine w_move rfl rfl rfl ?_ | refine w_assign rfl rfl rfl ?_ | refine w_nilCheck rfl rfl rfl ?_ | refine w_loadB1 rfl rfl rfl (F.ag _ rfl) rfl rfl ?_ | refine w_store1 rfl rfl rfl (F.sz _ rfl) rfl rfl rfl ?_ | refine w_add rfl rfl rfl rfl (by omega) (by omega) ?_))
    rw [show Sort.order2 ltP d a b k = (b, a, k + 1) by rw [Sort.order2, if_pos (by simpa [ltP] using h1)]]
    ((apply w_ret Try.func80 (congrArg Array.toList Try.results80)); (focus (repeat (first | exact ResIs.nil | apply ResIs.tmp rfl))); refine ⟨_, rfl, Ends.mk [] (ExtOk.of rfl) rfl rfl ?_⟩)
    exact (by repeat (first | exact trivial | refine ⟨at_dat rfl, ?_⟩ | refine ⟨at_box rfl, ?_⟩))
  · skip
    (refine dk_nil ?_); (refine ⟨by kernel_rfl, ?_, ?_⟩); (focus (repeat (first | exact trivial | refine ⟨.inl rfl, ?_⟩ | refine ⟨.inr (by (repeat (refine ⟨(by first | exact rd_idxN (F.un _ rfl) (F.sz _ rfl) rfl rfl rfl (by omega) (by omega) (by omega) | exact rd_arith rfl rfl (.inl ⟨rfl, (Go.IntWalk.i64_in _ ⟨by omega, by omega⟩).symm⟩) | exact rd_arith rfl rfl (.inr (.inl ⟨rfl, (Go.IntWalk.i64_in _ ⟨by omega, by omega⟩).symm⟩)) | exact rd_fieldAddr (F.fo _ _ rfl rfl) rfl | exact rd_move rfl | exact rd_assign rfl | exact rd_load1 (F.ag _ rfl) rfl rfl (cell_box rfl) | exact rd_loadN (F.ag _ rfl) rfl rfl (cellsFrom_box _ 0 rfl rfl) | exact rd_extract rfl rfl | exact rd_lenSl (F.un _ rfl) rfl | exact rd_lenStr (F.un _ rfl) rfl | exact rd_nilCheck rfl | exact rd_pickT rfl rfl | exact rd_pickF rfl rfl), ?_⟩)); exact trivial), ?_⟩ | refine ⟨.inl (by kernel_rfl), ?_⟩)))
    (repeat (first | refine y_seq ?_ | refine w_region ?_ | refine y_regEnd ?_ | refine y_skip ?_ | refine y_condF rfl ?_ | refine w_move rfl rfl rfl ?_ | refine w_assign rfl rfl rfl ?_))
    rw [show Sort.order2 ltP d a b k = (a, b, k) by rw [Sort.order2, if_neg (by simpa [ltP] using h1)]]
    ((apply w_ret Try.func80 (congrArg Array.toList Try.results80)); (focus (repeat (first | exact ResIs.nil | apply ResIs.tmp rfl))); refine ⟨_, rfl, Ends.mk [] (ExtOk.of rfl) rfl rfl ?_⟩)
    exact (by repeat (first | exact trivial | refine ⟨at_dat rfl, ?_⟩ | refine ⟨at_box rfl, ?_⟩))
theorem order2_lt {lt : Int × Int → Int × Int → Bool} {d : Array (Int × Int)} {a b k n : Nat} (ha : a < n) (hb : b < n) : (Sort.order2 lt d a b k).1 < n ∧ (Sort.order2 lt d a b k).2.1 < n ∧ (Sort.order2 lt d a b k).2.2 ≤ k + 1 := by
  unfold Sort.order2
  split
  · exact ⟨hb, ha, Nat.le_refl _⟩
  · exact ⟨ha, hb, Nat.le_succ _⟩
set_option maxRecDepth 100000 in
set_option maxHeartbeats 0 in
theorem median_spec (n a b c k : Nat) (d : Array (Int × Int)) (hn : n < 4611686018427387904) (hd : d.size = n) (ha : a < n) (hb : b < n) (hc : c < n) (hk : k < 900) :
    Ctr Try.prog 70 [.slu 0 0 n, .sc (.int .i64 (a : Int)), .sc (.int .i64 (b : Int)), .sc (.int .i64 (c : Int)), .ptr 1 0, cmpF] [rowP n d, cntB k] (fun r => r = ⟨.sc (.int .i64 ((Sort.median ltP d a b c k).1 : Int)), [some (rowP n d), some (cntB (Sort.median ltP d a b c k).2)]⟩) := by
  obtain ⟨q1, q2, q3⟩ := order2_lt (lt := ltP) (d := d) (k := k) ha hb
  have e1 := order2_spec n a b k d hn hd ha hb (by omega)
  unfold Sort.median
  generalize Sort.order2 ltP d a b k = r1 at q1 q2 q3 e1 ⊢
  obtain ⟨a1, b1, k1⟩ := r1
  obtain ⟨p1, p2, p3⟩ := order2_lt (lt := ltP) (d := d) (k := k1) q2 hc
  have e2 := order2_spec n b1 c k1 d hn hd q2 hc (by simp only at q3; omega)
  simp only at q1 q2 q3 p1 p2 p3 e1 e2 ⊢
  generalize Sort.order2 ltP d b1 c k1 = r2 at p1 p2 p3 e2 ⊢
  obtain ⟨b2, c2, k2⟩ := r2
  obtain ⟨o1, o2, o3⟩ := order2_lt (lt := ltP) (d := d) (k := k2) q1 p1
  have e3 := order2_spec n a1 b2 k2 d hn hd q1 p1 (by simp only at p3; omega)
  simp only at p1 p2 p3 o1 o2 o3 e2 e3 ⊢
  generalize Sort.order2 ltP d a1 b2 k2 = r3 at o1 o2 o3 e3 ⊢
  obtain ⟨a3, b3, k3⟩ := r3
  simp only at o1 o2 o3 e3 ⊢
  refine Fnc.start Try.func70 rfl rfl ?_
  (repeat (first | (first | refine y_seq ?_ | refine w_region ?_ | refine y_regEnd ?_ | refine w_move rfl rfl rfl ?_ | refine w_assign rfl rfl rfl ?_ | refine w_extract rfl rfl rfl rfl ?_) | refine w_callFn rfl rfl rfl (by kernel_rfl) (Ctr.callD (e1) [0, 1] rfl (ExtOk.of rfl) rfl (by repeat (first | exact trivial | refine ⟨at_dat rfl, ?_⟩ | refine ⟨at_box rfl, ?_⟩)) rfl (by repeat (first | exact trivial | refine ⟨closed_dat, ?_⟩ | refine ⟨closed_box (fun _ => rfl), ?_⟩)) (fun _ => rfl) rfl rfl) ?_ | refine w_callFn rfl rfl rfl (by kernel_rfl) (Ctr.callD (e2) [0, 1] rfl (ExtOk.of rfl) rfl (by repeat (first | exact trivial | refine ⟨at_dat rfl, ?_⟩ | refine ⟨at_box rfl, ?_⟩)) rfl (by repeat (first | exact trivial | refine ⟨closed_dat, ?_⟩ | refine ⟨closed_box (fun _ => rfl), ?_⟩)) (fun _ => rfl) rfl rfl) ?_ | refine w_callFn rfl rfl rfl (by kernel_rfl) (Ctr.callD (e3) [0, 1] rfl (ExtOk.of rfl) rfl (by repeat (first | exact trivial | refine ⟨at_dat rfl, ?_⟩ | refine ⟨at_box rfl, ?_⟩)) rfl (by repeat (first | exact trivial | refine ⟨closed_dat, ?_⟩ | refine ⟨closed_box (fun _ => rfl), ?_⟩)) (fun _ => rfl) rfl rfl) ?_))
  ((apply w_ret Try.func70 (congrArg Array.toList Try.results70)); (focus (repeat (first | exact ResIs.nil | apply ResIs.tmp rfl))); refine ⟨_, rfl, Ends.mk [] (ExtOk.of rfl) rfl rfl ?_⟩)
  exact (by repeat (first | exact trivial | refine ⟨at_dat rfl, ?_⟩ | refine ⟨at_box rfl, ?_⟩))
theorem median_lt {lt : Int × Int → Int × Int → Bool} {d : Array (Int × Int)} {a b c k n : Nat} (ha : a < n) (hb : b < n) (hc : c < n) : (Sort.median lt d a b c k).1 < n ∧ (Sort.median lt d a b c k).2 ≤ k + 3 := by
  obtain ⟨q1, q2, q3⟩ := order2_lt (lt := lt) (d := d) (k := k) ha hb
  obtain ⟨p1, p2, p3⟩ := order2_lt (lt := lt) (d := d) (k := (Sort.order2 lt d a b k).2.2) q2 hc
  obtain ⟨o1, o2, o3⟩ := order2_lt (lt := lt) (d := d) (k := (Sort.order2 lt d (Sort.order2 lt d a b k).2.1 c (Sort.order2 lt d a b k).2.2).2.2) q1 p1
  exact ⟨o2, by simp only [Sort.median]; omega⟩
set_option maxRecDepth 100000 in
set_option maxHeartbeats 0 in
theorem medAdj_spec (n a k : Nat) (d : Array (Int × Int)) (hn : n < 4611686018427387904) (hd : d.size = n) (ha : a + 1 < n) (h1 : 1 ≤ a) (hk : k < 900) :
    Ctr Try.prog 69 [.slu 0 0 n, .sc (.int .i64 (a : Int)), .ptr 1 0, cmpF] [rowP n d, cntB k] (fun r => r = ⟨.sc (.int .i64 ((Sort.medianAdjacent ltP d a k).1 : Int)), [some (rowP n d), some (cntB (Sort.medianAdjacent ltP d a k).2)]⟩) := by
  obtain ⟨a, rfl⟩ : ∃ a', a = a' + 1 := ⟨a - 1, by omega⟩
  have e := median_spec n a (a + 1) (a + 1 + 1) k d hn hd (by omega) (by omega) (by omega) hk
  have e0 : ((a : Nat) : Int) = ((a + 1 : Nat) : Int) - 1 := by omega
  rw [e0] at e
  refine Fnc.start Try.func69 rfl rfl ?_
  (repeat (first | (first | refine y_seq ?_ | refine w_region ?_ | refine y_regEnd ?_ | refine w_move rfl rfl rfl ?_ | refine w_assign rfl rfl rfl ?_ | refine w_add rfl rfl rfl rfl (by omega) (by omega) ?_ | refine w_sub rfl rfl rfl rfl (by omega) (by omega) ?_) | refine w_callFn rfl rfl rfl (by kernel_rfl) (Ctr.callD (e) [0, 1] rfl (ExtOk.of rfl) rfl (by repeat (first | exact trivial | refine ⟨at_dat rfl, ?_⟩ | refine ⟨at_box rfl, ?_⟩)) rfl (by repeat (first | exact trivial | refine ⟨closed_dat, ?_⟩ | refine ⟨closed_box (fun _ => rfl), ?_⟩)) (fun _ => rfl) rfl rfl) ?_))
  ((apply w_ret Try.func69 (congrArg Array.toList Try.results69)); (focus (repeat (first | exact ResIs.nil | apply ResIs.tmp rfl))); refine ⟨_, rfl, Ends.mk [] (ExtOk.of rfl) rfl rfl ?_⟩)
  exact (by repeat (first | exact trivial | refine ⟨at_dat rfl, ?_⟩ | refine ⟨at_box rfl, ?_⟩))
end Go.Proofs.Ytfkfiafohcoomaa
end
section
namespace Go.Proofs.Ytfkfiafohcoomaa
open Go Go.Sy
def hintI : Sort.Hint → Int
  | .unknown => 0
  | .increasing => 1
  | .decreasing => 2
set_option maxRecDepth 100000 in
set_option maxHeartbeats 0 in
theorem piv_spec (n a b : Nat) (d : Array (Int × Int)) (hn : n < 4611686018427387904) (hd : d.size = n) (hab : a < b) (hb : b ≤ n) :
    Ctr Try.prog 56 [.slu 0 0 n, .sc (.int .i64 (a : Int)), .sc (.int .i64 (b : Int)), cmpF] [rowP n d] (fun r => r = ⟨.tup [.sc (.int .i64 ((Sort.choosePivot ltP d a b).1 : Int)), .sc (.int .i64 (hintI (Sort.choosePivot ltP d a b).2))], [some (rowP n d)]⟩) := by
  have e1 : ((a : Int) + ((b : Int) - (a : Int)) / 4 * 1) = ((a + (b - a) / 4 * 1 : Nat) : Int) := by omega
  have e2 : ((a : Int) + ((b : Int) - (a : Int)) / 4 * 2) = ((a + (b - a) / 4 * 2 : Nat) : Int) := by omega
  have e3 : ((a : Int) + ((b : Int) - (a : Int)) / 4 * 3) = ((a + (b - a) / 4 * 3 : Nat) : Int) := by omega
  refine Fnc.start Try.func56 rfl rfl ?_
  (repeat (first | refine y_seq ?_ | refine w_region ?_ | refine y_regEnd ?_ | refine w_move rfl rfl rfl ?_ | refine w_assign rfl rfl rfl ?_ | refine w_alloc rfl rfl (F.zl _ rfl) ?_ | refine w_add rfl rfl rfl rfl (by omega) (by omega) ?_ | refine w_sub rfl rfl rfl rfl (by omega) (by omega) ?_ | refine w_mul rfl rfl rfl rfl (by omega) (by omega) ?_ | refine w_quo rfl rfl rfl rfl (by omega) (by omega) (by omega) ?_))
  rw [e1, e2, e3]
  have fin : ∀ (T : Tr SV) (H : Heap) (nx : Nat) (p k : Nat), True := fun _ _ _ _ _ => trivial
  refine w_geqS rfl rfl rfl rfl ?_ ?_
  all_goals intro h1
  · (repeat (first | refine y_seq ?_ | refine w_region ?_ | refine y_regEnd ?_ | refine y_condT rfl ?_ | refine w_move rfl rfl rfl ?_))
    refine w_geqS rfl rfl rfl rfl ?_ ?_
    all_goals intro h2
    · have m1 := medAdj_spec n (a + (b - a) / 4 * 1) 0 d hn hd (by omega) (by omega) (by omega)
      have l1 : (Sort.medianAdjacent ltP d (a + (b - a) / 4 * 1) 0).1 < n ∧ (Sort.medianAdjacent ltP d (a + (b - a) / 4 * 1) 0).2 ≤ 0 + 3 := median_lt (by omega) (by omega) (by omega)
      have ec : Sort.choosePivot ltP d a b = Sort.choosePivot ltP d a b := rfl
      conv at ec => rhs; unfold Sort.choosePivot
      simp only [show b - a ≥ 8 by omega, show b - a ≥ 50 by omega, if_true] at ec
      generalize Sort.medianAdjacent ltP d (a + (b - a) / 4 * 1) 0 = r1 at m1 l1 ec
      have m2 := medAdj_spec n (a + (b - a) / 4 * 2) r1.2 d hn hd (by omega) (by omega) (by omega)
      have l2 : (Sort.medianAdjacent ltP d (a + (b - a) / 4 * 2) r1.2).1 < n ∧ (Sort.medianAdjacent ltP d (a + (b - a) / 4 * 2) r1.2).2 ≤ r1.2 + 3 := median_lt (by omega) (by omega) (by omega)
      generalize Sort.medianAdjacent ltP d (a + (b - a) / 4 * 2) r1.2 = r2 at m2 l2 ec
      have m3 := medAdj_spec n (a + (b - a) / 4 * 3) r2.2 d hn hd (by omega) (by omega) (by omega)
      have l3 : (Sort.medianAdjacent ltP d (a + (b - a) / 4 * 3) r2.2).1 < n ∧ (Sort.medianAdjacent ltP d (a + (b - a) / 4 * 3) r2.2).2 ≤ r2.2 + 3 := median_lt (by omega) (by omega) (by omega)
      generalize Sort.medianAdjacent ltP d (a + (b - a) / 4 * 3) r2.2 = r3 at m3 l3 ec
      have m4 := median_spec n r1.1 r2.1 r3.1 r3.2 d hn hd l1.1 l2.1 l3.1 (by omega)
      generalize Sort.median ltP d r1.1 r2.1 r3.1 r3.2 = r4 at m4 ec
      rw [ec]
      obtain ⟨p, k⟩ := r4
      (repeat (first | (first | refine y_seq ?_ | refine w_region ?_ | refine y_regEnd ?_ | refine y_block ?_ | refine y_condT rfl ?_ | refine w_move rfl rfl rfl ?_ | refine w_assign rfl rfl rfl ?_ | refine w_loadB1 rfl rfl rfl (F.ag _ rfl) rfl rfl ?_) | refine w_callFn rfl rfl rfl (by kernel_rfl) (Ctr.callD (m1) [0, 1] rfl (ExtOk.of rfl) rfl (by repeat (first | exact trivial | refine ⟨at_dat rfl, ?_⟩ | refine ⟨at_box rfl, ?_⟩)) rfl (by repeat (first | exact trivial | refine ⟨closed_dat, ?_⟩ | refine ⟨closed_box (fun _ => rfl), ?_⟩)) (fun _ => rfl) rfl rfl) ?_ | refine w_callFn rfl rfl rfl (by kernel_rfl) (Ctr.callD (m2) [0, 1] rfl (ExtOk.of rfl) rfl (by repeat (first | exact trivial | refine ⟨at_dat rfl, ?_⟩ | refine ⟨at_box rfl, ?_⟩)) rfl (by repeat (first | exact trivial | refine ⟨closed_dat, ?_⟩ | refine ⟨closed_box (fun _ => rfl), ?_⟩)) (fun _ => rfl) rfl rfl) ?_ | refine w_callFn rfl rfl rfl (by kernel_rfl) (Ctr.callD (m3) [0, 1] rfl (ExtOk.of rfl) rfl (by repeat (first | exact trivial | refine ⟨at_dat rfl, ?_⟩ | refine ⟨at_box rfl, ?_⟩)) rfl (by repeat (first | exact trivial | refine ⟨closed_dat, ?_⟩ | refine ⟨closed_box (fun _ => rfl), ?_⟩)) (fun _ => rfl) rfl rfl) ?_ | refine w_callFn rfl rfl rfl (by kernel_rfl) (Ctr.callD (m4) [0, 1] rfl (ExtOk.of rfl) rfl (by repeat (first | exact trivial | refine ⟨at_dat rfl, ?_⟩ | refine ⟨at_box rfl, ?_⟩)) rfl (by repeat (first | exact trivial | refine ⟨closed_dat, ?_⟩ | refine ⟨closed_box (fun _ => rfl), ?_⟩)) (fun _ => rfl) rfl rfl) ?_))
      refine w_eqlS rfl rfl rfl rfl ?_ ?_
      all_goals intro h3
      · (repeat (first | refine y_seq ?_ | refine w_region ?_ | refine y_regEnd ?_ | refine y_condT rfl ?_ | refine w_move rfl rfl rfl ?_ | refine w_assign rfl rfl rfl ?_))
        rw [if_pos (show (p, k).2 = 0 by simp only; omega)]
        ((apply w_ret Try.func56 (congrArg Array.toList Try.results56)); (focus (repeat (first | exact ResIs.nil | apply ResIs.tmp rfl))); refine ⟨_, rfl, Ends.mk [] (ExtOk.of rfl) rfl rfl ?_⟩)
        exact (by repeat (first | exact trivial | refine ⟨at_dat rfl, ?_⟩))
      · (repeat (first | refine y_seq ?_ | refine w_region ?_ | refine y_regEnd ?_ | refine y_condF rfl ?_ | refine w_assign rfl rfl rfl ?_))
        refine w_eqlS rfl rfl rfl rfl ?_ ?_
        all_goals intro h4
        · (repeat (first | refine y_seq ?_ | refine w_region ?_ | refine y_regEnd ?_ | refine y_condT rfl ?_ | refine w_move rfl rfl rfl ?_ | refine w_assign rfl rfl rfl ?_))
          rw [if_neg (show ¬ (p, k).2 = 0 by simp only; omega), if_pos (show (p, k).2 = 12 by simp only; omega)]
          ((apply w_ret Try.func56 (congrArg Array.toList Try.results56)); (focus (repeat (first | exact ResIs.nil | apply ResIs.tmp rfl))); refine ⟨_, rfl, Ends.mk [] (ExtOk.of rfl) rfl rfl ?_⟩)
          exact (by repeat (first | exact trivial | refine ⟨at_dat rfl, ?_⟩))
        · (repeat (first | refine y_seq ?_ | refine w_region ?_ | refine y_regEnd ?_ | refine y_condF rfl ?_ | refine w_move rfl rfl rfl ?_ | refine w_assign rfl rfl rfl ?_))
          rw [if_neg (show ¬ (p, k).2 = 0 by simp only; omega), if_neg (show ¬ (p, k).2 = 12 by simp only; omega)]
          ((apply w_ret Try.func56 (congrArg Array.toList Try.results56)); (focus (repeat (first | exact ResIs.nil | apply ResIs.tmp rfl))); refine ⟨_, rfl, Ends.mk [] (ExtOk.of rfl) rfl rfl ?_⟩)
          exact (by repeat (first | exact trivial | refine ⟨at_dat rfl, ?_⟩))
    · have ec : Sort.choosePivot ltP d a b = Sort.choosePivot ltP d a b := rfl
      conv at ec => rhs; unfold Sort.choosePivot
      simp only [show b - a ≥ 8 by omega, show ¬ (b - a ≥ 50) by omega, if_true, if_false] at ec
      have m4 := median_spec n (a + (b - a) / 4 * 1) (a + (b - a) / 4 * 2) (a + (b - a) / 4 * 3) 0 d hn hd (by omega) (by omega) (by omega) (by omega)
      generalize Sort.median ltP d (a + (b - a) / 4 * 1) (a + (b - a) / 4 * 2) (a + (b - a) / 4 * 3) 0 = r4 at m4 ec
      rw [ec]
      obtain ⟨p, k⟩ := r4
      (repeat (first | (first | refine y_seq ?_ | refine w_region ?_ | refine y_regEnd ?_ | refine y_block ?_ | refine y_skip ?_ | refine y_condF rfl ?_ | refine w_move rfl rfl rfl ?_ | refine w_assign rfl rfl rfl ?_ | refine w_loadB1 rfl rfl rfl (F.ag _ rfl) rfl rfl ?_) | refine w_callFn rfl rfl rfl (by kernel_rfl) (Ctr.callD (m4) [0, 1] rfl (ExtOk.of rfl) rfl (by repeat (first | exact trivial | refine ⟨at_dat rfl, ?_⟩ | refine ⟨at_box rfl, ?_⟩)) rfl (by repeat (first | exact trivial | refine ⟨closed_dat, ?_⟩ | refine ⟨closed_box (fun _ => rfl), ?_⟩)) (fun _ => rfl) rfl rfl) ?_))
      refine w_eqlS rfl rfl rfl rfl ?_ ?_
      all_goals intro h3
      · (repeat (first | refine y_seq ?_ | refine w_region ?_ | refine y_regEnd ?_ | refine y_condT rfl ?_ | refine w_move rfl rfl rfl ?_ | refine w_assign rfl rfl rfl ?_))
        rw [if_pos (show (p, k).2 = 0 by simp only; omega)]
        ((apply w_ret Try.func56 (congrArg Array.toList Try.results56)); (focus (repeat (first | exact ResIs.nil | apply ResIs.tmp rfl))); refine ⟨_, rfl, Ends.mk [] (ExtOk.of rfl) rfl rfl ?_⟩)
        exact (by repeat (first | exact trivial | refine ⟨at_dat rfl, ?_⟩))
      · (repeat (first | refine y_seq ?_ | refine w_region ?_ | refine y_regEnd ?_ | refine y_condF rfl ?_ | refine w_assign rfl rfl rfl ?_))
        refine w_eqlS rfl rfl rfl rfl ?_ ?_
        all_goals intro h4
        · (repeat (first | refine y_seq ?_ | refine w_region ?_ | refine y_regEnd ?_ | refine y_condT rfl ?_ | refine w_move rfl rfl rfl ?_ | refine w_assign rfl rfl rfl ?_))
          rw [if_neg (show ¬ (p, k).2 = 0 by simp only; omega), if_pos (show (p, k).2 = 12 by simp only; omega)]
          ((apply w_ret Try.func56 (congrArg Array.toList Try.results56)); (focus (repeat (first | exact ResIs.nil | apply ResIs.tmp rfl))); refine ⟨_, rfl, Ends.mk [] (ExtOk.of rfl) rfl rfl ?_⟩)
          exact (by repeat (first | exact trivial | refine ⟨at_dat rfl, ?_⟩))
        · (repeat (first | refine y_seq ?_ | refine w_region ?_ | refine y_regEnd ?_ | refine y_condF rfl ?_ | refine w_move rfl rfl rfl ?_ | refine w_assign rfl rfl rfl ?_))
          rw [if_neg (show ¬ (p, k).2 = 0 by simp only; omega), if_neg (show ¬ (p, k).2 = 12 by simp only; omega)]
          ((apply w_ret Try.func56 (congrArg Array.toList Try.results56)); (focus (repeat (first | exact ResIs.nil | apply ResIs.tmp rfl))); refine ⟨_, rfl, Ends.mk [] (ExtOk.of rfl) rfl rfl ?_⟩)
          exact (by repeat (first | exact trivial | refine ⟨at_dat rfl, ?_⟩))
  · have ec : Sort.choosePivot ltP d a b = (a + (b - a) / 4 * 2, .increasing) := by
      unfold Sort.choosePivot
      simp only [show ¬ (b - a ≥ 8) by omega, if_false, if_true]
    rw [ec]
    (repeat (first | (first | refine y_seq ?_ | refine w_region ?_ | refine y_regEnd ?_ | refine y_block ?_ | refine y_skip ?_ | refine y_condT rfl ?_ | refine y_condF rfl ?_ | refine w_move rfl rfl rfl ?_ | refine w_assign rfl rfl rfl ?_ | refine w_loadB1 rfl rfl rfl (F.ag _ rfl) rfl rfl ?_) | refine w_eql rfl rfl rfl rfl ?_))
    ((apply w_ret Try.func56 (congrArg Array.toList Try.results56)); (focus (repeat (first | exact ResIs.nil | apply ResIs.tmp rfl))); refine ⟨_, rfl, Ends.mk [] (ExtOk.of rfl) rfl rfl ?_⟩)
    exact (by repeat (first | exact trivial | refine ⟨at_dat rfl, ?_⟩))
end Go.Proofs.Ytfkfiafohcoomaa
end
section
namespace Go.Sy
open Go Go.Sl Go.RowKit
section
variable {P : Program}
theorem y_loopE {α β : Type} {fn nt k0 nx id : Nat} {T : Tr SV} {k : List AIt} {dfs : List ADf} {H : Heap} {Q0 : Cz → Prop} {b : Code} (n : Nat) (sl : α → List (Nat × SV)) (ob : α → List (Option VO)) (φ : α → Prop) (μ : α → Nat) (a0 : α) (L0 : List Nat)
    (n2 : Nat) (sl2 : β → List (Nat × SV)) (ob2 : β → List (Option VO)) (ψ : β → Prop)
    (hn : ∀ a, (ob a).length = n) (hn2 : ∀ a, (ob2 a).length = n2) (h0 : φ a0) (hi : IsAt k0 L0 (sl a0) (ob a0) T H nx) (hk : ∀ ρ, k.map (AIt.ren ρ) = k) (hd : ∀ ρ, dfs.map (ADf.ren ρ) = dfs)
    (body : ∀ a, φ a → (∀ T' H' nx' a' L', φ a' → μ a' < μ a → IsAt k0 L' (sl a') (ob a') T' H' nx' → Wp P none ⟨fn, nt, T', .inLoop b :: .inBlock id :: k, dfs, H', nx'⟩ (fun r => ∃ c, Q0 c ∧ Ends k0 c r)) →
      (∀ T' H' nx' a' L', ψ a' → IsAt k0 L' (sl2 a') (ob2 a') T' H' nx' → Wp P none ⟨fn, nt, T', k, dfs, H', nx'⟩ (fun r => ∃ c, Q0 c ∧ Ends k0 c r)) →
      Wp P none ⟨fn, nt, slT (sl a), .code b :: .inLoop b :: .inBlock id :: k, dfs, heapO (ob a), n⟩ (fun r => ∃ c, Q0 c ∧ Ends k0 c r))
    (exit : ∀ a, ψ a → Wp P none ⟨fn, nt, slT (sl2 a), k, dfs, heapO (ob2 a), n2⟩ (fun r => ∃ c, Q0 c ∧ Ends k0 c r)) :
    Wp P none ⟨fn, nt, T, .code (.loop b) :: .inBlock id :: k, dfs, H, nx⟩ (fun r => ∃ c, Q0 c ∧ Ends k0 c r) :=
  y_loopC n sl ob φ μ a0 L0 hn h0 hi (fun ρ => by simp [AIt.ren, hk ρ]) hd fun a ha again => body a ha again fun T' H' nx' a' L' hψ hat => by
    refine Wp.can hat (hk _) (hd _) ?_
    rw [hn2 a']
    exact exit a' hψ
end
end Go.Sy
end
section
namespace Go.Proofs.Ytfkfiafohcoomaa
open Go Go.Sy
theorem scanUp_go {p : Int × Int → Bool} {d : Array (Int × Int)} {i j : Nat} (h : i ≤ j) (hp : p d[i]! = true) : Sort.scanUp p d j i = Sort.scanUp p d j (i + 1) := by
  conv => lhs; rw [Sort.scanUp, if_pos (by simp [h, hp])]
theorem scanUp_stop {p : Int × Int → Bool} {d : Array (Int × Int)} {i j : Nat} (h : j < i ∨ p d[i]! = false) : Sort.scanUp p d j i = i := by
  rw [Sort.scanUp, if_neg]
  simp only [Bool.and_eq_true, decide_eq_true_eq]
  rintro ⟨h1, h2⟩
  rcases h with h | h
  · omega
  · rw [h] at h2; cases h2
theorem scanDown_go {p : Int × Int → Bool} {d : Array (Int × Int)} {i j : Nat} (h : i ≤ j + 1) (hp : p d[j + 1]! = true) : Sort.scanDown p d i (j + 1) = Sort.scanDown p d i j := by
  conv => lhs; rw [Sort.scanDown, if_pos (by simp [h, hp])]
theorem scanDown_stop {p : Int × Int → Bool} {d : Array (Int × Int)} {i j : Nat} (h : j < i ∨ p d[j]! = false) : Sort.scanDown p d i j = j := by
  cases j with
  | zero => rfl
  | succ j =>
    rw [Sort.scanDown, if_neg]
    simp only [Bool.and_eq_true, decide_eq_true_eq]
    rintro ⟨h1, h2⟩
    rcases h with h | h
    · omega
    · rw [h] at h2; cases h2
theorem partEq_step {lt : Int × Int → Int × Int → Bool} {d : Array (Int × Int)} {a i j i2 j2 : Nat} (hi : Sort.scanUp (fun x => !lt d[a]! x) d j i = i2) (hj : Sort.scanDown (fun x => lt d[a]! x) d i2 j = j2) (h1 : i ≤ i2) (h2 : j2 ≤ j) :
    Sort.partEqLoop lt a i j d = if j2 < i2 then (i2, d) else Sort.partEqLoop lt a (i2 + 1) (j2 - 1) (Sort.swp d i2 j2) := by
  conv => lhs; unfold Sort.partEqLoop
  simp only [hi, hj]
  split
  · rfl
  · rw [dif_pos (by omega)]
set_option maxRecDepth 100000 in
set_option maxHeartbeats 0 in
theorem partEq_spec (n a b pv : Nat) (d : Array (Int × Int)) (hn : n < 4611686018427387904) (hd : d.size = n) (hap : a ≤ pv) (hpb : pv < b) (hb : b ≤ n) :
    Ctr Try.prog 59 [.slu 0 0 n, .sc (.int .i64 (a : Int)), .sc (.int .i64 (b : Int)), .sc (.int .i64 (pv : Int)), cmpF] [rowP n d] (fun c => c = ⟨.sc (.int .i64 ((Sort.partitionEqual ltP d a b pv).1 : Int)), [some (rowP n (Sort.partitionEqual ltP d a b pv).2)]⟩) := by
  refine Fnc.start Try.func59 rfl rfl ?_
  (repeat (first | refine y_seq ?_ | refine w_region ?_ | refine y_regEnd ?_ | refine w_assign rfl rfl rfl ?_))
  refine w_draw (by kernel_rfl) (by kernel_rfl) ?_
  (repeat (first | refine dw_move rfl rfl rfl ?_ | refine dw_ldR rfl rfl rfl (F.ag _ rfl) (recP) rfl (by first | omega | (simp only [Array.size_setIfInBounds, swp_size]; omega)) (by first | omega | (simp only [Array.size_setIfInBounds, swp_size]; omega)) ?_ | refine dw_stR rfl rfl rfl (recP) (F.sz _ rfl) rfl (by first | omega | (simp only [Array.size_setIfInBounds, swp_size]; omega)) (by first | omega | (simp only [Array.size_setIfInBounds, swp_size]; omega)) ?_ | refine dw_idxN (q := a) rfl rfl rfl rfl (F.un _ rfl) (F.sz _ rfl) rfl (by omega) (by omega) (by omega) ?_ | refine dw_idxN (q := pv) rfl rfl rfl rfl (F.un _ rfl) (F.sz _ rfl) rfl (by omega) (by omega) (by omega) ?_))
  (refine dk_nil ?_); (refine ⟨by kernel_rfl, ?_, ?_⟩); (focus (repeat (first | exact trivial | refine ⟨.inl rfl, ?_⟩ | refine ⟨.inr (by (repeat (refine ⟨(by first | exact rd_idxN (F.un _ rfl) (F.sz _ rfl) rfl rfl rfl (by omega) (by omega) (by omega) | exact rd_arith rfl rfl (.inl ⟨rfl, (Go.IntWalk.i64_in _ ⟨by omega, by omega⟩).symm⟩) | exact rd_arith rfl rfl (.inr (.inl ⟨rfl, (Go.IntWalk.i64_in _ ⟨by omega, by omega⟩).symm⟩)) | exact rd_fieldAddr (F.fo _ _ rfl rfl) rfl | exact rd_move rfl | exact rd_assign rfl | exact rd_load1 (F.ag _ rfl) rfl rfl (cell_box rfl) | exact rd_loadN (F.ag _ rfl) rfl rfl (cellsFrom_box _ 0 rfl rfl) | exact rd_extract rfl rfl | exact rd_lenSl (F.un _ rfl) rfl | exact rd_lenStr (F.un _ rfl) rfl | exact rd_nilCheck rfl | exact rd_pickT rfl rfl | exact rd_pickF rfl rfl), ?_⟩)); exact trivial), ?_⟩ | refine ⟨.inl (by kernel_rfl), ?_⟩)))
  (repeat (first | refine y_seq ?_ | refine w_region ?_ | refine y_regEnd ?_ | refine y_block ?_ | refine w_move rfl rfl rfl ?_ | refine w_assign rfl rfl rfl ?_ | refine w_add rfl rfl rfl rfl (by omega) (by omega) ?_ | refine w_sub rfl rfl rfl rfl (by omega) (by omega) ?_))
  refine y_loopC 1 (fun s : (Nat × Nat) × Array (Int × Int) => [(0, .slu 0 0 n), (1, .sc (.int .i64 (a : Int))), (4, cmpF), (11, .sc (.int .i64 (s.1.1 : Int))), (12, .sc (.int .i64 (s.1.2 : Int)))]) (fun s => [some (rowP n s.2)]) (fun s => a < s.1.1 ∧ s.1.1 ≤ n ∧ s.1.2 < n ∧ s.2.size = n ∧ Sort.partEqLoop ltP a s.1.1 s.1.2 s.2 = Sort.partitionEqual ltP d a b pv) (fun s => s.1.2 + 1 - s.1.1) ((a + 1, b - 1), Sort.swp d a pv) []
    (fun _ => rfl) ⟨by simp only; omega, by simp only; omega, by simp only; omega, by rw [swp_size]; exact hd, rfl⟩ ?_ (fun _ => rfl) (fun _ => rfl) ?_
  · (refine ⟨(ExtOk.of rfl), rfl, (by repeat (first | exact trivial | refine ⟨rfl, ?_⟩ | refine ⟨sl_eq (by first | omega | (simp only; omega)), ?_⟩)), (by repeat (first | exact trivial | refine ⟨at_dat rfl, ?_⟩))⟩)
  rintro ⟨⟨i, j⟩, d1⟩ ⟨hai, hi, hj, hd1, ho⟩ ih
  simp only at hai hi hj hd1 ho ih ⊢
  (repeat (first | refine y_seq ?_ | refine y_block ?_))
  refine y_loopE 1 (fun x : Nat => [(0, .slu 0 0 n), (1, .sc (.int .i64 (a : Int))), (4, cmpF), (11, .sc (.int .i64 (x : Int))), (12, .sc (.int .i64 (j : Int)))]) (fun _ => [some (rowP n d1)]) (fun x => i ≤ x ∧ x ≤ n ∧ Sort.scanUp (fun y => !ltP d1[a]! y) d1 j x = Sort.scanUp (fun y => !ltP d1[a]! y) d1 j i) (fun x => n - x) i []
    1 (fun x : Nat => [(0, .slu 0 0 n), (1, .sc (.int .i64 (a : Int))), (4, cmpF), (11, .sc (.int .i64 (x : Int))), (12, .sc (.int .i64 (j : Int)))]) (fun _ => [some (rowP n d1)]) (fun x => i ≤ x ∧ x ≤ n ∧ Sort.scanUp (fun y => !ltP d1[a]! y) d1 j i = x)
    (fun _ => rfl) (fun _ => rfl) ⟨Nat.le_refl _, hi, rfl⟩ ?_ (fun _ => rfl) (fun _ => rfl) ?_ ?_
  · (refine ⟨(ExtOk.of rfl), rfl, (by repeat (first | exact trivial | refine ⟨rfl, ?_⟩)), (by repeat (first | exact trivial | refine ⟨at_dat rfl, ?_⟩))⟩)
  · rintro i1 ⟨hii, hi1, hu⟩ ihu out
    (repeat (refine y_seq ?_))
    refine w_draw (by kernel_rfl) (by kernel_rfl) ?_
    (repeat (refine dw_move rfl rfl rfl ?_))
    refine dw_leqS rfl rfl rfl rfl ?_ ?_
    all_goals intro h1
    · (repeat (first | refine dw_move rfl rfl rfl ?_ | refine dw_ldR rfl rfl rfl (F.ag _ rfl) (recP) rfl (by first | omega | (simp only [Array.size_setIfInBounds, swp_size]; omega)) (by first | omega | (simp only [Array.size_setIfInBounds, swp_size]; omega)) ?_ | refine dw_idxN (q := a) rfl rfl rfl rfl (F.un _ rfl) (F.sz _ rfl) rfl (by omega) (by omega) (by omega) ?_ | refine dw_idxN (q := i1) rfl rfl rfl rfl (F.un _ rfl) (F.sz _ rfl) rfl (by omega) (by omega) (by omega) ?_ | refine dk_callF rfl rfl rfl rfl (by kernel_rfl) rfl (Ctr.callV (cmp_spec d1[a]! d1[i1]!) [] rfl (ExtOk.of rfl) rfl trivial rfl) ?_))
      refine dw_lssS rfl rfl rfl rfl ?_ ?_
      all_goals intro h2
      · (repeat (first | refine dw_pickT rfl rfl rfl rfl ?_ | refine dw_notB rfl rfl rfl ?_))
        (refine dk_nil ?_); (refine ⟨by kernel_rfl, ?_, ?_⟩); (focus (repeat (first | exact trivial | refine ⟨.inl rfl, ?_⟩ | refine ⟨.inr (by (repeat (refine ⟨(by first | exact rd_idxN (F.un _ rfl) (F.sz _ rfl) rfl rfl rfl (by omega) (by omega) (by omega) | exact rd_arith rfl rfl (.inl ⟨rfl, (Go.IntWalk.i64_in _ ⟨by omega, by omega⟩).symm⟩) | exact rd_arith rfl rfl (.inr (.inl ⟨rfl, (Go.IntWalk.i64_in _ ⟨by omega, by omega⟩).symm⟩)) | exact rd_fieldAddr (F.fo _ _ rfl rfl) rfl | exact rd_move rfl | exact rd_assign rfl | exact rd_load1 (F.ag _ rfl) rfl rfl (cell_box rfl) | exact rd_loadN (F.ag _ rfl) rfl rfl (cellsFrom_box _ 0 rfl rfl) | exact rd_extract rfl rfl | exact rd_lenSl (F.un _ rfl) rfl | exact rd_lenStr (F.un _ rfl) rfl | exact rd_nilCheck rfl | exact rd_pickT rfl rfl | exact rd_pickF rfl rfl), ?_⟩)); exact trivial), ?_⟩ | refine ⟨.inl (by kernel_rfl), ?_⟩)))
        (repeat (first | (refine out _ _ _ i1 [] ⟨hii, hi1, by rw [← hu]; exact scanUp_stop (.inr (by simpa [ltP] using h2))⟩ ?_; (refine ⟨(ExtOk.of rfl), rfl, (by repeat (first | exact trivial | refine ⟨rfl, ?_⟩)), (by repeat (first | exact trivial | refine ⟨at_dat rfl, ?_⟩))⟩)) | (first | refine y_exit rfl ?_ | refine y_condF rfl ?_)))
      · (repeat (first | refine dw_pickT rfl rfl rfl rfl ?_ | refine dw_notB rfl rfl rfl ?_))
        (refine dk_nil ?_); (refine ⟨by kernel_rfl, ?_, ?_⟩); (focus (repeat (first | exact trivial | refine ⟨.inl rfl, ?_⟩ | refine ⟨.inr (by (repeat (refine ⟨(by first | exact rd_idxN (F.un _ rfl) (F.sz _ rfl) rfl rfl rfl (by omega) (by omega) (by omega) | exact rd_arith rfl rfl (.inl ⟨rfl, (Go.IntWalk.i64_in _ ⟨by omega, by omega⟩).symm⟩) | exact rd_arith rfl rfl (.inr (.inl ⟨rfl, (Go.IntWalk.i64_in _ ⟨by omega, by omega⟩).symm⟩)) | exact rd_fieldAddr (F.fo _ _ rfl rfl) rfl | exact rd_move rfl | exact rd_assign rfl | exact rd_load1 (F.ag _ rfl) rfl rfl (cell_box rfl) | exact rd_loadN (F.ag _ rfl) rfl rfl (cellsFrom_box _ 0 rfl rfl) | exact rd_extract rfl rfl | exact rd_lenSl (F.un _ rfl) rfl | exact rd_lenStr (F.un _ rfl) rfl | exact rd_nilCheck rfl | exact rd_pickT rfl rfl | exact rd_pickF rfl rfl), ?_⟩)); exact trivial), ?_⟩ | refine ⟨.inl (by kernel_rfl), ?_⟩)))
        (repeat (first | refine w_region ?_ | refine y_regEnd ?_ | refine y_block ?_ | refine y_inBlock ?_ | refine y_skip ?_ | refine y_condT rfl ?_ | refine w_move rfl rfl rfl ?_ | refine w_assign rfl rfl rfl ?_ | refine w_add rfl rfl rfl rfl (by omega) (by omega) ?_))
        refine ihu _ _ _ (i1 + 1) [] ⟨by omega, by omega, ?_⟩ (by omega) ?_
        · rw [← hu]
          exact (scanUp_go (by omega) (by simpa [ltP] using h2)).symm
        · (refine ⟨(ExtOk.of rfl), rfl, (by repeat (first | exact trivial | refine ⟨rfl, ?_⟩)), (by repeat (first | exact trivial | refine ⟨at_dat rfl, ?_⟩))⟩)
    · (repeat (first | refine dw_move rfl rfl rfl ?_ | refine dw_pickF rfl rfl rfl rfl ?_ | refine dk_skip rfl rfl ?_))
      (refine dk_nil ?_); (refine ⟨by kernel_rfl, ?_, ?_⟩); (focus (repeat (first | exact trivial | refine ⟨.inl rfl, ?_⟩)))
      (repeat (first | (refine out _ _ _ i1 [] ⟨hii, hi1, by rw [← hu]; exact scanUp_stop (.inl (by omega))⟩ ?_; (refine ⟨(ExtOk.of rfl), rfl, (by repeat (first | exact trivial | refine ⟨rfl, ?_⟩)), (by repeat (first | exact trivial | refine ⟨at_dat rfl, ?_⟩))⟩)) | (first | refine y_exit rfl ?_ | refine y_condF rfl ?_)))
  rintro i2 ⟨hii, hi2, hu⟩
  (repeat (first | refine y_seq ?_ | refine y_block ?_))
  refine y_loopE 1 (fun x : Nat => [(0, .slu 0 0 n), (1, .sc (.int .i64 (a : Int))), (4, cmpF), (11, .sc (.int .i64 (i2 : Int))), (12, .sc (.int .i64 (x : Int)))]) (fun _ => [some (rowP n d1)]) (fun x => x ≤ j ∧ Sort.scanDown (fun y => ltP d1[a]! y) d1 i2 x = Sort.scanDown (fun y => ltP d1[a]! y) d1 i2 j) (fun x => x) j []
    1 (fun x : Nat => [(0, .slu 0 0 n), (1, .sc (.int .i64 (a : Int))), (4, cmpF), (11, .sc (.int .i64 (i2 : Int))), (12, .sc (.int .i64 (x : Int)))]) (fun _ => [some (rowP n d1)]) (fun x => x ≤ j ∧ Sort.scanDown (fun y => ltP d1[a]! y) d1 i2 j = x)
    (fun _ => rfl) (fun _ => rfl) ⟨Nat.le_refl _, rfl⟩ ?_ (fun _ => rfl) (fun _ => rfl) ?_ ?_
  · (refine ⟨(ExtOk.of rfl), rfl, (by repeat (first | exact trivial | refine ⟨rfl, ?_⟩)), (by repeat (first | exact trivial | refine ⟨at_dat rfl, ?_⟩))⟩)
  · rintro j1 ⟨hjj, hv⟩ ihv out
    (repeat (refine y_seq ?_))
    refine w_draw (by kernel_rfl) (by kernel_rfl) ?_
    (repeat (refine dw_move rfl rfl rfl ?_))
    refine dw_leqS rfl rfl rfl rfl ?_ ?_
    all_goals intro h1
    · (repeat (first | refine dw_move rfl rfl rfl ?_ | refine dw_ldR rfl rfl rfl (F.ag _ rfl) (recP) rfl (by first | omega | (simp only [Array.size_setIfInBounds, swp_size]; omega)) (by first | omega | (simp only [Array.size_setIfInBounds, swp_size]; omega)) ?_ | refine dw_idxN (q := a) rfl rfl rfl rfl (F.un _ rfl) (F.sz _ rfl) rfl (by omega) (by omega) (by omega) ?_ | refine dw_idxN (q := j1) rfl rfl rfl rfl (F.un _ rfl) (F.sz _ rfl) rfl (by omega) (by omega) (by omega) ?_ | refine dk_callF rfl rfl rfl rfl (by kernel_rfl) rfl (Ctr.callV (cmp_spec d1[a]! d1[j1]!) [] rfl (ExtOk.of rfl) rfl trivial rfl) ?_))
      refine dw_lssS rfl rfl rfl rfl ?_ ?_
      all_goals intro h2
      · (repeat (refine dw_pickT rfl rfl rfl rfl ?_))
        (refine dk_nil ?_); (refine ⟨by kernel_rfl, ?_, ?_⟩); (focus (repeat (first | exact trivial | refine ⟨.inl rfl, ?_⟩ | refine ⟨.inr (by (repeat (refine ⟨(by first | exact rd_idxN (F.un _ rfl) (F.sz _ rfl) rfl rfl rfl (by omega) (by omega) (by omega) | exact rd_arith rfl rfl (.inl ⟨rfl, (Go.IntWalk.i64_in _ ⟨by omega, by omega⟩).symm⟩) | exact rd_arith rfl rfl (.inr (.inl ⟨rfl, (Go.IntWalk.i64_in _ ⟨by omega, by omega⟩).symm⟩)) | exact rd_fieldAddr (F.fo _ _ rfl rfl) rfl | exact rd_move rfl | exact rd_assign rfl | exact rd_load1 (F.ag _ rfl) rfl rfl (cell_box rfl) | exact rd_loadN (F.ag _ rfl) rfl rfl (cellsFrom_box _ 0 rfl rfl) | exact rd_extract rfl rfl | exact rd_lenSl (F.un _ rfl) rfl | exact rd_lenStr (F.un _ rfl) rfl | exact rd_nilCheck rfl | exact rd_pickT rfl rfl | exact rd_pickF rfl rfl), ?_⟩)); exact trivial), ?_⟩ | refine ⟨.inl (by kernel_rfl), ?_⟩)))
        (repeat (first | refine w_region ?_ | refine y_regEnd ?_ | refine y_block ?_ | refine y_inBlock ?_ | refine y_skip ?_ | refine y_condT rfl ?_ | refine w_move rfl rfl rfl ?_ | refine w_assign rfl rfl rfl ?_ | refine w_sub rfl rfl rfl rfl (by omega) (by omega) ?_))
        obtain ⟨j1, rfl⟩ : ∃ j', j1 = j' + 1 := ⟨j1 - 1, by omega⟩
        refine ihv _ _ _ j1 [] ⟨by omega, ?_⟩ (by omega) ?_
        · rw [← hv]
          exact (scanDown_go (by omega) (by simpa [ltP] using h2)).symm
        · (refine ⟨(ExtOk.of rfl), rfl, (by repeat (first | exact trivial | refine ⟨rfl, ?_⟩ | refine ⟨sl_eq (by first | omega | (simp only; omega)), ?_⟩)), (by repeat (first | exact trivial | refine ⟨at_dat rfl, ?_⟩))⟩)
      · (repeat (refine dw_pickT rfl rfl rfl rfl ?_))
        (refine dk_nil ?_); (refine ⟨by kernel_rfl, ?_, ?_⟩); (focus (repeat (first | exact trivial | refine ⟨.inl rfl, ?_⟩ | refine ⟨.inr (by (repeat (refine ⟨(by first | exact rd_idxN (F.un _ rfl) (F.sz _ rfl) rfl rfl rfl (by omega) (by omega) (by omega) | exact rd_arith rfl rfl (.inl ⟨rfl, (Go.IntWalk.i64_in _ ⟨by omega, by omega⟩).symm⟩) | exact rd_arith rfl rfl (.inr (.inl ⟨rfl, (Go.IntWalk.i64_in _ ⟨by omega, by omega⟩).symm⟩)) | exact rd_fieldAddr (F.fo _ _ rfl rfl) rfl | exact rd_move rfl | exact rd_assign rfl | exact rd_load1 (F.ag _ rfl) rfl rfl (cell_box rfl) | exact rd_loadN (F.ag _ rfl) rfl rfl (cellsFrom_box _ 0 rfl rfl) | exact rd_extract rfl rfl | exact rd_lenSl (F.un _ rfl) rfl | exact rd_lenStr (F.un _ rfl) rfl | exact rd_nilCheck rfl | exact rd_pickT rfl rfl | exact rd_pickF rfl rfl), ?_⟩)); exact trivial), ?_⟩ | refine ⟨.inl (by kernel_rfl), ?_⟩)))
        (repeat (first | (refine out _ _ _ j1 [] ⟨hjj, by rw [← hv]; exact scanDown_stop (.inr (by simpa [ltP] using h2))⟩ ?_; (refine ⟨(ExtOk.of rfl), rfl, (by repeat (first | exact trivial | refine ⟨rfl, ?_⟩)), (by repeat (first | exact trivial | refine ⟨at_dat rfl, ?_⟩))⟩)) | (first | refine y_exit rfl ?_ | refine y_condF rfl ?_)))
    · (repeat (first | refine dw_move rfl rfl rfl ?_ | refine dw_pickF rfl rfl rfl rfl ?_ | refine dk_skip rfl rfl ?_))
      (refine dk_nil ?_); (refine ⟨by kernel_rfl, ?_, ?_⟩); (focus (repeat (first | exact trivial | refine ⟨.inl rfl, ?_⟩)))
      (repeat (first | (refine out _ _ _ j1 [] ⟨hjj, by rw [← hv]; exact scanDown_stop (.inl (by omega))⟩ ?_; (refine ⟨(ExtOk.of rfl), rfl, (by repeat (first | exact trivial | refine ⟨rfl, ?_⟩)), (by repeat (first | exact trivial | refine ⟨at_dat rfl, ?_⟩))⟩)) | (first | refine y_exit rfl ?_ | refine y_condF rfl ?_)))
  rintro j2 ⟨hjj, hv⟩
  have e := partEq_step hu hv hii hjj
  (repeat (first | refine y_seq ?_ | refine w_region ?_ | refine w_move rfl rfl rfl ?_))
  refine w_gtrS rfl rfl rfl rfl ?_ ?_
  all_goals intro h3
  · rw [ho, if_pos (by omega)] at e
    (repeat (first | refine y_seq ?_ | refine w_region ?_ | refine y_regEnd ?_ | refine y_exit rfl ?_ | refine y_condT rfl ?_ | refine w_move rfl rfl rfl ?_ | refine w_assign rfl rfl rfl ?_))
    rw [e]
    ((apply w_ret Try.func59 (congrArg Array.toList Try.results59)); (focus (repeat (first | exact ResIs.nil | apply ResIs.tmp rfl))); refine ⟨_, rfl, Ends.mk [] (ExtOk.of rfl) rfl rfl ?_⟩)
    exact (by repeat (first | exact trivial | refine ⟨at_dat rfl, ?_⟩))
  · rw [ho, if_neg (by omega)] at e
    (repeat (first | refine y_seq ?_ | refine y_regEnd ?_ | refine y_skip ?_ | refine y_condF rfl ?_))
    refine w_draw (by kernel_rfl) (by kernel_rfl) ?_
    (repeat (first | refine dw_move rfl rfl rfl ?_ | refine dw_ldR rfl rfl rfl (F.ag _ rfl) (recP) rfl (by first | omega | (simp only [Array.size_setIfInBounds, swp_size]; omega)) (by first | omega | (simp only [Array.size_setIfInBounds, swp_size]; omega)) ?_ | refine dw_stR rfl rfl rfl (recP) (F.sz _ rfl) rfl (by first | omega | (simp only [Array.size_setIfInBounds, swp_size]; omega)) (by first | omega | (simp only [Array.size_setIfInBounds, swp_size]; omega)) ?_ | refine dw_idxN (q := i2) rfl rfl rfl rfl (F.un _ rfl) (F.sz _ rfl) rfl (by omega) (by omega) (by omega) ?_ | refine dw_idxN (q := j2) rfl rfl rfl rfl (F.un _ rfl) (F.sz _ rfl) rfl (by omega) (by omega) (by omega) ?_))
    (refine dk_nil ?_); (refine ⟨by kernel_rfl, ?_, ?_⟩); (focus (repeat (first | exact trivial | refine ⟨.inl rfl, ?_⟩ | refine ⟨.inr (by (repeat (refine ⟨(by first | exact rd_idxN (F.un _ rfl) (F.sz _ rfl) rfl rfl rfl (by omega) (by omega) (by omega) | exact rd_arith rfl rfl (.inl ⟨rfl, (Go.IntWalk.i64_in _ ⟨by omega, by omega⟩).symm⟩) | exact rd_arith rfl rfl (.inr (.inl ⟨rfl, (Go.IntWalk.i64_in _ ⟨by omega, by omega⟩).symm⟩)) | exact rd_fieldAddr (F.fo _ _ rfl rfl) rfl | exact rd_move rfl | exact rd_assign rfl | exact rd_load1 (F.ag _ rfl) rfl rfl (cell_box rfl) | exact rd_loadN (F.ag _ rfl) rfl rfl (cellsFrom_box _ 0 rfl rfl) | exact rd_extract rfl rfl | exact rd_lenSl (F.un _ rfl) rfl | exact rd_lenStr (F.un _ rfl) rfl | exact rd_nilCheck rfl | exact rd_pickT rfl rfl | exact rd_pickF rfl rfl), ?_⟩)); exact trivial), ?_⟩ | refine ⟨.inl (by kernel_rfl), ?_⟩)))
    (repeat (first | refine y_seq ?_ | refine w_region ?_ | refine y_regEnd ?_ | refine y_inBlock ?_ | refine w_move rfl rfl rfl ?_ | refine w_assign rfl rfl rfl ?_ | refine w_add rfl rfl rfl rfl (by omega) (by omega) ?_ | refine w_sub rfl rfl rfl rfl (by omega) (by omega) ?_))
    refine ih _ _ _ ((i2 + 1, j2 - 1), Sort.swp d1 i2 j2) [] ⟨by simp only; omega, by simp only; omega, by simp only; omega, by rw [swp_size]; exact hd1, e.symm⟩ (by simp only; omega) ?_
    (refine ⟨(ExtOk.of rfl), rfl, (by repeat (first | exact trivial | refine ⟨rfl, ?_⟩ | refine ⟨sl_eq (by first | omega | (simp only; omega)), ?_⟩)), (by repeat (first | exact trivial | refine ⟨at_dat rfl, ?_⟩))⟩)
end Go.Proofs.Ytfkfiafohcoomaa
end
section
namespace Go.Proofs.Ytfkfiafohcoomaa
open Go Go.Sy
theorem part_step {lt : Int × Int → Int × Int → Bool} {d : Array (Int × Int)} {a i j i2 j2 : Nat} (hi : Sort.scanUp (fun x => lt x d[a]!) d j i = i2) (hj : Sort.scanDown (fun x => !lt x d[a]!) d i2 j = j2) (h1 : i ≤ i2) (h2 : j2 ≤ j) :
    Sort.partLoop lt a i j d = if j2 < i2 then (j2, d) else Sort.partLoop lt a (i2 + 1) (j2 - 1) (Sort.swp d i2 j2) := by
  conv => lhs; unfold Sort.partLoop
  simp only [hi, hj]
  split
  · rfl
  · rw [dif_pos (by omega)]
theorem part_one {lt : Int × Int → Int × Int → Bool} {d : Array (Int × Int)} {a b pv i2 j2 : Nat} (hi : Sort.scanUp (fun x => lt x (Sort.swp d a pv)[a]!) (Sort.swp d a pv) (b - 1) (a + 1) = i2) (hj : Sort.scanDown (fun x => !lt x (Sort.swp d a pv)[a]!) (Sort.swp d a pv) i2 (b - 1) = j2) :
    Sort.partition lt d a b pv = if j2 < i2 then (j2, true, Sort.swp (Sort.swp d a pv) j2 a) else ((Sort.partLoop lt a (i2 + 1) (j2 - 1) (Sort.swp (Sort.swp d a pv) i2 j2)).1, false, Sort.swp (Sort.partLoop lt a (i2 + 1) (j2 - 1) (Sort.swp (Sort.swp d a pv) i2 j2)).2 (Sort.partLoop lt a (i2 + 1) (j2 - 1) (Sort.swp (Sort.swp d a pv) i2 j2)).1 a) := by
  simp only [Sort.partition, hi, hj]
set_option maxRecDepth 100000 in
set_option maxHeartbeats 0 in
theorem part_spec (n a b pv : Nat) (d : Array (Int × Int)) (hn : n < 4611686018427387904) (hd : d.size = n) (hap : a ≤ pv) (hpb : pv < b) (hb : b ≤ n) :
    Ctr Try.prog 60 [.slu 0 0 n, .sc (.int .i64 (a : Int)), .sc (.int .i64 (b : Int)), .sc (.int .i64 (pv : Int)), cmpF] [rowP n d] (fun c => c = ⟨.tup [.sc (.int .i64 ((Sort.partition ltP d a b pv).1 : Int)), .sc (.bool (Sort.partition ltP d a b pv).2.1)], [some (rowP n (Sort.partition ltP d a b pv).2.2)]⟩) := by
  refine Fnc.start Try.func60 rfl rfl ?_
  (repeat (first | refine y_seq ?_ | refine w_region ?_ | refine y_regEnd ?_ | refine w_assign rfl rfl rfl ?_))
  refine w_draw (by kernel_rfl) (by kernel_rfl) ?_
  (repeat (first | refine dw_move rfl rfl rfl ?_ | refine dw_ldR rfl rfl rfl (F.ag _ rfl) (recP) rfl (by first | omega | (simp only [Array.size_setIfInBounds, swp_size]; omega)) (by first | omega | (simp only [Array.size_setIfInBounds, swp_size]; omega)) ?_ | refine dw_stR rfl rfl rfl (recP) (F.sz _ rfl) rfl (by first | omega | (simp only [Array.size_setIfInBounds, swp_size]; omega)) (by first | omega | (simp only [Array.size_setIfInBounds, swp_size]; omega)) ?_ | refine dw_idxN (q := a) rfl rfl rfl rfl (F.un _ rfl) (F.sz _ rfl) rfl (by omega) (by omega) (by omega) ?_ | refine dw_idxN (q := pv) rfl rfl rfl rfl (F.un _ rfl) (F.sz _ rfl) rfl (by omega) (by omega) (by omega) ?_))
  (refine dk_nil ?_); (refine ⟨by kernel_rfl, ?_, ?_⟩); (focus (repeat (first | exact trivial | refine ⟨.inl rfl, ?_⟩ | refine ⟨.inr (by (repeat (refine ⟨(by first | exact rd_idxN (F.un _ rfl) (F.sz _ rfl) rfl rfl rfl (by omega) (by omega) (by omega) | exact rd_arith rfl rfl (.inl ⟨rfl, (Go.IntWalk.i64_in _ ⟨by omega, by omega⟩).symm⟩) | exact rd_arith rfl rfl (.inr (.inl ⟨rfl, (Go.IntWalk.i64_in _ ⟨by omega, by omega⟩).symm⟩)) | exact rd_fieldAddr (F.fo _ _ rfl rfl) rfl | exact rd_move rfl | exact rd_assign rfl | exact rd_load1 (F.ag _ rfl) rfl rfl (cell_box rfl) | exact rd_loadN (F.ag _ rfl) rfl rfl (cellsFrom_box _ 0 rfl rfl) | exact rd_extract rfl rfl | exact rd_lenSl (F.un _ rfl) rfl | exact rd_lenStr (F.un _ rfl) rfl | exact rd_nilCheck rfl | exact rd_pickT rfl rfl | exact rd_pickF rfl rfl), ?_⟩)); exact trivial), ?_⟩ | refine ⟨.inl (by kernel_rfl), ?_⟩)))
  have e0 := part_one (lt := ltP) (d := d) (a := a) (b := b) (pv := pv) rfl rfl
  have hd1 : (Sort.swp d a pv).size = n := by rw [swp_size]; exact hd
  generalize hsw : Sort.swp d a pv = d1 at e0 hd1
  have hsw' : (d.setIfInBounds a d[pv]!).setIfInBounds pv d[a]! = d1 := hsw
  rw [hsw']
  (repeat (first | refine y_seq ?_ | refine w_region ?_ | refine y_regEnd ?_ | refine y_block ?_ | refine w_move rfl rfl rfl ?_ | refine w_assign rfl rfl rfl ?_ | refine w_add rfl rfl rfl rfl (by omega) (by omega) ?_ | refine w_sub rfl rfl rfl rfl (by omega) (by omega) ?_))
  refine y_loopE 1 (fun x : Nat => [(0, .slu 0 0 n), (1, .sc (.int .i64 (a : Int))), (4, cmpF), (12, .sc (.int .i64 (x : Int))), (13, .sc (.int .i64 ((b - 1 : Nat) : Int)))]) (fun _ => [some (rowP n d1)]) (fun x => a + 1 ≤ x ∧ x ≤ n ∧ Sort.scanUp (fun y => ltP y d1[a]!) d1 (b - 1) x = Sort.scanUp (fun y => ltP y d1[a]!) d1 (b - 1) (a + 1)) (fun x => n - x) (a + 1) []
    1 (fun x : Nat => [(0, .slu 0 0 n), (1, .sc (.int .i64 (a : Int))), (4, cmpF), (12, .sc (.int .i64 (x : Int))), (13, .sc (.int .i64 ((b - 1 : Nat) : Int)))]) (fun _ => [some (rowP n d1)]) (fun x => a + 1 ≤ x ∧ x ≤ n ∧ Sort.scanUp (fun y => ltP y d1[a]!) d1 (b - 1) (a + 1) = x)
    (fun _ => rfl) (fun _ => rfl) ⟨Nat.le_refl _, by omega, rfl⟩ ?_ (fun _ => rfl) (fun _ => rfl) ?_ ?_
  · (refine ⟨(ExtOk.of rfl), rfl, (by repeat (first | exact trivial | refine ⟨rfl, ?_⟩ | refine ⟨sl_eq (by first | omega | (simp only; omega)), ?_⟩)), (by repeat (first | exact trivial | refine ⟨at_dat rfl, ?_⟩))⟩)
  · rintro i1 ⟨hii, hi1, hu⟩ ihu out
    (repeat (refine y_seq ?_))
    refine w_draw (by kernel_rfl) (by kernel_rfl) ?_
    (repeat (refine dw_move rfl rfl rfl ?_))
    refine dw_leqS rfl rfl rfl rfl ?_ ?_
    all_goals intro h1
    · (repeat (first | refine dw_move rfl rfl rfl ?_ | refine dw_ldR rfl rfl rfl (F.ag _ rfl) (recP) rfl (by first | omega | (simp only [Array.size_setIfInBounds, swp_size]; omega)) (by first | omega | (simp only [Array.size_setIfInBounds, swp_size]; omega)) ?_ | refine dw_idxN (q := a) rfl rfl rfl rfl (F.un _ rfl) (F.sz _ rfl) rfl (by omega) (by omega) (by omega) ?_ | refine dw_idxN (q := i1) rfl rfl rfl rfl (F.un _ rfl) (F.sz _ rfl) rfl (by omega) (by omega) (by omega) ?_ | refine dk_callF rfl rfl rfl rfl (by kernel_rfl) rfl (Ctr.callV (cmp_spec d1[i1]! d1[a]!) [] rfl (ExtOk.of rfl) rfl trivial rfl) ?_))
      refine dw_lssS rfl rfl rfl rfl ?_ ?_
      all_goals intro h2
      · (repeat (refine dw_pickT rfl rfl rfl rfl ?_))
        (refine dk_nil ?_); (refine ⟨by kernel_rfl, ?_, ?_⟩); (focus (repeat (first | exact trivial | refine ⟨.inl rfl, ?_⟩ | refine ⟨.inr (by (repeat (refine ⟨(by first | exact rd_idxN (F.un _ rfl) (F.sz _ rfl) rfl rfl rfl (by omega) (by omega) (by omega) | exact rd_arith rfl rfl (.inl ⟨rfl, (Go.IntWalk.i64_in _ ⟨by omega, by omega⟩).symm⟩) | exact rd_arith rfl rfl (.inr (.inl ⟨rfl, (Go.IntWalk.i64_in _ ⟨by omega, by omega⟩).symm⟩)) | exact rd_fieldAddr (F.fo _ _ rfl rfl) rfl | exact rd_move rfl | exact rd_assign rfl | exact rd_load1 (F.ag _ rfl) rfl rfl (cell_box rfl) | exact rd_loadN (F.ag _ rfl) rfl rfl (cellsFrom_box _ 0 rfl rfl) | exact rd_extract rfl rfl | exact rd_lenSl (F.un _ rfl) rfl | exact rd_lenStr (F.un _ rfl) rfl | exact rd_nilCheck rfl | exact rd_pickT rfl rfl | exact rd_pickF rfl rfl), ?_⟩)); exact trivial), ?_⟩ | refine ⟨.inl (by kernel_rfl), ?_⟩)))
        (repeat (first | refine w_region ?_ | refine y_regEnd ?_ | refine y_block ?_ | refine y_inBlock ?_ | refine y_skip ?_ | refine y_condT rfl ?_ | refine w_move rfl rfl rfl ?_ | refine w_assign rfl rfl rfl ?_ | refine w_add rfl rfl rfl rfl (by omega) (by omega) ?_))
        refine ihu _ _ _ (i1 + 1) [] ⟨by omega, by omega, ?_⟩ (by omega) ?_
        · rw [← hu]
          exact (scanUp_go (by omega) (by simpa [ltP] using h2)).symm
        · (refine ⟨(ExtOk.of rfl), rfl, (by repeat (first | exact trivial | refine ⟨rfl, ?_⟩)), (by repeat (first | exact trivial | refine ⟨at_dat rfl, ?_⟩))⟩)
      · (repeat (refine dw_pickT rfl rfl rfl rfl ?_))
        (refine dk_nil ?_); (refine ⟨by kernel_rfl, ?_, ?_⟩); (focus (repeat (first | exact trivial | refine ⟨.inl rfl, ?_⟩ | refine ⟨.inr (by (repeat (refine ⟨(by first | exact rd_idxN (F.un _ rfl) (F.sz _ rfl) rfl rfl rfl (by omega) (by omega) (by omega) | exact rd_arith rfl rfl (.inl ⟨rfl, (Go.IntWalk.i64_in _ ⟨by omega, by omega⟩).symm⟩) | exact rd_arith rfl rfl (.inr (.inl ⟨rfl, (Go.IntWalk.i64_in _ ⟨by omega, by omega⟩).symm⟩)) | exact rd_fieldAddr (F.fo _ _ rfl rfl) rfl | exact rd_move rfl | exact rd_assign rfl | exact rd_load1 (F.ag _ rfl) rfl rfl (cell_box rfl) | exact rd_loadN (F.ag _ rfl) rfl rfl (cellsFrom_box _ 0 rfl rfl) | exact rd_extract rfl rfl | exact rd_lenSl (F.un _ rfl) rfl | exact rd_lenStr (F.un _ rfl) rfl | exact rd_nilCheck rfl | exact rd_pickT rfl rfl | exact rd_pickF rfl rfl), ?_⟩)); exact trivial), ?_⟩ | refine ⟨.inl (by kernel_rfl), ?_⟩)))
        (repeat (first | (refine out _ _ _ i1 [] ⟨hii, hi1, by rw [← hu]; exact scanUp_stop (.inr (by simpa [ltP] using h2))⟩ ?_; (refine ⟨(ExtOk.of rfl), rfl, (by repeat (first | exact trivial | refine ⟨rfl, ?_⟩)), (by repeat (first | exact trivial | refine ⟨at_dat rfl, ?_⟩))⟩)) | (first | refine y_exit rfl ?_ | refine y_condF rfl ?_)))
    · (repeat (first | refine dw_move rfl rfl rfl ?_ | refine dw_pickF rfl rfl rfl rfl ?_ | refine dk_skip rfl rfl ?_))
      (refine dk_nil ?_); (refine ⟨by kernel_rfl, ?_, ?_⟩); (focus (repeat (first | exact trivial | refine ⟨.inl rfl, ?_⟩)))
      (repeat (first | (refine out _ _ _ i1 [] ⟨hii, hi1, by rw [← hu]; exact scanUp_stop (.inl (by omega))⟩ ?_; (refine ⟨(ExtOk.of rfl), rfl, (by repeat (first | exact trivial | refine ⟨rfl, ?_⟩)), (by repeat (first | exact trivial | refine ⟨at_dat rfl, ?_⟩))⟩)) | (first | refine y_exit rfl ?_ | refine y_condF rfl ?_)))
  rintro i2 ⟨hii, hi2, hu⟩
  rw [hu] at e0
  (repeat (first | refine y_seq ?_ | refine y_block ?_))
  refine y_loopE 1 (fun x : Nat => [(0, .slu 0 0 n), (1, .sc (.int .i64 (a : Int))), (4, cmpF), (12, .sc (.int .i64 (i2 : Int))), (13, .sc (.int .i64 (x : Int)))]) (fun _ => [some (rowP n d1)]) (fun x => x ≤ b - 1 ∧ Sort.scanDown (fun y => !ltP y d1[a]!) d1 i2 x = Sort.scanDown (fun y => !ltP y d1[a]!) d1 i2 (b - 1)) (fun x => x) (b - 1) []
    1 (fun x : Nat => [(0, .slu 0 0 n), (1, .sc (.int .i64 (a : Int))), (4, cmpF), (12, .sc (.int .i64 (i2 : Int))), (13, .sc (.int .i64 (x : Int)))]) (fun _ => [some (rowP n d1)]) (fun x => x ≤ b - 1 ∧ Sort.scanDown (fun y => !ltP y d1[a]!) d1 i2 (b - 1) = x)
    (fun _ => rfl) (fun _ => rfl) ⟨Nat.le_refl _, rfl⟩ ?_ (fun _ => rfl) (fun _ => rfl) ?_ ?_
  · (refine ⟨(ExtOk.of rfl), rfl, (by repeat (first | exact trivial | refine ⟨rfl, ?_⟩)), (by repeat (first | exact trivial | refine ⟨at_dat rfl, ?_⟩))⟩)
  · rintro j1 ⟨hjj, hv⟩ ihv out
    (repeat (refine y_seq ?_))
    refine w_draw (by kernel_rfl) (by kernel_rfl) ?_
    (repeat (refine dw_move rfl rfl rfl ?_))
    refine dw_leqS rfl rfl rfl rfl ?_ ?_
    all_goals intro h1
    · (repeat (first | refine dw_move rfl rfl rfl ?_ | refine dw_ldR rfl rfl rfl (F.ag _ rfl) (recP) rfl (by first | omega | (simp only [Array.size_setIfInBounds, swp_size]; omega)) (by first | omega | (simp only [Array.size_setIfInBounds, swp_size]; omega)) ?_ | refine dw_idxN (q := a) rfl rfl rfl rfl (F.un _ rfl) (F.sz _ rfl) rfl (by omega) (by omega) (by omega) ?_ | refine dw_idxN (q := j1) rfl rfl rfl rfl (F.un _ rfl) (F.sz _ rfl) rfl (by omega) (by omega) (by omega) ?_ | refine dk_callF rfl rfl rfl rfl (by kernel_rfl) rfl (Ctr.callV (cmp_spec d1[j1]! d1[a]!) [] rfl (ExtOk.of rfl) rfl trivial rfl) ?_))
      refine dw_lssS rfl rfl rfl rfl ?_ ?_
      all_goals intro h2
      · (repeat (first | refine dw_pickT rfl rfl rfl rfl ?_ | refine dw_notB rfl rfl rfl ?_))
        (refine dk_nil ?_); (refine ⟨by kernel_rfl, ?_, ?_⟩); (focus (repeat (first | exact trivial | refine ⟨.inl rfl, ?_⟩ | refine ⟨.inr (by (repeat (refine ⟨(by first | exact rd_idxN (F.un _ rfl) (F.sz _ rfl) rfl rfl rfl (by omega) (by omega) (by omega) | exact rd_arith rfl rfl (.inl ⟨rfl, (Go.IntWalk.i64_in _ ⟨by omega, by omega⟩).symm⟩) | exact rd_arith rfl rfl (.inr (.inl ⟨rfl, (Go.IntWalk.i64_in _ ⟨by omega, by omega⟩).symm⟩)) | exact rd_fieldAddr (F.fo _ _ rfl rfl) rfl | exact rd_move rfl | exact rd_assign rfl | exact rd_load1 (F.ag _ rfl) rfl rfl (cell_box rfl) | exact rd_loadN (F.ag _ rfl) rfl rfl (cellsFrom_box _ 0 rfl rfl) | exact rd_extract rfl rfl | exact rd_lenSl (F.un _ rfl) rfl | exact rd_lenStr (F.un _ rfl) rfl | exact rd_nilCheck rfl | exact rd_pickT rfl rfl | exact rd_pickF rfl rfl), ?_⟩)); exact trivial), ?_⟩ | refine ⟨.inl (by kernel_rfl), ?_⟩)))
        (repeat (first | (refine out _ _ _ j1 [] ⟨hjj, by rw [← hv]; exact scanDown_stop (.inr (by simpa [ltP] using h2))⟩ ?_; (refine ⟨(ExtOk.of rfl), rfl, (by repeat (first | exact trivial | refine ⟨rfl, ?_⟩)), (by repeat (first | exact trivial | refine ⟨at_dat rfl, ?_⟩))⟩)) | (first | refine y_exit rfl ?_ | refine y_condF rfl ?_)))
      · (repeat (first | refine dw_pickT rfl rfl rfl rfl ?_ | refine dw_notB rfl rfl rfl ?_))
        (refine dk_nil ?_); (refine ⟨by kernel_rfl, ?_, ?_⟩); (focus (repeat (first | exact trivial | refine ⟨.inl rfl, ?_⟩ | refine ⟨.inr (by (repeat (refine ⟨(by first | exact rd_idxN (F.un _ rfl) (F.sz _ rfl) rfl rfl rfl (by omega) (by omega) (by omega) | exact rd_arith rfl rfl (.inl ⟨rfl, (Go.IntWalk.i64_in _ ⟨by omega, by omega⟩).symm⟩) | exact rd_arith rfl rfl (.inr (.inl ⟨rfl, (Go.IntWalk.i64_in _ ⟨by omega, by omega⟩).symm⟩)) | exact rd_fieldAddr (F.fo _ _ rfl rfl) rfl | exact rd_move rfl | exact rd_assign rfl | exact rd_load1 (F.ag _ rfl) rfl rfl (cell_box rfl) | exact rd_loadN (F.ag _ rfl) rfl rfl (cellsFrom_box _ 0 rfl rfl) | exact rd_extract rfl rfl | exact rd_lenSl (F.un _ rfl) rfl | exact rd_lenStr (F.un _ rfl) rfl | exact rd_nilCheck rfl | exact rd_pickT rfl rfl | exact rd_pickF rfl rfl), ?_⟩)); exact trivial), ?_⟩ | refine ⟨.inl (by kernel_rfl), ?_⟩)))
        (repeat (first | refine w_region ?_ | refine y_regEnd ?_ | refine y_block ?_ | refine y_inBlock ?_ | refine y_skip ?_ | refine y_condT rfl ?_ | refine w_move rfl rfl rfl ?_ | refine w_assign rfl rfl rfl ?_ | refine w_sub rfl rfl rfl rfl (by omega) (by omega) ?_))
        obtain ⟨j1, rfl⟩ : ∃ j', j1 = j' + 1 := ⟨j1 - 1, by omega⟩
        refine ihv _ _ _ j1 [] ⟨by omega, ?_⟩ (by omega) ?_
        · rw [← hv]
          exact (scanDown_go (by omega) (by simpa [ltP] using h2)).symm
        · (refine ⟨(ExtOk.of rfl), rfl, (by repeat (first | exact trivial | refine ⟨rfl, ?_⟩ | refine ⟨sl_eq (by first | omega | (simp only; omega)), ?_⟩)), (by repeat (first | exact trivial | refine ⟨at_dat rfl, ?_⟩))⟩)
    · (repeat (first | refine dw_move rfl rfl rfl ?_ | refine dw_pickF rfl rfl rfl rfl ?_ | refine dk_skip rfl rfl ?_))
      (refine dk_nil ?_); (refine ⟨by kernel_rfl, ?_, ?_⟩); (focus (repeat (first | exact trivial | refine ⟨.inl rfl, ?_⟩)))
      (repeat (first | (refine out _ _ _ j1 [] ⟨hjj, by rw [← hv]; exact scanDown_stop (.inl (by omega))⟩ ?_; (refine ⟨(ExtOk.of rfl), rfl, (by repeat (first | exact trivial | refine ⟨rfl, ?_⟩)), (by repeat (first | exact trivial | refine ⟨at_dat rfl, ?_⟩))⟩)) | (first | refine y_exit rfl ?_ | refine y_condF rfl ?_)))
  rintro j2 ⟨hjj, hv⟩
  rw [hv] at e0
  (repeat (first | refine y_seq ?_ | refine w_region ?_ | refine w_move rfl rfl rfl ?_))
  refine w_gtrS rfl rfl rfl rfl ?_ ?_
  all_goals intro h3
  · rw [if_pos (by omega)] at e0
    rw [e0]
    (repeat (first | refine y_seq ?_ | refine y_regEnd ?_ | refine y_condT rfl ?_))
    refine w_draw (by kernel_rfl) (by kernel_rfl) ?_
    (repeat (first | refine dw_move rfl rfl rfl ?_ | refine dw_ldR rfl rfl rfl (F.ag _ rfl) (recP) rfl (by first | omega | (simp only [Array.size_setIfInBounds, swp_size]; omega)) (by first | omega | (simp only [Array.size_setIfInBounds, swp_size]; omega)) ?_ | refine dw_stR rfl rfl rfl (recP) (F.sz _ rfl) rfl (by first | omega | (simp only [Array.size_setIfInBounds, swp_size]; omega)) (by first | omega | (simp only [Array.size_setIfInBounds, swp_size]; omega)) ?_ | refine dw_idxN (q := a) rfl rfl rfl rfl (F.un _ rfl) (F.sz _ rfl) rfl (by omega) (by omega) (by omega) ?_ | refine dw_idxN (q := j2) rfl rfl rfl rfl (F.un _ rfl) (F.sz _ rfl) rfl (by omega) (by omega) (by omega) ?_))
    (refine dk_nil ?_); (refine ⟨by kernel_rfl, ?_, ?_⟩); (focus (repeat (first | exact trivial | refine ⟨.inl rfl, ?_⟩ | refine ⟨.inr (by (repeat (refine ⟨(by first | exact rd_idxN (F.un _ rfl) (F.sz _ rfl) rfl rfl rfl (by omega) (by omega) (by omega) | exact rd_arith rfl rfl (.inl ⟨rfl, (Go.IntWalk.i64_in _ ⟨by omega, by omega⟩).symm⟩) | exact rd_arith rfl rfl (.inr (.inl ⟨rfl, (Go.IntWalk.i64_in _ ⟨by omega, by omega⟩).symm⟩)) | exact rd_fieldAddr (F.fo _ _ rfl rfl) rfl | exact rd_move rfl | exact rd_assign rfl | exact rd_load1 (F.ag _ rfl) rfl rfl (cell_box rfl) | exact rd_loadN (F.ag _ rfl) rfl rfl (cellsFrom_box _ 0 rfl rfl) | exact rd_extract rfl rfl | exact rd_lenSl (F.un _ rfl) rfl | exact rd_lenStr (F.un _ rfl) rfl | exact rd_nilCheck rfl | exact rd_pickT rfl rfl | exact rd_pickF rfl rfl), ?_⟩)); exact trivial), ?_⟩ | refine ⟨.inl (by kernel_rfl), ?_⟩)))
    (repeat (first | refine y_seq ?_ | refine w_region ?_ | refine y_regEnd ?_ | refine w_move rfl rfl rfl ?_ | refine w_assign rfl rfl rfl ?_))
    ((apply w_ret Try.func60 (congrArg Array.toList Try.results60)); (focus (repeat (first | exact ResIs.nil | apply ResIs.tmp rfl))); refine ⟨_, rfl, Ends.mk [] (ExtOk.of rfl) rfl rfl ?_⟩)
    exact (by repeat (first | exact trivial | refine ⟨at_dat rfl, ?_⟩))
  rw [if_neg (by omega)] at e0
  rw [e0]
  (repeat (first | refine y_seq ?_ | refine y_regEnd ?_ | refine y_skip ?_ | refine y_condF rfl ?_))
  refine w_draw (by kernel_rfl) (by kernel_rfl) ?_
  (repeat (first | refine dw_move rfl rfl rfl ?_ | refine dw_ldR rfl rfl rfl (F.ag _ rfl) (recP) rfl (by first | omega | (simp only [Array.size_setIfInBounds, swp_size]; omega)) (by first | omega | (simp only [Array.size_setIfInBounds, swp_size]; omega)) ?_ | refine dw_stR rfl rfl rfl (recP) (F.sz _ rfl) rfl (by first | omega | (simp only [Array.size_setIfInBounds, swp_size]; omega)) (by first | omega | (simp only [Array.size_setIfInBounds, swp_size]; omega)) ?_ | refine dw_idxN (q := i2) rfl rfl rfl rfl (F.un _ rfl) (F.sz _ rfl) rfl (by omega) (by omega) (by omega) ?_ | refine dw_idxN (q := j2) rfl rfl rfl rfl (F.un _ rfl) (F.sz _ rfl) rfl (by omega) (by omega) (by omega) ?_))
  (refine dk_nil ?_); (refine ⟨by kernel_rfl, ?_, ?_⟩); (focus (repeat (first | exact trivial | refine ⟨.inl rfl, ?_⟩ | refine ⟨.inr (by (repeat (refine ⟨(by first | exact rd_idxN (F.un _ rfl) (F.sz _ rfl) rfl rfl rfl (by omega) (by omega) (by omega) | exact rd_arith rfl rfl (.inl ⟨rfl, (Go.IntWalk.i64_in _ ⟨by omega, by omega⟩).symm⟩) | exact rd_arith rfl rfl (.inr (.inl ⟨rfl, (Go.IntWalk.i64_in _ ⟨by omega, by omega⟩).symm⟩)) | exact rd_fieldAddr (F.fo _ _ rfl rfl) rfl | exact rd_move rfl | exact rd_assign rfl | exact rd_load1 (F.ag _ rfl) rfl rfl (cell_box rfl) | exact rd_loadN (F.ag _ rfl) rfl rfl (cellsFrom_box _ 0 rfl rfl) | exact rd_extract rfl rfl | exact rd_lenSl (F.un _ rfl) rfl | exact rd_lenStr (F.un _ rfl) rfl | exact rd_nilCheck rfl | exact rd_pickT rfl rfl | exact rd_pickF rfl rfl), ?_⟩)); exact trivial), ?_⟩ | refine ⟨.inl (by kernel_rfl), ?_⟩)))
  (repeat (first | refine y_seq ?_ | refine w_region ?_ | refine y_regEnd ?_ | refine y_block ?_ | refine w_move rfl rfl rfl ?_ | refine w_assign rfl rfl rfl ?_ | refine w_add rfl rfl rfl rfl (by omega) (by omega) ?_ | refine w_sub rfl rfl rfl rfl (by omega) (by omega) ?_))
  refine y_loopE 1 (fun s : (Nat × Nat) × Array (Int × Int) => [(0, .slu 0 0 n), (1, .sc (.int .i64 (a : Int))), (4, cmpF), (12, .sc (.int .i64 (s.1.1 : Int))), (13, .sc (.int .i64 (s.1.2 : Int)))]) (fun s => [some (rowP n s.2)]) (fun s => a < s.1.1 ∧ s.1.1 ≤ n ∧ s.1.2 < n ∧ s.2.size = n ∧ Sort.partLoop ltP a s.1.1 s.1.2 s.2 = Sort.partLoop ltP a (i2 + 1) (j2 - 1) (Sort.swp d1 i2 j2)) (fun s => s.1.2 + 1 - s.1.1) ((i2 + 1, j2 - 1), Sort.swp d1 i2 j2) []
    1 (fun s : Nat × Array (Int × Int) => [(0, .slu 0 0 n), (1, .sc (.int .i64 (a : Int))), (4, cmpF), (13, .sc (.int .i64 (s.1 : Int)))]) (fun s => [some (rowP n s.2)]) (fun s => s.1 < n ∧ s.2.size = n ∧ Sort.partLoop ltP a (i2 + 1) (j2 - 1) (Sort.swp d1 i2 j2) = s)
    (fun _ => rfl) (fun _ => rfl) ⟨by simp only; omega, by simp only; omega, by simp only; omega, by rw [swp_size]; exact hd1, rfl⟩ ?_ (fun _ => rfl) (fun _ => rfl) ?_ ?_
  · (refine ⟨(ExtOk.of rfl), rfl, (by repeat (first | exact trivial | refine ⟨rfl, ?_⟩ | refine ⟨sl_eq (by first | omega | (simp only; omega)), ?_⟩)), (by repeat (first | exact trivial | refine ⟨at_dat rfl, ?_⟩))⟩)
  · rintro ⟨⟨i, j⟩, d3⟩ ⟨hai, hi, hj, hd3, ho⟩ ih outer
    simp only at hai hi hj hd3 ho ih ⊢
    (repeat (first | refine y_seq ?_ | refine y_block ?_))
    refine y_loopE 1 (fun x : Nat => [(0, .slu 0 0 n), (1, .sc (.int .i64 (a : Int))), (4, cmpF), (12, .sc (.int .i64 (x : Int))), (13, .sc (.int .i64 (j : Int)))]) (fun _ => [some (rowP n d3)]) (fun x => i ≤ x ∧ x ≤ n ∧ Sort.scanUp (fun y => ltP y d3[a]!) d3 j x = Sort.scanUp (fun y => ltP y d3[a]!) d3 j i) (fun x => n - x) i []
      1 (fun x : Nat => [(0, .slu 0 0 n), (1, .sc (.int .i64 (a : Int))), (4, cmpF), (12, .sc (.int .i64 (x : Int))), (13, .sc (.int .i64 (j : Int)))]) (fun _ => [some (rowP n d3)]) (fun x => i ≤ x ∧ x ≤ n ∧ Sort.scanUp (fun y => ltP y d3[a]!) d3 j i = x)
      (fun _ => rfl) (fun _ => rfl) ⟨Nat.le_refl _, hi, rfl⟩ ?_ (fun _ => rfl) (fun _ => rfl) ?_ ?_
    · (refine ⟨(ExtOk.of rfl), rfl, (by repeat (first | exact trivial | refine ⟨rfl, ?_⟩)), (by repeat (first | exact trivial | refine ⟨at_dat rfl, ?_⟩))⟩)
    · rintro i1 ⟨hii, hi1, hu⟩ ihu out
      (repeat (refine y_seq ?_))
      refine w_draw (by kernel_rfl) (by kernel_rfl) ?_
      (repeat (refine dw_move rfl rfl rfl ?_))
      refine dw_leqS rfl rfl rfl rfl ?_ ?_
      all_goals intro h1
      · (repeat (first | refine dw_move rfl rfl rfl ?_ | refine dw_ldR rfl rfl rfl (F.ag _ rfl) (recP) rfl (by first | omega | (simp only [Array.size_setIfInBounds, swp_size]; omega)) (by first | omega | (simp only [Array.size_setIfInBounds, swp_size]; omega)) ?_ | refine dw_idxN (q := a) rfl rfl rfl rfl (F.un _ rfl) (F.sz _ rfl) rfl (by omega) (by omega) (by omega) ?_ | refine dw_idxN (q := i1) rfl rfl rfl rfl (F.un _ rfl) (F.sz _ rfl) rfl (by omega) (by omega) (by omega) ?_ | refine dk_callF rfl rfl rfl rfl (by kernel_rfl) rfl (Ctr.callV (cmp_spec d3[i1]! d3[a]!) [] rfl (ExtOk.of rfl) rfl trivial rfl) ?_))
        refine dw_lssS rfl rfl rfl rfl ?_ ?_
        all_goals intro h2
        · (repeat (refine dw_pickT rfl rfl rfl rfl ?_))
          (refine dk_nil ?_); (refine ⟨by kernel_rfl, ?_, ?_⟩); (focus (repeat (first | exact trivial | refine ⟨.inl rfl, ?_⟩ | refine ⟨.inr (by (repeat (refine ⟨(by first | exact rd_idxN (F.un _ rfl) (F.sz _ rfl) rfl rfl rfl (by omega) (by omega) (by omega) | exact rd_arith rfl rfl (.inl ⟨rfl, (Go.IntWalk.i64_in _ ⟨by omega, by omega⟩).symm⟩) | exact rd_arith rfl rfl (.inr (.inl ⟨rfl, (Go.IntWalk.i64_in _ ⟨by omega, by omega⟩).symm⟩)) | exact rd_fieldAddr (F.fo _ _ rfl rfl) rfl | exact rd_move rfl | exact rd_assign rfl | exact rd_load1 (F.ag _ rfl) rfl rfl (cell_box rfl) | exact rd_loadN (F.ag _ rfl) rfl rfl (cellsFrom_box _ 0 rfl rfl) | exact rd_extract rfl rfl | exact rd_lenSl (F.un _ rfl) rfl | exact rd_lenStr (F.un _ rfl) rfl | exact rd_nilCheck rfl | exact rd_pickT rfl rfl | exact rd_pickF rfl rfl), ?_⟩)); exact trivial), ?_⟩ | refine ⟨.inl (by kernel_rfl), ?_⟩)))
          (repeat (first | refine w_region ?_ | refine y_regEnd ?_ | refine y_block ?_ | refine y_inBlock ?_ | refine y_skip ?_ | refine y_condT rfl ?_ | refine w_move rfl rfl rfl ?_ | refine w_assign rfl rfl rfl ?_ | refine w_add rfl rfl rfl rfl (by omega) (by omega) ?_))
          refine ihu _ _ _ (i1 + 1) [] ⟨by omega, by omega, ?_⟩ (by omega) ?_
          · rw [← hu]
            exact (scanUp_go (by omega) (by simpa [ltP] using h2)).symm
          · (refine ⟨(ExtOk.of rfl), rfl, (by repeat (first | exact trivial | refine ⟨rfl, ?_⟩)), (by repeat (first | exact trivial | refine ⟨at_dat rfl, ?_⟩))⟩)
        · (repeat (refine dw_pickT rfl rfl rfl rfl ?_))
          (refine dk_nil ?_); (refine ⟨by kernel_rfl, ?_, ?_⟩); (focus (repeat (first | exact trivial | refine ⟨.inl rfl, ?_⟩ | refine ⟨.inr (by (repeat (refine ⟨(by first | exact rd_idxN (F.un _ rfl) (F.sz _ rfl) rfl rfl rfl (by omega) (by omega) (by omega) | exact rd_arith rfl rfl (.inl ⟨rfl, (Go.IntWalk.i64_in _ ⟨by omega, by omega⟩).symm⟩) | exact rd_arith rfl rfl (.inr (.inl ⟨rfl, (Go.IntWalk.i64_in _ ⟨by omega, by omega⟩).symm⟩)) | exact rd_fieldAddr (F.fo _ _ rfl rfl) rfl | exact rd_move rfl | exact rd_assign rfl | exact rd_load1 (F.ag _ rfl) rfl rfl (cell_box rfl) | exact rd_loadN (F.ag _ rfl) rfl rfl (cellsFrom_box _ 0 rfl rfl) | exact rd_extract rfl rfl | exact rd_lenSl (F.un _ rfl) rfl | exact rd_lenStr (F.un _ rfl) rfl | exact rd_nilCheck rfl | exact rd_pickT rfl rfl | exact rd_pickF rfl rfl), ?_⟩)); exact trivial), ?_⟩ | refine ⟨.inl (by kernel_rfl), ?_⟩)))
          (repeat (first | (refine out _ _ _ i1 [] ⟨hii, hi1, by rw [← hu]; exact scanUp_stop (.inr (by simpa [ltP] using h2))⟩ ?_; (refine ⟨(ExtOk.of rfl), rfl, (by repeat (first | exact trivial | refine ⟨rfl, ?_⟩)), (by repeat (first | exact trivial | refine ⟨at_dat rfl, ?_⟩))⟩)) | (first | refine y_exit rfl ?_ | refine y_condF rfl ?_)))
      · (repeat (first | refine dw_move rfl rfl rfl ?_ | refine dw_pickF rfl rfl rfl rfl ?_ | refine dk_skip rfl rfl ?_))
        (refine dk_nil ?_); (refine ⟨by kernel_rfl, ?_, ?_⟩); (focus (repeat (first | exact trivial | refine ⟨.inl rfl, ?_⟩)))
        (repeat (first | (refine out _ _ _ i1 [] ⟨hii, hi1, by rw [← hu]; exact scanUp_stop (.inl (by omega))⟩ ?_; (refine ⟨(ExtOk.of rfl), rfl, (by repeat (first | exact trivial | refine ⟨rfl, ?_⟩)), (by repeat (first | exact trivial | refine ⟨at_dat rfl, ?_⟩))⟩)) | (first | refine y_exit rfl ?_ | refine y_condF rfl ?_)))
    rintro i3 ⟨hii3, hi3, hu3⟩
    (repeat (first | refine y_seq ?_ | refine y_block ?_))
    refine y_loopE 1 (fun x : Nat => [(0, .slu 0 0 n), (1, .sc (.int .i64 (a : Int))), (4, cmpF), (12, .sc (.int .i64 (i3 : Int))), (13, .sc (.int .i64 (x : Int)))]) (fun _ => [some (rowP n d3)]) (fun x => x ≤ j ∧ Sort.scanDown (fun y => !ltP y d3[a]!) d3 i3 x = Sort.scanDown (fun y => !ltP y d3[a]!) d3 i3 (j)) (fun x => x) (j) []
      1 (fun x : Nat => [(0, .slu 0 0 n), (1, .sc (.int .i64 (a : Int))), (4, cmpF), (12, .sc (.int .i64 (i3 : Int))), (13, .sc (.int .i64 (x : Int)))]) (fun _ => [some (rowP n d3)]) (fun x => x ≤ j ∧ Sort.scanDown (fun y => !ltP y d3[a]!) d3 i3 (j) = x)
      (fun _ => rfl) (fun _ => rfl) ⟨Nat.le_refl _, rfl⟩ ?_ (fun _ => rfl) (fun _ => rfl) ?_ ?_
    · (refine ⟨(ExtOk.of rfl), rfl, (by repeat (first | exact trivial | refine ⟨rfl, ?_⟩)), (by repeat (first | exact trivial | refine ⟨at_dat rfl, ?_⟩))⟩)
    · rintro j1 ⟨hjj, hv⟩ ihv out
      (repeat (refine y_seq ?_))
      refine w_draw (by kernel_rfl) (by kernel_rfl) ?_
      (repeat (refine dw_move rfl rfl rfl ?_))
      refine dw_leqS rfl rfl rfl rfl ?_ ?_
      all_goals intro h1
      · (repeat (first | refine dw_move rfl rfl rfl ?_ | refine dw_ldR rfl rfl rfl (F.ag _ rfl) (recP) rfl (by first | omega | (simp only [Array.size_setIfInBounds, swp_size]; omega)) (by first | omega | (simp only [Array.size_setIfInBounds, swp_size]; omega)) ?_ | refine dw_idxN (q := a) rfl rfl rfl rfl (F.un _ rfl) (F.sz _ rfl) rfl (by omega) (by omega) (by omega) ?_ | refine dw_idxN (q := j1) rfl rfl rfl rfl (F.un _ rfl) (F.sz _ rfl) rfl (by omega) (by omega) (by omega) ?_ | refine dk_callF rfl rfl rfl rfl (by kernel_rfl) rfl (Ctr.callV (cmp_spec d3[j1]! d3[a]!) [] rfl (ExtOk.of rfl) rfl trivial rfl) ?_))
        refine dw_lssS rfl rfl rfl rfl ?_ ?_
        all_goals intro h2
        · (repeat (first | refine dw_pickT rfl rfl rfl rfl ?_ | refine dw_notB rfl rfl rfl ?_))
          (refine dk_nil ?_); (refine ⟨by kernel_rfl, ?_, ?_⟩); (focus (repeat (first | exact trivial | refine ⟨.inl rfl, ?_⟩ | refine ⟨.inr (by (repeat (refine ⟨(by first | exact rd_idxN (F.un _ rfl) (F.sz _ rfl) rfl rfl rfl (by omega) (by omega) (by omega) | exact rd_arith rfl rfl (.inl ⟨rfl, (Go.IntWalk.i64_in _ ⟨by omega, by omega⟩).symm⟩) | exact rd_arith rfl rfl (.inr (.inl ⟨rfl, (Go.IntWalk.i64_in _ ⟨by omega, by omega⟩).symm⟩)) | exact rd_fieldAddr (F.fo _ _ rfl rfl) rfl | exact rd_move rfl | exact rd_assign rfl | exact rd_load1 (F.ag _ rfl) rfl rfl (cell_box rfl) | exact rd_loadN (F.ag _ rfl) rfl rfl (cellsFrom_box _ 0 rfl rfl) | exact rd_extract rfl rfl | exact rd_lenSl (F.un _ rfl) rfl | exact rd_lenStr (F.un _ rfl) rfl | exact rd_nilCheck rfl | exact rd_pickT rfl rfl | exact rd_pickF rfl rfl), ?_⟩)); exact trivial), ?_⟩ | refine ⟨.inl (by kernel_rfl), ?_⟩)))
          (repeat (first | (refine out _ _ _ j1 [] ⟨hjj, by rw [← hv]; exact scanDown_stop (.inr (by simpa [ltP] using h2))⟩ ?_; (refine ⟨(ExtOk.of rfl), rfl, (by repeat (first | exact trivial | refine ⟨rfl, ?_⟩)), (by repeat (first | exact trivial | refine ⟨at_dat rfl, ?_⟩))⟩)) | (first | refine y_exit rfl ?_ | refine y_condF rfl ?_)))
        · (repeat (first | refine dw_pickT rfl rfl rfl rfl ?_ | refine dw_notB rfl rfl rfl ?_))
          (refine dk_nil ?_); (refine ⟨by kernel_rfl, ?_, ?_⟩); (focus (repeat (first | exact trivial | refine ⟨.inl rfl, ?_⟩ | refine ⟨.inr (by (repeat (refine ⟨(by first | exact rd_idxN (F.un _ rfl) (F.sz _ rfl) rfl rfl rfl (by omega) (by omega) (by omega) | exact rd_arith rfl rfl (.inl ⟨rfl, (Go.IntWalk.i64_in _ ⟨by omega, by omega⟩).symm⟩) | exact rd_arith rfl rfl (.inr (.inl ⟨rfl, (Go.IntWalk.i64_in _ ⟨by omega, by omega⟩).symm⟩)) | exact rd_fieldAddr (F.fo _ _ rfl rfl) rfl | exact rd_move rfl | exact rd_assign rfl | exact rd_load1 (F.ag _ rfl) rfl rfl (cell_box rfl) | exact rd_loadN (F.ag _ rfl) rfl rfl (cellsFrom_box _ 0 rfl rfl) | exact rd_extract rfl rfl | exact rd_lenSl (F.un _ rfl) rfl | exact rd_lenStr (F.un _ rfl) rfl | exact rd_nilCheck rfl | exact rd_pickT rfl rfl | exact rd_pickF rfl rfl), ?_⟩)); exact trivial), ?_⟩ | refine ⟨.inl (by kernel_rfl), ?_⟩)))
          (repeat (first | refine w_region ?_ | refine y_regEnd ?_ | refine y_block ?_ | refine y_inBlock ?_ | refine y_skip ?_ | refine y_condT rfl ?_ | refine w_move rfl rfl rfl ?_ | refine w_assign rfl rfl rfl ?_ | refine w_sub rfl rfl rfl rfl (by omega) (by omega) ?_))
          obtain ⟨j1, rfl⟩ : ∃ j', j1 = j' + 1 := ⟨j1 - 1, by omega⟩
          refine ihv _ _ _ j1 [] ⟨by omega, ?_⟩ (by omega) ?_
          · rw [← hv]
            exact (scanDown_go (by omega) (by simpa [ltP] using h2)).symm
          · (refine ⟨(ExtOk.of rfl), rfl, (by repeat (first | exact trivial | refine ⟨rfl, ?_⟩ | refine ⟨sl_eq (by first | omega | (simp only; omega)), ?_⟩)), (by repeat (first | exact trivial | refine ⟨at_dat rfl, ?_⟩))⟩)
      · (repeat (first | refine dw_move rfl rfl rfl ?_ | refine dw_pickF rfl rfl rfl rfl ?_ | refine dk_skip rfl rfl ?_))
        (refine dk_nil ?_); (refine ⟨by kernel_rfl, ?_, ?_⟩); (focus (repeat (first | exact trivial | refine ⟨.inl rfl, ?_⟩)))
        (repeat (first | (refine out _ _ _ j1 [] ⟨hjj, by rw [← hv]; exact scanDown_stop (.inl (by omega))⟩ ?_; (refine ⟨(ExtOk.of rfl), rfl, (by repeat (first | exact trivial | refine ⟨rfl, ?_⟩)), (by repeat (first | exact trivial | refine ⟨at_dat rfl, ?_⟩))⟩)) | (first | refine y_exit rfl ?_ | refine y_condF rfl ?_)))
    rintro j3 ⟨hjj3, hv3⟩
    have e := part_step hu3 hv3 hii3 hjj3
    (repeat (first | refine y_seq ?_ | refine w_region ?_ | refine w_move rfl rfl rfl ?_))
    refine w_gtrS rfl rfl rfl rfl ?_ ?_
    all_goals intro h3
    · rw [ho, if_pos (by omega)] at e
      (repeat (first | (refine outer _ _ _ (j3, d3) [] ⟨by simp only; omega, hd3, e⟩ ?_; (refine ⟨(ExtOk.of rfl), rfl, (by repeat (first | exact trivial | refine ⟨rfl, ?_⟩)), (by repeat (first | exact trivial | refine ⟨at_dat rfl, ?_⟩))⟩)) | (first | refine y_regEnd ?_ | refine y_exit rfl ?_ | refine y_condT rfl ?_)))
    · rw [ho, if_neg (by omega)] at e
      (repeat (first | refine y_seq ?_ | refine y_regEnd ?_ | refine y_skip ?_ | refine y_condF rfl ?_))
      refine w_draw (by kernel_rfl) (by kernel_rfl) ?_
      (repeat (first | refine dw_move rfl rfl rfl ?_ | refine dw_ldR rfl rfl rfl (F.ag _ rfl) (recP) rfl (by first | omega | (simp only [Array.size_setIfInBounds, swp_size]; omega)) (by first | omega | (simp only [Array.size_setIfInBounds, swp_size]; omega)) ?_ | refine dw_stR rfl rfl rfl (recP) (F.sz _ rfl) rfl (by first | omega | (simp only [Array.size_setIfInBounds, swp_size]; omega)) (by first | omega | (simp only [Array.size_setIfInBounds, swp_size]; omega)) ?_ | refine dw_idxN (q := i3) rfl rfl rfl rfl (F.un _ rfl) (F.sz _ rfl) rfl (by omega) (by omega) (by omega) ?_ | refine dw_idxN (q := j3) rfl rfl rfl rfl (F.un _ rfl) (F.sz _ rfl) rfl (by omega) (by omega) (by omega) ?_))
      (refine dk_nil ?_); (refine ⟨by kernel_rfl, ?_, ?_⟩); (focus (repeat (first | exact trivial | refine ⟨.inl rfl, ?_⟩ | refine ⟨.inr (by (repeat (refine ⟨(by first | exact rd_idxN (F.un _ rfl) (F.sz _ rfl) rfl rfl rfl (by omega) (by omega) (by omega) | exact rd_arith rfl rfl (.inl ⟨rfl, (Go.IntWalk.i64_in _ ⟨by omega, by omega⟩).symm⟩) | exact rd_arith rfl rfl (.inr (.inl ⟨rfl, (Go.IntWalk.i64_in _ ⟨by omega, by omega⟩).symm⟩)) | exact rd_fieldAddr (F.fo _ _ rfl rfl) rfl | exact rd_move rfl | exact rd_assign rfl | exact rd_load1 (F.ag _ rfl) rfl rfl (cell_box rfl) | exact rd_loadN (F.ag _ rfl) rfl rfl (cellsFrom_box _ 0 rfl rfl) | exact rd_extract rfl rfl | exact rd_lenSl (F.un _ rfl) rfl | exact rd_lenStr (F.un _ rfl) rfl | exact rd_nilCheck rfl | exact rd_pickT rfl rfl | exact rd_pickF rfl rfl), ?_⟩)); exact trivial), ?_⟩ | refine ⟨.inl (by kernel_rfl), ?_⟩)))
      (repeat (first | refine y_seq ?_ | refine w_region ?_ | refine y_regEnd ?_ | refine y_inBlock ?_ | refine w_move rfl rfl rfl ?_ | refine w_assign rfl rfl rfl ?_ | refine w_add rfl rfl rfl rfl (by omega) (by omega) ?_ | refine w_sub rfl rfl rfl rfl (by omega) (by omega) ?_))
      refine ih _ _ _ ((i3 + 1, j3 - 1), Sort.swp d3 i3 j3) [] ⟨by simp only; omega, by simp only; omega, by simp only; omega, by rw [swp_size]; exact hd3, e.symm⟩ (by simp only; omega) ?_
      (refine ⟨(ExtOk.of rfl), rfl, (by repeat (first | exact trivial | refine ⟨rfl, ?_⟩ | refine ⟨sl_eq (by first | omega | (simp only; omega)), ?_⟩)), (by repeat (first | exact trivial | refine ⟨at_dat rfl, ?_⟩))⟩)
  rintro ⟨j3, d3⟩ ⟨hj3, hd3, e⟩
  simp only at hj3 hd3 e ⊢
  rw [e]
  (repeat (refine y_seq ?_))
  refine w_draw (by kernel_rfl) (by kernel_rfl) ?_
  (repeat (first | refine dw_move rfl rfl rfl ?_ | refine dw_ldR rfl rfl rfl (F.ag _ rfl) (recP) rfl (by first | omega | (simp only [Array.size_setIfInBounds, swp_size]; omega)) (by first | omega | (simp only [Array.size_setIfInBounds, swp_size]; omega)) ?_ | refine dw_stR rfl rfl rfl (recP) (F.sz _ rfl) rfl (by first | omega | (simp only [Array.size_setIfInBounds, swp_size]; omega)) (by first | omega | (simp only [Array.size_setIfInBounds, swp_size]; omega)) ?_ | refine dw_idxN (q := a) rfl rfl rfl rfl (F.un _ rfl) (F.sz _ rfl) rfl (by omega) (by omega) (by omega) ?_ | refine dw_idxN (q := j3) rfl rfl rfl rfl (F.un _ rfl) (F.sz _ rfl) rfl (by omega) (by omega) (by omega) ?_))
  (refine dk_nil ?_); (refine ⟨by kernel_rfl, ?_, ?_⟩); (focus (repeat (first | exact trivial | refine ⟨.inl rfl, ?_⟩ | refine ⟨.inr (by (repeat (refine ⟨(by first | exact rd_idxN (F.un _ rfl) (F.sz _ rfl) rfl rfl rfl (by omega) (by omega) (by omega) | exact rd_arith rfl rfl (.inl ⟨rfl, (Go.IntWalk.i64_in _ ⟨by omega, by omega⟩).symm⟩) | exact rd_arith rfl rfl (.inr (.inl ⟨rfl, (Go.IntWalk.i64_in _ ⟨by omega, by omega⟩).symm⟩)) | exact rd_fieldAddr (F.fo _ _ rfl rfl) rfl | exact rd_move rfl | exact rd_assign rfl | exact rd_load1 (F.ag _ rfl) rfl rfl (cell_box rfl) | exact rd_loadN (F.ag _ rfl) rfl rfl (cellsFrom_box _ 0 rfl rfl) | exact rd_extract rfl rfl | exact rd_lenSl (F.un _ rfl) rfl | exact rd_lenStr (F.un _ rfl) rfl | exact rd_nilCheck rfl | exact rd_pickT rfl rfl | exact rd_pickF rfl rfl), ?_⟩)); exact trivial), ?_⟩ | refine ⟨.inl (by kernel_rfl), ?_⟩)))
  (repeat (first | refine y_seq ?_ | refine w_region ?_ | refine y_regEnd ?_ | refine w_move rfl rfl rfl ?_ | refine w_assign rfl rfl rfl ?_))
  ((apply w_ret Try.func60 (congrArg Array.toList Try.results60)); (focus (repeat (first | exact ResIs.nil | apply ResIs.tmp rfl))); refine ⟨_, rfl, Ends.mk [] (ExtOk.of rfl) rfl rfl ?_⟩)
  exact (by repeat (first | exact trivial | refine ⟨at_dat rfl, ?_⟩))
end Go.Proofs.Ytfkfiafohcoomaa
end
section
namespace Go.Proofs.Ytfkfiafohcoomaa
open Go Go.Sy
theorem scanSorted_go {lt : Int × Int → Int × Int → Bool} {d : Array (Int × Int)} {b i : Nat} (h : i < b) (hp : lt d[i]! d[i - 1]! = false) : Sort.scanSorted lt d b i = Sort.scanSorted lt d b (i + 1) := by
  conv => lhs; rw [Sort.scanSorted, if_pos (by simp [h, hp])]
theorem scanSorted_stop {lt : Int × Int → Int × Int → Bool} {d : Array (Int × Int)} {b i : Nat} (h : b ≤ i ∨ lt d[i]! d[i - 1]! = true) : Sort.scanSorted lt d b i = i := by
  rw [Sort.scanSorted, if_neg]
  simp only [Bool.and_eq_true, decide_eq_true_eq, Bool.not_eq_true']
  rintro ⟨h1, h2⟩
  rcases h with h | h
  · omega
  · rw [h] at h2; cases h2
theorem shiftUp_go {lt : Int × Int → Int × Int → Bool} {d : Array (Int × Int)} {b j : Nat} (h : j < b) (hp : lt d[j]! d[j - 1]! = true) : Sort.shiftUp lt b j d = Sort.shiftUp lt b (j + 1) (Sort.swp d j (j - 1)) := by
  conv => lhs; rw [Sort.shiftUp, if_pos h, if_neg (by simp [hp])]
theorem shiftUp_stop {lt : Int × Int → Int × Int → Bool} {d : Array (Int × Int)} {b j : Nat} (h : b ≤ j ∨ lt d[j]! d[j - 1]! = false) : Sort.shiftUp lt b j d = d := by
  rw [Sort.shiftUp]
  split
  · rename_i h1
    rw [if_pos]
    rcases h with h | h
    · omega
    · simp [h]
  · rfl
theorem pins_step {lt : Int × Int → Int × Int → Bool} {a b s i i1 : Nat} {d d2 d3 : Array (Int × Int)} (hi : Sort.scanSorted lt d b i = i1) (h1 : i1 ≠ b) (h2 : ¬ b - a < 50)
    (e2 : (if i1 - a ≥ 2 then Sort.shiftDown lt (i1 - 1) (Sort.swp d i1 (i1 - 1)) else Sort.swp d i1 (i1 - 1)) = d2) (e3 : (if b - i1 ≥ 2 then Sort.shiftUp lt b (i1 + 1) d2 else d2) = d3) : Sort.partialIns lt a b (s + 1) i d = Sort.partialIns lt a b s i1 d3 := by
  rw [Sort.partialIns]
  simp only [hi, if_neg h1, if_neg h2]
  rw [e2, e3]
theorem pins_true {lt : Int × Int → Int × Int → Bool} {a b s i i1 : Nat} {d : Array (Int × Int)} (hi : Sort.scanSorted lt d b i = i1) (h1 : i1 = b) : Sort.partialIns lt a b (s + 1) i d = (d, true) := by
  rw [Sort.partialIns]
  simp only [hi, if_pos h1]
theorem pins_false {lt : Int × Int → Int × Int → Bool} {a b s i i1 : Nat} {d : Array (Int × Int)} (hi : Sort.scanSorted lt d b i = i1) (h1 : i1 ≠ b) (h2 : b - a < 50) : Sort.partialIns lt a b (s + 1) i d = (d, false) := by
  rw [Sort.partialIns]
  simp only [hi, if_neg h1, if_pos h2]
set_option maxRecDepth 100000 in
set_option maxHeartbeats 0 in
theorem pins_spec (n a b : Nat) (d : Array (Int × Int)) (hn : n < 4611686018427387904) (hd : d.size = n) (hab : a < b) (hb : b ≤ n) :
    Ctr Try.prog 58 [.slu 0 0 n, .sc (.int .i64 (a : Int)), .sc (.int .i64 (b : Int)), cmpF] [rowP n d] (fun c => c = ⟨.sc (.bool (Sort.partialInsertionSort ltP d a b).2), [some (rowP n (Sort.partialInsertionSort ltP d a b).1)]⟩) := by
  refine Fnc.start Try.func58 rfl rfl ?_
  (repeat (first | refine y_seq ?_ | refine w_region ?_ | refine y_regEnd ?_ | refine y_block ?_ | refine w_move rfl rfl rfl ?_ | refine w_assign rfl rfl rfl ?_ | refine w_add rfl rfl rfl rfl (by omega) (by omega) ?_))
  refine y_loopC 1 (fun s : (Nat × Nat) × Array (Int × Int) => [(0, .slu 0 0 n), (1, .sc (.int .i64 (a : Int))), (2, .sc (.int .i64 (b : Int))), (3, cmpF), (9, .sc (.int .i64 (s.1.2 : Int))), (10, .sc (.int .i64 ((5 - s.1.1 : Nat) : Int)))]) (fun s => [some (rowP n s.2)]) (fun s => s.1.1 ≤ 5 ∧ a + 1 ≤ s.1.2 ∧ s.1.2 ≤ b ∧ s.2.size = n ∧ Sort.partialIns ltP a b s.1.1 s.1.2 s.2 = Sort.partialInsertionSort ltP d a b) (fun s => s.1.1) ((5, a + 1), d) []
    (fun _ => rfl) ⟨Nat.le_refl _, Nat.le_refl _, hab, hd, rfl⟩ ?_ (fun _ => rfl) (fun _ => rfl) ?_
  · (refine ⟨(ExtOk.of rfl), rfl, (by repeat (first | exact trivial | refine ⟨rfl, ?_⟩)), (by repeat (first | exact trivial | refine ⟨at_dat rfl, ?_⟩))⟩)
  rintro ⟨⟨s, i⟩, d0⟩ ⟨hs, hai, hi, hd0, ho⟩ ih
  simp only at hs hai hi hd0 ho ih ⊢
  (repeat (first | refine y_seq ?_ | refine w_region ?_ | refine w_move rfl rfl rfl ?_))
  refine w_lssS rfl rfl rfl rfl ?_ ?_
  all_goals intro h0
  · obtain ⟨s, rfl⟩ : ∃ s', s = s' + 1 := ⟨s - 1, by omega⟩
    (repeat (first | refine y_seq ?_ | refine y_regEnd ?_ | refine y_block ?_ | refine y_skip ?_ | refine y_condT rfl ?_))
    refine y_loopE 1 (fun x : Nat => [(0, .slu 0 0 n), (1, .sc (.int .i64 (a : Int))), (2, .sc (.int .i64 (b : Int))), (3, cmpF), (9, .sc (.int .i64 (x : Int))), (10, .sc (.int .i64 ((5 - (s + 1) : Nat) : Int)))]) (fun _ => [some (rowP n d0)]) (fun x => a + 1 ≤ x ∧ x ≤ b ∧ Sort.scanSorted ltP d0 b x = Sort.scanSorted ltP d0 b i) (fun x => b - x) i []
      1 (fun x : Nat => [(0, .slu 0 0 n), (1, .sc (.int .i64 (a : Int))), (2, .sc (.int .i64 (b : Int))), (3, cmpF), (9, .sc (.int .i64 (x : Int))), (10, .sc (.int .i64 ((5 - (s + 1) : Nat) : Int)))]) (fun _ => [some (rowP n d0)]) (fun x => a + 1 ≤ x ∧ x ≤ b ∧ Sort.scanSorted ltP d0 b i = x)
      (fun _ => rfl) (fun _ => rfl) ⟨hai, hi, rfl⟩ ?_ (fun _ => rfl) (fun _ => rfl) ?_ ?_
    · (refine ⟨(ExtOk.of rfl), rfl, (by repeat (first | exact trivial | refine ⟨rfl, ?_⟩)), (by repeat (first | exact trivial | refine ⟨at_dat rfl, ?_⟩))⟩)
    · rintro i1 ⟨hai1, hi1, hu⟩ ihu out
      (repeat (refine y_seq ?_))
      refine w_draw (by kernel_rfl) (by kernel_rfl) ?_
      (repeat (refine dw_move rfl rfl rfl ?_))
      refine dw_lssS rfl rfl rfl rfl ?_ ?_
      all_goals intro h1
      · (repeat (first | refine dw_move rfl rfl rfl ?_ | refine dw_sub rfl rfl rfl rfl (by omega) (by omega) ?_ | refine dw_ldR rfl rfl rfl (F.ag _ rfl) (recP) rfl (by first | omega | (simp only [Array.size_setIfInBounds, swp_size]; omega)) (by first | omega | (simp only [Array.size_setIfInBounds, swp_size]; omega)) ?_ | refine dw_idxN (q := i1) rfl rfl rfl rfl (F.un _ rfl) (F.sz _ rfl) rfl (by omega) (by omega) (by omega) ?_ | refine dw_idxN (q := i1 - 1) rfl rfl rfl rfl (F.un _ rfl) (F.sz _ rfl) rfl (by omega) (by omega) (by omega) ?_ | refine dk_callF rfl rfl rfl rfl (by kernel_rfl) rfl (Ctr.callV (cmp_spec d0[i1]! d0[i1 - 1]!) [] rfl (ExtOk.of rfl) rfl trivial rfl) ?_))
        refine dw_lssS rfl rfl rfl rfl ?_ ?_
        all_goals intro h2
        · (repeat (first | refine dw_pickT rfl rfl rfl rfl ?_ | refine dw_notB rfl rfl rfl ?_))
          (refine dk_nil ?_); (refine ⟨by kernel_rfl, ?_, ?_⟩); (focus (repeat (first | exact trivial | refine ⟨.inl rfl, ?_⟩ | refine ⟨.inr (by (repeat (refine ⟨(by first | exact rd_idxN (F.un _ rfl) (F.sz _ rfl) rfl rfl rfl (by omega) (by omega) (by omega) | exact rd_arith rfl rfl (.inl ⟨rfl, (Go.IntWalk.i64_in _ ⟨by omega, by omega⟩).symm⟩) | exact rd_arith rfl rfl (.inr (.inl ⟨rfl, (Go.IntWalk.i64_in _ ⟨by omega, by omega⟩).symm⟩)) | exact rd_fieldAddr (F.fo _ _ rfl rfl) rfl | exact rd_move rfl | exact rd_assign rfl | exact rd_load1 (F.ag _ rfl) rfl rfl (cell_box rfl) | exact rd_loadN (F.ag _ rfl) rfl rfl (cellsFrom_box _ 0 rfl rfl) | exact rd_extract rfl rfl | exact rd_lenSl (F.un _ rfl) rfl | exact rd_lenStr (F.un _ rfl) rfl | exact rd_nilCheck rfl | exact rd_pickT rfl rfl | exact rd_pickF rfl rfl), ?_⟩)); exact trivial), ?_⟩ | refine ⟨.inl (by kernel_rfl), ?_⟩)))
          (repeat (first | (refine out _ _ _ i1 [] ⟨hai1, hi1, by rw [← hu]; exact scanSorted_stop (.inr (by simpa [ltP] using h2))⟩ ?_; (refine ⟨(ExtOk.of rfl), rfl, (by repeat (first | exact trivial | refine ⟨rfl, ?_⟩)), (by repeat (first | exact trivial | refine ⟨at_dat rfl, ?_⟩))⟩)) | (first | refine y_exit rfl ?_ | refine y_condF rfl ?_)))
        · (repeat (first | refine dw_pickT rfl rfl rfl rfl ?_ | refine dw_notB rfl rfl rfl ?_))
          (refine dk_nil ?_); (refine ⟨by kernel_rfl, ?_, ?_⟩); (focus (repeat (first | exact trivial | refine ⟨.inl rfl, ?_⟩ | refine ⟨.inr (by (repeat (refine ⟨(by first | exact rd_idxN (F.un _ rfl) (F.sz _ rfl) rfl rfl rfl (by omega) (by omega) (by omega) | exact rd_arith rfl rfl (.inl ⟨rfl, (Go.IntWalk.i64_in _ ⟨by omega, by omega⟩).symm⟩) | exact rd_arith rfl rfl (.inr (.inl ⟨rfl, (Go.IntWalk.i64_in _ ⟨by omega, by omega⟩).symm⟩)) | exact rd_fieldAddr (F.fo _ _ rfl rfl) rfl | exact rd_move rfl | exact rd_assign rfl | exact rd_load1 (F.ag _ rfl) rfl rfl (cell_box rfl) | exact rd_loadN (F.ag _ rfl) rfl rfl (cellsFrom_box _ 0 rfl rfl) | exact rd_extract rfl rfl | exact rd_lenSl (F.un _ rfl) rfl | exact rd_lenStr (F.un _ rfl) rfl | exact rd_nilCheck rfl | exact rd_pickT rfl rfl | exact rd_pickF rfl rfl), ?_⟩)); exact trivial), ?_⟩ | refine ⟨.inl (by kernel_rfl), ?_⟩)))
          (repeat (first | refine w_region ?_ | refine y_regEnd ?_ | refine y_block ?_ | refine y_inBlock ?_ | refine y_skip ?_ | refine y_condT rfl ?_ | refine w_move rfl rfl rfl ?_ | refine w_assign rfl rfl rfl ?_ | refine w_add rfl rfl rfl rfl (by omega) (by omega) ?_))
          refine ihu _ _ _ (i1 + 1) [] ⟨by omega, by omega, ?_⟩ (by omega) ?_
          · rw [← hu]
            exact (scanSorted_go (by omega) (by simpa [ltP] using h2)).symm
          · (refine ⟨(ExtOk.of rfl), rfl, (by repeat (first | exact trivial | refine ⟨rfl, ?_⟩)), (by repeat (first | exact trivial | refine ⟨at_dat rfl, ?_⟩))⟩)
      · (repeat (first | refine dw_move rfl rfl rfl ?_ | refine dw_pickF rfl rfl rfl rfl ?_ | refine dk_skip rfl rfl ?_))
        (refine dk_nil ?_); (refine ⟨by kernel_rfl, ?_, ?_⟩); (focus (repeat (first | exact trivial | refine ⟨.inl rfl, ?_⟩)))
        (repeat (first | (refine out _ _ _ i1 [] ⟨hai1, hi1, by rw [← hu]; exact scanSorted_stop (.inl (by omega))⟩ ?_; (refine ⟨(ExtOk.of rfl), rfl, (by repeat (first | exact trivial | refine ⟨rfl, ?_⟩)), (by repeat (first | exact trivial | refine ⟨at_dat rfl, ?_⟩))⟩)) | (first | refine y_exit rfl ?_ | refine y_condF rfl ?_)))
    rintro i1 ⟨hai1, hi1, hu⟩
    (repeat (first | refine y_seq ?_ | refine w_region ?_ | refine w_move rfl rfl rfl ?_))
    refine w_eqlS rfl rfl rfl rfl ?_ ?_
    all_goals intro h1
    · rw [pins_true hu (by omega)] at ho
      (repeat (first | refine y_seq ?_ | refine w_region ?_ | refine y_regEnd ?_ | refine y_condT rfl ?_ | refine w_assign rfl rfl rfl ?_))
      rw [← ho]
      ((apply w_ret Try.func58 (congrArg Array.toList Try.results58)); (focus (repeat (first | exact ResIs.nil | apply ResIs.tmp rfl))); refine ⟨_, rfl, Ends.mk [] (ExtOk.of rfl) rfl rfl ?_⟩)
      exact (by repeat (first | exact trivial | refine ⟨at_dat rfl, ?_⟩))
    (repeat (first | refine y_seq ?_ | refine w_region ?_ | refine y_regEnd ?_ | refine y_skip ?_ | refine y_condF rfl ?_ | refine w_move rfl rfl rfl ?_ | refine w_sub rfl rfl rfl rfl (by omega) (by omega) ?_))
    refine w_lssS rfl rfl rfl rfl ?_ ?_
    all_goals intro h2
    · rw [pins_false hu (by omega) (by omega)] at ho
      (repeat (first | refine y_seq ?_ | refine w_region ?_ | refine y_regEnd ?_ | refine y_condT rfl ?_ | refine w_assign rfl rfl rfl ?_))
      rw [← ho]
      ((apply w_ret Try.func58 (congrArg Array.toList Try.results58)); (focus (repeat (first | exact ResIs.nil | apply ResIs.tmp rfl))); refine ⟨_, rfl, Ends.mk [] (ExtOk.of rfl) rfl rfl ?_⟩)
      exact (by repeat (first | exact trivial | refine ⟨at_dat rfl, ?_⟩))
    (repeat (first | refine y_seq ?_ | refine y_regEnd ?_ | refine y_skip ?_ | refine y_condF rfl ?_))
    refine w_draw (by kernel_rfl) (by kernel_rfl) ?_
    (repeat (first | refine dw_move rfl rfl rfl ?_ | refine dw_sub rfl rfl rfl rfl (by omega) (by omega) ?_ | refine dw_ldR rfl rfl rfl (F.ag _ rfl) (recP) rfl (by first | omega | (simp only [Array.size_setIfInBounds, swp_size]; omega)) (by first | omega | (simp only [Array.size_setIfInBounds, swp_size]; omega)) ?_ | refine dw_stR rfl rfl rfl (recP) (F.sz _ rfl) rfl (by first | omega | (simp only [Array.size_setIfInBounds, swp_size]; omega)) (by first | omega | (simp only [Array.size_setIfInBounds, swp_size]; omega)) ?_ | refine dw_idxN (q := i1) rfl rfl rfl rfl (F.un _ rfl) (F.sz _ rfl) rfl (by omega) (by omega) (by omega) ?_ | refine dw_idxN (q := i1 - 1) rfl rfl rfl rfl (F.un _ rfl) (F.sz _ rfl) rfl (by omega) (by omega) (by omega) ?_))
    (refine dk_nil ?_); (refine ⟨by kernel_rfl, ?_, ?_⟩); (focus (repeat (first | exact trivial | refine ⟨.inl rfl, ?_⟩ | refine ⟨.inr (by (repeat (refine ⟨(by first | exact rd_idxN (F.un _ rfl) (F.sz _ rfl) rfl rfl rfl (by omega) (by omega) (by omega) | exact rd_arith rfl rfl (.inl ⟨rfl, (Go.IntWalk.i64_in _ ⟨by omega, by omega⟩).symm⟩) | exact rd_arith rfl rfl (.inr (.inl ⟨rfl, (Go.IntWalk.i64_in _ ⟨by omega, by omega⟩).symm⟩)) | exact rd_fieldAddr (F.fo _ _ rfl rfl) rfl | exact rd_move rfl | exact rd_assign rfl | exact rd_load1 (F.ag _ rfl) rfl rfl (cell_box rfl) | exact rd_loadN (F.ag _ rfl) rfl rfl (cellsFrom_box _ 0 rfl rfl) | exact rd_extract rfl rfl | exact rd_lenSl (F.un _ rfl) rfl | exact rd_lenStr (F.un _ rfl) rfl | exact rd_nilCheck rfl | exact rd_pickT rfl rfl | exact rd_pickF rfl rfl), ?_⟩)); exact trivial), ?_⟩ | refine ⟨.inl (by kernel_rfl), ?_⟩)))
    have hd1 : (Sort.swp d0 i1 (i1 - 1)).size = n := by rw [swp_size]; exact hd0
    have e2 : ∃ d2, (if i1 - a ≥ 2 then Sort.shiftDown ltP (i1 - 1) (Sort.swp d0 i1 (i1 - 1)) else Sort.swp d0 i1 (i1 - 1)) = d2 := ⟨_, rfl⟩
    obtain ⟨d2, e2⟩ := e2
    have hps := fun d3 e3 => pins_step (s := s) (d3 := d3) hu (by omega) (by omega) e2 e3
    generalize hsw : Sort.swp d0 i1 (i1 - 1) = d1 at e2 hd1
    have hsw' : (d0.setIfInBounds i1 d0[i1 - 1]!).setIfInBounds (i1 - 1) d0[i1]! = d1 := hsw
    rw [hsw']
    (repeat (first | refine y_seq ?_ | refine w_region ?_ | refine w_move rfl rfl rfl ?_ | refine w_sub rfl rfl rfl rfl (by omega) (by omega) ?_))
    refine w_geqS rfl rfl rfl rfl ?_ ?_
    all_goals intro h3
    · rw [if_pos (by omega)] at e2
      (repeat (first | refine y_seq ?_ | refine w_region ?_ | refine y_regEnd ?_ | refine y_block ?_ | refine y_condT rfl ?_ | refine w_move rfl rfl rfl ?_ | refine w_assign rfl rfl rfl ?_ | refine w_sub rfl rfl rfl rfl (by omega) (by omega) ?_))
      refine y_loopE 1 (fun s1 : Nat × Array (Int × Int) => [(0, .slu 0 0 n), (1, .sc (.int .i64 (a : Int))), (2, .sc (.int .i64 (b : Int))), (3, cmpF), (9, .sc (.int .i64 (i1 : Int))), (10, .sc (.int .i64 ((5 - (s + 1) : Nat) : Int))), (11, .sc (.int .i64 (s1.1 : Int)))]) (fun s1 => [some (rowP n s1.2)]) (fun s1 => s1.1 ≤ i1 - 1 ∧ s1.2.size = n ∧ Sort.shiftDown ltP s1.1 s1.2 = d2) (fun s1 => s1.1) (i1 - 1, d1) []
        1 (fun d' : Array (Int × Int) => [(0, .slu 0 0 n), (1, .sc (.int .i64 (a : Int))), (2, .sc (.int .i64 (b : Int))), (3, cmpF), (9, .sc (.int .i64 (i1 : Int))), (10, .sc (.int .i64 ((5 - (s + 1) : Nat) : Int)))]) (fun d' => [some (rowP n d')]) (fun d' => d'.size = n ∧ d' = d2)
        (fun _ => rfl) (fun _ => rfl) ⟨Nat.le_refl _, hd1, e2⟩ ?_ (fun _ => rfl) (fun _ => rfl) ?_ ?_
      · (refine ⟨(ExtOk.of rfl), rfl, (by repeat (first | exact trivial | refine ⟨rfl, ?_⟩ | refine ⟨sl_eq (by first | omega | (simp only; omega)), ?_⟩)), (by repeat (first | exact trivial | refine ⟨at_dat rfl, ?_⟩))⟩)
      · rintro ⟨j, d'⟩ ⟨hj, hd', hsd⟩ ihd out
        simp only at hj hd' hsd ihd ⊢
        (repeat (first | refine y_seq ?_ | refine w_region ?_ | refine w_move rfl rfl rfl ?_))
        refine w_geqS rfl rfl rfl rfl ?_ ?_
        all_goals intro h4
        · obtain ⟨j, rfl⟩ : ∃ j', j = j' + 1 := ⟨j - 1, by omega⟩
          (repeat (first | refine y_seq ?_ | refine y_regEnd ?_ | refine y_block ?_ | refine y_skip ?_ | refine y_condT rfl ?_))
          refine w_draw (by kernel_rfl) (by kernel_rfl) ?_
          (repeat (first | refine dw_move rfl rfl rfl ?_ | refine dw_sub rfl rfl rfl rfl (by omega) (by omega) ?_ | refine dw_ldR rfl rfl rfl (F.ag _ rfl) (recP) rfl (by first | omega | (simp only [Array.size_setIfInBounds, swp_size]; omega)) (by first | omega | (simp only [Array.size_setIfInBounds, swp_size]; omega)) ?_ | refine dw_idxN (q := j + 1) rfl rfl rfl rfl (F.un _ rfl) (F.sz _ rfl) rfl (by omega) (by omega) (by omega) ?_ | refine dw_idxN (q := j) rfl rfl rfl rfl (F.un _ rfl) (F.sz _ rfl) rfl (by omega) (by omega) (by omega) ?_ | refine dk_callF rfl rfl rfl rfl (by kernel_rfl) rfl (Ctr.callV (cmp_spec d'[j + 1]! d'[j]!) [] rfl (ExtOk.of rfl) rfl trivial rfl) ?_))
          refine dw_lssS rfl rfl rfl rfl ?_ ?_
          all_goals intro h5
          · (repeat (refine dw_notB rfl rfl rfl ?_))
            (refine dk_nil ?_); (refine ⟨by kernel_rfl, ?_, ?_⟩); (focus (repeat (first | exact trivial | refine ⟨.inl rfl, ?_⟩ | refine ⟨.inr (by (repeat (refine ⟨(by first | exact rd_idxN (F.un _ rfl) (F.sz _ rfl) rfl rfl rfl (by omega) (by omega) (by omega) | exact rd_arith rfl rfl (.inl ⟨rfl, (Go.IntWalk.i64_in _ ⟨by omega, by omega⟩).symm⟩) | exact rd_arith rfl rfl (.inr (.inl ⟨rfl, (Go.IntWalk.i64_in _ ⟨by omega, by omega⟩).symm⟩)) | exact rd_fieldAddr (F.fo _ _ rfl rfl) rfl | exact rd_move rfl | exact rd_assign rfl | exact rd_load1 (F.ag _ rfl) rfl rfl (cell_box rfl) | exact rd_loadN (F.ag _ rfl) rfl rfl (cellsFrom_box _ 0 rfl rfl) | exact rd_extract rfl rfl | exact rd_lenSl (F.un _ rfl) rfl | exact rd_lenStr (F.un _ rfl) rfl | exact rd_nilCheck rfl | exact rd_pickT rfl rfl | exact rd_pickF rfl rfl), ?_⟩)); exact trivial), ?_⟩ | refine ⟨.inl (by kernel_rfl), ?_⟩)))
            (repeat (first | refine y_skip ?_ | refine y_condF rfl ?_))
            refine w_draw (by kernel_rfl) (by kernel_rfl) ?_
            (repeat (first | refine dw_move rfl rfl rfl ?_ | refine dw_sub rfl rfl rfl rfl (by omega) (by omega) ?_ | refine dw_ldR rfl rfl rfl (F.ag _ rfl) (recP) rfl (by first | omega | (simp only [Array.size_setIfInBounds, swp_size]; omega)) (by first | omega | (simp only [Array.size_setIfInBounds, swp_size]; omega)) ?_ | refine dw_stR rfl rfl rfl (recP) (F.sz _ rfl) rfl (by first | omega | (simp only [Array.size_setIfInBounds, swp_size]; omega)) (by first | omega | (simp only [Array.size_setIfInBounds, swp_size]; omega)) ?_ | refine dw_idxN (q := j + 1) rfl rfl rfl rfl (F.un _ rfl) (F.sz _ rfl) rfl (by omega) (by omega) (by omega) ?_ | refine dw_idxN (q := j) rfl rfl rfl rfl (F.un _ rfl) (F.sz _ rfl) rfl (by omega) (by omega) (by omega) ?_))
            (refine dk_nil ?_); (refine ⟨by kernel_rfl, ?_, ?_⟩); (focus (repeat (first | exact trivial | refine ⟨.inl rfl, ?_⟩ | refine ⟨.inr (by (repeat (refine ⟨(by first | exact rd_idxN (F.un _ rfl) (F.sz _ rfl) rfl rfl rfl (by omega) (by omega) (by omega) | exact rd_arith rfl rfl (.inl ⟨rfl, (Go.IntWalk.i64_in _ ⟨by omega, by omega⟩).symm⟩) | exact rd_arith rfl rfl (.inr (.inl ⟨rfl, (Go.IntWalk.i64_in _ ⟨by omega, by omega⟩).symm⟩)) | exact rd_fieldAddr (F.fo _ _ rfl rfl) rfl | exact rd_move rfl | exact rd_assign rfl | exact rd_load1 (F.ag _ rfl) rfl rfl (cell_box rfl) | exact rd_loadN (F.ag _ rfl) rfl rfl (cellsFrom_box _ 0 rfl rfl) | exact rd_extract rfl rfl | exact rd_lenSl (F.un _ rfl) rfl | exact rd_lenStr (F.un _ rfl) rfl | exact rd_nilCheck rfl | exact rd_pickT rfl rfl | exact rd_pickF rfl rfl), ?_⟩)); exact trivial), ?_⟩ | refine ⟨.inl (by kernel_rfl), ?_⟩)))
            (repeat (first | refine w_region ?_ | refine y_regEnd ?_ | refine y_inBlock ?_ | refine w_move rfl rfl rfl ?_ | refine w_assign rfl rfl rfl ?_ | refine w_sub rfl rfl rfl rfl (by omega) (by omega) ?_))
            refine ihd _ _ _ (j, Sort.swp d' (j + 1) j) [] ⟨by simp only; omega, by rw [swp_size]; exact hd', ?_⟩ (by simp only; omega) ?_
            · rw [← hsd]
              conv => rhs; rw [Sort.shiftDown, if_neg (by simpa [ltP] using h5)]
            · (refine ⟨(ExtOk.of rfl), rfl, (by repeat (first | exact trivial | refine ⟨rfl, ?_⟩ | refine ⟨sl_eq (by first | omega | (simp only; omega)), ?_⟩)), (by repeat (first | exact trivial | refine ⟨at_dat rfl, ?_⟩))⟩)
          · (repeat (refine dw_notB rfl rfl rfl ?_))
            (refine dk_nil ?_); (refine ⟨by kernel_rfl, ?_, ?_⟩); (focus (repeat (first | exact trivial | refine ⟨.inl rfl, ?_⟩ | refine ⟨.inr (by (repeat (refine ⟨(by first | exact rd_idxN (F.un _ rfl) (F.sz _ rfl) rfl rfl rfl (by omega) (by omega) (by omega) | exact rd_arith rfl rfl (.inl ⟨rfl, (Go.IntWalk.i64_in _ ⟨by omega, by omega⟩).symm⟩) | exact rd_arith rfl rfl (.inr (.inl ⟨rfl, (Go.IntWalk.i64_in _ ⟨by omega, by omega⟩).symm⟩)) | exact rd_fieldAddr (F.fo _ _ rfl rfl) rfl | exact rd_move rfl | exact rd_assign rfl | exact rd_load1 (F.ag _ rfl) rfl rfl (cell_box rfl) | exact rd_loadN (F.ag _ rfl) rfl rfl (cellsFrom_box _ 0 rfl rfl) | exact rd_extract rfl rfl | exact rd_lenSl (F.un _ rfl) rfl | exact rd_lenStr (F.un _ rfl) rfl | exact rd_nilCheck rfl | exact rd_pickT rfl rfl | exact rd_pickF rfl rfl), ?_⟩)); exact trivial), ?_⟩ | refine ⟨.inl (by kernel_rfl), ?_⟩)))
            (repeat (first | (refine out _ _ _ d' [] ⟨hd', by rw [← hsd, Sort.shiftDown, if_pos (by simpa [ltP] using h5)]⟩ ?_; (refine ⟨(ExtOk.of rfl), rfl, (by repeat (first | exact trivial | refine ⟨rfl, ?_⟩)), (by repeat (first | exact trivial | refine ⟨at_dat rfl, ?_⟩))⟩)) | (first | refine y_exit rfl ?_ | refine y_condT rfl ?_)))
        · obtain rfl : j = 0 := by omega
          (repeat (first | (refine out _ _ _ d' [] ⟨hd', hsd⟩ ?_; (refine ⟨(ExtOk.of rfl), rfl, (by repeat (first | exact trivial | refine ⟨rfl, ?_⟩)), (by repeat (first | exact trivial | refine ⟨at_dat rfl, ?_⟩))⟩)) | (first | refine y_regEnd ?_ | refine y_exit rfl ?_ | refine y_condF rfl ?_)))
      rintro d2' ⟨hd2, rfl⟩
      (repeat (first | refine y_seq ?_ | refine w_region ?_ | refine w_move rfl rfl rfl ?_ | refine w_sub rfl rfl rfl rfl (by omega) (by omega) ?_))
      refine w_geqS rfl rfl rfl rfl ?_ ?_
      all_goals intro h6
      · (repeat (first | refine y_seq ?_ | refine w_region ?_ | refine y_regEnd ?_ | refine y_block ?_ | refine y_condT rfl ?_ | refine w_move rfl rfl rfl ?_ | refine w_assign rfl rfl rfl ?_ | refine w_add rfl rfl rfl rfl (by omega) (by omega) ?_))
        refine y_loopE 1 (fun s1 : Nat × Array (Int × Int) => [(0, .slu 0 0 n), (1, .sc (.int .i64 (a : Int))), (2, .sc (.int .i64 (b : Int))), (3, cmpF), (9, .sc (.int .i64 (i1 : Int))), (10, .sc (.int .i64 ((5 - (s + 1) : Nat) : Int))), (12, .sc (.int .i64 (s1.1 : Int)))]) (fun s1 => [some (rowP n s1.2)]) (fun s1 => i1 + 1 ≤ s1.1 ∧ s1.1 ≤ b ∧ s1.2.size = n ∧ Sort.shiftUp ltP b s1.1 s1.2 = Sort.shiftUp ltP b (i1 + 1) d2') (fun s1 => b - s1.1) (i1 + 1, d2') []
          1 (fun d' : Array (Int × Int) => [(0, .slu 0 0 n), (1, .sc (.int .i64 (a : Int))), (2, .sc (.int .i64 (b : Int))), (3, cmpF), (9, .sc (.int .i64 (i1 : Int))), (10, .sc (.int .i64 ((5 - (s + 1) : Nat) : Int)))]) (fun d' => [some (rowP n d')]) (fun d' => d'.size = n ∧ Sort.shiftUp ltP b (i1 + 1) d2' = d')
          (fun _ => rfl) (fun _ => rfl) ⟨Nat.le_refl _, by simp only; omega, hd2, rfl⟩ ?_ (fun _ => rfl) (fun _ => rfl) ?_ ?_
        · (refine ⟨(ExtOk.of rfl), rfl, (by repeat (first | exact trivial | refine ⟨rfl, ?_⟩)), (by repeat (first | exact trivial | refine ⟨at_dat rfl, ?_⟩))⟩)
        · rintro ⟨j, d'⟩ ⟨hj, hjb, hd', hsd⟩ ihd out
          simp only at hj hjb hd' hsd ihd ⊢
          (repeat (first | refine y_seq ?_ | refine w_region ?_ | refine w_move rfl rfl rfl ?_))
          refine w_lssS rfl rfl rfl rfl ?_ ?_
          all_goals intro h4
          · (repeat (first | refine y_seq ?_ | refine y_regEnd ?_ | refine y_block ?_ | refine y_skip ?_ | refine y_condT rfl ?_))
            refine w_draw (by kernel_rfl) (by kernel_rfl) ?_
            (repeat (first | refine dw_move rfl rfl rfl ?_ | refine dw_sub rfl rfl rfl rfl (by omega) (by omega) ?_ | refine dw_ldR rfl rfl rfl (F.ag _ rfl) (recP) rfl (by first | omega | (simp only [Array.size_setIfInBounds, swp_size]; omega)) (by first | omega | (simp only [Array.size_setIfInBounds, swp_size]; omega)) ?_ | refine dw_idxN (q := j) rfl rfl rfl rfl (F.un _ rfl) (F.sz _ rfl) rfl (by omega) (by omega) (by omega) ?_ | refine dw_idxN (q := j - 1) rfl rfl rfl rfl (F.un _ rfl) (F.sz _ rfl) rfl (by omega) (by omega) (by omega) ?_ | refine dk_callF rfl rfl rfl rfl (by kernel_rfl) rfl (Ctr.callV (cmp_spec d'[j]! d'[j - 1]!) [] rfl (ExtOk.of rfl) rfl trivial rfl) ?_))
            refine dw_lssS rfl rfl rfl rfl ?_ ?_
            all_goals intro h5
            · (repeat (refine dw_notB rfl rfl rfl ?_))
              (refine dk_nil ?_); (refine ⟨by kernel_rfl, ?_, ?_⟩); (focus (repeat (first | exact trivial | refine ⟨.inl rfl, ?_⟩ | refine ⟨.inr (by (repeat (refine ⟨(by first | exact rd_idxN (F.un _ rfl) (F.sz _ rfl) rfl rfl rfl (by omega) (by omega) (by omega) | exact rd_arith rfl rfl (.inl ⟨rfl, (Go.IntWalk.i64_in _ ⟨by omega, by omega⟩).symm⟩) | exact rd_arith rfl rfl (.inr (.inl ⟨rfl, (Go.IntWalk.i64_in _ ⟨by omega, by omega⟩).symm⟩)) | exact rd_fieldAddr (F.fo _ _ rfl rfl) rfl | exact rd_move rfl | exact rd_assign rfl | exact rd_load1 (F.ag _ rfl) rfl rfl (cell_box rfl) | exact rd_loadN (F.ag _ rfl) rfl rfl (cellsFrom_box _ 0 rfl rfl) | exact rd_extract rfl rfl | exact rd_lenSl (F.un _ rfl) rfl | exact rd_lenStr (F.un _ rfl) rfl | exact rd_nilCheck rfl | exact rd_pickT rfl rfl | exact rd_pickF rfl rfl), ?_⟩)); exact trivial), ?_⟩ | refine ⟨.inl (by kernel_rfl), ?_⟩)))
              (repeat (first | refine y_skip ?_ | refine y_condF rfl ?_))
              refine w_draw (by kernel_rfl) (by kernel_rfl) ?_
              (repeat (first | refine dw_move rfl rfl rfl ?_ | refine dw_sub rfl rfl rfl rfl (by omega) (by omega) ?_ | refine dw_ldR rfl rfl rfl (F.ag _ rfl) (recP) rfl (by first | omega | (simp only [Array.size_setIfInBounds, swp_size]; omega)) (by first | omega | (simp only [Array.size_setIfInBounds, swp_size]; omega)) ?_ | refine dw_stR rfl rfl rfl (recP) (F.sz _ rfl) rfl (by first | omega | (simp only [Array.size_setIfInBounds, swp_size]; omega)) (by first | omega | (simp only [Array.size_setIfInBounds, swp_size]; omega)) ?_ | refine dw_idxN (q := j) rfl rfl rfl rfl (F.un _ rfl) (F.sz _ rfl) rfl (by omega) (by omega) (by omega) ?_ | refine dw_idxN (q := j - 1) rfl rfl rfl rfl (F.un _ rfl) (F.sz _ rfl) rfl (by omega) (by omega) (by omega) ?_))
              (refine dk_nil ?_); (refine ⟨by kernel_rfl, ?_, ?_⟩); (focus (repeat (first | exact trivial | refine ⟨.inl rfl, ?_⟩ | refine ⟨.inr (by (repeat (refine ⟨(by first | exact rd_idxN (F.un _ rfl) (F.sz _ rfl) rfl rfl rfl (by omega) (by omega) (by omega) | exact rd_arith rfl rfl (.inl ⟨rfl, (Go.IntWalk.i64_in _ ⟨by omega, by omega⟩).symm⟩) | exact rd_arith rfl rfl (.inr (.inl ⟨rfl, (Go.IntWalk.i64_in _ ⟨by omega, by omega⟩).symm⟩)) | exact rd_fieldAddr (F.fo _ _ rfl rfl) rfl | exact rd_move rfl | exact rd_assign rfl | exact rd_load1 (F.ag _ rfl) rfl rfl (cell_box rfl) | exact rd_loadN (F.ag _ rfl) rfl rfl (cellsFrom_box _ 0 rfl rfl) | exact rd_extract rfl rfl | exact rd_lenSl (F.un _ rfl) rfl | exact rd_lenStr (F.un _ rfl) rfl | exact rd_nilCheck rfl | exact rd_pickT rfl rfl | exact rd_pickF rfl rfl), ?_⟩)); exact trivial), ?_⟩ | refine ⟨.inl (by kernel_rfl), ?_⟩)))
              (repeat (first | refine w_region ?_ | refine y_regEnd ?_ | refine y_inBlock ?_ | refine w_move rfl rfl rfl ?_ | refine w_assign rfl rfl rfl ?_ | refine w_add rfl rfl rfl rfl (by omega) (by omega) ?_))
              refine ihd _ _ _ (j + 1, Sort.swp d' j (j - 1)) [] ⟨by simp only; omega, by simp only; omega, by rw [swp_size]; exact hd', ?_⟩ (by simp only; omega) ?_
              · rw [← hsd]
                exact (shiftUp_go (by omega) (by simpa [ltP] using h5)).symm
              · (refine ⟨(ExtOk.of rfl), rfl, (by repeat (first | exact trivial | refine ⟨rfl, ?_⟩)), (by repeat (first | exact trivial | refine ⟨at_dat rfl, ?_⟩))⟩)
            · (repeat (refine dw_notB rfl rfl rfl ?_))
              (refine dk_nil ?_); (refine ⟨by kernel_rfl, ?_, ?_⟩); (focus (repeat (first | exact trivial | refine ⟨.inl rfl, ?_⟩ | refine ⟨.inr (by (repeat (refine ⟨(by first | exact rd_idxN (F.un _ rfl) (F.sz _ rfl) rfl rfl rfl (by omega) (by omega) (by omega) | exact rd_arith rfl rfl (.inl ⟨rfl, (Go.IntWalk.i64_in _ ⟨by omega, by omega⟩).symm⟩) | exact rd_arith rfl rfl (.inr (.inl ⟨rfl, (Go.IntWalk.i64_in _ ⟨by omega, by omega⟩).symm⟩)) | exact rd_fieldAddr (F.fo _ _ rfl rfl) rfl | exact rd_move rfl | exact rd_assign rfl | exact rd_load1 (F.ag _ rfl) rfl rfl (cell_box rfl) | exact rd_loadN (F.ag _ rfl) rfl rfl (cellsFrom_box _ 0 rfl rfl) | exact rd_extract rfl rfl | exact rd_lenSl (F.un _ rfl) rfl | exact rd_lenStr (F.un _ rfl) rfl | exact rd_nilCheck rfl | exact rd_pickT rfl rfl | exact rd_pickF rfl rfl), ?_⟩)); exact trivial), ?_⟩ | refine ⟨.inl (by kernel_rfl), ?_⟩)))
              (repeat (first | (refine out _ _ _ d' [] ⟨hd', by rw [← hsd]; exact shiftUp_stop (.inr (by simpa [ltP] using h5))⟩ ?_; (refine ⟨(ExtOk.of rfl), rfl, (by repeat (first | exact trivial | refine ⟨rfl, ?_⟩)), (by repeat (first | exact trivial | refine ⟨at_dat rfl, ?_⟩))⟩)) | (first | refine y_exit rfl ?_ | refine y_condT rfl ?_)))
          · (repeat (first | (refine out _ _ _ d' [] ⟨hd', by rw [← hsd]; exact shiftUp_stop (.inl (by omega))⟩ ?_; (refine ⟨(ExtOk.of rfl), rfl, (by repeat (first | exact trivial | refine ⟨rfl, ?_⟩)), (by repeat (first | exact trivial | refine ⟨at_dat rfl, ?_⟩))⟩)) | (first | refine y_regEnd ?_ | refine y_exit rfl ?_ | refine y_condF rfl ?_)))
        rintro d3 ⟨hd3, e3⟩
        (repeat (first | refine w_region ?_ | refine y_regEnd ?_ | refine y_inBlock ?_ | refine w_move rfl rfl rfl ?_ | refine w_assign rfl rfl rfl ?_ | refine w_add rfl rfl rfl rfl (by omega) (by omega) ?_))
        refine ih _ _ _ ((s, i1), d3) [] ⟨by simp only; omega, hai1, hi1, hd3, by rw [← ho]; exact (hps d3 (by rw [if_pos (by omega)]; exact e3)).symm⟩ (by simp only; omega) ?_
        (refine ⟨(ExtOk.of rfl), rfl, (by repeat (first | exact trivial | refine ⟨rfl, ?_⟩ | refine ⟨sl_eq (by first | omega | (simp only; omega)), ?_⟩)), (by repeat (first | exact trivial | refine ⟨at_dat rfl, ?_⟩))⟩)
      · (repeat (first | refine w_region ?_ | refine y_regEnd ?_ | refine y_inBlock ?_ | refine y_skip ?_ | refine y_condF rfl ?_ | refine w_move rfl rfl rfl ?_ | refine w_assign rfl rfl rfl ?_ | refine w_add rfl rfl rfl rfl (by omega) (by omega) ?_))
        refine ih _ _ _ ((s, i1), d2') [] ⟨by simp only; omega, hai1, hi1, hd2, by rw [← ho]; exact (hps d2' (by rw [if_neg (by omega)])).symm⟩ (by simp only; omega) ?_
        (refine ⟨(ExtOk.of rfl), rfl, (by repeat (first | exact trivial | refine ⟨rfl, ?_⟩ | refine ⟨sl_eq (by first | omega | (simp only; omega)), ?_⟩)), (by repeat (first | exact trivial | refine ⟨at_dat rfl, ?_⟩))⟩)
    · rw [if_neg (by omega)] at e2
      subst e2
      have hd2 := hd1
      (repeat (first | refine y_seq ?_ | refine w_region ?_ | refine y_regEnd ?_ | refine y_skip ?_ | refine y_condF rfl ?_ | refine w_move rfl rfl rfl ?_ | refine w_sub rfl rfl rfl rfl (by omega) (by omega) ?_))
      refine w_geqS rfl rfl rfl rfl ?_ ?_
      all_goals intro h6
      · (repeat (first | refine y_seq ?_ | refine w_region ?_ | refine y_regEnd ?_ | refine y_block ?_ | refine y_condT rfl ?_ | refine w_move rfl rfl rfl ?_ | refine w_assign rfl rfl rfl ?_ | refine w_add rfl rfl rfl rfl (by omega) (by omega) ?_))
        refine y_loopE 1 (fun s1 : Nat × Array (Int × Int) => [(0, .slu 0 0 n), (1, .sc (.int .i64 (a : Int))), (2, .sc (.int .i64 (b : Int))), (3, cmpF), (9, .sc (.int .i64 (i1 : Int))), (10, .sc (.int .i64 ((5 - (s + 1) : Nat) : Int))), (12, .sc (.int .i64 (s1.1 : Int)))]) (fun s1 => [some (rowP n s1.2)]) (fun s1 => i1 + 1 ≤ s1.1 ∧ s1.1 ≤ b ∧ s1.2.size = n ∧ Sort.shiftUp ltP b s1.1 s1.2 = Sort.shiftUp ltP b (i1 + 1) d1) (fun s1 => b - s1.1) (i1 + 1, d1) []
          1 (fun d' : Array (Int × Int) => [(0, .slu 0 0 n), (1, .sc (.int .i64 (a : Int))), (2, .sc (.int .i64 (b : Int))), (3, cmpF), (9, .sc (.int .i64 (i1 : Int))), (10, .sc (.int .i64 ((5 - (s + 1) : Nat) : Int)))]) (fun d' => [some (rowP n d')]) (fun d' => d'.size = n ∧ Sort.shiftUp ltP b (i1 + 1) d1 = d')
          (fun _ => rfl) (fun _ => rfl) ⟨Nat.le_refl _, by simp only; omega, hd2, rfl⟩ ?_ (fun _ => rfl) (fun _ => rfl) ?_ ?_
        · (refine ⟨(ExtOk.of rfl), rfl, (by repeat (first | exact trivial | refine ⟨rfl, ?_⟩)), (by repeat (first | exact trivial | refine ⟨at_dat rfl, ?_⟩))⟩)
        · rintro ⟨j, d'⟩ ⟨hj, hjb, hd', hsd⟩ ihd out
          simp only at hj hjb hd' hsd ihd ⊢
          (repeat (first | refine y_seq ?_ | refine w_region ?_ | refine w_move rfl rfl rfl ?_))
          refine w_lssS rfl rfl rfl rfl ?_ ?_
          all_goals intro h4
          · (repeat (first | refine y_seq ?_ | refine y_regEnd ?_ | refine y_block ?_ | refine y_skip ?_ | refine y_condT rfl ?_))
            refine w_draw (by kernel_rfl) (by kernel_rfl) ?_
            (repeat (first | refine dw_move rfl rfl rfl ?_ | refine dw_sub rfl rfl rfl rfl (by omega) (by omega) ?_ | refine dw_ldR rfl rfl rfl (F.ag _ rfl) (recP) rfl (by first | omega | (simp only [Array.size_setIfInBounds, swp_size]; omega)) (by first | omega | (simp only [Array.size_setIfInBounds, swp_size]; omega)) ?_ | refine dw_idxN (q := j) rfl rfl rfl rfl (F.un _ rfl) (F.sz _ rfl) rfl (by omega) (by omega) (by omega) ?_ | refine dw_idxN (q := j - 1) rfl rfl rfl rfl (F.un _ rfl) (F.sz _ rfl) rfl (by omega) (by omega) (by omega) ?_ | refine dk_callF rfl rfl rfl rfl (by kernel_rfl) rfl (Ctr.callV (cmp_spec d'[j]! d'[j - 1]!) [] rfl (ExtOk.of rfl) rfl trivial rfl) ?_))
            refine dw_lssS rfl rfl rfl rfl ?_ ?_
            all_goals intro h5
            · (repeat (refine dw_notB rfl rfl rfl ?_))
              (refine dk_nil ?_); (refine ⟨by kernel_rfl, ?_, ?_⟩); (focus (repeat (first | exact trivial | refine ⟨.inl rfl, ?_⟩ | refine ⟨.inr (by (repeat (refine ⟨(by first | exact rd_idxN (F.un _ rfl) (F.sz _ rfl) rfl rfl rfl (by omega) (by omega) (by omega) | exact rd_arith rfl rfl (.inl ⟨rfl, (Go.IntWalk.i64_in _ ⟨by omega, by omega⟩).symm⟩) | exact rd_arith rfl rfl (.inr (.inl ⟨rfl, (Go.IntWalk.i64_in _ ⟨by omega, by omega⟩).symm⟩)) | exact rd_fieldAddr (F.fo _ _ rfl rfl) rfl | exact rd_move rfl | exact rd_assign rfl | exact rd_load1 (F.ag _ rfl) rfl rfl (cell_box rfl) | exact rd_loadN (F.ag _ rfl) rfl rfl (cellsFrom_box _ 0 rfl rfl) | exact rd_extract rfl rfl | exact rd_lenSl (F.un _ rfl) rfl | exact rd_lenStr (F.un _ rfl) rfl | exact rd_nilCheck rfl | exact rd_pickT rfl rfl | exact rd_pickF rfl rfl), ?_⟩)); exact trivial), ?_⟩ | refine ⟨.inl (by kernel_rfl), ?_⟩)))
              (repeat (first | refine y_skip ?_ | refine y_condF rfl ?_))
              refine w_draw (by kernel_rfl) (by kernel_rfl) ?_
              (repeat (first | refine dw_move rfl rfl rfl ?_ | refine dw_sub rfl rfl rfl rfl (by omega) (by omega) ?_ | refine dw_ldR rfl rfl rfl (F.ag _ rfl) (recP) rfl (by first | omega | (simp only [Array.size_setIfInBounds, swp_size]; omega)) (by first | omega | (simp only [Array.size_setIfInBounds, swp_size]; omega)) ?_ | refine dw_stR rfl rfl rfl (recP) (F.sz _ rfl) rfl (by first | omega | (simp only [Array.size_setIfInBounds, swp_size]; omega)) (by first | omega | (simp only [Array.size_setIfInBounds, swp_size]; omega)) ?_ | refine dw_idxN (q := j) rfl rfl rfl rfl (F.un _ rfl) (F.sz _ rfl) rfl (by omega) (by omega) (by omega) ?_ | refine dw_idxN (q := j - 1) rfl rfl rfl rfl (F.un _ rfl) (F.sz _ rfl) rfl (by omega) (by omega) (by omega) ?_))
              (refine dk_nil ?_); (refine ⟨by kernel_rfl, ?_, ?_⟩); (focus (repeat (first | exact trivial | refine ⟨.inl rfl, ?_⟩ | refine ⟨.inr (by (repeat (refine ⟨(by first | exact rd_idxN (F.un _ rfl) (F.sz _ rfl) rfl rfl rfl (by omega) (by omega) (by omega) | exact rd_arith rfl rfl (.inl ⟨rfl, (Go.IntWalk.i64_in _ ⟨by omega, by omega⟩).symm⟩) | exact rd_arith rfl rfl (.inr (.inl ⟨rfl, (Go.IntWalk.i64_in _ ⟨by omega, by omega⟩).symm⟩)) | exact rd_fieldAddr (F.fo _ _ rfl rfl) rfl | exact rd_move rfl | exact rd_assign rfl | exact rd_load1 (F.ag _ rfl) rfl rfl (cell_box rfl) | exact rd_loadN (F.ag _ rfl) rfl rfl (cellsFrom_box _ 0 rfl rfl) | exact rd_extract rfl rfl | exact rd_lenSl (F.un _ rfl) rfl | exact rd_lenStr (F.un _ rfl) rfl | exact rd_nilCheck rfl | exact rd_pickT rfl rfl | exact rd_pickF rfl rfl), ?_⟩)); exact trivial), ?_⟩ | refine ⟨.inl (by kernel_rfl), ?_⟩)))
              (repeat (first | refine w_region ?_ | refine y_regEnd ?_ | refine y_inBlock ?_ | refine w_move rfl rfl rfl ?_ | refine w_assign rfl rfl rfl ?_ | refine w_add rfl rfl rfl rfl (by omega) (by omega) ?_))
              refine ihd _ _ _ (j + 1, Sort.swp d' j (j - 1)) [] ⟨by simp only; omega, by simp only; omega, by rw [swp_size]; exact hd', ?_⟩ (by simp only; omega) ?_
              · rw [← hsd]
                exact (shiftUp_go (by omega) (by simpa [ltP] using h5)).symm
              · (refine ⟨(ExtOk.of rfl), rfl, (by repeat (first | exact trivial | refine ⟨rfl, ?_⟩)), (by repeat (first | exact trivial | refine ⟨at_dat rfl, ?_⟩))⟩)
            · (repeat (refine dw_notB rfl rfl rfl ?_))
              (refine dk_nil ?_); (refine ⟨by kernel_rfl, ?_, ?_⟩); (focus (repeat (first | exact trivial | refine ⟨.inl rfl, ?_⟩ | refine ⟨.inr (by (repeat (refine ⟨(by first | exact rd_idxN (F.un _ rfl) (F.sz _ rfl) rfl rfl rfl (by omega) (by omega) (by omega) | exact rd_arith rfl rfl (.inl ⟨rfl, (Go.IntWalk.i64_in _ ⟨by omega, by omega⟩).symm⟩) | exact rd_arith rfl rfl (.inr (.inl ⟨rfl, (Go.IntWalk.i64_in _ ⟨by omega, by omega⟩).symm⟩)) | exact rd_fieldAddr (F.fo _ _ rfl rfl) rfl | exact rd_move rfl | exact rd_assign rfl | exact rd_load1 (F.ag _ rfl) rfl rfl (cell_box rfl) | exact rd_loadN (F.ag _ rfl) rfl rfl (cellsFrom_box _ 0 rfl rfl) | exact rd_extract rfl rfl | exact rd_lenSl (F.un _ rfl) rfl | exact rd_lenStr (F.un _ rfl) rfl | exact rd_nilCheck rfl | exact rd_pickT rfl rfl | exact rd_pickF rfl rfl), ?_⟩)); exact trivial), ?_⟩ | refine ⟨.inl (by kernel_rfl), ?_⟩)))
              (repeat (first | (refine out _ _ _ d' [] ⟨hd', by rw [← hsd]; exact shiftUp_stop (.inr (by simpa [ltP] using h5))⟩ ?_; (refine ⟨(ExtOk.of rfl), rfl, (by repeat (first | exact trivial | refine ⟨rfl, ?_⟩)), (by repeat (first | exact trivial | refine ⟨at_dat rfl, ?_⟩))⟩)) | (first | refine y_exit rfl ?_ | refine y_condT rfl ?_)))
          · (repeat (first | (refine out _ _ _ d' [] ⟨hd', by rw [← hsd]; exact shiftUp_stop (.inl (by omega))⟩ ?_; (refine ⟨(ExtOk.of rfl), rfl, (by repeat (first | exact trivial | refine ⟨rfl, ?_⟩)), (by repeat (first | exact trivial | refine ⟨at_dat rfl, ?_⟩))⟩)) | (first | refine y_regEnd ?_ | refine y_exit rfl ?_ | refine y_condF rfl ?_)))
        rintro d3 ⟨hd3, e3⟩
        (repeat (first | refine w_region ?_ | refine y_regEnd ?_ | refine y_inBlock ?_ | refine w_move rfl rfl rfl ?_ | refine w_assign rfl rfl rfl ?_ | refine w_add rfl rfl rfl rfl (by omega) (by omega) ?_))
        refine ih _ _ _ ((s, i1), d3) [] ⟨by simp only; omega, hai1, hi1, hd3, by rw [← ho]; exact (hps d3 (by rw [if_pos (by omega)]; exact e3)).symm⟩ (by simp only; omega) ?_
        (refine ⟨(ExtOk.of rfl), rfl, (by repeat (first | exact trivial | refine ⟨rfl, ?_⟩ | refine ⟨sl_eq (by first | omega | (simp only; omega)), ?_⟩)), (by repeat (first | exact trivial | refine ⟨at_dat rfl, ?_⟩))⟩)
      · (repeat (first | refine w_region ?_ | refine y_regEnd ?_ | refine y_inBlock ?_ | refine y_skip ?_ | refine y_condF rfl ?_ | refine w_move rfl rfl rfl ?_ | refine w_assign rfl rfl rfl ?_ | refine w_add rfl rfl rfl rfl (by omega) (by omega) ?_))
        refine ih _ _ _ ((s, i1), d1) [] ⟨by simp only; omega, hai1, hi1, hd2, by rw [← ho]; exact (hps d1 (by rw [if_neg (by omega)])).symm⟩ (by simp only; omega) ?_
        (refine ⟨(ExtOk.of rfl), rfl, (by repeat (first | exact trivial | refine ⟨rfl, ?_⟩ | refine ⟨sl_eq (by first | omega | (simp only; omega)), ?_⟩)), (by repeat (first | exact trivial | refine ⟨at_dat rfl, ?_⟩))⟩)
  · obtain rfl : s = 0 := by omega
    (repeat (first | refine y_seq ?_ | refine w_region ?_ | refine y_regEnd ?_ | refine y_exit rfl ?_ | refine y_condF rfl ?_ | refine w_assign rfl rfl rfl ?_))
    rw [← ho]
    ((apply w_ret Try.func58 (congrArg Array.toList Try.results58)); (focus (repeat (first | exact ResIs.nil | apply ResIs.tmp rfl))); refine ⟨_, rfl, Ends.mk [] (ExtOk.of rfl) rfl rfl ?_⟩)
    exact (by repeat (first | exact trivial | refine ⟨at_dat rfl, ?_⟩))
end Go.Proofs.Ytfkfiafohcoomaa
end
section
namespace Go.Proofs.Ytfkfiafohcoomaa
open Go Go.Sy Go.Sl Go.RowKit
def samePl (a b : Int × Int) : Bool := decide (a.1 = b.1) && decide (a.2 = b.2)
theorem samePl_iff {a b : Int × Int} : samePl a b = true ↔ a = b := by
  simp only [samePl, Bool.and_eq_true, decide_eq_true_eq]
  exact ⟨fun h => Prod.ext h.1 h.2, fun h => by rw [h]; exact ⟨rfl, rfl⟩⟩
theorem uPl : Try.prog.underlying 25 = some (.struct (Try.prog.fieldsOf 25)) := by kernel_rfl
def fdsPl : List (Bool × TypeId × Nat) := [(true, 23, 0), (true, 23, 1)]
theorem fPl : (Try.prog.fieldsOf 25).toList.map (fun f => (f.name != "_", f.type, f.offset)) = fdsPl := by kernel_rfl
theorem fPl2 : ∃ f g : Field, (Try.prog.fieldsOf 25).toList = [f, g] ∧ f.name ≠ "_" ∧ f.type = 23 ∧ f.offset = 0 ∧ g.name ≠ "_" ∧ g.type = 23 ∧ g.offset = 1 := by
  have h := fPl
  generalize (Try.prog.fieldsOf 25).toList = l at h
  have hl : l.length = 2 := by simpa [fdsPl] using congrArg List.length h
  rcases l with _ | ⟨f, _ | ⟨g, _ | ⟨x, l⟩⟩⟩
  · simp at hl
  · simp at hl
  · simp only [List.map_cons, List.map_nil, fdsPl, List.cons.injEq, Prod.mk.injEq, and_true, bne_iff_ne] at h
    exact ⟨f, g, rfl, h.1.1, h.1.2.1, h.1.2.2, h.2.1, h.2.2.1, h.2.2.2⟩
  · simp at hl
theorem run_part1 {P : Program} {t : TypeId} {cs : Array Value} {off : Nat} {v : Value} {k : IntKind} (hu : P.underlying t = some (.int k)) (hv : cs[off]? = some v) (w : World) : (part t cs off).run P w = .ok v w := by
  simp [part, isAgg, run_underlying hu, hv]
theorem run_eqPl (a b : Int × Int) (w : World) : (Op.equalIn 10000 25 (.agg #[.int .u64 a.1, .int .u64 a.2]) (.agg #[.int .u64 b.1, .int .u64 b.2])).run Try.prog w = .ok (samePl a b) w := by
  obtain ⟨f, g, hl, f1, f2, f3, g1, g2, g3⟩ := fPl2
  have hu : Try.prog.underlying 23 = some (.int .u64) := by kernel_rfl
  have he : ∀ (a b : Int) (w : World), (Op.equalIn 9999 23 (.int .u64 a) (.int .u64 b)).run Try.prog w = .ok (a == b) w := fun a b w => run_equalIn_int w 9998 _ .u64 .u64 a b hu
  rw [show (10000 : Nat) = 9999 + 1 from rfl, run_equalIn_struct w 9999 _ _ _ uPl (by kernel_rfl), hl]
  simp only [Op.eqFields, if_pos f1, if_pos g1, f2, f3, g2, g3, Sem.run_bind, run_part1 hu (cs := #[.int .u64 a.1, .int .u64 a.2]) (off := 0) (v := .int .u64 a.1) rfl, run_part1 hu (cs := #[.int .u64 b.1, .int .u64 b.2]) (off := 0) (v := .int .u64 b.1) rfl, Result.andThen_ok]
  rw [he]
  simp only [Result.andThen_ok]
  by_cases h1 : a.1 = b.1
  · rw [show (a.1 == b.1) = true by simpa using h1]
    simp only [Bool.not_true, Bool.false_eq_true, if_false, Sem.run_bind, run_part1 hu (cs := #[.int .u64 a.1, .int .u64 a.2]) (off := 1) (v := .int .u64 a.2) rfl, run_part1 hu (cs := #[.int .u64 b.1, .int .u64 b.2]) (off := 1) (v := .int .u64 b.2) rfl, Result.andThen_ok]
    rw [he]
    simp only [Result.andThen_ok]
    by_cases h2 : a.2 = b.2
    · rw [show (a.2 == b.2) = true by simpa using h2]
      simp [h1, h2, samePl]
    · rw [show (a.2 == b.2) = false by simpa using h2]
      simp [h1, h2, samePl]
  · rw [show (a.1 == b.1) = false by simpa using h1]
    simp [h1, samePl]
section
variable {P : Program} {H : Heap} {T : Tr SV} {nx : Nat}
variable {d : Option Tmp} {ty : TypeId} {pos : String} {af : Array Edge} {gd : Option (Nat × Bool)}
theorem conc_pl {e : Env} {a : Int × Int} {v : Value} (h : (plS a).conc e = some v) : v = .agg #[.int .u64 a.1, .int .u64 a.2] := by
  simpa [plS, SV.conc, SV.concL] using h.symm
theorem rd_neqPl {x y : Operand} {yt : TypeId} {a b : Int × Int} (hx : evalS T x = some (plS a)) (hy : evalS T y = some (plS b)) : ReadDoes Try.prog T H ⟨d, .binOp .neq 25 x y yt, ty, pos, af, gd⟩ (.sc (.bool (!samePl a b))) := by
  intro K w0 e nx w ev hS hE
  refine ⟨_, rfl, ?_⟩
  have e1 := conc_pl (hE x _ hx)
  have e2 := conc_pl (hE y _ hy)
  simp [execOp, e1, e2, run_eqGuard_agg (P := Try.prog) w .neq 25 x y _ _ (by kernel_rfl), run_neq_struct, run_eqPl]
set_option maxRecDepth 100000 in
/-- A slice that has an element is not nil. -/
theorem rd_notNil {t el : TypeId} {x : Operand} {yt : TypeId} {b eo n ne sz : Nat} {ro : Bool} {rt : TypeId} {c : Tr SV} (hx : evalS T x = some (.slu b eo n)) (hb : H.at' b = some (.row ro ne sz rt c)) (hn : 0 < ne) (hu : P.underlying t = some (.slice el)) :
    ReadDoes P T H ⟨d, .binOp .eql t x (.const (.slice none 0 0)) yt, ty, pos, af, gd⟩ (.sc (.bool false)) := by
  intro K w0 e nx w ev hS hE
  refine ⟨_, rfl, ?_⟩
  obtain ⟨y, hy, hl⟩ := hS.rel b _ hb
  have e1 := hE x _ hx
  have e2 := hE (.const (.slice none 0 0)) (.sc (.slice none 0 0)) rfl
  simp only [SV.conc, Option.some.injEq] at e2
  have hnil : y.nil = false := by
    rcases hl with ⟨h, _⟩ | ⟨_, _, ro', t', c', h, _⟩
    · exact h
    · simp only [VO.row.injEq] at h
      omega
  simp only [SV.conc, hy, Option.map_some, Option.some.injEq, Ent.at, hnil, cond_false] at e1
  have hb2 : ∀ (q : Addr) (m c : Nat), (binOp .eql t (.slice (some q) m c) (.slice none 0 0)).run P w = .ok (.bool false) w := fun q m c => Lib.run_eql_slice_nil w t el (some q) m c 0 0 hu
  have hg2 : ∀ (q : Addr) (m c : Nat), (eqGuard .eql t x (.const (.slice none 0 0)) (.slice (some q) m c) (.slice none 0 0)).run P w = .ok () w := fun q m c => rfl
  have e1' := e1.symm
  have e2' := e2.symm
  simp only [execOp, e1', e2', Sem.run_bind, hg2, hb2, Result.andThen_ok, Sem.run_pure]
theorem rd_strAt {t : TypeId} {x y : Operand} {s : ByteArray} {k : IntKind} {i : Nat} {v : UInt8} (hx : evalS T x = some (.sc (.string s))) (hy : evalS T y = some (.sc (.int k (i : Int)))) (hu : P.underlying t = some .string) (hv : s[i]? = some v) :
    ReadDoes P T H ⟨d, .index t x y, ty, pos, af, gd⟩ (.sc (.int .u8 v.toNat)) := by
  refine rd_pure fun ev w he => ?_
  have e1 := he x _ hx _ rfl
  have e2 := he y _ hy _ rfl
  simp [execOp, e1, e2, Instr.index, asIntOf, run_underlying hu, hv]
end
section
variable {ro : Option Nat} {fn nt nx i : Nat} {T : Tr SV} {k : List AIt} {dfs : List ADf} {H : Heap} {Q : Pst} {ops : Array Oper} {l : List Oper} {ty : TypeId} {pos : String} {af : Array Edge} {gd : Option (Nat × Bool)} {P : Program}
theorem w_notNil {t el : TypeId} {x : Operand} {yt : TypeId} {b eo n ne sz : Nat} {rr : Bool} {rt : TypeId} {c : Tr SV} {dd : Nat} (hw : wantedS T ops ⟨some dd, .binOp .eql t x (.const (.slice none 0 0)) yt, ty, pos, af, gd⟩ = some true) (hd : Nat.blt dd nt = true) (hx : evalS T x = some (.slu b eo n)) (hb : H.at' b = some (.row rr ne sz rt c)) (hu : P.underlying t = some (.slice el)) (hn : 0 < ne)
    (h : Wp P ro ⟨fn, nt, T.set dd (.sc (.bool false)), .inReg ops (i + 1) l :: k, dfs, H, nx⟩ Q) : Wp P ro ⟨fn, nt, T, .inReg ops i (⟨some dd, .binOp .eql t x (.const (.slice none 0 0)) yt, ty, pos, af, gd⟩ :: l) :: k, dfs, H, nx⟩ Q :=
  y_val hw (.inr (fun _ h => by cases h)) ((rd_notNil hx hb hn hu).does) (by rw [putS_some hd]; exact h)
theorem w_strAt {t : TypeId} {x y : Operand} {s : ByteArray} {kd : IntKind} {j : Nat} {v : UInt8} {dd : Nat} (hw : wantedS T ops ⟨some dd, .index t x y, ty, pos, af, gd⟩ = some true) (hd : Nat.blt dd nt = true) (hx : evalS T x = some (.sc (.string s))) (hy : evalS T y = some (.sc (.int kd (j : Int)))) (hu : P.underlying t = some .string) (hv : s[j]? = some v)
    (h : Wp P ro ⟨fn, nt, T.set dd (.sc (.int .u8 v.toNat)), .inReg ops (i + 1) l :: k, dfs, H, nx⟩ Q) : Wp P ro ⟨fn, nt, T, .inReg ops i (⟨some dd, .index t x y, ty, pos, af, gd⟩ :: l) :: k, dfs, H, nx⟩ Q :=
  y_val hw (.inr (fun _ h => by cases h)) ((rd_strAt hx hy hu hv).does) (by rw [putS_some hd]; exact h)
end
section
variable {P : Program} {nt nx : Nat} {T : Tr SV} {H : Heap} {ops : Array Oper} {i : Nat} {l : List Oper} {ty : TypeId} {pos : String} {af : Array Edge} {gd : Option (Nat × Bool)} {K : DS → Prop} {rs : List Rec} {Hs : List (Heap × Nat)} {stg : Nat}
theorem dw_neqPl {x y : Operand} {yt : TypeId} {a b : Int × Int} {dd : Nat} (hw : wantedS (onlyT T (needs ops.toList ⟨some dd, .binOp .neq 25 x y yt, ty, pos, af, gd⟩)) ops ⟨some dd, .binOp .neq 25 x y yt, ty, pos, af, gd⟩ = some true) (hd : Nat.blt dd nt = true)
    (hx : evalS (onlyT T (needs ops.toList ⟨some dd, .binOp .neq 25 x y yt, ty, pos, af, gd⟩)) x = some (plS a)) (hy : evalS (onlyT T (needs ops.toList ⟨some dd, .binOp .neq 25 x y yt, ty, pos, af, gd⟩)) y = some (plS b))
    (h : DrawK Try.prog nt ops (i + 1) l ⟨T.set dd (.sc (.bool (!samePl a b))), H, nx, ⟨i, ⟨some dd, .binOp .neq 25 x y yt, ty, pos, af, gd⟩, (onlyT T (needs ops.toList ⟨some dd, .binOp .neq 25 x y yt, ty, pos, af, gd⟩)), stg, false, true, (.sc (.bool (!samePl a b)))⟩ :: rs, Hs, stg⟩ K) :
    DrawK Try.prog nt ops i (⟨some dd, .binOp .neq 25 x y yt, ty, pos, af, gd⟩ :: l) ⟨T, H, nx, rs, Hs, stg⟩ K :=
  dk_read hw hd (fun _ h => by cases h) (rd_neqPl hx hy) h
end
end Go.Proofs.Ytfkfiafohcoomaa
end
section
namespace Go.Proofs.Ytfkfiafohcoomaa
open Go Go.Sy
theorem u64_lt {m : Nat} (h : m < 2 ^ 64) : IntKind.u64.wrap ((m : Nat) : Int) = (m : Int) := by
  rw [Go.IntWalk.u64_in _ ⟨by omega, by omega⟩]
theorem xorU {a b : Nat} (ha : a < 18446744073709551616) (hb : b < 18446744073709551616) : bitsI .xor .u64 (a : Int) (b : Int) = ((a ^^^ b : Nat) : Int) := by
  show IntKind.u64.wrap (((BitVec.ofInt 64 (a : Int) ^^^ BitVec.ofInt 64 (b : Int)).toNat : Nat) : Int) = _
  rw [BitVec.toNat_xor, BitVec.ofInt_natCast, BitVec.ofInt_natCast, BitVec.toNat_ofNat, BitVec.toNat_ofNat, Nat.mod_eq_of_lt ha, Nat.mod_eq_of_lt hb, u64_lt]
  exact Nat.xor_lt_two_pow ha hb
theorem andU {a b : Nat} (ha : a < 18446744073709551616) (hb : b < 18446744073709551616) : bitsI .and .u64 (a : Int) (b : Int) = ((a &&& b : Nat) : Int) := by
  show IntKind.u64.wrap (((BitVec.ofInt 64 (a : Int) &&& BitVec.ofInt 64 (b : Int)).toNat : Nat) : Int) = _
  rw [BitVec.toNat_and, BitVec.ofInt_natCast, BitVec.ofInt_natCast, BitVec.toNat_ofNat, BitVec.toNat_ofNat, Nat.mod_eq_of_lt ha, Nat.mod_eq_of_lt hb, u64_lt]
  exact Nat.and_lt_two_pow _ hb
theorem sh13 (x : Nat) : IntKind.u64.wrap ((x : Int) * 2 ^ (min (Int.toNat 13) IntKind.u64.bits)) = ((x * 8192 % 18446744073709551616 : Nat) : Int) := by
  have : (2 : Int) ^ (min (Int.toNat 13) IntKind.u64.bits) = 8192 := by decide
  rw [this, IntKind.wrap_u64]
  omega
theorem sh17 (x : Nat) : IntKind.u64.wrap ((x : Int) * 2 ^ (min (Int.toNat 17) IntKind.u64.bits)) = ((x * 131072 % 18446744073709551616 : Nat) : Int) := by
  have : (2 : Int) ^ (min (Int.toNat 17) IntKind.u64.bits) = 131072 := by decide
  rw [this, IntKind.wrap_u64]
  omega
theorem sh7 (x : Nat) : Int.fdiv (x : Int) (2 ^ (min (Int.toNat 7) IntKind.u64.bits)) = ((x / 128 : Nat) : Int) := by
  have : (2 : Int) ^ (min (Int.toNat 7) IntKind.u64.bits) = 128 := by decide
  rw [this, Int.fdiv_eq_ediv_of_nonneg _ (by decide)]
  omega
theorem sh8 (x : Nat) : Int.fdiv (x : Int) (2 ^ (min (Int.toNat 8) IntKind.u64.bits)) = ((x / 256 : Nat) : Int) := by
  have : (2 : Int) ^ (min (Int.toNat 8) IntKind.u64.bits) = 256 := by decide
  rw [this, Int.fdiv_eq_ediv_of_nonneg _ (by decide)]
  omega
abbrev xsO (x : Nat) : VO := newCells 108 [.sc (.int .u64 (x : Int))]
set_option maxRecDepth 100000 in
set_option maxHeartbeats 0 in
theorem next_spec (x : Nat) (hx : x < 18446744073709551616) : Ctr Try.prog 68 [.ptr 0 0] [xsO x] (fun c => c = ⟨.sc (.int .u64 (Sort.xorNextN x : Int)), [some (xsO (Sort.xorNextN x))]⟩) := by
  have hA : x ^^^ (x * 8192 % 18446744073709551616) < 18446744073709551616 := Nat.xor_lt_two_pow (n := 64) (by omega) (by omega)
  have eA := xorU (a := x) (b := x * 8192 % 18446744073709551616) hx (by omega)
  have eC : Sort.xorNextN x = Sort.xorNextN x := rfl
  conv at eC => rhs; unfold Sort.xorNextN
  simp only at eC
  generalize x ^^^ (x * 8192 % 18446744073709551616) = A at hA eA eC
  have hB : A ^^^ (A / 128) < 18446744073709551616 := Nat.xor_lt_two_pow (n := 64) (by omega) (by omega)
  have eB := xorU (a := A) (b := A / 128) hA (by omega)
  generalize A ^^^ (A / 128) = B at hB eB eC
  have eD := xorU (a := B) (b := B * 131072 % 18446744073709551616) hB (by omega)
  rw [← eC] at eD
  refine Fnc.start Try.func68 rfl rfl ?_
  (repeat (first | refine y_seq ?_ | refine w_region ?_ | refine y_regEnd ?_ | refine w_assign rfl rfl rfl ?_))
  refine w_draw (by kernel_rfl) (by kernel_rfl) ?_
  (repeat (first | refine dw_move rfl rfl rfl ?_ | refine dw_nilCheck rfl rfl rfl ?_ | refine dw_loadB1 rfl rfl rfl (F.ag _ rfl) rfl rfl ?_ | refine dw_store1 rfl rfl rfl (F.sz _ rfl) rfl rfl rfl ?_ | (refine dw_shlC rfl rfl rfl rfl (by decide) (sh13 x) ?_) | (refine dw_bitC rfl rfl rfl rfl (.inr (.inr (.inl rfl))) eA ?_)))
  (refine dk_nil ?_); (refine ⟨by kernel_rfl, ?_, ?_⟩); (focus (repeat (first | exact trivial | refine ⟨.inl rfl, ?_⟩ | refine ⟨.inr (by (repeat (refine ⟨(by first | exact rd_idxN (F.un _ rfl) (F.sz _ rfl) rfl rfl rfl (by omega) (by omega) (by omega) | exact rd_arith rfl rfl (.inl ⟨rfl, (Go.IntWalk.i64_in _ ⟨by omega, by omega⟩).symm⟩) | exact rd_arith rfl rfl (.inr (.inl ⟨rfl, (Go.IntWalk.i64_in _ ⟨by omega, by omega⟩).symm⟩)) | exact rd_fieldAddr (F.fo _ _ rfl rfl) rfl | exact rd_move rfl | exact rd_assign rfl | exact rd_load1 (F.ag _ rfl) rfl rfl (cell_box rfl) | exact rd_loadN (F.ag _ rfl) rfl rfl (cellsFrom_box _ 0 rfl rfl) | exact rd_extract rfl rfl | exact rd_lenSl (F.un _ rfl) rfl | exact rd_lenStr (F.un _ rfl) rfl | exact rd_nilCheck rfl | exact rd_pickT rfl rfl | exact rd_pickF rfl rfl), ?_⟩)); exact trivial), ?_⟩ | refine ⟨.inl (by kernel_rfl), ?_⟩)))
  (repeat (refine y_seq ?_))
  refine w_draw (by kernel_rfl) (by kernel_rfl) ?_
  (repeat (first | refine dw_move rfl rfl rfl ?_ | refine dw_nilCheck rfl rfl rfl ?_ | refine dw_loadB1 rfl rfl rfl (F.ag _ rfl) rfl rfl ?_ | refine dw_store1 rfl rfl rfl (F.sz _ rfl) rfl rfl rfl ?_ | (refine dw_shrC rfl rfl rfl rfl (by decide) (sh7 A) ?_) | (refine dw_bitC rfl rfl rfl rfl (.inr (.inr (.inl rfl))) eB ?_)))
  (refine dk_nil ?_); (refine ⟨by kernel_rfl, ?_, ?_⟩); (focus (repeat (first | exact trivial | refine ⟨.inl rfl, ?_⟩ | refine ⟨.inr (by (repeat (refine ⟨(by first | exact rd_idxN (F.un _ rfl) (F.sz _ rfl) rfl rfl rfl (by omega) (by omega) (by omega) | exact rd_arith rfl rfl (.inl ⟨rfl, (Go.IntWalk.i64_in _ ⟨by omega, by omega⟩).symm⟩) | exact rd_arith rfl rfl (.inr (.inl ⟨rfl, (Go.IntWalk.i64_in _ ⟨by omega, by omega⟩).symm⟩)) | exact rd_fieldAddr (F.fo _ _ rfl rfl) rfl | exact rd_move rfl | exact rd_assign rfl | exact rd_load1 (F.ag _ rfl) rfl rfl (cell_box rfl) | exact rd_loadN (F.ag _ rfl) rfl rfl (cellsFrom_box _ 0 rfl rfl) | exact rd_extract rfl rfl | exact rd_lenSl (F.un _ rfl) rfl | exact rd_lenStr (F.un _ rfl) rfl | exact rd_nilCheck rfl | exact rd_pickT rfl rfl | exact rd_pickF rfl rfl), ?_⟩)); exact trivial), ?_⟩ | refine ⟨.inl (by kernel_rfl), ?_⟩)))
  (repeat (refine y_seq ?_))
  refine w_draw (by kernel_rfl) (by kernel_rfl) ?_
  (repeat (first | refine dw_move rfl rfl rfl ?_ | refine dw_nilCheck rfl rfl rfl ?_ | refine dw_loadB1 rfl rfl rfl (F.ag _ rfl) rfl rfl ?_ | refine dw_store1 rfl rfl rfl (F.sz _ rfl) rfl rfl rfl ?_ | (refine dw_shlC rfl rfl rfl rfl (by decide) (sh17 B) ?_) | (refine dw_bitC rfl rfl rfl rfl (.inr (.inr (.inl rfl))) eD ?_)))
  (refine dk_nil ?_); (refine ⟨by kernel_rfl, ?_, ?_⟩); (focus (repeat (first | exact trivial | refine ⟨.inl rfl, ?_⟩ | refine ⟨.inr (by (repeat (refine ⟨(by first | exact rd_idxN (F.un _ rfl) (F.sz _ rfl) rfl rfl rfl (by omega) (by omega) (by omega) | exact rd_arith rfl rfl (.inl ⟨rfl, (Go.IntWalk.i64_in _ ⟨by omega, by omega⟩).symm⟩) | exact rd_arith rfl rfl (.inr (.inl ⟨rfl, (Go.IntWalk.i64_in _ ⟨by omega, by omega⟩).symm⟩)) | exact rd_fieldAddr (F.fo _ _ rfl rfl) rfl | exact rd_move rfl | exact rd_assign rfl | exact rd_load1 (F.ag _ rfl) rfl rfl (cell_box rfl) | exact rd_loadN (F.ag _ rfl) rfl rfl (cellsFrom_box _ 0 rfl rfl) | exact rd_extract rfl rfl | exact rd_lenSl (F.un _ rfl) rfl | exact rd_lenStr (F.un _ rfl) rfl | exact rd_nilCheck rfl | exact rd_pickT rfl rfl | exact rd_pickF rfl rfl), ?_⟩)); exact trivial), ?_⟩ | refine ⟨.inl (by kernel_rfl), ?_⟩)))
  (repeat (first | refine y_seq ?_ | refine w_region ?_ | refine y_regEnd ?_ | refine w_move rfl rfl rfl ?_ | refine w_assign rfl rfl rfl ?_ | refine w_nilCheck rfl rfl rfl ?_ | refine w_loadB1 rfl rfl rfl (F.ag _ rfl) rfl rfl ?_))
  ((apply w_ret Try.func68 (congrArg Array.toList Try.results68)); (focus (repeat (first | exact ResIs.nil | apply ResIs.tmp rfl))); refine ⟨_, rfl, Ends.mk [] (ExtOk.of rfl) rfl rfl ?_⟩)
  exact (by repeat (first | exact trivial | refine ⟨at_box rfl, ?_⟩))
def tabOk (s : ByteArray) : Bool := (List.range 256).all fun i => match s[i]? with
  | some v => v.toNat == Sort.bitsLen i
  | none => false
theorem tab_at {s : ByteArray} (h : tabOk s = true) {i : Nat} (hi : i < 256) : s[i]? = some (UInt8.ofNat (Sort.bitsLen i)) := by
  unfold tabOk at h
  rw [List.all_eq_true] at h
  have := h i (List.mem_range.2 hi)
  split at this
  · rename_i v hv
    rw [hv, ← (beq_iff_eq.1 this), UInt8.ofNat_toNat]
  · cases this
theorem bits_div (x : Nat) (h : 256 ≤ x) : Sort.bitsLen x = 8 + Sort.bitsLen (x / 256) := by
  have key : ∀ k, Sort.bitsLen (x / 256) ≤ k ↔ Sort.bitsLen x ≤ k + 8 := fun k => by
    rw [Sort.bitsLen_le_iff, Sort.bitsLen_le_iff, Nat.pow_add, Nat.div_lt_iff_lt_mul (by decide)]
  have h8 : ¬ Sort.bitsLen x ≤ 7 := by
    rw [Sort.bitsLen_le_iff]
    omega
  have h1 := (key (Sort.bitsLen (x / 256))).1 (Nat.le_refl _)
  have h2 := (key (Sort.bitsLen x - 8)).2 (by omega)
  omega
theorem bits16 {x : Nat} (h : x < 65536) : Sort.bitsLen x ≤ 16 := (Sort.bitsLen_le_iff x 16).2 h
theorem u8len {x : Nat} (h : x < 65536) : IntKind.i64.wrap (((UInt8.ofNat (Sort.bitsLen x)).toNat : Nat) : Int) = (Sort.bitsLen x : Int) := by
  have := bits16 h
  rw [UInt8.toNat_ofNat', Nat.mod_eq_of_lt (by omega), Go.IntWalk.i64_in _ ⟨by omega, by omega⟩]
set_option maxRecDepth 100000 in
set_option maxHeartbeats 0 in
theorem len64_spec (x : Nat) (hx : x < 65536) : Ctr Try.prog 62 [.sc (.int .u64 (x : Int))] [] (fun c => c = ⟨.sc (.int .i64 (Sort.bitsLen x : Int)), []⟩) := by
  have h16 := bits16 hx
  refine Fnc.start Try.func62 rfl rfl ?_
  (repeat (first | refine y_seq ?_ | refine w_region ?_ | refine y_regEnd ?_ | refine w_move rfl rfl rfl ?_ | refine w_assign rfl rfl rfl ?_))
  refine w_geqS rfl rfl rfl rfl ?_ ?_
  all_goals intro h1
  · exact absurd h1 (by omega)
  (repeat (first | refine y_seq ?_ | refine w_region ?_ | refine y_regEnd ?_ | refine y_skip ?_ | refine y_condF rfl ?_ | refine w_move rfl rfl rfl ?_))
  refine w_geqS rfl rfl rfl rfl ?_ ?_
  all_goals intro h2
  · exact absurd h2 (by omega)
  (repeat (first | refine y_seq ?_ | refine w_region ?_ | refine y_regEnd ?_ | refine y_skip ?_ | refine y_condF rfl ?_ | refine w_move rfl rfl rfl ?_))
  refine w_geqS rfl rfl rfl rfl ?_ ?_
  all_goals intro h3
  · have h17 := bits16 (x := x / 256) (by omega)
    (repeat (first | (first | refine y_seq ?_ | refine w_region ?_ | refine y_regEnd ?_ | refine y_condT rfl ?_ | refine w_move rfl rfl rfl ?_ | refine w_assign rfl rfl rfl ?_ | refine w_add rfl rfl rfl rfl (by omega) (by omega) ?_) | (refine w_shrC rfl rfl rfl rfl (by decide) (sh8 x) ?_) | refine w_conv rfl rfl rfl (F.un _ rfl) (F.un _ rfl) (show _ = ((x / 256 : Nat) : Int) from Go.IntWalk.u8_in _ ⟨by omega, by omega⟩) ?_ | (refine w_strAt rfl rfl rfl rfl (F.un _ rfl) (tab_at (by kernel_rfl) (show x / 256 < 256 by omega)) ?_) | refine w_conv rfl rfl rfl (F.un _ rfl) (F.un _ rfl) (u8len (x := x / 256) (by omega)) ?_))
    rw [bits_div x (by omega)]
    (apply w_ret Try.func62 (congrArg Array.toList Try.results62); (focus (repeat (first | exact ResIs.nil | apply ResIs.tmp rfl))))
    (refine ⟨_, rfl, Ends.val (ExtOk.of rfl) rfl ?_ ?_⟩)
    · simp
    · trivial
  · (repeat (first | (first | refine y_seq ?_ | refine w_region ?_ | refine y_regEnd ?_ | refine y_skip ?_ | refine y_condF rfl ?_ | refine w_move rfl rfl rfl ?_ | refine w_assign rfl rfl rfl ?_ | refine w_add rfl rfl rfl rfl (by omega) (by omega) ?_) | refine w_conv rfl rfl rfl (F.un _ rfl) (F.un _ rfl) (show _ = (x : Int) from Go.IntWalk.u8_in _ ⟨by omega, by omega⟩) ?_ | (refine w_strAt rfl rfl rfl rfl (F.un _ rfl) (tab_at (by kernel_rfl) (show x < 256 by omega)) ?_) | refine w_conv rfl rfl rfl (F.un _ rfl) (F.un _ rfl) (u8len (x := x) (by omega)) ?_))
    (apply w_ret Try.func62 (congrArg Array.toList Try.results62); (focus (repeat (first | exact ResIs.nil | apply ResIs.tmp rfl))))
    (refine ⟨_, rfl, Ends.val (ExtOk.of rfl) rfl ?_ ?_⟩)
    · simp
    · trivial
theorem len_spec (x : Nat) (hx : x < 65536) : Ctr Try.prog 43 [.sc (.int .u64 (x : Int))] [] (fun c => c = ⟨.sc (.int .i64 (Sort.bitsLen x : Int)), []⟩) := by
  refine Fnc.start Try.func43 rfl rfl ?_
  (repeat (first | (first | refine y_seq ?_ | refine w_region ?_ | refine y_regEnd ?_ | refine y_skip ?_ | refine y_condF rfl ?_ | refine w_move rfl rfl rfl ?_ | refine w_assign rfl rfl rfl ?_) | refine w_callV (len64_spec x hx) [] rfl rfl rfl (by kernel_rfl) rfl (ExtOk.of rfl) rfl trivial ?_))
  (apply w_ret Try.func43 (congrArg Array.toList Try.results43); (focus (repeat (first | exact ResIs.nil | apply ResIs.tmp rfl))))
  (refine ⟨_, rfl, Ends.val (ExtOk.of rfl) rfl ?_ ?_⟩)
  · rfl
  · trivial
theorem pow_in {k : Nat} (h : k ≤ 16) : IntKind.u64.wrap ((1 : Int) * 2 ^ (min (Int.toNat (k : Int)) IntKind.u64.bits)) = ((2 ^ k : Nat) : Int) := by
  have : ∀ k : Fin 17, IntKind.u64.wrap ((1 : Int) * 2 ^ (min (Int.toNat (k.val : Int)) IntKind.u64.bits)) = ((2 ^ k.val : Nat) : Int) := by decide
  exact this ⟨k, by omega⟩
theorem pow2_spec (x : Nat) (hx : x < 65536) : Ctr Try.prog 67 [.sc (.int .i64 (x : Int))] [] (fun c => c = ⟨.sc (.int .u64 ((2 ^ Sort.bitsLen x : Nat) : Int)), []⟩) := by
  refine Fnc.start Try.func67 rfl rfl ?_
  (repeat (first | (first | refine y_seq ?_ | refine w_region ?_ | refine y_regEnd ?_ | refine w_move rfl rfl rfl ?_ | refine w_assign rfl rfl rfl ?_) | refine w_conv rfl rfl rfl (F.un _ rfl) (F.un _ rfl) (show _ = (x : Int) from Go.IntWalk.u64_in _ ⟨by omega, by omega⟩) ?_ | refine w_callV (len_spec x hx) [] rfl rfl rfl (by kernel_rfl) rfl (ExtOk.of rfl) rfl trivial ?_ | (refine w_shlC rfl rfl rfl rfl (by omega) (pow_in (bits16 hx)) ?_)))
  (apply w_ret Try.func67 (congrArg Array.toList Try.results67); (focus (repeat (first | exact ResIs.nil | apply ResIs.tmp rfl))))
  (refine ⟨_, rfl, Ends.val (ExtOk.of rfl) rfl ?_ ?_⟩)
  · rfl
  · trivial
end Go.Proofs.Ytfkfiafohcoomaa
end
section
namespace Go.Proofs.Ytfkfiafohcoomaa
open Go Go.Sy
def brk (a len m : Nat) : Nat → UInt64 × Array (Int × Int) → Nat → UInt64 × Array (Int × Int)
  | 0, st, _ => st
  | k + 1, st, i => brk a len m k (Sort.breakStep a len m st i) (i + 1)
set_option maxRecDepth 100000 in
set_option maxHeartbeats 0 in
theorem brk_spec (n a b : Nat) (d : Array (Int × Int)) (hn : n < 65536) (hd : d.size = n) (hab : a ≤ b) (hb : b ≤ n) :
    Ctr Try.prog 55 [.slu 0 0 n, .sc (.int .i64 (a : Int)), .sc (.int .i64 (b : Int)), cmpF] [rowP n d] (fun c => c = ⟨.tup [], [some (rowP n (Sort.breakPatterns d a b))]⟩) := by
  have eba : (b : Int) - (a : Int) = ((b - a : Nat) : Int) := by omega
  refine Fnc.start Try.func55 rfl rfl ?_
  (repeat (first | refine y_seq ?_ | refine w_region ?_ | refine y_regEnd ?_ | refine w_move rfl rfl rfl ?_ | refine w_assign rfl rfl rfl ?_ | refine w_sub rfl rfl rfl rfl (by omega) (by omega) ?_))
  rw [eba]
  have ebp : Sort.breakPatterns d a b = Sort.breakPatterns d a b := rfl
  conv at ebp => rhs; unfold Sort.breakPatterns
  simp only at ebp
  refine w_geqS rfl rfl rfl rfl ?_ ?_
  all_goals intro h1
  · rw [if_pos (by omega)] at ebp
    have ep : Sort.bitsLen (b - a) ≤ 16 := bits16 (by omega)
    have eq1 : (1 : Nat) <<< Sort.bitsLen (b - a) = 2 ^ Sort.bitsLen (b - a) := by rw [Nat.shiftLeft_eq, Nat.one_mul]
    have eq2 : 2 ^ Sort.bitsLen (b - a) ≤ 2 * (b - a) := Sort.two_pow_bitsLen_le (by omega)
    have eq3 : 0 < 2 ^ Sort.bitsLen (b - a) := Nat.pow_pos (by decide)
    (repeat (first | (first | refine y_seq ?_ | refine w_region ?_ | refine y_regEnd ?_ | refine y_block ?_ | refine y_condT rfl ?_ | refine w_move rfl rfl rfl ?_ | refine w_assign rfl rfl rfl ?_ | refine w_alloc rfl rfl (F.zl _ rfl) ?_ | refine w_store1 rfl rfl rfl (F.sz _ rfl) rfl rfl rfl ?_ | refine w_add rfl rfl rfl rfl (by omega) (by omega) ?_ | refine w_sub rfl rfl rfl rfl (by omega) (by omega) ?_ | refine w_mul rfl rfl rfl rfl (by omega) (by omega) ?_ | refine w_quo rfl rfl rfl rfl (by omega) (by omega) (by omega) ?_) | refine w_conv rfl rfl rfl (F.un _ rfl) (F.un _ rfl) (show _ = ((b - a : Nat) : Int) from Go.IntWalk.u64_in _ ⟨by omega, by omega⟩) ?_ | refine w_callV (pow2_spec (b - a) (by omega)) [] rfl rfl rfl (by kernel_rfl) rfl (ExtOk.of rfl) rfl trivial ?_))
    rw [eq1] at ebp
    generalize hm : 2 ^ Sort.bitsLen (b - a) = m at ebp eq2 eq3
    have e4 : (a : Int) + ((b - a : Nat) : Int) / 4 * 2 - 1 = ((a + (b - a) / 4 * 2 - 1 : Nat) : Int) := by omega
    rw [e4]
    have hbase : a + (b - a) / 4 * 2 - 1 + 3 ≤ b := by omega
    have hlt : 0 < a + (b - a) / 4 * 2 := by omega
    generalize hbs : a + (b - a) / 4 * 2 - 1 = base at ebp hbase
    have ht : Sort.breakPatterns d a b = (brk a (b - a) m 3 (UInt64.ofNat (b - a), d) base).2 := ebp
    refine y_loopC 2 (fun s : (Nat × UInt64) × Array (Int × Int) => [(0, .slu 0 0 n), (1, .sc (.int .i64 (a : Int))), (8, .sc (.int .i64 ((b - a : Nat) : Int))), (9, .ptr 1 0), (10, .sc (.int .u64 (m : Int))), (11, .sc (.int .i64 ((base + 3 - s.1.1 : Nat) : Int)))]) (fun s => [some (rowP n s.2), some (xsO s.1.2.toNat)]) (fun s => s.1.1 ≤ 3 ∧ s.2.size = n ∧ (brk a (b - a) m s.1.1 (s.1.2, s.2) (base + 3 - s.1.1)).2 = Sort.breakPatterns d a b) (fun s => s.1.1) ((3, UInt64.ofNat (b - a)), d) [1]
      (fun _ => rfl) ⟨Nat.le_refl _, hd, by rw [ht]; rfl⟩ ?_ (fun _ => rfl) (fun _ => rfl) ?_
    · have e0 : (UInt64.ofNat (b - a)).toNat = b - a := by rw [UInt64.toNat_ofNat', Nat.mod_eq_of_lt (by omega)]
      rw [e0]
      (refine ⟨(ExtOk.of rfl), rfl, (by repeat (first | exact trivial | refine ⟨rfl, ?_⟩)), (by repeat (first | exact trivial | refine ⟨at_dat rfl, ?_⟩ | refine ⟨at_box rfl, ?_⟩))⟩)
    rintro ⟨⟨s, r⟩, d1⟩ ⟨hs, hd1, ho⟩ ih
    simp only at hs hd1 ho ih ⊢
    (repeat (first | refine y_seq ?_ | refine w_region ?_ | refine w_move rfl rfl rfl ?_ | refine w_add rfl rfl rfl rfl (by omega) (by omega) ?_ | refine w_mul rfl rfl rfl rfl (by omega) (by omega) ?_ | refine w_quo rfl rfl rfl rfl (by omega) (by omega) (by omega) ?_))
    refine w_leqS rfl rfl rfl rfl ?_ ?_
    all_goals intro h2
    · obtain ⟨s, rfl⟩ : ∃ s', s = s' + 1 := ⟨s - 1, by omega⟩
      have hr := UInt64.toNat_lt r
      have hnx := Sort.xorNextN_lt r.toNat hr
      have hxn := Sort.xorNext_toNat r
      have hst : Sort.breakStep a (b - a) m (r, d1) (base + 3 - (s + 1)) = (Sort.xorNext r, Sort.swp d1 (base + 3 - (s + 1)) (a + (if (Sort.xorNext r).toNat &&& (m - 1) ≥ b - a then ((Sort.xorNext r).toNat &&& (m - 1)) - (b - a) else (Sort.xorNext r).toNat &&& (m - 1)))) := rfl
      have ho' : (brk a (b - a) m s (Sort.breakStep a (b - a) m (r, d1) (base + 3 - (s + 1))) (base + 3 - s)).2 = Sort.breakPatterns d a b := by
        rw [← ho, brk, show base + 3 - (s + 1) + 1 = base + 3 - s by omega]
      rw [hst] at ho'
      rw [hxn] at ho'
      have hmw : IntKind.u64.wrap ((m : Int) - 1) = ((m - 1 : Nat) : Int) := by
        rw [Go.IntWalk.u64_in _ ⟨by omega, by omega⟩]
        omega
      have hand := andU (a := Sort.xorNextN r.toNat) (b := m - 1) hnx (by omega)
      have hle : Sort.xorNextN r.toNat &&& (m - 1) ≤ m - 1 := Nat.and_le_right
      generalize hoo : Sort.xorNextN r.toNat &&& (m - 1) = o at hand hle ho'
      (repeat (first | (first | refine y_seq ?_ | refine w_region ?_ | refine y_regEnd ?_ | refine y_block ?_ | refine y_skip ?_ | refine y_condT rfl ?_ | refine w_move rfl rfl rfl ?_) | refine w_callFn rfl rfl rfl (by kernel_rfl) (Ctr.callD (next_spec r.toNat hr) [1] rfl (ExtOk.of rfl) rfl (by repeat (first | exact trivial | refine ⟨at_box rfl, ?_⟩)) rfl (by repeat (first | exact trivial | refine ⟨closed_box (fun _ => rfl), ?_⟩)) (fun _ => rfl) rfl rfl) ?_))
      refine w_subW rfl rfl rfl rfl ?_
      rw [hmw]
      refine w_bitC rfl rfl rfl rfl (.inl rfl) hand ?_
      (repeat (first | (first | refine y_seq ?_ | refine w_region ?_ | refine y_regEnd ?_ | refine w_move rfl rfl rfl ?_ | refine w_assign rfl rfl rfl ?_) | refine w_conv rfl rfl rfl (F.un _ rfl) (F.un _ rfl) (show _ = (o : Int) from Go.IntWalk.i64_in _ ⟨by omega, by omega⟩) ?_))
      refine w_geqS rfl rfl rfl rfl ?_ ?_
      all_goals intro h3
      · rw [if_pos (by omega)] at ho'
        (repeat (first | refine w_region ?_ | refine y_regEnd ?_ | refine y_condT rfl ?_ | refine w_move rfl rfl rfl ?_ | refine w_assign rfl rfl rfl ?_ | refine w_sub rfl rfl rfl rfl (by omega) (by omega) ?_))
        refine w_draw (by kernel_rfl) (by kernel_rfl) ?_
        (repeat (first | refine dw_move rfl rfl rfl ?_ | refine dw_add rfl rfl rfl rfl (by omega) (by omega) ?_ | refine dw_ldR rfl rfl rfl (F.ag _ rfl) (recP) rfl (by first | omega | (simp only [Array.size_setIfInBounds, swp_size]; omega)) (by first | omega | (simp only [Array.size_setIfInBounds, swp_size]; omega)) ?_ | refine dw_stR rfl rfl rfl (recP) (F.sz _ rfl) rfl (by first | omega | (simp only [Array.size_setIfInBounds, swp_size]; omega)) (by first | omega | (simp only [Array.size_setIfInBounds, swp_size]; omega)) ?_ | refine dw_idxN (q := base + 3 - (s + 1)) rfl rfl rfl rfl (F.un _ rfl) (F.sz _ rfl) rfl (by omega) (by omega) (by omega) ?_ | refine dw_idxN (q := a + (o - (b - a))) rfl rfl rfl rfl (F.un _ rfl) (F.sz _ rfl) rfl (by omega) (by omega) (by omega) ?_))
        (refine dk_nil ?_); (refine ⟨by kernel_rfl, ?_, ?_⟩); (focus (repeat (first | exact trivial | refine ⟨.inl rfl, ?_⟩ | refine ⟨.inr (by (repeat (refine ⟨(by first | exact rd_idxN (F.un _ rfl) (F.sz _ rfl) rfl rfl rfl (by omega) (by omega) (by omega) | exact rd_arith rfl rfl (.inl ⟨rfl, (Go.IntWalk.i64_in _ ⟨by omega, by omega⟩).symm⟩) | exact rd_arith rfl rfl (.inr (.inl ⟨rfl, (Go.IntWalk.i64_in _ ⟨by omega, by omega⟩).symm⟩)) | exact rd_fieldAddr (F.fo _ _ rfl rfl) rfl | exact rd_move rfl | exact rd_assign rfl | exact rd_load1 (F.ag _ rfl) rfl rfl (cell_box rfl) | exact rd_loadN (F.ag _ rfl) rfl rfl (cellsFrom_box _ 0 rfl rfl) | exact rd_extract rfl rfl | exact rd_lenSl (F.un _ rfl) rfl | exact rd_lenStr (F.un _ rfl) rfl | exact rd_nilCheck rfl | exact rd_pickT rfl rfl | exact rd_pickF rfl rfl), ?_⟩)); exact trivial), ?_⟩ | refine ⟨.inl (by kernel_rfl), ?_⟩)))
        (repeat (first | refine w_region ?_ | refine y_regEnd ?_ | refine y_inBlock ?_ | refine w_move rfl rfl rfl ?_ | refine w_assign rfl rfl rfl ?_ | refine w_add rfl rfl rfl rfl (by omega) (by omega) ?_))
        refine ih _ _ _ ((s, Sort.xorNext r), Sort.swp d1 (base + 3 - (s + 1)) (a + (o - (b - a)))) [1] ⟨by simp only; omega, by rw [swp_size]; exact hd1, ho'⟩ (by simp only; omega) ?_
        rw [hxn]
        (refine ⟨(ExtOk.of rfl), rfl, (by repeat (first | exact trivial | refine ⟨rfl, ?_⟩ | refine ⟨sl_eq (by first | omega | (simp only; omega)), ?_⟩)), (by repeat (first | exact trivial | refine ⟨at_dat rfl, ?_⟩ | refine ⟨at_box rfl, ?_⟩))⟩)
      · rw [if_neg (by omega)] at ho'
        (repeat (first | refine y_regEnd ?_ | refine y_skip ?_ | refine y_condF rfl ?_))
        refine w_draw (by kernel_rfl) (by kernel_rfl) ?_
        (repeat (first | refine dw_move rfl rfl rfl ?_ | refine dw_add rfl rfl rfl rfl (by omega) (by omega) ?_ | refine dw_ldR rfl rfl rfl (F.ag _ rfl) (recP) rfl (by first | omega | (simp only [Array.size_setIfInBounds, swp_size]; omega)) (by first | omega | (simp only [Array.size_setIfInBounds, swp_size]; omega)) ?_ | refine dw_stR rfl rfl rfl (recP) (F.sz _ rfl) rfl (by first | omega | (simp only [Array.size_setIfInBounds, swp_size]; omega)) (by first | omega | (simp only [Array.size_setIfInBounds, swp_size]; omega)) ?_ | refine dw_idxN (q := base + 3 - (s + 1)) rfl rfl rfl rfl (F.un _ rfl) (F.sz _ rfl) rfl (by omega) (by omega) (by omega) ?_ | refine dw_idxN (q := a + o) rfl rfl rfl rfl (F.un _ rfl) (F.sz _ rfl) rfl (by omega) (by omega) (by omega) ?_))
        (refine dk_nil ?_); (refine ⟨by kernel_rfl, ?_, ?_⟩); (focus (repeat (first | exact trivial | refine ⟨.inl rfl, ?_⟩ | refine ⟨.inr (by (repeat (refine ⟨(by first | exact rd_idxN (F.un _ rfl) (F.sz _ rfl) rfl rfl rfl (by omega) (by omega) (by omega) | exact rd_arith rfl rfl (.inl ⟨rfl, (Go.IntWalk.i64_in _ ⟨by omega, by omega⟩).symm⟩) | exact rd_arith rfl rfl (.inr (.inl ⟨rfl, (Go.IntWalk.i64_in _ ⟨by omega, by omega⟩).symm⟩)) | exact rd_fieldAddr (F.fo _ _ rfl rfl) rfl | exact rd_move rfl | exact rd_assign rfl | exact rd_load1 (F.ag _ rfl) rfl rfl (cell_box rfl) | exact rd_loadN (F.ag _ rfl) rfl rfl (cellsFrom_box _ 0 rfl rfl) | exact rd_extract rfl rfl | exact rd_lenSl (F.un _ rfl) rfl | exact rd_lenStr (F.un _ rfl) rfl | exact rd_nilCheck rfl | exact rd_pickT rfl rfl | exact rd_pickF rfl rfl), ?_⟩)); exact trivial), ?_⟩ | refine ⟨.inl (by kernel_rfl), ?_⟩)))
        (repeat (first | refine w_region ?_ | refine y_regEnd ?_ | refine y_inBlock ?_ | refine w_move rfl rfl rfl ?_ | refine w_assign rfl rfl rfl ?_ | refine w_add rfl rfl rfl rfl (by omega) (by omega) ?_))
        refine ih _ _ _ ((s, Sort.xorNext r), Sort.swp d1 (base + 3 - (s + 1)) (a + o)) [1] ⟨by simp only; omega, by rw [swp_size]; exact hd1, ho'⟩ (by simp only; omega) ?_
        rw [hxn]
        (refine ⟨(ExtOk.of rfl), rfl, (by repeat (first | exact trivial | refine ⟨rfl, ?_⟩ | refine ⟨sl_eq (by first | omega | (simp only; omega)), ?_⟩)), (by repeat (first | exact trivial | refine ⟨at_dat rfl, ?_⟩ | refine ⟨at_box rfl, ?_⟩))⟩)
    · obtain rfl : s = 0 := by omega
      (repeat (first | refine y_regEnd ?_ | refine y_exit rfl ?_ | refine y_condF rfl ?_))
      ((apply w_end Try.func55 (congrArg Array.toList Try.results55)); (focus (repeat (exact ResIs.nil))); refine ⟨_, rfl, Ends.mk [] (ExtOk.of rfl) rfl rfl ?_⟩)
      rw [← ho]
      exact (by repeat (first | exact trivial | refine ⟨at_dat rfl, ?_⟩))
  · rw [if_neg (by omega)] at ebp
    (repeat (first | refine y_regEnd ?_ | refine y_skip ?_ | refine y_condF rfl ?_))
    ((apply w_end Try.func55 (congrArg Array.toList Try.results55)); (focus (repeat (exact ResIs.nil))); refine ⟨_, rfl, Ends.mk [] (ExtOk.of rfl) rfl rfl ?_⟩)
    rw [ebp]
    exact (by repeat (first | exact trivial | refine ⟨at_dat rfl, ?_⟩))
end Go.Proofs.Ytfkfiafohcoomaa
end
