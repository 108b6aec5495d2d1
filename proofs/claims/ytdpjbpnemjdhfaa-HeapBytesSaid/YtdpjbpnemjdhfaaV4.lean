/-
  Texts of the proof, merged: P2 Hp SyNq SyNr SyNp SySx SyDf H1 H2 Ho Hr.
-/
import Derived.Test.YtdpjbpnemjdhfaaV3
set_option linter.unusedVariables false
set_option linter.unusedSimpArgs false
section
namespace Go.Proofs.Ytdpjbpnemjdhfaa
open Go Go.Sy Go.Sl Go.RowKit
abbrev pgS (p : List UInt8) : List SV := (byV p).map .sc
abbrev pgO (p : List UInt8) : VO := newCells 40 (pgS p)
theorem pgS_len {p : List UInt8} {n : Nat} (h : p.length = n) : (pgS p).length = n := by simpa using h
def putAt (p : List UInt8) (o : Nat) (l : List UInt8) : List UInt8 := p.take o ++ l ++ p.drop (o + l.length)
theorem putAt_len {p : List UInt8} {o : Nat} {l : List UInt8} (h : o + l.length ≤ p.length) : (putAt p o l).length = p.length := by
  unfold putAt
  simp only [List.length_append, List.length_take, List.length_drop]
  omega
def numP (p : List UInt8) (at' : Nat) : Nat := beN ((p.drop at').take 2)
def setP (p : List UInt8) (at' n : Nat) : List UInt8 := putAt p at' (beB n 2)
theorem setP_len {p : List UInt8} {o n : Nat} (h : o + 2 ≤ p.length) : (setP p o n).length = p.length := putAt_len (by rw [beB_len]; exact h)
theorem numP_lt (p : List UInt8) (o : Nat) : numP p o < 65536 := by
  have h1 := beN_lt ((p.drop o).take 2)
  have h2 : ((p.drop o).take 2).length ≤ 2 := by rw [List.length_take]; omega
  have h3 : 256 ^ ((p.drop o).take 2).length ≤ 256 ^ 2 := Nat.pow_le_pow_right (by decide) h2
  unfold numP
  omega
theorem pgS_cell {p : List UInt8} {i : Nat} (hi : i < p.length) : (pgO p).cell i = some (.sc (.int .u8 ((p[i]).toNat : Int))) := cell_box (by simp [hi])
theorem pgS_put {p : List UInt8} {o : Nat} {l : List UInt8} {n : Nat} (hn : (byV l).length = n) : (pgS p).take o ++ (byV l).map .sc ++ (pgS p).drop (o + n) = pgS (putAt p o l) := by
  subst hn
  unfold putAt
  simp [List.map_take, List.map_drop]
theorem bs_part {H : Heap} {b o m C : Nat} {p : List UInt8} (hb : H.at' b = some (pgO p)) (h : o + m ≤ p.length) : BsIs H (.sl b o m C) (byV ((p.drop o).take m)) := by
  have hl : (byV ((p.drop o).take m)).length = m := by simp; omega
  refine ⟨fun v hv => ?_, .inr (.inr ⟨b, o, C, _, by rw [hl], hb, ?_⟩)⟩
  · obtain ⟨c, _, rfl⟩ := List.mem_map.1 hv
    rfl
  · rw [hl]
    exact cellsFrom_box _ o (by simp [List.map_take, List.map_drop]) (by simpa using hl)
theorem bs_row {H : Heap} {r n : Nat} {ro : Bool} {l : List UInt8} (hb : H.at' r = some (dat ro n 1 5 (byV l))) (hn : l.length = n) : BsIs H (.slu r 0 n) (byV l) :=
  BsIs.row (fun v hv => by obtain ⟨c, _, rfl⟩ := List.mem_map.1 hv; rfl) hb (by simpa using hn)
set_option maxRecDepth 100000 in
set_option maxHeartbeats 0 in
theorem number_s {H : Heap} {nx b : Nat} {p : List UInt8} (hb : H.at' b = some (pgO p)) (hp : p.length = 1024) {o : Nat} (ho : o + 2 ≤ 1024) : Fnc Try.prog 53 [.ptr b 0, .sc (.int .i64 (o : Int))] H nx (fun q => q = (.sc (.int .i64 (numP p o : Int)), H, nx)) := by
  have hl : ((p.drop o).take 2).length = 2 := by simp; omega
  have hlt := numP_lt p o
  have hg : ∀ {nx C : Nat}, Fnc Try.prog 34 [.sl b o 2 C] H nx (fun q => q = (.tup [.sc (.int .u64 (numP p o : Int)), .sc (.int .i64 0)], H, nx)) := get_s (bs_part hb (by omega)) (by omega) (by omega)
  refine Fnc.start Try.func53 rfl rfl ?_
  (repeat (first | (first | refine y_seq ?_ | refine w_region ?_ | refine y_regEnd ?_ | (apply w_move; exact rfl; exact rfl; exact rfl) | (apply w_assign; exact rfl; exact rfl; exact rfl) | (apply w_extract; exact rfl; exact rfl; exact rfl; exact rfl) | (apply w_nilCheck; exact rfl; exact rfl; exact rfl) | (apply w_add; exact rfl; exact rfl; exact rfl; exact rfl; (focus (omega)); (focus (omega)))) | ((apply w_cutA (lw := o) (hg := o + 2); exact rfl; exact rfl; exact rfl; exact (F.un _ rfl); exact (F.sz _ rfl); exact rfl; exact rfl; (focus (omega)); (focus (omega)); (focus (omega)); exact (show o + 2 - o = 2 by omega); exact rfl; exact (Nat.zero_add o))) | (refine w_call rfl rfl rfl (by kernel_rfl) (Fnc.mono (hg) ?_); rintro _ rfl; dsimp only) | (apply w_conv; exact rfl; exact rfl; exact rfl; exact (F.un _ rfl); exact (F.un _ rfl); exact (show _ = ((numP p o : Nat) : Int) from Go.IntWalk.i64_in _ ⟨by omega, by omega⟩))))
  ((apply w_ret Try.func53 (congrArg Array.toList Try.results53)); (focus (repeat (first | exact ResIs.nil | apply ResIs.tmp rfl))))
  rfl
abbrev slotsP (p : List UInt8) : Nat := numP p 14
abbrev beginP (p : List UInt8) : Nat := numP p 16
theorem slots_s {H : Heap} {nx b : Nat} {p : List UInt8} (hb : H.at' b = some (pgO p)) (hp : p.length = 1024) : Fnc Try.prog 40 [.ptr b 0] H nx (fun q => q = (.sc (.int .i64 (slotsP p : Int)), H, nx)) := by
  refine Fnc.start Try.func40 rfl rfl ?_
  (repeat (first | (first | refine y_seq ?_ | refine w_region ?_ | refine y_regEnd ?_ | (apply w_move; exact rfl; exact rfl; exact rfl) | (apply w_assign; exact rfl; exact rfl; exact rfl)) | (refine w_call rfl rfl rfl (by kernel_rfl) (Fnc.mono (number_s (o := 14) hb hp (by decide)) ?_); rintro _ rfl; dsimp only)))
  ((apply w_ret Try.func40 (congrArg Array.toList Try.results40)); (focus (repeat (first | exact ResIs.nil | apply ResIs.tmp rfl))))
  rfl
theorem begin_s {H : Heap} {nx b : Nat} {p : List UInt8} (hb : H.at' b = some (pgO p)) (hp : p.length = 1024) : Fnc Try.prog 46 [.ptr b 0] H nx (fun q => q = (.sc (.int .i64 (beginP p : Int)), H, nx)) := by
  refine Fnc.start Try.func46 rfl rfl ?_
  (repeat (first | (first | refine y_seq ?_ | refine w_region ?_ | refine y_regEnd ?_ | (apply w_move; exact rfl; exact rfl; exact rfl) | (apply w_assign; exact rfl; exact rfl; exact rfl)) | (refine w_call rfl rfl rfl (by kernel_rfl) (Fnc.mono (number_s (o := 16) hb hp (by decide)) ?_); rintro _ rfl; dsimp only)))
  ((apply w_ret Try.func46 (congrArg Array.toList Try.results46)); (focus (repeat (first | exact ResIs.nil | apply ResIs.tmp rfl))))
  rfl
abbrev finF (f : Nat) : SV := .fn (.func 55) [] [.ptr f 0]
abbrev finO (b : Nat) : VO := newCells 83 [.ptr b 0]
theorem finder_s {H : Heap} {nx b : Nat} : Fnc Try.prog 52 [.ptr b 0] H nx (fun q => q = (finF nx, H.set nx (finO b), nx + 1)) := by
  refine Fnc.start Try.func52 rfl rfl ?_
  (repeat (first | refine y_seq ?_ | refine w_region ?_ | refine y_regEnd ?_ | (apply w_assign; exact rfl; exact rfl; exact rfl) | (apply w_makeFunc; exact rfl; exact rfl; exact rfl; exact rfl) | (apply w_box; exact rfl; exact rfl; exact rfl; exact rfl)))
  ((apply w_ret Try.func52 (congrArg Array.toList Try.results52)); (focus (repeat (first | exact ResIs.nil | apply ResIs.tmp rfl))))
  rfl
abbrev fromP (p : List UInt8) (n : Nat) : Nat := numP p (18 + 4 * n)
abbrev sizeP (p : List UInt8) (n : Nat) : Nat := numP p (18 + 4 * n + 2)
set_option maxRecDepth 100000 in
set_option maxHeartbeats 0 in
theorem where_s {H : Heap} {nx b f n : Nat} {p : List UInt8} (hf : H.at' f = some (finO b)) (hb : H.at' b = some (pgO p)) (hp : p.length = 1024) (hn : 18 + 4 * n + 4 ≤ 1024) : Fnc Try.prog 55 [.sc (.int .i64 (n : Int)), .ptr f 0] H nx
    (fun q => q = (.tup [.sc (.int .i64 (fromP p n : Int)), .sc (.int .i64 (sizeP p n : Int))], H, nx)) := by
  have h1 : ∀ nx, Fnc Try.prog 53 [.ptr b 0, .sc (.int .i64 (18 + 4 * (n : Int)))] H nx (fun q => q = (.sc (.int .i64 (fromP p n : Int)), H, nx)) := fun nx => by
    have := number_s (nx := nx) (o := 18 + 4 * n) hb hp (by omega)
    rw [show ((18 + 4 * n : Nat) : Int) = 18 + 4 * (n : Int) by omega] at this
    exact this
  have h2 : ∀ nx, Fnc Try.prog 53 [.ptr b 0, .sc (.int .i64 (18 + 4 * (n : Int) + 2))] H nx (fun q => q = (.sc (.int .i64 (sizeP p n : Int)), H, nx)) := fun nx => by
    have := number_s (nx := nx) (o := 18 + 4 * n + 2) hb hp (by omega)
    rw [show ((18 + 4 * n + 2 : Nat) : Int) = 18 + 4 * (n : Int) + 2 by omega] at this
    exact this
  refine Fnc.start Try.func55 rfl rfl ?_
  (repeat (first | refine y_seq ?_ | refine w_region ?_ | refine y_regEnd ?_ | (apply w_move; exact rfl; exact rfl; exact rfl) | (apply w_assign; exact rfl; exact rfl; exact rfl) | (apply w_add; exact rfl; exact rfl; exact rfl; exact rfl; (focus (omega)); (focus (omega))) | (apply w_mul; exact rfl; exact rfl; exact rfl; exact rfl; (focus (omega)); (focus (omega)))))
  (apply w_draw; (focus (kernel_rfl)); (focus (kernel_rfl)))
  (repeat (first | (first | (apply dw_move; exact rfl; exact rfl; exact rfl) | (apply dw_assign; exact rfl; exact rfl; exact rfl) | (apply dw_add; exact rfl; exact rfl; exact rfl; exact rfl; (focus (omega)); (focus (omega)))) | (refine dw_loadB1 rfl rfl rfl (F.ag _ rfl) hf rfl ?_) | ((apply dk_call; exact rfl; exact rfl; exact rfl; (focus (kernel_rfl)); exact (h1 _))) | ((apply dk_call; exact rfl; exact rfl; exact rfl; (focus (kernel_rfl)); exact (h2 _)))))
  (refine dk_nil ?_); (refine ⟨by kernel_rfl, ?_, ?_⟩); (focus (repeat (first | exact trivial | refine ⟨.inl rfl, ?_⟩ | refine ⟨.inr (by (repeat (refine ⟨(by first | exact rd_arith rfl rfl (.inl ⟨rfl, (Go.IntWalk.i64_in _ ⟨by omega, by omega⟩).symm⟩) | exact rd_move rfl | exact rd_assign rfl | exact rd_load1 (F.ag _ rfl) rfl (by (focus ((repeat (assumption)); done))) (cell_box rfl)), ?_⟩)); exact trivial), ?_⟩)))
  ((apply w_ret Try.func55 (congrArg Array.toList Try.results55)); (focus (repeat (first | exact ResIs.nil | apply ResIs.tmp rfl))))
  rfl
set_option maxRecDepth 100000 in
set_option maxHeartbeats 0 in
/-- A number is laid into a page. -/
theorem set_s {H : Heap} {nx b : Nat} {p : List UInt8} (hb : H.at' b = some (pgO p)) (hp : p.length = 1024) {o n : Nat} (ho : o + 2 ≤ 1024) (hn : n < 65536) : Fnc Try.prog 43 [.ptr b 0, .sc (.int .i64 (o : Int)), .sc (.int .i64 (n : Int))] H nx
    (fun q => q.1 = .tup [] ∧ q.2.1.at' b = some (pgO (setP p o n)) ∧ nx ≤ q.2.2 ∧ ∀ m, m < nx → m ≠ b → q.2.1.at' m = H.at' m) := by
  refine Fnc.start Try.func43 rfl rfl ?_
  refine y_under fun hund => ?_
  have hlt := hund _ _ hb
  (repeat (first | (first | refine y_seq ?_ | refine w_region ?_ | (apply w_move; exact rfl; exact rfl; exact rfl)) | (apply w_conv; exact rfl; exact rfl; exact rfl; exact (F.un _ rfl); exact (F.un _ rfl); exact (show _ = ((n : Nat) : Int) from Go.IntWalk.u64_in _ ⟨by omega, by omega⟩))))
  refine w_call rfl rfl rfl (by kernel_rfl) (Fnc.mono (put_s (n := n) (size := 2) (by omega) (by decide) (by decide) (by omega)) ?_)
  rintro ⟨_, H2, n2⟩ ⟨rfl, h2, rfl, h4⟩
  dsimp only at h2 h4 ⊢
  have hb2 := (h4 b hlt).trans hb
  (repeat (first | (first | refine y_seq ?_ | refine w_region ?_ | refine y_regEnd ?_ | refine y_condT rfl ?_ | (apply w_move; exact rfl; exact rfl; exact rfl) | (apply w_assign; exact rfl; exact rfl; exact rfl) | (apply w_extract; exact rfl; exact rfl; exact rfl; exact rfl) | (apply w_nilCheck; exact rfl; exact rfl; exact rfl) | (apply w_add; exact rfl; exact rfl; exact rfl; exact rfl; (focus (omega)); (focus (omega)))) | ((apply w_cutA (lw := o) (hg := o + 2); exact rfl; exact rfl; exact rfl; exact (F.un _ rfl); exact (F.sz _ rfl); exact rfl; exact rfl; (focus (omega)); (focus (omega)); (focus (omega)); exact (show o + 2 - o = 2 by omega); exact rfl; exact (Nat.zero_add o))) | ((apply w_eql; exact rfl; exact rfl; exact rfl; exact rfl))))
  refine w_copyB rfl rfl rfl rfl (F.un _ rfl) (F.sz _ rfl) hb2 (bs_row h2 (by rw [beB_len])) (by simp [beB_len]) (by simp [beB_len]; omega) ?_
  (repeat (refine y_regEnd ?_))
  ((apply w_end Try.func43 (congrArg Array.toList Try.results43)); (focus (repeat (exact ResIs.nil))))
  refine ⟨rfl, ?_, Nat.le_succ _, fun m hm hmb => (Tr.at_set_other _ _ hmb).trans (h4 m hm)⟩
  rw [Tr.at_set_same, pgS_put (by simp [beB_len])]
  rfl
def pointP (p : List UInt8) (n a s : Nat) : List UInt8 := setP (setP p (18 + 4 * n) a) (18 + 4 * n + 2) s
theorem pointP_len {p : List UInt8} {n a s : Nat} (h : 18 + 4 * n + 4 ≤ p.length) : (pointP p n a s).length = p.length := by
  unfold pointP
  rw [setP_len, setP_len (by omega)]
  rw [setP_len (by omega)]
  omega
set_option maxRecDepth 100000 in
set_option maxHeartbeats 0 in
theorem point_s {H : Heap} {nx b : Nat} {p : List UInt8} (hb : H.at' b = some (pgO p)) (hp : p.length = 1024) {n a s : Nat} (hn : 18 + 4 * n + 4 ≤ 1024) (ha : a < 65536) (hs : s < 65536) : Fnc Try.prog 42 [.ptr b 0, .sc (.int .i64 (n : Int)), .sc (.int .i64 (a : Int)), .sc (.int .i64 (s : Int))] H nx
    (fun q => q.1 = .tup [] ∧ q.2.1.at' b = some (pgO (pointP p n a s)) ∧ nx ≤ q.2.2 ∧ ∀ m, m < nx → m ≠ b → q.2.1.at' m = H.at' m) := by
  have h1 : ∀ {H : Heap} {nx : Nat}, H.at' b = some (pgO p) → Fnc Try.prog 43 [.ptr b 0, .sc (.int .i64 (18 + 4 * (n : Int))), .sc (.int .i64 (a : Int))] H nx _ := fun {H nx} hb => by
    have := set_s (nx := nx) (o := 18 + 4 * n) hb hp (by omega) ha
    rw [show ((18 + 4 * n : Nat) : Int) = 18 + 4 * (n : Int) by omega] at this
    exact this
  have h2 : ∀ {H : Heap} {nx : Nat}, H.at' b = some (pgO (setP p (18 + 4 * n) a)) → Fnc Try.prog 43 [.ptr b 0, .sc (.int .i64 (18 + 4 * (n : Int) + 2)), .sc (.int .i64 (s : Int))] H nx _ := fun {H nx} hb => by
    have := set_s (nx := nx) (o := 18 + 4 * n + 2) hb (by rw [setP_len (by omega)]; exact hp) (by omega) hs
    rw [show ((18 + 4 * n + 2 : Nat) : Int) = 18 + 4 * (n : Int) + 2 by omega] at this
    exact this
  refine Fnc.start Try.func42 rfl rfl ?_
  refine y_under fun hund => ?_
  have hlt := hund _ _ hb
  (repeat (first | refine y_seq ?_ | refine w_region ?_ | (apply w_move; exact rfl; exact rfl; exact rfl) | (apply w_add; exact rfl; exact rfl; exact rfl; exact rfl; (focus (omega)); (focus (omega))) | (apply w_mul; exact rfl; exact rfl; exact rfl; exact rfl; (focus (omega)); (focus (omega)))))
  refine w_call rfl rfl rfl (by kernel_rfl) (Fnc.mono (h1 hb) ?_)
  rintro ⟨_, H2, n2⟩ ⟨rfl, g2, g3, g4⟩
  dsimp only at g2 g3 g4 ⊢
  (repeat (first | refine w_region ?_ | refine y_regEnd ?_ | (apply w_move; exact rfl; exact rfl; exact rfl) | (apply w_add; exact rfl; exact rfl; exact rfl; exact rfl; (focus (omega)); (focus (omega))) | (apply w_mul; exact rfl; exact rfl; exact rfl; exact rfl; (focus (omega)); (focus (omega)))))
  refine w_call rfl rfl rfl (by kernel_rfl) (Fnc.mono (h2 g2) ?_)
  rintro ⟨_, H3, n3⟩ ⟨rfl, k2, k3, k4⟩
  dsimp only at k2 k3 k4 ⊢
  (repeat (refine y_regEnd ?_))
  ((apply w_end Try.func42 (congrArg Array.toList Try.results42)); (focus (repeat (exact ResIs.nil))))
  exact ⟨rfl, k2, Nat.le_trans g3 k3, fun m hm hmb => (k4 m (by omega) hmb).trans (g4 m hm hmb)⟩
theorem mayItem_s {H : Heap} {nx n : Nat} : Fnc Try.prog 44 [.sc (.int .i64 (n : Int))] H nx (fun q => q = (.sc (.bool (decide (1 ≤ n ∧ n ≤ 1000))), H, nx)) := by
  refine Fnc.start Try.func44 rfl rfl ?_
  (repeat' (first | (first | refine y_seq ?_ | refine w_region ?_ | refine y_regEnd ?_ | (apply w_move; exact rfl; exact rfl; exact rfl) | (apply w_assign; exact rfl; exact rfl; exact rfl) | (apply w_pickT; exact rfl; exact rfl; exact rfl; exact rfl) | (apply w_pickF; exact rfl; exact rfl; exact rfl; exact rfl) | (apply w_not; exact rfl)) | (refine w_geqS rfl rfl rfl rfl ?_ ?_ <;> intro hq) | (refine w_leqS rfl rfl rfl rfl ?_ ?_ <;> intro hq2)))
  all_goals ((apply w_ret Try.func44 (congrArg Array.toList Try.results44)); (focus (repeat (first | exact ResIs.nil | apply ResIs.tmp rfl))))
  all_goals first | (rw [decide_eq_true (by omega)]; rfl) | (rw [decide_eq_false (by omega)]; rfl)
def zeroP : List UInt8 := List.replicate 1024 0
theorem zeroP_len : zeroP.length = 1024 := List.length_replicate
def initP (k : UInt8) : List UInt8 := setP (zeroP.set 12 k) 16 1024
theorem initP_len (k : UInt8) : (initP k).length = 1024 := by
  unfold initP
  rw [setP_len (by rw [List.length_set, zeroP_len]; decide), List.length_set, zeroP_len]
theorem zPage : zeroL Try.prog 40 = some (pgS zeroP) := by kernel_rfl
theorem seg_pg (a b : List UInt8) (ha : a.length = 1024) (hb : b.length = 1024) : List.take 0 (pgS a) ++ (SV.agg (pgS b)).cells ++ List.drop (0 + 1024) (pgS a) = pgS b := by
  rw [List.take_zero, List.nil_append, Nat.zero_add, List.drop_of_length_le (by simp [ha]), List.append_nil]
  rfl
theorem one_pg (p : List UInt8) : allOne (pgS p) = true := by
  induction p with
  | nil => rfl
  | cons c p ih => exact ih
theorem box_pg {p : List UInt8} (hp : p.length = 1024) : (pgO p).cellsFrom 0 1024 = some (pgS p) :=
  cellsFrom_box _ 0 (by rw [List.drop_zero, List.take_of_length_le (by simp [hp])]) (by simp [hp])
theorem set_pg (p : List UInt8) (i : Nat) (c : UInt8) : (pgS p).set i (.sc (.int .u8 (c.toNat : Int))) = pgS (p.set i c) := by simp [List.map_set]
theorem one_pgS {p : List UInt8} {i : Nat} (hi : i < p.length) (c : UInt8) : List.take i (pgS p) ++ (SV.sc (.int .u8 (c.toNat : Int))).cells ++ List.drop (i + 1) (pgS p) = pgS (p.set i c) := by
  rw [← set_pg, List.set_eq_take_append_cons_drop, if_pos (by simpa using hi)]
  simp [SV.cells]
set_option maxRecDepth 100000 in
set_option maxHeartbeats 0 in
theorem init_r {H : Heap} {nx : Nat} (k : UInt8) : Fnc Try.prog 48 [.sc (.int .u8 (k.toNat : Int))] H nx (fun q => q.1 = .agg (pgS (initP k)) ∧ nx ≤ q.2.2 ∧ ∀ m, m < nx → q.2.1.at' m = H.at' m) := by
  refine Fnc.start Try.func48 rfl rfl ?_
  have hl0 : (pgS zeroP).length = 1024 := by rw [List.length_map, List.length_map]; exact zeroP_len
  (repeat (first | (first | refine y_seq ?_ | refine w_region ?_ | refine y_regEnd ?_ | (apply w_move; exact rfl; exact rfl; exact rfl) | refine w_storeC rfl rfl rfl rfl (F.sz _ rfl) (by (focus ((repeat (exact Tr.at_set_same _ _ _)); done))) rfl (by exact Nat.le_of_ble_eq_true rfl) rfl ?_) | (refine w_alloc rfl rfl zPage ?_) | (apply w_idxA (q := 12); exact rfl; exact rfl; exact rfl; exact rfl; exact (F.un _ rfl); exact (F.sz _ rfl); (focus (omega)); (focus (omega)))))
  rw [one_pgS (p := zeroP) (i := 0 + 12 * 1) (by rw [zeroP_len]; decide) k, show 0 + 12 * 1 = 12 from rfl]
  refine w_call rfl rfl rfl (by kernel_rfl) (Fnc.mono (set_s (b := nx + 1) (p := zeroP.set 12 k) (o := 16) (n := 1024) (by (focus ((repeat (exact Tr.at_set_same _ _ _)); done))) (by rw [List.length_set]; exact zeroP_len) (by decide) (by decide)) ?_)
  rintro ⟨_, H2, n2⟩ ⟨rfl, g2, g3, g4⟩
  dsimp only at g2 g3 g4 ⊢
  have hres : H2.at' nx = some (pgO zeroP) := (g4 nx (by omega) (by omega)).trans (by (focus ((repeat (first | exact Tr.at_set_same _ _ _ | refine (Tr.at_set_other _ _ (by omega)).trans ?_)); done)))
  have hl : (initP k).length = 1024 := initP_len k
  (repeat (first | refine y_seq ?_ | refine w_region ?_ | refine y_regEnd ?_ | refine w_storeC rfl rfl rfl rfl (F.sz _ rfl) (by (focus ((repeat (assumption)); done))) rfl (by exact Nat.le_of_ble_eq_true rfl) rfl ?_ | refine w_loadBN rfl rfl rfl (F.ag _ rfl) (by (focus ((repeat (assumption)); done))) (by exact rfl) ?_))
  rw [show setP (zeroP.set 12 k) 16 1024 = initP k from rfl, seg_pg zeroP (initP k) zeroP_len hl]
  ((apply w_ret Try.func48 (congrArg Array.toList Try.results48)); (focus ((apply ResIs.cell rfl (LoadIs.many (F.ag _ rfl) (by (focus ((repeat (exact Tr.at_set_same _ _ _)); done))) (box_pg hl))); (repeat (exact ResIs.nil)))))
  exact ⟨rfl, by dsimp only; omega, fun m hm => (Tr.at_set_other _ _ (by omega)).trans ((g4 m (by omega) (by omega)).trans (by (focus ((repeat (refine (Tr.at_set_other _ _ (by omega)).trans ?_)); exact rfl))))⟩
theorem init_s {H : Heap} {nx : Nat} (k : UInt8) : Fnc Try.prog 48 [.sc (.int .u8 (k.toNat : Int))] H nx (fun q => q = (.agg (pgS (initP k)), H, nx)) := Fnc.forgetV (Free.agg _) (init_r k)
end Go.Proofs.Ytdpjbpnemjdhfaa
end
section
namespace Go.Proofs.Ytdpjbpnemjdhfaa
open Go Go.Sy Go.Sl Go.RowKit
abbrev VerT := List UInt8 × List UInt8 × Nat × Nat
def mayV (v : VerT) : Bool := decide ((1 ≤ v.1.length ∧ v.1.length ≤ 32) ∧ v.2.1.length ≤ 128 ∧ (1 ≤ v.2.2.1 ∧ v.2.2.1 ≤ 4000) ∧ v.2.2.2 ≤ 4000)
def blobB (l : List UInt8) : List UInt8 := beB l.length 2 ++ l
def bytesV (v : VerT) : List UInt8 := beB v.2.2.1 8 ++ (beB v.2.2.2 8 ++ (blobB v.1 ++ blobB v.2.1))
theorem bytesV_len (v : VerT) : (bytesV v).length = 20 + v.1.length + v.2.1.length := by
  unfold bytesV blobB
  simp only [List.length_append, beB_len]
  omega
def stepR : Option (List UInt8) → Nat → List UInt8 × Option (List UInt8)
  | none, _ => ([], none)
  | some l, n => if n ≤ l.length then (l.take n, some (l.drop n)) else ([], none)
theorem stepR_ok {l : List UInt8} {n : Nat} (h : n ≤ l.length) : stepR (some l) n = (l.take n, some (l.drop n)) := if_pos h
theorem stepR_no {l : List UInt8} {n : Nat} (h : l.length < n) : stepR (some l) n = ([], none) := if_neg (by omega)
def blobR (st : Option (List UInt8)) : List UInt8 × Option (List UInt8) := stepR (stepR st 2).2 (beN (stepR st 2).1)
theorem blobR_none : blobR none = ([], none) := rfl
def parseV (l : List UInt8) : VerT × Option (List UInt8) :=
  let a := stepR (some l) 8
  let b := stepR a.2 8
  let k := blobR b.2
  let v := blobR k.2
  ((k.1, v.1, beN a.1, beN b.1), v.2)
def finV (st : Option (List UInt8)) (v : VerT) : Option VerT := if st = some [] ∧ mayV v = true then some v else none
theorem finV_no {st : Option (List UInt8)} {v : VerT} (h : st ≠ some []) : finV st v = none := if_neg fun h' => h h'.1
def ofV (l : List UInt8) : Option VerT := if 180 < l.length then none else finV (parseV l).2 (parseV l).1
def verR (l : List UInt8) : VerT := let k := beN ((l.drop 16).take 2); ((l.drop 18).take k, l.drop (20 + k), beN (l.take 8), beN ((l.drop 8).take 8))
def ofR (l : List UInt8) : Option VerT :=
  if l.length < 20 then none else if l.length < 20 + beN ((l.drop 16).take 2) then none
  else if mayV (verR l) = true ∧ beN ((l.drop (18 + beN ((l.drop 16).take 2))).take 2) = (l.drop (20 + beN ((l.drop 16).take 2))).length then some (verR l) else none
theorem blobR_some {m : List UInt8} (h2 : 2 ≤ m.length) : blobR (some m) = stepR (some (m.drop 2)) (beN (m.take 2)) := by
  unfold blobR
  rw [stepR_ok h2]
theorem blobR_short {m : List UInt8} (h2 : m.length < 2) : blobR (some m) = ([], none) := by
  unfold blobR
  rw [stepR_no h2]
  rfl
theorem of_eq (l : List UInt8) : ofV l = ofR l := by
  have hnone : ∀ {v : VerT}, finV none v = none := finV_no (fun h => by cases h)
  unfold ofR
  by_cases h16 : l.length < 16
  · rw [if_pos (by omega)]
    unfold ofV
    rw [if_neg (by omega)]
    have : (parseV l).2 = none := by
      unfold parseV
      by_cases h8 : l.length < 8
      · rw [stepR_no h8]; rfl
      · rw [stepR_ok (by omega)]
        simp only
        rw [stepR_no (by rw [List.length_drop]; omega)]
        rfl
    rw [this, hnone]
  · have e1 : parseV l = (((blobR (some (l.drop 16))).1, (blobR (blobR (some (l.drop 16))).2).1, beN (l.take 8), beN ((l.drop 8).take 8)), (blobR (blobR (some (l.drop 16))).2).2) := by
      unfold parseV
      rw [stepR_ok (by omega)]
      simp only
      rw [stepR_ok (by rw [List.length_drop]; omega)]
      simp only [List.drop_drop]
    unfold ofV
    rw [e1]
    by_cases h18 : l.length < 18
    · rw [if_pos (show l.length < 20 by omega), if_neg (by omega), blobR_short (by rw [List.length_drop]; omega), blobR_none, hnone]
    · rw [blobR_some (by rw [List.length_drop]; omega), List.drop_drop, show 16 + 2 = 18 from rfl]
      have hver : verR l = ((l.drop 18).take (beN ((l.drop 16).take 2)), l.drop (20 + beN ((l.drop 16).take 2)), beN (l.take 8), beN ((l.drop 8).take 8)) := rfl
      generalize hk : beN ((l.drop 16).take 2) = k at hver ⊢
      by_cases hk1 : l.length < 18 + k
      · rw [stepR_no (by rw [List.length_drop]; omega)]
        simp only [blobR_none]
        rw [hnone]
        have : (if l.length < 20 then none else if l.length < 20 + k then none else if mayV (verR l) = true ∧ beN ((l.drop (18 + k)).take 2) = (l.drop (20 + k)).length then some (verR l) else none) = none := by
          split
          · rfl
          · rw [if_pos (by omega)]
        rw [this]
        split <;> rfl
      · rw [stepR_ok (by rw [List.length_drop]; omega), List.drop_drop]
        simp only
        by_cases h20 : l.length < 20 + k
        · rw [blobR_short (by rw [List.length_drop]; omega)]
          simp only
          rw [hnone, if_pos h20]
          split <;> (split <;> rfl)
        · rw [blobR_some (by rw [List.length_drop]; omega), List.drop_drop, show 18 + k + 2 = 20 + k by omega]
          generalize hn : beN ((l.drop (18 + k)).take 2) = n
          rw [if_neg (show ¬ l.length < 20 by omega), if_neg h20, hver]
          have hlen : (l.drop (20 + k)).length = l.length - (20 + k) := List.length_drop
          by_cases hn1 : n = (l.drop (20 + k)).length
          · rw [stepR_ok (by omega), hn1, List.take_length, List.drop_length]
            simp only
            by_cases hm : mayV ((l.drop 18).take k, l.drop (20 + k), beN (l.take 8), beN ((l.drop 8).take 8)) = true
            · have hb := of_decide_eq_true hm
              simp only [List.length_take, List.length_drop] at hb
              rw [if_neg (show ¬ 180 < l.length by omega), if_pos (show mayV ((l.drop 18).take k, l.drop (20 + k), beN (l.take 8), beN ((l.drop 8).take 8)) = true ∧ True from ⟨hm, trivial⟩)]
              exact if_pos ⟨rfl, hm⟩
            · rw [if_neg (show ¬ (mayV ((l.drop 18).take k, l.drop (20 + k), beN (l.take 8), beN ((l.drop 8).take 8)) = true ∧ True) from fun h => hm h.1)]
              have : finV (some []) ((l.drop 18).take k, l.drop (20 + k), beN (l.take 8), beN ((l.drop 8).take 8)) = none := if_neg fun h => hm h.2
              rw [this]
              split <;> rfl
          · have hno : ¬ (mayV ((l.drop 18).take k, l.drop (20 + k), beN (l.take 8), beN ((l.drop 8).take 8)) = true ∧ n = (l.drop (20 + k)).length) := fun h => hn1 h.2
            rw [if_neg hno]
            by_cases hn2 : (l.drop (20 + k)).length < n
            · rw [stepR_no hn2]
              simp only
              rw [hnone]
              split <;> rfl
            · rw [stepR_ok (by omega)]
              simp only
              rw [finV_no (fun h => ?_)]
              · split <;> rfl
              · have := congrArg List.length (Option.some.inj h)
                simp only [List.length_drop, List.length_nil] at this
                omega
theorem foldl_be : ∀ (l : List UInt8) (a : Nat), l.foldl (fun n c => 256 * n + c.toNat) a = a * 256 ^ l.length + beN l
  | [], a => by simp [beN]
  | c :: l, a => by
    have h1 := foldl_be l (256 * a + c.toNat)
    have h2 := foldl_be l c.toNat
    simp only [List.foldl_cons, List.length_cons]
    rw [h1]
    have : beN (c :: l) = c.toNat * 256 ^ l.length + beN l := by
      show l.foldl _ (256 * 0 + c.toNat) = _
      rw [Nat.mul_zero, Nat.zero_add, h2]
    rw [this, Nat.pow_succ, Nat.add_mul, Nat.mul_comm (256 ^ l.length) 256, ← Nat.mul_assoc, Nat.mul_comm a 256]
    omega
theorem beN_cons (c : UInt8) (l : List UInt8) : beN (c :: l) = c.toNat * 256 ^ l.length + beN l := by
  show l.foldl _ (256 * 0 + c.toNat) = _
  rw [Nat.mul_zero, Nat.zero_add, foldl_be]
theorem beB_succ (n size : Nat) : beB n (size + 1) = UInt8.ofNat (n / 256 ^ size) :: beB n size := by
  unfold beB
  rw [List.range_succ_eq_map, List.map_cons, List.map_map]
  congr 1
  refine List.map_congr_left fun i _ => ?_
  simp only [Function.comp]
  rw [show size + 1 - 1 - (i + 1) = size - 1 - i by omega]
theorem beN_mod : ∀ (size n : Nat), beN (beB n size) = n % 256 ^ size
  | 0, n => by simp [beB, beN, Nat.mod_one]
  | size + 1, n => by
    have e : 256 ^ (size + 1) = 256 ^ size * 256 := Nat.pow_succ _ _
    rw [beB_succ, beN_cons, beB_len, beN_mod size n, UInt8.toNat_ofNat', e, Nat.mod_mul]
    show n / 256 ^ size % 256 * 256 ^ size + n % 256 ^ size = _
    rw [Nat.mul_comm (256 ^ size)]
    exact Nat.add_comm _ _
theorem beN_put {n size : Nat} (h : n < 256 ^ size) : beN (beB n size) = n := by rw [beN_mod, Nat.mod_eq_of_lt h]
theorem of_bytes {v : VerT} (h : mayV v = true) : ofV (bytesV v) = some v := by
  have hm := of_decide_eq_true h
  have hl := bytesV_len v
  have e2 : beN (beB v.1.length 2) = v.1.length := beN_put (by omega)
  have e3 : beN (beB v.2.1.length 2) = v.2.1.length := beN_put (by omega)
  have e4 : beN (beB v.2.2.1 8) = v.2.2.1 := beN_put (by omega)
  have e5 : beN (beB v.2.2.2 8) = v.2.2.2 := beN_put (by omega)
  have hp : parseV (bytesV v) = (v, some []) := by
    unfold parseV
    rw [stepR_ok (by rw [hl]; omega)]
    unfold bytesV
    rw [List.take_left' (beB_len _ _), List.drop_left' (beB_len _ _)]
    simp only
    rw [stepR_ok (by rw [List.length_append, beB_len]; omega), List.take_left' (beB_len _ _), List.drop_left' (beB_len _ _)]
    simp only
    unfold blobB
    rw [List.append_assoc, blobR_some (by rw [List.length_append, beB_len]; omega), List.take_left' (beB_len _ _), List.drop_left' (beB_len _ _), e2]
    rw [stepR_ok (by rw [List.length_append]; omega), List.take_left' rfl, List.drop_left' rfl]
    simp only
    rw [blobR_some (by rw [List.length_append, beB_len]; omega), List.take_left' (beB_len _ _), List.drop_left' (beB_len _ _), e3]
    rw [stepR_ok (Nat.le_refl _), List.take_length, List.drop_length, e4, e5]
  unfold ofV
  rw [if_neg (by omega), hp]
  exact if_pos ⟨rfl, h⟩
end Go.Proofs.Ytdpjbpnemjdhfaa
end
section
namespace Go.Sy.Nq
open Go Go.Sy Go.Sl Go.RowKit
def ReadQ (P : Program) (rn : Rn) (T : Tr SV) (H : Heap) (nx : Nat) (o : Oper) (v : SV) : Prop := ReadDoes P T H o v ∨ DrawEff P rn T H nx o (v, H, nx)
def DrawOneQ (P : Program) (rn : Rn) (nt : Nat) (ops : Array Oper) (i : Nat) (o : Oper) (s s' : DS) : Prop :=
  (wantedS (onlyT s.T (needs ops.toList o)) ops o = some false ∧ s' = { s with T := putS nt s.T o.dst undefS, recs := ⟨i, o, onlyT s.T (needs ops.toList o), s.stg, false, false, undefS⟩ :: s.recs }) ∨
  (wantedS (onlyT s.T (needs ops.toList o)) ops o = some true ∧ (∀ c, o.op ≠ .defer c) ∧ ∃ v, ReadQ P rn (onlyT s.T (needs ops.toList o)) s.H s.nx o v ∧ s' = { s with T := putS nt s.T o.dst v, recs := ⟨i, o, onlyT s.T (needs ops.toList o), s.stg, false, true, v⟩ :: s.recs }) ∨
  (wantedS (onlyT s.T (needs ops.toList o)) ops o = some true ∧ ∃ v H nx, DrawEff P rn (onlyT s.T (needs ops.toList o)) s.H s.nx o (v, H, nx) ∧ s' = ⟨putS nt s.T o.dst v, H, nx, ⟨i, o, onlyT s.T (needs ops.toList o), s.stg, true, true, v⟩ :: s.recs, (H, nx) :: s.Hs, s.stg + 1⟩)
inductive DrawRunQ (P : Program) (rn : Rn) (nt : Nat) (ops : Array Oper) : Nat → List Oper → DS → DS → Prop
  | nil (i : Nat) (s : DS) : DrawRunQ P rn nt ops i [] s s
  | cons {i : Nat} {o : Oper} {l : List Oper} {s s1 s' : DS} : DrawOneQ P rn nt ops i o s s1 → DrawRunQ P rn nt ops (i + 1) l s1 s' → DrawRunQ P rn nt ops i (o :: l) s s'
def FloatsOkQ (P : Program) (rn : Rn) (ops : Array Oper) (s : DS) : Prop :=
  ∀ r ∈ s.recs, r.chain = false → r.wanted = true → ∀ st, lowOf ((ancGo [] ops.toList).getD r.i 0) (chainOf s) ≤ st → st ≤ highOf (ancGo [] ops.toList) r.i (chainOf s) → st ≠ r.stg →
    ∀ H n, s.Hs.reverse[st]? = some (H, n) → ReadQ P rn r.T H n r.o r.val
def DrawRegionQ (P : Program) (rn : Rn) (ops : Array Oper) (nt : Nat) (T : Tr SV) (H : Heap) (nx : Nat) (s : DS) : Prop :=
  regionOk nt ops.toList = true ∧ DrawRunQ P rn nt ops 0 ops.toList ⟨T, H, nx, [], [(H, nx)], 0⟩ s ∧ chainOk (ancGo [] ops.toList) (chainOf s) = true ∧ FloatsOkQ P rn ops s
def DrawOKQ (P : Program) (K : Zone) (w0 : World) (rn : Rn) : Prop :=
  P.follows .mixedOrders = true → ∀ ops nt T H nx d, DrawRegionQ P rn ops nt T H nx d → ∀ e w tmps, St K w0 e H nx w → TRel e nt T tmps → ∀ (t fn : Nat) (k : List Item) (ds : List Deferred) (kd : CallKind) (rof : Option Nat) (cs : List Frame),
    ∃ e' w' tmps', e.le e' ∧ St K w0 e' d.H d.nx w' ∧ TRel e' nt d.T tmps' ∧
      Steps P (lone (fr0 fn tmps (.inRegion ops (Region.schedule (P.follows .mixedOrders) ops t) :: k) ds kd rof) cs w) (lone (fr0 fn tmps' (.inRegion ops [] :: k) ds kd rof) cs w')
section
variable (P : Program) (rn : Rn) (nt : Nat) (ops : Array Oper) (T0 : Tr SV)
def Src (R : List Rec) (i : Nat) (t : Nat) (s : SV) : Prop :=
  (∃ (k : Nat) (r : Rec), k < i ∧ R[k]? = some r ∧ r.o.dst = some t ∧ r.val = s) ∨ ((∀ (k : Nat) (r : Rec), k < i → R[k]? = some r → r.o.dst ≠ some t) ∧ T0.at' t = some s)
structure RecOK (R : List Rec) (Q : List (Heap × Nat)) (C : List Nat) (i : Nat) (r : Rec) : Prop where
  idx : r.i = i
  op : ops[i]? = some r.o
  slots : ∀ t s, r.T.at' t = some s → Operand.tmp t ∈ needs ops.toList r.o ∧ Src T0 R i t s
  want : wantedS r.T ops r.o = some r.wanted
  skip : r.wanted = false → r.val = undefS ∧ r.chain = false
  float : r.wanted = true → r.chain = false → (∀ c, r.o.op ≠ .defer c) ∧ ∃ H n, Q[r.stg]? = some (H, n) ∧ ReadQ P rn r.T H n r.o r.val
  eff : r.chain = true → r.wanted = true ∧ C[r.stg]? = some i ∧ ∃ H n H' n', Q[r.stg]? = some (H, n) ∧ Q[r.stg + 1]? = some (H', n') ∧ DrawEff P rn r.T H n r.o (r.val, H', n')
structure DSOK (i : Nat) (s : DS) : Prop where
  len : s.recs.length = i
  hs : s.Hs.length = s.stg + 1
  last : s.Hs.reverse[s.stg]? = some (s.H, s.nx)
  cnt : ((s.recs.reverse.filter (·.chain)).map (·.i)).length = s.stg
  recs : ∀ (k : Nat) r, s.recs.reverse[k]? = some r → RecOK P rn ops T0 s.recs.reverse s.Hs.reverse ((s.recs.reverse.filter (·.chain)).map (·.i)) k r
  slots : ∀ t v, s.T.at' t = some v → Src T0 s.recs.reverse i t v
end
section
variable {P : Program} {rn : Rn} {nt : Nat} {ops : Array Oper} {T0 : Tr SV}
theorem Src.mono {R R' : List Rec} {i : Nat} {t : Nat} {s : SV} (h : Src T0 R i t s) (hR : ∀ k, k < i → R'[k]? = R[k]?) : Src T0 R' i t s := by
  rcases h with ⟨k, r, h1, h2, h3, h4⟩ | ⟨h1, h2⟩
  · exact .inl ⟨k, r, h1, by rw [hR k h1]; exact h2, h3, h4⟩
  · exact .inr ⟨fun k r hk hr => h1 k r hk (by rw [← hR k hk]; exact hr), h2⟩
theorem RecOK.mono {R R' : List Rec} {Q Q' : List (Heap × Nat)} {C C' : List Nat} {i : Nat} {r : Rec} (h : RecOK P rn ops T0 R Q C i r) (hR : ∀ k, k < i → R'[k]? = R[k]?) (hQ : ∀ (j : Nat) x, Q[j]? = some x → Q'[j]? = some x) (hC : ∀ (j : Nat) x, C[j]? = some x → C'[j]? = some x) :
    RecOK P rn ops T0 R' Q' C' i r :=
  ⟨h.idx, h.op, fun t s hs => let ⟨a, b⟩ := h.slots t s hs; ⟨a, b.mono hR⟩, h.want, h.skip, fun a b => let ⟨x, H, n, c, d⟩ := h.float a b; ⟨x, H, n, hQ _ _ c, d⟩,
    fun a => let ⟨b, c, H, n, H', n', d, e, f⟩ := h.eff a; ⟨b, hC _ _ c, H, n, H', n', hQ _ _ d, hQ _ _ e, f⟩⟩
theorem get_snoc {A : Type} {l : List A} {x y : A} {j : Nat} (h : l[j]? = some y) : (l ++ [x])[j]? = some y := by
  rw [List.getElem?_append_left (List.getElem?_eq_some_iff.1 h).1]; exact h
theorem get_last {A : Type} (l : List A) (x : A) : (l ++ [x])[l.length]? = some x := by simp
theorem DSOK.snoc {i : Nat} {s : DS} (h : DSOK P rn ops T0 i s) (hdst : ∀ (j : Nat) o d, ops.toList[j]? = some o → o.dst = some d → d < nt) {r : Rec} {H : Heap} {nx : Nat} {Hs : List (Heap × Nat)} {stg : Nat} (ho : ops[i]? = some r.o)
    (hlen : Hs.length = stg + 1) (hlast : Hs.reverse[stg]? = some (H, nx)) (hQ : ∀ (j : Nat) x, s.Hs.reverse[j]? = some x → Hs.reverse[j]? = some x) (hcnt : (if r.chain then s.stg + 1 else s.stg) = stg)
    (hrec : RecOK P rn ops T0 (s.recs.reverse ++ [r]) Hs.reverse (((s.recs.reverse ++ [r]).filter (·.chain)).map (·.i)) i r) : DSOK P rn ops T0 (i + 1) ⟨putS nt s.T r.o.dst r.val, H, nx, r :: s.recs, Hs, stg⟩ := by
  have hR : ∀ k, k < i → (s.recs.reverse ++ [r])[k]? = s.recs.reverse[k]? := fun k hk => List.getElem?_append_left (by simp [h.len]; exact hk)
  have hri : (s.recs.reverse ++ [r])[i]? = some r := by have := get_last s.recs.reverse r; rw [List.length_reverse, h.len] at this; exact this
  refine ⟨by simp [h.len], hlen, hlast, ?_, fun k r' hr' => ?_, fun t v hv => ?_⟩
  · simp only [List.reverse_cons, List.filter_append, List.map_append, List.length_append, h.cnt]
    rw [← hcnt]
    cases hc : r.chain <;> simp [List.filter_cons, hc]
  · simp only [List.reverse_cons] at hr' ⊢
    rcases Nat.lt_or_ge k i with hk | hk
    · rw [hR k hk] at hr'
      refine (h.recs k r' hr').mono (fun k' hk' => hR k' (by omega)) hQ (fun j x hj => ?_)
      rw [List.filter_append, List.map_append]
      rw [List.getElem?_append_left (List.getElem?_eq_some_iff.1 hj).1]
      exact hj
    · have : k = i := by
        have := (List.getElem?_eq_some_iff.1 hr').1
        simp [h.len] at this
        omega
      subst this
      rw [hri] at hr'
      simp only [Option.some.injEq] at hr'
      subst hr'
      exact hrec
  · simp only [List.reverse_cons] at hv ⊢
    have old : s.T.at' t = some v → r.o.dst ≠ some t → Src T0 (s.recs.reverse ++ [r]) (i + 1) t v := by
      intro hv hne
      rcases h.slots t v hv with ⟨k, r', h1, h2, h3, h4⟩ | ⟨h1, h2⟩
      · exact .inl ⟨k, r', by omega, by rw [hR k h1]; exact h2, h3, h4⟩
      · refine .inr ⟨fun k r' hk hr' => ?_, h2⟩
        rcases Nat.lt_or_ge k i with hk' | hk'
        · rw [hR k hk'] at hr'
          exact h1 k r' hk' hr'
        · have : k = i := by omega
          subst this
          rw [hri] at hr'
          simp only [Option.some.injEq] at hr'
          subst hr'
          exact hne
    cases hd : r.o.dst with
    | none => rw [hd] at hv old; exact old hv (by simp)
    | some d =>
      rw [hd] at hv
      have hlt := hdst i r.o d (by simpa using ho) hd
      simp only [putS, show Nat.blt d nt = true from Nat.ble_eq_true_of_le hlt, cond_true] at hv
      rcases Tr.at_set hv with ⟨rfl, rfl⟩ | ⟨hne, hv⟩
      · exact .inl ⟨i, r, by omega, hri, hd, rfl⟩
      · exact old hv (by rw [hd]; simp; exact fun hc => hne hc.symm)
theorem drawOne_ok {i : Nat} {o : Oper} {s s' : DS} (h : DSOK P rn ops T0 i s) (hdst : ∀ (j : Nat) o d, ops.toList[j]? = some o → o.dst = some d → d < nt) (ho : ops[i]? = some o) (hd : DrawOneQ P rn nt ops i o s s') : DSOK P rn ops T0 (i + 1) s' := by
  have hslots : ∀ (R : List Rec), (∀ k, k < i → R[k]? = s.recs.reverse[k]?) → ∀ t v, (onlyT s.T (needs ops.toList o)).at' t = some v → Operand.tmp t ∈ needs ops.toList o ∧ Src T0 R i t v := by
    intro R hR t v hv
    obtain ⟨h1, h2⟩ := onlyT_at _ t v hv
    exact ⟨h1, (h.slots t v h2).mono hR⟩
  have hR : ∀ (r : Rec) k, k < i → (s.recs.reverse ++ [r])[k]? = s.recs.reverse[k]? := fun r k hk => List.getElem?_append_left (by simp [h.len]; exact hk)
  rcases hd with ⟨hw, rfl⟩ | ⟨hw, hnd, v, hf, rfl⟩ | ⟨hw, v, H, nx, he, rfl⟩
  · exact h.snoc (r := ⟨i, o, _, s.stg, false, false, undefS⟩) hdst ho h.hs h.last (fun _ _ hj => hj) rfl
      ⟨rfl, ho, hslots _ (hR _), hw, fun _ => ⟨rfl, rfl⟩, fun hc _ => (by cases hc), fun hc => (by cases hc)⟩
  · exact h.snoc (r := ⟨i, o, _, s.stg, false, true, v⟩) hdst ho h.hs h.last (fun _ _ hj => hj) rfl
      ⟨rfl, ho, hslots _ (hR _), hw, fun hc => (by cases hc), fun _ _ => ⟨hnd, s.H, s.nx, h.last, hf⟩, fun hc => (by cases hc)⟩
  · have hl := h.hs
    have hq : ∀ (j : Nat) x, s.Hs.reverse[j]? = some x → ((H, nx) :: s.Hs).reverse[j]? = some x := fun j x hj => by rw [List.reverse_cons]; exact get_snoc hj
    have hlast : ((H, nx) :: s.Hs).reverse[s.stg + 1]? = some (H, nx) := by
      rw [List.reverse_cons]
      have := get_last s.Hs.reverse (H, nx)
      rw [List.length_reverse, hl] at this
      exact this
    refine h.snoc (r := ⟨i, o, _, s.stg, true, true, v⟩) hdst ho (by simp [hl]) hlast hq rfl
      ⟨rfl, ho, hslots _ (hR _), hw, fun hc => (by cases hc), fun _ hc => (by cases hc), fun _ => ⟨rfl, ?_, s.H, s.nx, H, nx, hq _ _ h.last, hlast, he⟩⟩
    simp only [List.filter_append, List.map_append, List.filter_cons, if_true, List.filter_nil, List.map_cons, List.map_nil]
    have := get_last ((s.recs.reverse.filter (·.chain)).map (·.i)) i
    rw [h.cnt] at this
    exact this
theorem drawAll_ok (hdst : ∀ (j : Nat) o d, ops.toList[j]? = some o → o.dst = some d → d < nt) : ∀ (l : List Oper) (i : Nat) (s s' : DS), DSOK P rn ops T0 i s → l = ops.toList.drop i → DrawRunQ P rn nt ops i l s s' → DSOK P rn ops T0 ops.size s'
  | [], i, s, s', h, hl, hd => by
    cases hd
    have h1 := congrArg List.length hl
    simp at h1
    have h2 : i ≤ ops.size := by
      rcases Nat.lt_or_ge ops.size i with hc | hc
      · exfalso
        have hlen := h.len
        have hr := h.recs (i - 1) (s.recs.reverse[i - 1]'(by simp; omega)) (List.getElem?_eq_getElem (by simp; omega))
        have := (Array.getElem?_eq_some_iff.1 hr.op).1
        omega
      · exact hc
    have : i = ops.size := by omega
    subst this
    exact h
  | o :: l, i, s, s', h, hl, hd => by
    have ho : ops[i]? = some o := by
      have : ops.toList[i]? = some o := by
        have := congrArg List.head? hl
        simpa using this.symm
      simpa using this
    have hl' : l = ops.toList.drop (i + 1) := by
      have := congrArg List.tail hl
      simpa using this
    cases hd with
    | cons hone hd => exact drawAll_ok hdst l (i + 1) _ s' (drawOne_ok h hdst ho hone) hl' hd
end
section
variable {P : Program} {K : Zone} {w0 w : World} {e : Env} {H : Heap} {nx : Nat} {rn : Rn}
structure RegOK (P : Program) (rn : Rn) (nt : Nat) (ops : Array Oper) (T0 : Tr SV) (R : List Rec) (Q : List (Heap × Nat)) (C : List Nat) : Prop where
  len : R.length = ops.size
  recs : ∀ (k : Nat) r, R[k]? = some r → RecOK P rn ops T0 R Q C k r
  stages : Q.length = C.length + 1
  chainR : C = (R.filter (·.chain)).map (·.i)
  chain : chainOk (ancGo [] ops.toList) C = true
  floats : ∀ r ∈ R, r.chain = false → r.wanted = true → (∀ c, r.o.op ≠ .defer c) ∧ ∀ s, lowOf ((ancGo [] ops.toList).getD r.i 0) C ≤ s → s ≤ highOf (ancGo [] ops.toList) r.i C → ∀ H n, Q[s]? = some (H, n) → ReadQ P rn r.T H n r.o r.val
  small : ∀ (i : Nat) o d, ops.toList[i]? = some o → o.dst = some d → d < nt
  dist : ∀ (i j : Nat) oi oj d, ops.toList[i]? = some oi → ops.toList[j]? = some oj → oi.dst = some d → oj.dst = some d → i = j
  edges : ∀ (i : Nat) o, ops.toList[i]? = some o → edgesOk i o.after.toList = true
  opnds : ∀ (i : Nat) o, ops.toList[i]? = some o → operandsOk ops.toList (ancGo [] ops.toList) i ((ancGo [] ops.toList).getD i 0) (needs ops.toList o) = true
def Good (T0 : Tr SV) (R : List Rec) (L : Nat → Prop) (t : Nat) (s : SV) : Prop :=
  (∃ (k : Nat) (r : Rec), L k ∧ R[k]? = some r ∧ r.o.dst = some t ∧ r.val = s) ∨ ((∀ (k : Nat) (r : Rec), L k → R[k]? = some r → r.o.dst ≠ some t) ∧ T0.at' t = some s)
structure PInv (K : Zone) (w0 : World) (nt : Nat) (ops : Array Oper) (T0 : Tr SV) (R : List Rec) (Q : List (Heap × Nat)) (C : List Nat) (L : Nat → Prop) (s : Nat) (e : Env) (w : World) (tr : Array Value) : Prop where
  st : ∃ H n, Q[s]? = some (H, n) ∧ St K w0 e H n w
  size : tr.size = nt
  good : ∀ t sv, Good T0 R L t sv → ∃ v, sv.conc e = some v ∧ tr.getD t undef = v
  chain : ∀ (j c : Nat), C[j]? = some c → (L c ↔ j < s)
  closed : ∀ (i : Nat) o, L i → ops.toList[i]? = some o → ∀ ed ∈ o.after.toList, Region.binds .any ed = true → L ed.on
variable {nt : Nat} {ops : Array Oper} {T0 : Tr SV} {R : List Rec} {Q : List (Heap × Nat)} {C : List Nat}
theorem PInv.step (hrn : RunOK P K w0 rn) (hR : RegOK P rn nt ops T0 R Q C) {L : Nat → Prop} {s : Nat} {tr : Array Value} (h : PInv K w0 nt ops T0 R Q C L s e w tr) {i : Nat} {o : Oper} (ho : ops[i]? = some o) (hni : ¬ L i)
    (hed : ∀ ed ∈ o.after.toList, Region.binds .any ed = true → L ed.on) (fn : FuncId) (rest : List Nat) (k : List Item) (ds : List Deferred) (kd : CallKind) (rof : Option Nat) (cs : List Frame) :
    ∃ e' w' tr' s', e.le e' ∧ PInv K w0 nt ops T0 R Q C (fun j => L j ∨ j = i) s' e' w' tr' ∧
      Steps P (lone (fr0 fn tr (.inRegion ops (i :: rest) :: k) ds kd rof) cs w) (lone (fr0 fn tr' (.inRegion ops rest :: k) ds kd rof) cs w') := by
  have hoL : ops.toList[i]? = some o := by simpa using ho
  have hilt : i < ops.size := (Array.getElem?_eq_some_iff.1 ho).1
  obtain ⟨r, hr⟩ : ∃ r, R[i]? = some r := ⟨_, List.getElem?_eq_getElem (by rw [hR.len]; exact hilt)⟩
  have hrec := hR.recs i r hr
  have hro : r.o = o := by
    have := hrec.op
    rw [ho] at this
    simpa using this.symm
  have hanc := anc_listed L hR.edges (fun i o hi ho' => h.closed i o hi ho') i o hoL hed
  -- the slots that it needs
  have hT : TRel e nt r.T tr := by
    refine ⟨h.size, fun t sv ht => ?_⟩
    obtain ⟨hneed, hsrc⟩ := hrec.slots t sv ht
    rw [hro] at hneed
    have hwr : ∀ (k' : Nat) o', ops.toList[k']? = some o' → o'.dst = some t → (L k' ∧ k' < i) ∨ (¬ L k' ∧ i < k') := fun k' o' ho' hd' => by
      rcases operandsOk_ok hR.dist (hR.opnds i o hoL) t hneed k' o' ho' hd' with hb | hb
      · exact .inl (hanc k' hb)
      · refine .inr ⟨fun hL => ?_, ?_⟩
        · exact hni (anc_listed L hR.edges (fun i o hi ho' => h.closed i o hi ho') k' o' ho' (h.closed k' o' hL ho') i hb).1
        · exact (anc_listed (fun _ => True) hR.edges (fun _ _ _ _ _ _ _ => trivial) k' o' ho' (fun _ _ _ => trivial) i hb).2
    refine h.good t sv ?_
    rcases hsrc with ⟨k', r', h1, h2, h3, h4⟩ | ⟨h1, h2⟩
    · have hop := (hR.recs k' r' h2).op
      rcases hwr k' r'.o (by simpa using hop) h3 with g | g
      · exact .inl ⟨k', r', g.1, h2, h3, h4⟩
      · omega
    · refine .inr ⟨fun k' r' hLk hr' hd' => ?_, h2⟩
      have hop := (hR.recs k' r' hr').op
      rcases hwr k' r'.o (by simpa using hop) hd' with g | g
      · exact h1 k' r' g.2 hr' hd'
      · exact g.1 hLk
  have hwant := wantedS_ok hrec.want hT
  rw [hro] at hwant
  -- what comes of it
  have build : ∀ (e' : Env) (w' : World) (u : Value) (s' : Nat), e.le e' → (∃ H n, Q[s']? = some (H, n) ∧ St K w0 e' H n w') → r.val.conc e' = some u → (∀ (j c : Nat), C[j]? = some c → ((L c ∨ c = i) ↔ j < s')) →
      PInv K w0 nt ops T0 R Q C (fun j => L j ∨ j = i) s' e' w' (putV tr o.dst u) := by
    intro e' w' u s' hle hst hu hch
    refine ⟨hst, ?_, fun t sv hg => ?_, hch, fun j oj hj hoj ed hed' hb => ?_⟩
    · unfold putV
      cases o.dst with
      | none => exact h.size
      | some d => simpa using h.size
    · have old : (∀ d, o.dst = some d → d ≠ t) → ∃ v, sv.conc e' = some v ∧ (putV tr o.dst u).getD t undef = v := by
        intro hne
        have hg' : Good T0 R L t sv := by
          rcases hg with ⟨k', r', hk', h2, h3, h4⟩ | hg
          · refine .inl ⟨k', r', ?_, h2, h3, h4⟩
            rcases hk' with hk' | rfl
            · exact hk'
            · exfalso
              rw [hr] at h2
              simp only [Option.some.injEq] at h2
              subst h2
              rw [hro] at h3
              exact hne t h3 rfl
          · exact .inr ⟨fun k' r' hLk => hg.1 k' r' (.inl hLk), hg.2⟩
        obtain ⟨v, hv, hgv⟩ := h.good t sv hg'
        refine ⟨v, SV.conc_mono hle _ _ hv, ?_⟩
        cases hd : o.dst with
        | none => exact hgv
        | some d =>
          have := hne d hd
          simp only [putV]
          rw [Array.getD_eq_getD_getElem?, Array.getElem?_setIfInBounds_ne this, ← Array.getD_eq_getD_getElem?]
          exact hgv
      cases hd : o.dst with
      | none => rw [hd] at old; exact old (fun d hd' => by cases hd')
      | some d =>
        by_cases hdt : d = t
        · subst hdt
          have hval : sv = r.val := by
            rcases hg with ⟨k', r', hk', h2, h3, h4⟩ | ⟨h1, _⟩
            · have hop := (hR.recs k' r' h2).op
              have := hR.dist k' i r'.o o d (by simpa using hop) hoL h3 hd
              subst this
              rw [hr] at h2
              simp only [Option.some.injEq] at h2
              subst h2
              exact h4.symm
            · exact absurd (by rw [hro]; exact hd) (h1 i r (.inr rfl) hr)
          subst hval
          refine ⟨u, hu, ?_⟩
          have hlt := hR.small i o d hoL hd
          simp only [putV]
          rw [Array.getD_eq_getD_getElem?, Array.getElem?_setIfInBounds_self_of_lt (by rw [h.size]; exact hlt)]
          rfl
        · rw [hd] at old
          exact old (fun d' hd' => by simp only [Option.some.injEq] at hd'; subst hd'; exact hdt)
    · rcases hj with hj | rfl
      · exact .inl (h.closed j oj hj hoj ed hed' hb)
      · rw [hoL] at hoj
        simp only [Option.some.injEq] at hoj
        subst hoj
        exact .inl (hed ed hed' hb)
  have notChain : r.chain = false → ∀ (j c : Nat), C[j]? = some c → ((L c ∨ c = i) ↔ j < s) := by
    intro hc j c hj
    have hne : c ≠ i := by
      rintro rfl
      rw [hR.chainR] at hj
      rw [List.getElem?_map, Option.map_eq_some_iff] at hj
      obtain ⟨r', hr', hi'⟩ := hj
      have hmem := List.mem_of_getElem? hr'
      rw [List.mem_filter] at hmem
      obtain ⟨k', hk'⟩ := List.mem_iff_getElem?.1 hmem.1
      have := (hR.recs k' r' hk').idx
      rw [hi'] at this
      subst this
      rw [hr] at hk'
      simp only [Option.some.injEq] at hk'
      subst hk'
      rw [hc] at hmem
      simp at hmem
    rw [← h.chain j c hj]
    simp [hne]
  obtain ⟨H, n, hQ, hS⟩ := h.st
  cases hwd : r.wanted with
  | false =>
    rw [hwd] at hwant
    obtain ⟨h1, h2⟩ := hrec.skip hwd
    exact ⟨e, w, _, s, Env.le_refl e, build e w undef s (Env.le_refl e) ⟨H, n, hQ, hS⟩ (by rw [h1]; rfl) (notChain h2), .one (st_notWanted ho hwant)⟩
  | true =>
    rw [hwd] at hwant
    cases hc : r.chain with
    | false =>
      have hri := hrec.idx
      have hlo : lowOf ((ancGo [] ops.toList).getD r.i 0) C ≤ s := by
        rcases Nat.lt_or_ge s (lowOf ((ancGo [] ops.toList).getD r.i 0) C) with hlt | hge
        · exfalso
          obtain ⟨c, h1, h2⟩ := lowOf_ok s hlt
          rw [hri] at h2
          have := (h.chain s c h1).1 (hanc c h2).1
          omega
        · exact hge
      have hhi : s ≤ highOf (ancGo [] ops.toList) r.i C := by
        rcases Nat.lt_or_ge (highOf (ancGo [] ops.toList) r.i C) s with hlt | hge
        · exfalso
          have hsC : s ≤ C.length := by
            have := (List.getElem?_eq_some_iff.1 hQ).1
            have := hR.stages
            omega
          obtain ⟨c, h1, h2⟩ := highOf_ok (ancs := ancGo [] ops.toList) (i := r.i) (l := C) (by omega)
          have hLc := (h.chain _ c h1).2 hlt
          have hcl : c < ops.size := by
            have hcm := List.mem_of_getElem? h1
            rw [hR.chainR, List.mem_map] at hcm
            obtain ⟨r', hr', rfl⟩ := hcm
            rw [List.mem_filter] at hr'
            obtain ⟨k', hk'⟩ := List.mem_iff_getElem?.1 hr'.1
            have hx := hR.recs k' r' hk'
            rw [hx.idx]
            exact (Array.getElem?_eq_some_iff.1 hx.op).1
          have hoc : ops.toList[c]? = some (ops.toList[c]'(by simpa using hcl)) := List.getElem?_eq_getElem (by simpa using hcl)
          have := anc_listed L hR.edges (fun i o hi ho' => h.closed i o hi ho') c _ hoc (h.closed c _ hLc hoc) r.i h2
          rw [hri] at this
          exact hni this.1
        · exact hge
      have hf := (hR.floats r (List.mem_of_getElem? hr) hc hwd).2 s hlo hhi H n hQ
      have hnd := (hR.floats r (List.mem_of_getElem? hr) hc hwd).1
      rw [hro] at hf hnd
      rcases hf with hf | hf
      · obtain ⟨u, hu, hst⟩ := float_steps (P := P) (fn := fn) (rest := rest) (k := k) (ds := ds) (kd := kd) (rof := rof) (cs := cs) hS hT ho hwant hnd hf
        exact ⟨e, w, _, s, Env.le_refl e, build e w u s (Env.le_refl e) ⟨H, n, hQ, hS⟩ hu (notChain hc), hst⟩
      · obtain ⟨e', w', u, hle, hS', hu, hst⟩ := eff_steps (P := P) hrn (fn := fn) (rest := rest) (k := k) (ds := ds) (kd := kd) (rof := rof) (cs := cs) hS hT ho hwant hf
        exact ⟨e', w', _, s, hle, build e' w' u s hle ⟨H, n, hQ, hS'⟩ hu (notChain hc), hst⟩
    | true =>
      obtain ⟨_, hC, H1, n1, H2, n2, hQ1, hQ2, heff⟩ := hrec.eff hc
      have hss : r.stg = s := by
        have h1 : ¬ r.stg < s := fun hlt => hni ((h.chain r.stg i hC).2 hlt)
        rcases Nat.eq_zero_or_pos r.stg with h0 | hp
        · omega
        · have hlt : r.stg - 1 < C.length := by
            have := (List.getElem?_eq_some_iff.1 hC).1
            omega
          have hprev : C[r.stg - 1]? = some C[r.stg - 1] := List.getElem?_eq_getElem hlt
          have hbit := chainOk_ok hR.chain (r.stg - 1) C[r.stg - 1] i hprev (by rw [show r.stg - 1 + 1 = r.stg by omega]; exact hC)
          have := (h.chain _ _ hprev).1 (hanc _ hbit).1
          omega
      rw [hss] at hQ1 hQ2 hC
      rw [hQ] at hQ1
      simp only [Option.some.injEq, Prod.mk.injEq] at hQ1
      obtain ⟨rfl, rfl⟩ := hQ1
      rw [hro] at heff
      obtain ⟨e', w', u, hle, hS', hu, hst⟩ := eff_steps (P := P) hrn (fn := fn) (rest := rest) (k := k) (ds := ds) (kd := kd) (rof := rof) (cs := cs) hS hT ho hwant heff
      refine ⟨e', w', _, s + 1, hle, build e' w' u (s + 1) hle ⟨H2, n2, hQ2, hS'⟩ hu (fun j c hj => ?_), hst⟩
      constructor
      · rintro (hL | rfl)
        · have := (h.chain j c hj).1 hL; omega
        · rcases Nat.lt_or_ge j (s + 1) with hlt | hge
          · exact hlt
          · exfalso
            -- the same place twice in the chain
            have hi1 := chain_inj hR hC hj
            omega
      · intro hlt
        rcases Nat.lt_or_ge j s with hj' | hj'
        · exact .inl ((h.chain j c hj).2 hj')
        · have : j = s := by omega
          subst this
          rw [hC] at hj
          simp only [Option.some.injEq] at hj
          exact .inr hj.symm
where
  chain_inj {P : Program} {rn : Rn} {nt : Nat} {ops : Array Oper} {T0 : Tr SV} {R : List Rec} {Q : List (Heap × Nat)} {C : List Nat} (hR : RegOK P rn nt ops T0 R Q C) {s j c : Nat} (h1 : C[s]? = some c) (h2 : C[j]? = some c) : s = j := by
    have hnd : C.Nodup := by
      rw [hR.chainR]
      have hall : ((R.filter (·.chain)).map (·.i)).Sublist (R.map (·.i)) := (List.filter_sublist).map _
      refine hall.nodup ?_
      have : R.map (·.i) = List.range R.length := by
        apply List.ext_getElem?
        intro k
        rw [List.getElem?_map]
        cases hk : R[k]? with
        | none =>
          rw [List.getElem?_eq_none_iff] at hk
          simp [hk]
        | some r =>
          have hlt := (List.getElem?_eq_some_iff.1 hk).1
          rw [Option.map_some, (hR.recs k r hk).idx, List.getElem?_range hlt]
      rw [this]
      exact List.nodup_range
    have a := List.getElem?_eq_some_iff.1 h1
    have b := List.getElem?_eq_some_iff.1 h2
    obtain ⟨a1, a2⟩ := a
    obtain ⟨b1, b2⟩ := b
    exact (List.getElem_inj hnd).1 (a2.trans b2.symm)
end
section
variable {P : Program} {K : Zone} {w0 w : World} {e : Env} {rn : Rn} {nt : Nat} {ops : Array Oper} {T0 : Tr SV} {R : List Rec} {Q : List (Heap × Nat)} {C : List Nat}
def Listed (listed : Array Bool) (j : Nat) : Prop := listed[j]? = some true
theorem ready_mem {listed : Array Bool} (hsz : listed.size = ops.size) {i : Nat} (h : i ∈ Region.ready .any ops listed) : ∃ o, ops[i]? = some o ∧ ¬ Listed listed i ∧ ∀ ed ∈ o.after.toList, Region.binds .any ed = true → Listed listed ed.on := by
  unfold Region.ready at h
  rw [List.mem_filter, List.mem_range, Bool.and_eq_true] at h
  obtain ⟨h1, h2, h3⟩ := h
  have ho : ops[i]? = some ops[i] := Array.getElem?_eq_getElem h1
  refine ⟨ops[i], ho, ?_, fun ed hed hb => ?_⟩
  · intro hl
    unfold Listed at hl
    rw [Array.getD_eq_getD_getElem?, hl] at h2
    simp at h2
  · rw [ho] at h3
    simp only [Option.map_some, Option.getD_some] at h3
    rw [Array.all_eq_true_iff_forall_mem] at h3
    have := h3 ed (by simpa using hed)
    rw [hb] at this
    simp only [Bool.not_true, Bool.false_or] at this
    unfold Listed
    rw [Array.getD_eq_getD_getElem?] at this
    cases hx : listed[ed.on]? with
    | none => rw [hx] at this; simp at this
    | some b => rw [hx] at this; simp only [Option.getD_some] at this; rw [this]
theorem ready_of {listed : Array Bool} (hsz : listed.size = ops.size) (hE : ∀ (i : Nat) o, ops.toList[i]? = some o → edgesOk i o.after.toList = true) {i : Nat} (hi : i < ops.size) (hn : ¬ Listed listed i) : ∃ j, j ∈ Region.ready .any ops listed := by
  induction i using Nat.strongRecOn with
  | _ i ih =>
    have ho : ops[i]? = some ops[i] := Array.getElem?_eq_getElem hi
    by_cases hall : ∀ ed ∈ ops[i].after.toList, Region.binds .any ed = true → Listed listed ed.on
    · refine ⟨i, ?_⟩
      unfold Region.ready
      rw [List.mem_filter, List.mem_range, Bool.and_eq_true]
      refine ⟨hi, ?_, ?_⟩
      · unfold Listed at hn
        rw [Array.getD_eq_getD_getElem?]
        have hlt : i < listed.size := by omega
        rw [Array.getElem?_eq_getElem hlt] at hn ⊢
        simp only [Option.some.injEq, Bool.not_eq_true] at hn
        simp [hn]
      · rw [ho]
        simp only [Option.map_some, Option.getD_some]
        rw [Array.all_eq_true_iff_forall_mem]
        intro ed hed
        cases hb : Region.binds .any ed with
        | false => rfl
        | true =>
          have := hall ed (by simpa only [Array.mem_toList_iff] using hed) hb
          unfold Listed at this
          rw [Array.getD_eq_getD_getElem?, this]
          rfl
    · have : ∃ ed, ed ∈ ops[i].after.toList ∧ Region.binds .any ed = true ∧ ¬ Listed listed ed.on := by
        apply Classical.byContradiction
        intro hc
        apply hall
        intro ed h1 h2
        apply Classical.byContradiction
        intro h3
        exact hc ⟨ed, h1, h2, h3⟩
      obtain ⟨ed, h1, h2, h3⟩ := this
      have hlt := edgesOk_ok (hE i ops[i] (by simp)) ed h1 h2
      exact ih ed.on hlt (by omega) h3
def unlisted (listed : Array Bool) : Nat := listed.toList.count false
theorem count_set : ∀ (l : List Bool) (i : Nat), l[i]? = some false → (l.set i true).count false + 1 = l.count false
  | [], i, h => by simp at h
  | b :: l, 0, h => by
    simp only [List.getElem?_cons_zero, Option.some.injEq] at h
    subst h
    simp [List.count_cons]
  | b :: l, i + 1, h => by
    have := count_set l i (by simpa using h)
    simp only [List.set_cons_succ, List.count_cons]
    omega
theorem pi_steps (hrn : RunOK P K w0 rn) (hR : RegOK P rn nt ops T0 R Q C) (fn : FuncId) (k : List Item) (ds : List Deferred) (kd : CallKind) (rof : Option Nat) (cs : List Frame) : ∀ (fuel t : Nat) (listed : Array Bool) (s : Nat) (e : Env) (w : World) (tr : Array Value),
    listed.size = ops.size → unlisted listed ≤ fuel → PInv K w0 nt ops T0 R Q C (Listed listed) s e w tr →
    ∃ e' w' tr' s' listed', e.le e' ∧ listed'.size = ops.size ∧ (∀ j, j < ops.size → Listed listed' j) ∧ PInv K w0 nt ops T0 R Q C (Listed listed') s' e' w' tr' ∧
      Steps P (lone (fr0 fn tr (.inRegion ops (Region.linearise.go .any ops fuel t listed []) :: k) ds kd rof) cs w) (lone (fr0 fn tr' (.inRegion ops [] :: k) ds kd rof) cs w') := by
  have allOf : ∀ (listed : Array Bool), listed.size = ops.size → (∀ j, j ∉ Region.ready .any ops listed) → ∀ j, j < ops.size → Listed listed j := by
    intro listed hsz hno j hj
    apply Classical.byContradiction
    intro hn
    obtain ⟨i, hi⟩ := ready_of hsz hR.edges hj hn
    exact hno i hi
  intro fuel
  induction fuel with
  | zero =>
    intro t listed s e w tr hsz hun hI
    refine ⟨e, w, tr, s, listed, Env.le_refl e, hsz, fun j hj => ?_, hI, by simp only [Region.linearise.go, List.reverse_nil]; exact .refl P _⟩
    unfold Listed
    have hlt : j < listed.size := by omega
    rw [Array.getElem?_eq_getElem hlt]
    cases hb : listed[j] with
    | true => rfl
    | false =>
      exfalso
      have : 0 < listed.toList.count false := List.count_pos_iff.2 (by rw [← hb]; simp)
      unfold unlisted at hun
      omega
  | succ fuel ih =>
    intro t listed s e w tr hsz hun hI
    simp only [Region.linearise.go]
    change ∃ e' w' tr' s' listed', _ ∧ _ ∧ _ ∧ _ ∧ Steps P (lone (fr0 fn tr (.inRegion ops (match (Region.ready .any ops listed)[t % (Region.ready .any ops listed).length]? with
      | some i => Region.linearise.go .any ops fuel (t / (Region.ready .any ops listed).length) (listed.setIfInBounds i true) [i]
      | none => [].reverse) :: k) ds kd rof) cs w) _
    cases hpick : (Region.ready .any ops listed)[t % (Region.ready .any ops listed).length]? with
    | none =>
      have hnil : Region.ready .any ops listed = [] := by
        cases hx : Region.ready .any ops listed with
        | nil => rfl
        | cons x xs =>
          rw [hx] at hpick
          have hlt : t % (x :: xs).length < (x :: xs).length := Nat.mod_lt _ (by simp)
          rw [List.getElem?_eq_getElem hlt] at hpick
          cases hpick
      exact ⟨e, w, tr, s, listed, Env.le_refl e, hsz, allOf listed hsz (by rw [hnil]; simp), hI, .refl P _⟩
    | some i =>
      simp only
      have hmem := List.mem_of_getElem? hpick
      obtain ⟨o, ho, hni, hed⟩ := ready_mem hsz hmem
      rw [linearise_go_acc, List.reverse_singleton, List.singleton_append]
      obtain ⟨e1, w1, tr1, s1, hle1, hI1, hst1⟩ := hI.step hrn hR ho hni hed fn (Region.linearise.go .any ops fuel (t / (Region.ready .any ops listed).length) (listed.setIfInBounds i true) []) k ds kd rof cs
      have hilt : i < ops.size := (Array.getElem?_eq_some_iff.1 ho).1
      have hfalse : listed.toList[i]? = some false := by
        have hlt : i < listed.size := by omega
        unfold Listed at hni
        rw [Array.getElem?_eq_getElem hlt] at hni
        rw [Array.getElem?_toList, Array.getElem?_eq_getElem hlt]
        simpa using hni
      have hcnt : unlisted (listed.setIfInBounds i true) + 1 = unlisted listed := by
        unfold unlisted
        rw [Array.toList_setIfInBounds]
        exact count_set _ _ hfalse
      have hLeq : ∀ j, Listed (listed.setIfInBounds i true) j ↔ (Listed listed j ∨ j = i) := by
        intro j
        unfold Listed
        by_cases hji : j = i
        · subst hji
          rw [Array.getElem?_setIfInBounds_self_of_lt (by omega)]
          simp
        · rw [Array.getElem?_setIfInBounds_ne (Ne.symm hji)]
          simp [hji]
      have hI2 : PInv K w0 nt ops T0 R Q C (Listed (listed.setIfInBounds i true)) s1 e1 w1 tr1 := by
        have : Listed (listed.setIfInBounds i true) = fun j => Listed listed j ∨ j = i := funext fun j => propext (hLeq j)
        rw [this]
        exact hI1
      obtain ⟨e2, w2, tr2, s2, l2, hle2, hs2, ha2, hI3, hst2⟩ := ih _ _ s1 e1 w1 tr1 (by simpa using hsz) (by omega) hI2
      exact ⟨e2, w2, tr2, s2, l2, Env.le_trans hle1 hle2, hs2, ha2, hI3, hst1.trans hst2⟩
theorem drawOKQ (hrn : RunOK P K w0 rn) : DrawOKQ P K w0 rn := by
  intro hm ops nt T H nx s h e w tmps hS hT t fn k ds kd rof cs
  obtain ⟨hro, hda, hch, hfl⟩ := h
  simp only [regionOk, Bool.and_eq_true] at hro
  obtain ⟨hd1, hd2⟩ := dstsOk_ok hro.1
  have hops := opsOk_ok hro.2
  · · · have h0 : DSOK P rn ops T 0 ⟨T, H, nx, [], [(H, nx)], 0⟩ :=
          ⟨rfl, rfl, rfl, rfl, fun k r hr => by simp at hr, fun t v hv => .inr ⟨fun k r hk => by omega, hv⟩⟩
        have hD := drawAll_ok (fun j o d hj hd => (hd1 j o d hj hd).1) ops.toList 0 _ s h0 (by simp) hda
        have hR : RegOK P rn nt ops T s.recs.reverse s.Hs.reverse ((s.recs.reverse.filter (·.chain)).map (·.i)) := by
          refine ⟨by simp [hD.len], hD.recs, by rw [hD.cnt]; simp [hD.hs], rfl, hch, fun r hr hc hw => ?_, fun i o d hi hd => (hd1 i o d hi hd).1, hd2, fun i o hi => ?_, fun i o hi => ?_⟩
          · obtain ⟨kk, hkk⟩ := List.mem_iff_getElem?.1 hr
            obtain ⟨hnd, H0, n0, hQ0, hf0⟩ := (hD.recs kk r hkk).float hw hc
            refine ⟨hnd, fun s1 hlo hhi H1 n1 hQ1 => ?_⟩
            by_cases hs1 : s1 = r.stg
            · subst hs1
              rw [hQ1] at hQ0
              simp only [Option.some.injEq, Prod.mk.injEq] at hQ0
              rw [hQ0.1, hQ0.2]
              exact hf0
            · exact hfl r (by simpa using hr) hc hw s1 hlo hhi hs1 H1 n1 hQ1
          · obtain ⟨anc, _, g2, _⟩ := hops i o hi
            simpa using g2
          · obtain ⟨anc, g1, _, g3⟩ := hops i o hi
            rw [List.getD_eq_getElem?_getD, g1]
            rw [Nat.zero_add] at g3
            exact g3
        have hinit : PInv K w0 nt ops T s.recs.reverse s.Hs.reverse ((s.recs.reverse.filter (·.chain)).map (·.i)) (Listed (Array.replicate ops.size false)) 0 e w tmps := by
          have hno : ∀ j, ¬ Listed (Array.replicate ops.size false) j := by
            intro j hj
            unfold Listed at hj
            rw [Array.getElem?_replicate] at hj
            split at hj <;> simp at hj
          have hQ0 : s.Hs.reverse[0]? = some (H, nx) := stage0 _ _ _ hda (by simp)
          refine ⟨⟨H, nx, hQ0, hS⟩, hT.1, fun t sv hg => ?_, fun j c hj => ⟨fun hl => absurd hl (hno c), fun hl => by omega⟩, fun i o hi => absurd hi (hno i)⟩
          rcases hg with ⟨k', r', hk', _⟩ | ⟨_, h2⟩
          · exact absurd hk' (hno k')
          · exact hT.2 t sv h2
        have hsched : Region.schedule (P.follows .mixedOrders) ops t = Region.linearise.go .any ops ops.size t (Array.replicate ops.size false) [] := by
          rw [hm]
          rfl
        rw [hsched]
        obtain ⟨e', w', tr', s', listed', hle, _, hall, hI, hst⟩ := pi_steps hrn hR fn k ds kd rof cs ops.size t (Array.replicate ops.size false) 0 e w tmps (by simp) (by unfold unlisted; simp) hinit
        -- all are listed
        have hs' : s' = s.stg := by
          obtain ⟨H1, n1, hQ1, _⟩ := hI.st
          have hle1 : s' ≤ s.stg := by
            have := (List.getElem?_eq_some_iff.1 hQ1).1
            simp [hD.hs] at this
            omega
          rcases Nat.lt_or_ge s' s.stg with hlt | hge
          · exfalso
            have hc : ∃ c, ((s.recs.reverse.filter (·.chain)).map (·.i))[s']? = some c := ⟨_, List.getElem?_eq_getElem (by rw [hD.cnt]; exact hlt)⟩
            obtain ⟨c, hc⟩ := hc
            have hcl : c < ops.size := by
              have hcm := List.mem_of_getElem? hc
              rw [List.mem_map] at hcm
              obtain ⟨r', hr', rfl⟩ := hcm
              rw [List.mem_filter] at hr'
              obtain ⟨k', hk'⟩ := List.mem_iff_getElem?.1 hr'.1
              have hx := hD.recs k' r' hk'
              rw [hx.idx]
              exact (Array.getElem?_eq_some_iff.1 hx.op).1
            have := (hI.chain s' c hc).1 (hall c hcl)
            omega
          · omega
        subst hs'
        obtain ⟨H1, n1, hQ1, hS1⟩ := hI.st
        rw [hD.last] at hQ1
        simp only [Option.some.injEq, Prod.mk.injEq] at hQ1
        obtain ⟨rfl, rfl⟩ := hQ1
        refine ⟨e', w', tr', hle, hS1, ⟨hI.size, fun t sv ht => hI.good t sv ?_⟩, hst⟩
        rcases hD.slots t sv ht with ⟨k', r', h1, h2, h3, h4⟩ | ⟨h1, h2⟩
        · exact .inl ⟨k', r', hall k' h1, h2, h3, h4⟩
        · refine .inr ⟨fun k' r' _ hr' => ?_, h2⟩
          have hlt := (List.getElem?_eq_some_iff.1 hr').1
          rw [List.length_reverse, hD.len] at hlt
          exact h1 k' r' hlt hr'
where
  stage0 {P : Program} {rn : Rn} {nt : Nat} {ops : Array Oper} {x : Heap × Nat} : ∀ (l : List Oper) {i : Nat} (s s' : DS), DrawRunQ P rn nt ops i l s s' → s.Hs.reverse[0]? = some x → s'.Hs.reverse[0]? = some x
    | [], i, s, s', h, h0 => by cases h; exact h0
    | o :: l, i, s, s', h, h0 => by
      cases h with
      | cons ho h =>
        refine stage0 l _ s' h ?_
        rcases ho with ⟨_, rfl⟩ | ⟨_, _, v, _, rfl⟩ | ⟨_, v, H, nx, _, rfl⟩
        · exact h0
        · exact h0
        · simp only [List.reverse_cons]
          exact get_snoc h0
end
end Go.Sy.Nq
end
section
namespace Go.Sy
open Go Go.Sl Go.RowKit
structure DrawKQ (P : Program) (nt : Nat) (ops : Array Oper) (i : Nat) (l : List Oper) (s : DS) (K : DS → Prop) : Prop where
  ex : ∃ s', Nq.DrawRunQ P (wpr P) nt ops i l s s' ∧ K s'
theorem runQ {P : Program} {nt : Nat} {ops : Array Oper} : ∀ {l : List Oper} {i : Nat} {s s' : DS}, DrawRun P (wpr P) nt ops i l s s' → Nq.DrawRunQ P (wpr P) nt ops i l s s'
  | [], i, s, s', h => by
    cases h
    exact .nil _ _
  | o :: l, i, s, s', h => by
    cases h with
    | cons h1 h2 =>
      refine .cons ?_ (runQ h2)
      rcases h1 with h1 | ⟨h1, h3, v, h4, h5⟩ | h1
      · exact .inl h1
      · exact .inr (.inl ⟨h1, h3, v, .inl h4, h5⟩)
      · exact .inr (.inr h1)
theorem runQ_app {P : Program} {nt : Nat} {ops : Array Oper} {l2 : List Oper} : ∀ {l : List Oper} {i : Nat} {s s1 s' : DS}, Nq.DrawRunQ P (wpr P) nt ops i l s s1 → Nq.DrawRunQ P (wpr P) nt ops (i + l.length) l2 s1 s' → Nq.DrawRunQ P (wpr P) nt ops i (l ++ l2) s s'
  | [], i, s, s1, s', h, h2 => by
    cases h
    exact h2
  | o :: l, i, s, s1, s', h, h2 => by
    cases h with
    | cons g1 g2 =>
      refine .cons g1 (runQ_app g2 ?_)
      rw [List.length_cons, show i + (l.length + 1) = i + 1 + l.length by omega] at h2
      exact h2
section
variable {P : Program} {ro : Option Nat} {fn nt nx : Nat} {T : Tr SV} {k : List AIt} {dfs : List ADf} {H : Heap} {Q : Pst} {ops : Array Oper} {i : Nat} {l : List Oper} {K : DS → Prop} {s : DS}
theorem dq_all (h : DrawK P nt ops i l s K) : DrawKQ P nt ops i l s K := by
  obtain ⟨s', h1, h2⟩ := h.ex
  exact ⟨⟨s', runQ h1, h2⟩⟩
theorem dq_some (n : Nat) (hn : n ≤ l.length) (h : DrawK P nt ops i (l.take n) s (fun s1 => DrawKQ P nt ops (i + n) (l.drop n) s1 K)) : DrawKQ P nt ops i l s K := by
  obtain ⟨s1, h1, h2⟩ := h.ex
  obtain ⟨s', h3, h4⟩ := h2.ex
  have := runQ_app (runQ h1) (l2 := l.drop n) (s' := s') (by rw [List.length_take, Nat.min_eq_left hn]; exact h3)
  rw [List.take_append_drop] at this
  exact ⟨⟨s', this, h4⟩⟩
theorem dq_call {g : FuncId} {as1 : List Operand} {ats : Array TypeId} {args : List SV} {v : SV} {dd : Nat} {ty : TypeId} {pos : String} {af : Array Edge} {gd : Option (Nat × Bool)} {rs : List Rec} {Hs : List (Heap × Nat)} {stg : Nat}
    (hw : wantedS (onlyT T (needs ops.toList ⟨some dd, .call { callee := .value (.func g), args := as1.toArray, argTypes := ats }, ty, pos, af, gd⟩)) ops ⟨some dd, .call { callee := .value (.func g), args := as1.toArray, argTypes := ats }, ty, pos, af, gd⟩ = some true) (hd : Nat.blt dd nt = true)
    (ha : evalL (onlyT T (needs ops.toList ⟨some dd, .call { callee := .value (.func g), args := as1.toArray, argTypes := ats }, ty, pos, af, gd⟩)) as1 = some args) (hm : mayEnter P g = true)
    (hr : Fnc P g args H nx (fun r => r = (v, H, nx)))
    (h : DrawKQ P nt ops (i + 1) l ⟨T.set dd v, H, nx, ⟨i, ⟨some dd, .call { callee := .value (.func g), args := as1.toArray, argTypes := ats }, ty, pos, af, gd⟩, onlyT T (needs ops.toList ⟨some dd, .call { callee := .value (.func g), args := as1.toArray, argTypes := ats }, ty, pos, af, gd⟩), stg, false, true, v⟩ :: rs, Hs, stg⟩ K) :
    DrawKQ P nt ops i (⟨some dd, .call { callee := .value (.func g), args := as1.toArray, argTypes := ats }, ty, pos, af, gd⟩ :: l) ⟨T, H, nx, rs, Hs, stg⟩ K := by
  obtain ⟨s', h1, h2⟩ := h.ex
  refine ⟨⟨s', .cons (.inr (.inl ⟨hw, (fun c hc => (by cases hc)), v, .inr ⟨_, op_call ha hm, (fun c hc => (by cases hc)), hr⟩, ?_⟩)) h1, h2⟩⟩
  simp only [putS_some hd]
theorem eff_call {g : FuncId} {as1 : List Operand} {ats : Array TypeId} {args : List SV} {v : SV} {dd : Option Nat} {ty : TypeId} {pos : String} {af : Array Edge} {gd : Option (Nat × Bool)} (ha : evalL T as1 = some args) (hm : mayEnter P g = true)
    (hr : Fnc P g args H nx (fun r => r = (v, H, nx))) : DrawEff P (wpr P) T H nx ⟨dd, .call { callee := .value (.func g), args := as1.toArray, argTypes := ats }, ty, pos, af, gd⟩ (v, H, nx) :=
  ⟨_, op_call ha hm, (fun c hc => (by cases hc)), hr⟩
def AllHQ (Q : List (Heap × Nat)) (p : Heap → Nat → Prop) : Prop := match Q with
  | [] => True
  | q :: l => p q.1 q.2 ∧ AllHQ l p
theorem AllHQ.get {p : Heap → Nat → Prop} : ∀ {Q : List (Heap × Nat)}, AllHQ Q p → ∀ {i : Nat} {H : Heap} {n : Nat}, Q[i]? = some (H, n) → p H n
  | [], _, i, H, n, h => by simp at h
  | q :: l, hh, i, H, n, h => by
    cases i with
    | zero => simp only [List.getElem?_cons_zero, Option.some.injEq] at h; subst h; exact hh.1
    | succ i => exact AllHQ.get hh.2 (by simpa using h)
def FlOkQ (P : Program) (ancs chain : List Nat) (Q : List (Heap × Nat)) : List Rec → Prop
  | [] => True
  | r :: l => ((r.chain || !r.wanted || (Nat.beq (lowOf (ancs.getD r.i 0) chain) r.stg && Nat.beq (highOf ancs r.i chain) r.stg)) = true ∨ (AllH Q (fun H => ReadDoes P r.T H r.o r.val) ∨ AllHQ Q (fun H n => DrawEff P (wpr P) r.T H n r.o (r.val, H, n)))) ∧ FlOkQ P ancs chain Q l
theorem FlOkQ.ok {P : Program} {ancs chain : List Nat} {Q : List (Heap × Nat)} : ∀ {l : List Rec}, FlOkQ P ancs chain Q l → ∀ r ∈ l, r.chain = false → r.wanted = true → ∀ st, lowOf (ancs.getD r.i 0) chain ≤ st → st ≤ highOf ancs r.i chain → st ≠ r.stg → ∀ H n, Q.reverse[st]? = some (H, n) → Nq.ReadQ P (wpr P) r.T H n r.o r.val
  | [], _, r, hm, _, _, _, _, _, _, _, _, _ => by cases hm
  | r0 :: l, hh, r, hm, hc, hw, st, h1, h2, h3, H, n, hq => by
    rcases List.mem_cons.1 hm with rfl | hm
    · rcases hh.1 with h | h
      · rw [hc, hw] at h
        simp only [Bool.not_true, Bool.or_false, Bool.false_or, Bool.and_eq_true] at h
        have q1 := eq_of_beq h.1
        have q2 := eq_of_beq h.2
        omega
      · have hlt := (List.getElem?_eq_some_iff.1 hq).1
        rw [List.getElem?_reverse (by simpa using hlt)] at hq
        rcases h with h | h
        · exact .inl (h.get hq)
        · exact .inr (h.get hq)
    · exact FlOkQ.ok hh.2 r hm hc hw st h1 h2 h3 H n hq
theorem w_drawQ {id : Nat} {opl : List Oper} (hm : P.follows .mixedOrders = true) (hr : regionOk nt opl = true)
    (h : DrawKQ P nt opl.toArray 0 opl ⟨T, H, nx, [], [(H, nx)], 0⟩ (fun s => chainOk (ancGo [] opl) (chainOf s) = true ∧ FlOkQ P (ancGo [] opl) (chainOf s) s.Hs s.recs ∧ Wp P ro ⟨fn, nt, s.T, k, dfs, s.H, s.nx⟩ Q)) :
    Wp P ro ⟨fn, nt, T, .code (.region id opl.toArray true) :: k, dfs, H, nx⟩ Q := by
  obtain ⟨s, hs, h1, h2, h3⟩ := h.ex
  refine ⟨fun K w0 e w tmps todo ds kd rof cs hS hT ht hd hc => ?_⟩
  obtain ⟨it, k', rfl, hi, hk⟩ := ht.cons
  have hi : it = Item.code (.region id opl.toArray true) := hi
  subst hi
  obtain ⟨e', w', tmps', g1, g2, g3, g4⟩ := Nq.drawOKQ (wpr_run K w0) hm opl.toArray nt T H nx s ⟨hr, hs, h1, fun r hr => FlOkQ.ok h2 r hr⟩ e { w with drawn := w.drawn + 1 } tmps hS.drew hT (w.tape w.drawn (.order fn id)) fn k' ds kd rof cs
  exact (h3.run K w0 e' w' tmps' k' ds kd rof cs g2 g3 (hk.mono g1) (hd.mono g1) (hc.mono g1)).pre (.head st_draw (g4.trans (.one st_regionEnd))) g1 rfl rfl (fun _ hr => hr)
end
end Go.Sy
end
section
namespace Go.Sy
open Go Go.Sl Go.RowKit
theorem conc_down {e e' : Env} (h : e.le e') {s : SV} {v v' : Value} (h0 : s.conc e = some v) (h1 : s.conc e' = some v') : s.conc e = some v' := by
  have := SV.conc_mono h s v h0
  rw [h1] at this
  rw [h0, ← Option.some.inj this]
theorem MRel.down {e e' : Env} (h : e.le e') : ∀ {l : List (Value × SV × Nat)} {m m' : List MapEntry}, MRel e l m → MRel e' l m' → MRel e l m'
  | [], [], [], _, _ => trivial
  | (_, _, _) :: _, _ :: _, _ :: _, hd, hd' => ⟨hd'.1, hd'.2.1, conc_down h hd.2.2.1 hd'.2.2.1, MRel.down h hd.2.2.2 hd'.2.2.2⟩
  | [], _ :: _, _, hd, _ => hd.elim
  | [], [], _ :: _, _, hd => hd.elim
  | _ :: _, [], _, hd, _ => by simp [MRel] at hd
  | _ :: _, _ :: _, [], _, hd => by simp [MRel] at hd
theorem DRel.down {e e' : Env} (h : e.le e') {a : ADf} {d d' : Deferred} (hd : DRel e a d) (hd' : DRel e' a d') : DRel e a d' := by
  cases a with
  | call f args =>
    obtain ⟨x, cap, rfl, hl⟩ := hd
    obtain ⟨x', cap', rfl, hl'⟩ := hd'
    refine ⟨x', cap', rfl, ?_⟩
    have := SV.concL_mono h _ _ hl
    rw [hl'] at this
    rw [hl, ← Option.some.inj this]
  | taken r =>
    obtain ⟨x, hx, rfl⟩ := hd
    obtain ⟨x', hx', rfl⟩ := hd'
    have := h _ _ hx
    rw [hx'] at this
    rw [Option.some.inj this]
    exact ⟨x, hx, rfl⟩
theorem DsRel.down {e e' : Env} (h : e.le e') : ∀ {l : List ADf} {m m' : List Deferred}, DsRel e l m → DsRel e' l m' → DsRel e l m'
  | [], [], [], _, _ => trivial
  | _ :: _, _ :: _, _ :: _, hd, hd' => ⟨hd.1.down h hd'.1, DsRel.down h hd.2 hd'.2⟩
  | [], _ :: _, _, hd, _ => hd.elim
  | [], [], _ :: _, _, hd => hd.elim
  | _ :: _, [], _, hd, _ => hd.elim
  | _ :: _, _ :: _, [], _, hd => hd.elim
theorem TRel.down {e e' : Env} (h : e.le e') {nt : Nat} {T : Tr SV} {tr tr' : Array Value} (hd : TRel e nt T tr) (hd' : TRel e' nt T tr') : TRel e nt T tr' :=
  ⟨hd'.1, fun t s hs => let ⟨_, h0, _⟩ := hd.2 t s hs; let ⟨v, h1, h2⟩ := hd'.2 t s hs; ⟨v, conc_down h h0 h1, h2⟩⟩
theorem ORel.down {e e' : Env} (h : e.le e') {vo : VO} {x : Ent} {o o' : Obj} (ho : ORel e vo x o) (ho' : ORel e' vo x o') : ORel e vo x o' := by
  cases vo with
  | cells n t c =>
    obtain ⟨_, cs0, _, _, _, _, h4⟩ := ho
    obtain ⟨q0, cs, fz, q1, q2, q3, q4⟩ := ho'
    exact ⟨q0, cs, fz, q1, q2, q3, fun i hi s hs => let ⟨_, a, _⟩ := h4 i hi s hs; let ⟨v, b, g⟩ := q4 i hi s hs; ⟨v, conc_down h a b, g⟩⟩
  | row ro ne sz t c =>
    obtain ⟨_, cs0, _, _, _, _, _, _, _, _, h7⟩ := ho
    obtain ⟨q0, cs, fz, tt, q1, q2, q3, q4, q5, q6, q7⟩ := ho'
    exact ⟨q0, cs, fz, tt, q1, q2, q3, q4, q5, q6, fun i hi s hs => let ⟨_, a, _⟩ := h7 i hi s hs; let ⟨v, b, g⟩ := q7 i hi s hs; ⟨v, conc_down h a b, g⟩⟩
  | map l clock =>
    obtain ⟨_, _, h2⟩ := ho
    obtain ⟨es, q1, q2⟩ := ho'
    exact ⟨es, q1, h2.down h q2⟩
  | iter m since seen stepped =>
    cases m with
    | none => exact ho'
    | some m =>
      obtain ⟨_, y, h1, _⟩ := ho
      obtain ⟨q0, y', q1, q2⟩ := ho'
      have := h _ _ h1
      rw [q1] at this
      cases Option.some.inj this
      exact ⟨q0, y, h1, q2⟩
  | siter s pos => exact ho'
  | loop st pend fn nt T params assign body dr =>
    obtain ⟨_, y, h1, h2, _⟩ := ho
    obtain ⟨tmps, y', q1, q2, q3⟩ := ho'
    have := h _ _ h1
    rw [q1] at this
    cases Option.some.inj this
    exact ⟨tmps, y, h1, h2.down h q2, q3⟩
  | dfd l =>
    cases l with
    | none => exact ho'
    | some l =>
      obtain ⟨_, _, h2⟩ := ho
      obtain ⟨ds, q1, q2⟩ := ho'
      exact ⟨ds, q1, h2.down h q2⟩
theorem Lies.down {K : Zone} {w w' : World} {e e' : Env} (h : e.le e') {vo : VO} {x : Ent} (hl : Lies K w e vo x) (hl' : Lies K w' e' vo x) : Lies K w' e vo x := by
  rcases hl' with ⟨h0, o, h1, h2, h3⟩ | h1
  · rcases hl with ⟨_, o', _, _, g⟩ | ⟨g, _⟩
    · exact .inl ⟨h0, o, h1, h2, g.down h h3⟩
    · rw [h0] at g; cases g
  · exact .inr h1
theorem St.down {K : Zone} {w0 w w' : World} {e e' : Env} {H H' : Heap} {nx nx' : Nat} (hS : St K w0 e H nx w) (h : e.le e') (hS' : St K w0 e' H' nx' w') (hH : ∀ id vo, H.at' id = some vo → H'.at' id = some vo) : St K w0 e H nx w' := by
  refine ⟨hS'.below, fun id vo hid => ?_, hS.inj, hS.fresh⟩
  obtain ⟨x, hx, hl⟩ := hS.rel id vo hid
  obtain ⟨x', hx', hl'⟩ := hS'.rel id vo (hH id vo hid)
  have := h _ _ hx
  rw [hx'] at this
  cases Option.some.inj this
  exact ⟨x, hx, hl.down h hl'⟩
def swp (n : Nat) : Nat → Nat := fun i => if i = n then n + 1 else if i = n + 1 then n else i
theorem swp_0 (n : Nat) : swp n n = n + 1 := by simp [swp]
theorem swp_1 (n : Nat) : swp n (n + 1) = n := by simp [swp]
theorem swp_o {n i : Nat} (h : i ≠ n) (h' : i ≠ n + 1) : swp n i = i := by simp [swp, h, h']
theorem swp_swp (n i : Nat) : swp n (swp n i) = i := by
  by_cases h : i = n
  · subst h; rw [swp_0, swp_1]
  · by_cases h' : i = n + 1
    · subst h'; rw [swp_1, swp_0]
    · rw [swp_o h h', swp_o h h']
theorem swap_St {K : Zone} {w0 w : World} {e0 e : Env} {H0 : Heap} {n : Nat} {a f : VO} (h0 : St K w0 e0 H0 n w) (hle : e0.le e) (h : St K w0 e ((H0.set n f).set (n + 1) a) (n + 2) w) (ha : ∀ ρ, a.ren ρ = a) (hf : ∀ ρ, f.ren ρ = f) :
    e0.le (pull e (swp n)) ∧ St K w0 (pull e (swp n)) ((H0.set n a).set (n + 1) f) (n + 2) w := by
  have hn0 := h0.fresh n (Nat.le_refl _)
  have hn1 := h0.fresh (n + 1) (by omega)
  have hlow : ∀ {id : Nat} {vo : VO}, H0.at' id = some vo → id ≠ n ∧ id ≠ n + 1 := fun {id vo} hid => by
    obtain ⟨x, hx, _⟩ := h0.rel id vo hid
    exact ⟨fun e => (by rw [e, hn0] at hx; cases hx), fun e => (by rw [e, hn1] at hx; cases hx)⟩
  have hle' : e0.le (pull e (swp n)) := fun i x hx => by
    have h1 : i ≠ n := fun e => by rw [e, hn0] at hx; cases hx
    have h2 : i ≠ n + 1 := fun e => by rw [e, hn1] at hx; cases hx
    show e (swp n i) = some x
    rw [swp_o h1 h2]
    exact hle i x hx
  -- where a name of the new memory stood
  have back : ∀ {id : Nat} {vo : VO}, ((H0.set n a).set (n + 1) f).at' id = some vo → ((H0.set n f).set (n + 1) a).at' (swp n id) = some vo ∧ (id = n ∨ id = n + 1 ∨ H0.at' id = some vo) := fun {id vo} hid => by
    by_cases h1 : id = n
    · subst h1
      rw [Tr.at_set_other _ _ (by omega), Tr.at_set_same] at hid
      rw [swp_0, Tr.at_set_same]
      exact ⟨hid, .inl rfl⟩
    · by_cases h2 : id = n + 1
      · subst h2
        rw [Tr.at_set_same] at hid
        rw [swp_1, Tr.at_set_other _ _ (by omega), Tr.at_set_same]
        exact ⟨hid, .inr (.inl rfl)⟩
      · rw [Tr.at_set_other _ _ h2, Tr.at_set_other _ _ h1] at hid
        rw [swp_o h1 h2, Tr.at_set_other _ _ h2, Tr.at_set_other _ _ h1]
        exact ⟨hid, .inr (.inr hid)⟩
  refine ⟨hle', h.below, fun id vo hid => ?_, fun i j vo vo' x x' hi hj hx hx' hne => ?_, fun i hi => ?_⟩
  · obtain ⟨g1, g2⟩ := back hid
    rcases g2 with rfl | rfl | g2
    · obtain ⟨x, hx, hl⟩ := h.rel _ _ g1
      have hv : vo = a := by
        rw [Tr.at_set_other _ _ (by omega), Tr.at_set_same] at hid
        exact (Option.some.inj hid).symm
      subst hv
      exact ⟨x, hx, Lies_ren.1 (by rw [ha]; exact hl)⟩
    · obtain ⟨x, hx, hl⟩ := h.rel _ _ g1
      have hv : vo = f := by
        rw [Tr.at_set_same] at hid
        exact (Option.some.inj hid).symm
      subst hv
      exact ⟨x, hx, Lies_ren.1 (by rw [hf]; exact hl)⟩
    · obtain ⟨x, hx, hl⟩ := h0.rel id vo g2
      exact ⟨x, hle' _ _ hx, hl.mono hle'⟩
  · exact h.inj _ _ _ _ x x' (back hi).1 (back hj).1 hx hx' (fun e => hne (by rw [← swp_swp n i, e, swp_swp]))
  · show e (swp n i) = none
    rw [swp_o (by omega) (by omega)]
    exact h.fresh i hi
namespace Np
section
variable {P : Program} {K : Zone} {w0 w : World} {e : Env} {H : Heap} {nx : Nat} {rn : Rn}
structure RegOK (P : Program) (rn : Rn) (nt : Nat) (ops : Array Oper) (T0 : Tr SV) (R : List Rec) (Q : List (Heap × Nat)) (C : List Nat) : Prop where
  len : R.length = ops.size
  recs : ∀ (k : Nat) r, R[k]? = some r → RecOK P rn ops T0 R Q C k r
  stages : Q.length = C.length + 1
  chainR : C = (R.filter (·.chain)).map (·.i)
  floats : ∀ r ∈ R, r.chain = false → r.wanted = true → (∀ c, r.o.op ≠ .defer c) ∧ ∀ s, lowOf ((ancGo [] ops.toList).getD r.i 0) C ≤ s → s ≤ highOf (ancGo [] ops.toList) r.i C → ∀ H n, Q[s]? = some (H, n) → ReadDoes P r.T H r.o r.val
  small : ∀ (i : Nat) o d, ops.toList[i]? = some o → o.dst = some d → d < nt
  dist : ∀ (i j : Nat) oi oj d, ops.toList[i]? = some oi → ops.toList[j]? = some oj → oi.dst = some d → oj.dst = some d → i = j
  edges : ∀ (i : Nat) o, ops.toList[i]? = some o → edgesOk i o.after.toList = true
  opnds : ∀ (i : Nat) o, ops.toList[i]? = some o → operandsOk ops.toList (ancGo [] ops.toList) i ((ancGo [] ops.toList).getD i 0) (needs ops.toList o) = true
def Good (T0 : Tr SV) (R : List Rec) (L : Nat → Prop) (t : Nat) (s : SV) : Prop :=
  (∃ (k : Nat) (r : Rec), L k ∧ R[k]? = some r ∧ r.o.dst = some t ∧ r.val = s) ∨ ((∀ (k : Nat) (r : Rec), L k → R[k]? = some r → r.o.dst ≠ some t) ∧ T0.at' t = some s)
structure PInv (K : Zone) (w0 : World) (nt : Nat) (ops : Array Oper) (T0 : Tr SV) (R : List Rec) (Q : List (Heap × Nat)) (C : List Nat) (L : Nat → Prop) (s : Nat) (e : Env) (w : World) (tr : Array Value) : Prop where
  st : ∃ H n, Q[s]? = some (H, n) ∧ St K w0 e H n w
  size : tr.size = nt
  good : ∀ t sv, Good T0 R L t sv → ∃ v, sv.conc e = some v ∧ tr.getD t undef = v
  chain : ∀ (j c : Nat), C[j]? = some c → (L c ↔ j < s)
  closed : ∀ (i : Nat) o, L i → ops.toList[i]? = some o → ∀ ed ∈ o.after.toList, Region.binds .any ed = true → L ed.on
variable {nt : Nat} {ops : Array Oper} {T0 : Tr SV} {R : List Rec} {Q : List (Heap × Nat)} {C : List Nat}
theorem PInv.need (hR : RegOK P rn nt ops T0 R Q C) {L : Nat → Prop} {s : Nat} {tr : Array Value} (h : PInv K w0 nt ops T0 R Q C L s e w tr) {i : Nat} {o : Oper} (ho : ops[i]? = some o) (hni : ¬ L i)
    (hed : ∀ ed ∈ o.after.toList, Region.binds .any ed = true → L ed.on) {r : Rec} (hr : R[i]? = some r) : TRel e nt r.T tr ∧ Region.wanted o (yielded ops tr) = r.wanted := by
  have hoL : ops.toList[i]? = some o := by simpa using ho
  have hilt : i < ops.size := (Array.getElem?_eq_some_iff.1 ho).1
  have hrec := hR.recs i r hr
  have hro : r.o = o := by
    have := hrec.op
    rw [ho] at this
    simpa using this.symm
  have hanc := anc_listed L hR.edges (fun i o hi ho' => h.closed i o hi ho') i o hoL hed
  -- the slots that it needs
  have hT : TRel e nt r.T tr := by
    refine ⟨h.size, fun t sv ht => ?_⟩
    obtain ⟨hneed, hsrc⟩ := hrec.slots t sv ht
    rw [hro] at hneed
    have hwr : ∀ (k' : Nat) o', ops.toList[k']? = some o' → o'.dst = some t → (L k' ∧ k' < i) ∨ (¬ L k' ∧ i < k') := fun k' o' ho' hd' => by
      rcases operandsOk_ok hR.dist (hR.opnds i o hoL) t hneed k' o' ho' hd' with hb | hb
      · exact .inl (hanc k' hb)
      · refine .inr ⟨fun hL => ?_, ?_⟩
        · exact hni (anc_listed L hR.edges (fun i o hi ho' => h.closed i o hi ho') k' o' ho' (h.closed k' o' hL ho') i hb).1
        · exact (anc_listed (fun _ => True) hR.edges (fun _ _ _ _ _ _ _ => trivial) k' o' ho' (fun _ _ _ => trivial) i hb).2
    refine h.good t sv ?_
    rcases hsrc with ⟨k', r', h1, h2, h3, h4⟩ | ⟨h1, h2⟩
    · have hop := (hR.recs k' r' h2).op
      rcases hwr k' r'.o (by simpa using hop) h3 with g | g
      · exact .inl ⟨k', r', g.1, h2, h3, h4⟩
      · omega
    · refine .inr ⟨fun k' r' hLk hr' hd' => ?_, h2⟩
      have hop := (hR.recs k' r' hr').op
      rcases hwr k' r'.o (by simpa using hop) hd' with g | g
      · exact h1 k' r' g.2 hr' hd'
      · exact g.1 hLk
  have hwant := wantedS_ok hrec.want hT
  rw [hro] at hwant
  exact ⟨hT, hwant⟩
theorem PInv.step (hrn : RunOK P K w0 rn) (hR : RegOK P rn nt ops T0 R Q C) {L : Nat → Prop} {s : Nat} {tr : Array Value} (h : PInv K w0 nt ops T0 R Q C L s e w tr) {i : Nat} {o : Oper} (ho : ops[i]? = some o) (hni : ¬ L i)
    (hed : ∀ ed ∈ o.after.toList, Region.binds .any ed = true → L ed.on) (fn : FuncId) (rest : List Nat) (k : List Item) (ds : List Deferred) (kd : CallKind) (rof : Option Nat) (cs : List Frame) (hord : ∀ (j c : Nat), C[j + 1]? = some i → C[j]? = some c → L c) :
    ∃ e' w' tr' s', e.le e' ∧ PInv K w0 nt ops T0 R Q C (fun j => L j ∨ j = i) s' e' w' tr' ∧
      Steps P (lone (fr0 fn tr (.inRegion ops (i :: rest) :: k) ds kd rof) cs w) (lone (fr0 fn tr' (.inRegion ops rest :: k) ds kd rof) cs w') ∧ (∃ u, tr' = putV tr o.dst u) ∧ ((∀ r, R[i]? = some r → r.chain = false) → e' = e ∧ w' = w ∧ s' = s) := by
  have hoL : ops.toList[i]? = some o := by simpa using ho
  have hilt : i < ops.size := (Array.getElem?_eq_some_iff.1 ho).1
  obtain ⟨r, hr⟩ : ∃ r, R[i]? = some r := ⟨_, List.getElem?_eq_getElem (by rw [hR.len]; exact hilt)⟩
  have hrec := hR.recs i r hr
  have hro : r.o = o := by
    have := hrec.op
    rw [ho] at this
    simpa using this.symm
  have hanc := anc_listed L hR.edges (fun i o hi ho' => h.closed i o hi ho') i o hoL hed
  -- the slots that it needs
  have hT : TRel e nt r.T tr := by
    refine ⟨h.size, fun t sv ht => ?_⟩
    obtain ⟨hneed, hsrc⟩ := hrec.slots t sv ht
    rw [hro] at hneed
    have hwr : ∀ (k' : Nat) o', ops.toList[k']? = some o' → o'.dst = some t → (L k' ∧ k' < i) ∨ (¬ L k' ∧ i < k') := fun k' o' ho' hd' => by
      rcases operandsOk_ok hR.dist (hR.opnds i o hoL) t hneed k' o' ho' hd' with hb | hb
      · exact .inl (hanc k' hb)
      · refine .inr ⟨fun hL => ?_, ?_⟩
        · exact hni (anc_listed L hR.edges (fun i o hi ho' => h.closed i o hi ho') k' o' ho' (h.closed k' o' hL ho') i hb).1
        · exact (anc_listed (fun _ => True) hR.edges (fun _ _ _ _ _ _ _ => trivial) k' o' ho' (fun _ _ _ => trivial) i hb).2
    refine h.good t sv ?_
    rcases hsrc with ⟨k', r', h1, h2, h3, h4⟩ | ⟨h1, h2⟩
    · have hop := (hR.recs k' r' h2).op
      rcases hwr k' r'.o (by simpa using hop) h3 with g | g
      · exact .inl ⟨k', r', g.1, h2, h3, h4⟩
      · omega
    · refine .inr ⟨fun k' r' hLk hr' hd' => ?_, h2⟩
      have hop := (hR.recs k' r' hr').op
      rcases hwr k' r'.o (by simpa using hop) hd' with g | g
      · exact h1 k' r' g.2 hr' hd'
      · exact g.1 hLk
  have hwant := wantedS_ok hrec.want hT
  rw [hro] at hwant
  -- what comes of it
  have build : ∀ (e' : Env) (w' : World) (u : Value) (s' : Nat), e.le e' → (∃ H n, Q[s']? = some (H, n) ∧ St K w0 e' H n w') → r.val.conc e' = some u → (∀ (j c : Nat), C[j]? = some c → ((L c ∨ c = i) ↔ j < s')) →
      PInv K w0 nt ops T0 R Q C (fun j => L j ∨ j = i) s' e' w' (putV tr o.dst u) := by
    intro e' w' u s' hle hst hu hch
    refine ⟨hst, ?_, fun t sv hg => ?_, hch, fun j oj hj hoj ed hed' hb => ?_⟩
    · unfold putV
      cases o.dst with
      | none => exact h.size
      | some d => simpa using h.size
    · have old : (∀ d, o.dst = some d → d ≠ t) → ∃ v, sv.conc e' = some v ∧ (putV tr o.dst u).getD t undef = v := by
        intro hne
        have hg' : Good T0 R L t sv := by
          rcases hg with ⟨k', r', hk', h2, h3, h4⟩ | hg
          · refine .inl ⟨k', r', ?_, h2, h3, h4⟩
            rcases hk' with hk' | rfl
            · exact hk'
            · exfalso
              rw [hr] at h2
              simp only [Option.some.injEq] at h2
              subst h2
              rw [hro] at h3
              exact hne t h3 rfl
          · exact .inr ⟨fun k' r' hLk => hg.1 k' r' (.inl hLk), hg.2⟩
        obtain ⟨v, hv, hgv⟩ := h.good t sv hg'
        refine ⟨v, SV.conc_mono hle _ _ hv, ?_⟩
        cases hd : o.dst with
        | none => exact hgv
        | some d =>
          have := hne d hd
          simp only [putV]
          rw [Array.getD_eq_getD_getElem?, Array.getElem?_setIfInBounds_ne this, ← Array.getD_eq_getD_getElem?]
          exact hgv
      cases hd : o.dst with
      | none => rw [hd] at old; exact old (fun d hd' => by cases hd')
      | some d =>
        by_cases hdt : d = t
        · subst hdt
          have hval : sv = r.val := by
            rcases hg with ⟨k', r', hk', h2, h3, h4⟩ | ⟨h1, _⟩
            · have hop := (hR.recs k' r' h2).op
              have := hR.dist k' i r'.o o d (by simpa using hop) hoL h3 hd
              subst this
              rw [hr] at h2
              simp only [Option.some.injEq] at h2
              subst h2
              exact h4.symm
            · exact absurd (by rw [hro]; exact hd) (h1 i r (.inr rfl) hr)
          subst hval
          refine ⟨u, hu, ?_⟩
          have hlt := hR.small i o d hoL hd
          simp only [putV]
          rw [Array.getD_eq_getD_getElem?, Array.getElem?_setIfInBounds_self_of_lt (by rw [h.size]; exact hlt)]
          rfl
        · rw [hd] at old
          exact old (fun d' hd' => by simp only [Option.some.injEq] at hd'; subst hd'; exact hdt)
    · rcases hj with hj | rfl
      · exact .inl (h.closed j oj hj hoj ed hed' hb)
      · rw [hoL] at hoj
        simp only [Option.some.injEq] at hoj
        subst hoj
        exact .inl (hed ed hed' hb)
  have notChain : r.chain = false → ∀ (j c : Nat), C[j]? = some c → ((L c ∨ c = i) ↔ j < s) := by
    intro hc j c hj
    have hne : c ≠ i := by
      rintro rfl
      rw [hR.chainR] at hj
      rw [List.getElem?_map, Option.map_eq_some_iff] at hj
      obtain ⟨r', hr', hi'⟩ := hj
      have hmem := List.mem_of_getElem? hr'
      rw [List.mem_filter] at hmem
      obtain ⟨k', hk'⟩ := List.mem_iff_getElem?.1 hmem.1
      have := (hR.recs k' r' hk').idx
      rw [hi'] at this
      subst this
      rw [hr] at hk'
      simp only [Option.some.injEq] at hk'
      subst hk'
      rw [hc] at hmem
      simp at hmem
    rw [← h.chain j c hj]
    simp [hne]
  obtain ⟨H, n, hQ, hS⟩ := h.st
  cases hwd : r.wanted with
  | false =>
    rw [hwd] at hwant
    obtain ⟨h1, h2⟩ := hrec.skip hwd
    exact ⟨e, w, _, s, Env.le_refl e, build e w undef s (Env.le_refl e) ⟨H, n, hQ, hS⟩ (by rw [h1]; rfl) (notChain h2), .one (st_notWanted ho hwant), ⟨_, rfl⟩, fun _ => ⟨rfl, rfl, rfl⟩⟩
  | true =>
    rw [hwd] at hwant
    cases hc : r.chain with
    | false =>
      have hri := hrec.idx
      have hlo : lowOf ((ancGo [] ops.toList).getD r.i 0) C ≤ s := by
        rcases Nat.lt_or_ge s (lowOf ((ancGo [] ops.toList).getD r.i 0) C) with hlt | hge
        · exfalso
          obtain ⟨c, h1, h2⟩ := lowOf_ok s hlt
          rw [hri] at h2
          have := (h.chain s c h1).1 (hanc c h2).1
          omega
        · exact hge
      have hhi : s ≤ highOf (ancGo [] ops.toList) r.i C := by
        rcases Nat.lt_or_ge (highOf (ancGo [] ops.toList) r.i C) s with hlt | hge
        · exfalso
          have hsC : s ≤ C.length := by
            have := (List.getElem?_eq_some_iff.1 hQ).1
            have := hR.stages
            omega
          obtain ⟨c, h1, h2⟩ := highOf_ok (ancs := ancGo [] ops.toList) (i := r.i) (l := C) (by omega)
          have hLc := (h.chain _ c h1).2 hlt
          have hcl : c < ops.size := by
            have hcm := List.mem_of_getElem? h1
            rw [hR.chainR, List.mem_map] at hcm
            obtain ⟨r', hr', rfl⟩ := hcm
            rw [List.mem_filter] at hr'
            obtain ⟨k', hk'⟩ := List.mem_iff_getElem?.1 hr'.1
            have hx := hR.recs k' r' hk'
            rw [hx.idx]
            exact (Array.getElem?_eq_some_iff.1 hx.op).1
          have hoc : ops.toList[c]? = some (ops.toList[c]'(by simpa using hcl)) := List.getElem?_eq_getElem (by simpa using hcl)
          have := anc_listed L hR.edges (fun i o hi ho' => h.closed i o hi ho') c _ hoc (h.closed c _ hLc hoc) r.i h2
          rw [hri] at this
          exact hni this.1
        · exact hge
      have hf := (hR.floats r (List.mem_of_getElem? hr) hc hwd).2 s hlo hhi H n hQ
      have hnd := (hR.floats r (List.mem_of_getElem? hr) hc hwd).1
      rw [hro] at hf hnd
      obtain ⟨u, hu, hst⟩ := float_steps (P := P) (fn := fn) (rest := rest) (k := k) (ds := ds) (kd := kd) (rof := rof) (cs := cs) hS hT ho hwant hnd hf
      exact ⟨e, w, _, s, Env.le_refl e, build e w u s (Env.le_refl e) ⟨H, n, hQ, hS⟩ hu (notChain hc), hst, ⟨_, rfl⟩, fun _ => ⟨rfl, rfl, rfl⟩⟩
    | true =>
      obtain ⟨_, hC, H1, n1, H2, n2, hQ1, hQ2, heff⟩ := hrec.eff hc
      have hss : r.stg = s := by
        have h1 : ¬ r.stg < s := fun hlt => hni ((h.chain r.stg i hC).2 hlt)
        rcases Nat.eq_zero_or_pos r.stg with h0 | hp
        · omega
        · have hlt : r.stg - 1 < C.length := by
            have := (List.getElem?_eq_some_iff.1 hC).1
            omega
          have hprev : C[r.stg - 1]? = some C[r.stg - 1] := List.getElem?_eq_getElem hlt
          have := (h.chain _ _ hprev).1 (hord (r.stg - 1) C[r.stg - 1] (by rw [show r.stg - 1 + 1 = r.stg by omega]; exact hC) hprev)
          omega
      rw [hss] at hQ1 hQ2 hC
      rw [hQ] at hQ1
      simp only [Option.some.injEq, Prod.mk.injEq] at hQ1
      obtain ⟨rfl, rfl⟩ := hQ1
      rw [hro] at heff
      obtain ⟨e', w', u, hle, hS', hu, hst⟩ := eff_steps (P := P) hrn (fn := fn) (rest := rest) (k := k) (ds := ds) (kd := kd) (rof := rof) (cs := cs) hS hT ho hwant heff
      refine ⟨e', w', _, s + 1, hle, build e' w' u (s + 1) hle ⟨H2, n2, hQ2, hS'⟩ hu (fun j c hj => ?_), hst, ⟨_, rfl⟩, fun hx => by have := hx r hr; rw [hc] at this; cases this⟩
      constructor
      · rintro (hL | rfl)
        · have := (h.chain j c hj).1 hL; omega
        · rcases Nat.lt_or_ge j (s + 1) with hlt | hge
          · exact hlt
          · exfalso
            -- the same place twice in the chain
            have hi1 := chain_inj hR hC hj
            omega
      · intro hlt
        rcases Nat.lt_or_ge j s with hj' | hj'
        · exact .inl ((h.chain j c hj).2 hj')
        · have : j = s := by omega
          subst this
          rw [hC] at hj
          simp only [Option.some.injEq] at hj
          exact .inr hj.symm
where
  chain_inj {P : Program} {rn : Rn} {nt : Nat} {ops : Array Oper} {T0 : Tr SV} {R : List Rec} {Q : List (Heap × Nat)} {C : List Nat} (hR : RegOK P rn nt ops T0 R Q C) {s j c : Nat} (h1 : C[s]? = some c) (h2 : C[j]? = some c) : s = j := by
    have hnd : C.Nodup := by
      rw [hR.chainR]
      have hall : ((R.filter (·.chain)).map (·.i)).Sublist (R.map (·.i)) := (List.filter_sublist).map _
      refine hall.nodup ?_
      have : R.map (·.i) = List.range R.length := by
        apply List.ext_getElem?
        intro k
        rw [List.getElem?_map]
        cases hk : R[k]? with
        | none =>
          rw [List.getElem?_eq_none_iff] at hk
          simp [hk]
        | some r =>
          have hlt := (List.getElem?_eq_some_iff.1 hk).1
          rw [Option.map_some, (hR.recs k r hk).idx, List.getElem?_range hlt]
      rw [this]
      exact List.nodup_range
    have a := List.getElem?_eq_some_iff.1 h1
    have b := List.getElem?_eq_some_iff.1 h2
    obtain ⟨a1, a2⟩ := a
    obtain ⟨b1, b2⟩ := b
    exact (List.getElem_inj hnd).1 (a2.trans b2.symm)
end
section
variable {P : Program} {K : Zone} {w0 : World} {rn : Rn} {nt : Nat} {ops : Array Oper} {T0 : Tr SV} {R : List Rec} {Q : List (Heap × Nat)} {C : List Nat} {a f : Nat}
def freeOf (ancs : List Nat) (a f : Nat) : List Oper → Nat → Bool
  | [], _ => true
  | o :: l, i => (o.after.toList.all fun ed => !(Region.binds .any ed && Nat.beq ed.on f) || (ancs.getD i 0).testBit a) && freeOf ancs a f l (i + 1)
theorem freeOf_ok {ancs : List Nat} : ∀ {l : List Oper} {i0 : Nat}, freeOf ancs a f l i0 = true → ∀ (i : Nat) o, l[i]? = some o → ∀ ed ∈ o.after.toList, Region.binds .any ed = true → ed.on = f → (ancs.getD (i0 + i) 0).testBit a = true
  | [], _, _, i, o, h, _, _, _, _ => by simp at h
  | o0 :: l, i0, h, i, o, ho, ed, hed, hb, hf => by
    simp only [freeOf, Bool.and_eq_true] at h
    cases i with
    | zero =>
      simp only [List.getElem?_cons_zero, Option.some.injEq] at ho
      subst ho
      have := List.all_eq_true.1 h.1 ed hed
      rw [hb, hf] at this
      simpa using this
    | succ i =>
      have := freeOf_ok h.2 i o (by simpa using ho) ed hed hb hf
      rw [show i0 + (i + 1) = i0 + 1 + i by omega]
      exact this
structure Swap (P : Program) (rn : Rn) (T0 : Tr SV) (R : List Rec) (Q : List (Heap × Nat)) (C : List Nat) (a f : Nat) (ra rf : Rec) (H0 : Heap) (n0 la lf : Nat) (va vf : VO) (df : Nat) : Prop where
  iA : R[a]? = some ra
  iF : R[f]? = some rf
  c0 : C[0]? = some a
  c1 : C[1]? = some f
  q0 : Q[0]? = some (H0, n0)
  q2 : Q[2]? = some ((H0.set n0 va).set (n0 + 1) vf, n0 + 2)
  xa : ra.val = .slu n0 0 la
  xf : rf.val = .slu (n0 + 1) 0 lf
  oF : rf.o.dst = some df
  t0 : T0.at' df = none
  na : ∀ ρ, va.ren ρ = va
  nf : ∀ ρ, vf.ren ρ = vf
  ef : DrawEff P rn rf.T H0 n0 rf.o (.slu n0 0 lf, H0.set n0 vf, n0 + 1)
  ea : DrawEff P rn ra.T (H0.set n0 vf) (n0 + 1) ra.o (.slu (n0 + 1) 0 la, (H0.set n0 vf).set (n0 + 1) va, n0 + 2)
variable {ra rf : Rec} {H0 : Heap} {n0 la lf : Nat} {va vf : VO} {df : Nat}
structure Dev (K : Zone) (w0 : World) (nt : Nat) (ops : Array Oper) (T0 : Tr SV) (R : List Rec) (Q : List (Heap × Nat)) (C : List Nat) (a f : Nat) (H0 : Heap) (n0 lf : Nat) (vf : VO) (df : Nat) (L : Nat → Prop) (e : Env) (w : World) (tr : Array Value) : Prop where
  inv : PInv K w0 nt ops T0 R Q C (fun j => L j ∧ j ≠ f) 0 e w tr
  hf : L f
  ha : ¬ L a
  closed : ∀ (i : Nat) o, L i → ops.toList[i]? = some o → ∀ ed ∈ o.after.toList, Region.binds .any ed = true → L ed.on
  ex : ∃ eB u, e.le eB ∧ St K w0 eB (H0.set n0 vf) (n0 + 1) w ∧ (SV.slu n0 0 lf).conc eB = some u ∧ tr.getD df undef = u
theorem putV_other {tr : Array Value} {d : Option Tmp} {u : Value} {t : Nat} (h : d ≠ some t) : (putV tr d u).getD t undef = tr.getD t undef := by
  cases d with
  | none => rfl
  | some d =>
    have : d ≠ t := fun e => h (by rw [e])
    simp only [putV]
    rw [Array.getD_eq_getD_getElem?, Array.getElem?_setIfInBounds_ne this, ← Array.getD_eq_getD_getElem?]
theorem putV_same {tr : Array Value} {t : Nat} {u : Value} (h : t < tr.size) : (putV tr (some t) u).getD t undef = u := by
  simp only [putV]
  rw [Array.getD_eq_getD_getElem?, Array.getElem?_setIfInBounds_self_of_lt h]
  rfl
theorem putV_size {tr : Array Value} {d : Option Tmp} {u : Value} : (putV tr d u).size = tr.size := by
  cases d with
  | none => rfl
  | some d => simp [putV]
theorem dev_start (hrn : RunOK P K w0 rn) (hR : RegOK P rn nt ops T0 R Q C) (hs : Swap P rn T0 R Q C a f ra rf H0 n0 la lf va vf df) {L : Nat → Prop} {e : Env} {w : World} {tr : Array Value} (h : PInv K w0 nt ops T0 R Q C L 0 e w tr) {o : Oper} (ho : ops[f]? = some o) (hni : ¬ L f)
    (hed : ∀ ed ∈ o.after.toList, Region.binds .any ed = true → L ed.on) (fn : FuncId) (rest : List Nat) (k : List Item) (ds : List Deferred) (kd : CallKind) (rof : Option Nat) (cs : List Frame) :
    ∃ w' tr', Dev K w0 nt ops T0 R Q C a f H0 n0 lf vf df (fun j => L j ∨ j = f) e w' tr' ∧
      Steps P (lone (fr0 fn tr (.inRegion ops (f :: rest) :: k) ds kd rof) cs w) (lone (fr0 fn tr' (.inRegion ops rest :: k) ds kd rof) cs w') := by
  have hoL : ops.toList[f]? = some o := by simpa using ho
  obtain ⟨hT, hw⟩ := h.need hR ho hni hed hs.iF
  have hrec := hR.recs f rf hs.iF
  have hro : rf.o = o := by
    have := hrec.op
    rw [ho] at this
    simpa using this.symm
  obtain ⟨hwd, _⟩ : rf.wanted = true ∧ True := by
    refine ⟨?_, trivial⟩
    cases hc : rf.chain with
    | true => exact (hrec.eff hc).1
    | false =>
      exfalso
      have := List.mem_of_getElem? hs.c1
      rw [hR.chainR, List.mem_map] at this
      obtain ⟨r', hr', hi'⟩ := this
      rw [List.mem_filter] at hr'
      obtain ⟨k', hk'⟩ := List.mem_iff_getElem?.1 hr'.1
      have := (hR.recs k' r' hk').idx
      rw [hi'] at this
      subst this
      rw [hs.iF] at hk'
      cases hk'
      rw [hc] at hr'
      simp at hr'
  rw [hwd] at hw
  obtain ⟨H, n, hQ, hS⟩ := h.st
  rw [hs.q0] at hQ
  simp only [Option.some.injEq, Prod.mk.injEq] at hQ
  obtain ⟨rfl, rfl⟩ := hQ
  have hef := hs.ef
  rw [hro] at hef
  obtain ⟨eB, w', u, hle, hSB, hu, hst⟩ := eff_steps (P := P) hrn (fn := fn) (rest := rest) (k := k) (ds := ds) (kd := kd) (rof := rof) (cs := cs) hS hT ho hw hef
  have hn0 := hS.fresh n0 (Nat.le_refl _)
  have hS' : St K w0 e H0 n0 w' := hS.down hle hSB fun id vo hid => by
    obtain ⟨x, hx, _⟩ := hS.rel id vo hid
    have : id ≠ n0 := fun e' => by rw [e', hn0] at hx; cases hx
    rw [Tr.at_set_other _ _ this]
    exact hid
  have hdf : o.dst = some df := hro ▸ hs.oF
  have hlt := hR.small f o df hoL hdf
  rw [hdf] at hst
  have hfe : ∀ j, ((L j ∨ j = f) ∧ j ≠ f) ↔ L j := fun j => ⟨fun h => h.1.resolve_right h.2, fun h => ⟨.inl h, fun e' => hni (e' ▸ h)⟩⟩
  refine ⟨w', _, ⟨⟨⟨H0, n0, hs.q0, hS'⟩, by rw [putV_size]; exact h.size, fun t sv hg => ?_, fun j c hj => (hfe c).trans (h.chain j c hj), fun i oi hi hoi ed he hb => (hfe _).2 (h.closed i oi ((hfe i).1 hi) hoi ed he hb)⟩, .inr rfl, fun hc => ?_, fun i oi hi hoi ed he hb => ?_, ⟨eB, u, hle, hSB, hu, putV_same (by rw [h.size]; exact hlt)⟩⟩, hst⟩
  · have hg' : Good T0 R L t sv := by
      rcases hg with ⟨k', r', hk', g⟩ | ⟨g1, g2⟩
      · exact .inl ⟨k', r', (hfe k').1 hk', g⟩
      · exact .inr ⟨fun k' r' hL => g1 k' r' ((hfe k').2 hL), g2⟩
    obtain ⟨v, hv, hgv⟩ := h.good t sv hg'
    refine ⟨v, hv, ?_⟩
    rw [putV_other]
    · exact hgv
    · intro e'
      cases e'
      rcases hg' with ⟨k', r', hk', h2, h3, _⟩ | ⟨_, g2⟩
      · have hop := (hR.recs k' r' h2).op
        have := hR.dist k' f r'.o o df (by simpa using hop) hoL h3 hdf
        exact hni (this ▸ hk')
      · rw [hs.t0] at g2; cases g2
  · have hne : a ≠ f := by
      intro e'
      have q1 := hs.c0
      have q2 := hs.c1
      rw [e'] at q1
      have := PInv.step.chain_inj hR q1 q2
      omega
    have hLa : L a := hc.resolve_right hne
    have := (h.chain 0 a hs.c0).1 hLa
    omega
  · rcases hi with hi | rfl
    · exact .inl (h.closed i oi hi hoi ed he hb)
    · rw [hoL] at hoi
      cases hoi
      exact .inl (hed ed he hb)
theorem dev_end (hrn : RunOK P K w0 rn) (hR : RegOK P rn nt ops T0 R Q C) (hs : Swap P rn T0 R Q C a f ra rf H0 n0 la lf va vf df) {L : Nat → Prop} {e : Env} {w : World} {tr : Array Value} (h : Dev K w0 nt ops T0 R Q C a f H0 n0 lf vf df L e w tr) {o : Oper} (ho : ops[a]? = some o)
    (hed : ∀ ed ∈ o.after.toList, Region.binds .any ed = true → L ed.on ∧ ed.on ≠ f) (fn : FuncId) (rest : List Nat) (k : List Item) (ds : List Deferred) (kd : CallKind) (rof : Option Nat) (cs : List Frame) :
    ∃ e' w' tr', e.le e' ∧ PInv K w0 nt ops T0 R Q C (fun j => L j ∨ j = a) 2 e' w' tr' ∧
      Steps P (lone (fr0 fn tr (.inRegion ops (a :: rest) :: k) ds kd rof) cs w) (lone (fr0 fn tr' (.inRegion ops rest :: k) ds kd rof) cs w') := by
  have hoL : ops.toList[a]? = some o := by simpa using ho
  obtain ⟨hT, hw⟩ := h.inv.need hR ho (fun hc => h.ha hc.1) hed hs.iA
  have hrec := hR.recs a ra hs.iA
  have hro : ra.o = o := by
    have := hrec.op
    rw [ho] at this
    simpa using this.symm
  have hwd : ra.wanted = true := by
    cases hc : ra.chain with
    | true => exact (hrec.eff hc).1
    | false =>
      exfalso
      have := List.mem_of_getElem? hs.c0
      rw [hR.chainR, List.mem_map] at this
      obtain ⟨r', hr', hi'⟩ := this
      rw [List.mem_filter] at hr'
      obtain ⟨k', hk'⟩ := List.mem_iff_getElem?.1 hr'.1
      have := (hR.recs k' r' hk').idx
      rw [hi'] at this
      subst this
      rw [hs.iA] at hk'
      cases hk'
      rw [hc] at hr'
      simp at hr'
  rw [hwd] at hw
  obtain ⟨H, n, hQ, hS⟩ := h.inv.st
  rw [hs.q0] at hQ
  simp only [Option.some.injEq, Prod.mk.injEq] at hQ
  obtain ⟨rfl, rfl⟩ := hQ
  obtain ⟨eB, uf, hleB, hSB, huf, htf⟩ := h.ex
  have hea := hs.ea
  rw [hro] at hea
  obtain ⟨e2, w', u, hle2, hS2, hu, hst⟩ := eff_steps (P := P) hrn (fn := fn) (rest := rest) (k := k) (ds := ds) (kd := kd) (rof := rof) (cs := cs) hSB (hT.mono hleB) ho hw hea
  have hn0 := hS.fresh n0 (Nat.le_refl _)
  have hn1 := hS.fresh (n0 + 1) (by omega)
  have hS' : St K w0 e H0 n0 w' := hS.down (Env.le_trans hleB hle2) hS2 fun id vo hid => by
    obtain ⟨x, hx, _⟩ := hS.rel id vo hid
    have h1 : id ≠ n0 := fun e' => by rw [e', hn0] at hx; cases hx
    have h2 : id ≠ n0 + 1 := fun e' => by rw [e', hn1] at hx; cases hx
    rw [Tr.at_set_other _ _ h2, Tr.at_set_other _ _ h1]
    exact hid
  obtain ⟨hle', hSF⟩ := swap_St hS' (Env.le_trans hleB hle2) hS2 hs.na hs.nf
  have hne : a ≠ f := fun e' => h.ha (e' ▸ h.hf)
  refine ⟨_, w', _, hle', ⟨⟨_, _, hs.q2, hSF⟩, by rw [putV_size]; exact h.inv.size, fun t sv hg => ?_, fun j c hj => ?_, fun i oi hi hoi ed he hb => ?_⟩, hst⟩
  · -- the slots
    have main : ∀ (hd : o.dst ≠ some t), t ≠ df → ∃ v, sv.conc (pull e2 (swp n0)) = some v ∧ (putV tr o.dst u).getD t undef = v := fun hd htd => by
      have hg' : Good T0 R (fun j => L j ∧ j ≠ f) t sv := by
        rcases hg with ⟨k', r', hk', h2, h3, h4⟩ | ⟨g1, g2⟩
        · have hop := (hR.recs k' r' h2).op
          refine .inl ⟨k', r', ⟨hk'.resolve_right fun e' => ?_, fun e' => ?_⟩, h2, h3, h4⟩
          · subst e'
            rw [hs.iA] at h2
            cases h2
            exact hd (hro ▸ h3)
          · subst e'
            rw [hs.iF] at h2
            cases h2
            rw [hs.oF] at h3
            exact htd (Option.some.inj h3).symm
        · exact .inr ⟨fun k' r' hL => g1 k' r' (.inl hL.1), g2⟩
      obtain ⟨v, hv, hgv⟩ := h.inv.good t sv hg'
      exact ⟨v, SV.conc_mono hle' _ _ hv, by rw [putV_other hd]; exact hgv⟩
    by_cases hd : o.dst = some t
    · have hval : sv = ra.val := by
        rcases hg with ⟨k', r', hk', h2, h3, h4⟩ | ⟨h1, _⟩
        · have hop := (hR.recs k' r' h2).op
          have := hR.dist k' a r'.o o t (by simpa using hop) hoL h3 hd
          subst this
          rw [hs.iA] at h2
          cases h2
          exact h4.symm
        · exact absurd (by rw [hro]; exact hd) (h1 a ra (.inr rfl) hs.iA)
      rw [hval, hs.xa]
      refine ⟨u, ?_, ?_⟩
      · rw [← conc_ren]
        show (SV.slu (swp n0 n0) 0 la).conc e2 = some u
        rw [swp_0]
        exact hu
      · rw [hd]
        exact putV_same (by rw [h.inv.size]; exact hR.small a o t hoL hd)
    · by_cases htd : t = df
      · subst htd
        have hof := (hR.recs f rf hs.iF).op
        have hval : sv = rf.val := by
          rcases hg with ⟨k', r', hk', h2, h3, h4⟩ | ⟨h1, _⟩
          · have hop := (hR.recs k' r' h2).op
            have := hR.dist k' f r'.o rf.o t (by simpa using hop) (by simpa using hof) h3 hs.oF
            subst this
            rw [hs.iF] at h2
            cases h2
            exact h4.symm
          · exact absurd hs.oF (h1 f rf (.inl h.hf) hs.iF)
        rw [hval, hs.xf]
        refine ⟨uf, ?_, by rw [putV_other hd]; exact htf⟩
        rw [← conc_ren]
        show (SV.slu (swp n0 (n0 + 1)) 0 lf).conc e2 = some uf
        rw [swp_1]
        exact SV.conc_mono hle2 _ _ huf
      · exact main hd htd
  · constructor
    · rintro (hL | rfl)
      · by_cases e' : c = f
        · subst e'
          have := PInv.step.chain_inj hR hj hs.c1
          omega
        · have := (h.inv.chain j c hj).1 ⟨hL, e'⟩
          omega
      · have := PInv.step.chain_inj hR hj hs.c0
        omega
    · intro hlt
      have : j = 0 ∨ j = 1 := by omega
      rcases this with rfl | rfl
      · rw [hs.c0] at hj
        exact .inr (Option.some.inj hj).symm
      · rw [hs.c1] at hj
        exact .inl (Option.some.inj hj ▸ h.hf)
  · rcases hi with hi | rfl
    · exact .inl (h.closed i oi hi hoi ed he hb)
    · rw [hoL] at hoi
      cases hoi
      exact .inl (hed ed he hb).1
theorem pi_steps (hrn : RunOK P K w0 rn) (hR : RegOK P rn nt ops T0 R Q C) (hs : Swap P rn T0 R Q C a f ra rf H0 n0 la lf va vf df) (hch : ∀ (j c d : Nat), C[j]? = some c → C[j + 1]? = some d → d ≠ f → ((ancGo [] ops.toList).getD d 0).testBit c = true)
    (hfr : freeOf (ancGo [] ops.toList) a f ops.toList 0 = true) (fn : FuncId) (k : List Item) (ds : List Deferred) (kd : CallKind) (rof : Option Nat) (cs : List Frame) : ∀ (fuel t : Nat) (listed : Array Bool) (s : Nat) (e : Env) (w : World) (tr : Array Value),
    listed.size = ops.size → unlisted listed ≤ fuel → (PInv K w0 nt ops T0 R Q C (Listed listed) s e w tr ∨ Dev K w0 nt ops T0 R Q C a f H0 n0 lf vf df (Listed listed) e w tr) →
    ∃ e' w' tr' s' listed', e.le e' ∧ listed'.size = ops.size ∧ (∀ j, j < ops.size → Listed listed' j) ∧ PInv K w0 nt ops T0 R Q C (Listed listed') s' e' w' tr' ∧
      Steps P (lone (fr0 fn tr (.inRegion ops (Region.linearise.go .any ops fuel t listed []) :: k) ds kd rof) cs w) (lone (fr0 fn tr' (.inRegion ops [] :: k) ds kd rof) cs w') := by
  have haS : a < ops.size := (Array.getElem?_eq_some_iff.1 (hR.recs a ra hs.iA).op).1
  have hne : a ≠ f := by
    intro e'
    have q1 := hs.c0
    have q2 := hs.c1
    rw [e'] at q1
    have := PInv.step.chain_inj hR q1 q2
    omega
  have allOf : ∀ (listed : Array Bool), listed.size = ops.size → (∀ j, j ∉ Region.ready .any ops listed) → ∀ j, j < ops.size → Listed listed j := by
    intro listed hsz hno j hj
    apply Classical.byContradiction
    intro hn
    obtain ⟨i, hi⟩ := ready_of hsz hR.edges hj hn
    exact hno i hi
  have fin : ∀ {listed : Array Bool} {s : Nat} {e : Env} {w : World} {tr : Array Value}, (∀ j, j < ops.size → Listed listed j) → (PInv K w0 nt ops T0 R Q C (Listed listed) s e w tr ∨ Dev K w0 nt ops T0 R Q C a f H0 n0 lf vf df (Listed listed) e w tr) → PInv K w0 nt ops T0 R Q C (Listed listed) s e w tr := fun hall hI => by
    rcases hI with hI | hI
    · exact hI
    · exact absurd (hall a haS) hI.ha
  intro fuel
  induction fuel with
  | zero =>
    intro t listed s e w tr hsz hun hI
    have hall : ∀ j, j < ops.size → Listed listed j := fun j hj => by
      unfold Listed
      have hlt : j < listed.size := by omega
      rw [Array.getElem?_eq_getElem hlt]
      cases hb : listed[j] with
      | true => rfl
      | false =>
        exfalso
        have : 0 < listed.toList.count false := List.count_pos_iff.2 (by rw [← hb]; simp)
        unfold unlisted at hun
        omega
    exact ⟨e, w, tr, s, listed, Env.le_refl e, hsz, hall, fin hall hI, by simp only [Region.linearise.go, List.reverse_nil]; exact .refl P _⟩
  | succ fuel ih =>
    intro t listed s e w tr hsz hun hI
    simp only [Region.linearise.go]
    change ∃ e' w' tr' s' listed', _ ∧ _ ∧ _ ∧ _ ∧ Steps P (lone (fr0 fn tr (.inRegion ops (match (Region.ready .any ops listed)[t % (Region.ready .any ops listed).length]? with
      | some i => Region.linearise.go .any ops fuel (t / (Region.ready .any ops listed).length) (listed.setIfInBounds i true) [i]
      | none => [].reverse) :: k) ds kd rof) cs w) _
    cases hpick : (Region.ready .any ops listed)[t % (Region.ready .any ops listed).length]? with
    | none =>
      have hnil : Region.ready .any ops listed = [] := by
        cases hx : Region.ready .any ops listed with
        | nil => rfl
        | cons x xs =>
          rw [hx] at hpick
          have hlt : t % (x :: xs).length < (x :: xs).length := Nat.mod_lt _ (by simp)
          rw [List.getElem?_eq_getElem hlt] at hpick
          cases hpick
      have hall := allOf listed hsz (by rw [hnil]; simp)
      exact ⟨e, w, tr, s, listed, Env.le_refl e, hsz, hall, fin hall hI, .refl P _⟩
    | some i =>
      simp only
      have hmem := List.mem_of_getElem? hpick
      obtain ⟨o, ho, hni, hed⟩ := ready_mem hsz hmem
      rw [linearise_go_acc, List.reverse_singleton, List.singleton_append]
      have hoL : ops.toList[i]? = some o := by simpa using ho
      have hLeq : ∀ j, Listed (listed.setIfInBounds i true) j ↔ (Listed listed j ∨ j = i) := by
        intro j
        unfold Listed
        by_cases hji : j = i
        · subst hji
          rw [Array.getElem?_setIfInBounds_self_of_lt (by have := (Array.getElem?_eq_some_iff.1 ho).1; omega)]
          simp
        · rw [Array.getElem?_setIfInBounds_ne (Ne.symm hji)]
          simp [hji]
      have hL2 : Listed (listed.setIfInBounds i true) = fun j => Listed listed j ∨ j = i := funext fun j => propext (hLeq j)
      -- one step, whichever
      have one : ∃ e1 w1 tr1 s1, e.le e1 ∧ (PInv K w0 nt ops T0 R Q C (fun j => Listed listed j ∨ j = i) s1 e1 w1 tr1 ∨ Dev K w0 nt ops T0 R Q C a f H0 n0 lf vf df (fun j => Listed listed j ∨ j = i) e1 w1 tr1) ∧
          Steps P (lone (fr0 fn tr (.inRegion ops (i :: Region.linearise.go .any ops fuel (t / (Region.ready .any ops listed).length) (listed.setIfInBounds i true) []) :: k) ds kd rof) cs w)
            (lone (fr0 fn tr1 (.inRegion ops (Region.linearise.go .any ops fuel (t / (Region.ready .any ops listed).length) (listed.setIfInBounds i true) []) :: k) ds kd rof) cs w1) := by
        rcases hI with hI | hI
        · have hanc := anc_listed (Listed listed) hR.edges (fun i o hi ho' => hI.closed i o hi ho') i o hoL hed
          by_cases hif : i = f ∧ s = 0
          · obtain ⟨rfl, rfl⟩ := hif
            obtain ⟨w1, tr1, hD, hst⟩ := dev_start hrn hR hs hI ho hni hed fn _ k ds kd rof cs
            exact ⟨e, w1, tr1, 0, Env.le_refl e, .inr hD, hst⟩
          · obtain ⟨e1, w1, tr1, s1, hle, hP, hst, _⟩ := hI.step hrn hR ho hni hed fn (Region.linearise.go .any ops fuel (t / (Region.ready .any ops listed).length) (listed.setIfInBounds i true) []) k ds kd rof cs (fun j c hj1 hj => by
              by_cases hf : i = f
              · have hs0 : s ≠ 0 := fun h0 => hif ⟨hf, h0⟩
                rw [hf] at hj1
                have := PInv.step.chain_inj hR hj1 hs.c1
                have : j = 0 := by omega
                subst this
                exact (hI.chain 0 c hj).2 (by omega)
              · exact (hanc c (hch j c i hj hj1 hf)).1)
            exact ⟨e1, w1, tr1, s1, hle, .inl hP, hst⟩
        · have hanc := anc_listed (Listed listed) hR.edges (fun i o hi ho' => hI.closed i o hi ho') i o hoL hed
          have hnf : ∀ ed ∈ o.after.toList, Region.binds .any ed = true → ed.on ≠ f := fun ed he hb e' => by
            have := freeOf_ok hfr i o hoL ed he hb e'
            rw [Nat.zero_add] at this
            exact hI.ha (hanc a this).1
          have hif : i ≠ f := fun e' => hni (e' ▸ hI.hf)
          by_cases hia : i = a
          · subst hia
            obtain ⟨e1, w1, tr1, hle, hP, hst⟩ := dev_end hrn hR hs hI ho (fun ed he hb => ⟨hed ed he hb, hnf ed he hb⟩) fn (Region.linearise.go .any ops fuel (t / (Region.ready .any ops listed).length) (listed.setIfInBounds i true) []) k ds kd rof cs
            exact ⟨e1, w1, tr1, 2, hle, .inl hP, hst⟩
          · have hed0 : ∀ ed ∈ o.after.toList, Region.binds .any ed = true → Listed listed ed.on ∧ ed.on ≠ f := fun ed he hb => ⟨hed ed he hb, hnf ed he hb⟩
            have hanc0 := anc_listed (fun j => Listed listed j ∧ j ≠ f) hR.edges (fun i o hi ho' => hI.inv.closed i o hi ho') i o hoL hed0
            have hnc : ∀ (j c : Nat), C[j + 1]? = some i → C[j]? = some c → False := fun j c hj1 hj => by
              have := (hI.inv.chain j c hj).1 (hanc0 c (hch j c i hj hj1 hif)).1
              omega
            obtain ⟨e1, w1, tr1, s1, hle, hP, hst, ⟨u, htr⟩, hsame⟩ := hI.inv.step hrn hR ho (fun hc => hni hc.1) hed0 fn (Region.linearise.go .any ops fuel (t / (Region.ready .any ops listed).length) (listed.setIfInBounds i true) []) k ds kd rof cs (fun j c hj1 hj => (hnc j c hj1 hj).elim)
            have hquiet : ∀ r, R[i]? = some r → r.chain = false := fun r hr => by
              cases hc : r.chain with
              | false => rfl
              | true =>
                exfalso
                obtain ⟨_, hC, _⟩ := (hR.recs i r hr).eff hc
                rcases Nat.eq_zero_or_pos r.stg with h0 | hp
                · rw [h0, hs.c0] at hC
                  exact hia (Option.some.inj hC).symm
                · have hlt : r.stg - 1 < C.length := by
                    have := (List.getElem?_eq_some_iff.1 hC).1
                    omega
                  exact hnc (r.stg - 1) C[r.stg - 1] (by rw [show r.stg - 1 + 1 = r.stg by omega]; exact hC) (List.getElem?_eq_getElem hlt)
            obtain ⟨rfl, rfl, rfl⟩ := hsame hquiet
            obtain ⟨eB, uf, g1, g2, g3, g4⟩ := hI.ex
            have hof := (hR.recs f rf hs.iF).op
            have hdst : o.dst ≠ some df := fun e' => hif (hR.dist i f o rf.o df hoL (by simpa using hof) e' hs.oF)
            refine ⟨_, _, tr1, 0, Env.le_refl _, .inr ⟨?_, .inl hI.hf, fun hc => hc.elim hI.ha fun e' => hia e'.symm, fun i' oi hi hoi ed he hb => ?_, ⟨eB, uf, g1, g2, g3, by rw [htr, putV_other hdst]; exact g4⟩⟩, hst⟩
            · have : (fun j => (Listed listed j ∨ j = i) ∧ j ≠ f) = fun j => (Listed listed j ∧ j ≠ f) ∨ j = i := by
                funext j
                apply propext
                constructor
                · rintro ⟨h1 | h1, h2⟩
                  · exact .inl ⟨h1, h2⟩
                  · exact .inr h1
                · rintro (⟨h1, h2⟩ | h1)
                  · exact ⟨.inl h1, h2⟩
                  · exact ⟨.inr h1, fun e' => hif (h1 ▸ e')⟩
              rw [this]
              exact hP
            · rcases hi with hi | rfl
              · exact .inl (hI.closed i' oi hi hoi ed he hb)
              · rw [hoL] at hoi
                cases hoi
                exact .inl (hed ed he hb)
      obtain ⟨e1, w1, tr1, s1, hle1, hI1, hst1⟩ := one
      have hilt : i < ops.size := (Array.getElem?_eq_some_iff.1 ho).1
      have hfalse : listed.toList[i]? = some false := by
        have hlt : i < listed.size := by omega
        unfold Listed at hni
        rw [Array.getElem?_eq_getElem hlt] at hni
        rw [Array.getElem?_toList, Array.getElem?_eq_getElem hlt]
        simpa using hni
      have hcnt : unlisted (listed.setIfInBounds i true) + 1 = unlisted listed := by
        unfold unlisted
        rw [Array.toList_setIfInBounds]
        exact count_set _ _ hfalse
      rw [← hL2] at hI1
      obtain ⟨e2, w2, tr2, s2, l2, hle2, hs2, ha2, hI3, hst2⟩ := ih _ _ s1 e1 w1 tr1 (by simpa using hsz) (by omega) hI1
      exact ⟨e2, w2, tr2, s2, l2, Env.le_trans hle1 hle2, hs2, ha2, hI3, hst1.trans hst2⟩
end
end Np
end Go.Sy
end
section
namespace Go.Sy
open Go Go.Sl Go.RowKit
theorem St.retell {K : Zone} {w0 w : World} {e : Env} {H : Heap} {nx t : Nat} {vo vo' : VO} (hS : St K w0 e H nx w) (hb : H.at' t = some vo) (hro : vo'.ro = vo.ro) (hl : ∀ x, e t = some x → Lies K w e vo x → Lies K w e vo' x) : St K w0 e (H.set t vo') nx w := by
  have back : ∀ {id : Nat} {v : VO}, (H.set t vo').at' id = some v → ∃ v0, H.at' id = some v0 ∧ v.ro = v0.ro := fun {id v} hid => by
    rcases Tr.at_set hid with ⟨rfl, rfl⟩ | ⟨_, h⟩
    · exact ⟨vo, hb, hro⟩
    · exact ⟨v, h, rfl⟩
  refine ⟨hS.below, fun id v hid => ?_, fun i j v v' x x' hi hj hx hx' hne h0 h0' hr hr' => ?_, hS.fresh⟩
  · rcases Tr.at_set hid with ⟨rfl, rfl⟩ | ⟨_, h⟩
    · obtain ⟨x, hx, hlx⟩ := hS.rel _ _ hb
      exact ⟨x, hx, hl x hx hlx⟩
    · exact hS.rel _ _ h
  · obtain ⟨v0, g1, g2⟩ := back hi
    obtain ⟨v1, g3, g4⟩ := back hj
    exact hS.inj i j v0 v1 x x' g1 g3 hx hx' hne h0 h0' (g2 ▸ hr) (g4 ▸ hr')
theorem y_fixcapIn {P : Program} {ro : Option Nat} {fn nt : Nat} {T : Tr SV} {k : List AIt} {dfs : List ADf} {H : Heap} {nx : Nat} {Q : Pst} {t r eo n ne sz : Nat} {tt rt : TypeId} {rr : Bool} {c : Tr SV} (pre post : List SV) (hb : H.at' t = some (newCells tt (pre ++ .slu r eo n :: post))) (hr : H.at' r = some (.row rr ne sz rt c)) (h0 : 0 < ne) (hn : eo + n ≤ ne)
    (h : ∀ C, n ≤ C → Wp P ro ⟨fn, nt, T, k, dfs, H.set t (newCells tt (pre ++ .sl r (eo * sz) n C :: post)), nx⟩ Q) : Wp P ro ⟨fn, nt, T, k, dfs, H, nx⟩ Q := by
  refine ⟨fun K w0 e w tmps todo ds kd rof cs hS hTr htd hds hc2 => ?_⟩
  obtain ⟨z, hz, hlz⟩ := hS.rel _ _ hr
  obtain ⟨g1, g2, g3, g4⟩ := Lies.row hlz
  have hnil := g3 h0
  have hcc : (SV.sl r (eo * sz) n (z.cap - eo)).conc e = (SV.slu r eo n).conc e := by
    simp [SV.conc, hz, Ent.at, hnil, g1]
  refine (h (z.cap - eo) (by omega)).run K w0 e w tmps todo ds kd rof cs (hS.retell hb rfl fun x hx hlx => ?_) hTr htd hds hc2
  rcases hlx with ⟨q0, o, q1, q2, q3⟩ | ⟨_, _, ro', sz', c', hq, _⟩
  · refine .inl ⟨q0, o, q1, q2, ?_⟩
    obtain ⟨f0, cs, fz, f1, f2, f3, f4⟩ := q3
    refine ⟨f0, cs, fz, f1, by rw [f2]; simp, by simpa using f3, fun i hi s hs => ?_⟩
    have hi' : i < (pre ++ SV.slu r eo n :: post).length := by simpa using hi
    have hs' : (pre ++ SV.sl r (eo * sz) n (z.cap - eo) :: post)[i]? = some s := hs
    rcases Nat.lt_trichotomy i pre.length with hlt | rfl | hgt
    · refine f4 i hi' s ?_
      show (pre ++ SV.slu r eo n :: post)[i]? = some s
      rw [List.getElem?_append_left hlt] at hs' ⊢
      exact hs'
    · rw [List.getElem?_append_right (Nat.le_refl _), Nat.sub_self, List.getElem?_cons_zero, Option.some.injEq] at hs'
      subst hs'
      obtain ⟨v, hv, hg⟩ := f4 pre.length hi' (.slu r eo n) (by
        show (pre ++ SV.slu r eo n :: post)[pre.length]? = some (SV.slu r eo n)
        rw [List.getElem?_append_right (Nat.le_refl _), Nat.sub_self, List.getElem?_cons_zero])
      exact ⟨v, by rw [hcc]; exact hv, hg⟩
    · refine f4 i hi' s ?_
      show (pre ++ SV.slu r eo n :: post)[i]? = some s
      obtain ⟨j, hj⟩ : ∃ j, i - pre.length = j + 1 := ⟨i - pre.length - 1, by omega⟩
      rw [List.getElem?_append_right (by omega), hj, List.getElem?_cons_succ] at hs' ⊢
      exact hs'
  · cases hq
theorem bd_n {T : Tr SV} {dflt n : Nat} {o : Operand} {k : IntKind} {j : Int} (h : evalS T o = some (.sc (.int k j))) (hj : j = (n : Int)) : BdIs T dflt (some o) n := by
  subst hj
  exact bd_some h (by omega)
theorem op_appR {P : Program} {T : Tr SV} {H : Heap} {nx : Nat} {d : Option Tmp} {ty : TypeId} {pos : String} {af : Array Edge} {gd : Option (Nat × Bool)} {t tx el : TypeId} {sz m b r n : Nat} {s x : Operand} {v : SV} {ws cs : List SV} (hu : P.underlying t = some (.slice el)) (hk : (∃ e', P.underlying tx = some (.slice e')) ∨ P.underlying tx = some .string) (hs : sizeT P el = some sz) (h0 : 0 < sz)
    (hz : zeroIs P el sz = true) (hb : (P.info? el).map (·.bytes) = some b) (hx0 : evalS T s = some (.slu r 0 n)) (hx : evalS T x = some v) (hro : H.at' r = some (rowS false n sz el ws)) (hl : ws.length = n * sz) (hr : sliceCells H sz v = some (m, cs)) (h1 : allOne cs = true)
    (hm : 0 < m) (hm1 : (n + m) * b ≤ 140737488355328) (hm2 : n + m ≤ 1000000000) :
    OpDoes P T H nx ⟨d, .call { callee := .builtin .append, args := #[s, x], argTypes := #[t, tx] }, ty, pos, af, gd⟩ (.val (.slu nx 0 (n + m)), (H.del r).set nx (rowS false (n + m) sz el (ws ++ cs)), nx + 1) :=
  op_appS (eo := 0) hu hk hs h0 hz hb hx0 hx (by rw [Nat.zero_add]; exact hro) ((SlOf.row hro hl).cells) hr h1 hm hm1 hm2
def FlOkD (P : Program) (ancs chain : List Nat) (Q : List (Heap × Nat)) : List Rec → Prop
  | [] => True
  | r :: l => ((r.chain || !r.wanted || (Nat.beq (lowOf (ancs.getD r.i 0) chain) r.stg && Nat.beq (highOf ancs r.i chain) r.stg)) = true ∨ ∃ d, Nat.ble (highOf ancs r.i chain + (d + 1)) Q.length = true ∧ (AllH (Q.drop d) (fun H => ReadDoes P r.T H r.o r.val) ∨ AllHQ (Q.drop d) (fun H n => DrawEff P (wpr P) r.T H n r.o (r.val, H, n)))) ∧ FlOkD P ancs chain Q l
theorem FlOkD.ok {P : Program} {ancs chain : List Nat} {Q : List (Heap × Nat)} : ∀ {l : List Rec}, FlOkD P ancs chain Q l → ∀ r ∈ l, r.chain = false → r.wanted = true → ∀ st, lowOf (ancs.getD r.i 0) chain ≤ st → st ≤ highOf ancs r.i chain → st ≠ r.stg → ∀ H n, Q.reverse[st]? = some (H, n) → Nq.ReadQ P (wpr P) r.T H n r.o r.val
  | [], _, r, hm, _, _, _, _, _, _, _, _, _ => by cases hm
  | r0 :: l, hh, r, hm, hc, hw, st, h1, h2, h3, H, n, hq => by
    rcases List.mem_cons.1 hm with rfl | hm
    · rcases hh.1 with h | ⟨d, hd, h⟩
      · rw [hc, hw] at h
        simp only [Bool.not_true, Bool.or_false, Bool.false_or, Bool.and_eq_true] at h
        have q1 := eq_of_beq h.1
        have q2 := eq_of_beq h.2
        omega
      · have hlt := (List.getElem?_eq_some_iff.1 hq).1
        rw [List.length_reverse] at hlt
        have hd' := Nat.le_of_ble_eq_true hd
        rw [List.getElem?_reverse hlt] at hq
        have hq' : (Q.drop d)[Q.length - 1 - st - d]? = some (H, n) := by
          rw [List.getElem?_drop, show d + (Q.length - 1 - st - d) = Q.length - 1 - st by omega]
          exact hq
        rcases h with h | h
        · exact .inl (h.get hq')
        · exact .inr (h.get hq')
    · exact FlOkD.ok hh.2 r hm hc hw st h1 h2 h3 H n hq
def FlOkE (P : Program) (ancs chain : List Nat) (Q : List (Heap × Nat)) : List Rec → Prop
  | [] => True
  | r :: l => ((r.chain || !r.wanted || (Nat.beq (lowOf (ancs.getD r.i 0) chain) r.stg && Nat.beq (highOf ancs r.i chain) r.stg)) = true ∨ ∃ d, Nat.ble (highOf ancs r.i chain + (d + 1)) Q.length = true ∧ AllH (Q.drop d) (fun H => ReadDoes P r.T H r.o r.val)) ∧ FlOkE P ancs chain Q l
theorem FlOkE.ok {P : Program} {ancs chain : List Nat} {Q : List (Heap × Nat)} : ∀ {l : List Rec}, FlOkE P ancs chain Q l → ∀ r ∈ l, r.chain = false → r.wanted = true → ∀ st, lowOf (ancs.getD r.i 0) chain ≤ st → st ≤ highOf ancs r.i chain → st ≠ r.stg → ∀ H n, Q.reverse[st]? = some (H, n) → ReadDoes P r.T H r.o r.val
  | [], _, r, hm, _, _, _, _, _, _, _, _, _ => by cases hm
  | r0 :: l, hh, r, hm, hc, hw, st, h1, h2, h3, H, n, hq => by
    rcases List.mem_cons.1 hm with rfl | hm
    · rcases hh.1 with h | ⟨d, hd, h⟩
      · rw [hc, hw] at h
        simp only [Bool.not_true, Bool.or_false, Bool.false_or, Bool.and_eq_true] at h
        have q1 := eq_of_beq h.1
        have q2 := eq_of_beq h.2
        omega
      · have hlt := (List.getElem?_eq_some_iff.1 hq).1
        rw [List.length_reverse] at hlt
        have hd' := Nat.le_of_ble_eq_true hd
        rw [List.getElem?_reverse hlt] at hq
        have hq' : (Q.drop d)[Q.length - 1 - st - d]? = some (H, n) := by
          rw [List.getElem?_drop, show d + (Q.length - 1 - st - d) = Q.length - 1 - st by omega]
          exact hq
        exact h.get hq'
    · exact FlOkE.ok hh.2 r hm hc hw st h1 h2 h3 H n hq
theorem AllH.all {p : Heap → Prop} (h : ∀ H, p H) : ∀ (Q : List (Heap × Nat)), AllH Q p
  | [] => trivial
  | q :: l => ⟨h q.1, AllH.all h l⟩
theorem chk_chain {r : Rec} {b : Bool} (h : r.chain = true) : (r.chain || !r.wanted || b) = true := by rw [h]; rfl
section
variable {P : Program} {ro : Option Nat} {fn nt nx : Nat} {T : Tr SV} {k : List AIt} {dfs : List ADf} {H : Heap} {Q : Pst}
theorem w_drawE {id : Nat} {ops : List Oper} (hm : P.follows .mixedOrders = true) (hr : regionOk nt ops = true)
    (h : DrawK P nt ops.toArray 0 ops ⟨T, H, nx, [], [(H, nx)], 0⟩ (fun s => chainOk (ancGo [] ops) (chainOf s) = true ∧ FlOkE P (ancGo [] ops) (chainOf s) s.Hs s.recs ∧ Wp P ro ⟨fn, nt, s.T, k, dfs, s.H, s.nx⟩ Q)) :
    Wp P ro ⟨fn, nt, T, .code (.region id ops.toArray true) :: k, dfs, H, nx⟩ Q := by
  obtain ⟨s, hs, h1, h2, h3⟩ := h.ex
  exact .step ⟨hm, s, ⟨hr, hs, h1, fun r hr => FlOkE.ok h2 r hr⟩, h3⟩
end
end Go.Sy
end
section
namespace Go.Sy
open Go Go.Sl Go.RowKit
section
variable {P : Program} {T : Tr SV} {H : Heap} {nx : Nat} {d : Option Tmp} {ty : TypeId} {pos : String} {af : Array Edge} {gd : Option (Nat × Bool)}
theorem equal_nilI {t : TypeId} {m : Array (String × TypeId)} (hu : P.underlying t = some (.interface m)) (w : World) : (Op.equal t .nilIface .nilIface).run P w = .ok true w := by
  have : ∀ n, (Op.equalIn (n + 1) t .nilIface .nilIface).run P w = .ok true w := fun n => by simp [Op.equalIn, run_underlying hu]
  exact this 9999
theorem rd_noNilI {t yt : TypeId} {m : Array (String × TypeId)} {x : Operand} (hx : evalS T x = some (.sc .nilIface)) (hu : P.underlying t = some (.interface m)) : ReadDoes P T H ⟨d, .binOp .neq t x (.const .nilIface) yt, ty, pos, af, gd⟩ (.sc (.bool false)) := by
  refine rd_pure fun ev w he => ?_
  have e1 := he x _ hx _ rfl
  have e2 := he (.const .nilIface) _ rfl _ rfl
  have hg : (eqGuard .neq t x (.const .nilIface) .nilIface .nilIface).run P w = .ok () w := by cases x <;> rfl
  have hq : (Op.equal t .nilIface .nilIface).run P w = .ok true w := equal_nilI hu w
  have hb : (binOp .neq t .nilIface .nilIface).run P w = .ok (.bool false) w := by
    simp only [binOp, Sem.run_bind, hq, Result.andThen_ok, Sem.run_pure, Bool.not_true]
  simp only [execOp, e1, e2, Sem.run_bind, hg, hb, Result.andThen_ok, Sem.run_pure]
theorem op_clearB {t el : TypeId} {b o n C : Nat} {bt : TypeId} {cs : List SV} {x : Operand} {z : Value} (hu : P.underlying t = some (.slice el)) (hz : zeroT P el = some z) (hx : evalS T x = some (.sl b o (n + 1) C)) (hb : H.at' b = some (newCells bt cs)) (zs : List SV) (hzs : zerosL z (n + 1) = zs) (h1 : allOne zs = true) (ho : o + zs.length ≤ cs.length) :
    OpDoes P T H nx ⟨d, .call { callee := .builtin .clear, args := #[x], argTypes := #[t] }, ty, pos, af, gd⟩ (.val (.sc (.tuple #[])), H.set b (newCells bt (cs.take o ++ zs ++ cs.drop (o + zs.length))), nx) := by
  subst hzs
  have hst : (newCells bt cs).setCells o (zerosL z (n + 1)) = some (newCells bt (cs.take o ++ zerosL z (n + 1) ++ cs.drop (o + (zerosL z (n + 1)).length))) := setCells_box (t := bt) (zerosL z (n + 1)) cs o ho h1
  have hcp : clearS P H nx t (.sl b o (n + 1) C) = some (.val (.sc (.tuple #[])), H.set b (newCells bt (cs.take o ++ zerosL z (n + 1) ++ cs.drop (o + (zerosL z (n + 1)).length))), nx) := by
    simp only [clearS, hu, hz, storeS, hb, hst]
  refine ed_of ?_
  simp only [effOp, evalL, hx, Option.bind_some, builtinS, hcp]
theorem noFz_mark {fz : Nat × Nat} {n : Nat} (h : NoFz fz n) : NoFz (if (fz.1 == fz.2) = true then (n, n + 1) else (min fz.1 n, max fz.2 (n + 1))) n := by
  obtain ⟨h1, h2⟩ := h
  split
  · exact ⟨Nat.le_succ _, fun i hi => by simp; omega⟩
  · rename_i hne
    simp only [beq_iff_eq] at hne
    have hn : n ≤ fz.1 := by
      rcases Nat.lt_or_ge fz.1 n with hlt | hge
      · have := h2 fz.1 hlt
        simp at this
        omega
      · exact hge
    refine ⟨by simp; omega, fun i hi => ?_⟩
    simp only [Bool.and_eq_false_iff, decide_eq_false_iff_not]
    left
    omega
theorem op_mark {s el rt : TypeId} {x : Operand} {b eo n ne : Nat} {c : Tr SV} (hu : P.underlying s = some (.slice el)) (he : P.underlying el = some (.int .u8)) (hx : evalS T x = some (.slu b eo n)) (hb : H.at' b = some (.row false ne 1 rt c)) (h0 : 0 < ne) :
    OpDoes P T H nx ⟨d, .convert s s x, ty, pos, af, gd⟩ (.val (.slu b eo n), H.set b (.row false ne 1 rt c), nx) := by
  intro K w0 e w ev hS hE
  obtain ⟨y, hy, hl⟩ := hS.rel _ _ hb
  obtain ⟨g1, g2, g3, g4⟩ := Lies.row hl
  have hnil := g3 h0
  rcases hl with ⟨q0, o, q1, q2, q3⟩ | ⟨q, _⟩
  · obtain ⟨f0, cs, fz, tt, rfl, f2, f3, f4, f5, f6, f7⟩ := q3
    obtain ⟨lo, hi⟩ := fz
    have hv : (SV.slu b eo n).conc e = some (.slice (some ⟨y.blk, y.base + eo * y.sz, none⟩) n (y.cap - eo)) := by simp [SV.conc, hy, Ent.at, hnil]
    have e1 := hE x _ hx
    rw [hv] at e1
    simp only [Option.some.injEq] at e1
    have hsh : w.shape? y.blk = some (tt, cs.size) := by
      unfold World.shape?
      rw [q2]
    have hfz : (w.freeze ⟨y.blk, cs.size, none⟩ 1).heap[y.blk]? = some (.cells cs tt (if (lo == hi) = true then (cs.size, cs.size + 1) else (min lo cs.size, max hi (cs.size + 1)))) := by
      unfold World.freeze
      rw [if_neg (by decide)]
      simp [Array.getElem?_modify, q2]
    have ht : Turned w (w.freeze ⟨y.blk, cs.size, none⟩ 1) y.blk := by
      unfold World.freeze
      rw [if_neg (by decide)]
      refine ⟨rfl, rfl, rfl, by simp, fun j _ hj => ?_⟩
      simp [Array.getElem?_modify, Ne.symm hj]
    have hrun : (Go.convert s s (.slice (some ⟨y.blk, y.base + eo * y.sz, none⟩) n (y.cap - eo))).run P w = .ok (.slice (some ⟨y.blk, y.base + eo * y.sz, none⟩) n (y.cap - eo)) (w.freeze ⟨y.blk, cs.size, none⟩ 1) := by
      simp [Go.convert, run_underlying hu, run_underlying he, markStringish, hsh]
    refine ⟨e, w.freeze ⟨y.blk, cs.size, none⟩ 1, Env.le_refl e, hS.upd hb hy hnil rfl rfl ht hfz ⟨f0, cs, _, tt, rfl, f2, f3, f4, fun _ => noFz_mark (fz := (lo, hi)) (f5 rfl), f6, f7⟩, _, hv, ?_⟩
    simp only [execOp, ← e1]
    simp [hrun]
  · rw [hnil] at q
    cases q
end
section
variable {P : Program} {ro : Option Nat} {fn nt nx i : Nat} {T : Tr SV} {k : List AIt} {dfs : List ADf} {H : Heap} {Q : Pst} {ops : Array Oper} {l : List Oper} {ty : TypeId} {pos : String} {af : Array Edge} {gd : Option (Nat × Bool)}
theorem w_defer {x : Operand} {as1 : List Operand} {ats : Array TypeId} {g : FuncId} {fa fb args : List SV} (hw : wantedS T ops ⟨none, .defer { callee := .value x, args := as1.toArray, argTypes := ats }, ty, pos, af, gd⟩ = some true) (hx : evalS T x = some (.fn (.func g) fa fb)) (ha : evalL T as1 = some args) (hm : mayEnter P g = true)
    (h : Wp P none ⟨fn, nt, T, .inReg ops (i + 1) l :: k, .call g (fa ++ args ++ fb) :: dfs, H, nx⟩ Q) : Wp P none ⟨fn, nt, T, .inReg ops i (⟨none, .defer { callee := .value x, args := as1.toArray, argTypes := ats }, ty, pos, af, gd⟩ :: l) :: k, dfs, H, nx⟩ Q := by
  refine .step (.inr ⟨hw, .inl rfl, OpDoes.any (out := (.dfr (.call g (fa ++ args ++ fb)), H, nx)) ?_ ⟨rfl, h⟩⟩)
  intro K w0 e w ev hS hE
  refine effOp_ok hS hE ?_
  unfold effOp
  simp only [callTarget, ha, hx, fnTarget, hm, cond_true]
theorem w_recover {dd : Nat} (hw : wantedS T ops ⟨some dd, .call { callee := .builtin .recover, args := #[], argTypes := #[] }, ty, pos, af, gd⟩ = some true) (hd : Nat.blt dd nt = true)
    (h : Wp P none ⟨fn, nt, T.set dd (.sc .nilIface), .inReg ops (i + 1) l :: k, dfs, H, nx⟩ Q) : Wp P none ⟨fn, nt, T, .inReg ops i (⟨some dd, .call { callee := .builtin .recover, args := #[], argTypes := #[] }, ty, pos, af, gd⟩ :: l) :: k, dfs, H, nx⟩ Q := by
  refine .step (.inr ⟨hw, .inl rfl, OpDoes.any (out := (.recover, H, nx)) ?_ ⟨rfl, ?_⟩⟩)
  · intro K w0 e w ev hS hE
    refine effOp_ok hS hE ?_
    unfold effOp
    simp only [evalL, Option.bind_some, builtinS]
  · rw [putS_some hd]
    exact h
theorem w_noNilI {t yt : TypeId} {m : Array (String × TypeId)} {x : Operand} {dd : Nat} (hw : wantedS T ops ⟨some dd, .binOp .neq t x (.const .nilIface) yt, ty, pos, af, gd⟩ = some true) (hd : Nat.blt dd nt = true) (hx : evalS T x = some (.sc .nilIface)) (hu : P.underlying t = some (.interface m))
    (h : Wp P ro ⟨fn, nt, T.set dd (.sc (.bool false)), .inReg ops (i + 1) l :: k, dfs, H, nx⟩ Q) : Wp P ro ⟨fn, nt, T, .inReg ops i (⟨some dd, .binOp .neq t x (.const .nilIface) yt, ty, pos, af, gd⟩ :: l) :: k, dfs, H, nx⟩ Q :=
  y_val hw (.inr (fun _ h => by cases h)) ((rd_noNilI hx hu).does) (by rw [putS_some hd]; exact h)
theorem w_invoke {x : Operand} {name : String} {as1 : List Operand} {ats : Array TypeId} {t : TypeId} {v : SV} {args : List SV} {dd : Nat} (g : FuncId) (hw : wantedS T ops ⟨some dd, .call { callee := .invoke x name, args := as1.toArray, argTypes := ats }, ty, pos, af, gd⟩ = some true) (hd : Nat.blt dd nt = true) (hx : evalS T x = some (.ifc t v)) (ha : evalL T as1 = some args) (hm : methodS P t name = some g)
    (h : Fnc P g (v :: args) H nx (fun r => Wp P ro ⟨fn, nt, T.set dd r.1, .inReg ops (i + 1) l :: k, dfs, r.2.1, r.2.2⟩ Q)) :
    Wp P ro ⟨fn, nt, T, .inReg ops i (⟨some dd, .call { callee := .invoke x name, args := as1.toArray, argTypes := ats }, ty, pos, af, gd⟩ :: l) :: k, dfs, H, nx⟩ Q := by
  refine y_call hw (args := v :: args) ?_ (by simp only [putS_some hd]; exact h)
  simp only [callTarget, ha, hx, hm]
theorem w_clearB {t el : TypeId} {b o n C : Nat} {bt : TypeId} {cs : List SV} {x : Operand} {z : Value} {dd : Option Nat} (zs : List SV) (hw : wantedS T ops ⟨dd, .call { callee := .builtin .clear, args := #[x], argTypes := #[t] }, ty, pos, af, gd⟩ = some true) (hx : evalS T x = some (.sl b o (n + 1) C)) (hu : P.underlying t = some (.slice el)) (hz : zeroT P el = some z) (hb : H.at' b = some (newCells bt cs)) (hzs : zerosL z (n + 1) = zs) (h1 : allOne zs = true) (ho : o + zs.length ≤ cs.length)
    (h : Wp P ro ⟨fn, nt, putS nt T dd (.sc (.tuple #[])), .inReg ops (i + 1) l :: k, dfs, H.set b (newCells bt (cs.take o ++ zs ++ cs.drop (o + zs.length))), nx⟩ Q) : Wp P ro ⟨fn, nt, T, .inReg ops i (⟨dd, .call { callee := .builtin .clear, args := #[x], argTypes := #[t] }, ty, pos, af, gd⟩ :: l) :: k, dfs, H, nx⟩ Q :=
  y_val hw (.inr (fun _ h => by cases h)) (op_clearB hu hz hx hb zs hzs h1 ho) h
theorem w_mark {s el rt : TypeId} {x : Operand} {b eo n ne dd : Nat} {c : Tr SV} (hw : wantedS T ops ⟨some dd, .convert s s x, ty, pos, af, gd⟩ = some true) (hd : Nat.blt dd nt = true) (hu : P.underlying s = some (.slice el)) (he : P.underlying el = some (.int .u8)) (hx : evalS T x = some (.slu b eo n)) (hb : H.at' b = some (.row false ne 1 rt c)) (h0 : 0 < ne)
    (h : Wp P ro ⟨fn, nt, T.set dd (.slu b eo n), .inReg ops (i + 1) l :: k, dfs, H.set b (.row false ne 1 rt c), nx⟩ Q) : Wp P ro ⟨fn, nt, T, .inReg ops i (⟨some dd, .convert s s x, ty, pos, af, gd⟩ :: l) :: k, dfs, H, nx⟩ Q :=
  y_val hw (.inr (fun _ h => by cases h)) (op_mark hu he hx hb h0) (by rw [putS_some hd]; exact h)
theorem y_retC {rl : List ResultVar} {F : Func} {g : FuncId} {args : List SV} (hf : P.funcs[fn]? = some F) (hl : F.results.toList = rl) (hg : mayEnter P g = true) (h : Fnc P g args H nx (fun r => ∃ vs, ResIs P r.2.1 T rl vs ∧ Q (valueOf vs, r.2.1, r.2.2))) : Wp P none ⟨fn, nt, T, .code .ret :: k, [.call g args], H, nx⟩ Q := by
  refine y_retD (lv_call hg (Fnc.mono h ?_))
  rintro ⟨v, H', n'⟩ ⟨vs, h1, h2⟩
  exact lv_end (by simp only [resultsOf, hf, hl]) h1.res h2
end
end Go.Sy
end
section
namespace Go.Proofs.Ytdpjbpnemjdhfaa
open Go Go.Sy Go.Sl Go.RowKit
abbrev nilS : SV := .sc (.slice none 0 0)
abbrev rdO (s : SV) (w : Bool) : VO := newCells 76 [s, .sc (.bool w)]
theorem bs_nil (H : Heap) : BsIs H nilS (byV []) := ⟨fun v hv => by simp at hv, .inl ⟨rfl, rfl⟩⟩
theorem oneV_by (l : List UInt8) : oneV (byV l) := fun v hv => by obtain ⟨c, _, rfl⟩ := List.mem_map.1 hv; rfl
theorem by_len (l : List UInt8) : (byV l).length = l.length := List.length_map _
def BlkAt (H : Heap) (r o : Nat) (l : List UInt8) : Prop := ∃ vo, H.at' r = some vo ∧ vo.cellsFrom o l.length = some ((byV l).map .sc)
theorem BlkAt.bs {H : Heap} {r o C : Nat} {l : List UInt8} (h : BlkAt H r o l) : BsIs H (.sl r o l.length C) (byV l) := by
  obtain ⟨vo, h1, h2⟩ := h
  exact ⟨oneV_by l, .inr (.inr ⟨r, o, C, vo, by rw [by_len], h1, by rw [by_len]; exact h2⟩)⟩
theorem cellsFrom_part {vo : VO} : ∀ (n m o : Nat) (l : List SV), vo.cellsFrom o (n + m) = some l → vo.cellsFrom o n = some (l.take n) ∧ vo.cellsFrom (o + n) m = some (l.drop n)
  | 0, m, o, l, h => by
    rw [Nat.zero_add] at h
    exact ⟨by simp [VO.cellsFrom], by simpa using h⟩
  | n + 1, m, o, l, h => by
    rw [show n + 1 + m = (n + m) + 1 by omega] at h
    simp only [VO.cellsFrom] at h ⊢
    cases h1 : vo.cell o with
    | none => rw [h1] at h; cases h
    | some s =>
      rw [h1] at h
      simp only at h ⊢
      cases h2 : vo.cellsFrom (o + 1) (n + m) with
      | none => rw [h2] at h; cases h
      | some l' =>
        rw [h2] at h
        simp only [Option.some.injEq] at h
        subst h
        obtain ⟨g1, g2⟩ := cellsFrom_part n m (o + 1) l' h2
        rw [g1, show o + (n + 1) = o + 1 + n by omega]
        exact ⟨by simp, by simpa using g2⟩
theorem BlkAt.part {H : Heap} {r o : Nat} {l : List UInt8} (h : BlkAt H r o l) {n : Nat} (hn : n ≤ l.length) : BlkAt H r o (l.take n) ∧ BlkAt H r (o + n) (l.drop n) := by
  obtain ⟨vo, h1, h2⟩ := h
  rw [show l.length = n + (l.length - n) by omega] at h2
  obtain ⟨g1, g2⟩ := cellsFrom_part n (l.length - n) o _ h2
  refine ⟨⟨vo, h1, ?_⟩, ⟨vo, h1, ?_⟩⟩
  · rw [List.length_take, Nat.min_eq_left hn, g1]
    simp [List.map_take]
  · rw [List.length_drop, g2]
    simp [List.map_drop]
theorem BlkAt.frame {H H' : Heap} {r o : Nat} {l : List UInt8} (h : BlkAt H r o l) (hf : H'.at' r = H.at' r) : BlkAt H' r o l := by
  obtain ⟨vo, h1, h2⟩ := h
  exact ⟨vo, hf.trans h1, h2⟩
theorem BlkAt.none (H : Heap) {r : Nat} {vo : VO} (h : H.at' r = some vo) (o : Nat) : BlkAt H r o [] := ⟨vo, h, rfl⟩
def RdSt (H : Heap) (b r : Nat) : Option (List UInt8) → Prop
  | some l => ∃ o C, H.at' b = some (rdO (.sl r o l.length C) true) ∧ l.length ≤ C ∧ BlkAt H r o l
  | none => ∃ s, H.at' b = some (rdO s false)
def BlkS (H : Heap) (s : SV) (r : Nat) (l : List UInt8) : Prop := (s = nilS ∧ l = []) ∨ ∃ o C, s = .sl r o l.length C ∧ BlkAt H r o l
theorem BlkS.bs {H : Heap} {s : SV} {r : Nat} {l : List UInt8} (h : BlkS H s r l) : BsIs H s (byV l) := by
  rcases h with ⟨rfl, rfl⟩ | ⟨o, C, rfl, h⟩
  · exact bs_nil _
  · exact h.bs
theorem BlkS.frame {H H' : Heap} {s : SV} {r : Nat} {l : List UInt8} (h : BlkS H s r l) (hf : H'.at' r = H.at' r) : BlkS H' s r l := by
  rcases h with h | ⟨o, C, h1, h2⟩
  · exact .inl h
  · exact .inr ⟨o, C, h1, h2.frame hf⟩
theorem failed_s {H : Heap} {nx b : Nat} {s : SV} {w : Bool} (hb : H.at' b = some (rdO s w)) : Fnc Try.prog 36 [.ptr b 0] H nx (fun q => q = (.sc (.bool (!w)), H, nx)) := by
  refine Fnc.start Try.func36 rfl rfl ?_
  (repeat (first | refine y_seq ?_ | refine w_region ?_ | refine y_regEnd ?_ | (apply w_move; exact rfl; exact rfl; exact rfl) | (apply w_assign; exact rfl; exact rfl; exact rfl) | (apply w_pickF; exact rfl; exact rfl; exact rfl; exact rfl) | (apply w_nilCheck; exact rfl; exact rfl; exact rfl) | (apply w_fieldAddr; exact rfl; exact rfl; exact rfl; exact (F.fo _ _ rfl rfl)) | (apply w_eqNil; exact rfl; exact rfl; exact rfl; exact rfl; exact (F.un _ rfl); exact rfl) | refine w_loadB1 rfl rfl rfl (F.ag _ rfl) (by (focus ((repeat (assumption)); done))) (by exact rfl) ?_ | (apply w_notB; exact rfl; exact rfl; exact rfl)))
  ((apply w_ret Try.func36 (congrArg Array.toList Try.results36)); (focus (repeat (first | exact ResIs.nil | apply ResIs.tmp rfl))))
  rfl
theorem step_far {H : Heap} {nx b : Nat} {s : SV} {l : List UInt8} {n : Int} (hb : H.at' b = some (rdO s true)) (hs : BsIs H s (byV l)) (hn : n < 0 ∨ (l.length : Int) < n) : Fnc Try.prog 35 [.ptr b 0, .sc (.int .i64 n)] H nx (fun q => ∃ H', q = (nilS, H', nx) ∧ H'.at' b = some (rdO nilS false) ∧ ∀ m, m ≠ b → H'.at' m = H.at' m) := by
  refine Fnc.start Try.func35 rfl rfl ?_
  (repeat' (first | (first | refine y_seq ?_ | refine w_region ?_ | refine y_regEnd ?_ | refine y_skip ?_ | refine y_condT rfl ?_ | refine y_condF rfl ?_ | (apply w_move; exact rfl; exact rfl; exact rfl) | (apply w_assign; exact rfl; exact rfl; exact rfl) | (apply w_pickT; exact rfl; exact rfl; exact rfl; exact rfl) | (apply w_pickF; exact rfl; exact rfl; exact rfl; exact rfl) | (apply w_nilCheck; exact rfl; exact rfl; exact rfl) | (apply w_fieldAddr; exact rfl; exact rfl; exact rfl; exact (F.fo _ _ rfl rfl)) | (apply w_not; exact rfl) | refine w_storeC rfl rfl rfl rfl (F.sz _ rfl) (by (focus ((repeat (first | assumption | exact Tr.at_set_same _ _ _)); done))) rfl (by exact Nat.le_of_ble_eq_true rfl) rfl ?_ | refine w_loadB1 rfl rfl rfl (F.ag _ rfl) (by (focus ((repeat (assumption)); done))) (by exact rfl) ?_) | (refine w_call rfl rfl rfl (by kernel_rfl) (Fnc.mono (failed_s hb) ?_); rintro _ rfl; dsimp only) | (refine w_lssS rfl rfl rfl rfl ?_ ?_ <;> intro hq1) | (refine w_lenB rfl rfl (F.un _ rfl) rfl hs ?_; rw [by_len]) | (refine w_gtrS rfl rfl rfl rfl ?_ ?_ <;> intro hq2) | (exfalso; omega)))
  all_goals ((apply w_ret Try.func35 (congrArg Array.toList Try.results35)); (focus (repeat (first | exact ResIs.nil | apply ResIs.tmp rfl))))
  all_goals exact ⟨_, rfl, Tr.at_set_same _ _ _, fun m hm => (Tr.at_set_other _ _ hm).trans (Tr.at_set_other _ _ hm)⟩
theorem step_dead {H : Heap} {nx b : Nat} {s : SV} {n : Int} (hb : H.at' b = some (rdO s false)) : Fnc Try.prog 35 [.ptr b 0, .sc (.int .i64 n)] H nx (fun q => q = (nilS, H, nx)) := by
  refine Fnc.start Try.func35 rfl rfl ?_
  (repeat (first | (first | refine y_seq ?_ | refine w_region ?_ | refine y_regEnd ?_ | refine y_condT rfl ?_ | (apply w_move; exact rfl; exact rfl; exact rfl) | (apply w_assign; exact rfl; exact rfl; exact rfl)) | (refine w_call rfl rfl rfl (by kernel_rfl) (Fnc.mono (failed_s hb) ?_); rintro _ rfl; dsimp only)))
  ((apply w_ret Try.func35 (congrArg Array.toList Try.results35)); (focus (repeat (first | exact ResIs.nil | apply ResIs.tmp rfl))))
  rfl
theorem step_ok {H : Heap} {nx b r o C n : Nat} {l : List UInt8} (hb : H.at' b = some (rdO (.sl r o l.length C) true)) (hC : l.length ≤ C) (hn : n ≤ l.length) : Fnc Try.prog 35 [.ptr b 0, .sc (.int .i64 (n : Int))] H nx (fun q => ∃ H', q = (.sl r o n n, H', nx) ∧ H'.at' b = some (rdO (.sl r (if C = n then o else o + n) (l.length - n) (C - n)) true) ∧ ∀ m, m ≠ b → H'.at' m = H.at' m) := by
  have ho : (bif Nat.beq n 0 then o else o + 0 * 1) = o := by cases Nat.beq n 0 <;> simp
  refine Fnc.start Try.func35 rfl rfl ?_
  (repeat (first | (first | refine y_seq ?_ | refine w_region ?_ | refine y_regEnd ?_ | refine y_skip ?_ | refine y_condF rfl ?_ | (apply w_move; exact rfl; exact rfl; exact rfl) | (apply w_assign; exact rfl; exact rfl; exact rfl) | (apply w_pickF; exact rfl; exact rfl; exact rfl; exact rfl) | (apply w_nilCheck; exact rfl; exact rfl; exact rfl) | (apply w_fieldAddr; exact rfl; exact rfl; exact rfl; exact (F.fo _ _ rfl rfl)) | refine w_loadB1 rfl rfl rfl (F.ag _ rfl) (by (focus ((repeat (assumption)); done))) (by exact rfl) ?_) | (refine w_call rfl rfl rfl (by kernel_rfl) (Fnc.mono (failed_s hb) ?_); rintro _ rfl; dsimp only) | (refine w_lssS rfl rfl rfl rfl (fun hq => absurd hq (by omega)) (fun _ => ?_)) | ((apply w_lenS; exact rfl; exact rfl; exact rfl; exact (F.un _ rfl))) | (refine w_gtrS rfl rfl rfl rfl (fun hq => absurd hq (by omega)) (fun _ => ?_))))
  (apply w_cut3 (lw := 0) (hg := n) (m := n); exact rfl; exact rfl; exact rfl; exact (F.un _ rfl); exact (F.sz _ rfl); exact rfl; exact (bd_n rfl rfl); exact (bd_n rfl rfl); exact (Nat.zero_le _); exact (Nat.le_refl _); (focus (omega)))
  rw [ho]
  (repeat (first | refine y_seq ?_ | refine w_region ?_ | refine y_regEnd ?_ | (apply w_move; exact rfl; exact rfl; exact rfl) | (apply w_assign; exact rfl; exact rfl; exact rfl) | (apply w_nilCheck; exact rfl; exact rfl; exact rfl) | (apply w_fieldAddr; exact rfl; exact rfl; exact rfl; exact (F.fo _ _ rfl rfl)) | refine w_loadB1 rfl rfl rfl (F.ag _ rfl) (by (focus ((repeat (assumption)); done))) (by exact rfl) ?_))
  (apply w_cutS (lw := n) (hg := l.length); exact rfl; exact rfl; exact rfl; exact (F.un _ rfl); exact (F.sz _ rfl); exact (bd_n rfl rfl); exact rfl; (focus (omega)); (focus (omega)); exact rfl)
  (repeat (first | refine y_seq ?_ | refine w_region ?_ | refine y_regEnd ?_ | (apply w_move; exact rfl; exact rfl; exact rfl) | (apply w_assign; exact rfl; exact rfl; exact rfl) | (apply w_nilCheck; exact rfl; exact rfl; exact rfl) | (apply w_fieldAddr; exact rfl; exact rfl; exact rfl; exact (F.fo _ _ rfl rfl)) | refine w_storeC rfl rfl rfl rfl (F.sz _ rfl) (by (focus ((repeat (assumption)); done))) rfl (by exact Nat.le_of_ble_eq_true rfl) rfl ?_))
  ((apply w_ret Try.func35 (congrArg Array.toList Try.results35)); (focus (repeat (first | exact ResIs.nil | apply ResIs.tmp rfl))))
  exact ⟨_, rfl, Tr.at_set_same _ _ _, fun m hm => Tr.at_set_other _ _ hm⟩
theorem step_s {H : Heap} {nx b r n : Nat} {st : Option (List UInt8)} (h : RdSt H b r st) (hne : r ≠ b) : Fnc Try.prog 35 [.ptr b 0, .sc (.int .i64 (n : Int))] H nx (fun q => ∃ s H', q = (s, H', nx) ∧ BlkS H' s r (stepR st n).1 ∧ RdSt H' b r (stepR st n).2 ∧ ∀ m, m ≠ b → H'.at' m = H.at' m) := by
  cases st with
  | none =>
    obtain ⟨s, hs⟩ := h
    refine Fnc.mono (step_dead hs) ?_
    rintro _ rfl
    exact ⟨_, _, rfl, .inl ⟨rfl, rfl⟩, ⟨s, hs⟩, fun m _ => rfl⟩
  | some l =>
    obtain ⟨o, C, h1, h2, h4⟩ := h
    by_cases hn : n ≤ l.length
    · rw [stepR_ok hn]
      refine Fnc.mono (step_ok h1 h2 hn) ?_
      rintro _ ⟨H', rfl, g1, g2⟩
      obtain ⟨k1, k2⟩ := (h4.frame (g2 r hne)).part hn
      have hlt : (l.take n).length = n := by rw [List.length_take]; omega
      refine ⟨_, _, rfl, .inr ⟨o, n, by rw [hlt], k1⟩, ?_, g2⟩
      have hld : (l.drop n).length = l.length - n := List.length_drop
      refine ⟨if C = n then o else o + n, C - n, by rw [hld]; exact g1, by omega, ?_⟩
      by_cases hc : C = n
      · have : l.drop n = [] := List.drop_of_length_le (by omega)
        rw [this]
        obtain ⟨vo, hv, _⟩ := k2
        exact BlkAt.none _ hv _
      · rw [if_neg hc]
        exact k2
    · rw [stepR_no (by omega)]
      refine Fnc.mono (step_far h1 (h4.bs) (.inr (by omega))) ?_
      rintro _ ⟨H', rfl, g1, g2⟩
      exact ⟨_, _, rfl, .inl ⟨rfl, rfl⟩, ⟨_, g1⟩, g2⟩
theorem get_nil {H : Heap} {nx : Nat} {s : SV} (hb : BsIs H s (byV [])) : Fnc Try.prog 34 [s] H nx (fun q => q = (.tup [.sc (.int .u64 0), .sc (.int .i64 2)], H, nx)) := by
  refine Fnc.start Try.func34 rfl rfl ?_
  (repeat (first | (first | refine y_seq ?_ | refine w_region ?_ | refine y_regEnd ?_ | (apply w_move; exact rfl; exact rfl; exact rfl) | (apply w_assign; exact rfl; exact rfl; exact rfl)) | (refine w_lenB rfl rfl (F.un _ rfl) rfl hb ?_)))
  refine w_lssS rfl rfl rfl rfl (fun _ => ?_) (fun hq => absurd hq (by decide))
  (repeat (first | refine y_seq ?_ | refine w_region ?_ | refine y_regEnd ?_ | refine y_condT rfl ?_ | (apply w_move; exact rfl; exact rfl; exact rfl) | (apply w_assign; exact rfl; exact rfl; exact rfl) | (apply w_pickT; exact rfl; exact rfl; exact rfl; exact rfl) | (apply w_not; exact rfl)))
  ((apply w_ret Try.func34 (congrArg Array.toList Try.results34)); (focus (repeat (first | exact ResIs.nil | apply ResIs.tmp rfl))))
  rfl
theorem get_bs {H : Heap} {nx : Nat} {s : SV} {bs : List UInt8} (hb : BsIs H s (byV bs)) (h2 : bs.length ≤ 8) : Fnc Try.prog 34 [s] H nx (fun q => ∃ e : Int, q = (.tup [.sc (.int .u64 (beN bs : Int)), .sc (.int .i64 e)], H, nx)) := by
  cases bs with
  | nil =>
    refine Fnc.mono (get_nil hb) ?_
    rintro _ rfl
    exact ⟨2, rfl⟩
  | cons c bs =>
    refine Fnc.mono (get_s hb (Nat.succ_le_succ (Nat.zero_le _)) h2) ?_
    rintro _ rfl
    exact ⟨0, rfl⟩
theorem stepR_len (st : Option (List UInt8)) (n : Nat) : (stepR st n).1 = [] ∨ (stepR st n).1.length = n := by
  cases st with
  | none => exact .inl rfl
  | some l =>
    by_cases h : n ≤ l.length
    · rw [stepR_ok h, List.length_take]
      exact .inr (by omega)
    · rw [stepR_no (by omega)]
      exact .inl rfl
theorem stepR_le (st : Option (List UInt8)) (n : Nat) : (stepR st n).1.length ≤ n := by
  rcases stepR_len st n with h | h
  · rw [h]; exact Nat.zero_le _
  · exact Nat.le_of_eq h
set_option maxRecDepth 100000 in
theorem num_s {H : Heap} {nx b r n : Nat} {st : Option (List UInt8)} (h : RdSt H b r st) (hne : r ≠ b) (h1 : 1 ≤ n) (h2 : n ≤ 8) : Fnc Try.prog 19 [.ptr b 0, .sc (.int .i64 (n : Int))] H nx (fun q => ∃ H', q = (.sc (.int .u64 (beN (stepR st n).1 : Int)), H', nx) ∧ RdSt H' b r (stepR st n).2 ∧ ∀ m, m ≠ b → H'.at' m = H.at' m) := by
  refine Fnc.start Try.func19 rfl rfl ?_
  (repeat (first | (first | refine y_seq ?_ | refine w_region ?_ | refine y_regEnd ?_ | refine y_skip ?_ | refine y_condF rfl ?_ | (apply w_move; exact rfl; exact rfl; exact rfl) | (apply w_assign; exact rfl; exact rfl; exact rfl) | (apply w_pickF; exact rfl; exact rfl; exact rfl; exact rfl)) | (refine w_lssS rfl rfl rfl rfl (fun hq => absurd hq (by omega)) (fun _ => ?_)) | (refine w_gtrS rfl rfl rfl rfl (fun hq => absurd hq (by omega)) (fun _ => ?_))))
  refine w_call rfl rfl rfl (by kernel_rfl) (Fnc.mono (step_s (n := n) h hne) ?_)
  rintro _ ⟨s, H', rfl, g1, g2, g3⟩
  dsimp only
  refine w_call rfl rfl rfl (by kernel_rfl) (Fnc.mono (get_bs g1.bs (Nat.le_trans (stepR_le _ _) h2)) ?_)
  rintro _ ⟨e, rfl⟩
  dsimp only
  (repeat (first | refine y_seq ?_ | refine w_region ?_ | refine y_regEnd ?_ | (apply w_move; exact rfl; exact rfl; exact rfl) | (apply w_assign; exact rfl; exact rfl; exact rfl) | (apply w_extract; exact rfl; exact rfl; exact rfl; exact rfl)))
  ((apply w_ret Try.func19 (congrArg Array.toList Try.results19)); (focus (repeat (first | exact ResIs.nil | apply ResIs.tmp rfl))))
  exact ⟨_, rfl, g2, g3⟩
set_option maxRecDepth 100000 in
/-- The first number that a new reader reads. -/
theorem num_first {H : Heap} {nx b r n : Nat} {l : List UInt8} (hb : H.at' b = some (rdO (.slu r 0 l.length) true)) (hr : H.at' r = some (dat false l.length 1 5 (byV l))) (hbk : BlkAt H r 0 l) (hne : r ≠ b) (h1 : 1 ≤ n) (h2 : n ≤ 8) : Fnc Try.prog 19 [.ptr b 0, .sc (.int .i64 (n : Int))] H nx (fun q => ∃ H', q = (.sc (.int .u64 (beN (stepR (some l) n).1 : Int)), H', nx) ∧ RdSt H' b r (stepR (some l) n).2 ∧ ∀ m, m ≠ b → H'.at' m = H.at' m) := by
  refine Fnc.start Try.func19 rfl rfl ?_
  by_cases hl : l.length = 0
  · have hs0 : stepR (some l) n = ([], none) := stepR_no (by omega)
    rw [hs0]
    (repeat (first | (first | refine y_seq ?_ | refine w_region ?_ | refine y_regEnd ?_ | refine y_skip ?_ | refine y_condF rfl ?_ | (apply w_move; exact rfl; exact rfl; exact rfl) | (apply w_assign; exact rfl; exact rfl; exact rfl) | (apply w_pickF; exact rfl; exact rfl; exact rfl; exact rfl)) | (refine w_lssS rfl rfl rfl rfl (fun hq => absurd hq (by omega)) (fun _ => ?_)) | (refine w_gtrS rfl rfl rfl rfl (fun hq => absurd hq (by omega)) (fun _ => ?_))))
    refine w_call rfl rfl rfl (by kernel_rfl) (Fnc.mono (step_far (n := (n : Int)) (l := l) hb (bs_row hr (by rfl)) (.inr (by omega))) ?_)
    rintro _ ⟨H', rfl, g1, g2⟩
    dsimp only
    refine w_call rfl rfl rfl (by kernel_rfl) (Fnc.mono (get_nil (bs_nil _)) ?_)
    rintro _ rfl
    dsimp only
    (repeat (first | refine y_seq ?_ | refine w_region ?_ | refine y_regEnd ?_ | (apply w_move; exact rfl; exact rfl; exact rfl) | (apply w_assign; exact rfl; exact rfl; exact rfl) | (apply w_extract; exact rfl; exact rfl; exact rfl; exact rfl)))
    ((apply w_ret Try.func19 (congrArg Array.toList Try.results19)); (focus (repeat (first | exact ResIs.nil | apply ResIs.tmp rfl))))
    exact ⟨_, rfl, ⟨_, g1⟩, g2⟩
  · refine y_fixcapIn [] [.sc (.bool true)] hb hr (by omega) (by omega) ?_
    intro C hC
    have hst : RdSt (H.set b (newCells 76 ([] ++ .sl r (0 * 1) l.length C :: [.sc (.bool true)]))) b r (some l) := ⟨0, C, Tr.at_set_same _ _ _, hC, hbk.frame (Tr.at_set_other _ _ hne)⟩
    have hfr : ∀ m, m ≠ b → (H.set b (newCells 76 ([] ++ .sl r (0 * 1) l.length C :: [.sc (.bool true)]))).at' m = H.at' m := fun m hm => Tr.at_set_other _ _ hm
    generalize H.set b (newCells 76 ([] ++ .sl r (0 * 1) l.length C :: [.sc (.bool true)])) = H0 at hst hfr ⊢
    (repeat (first | (first | refine y_seq ?_ | refine w_region ?_ | refine y_regEnd ?_ | refine y_skip ?_ | refine y_condF rfl ?_ | (apply w_move; exact rfl; exact rfl; exact rfl) | (apply w_assign; exact rfl; exact rfl; exact rfl) | (apply w_pickF; exact rfl; exact rfl; exact rfl; exact rfl)) | (refine w_lssS rfl rfl rfl rfl (fun hq => absurd hq (by omega)) (fun _ => ?_)) | (refine w_gtrS rfl rfl rfl rfl (fun hq => absurd hq (by omega)) (fun _ => ?_))))
    refine w_call rfl rfl rfl (by kernel_rfl) (Fnc.mono (step_s (n := n) hst hne) ?_)
    rintro _ ⟨s, H', rfl, g1, g2, g3⟩
    dsimp only
    refine w_call rfl rfl rfl (by kernel_rfl) (Fnc.mono (get_bs g1.bs (Nat.le_trans (stepR_le _ _) h2)) ?_)
    rintro _ ⟨e, rfl⟩
    dsimp only
    (repeat (first | refine y_seq ?_ | refine w_region ?_ | refine y_regEnd ?_ | (apply w_move; exact rfl; exact rfl; exact rfl) | (apply w_assign; exact rfl; exact rfl; exact rfl) | (apply w_extract; exact rfl; exact rfl; exact rfl; exact rfl)))
    ((apply w_ret Try.func19 (congrArg Array.toList Try.results19)); (focus (repeat (first | exact ResIs.nil | apply ResIs.tmp rfl))))
    exact ⟨_, rfl, g2, fun m hm => (g3 m hm).trans (hfr m hm)⟩
set_option maxRecDepth 100000 in
theorem blobr_s {H : Heap} {nx b r : Nat} {st : Option (List UInt8)} (h : RdSt H b r st) (hne : r ≠ b) : Fnc Try.prog 20 [.ptr b 0] H nx (fun q => ∃ s H', q = (s, H', nx) ∧ BlkS H' s r (blobR st).1 ∧ RdSt H' b r (blobR st).2 ∧ ∀ m, m ≠ b → H'.at' m = H.at' m) := by
  have hlt := beN_lt (stepR st 2).1
  have hp : 256 ^ (stepR st 2).1.length ≤ 256 ^ 2 := Nat.pow_le_pow_right (by decide) (stepR_le _ _)
  refine Fnc.start Try.func20 rfl rfl ?_
  (repeat (first | refine y_seq ?_ | refine w_region ?_ | refine y_regEnd ?_ | (apply w_move; exact rfl; exact rfl; exact rfl) | (apply w_assign; exact rfl; exact rfl; exact rfl)))
  refine w_call rfl rfl rfl (by kernel_rfl) (Fnc.mono (num_s (n := 2) h hne (by decide) (by decide)) ?_)
  rintro _ ⟨H1, rfl, g1, g2⟩
  dsimp only
  (repeat (apply w_conv; exact rfl; exact rfl; exact rfl; exact (F.un _ rfl); exact (F.un _ rfl); exact (show _ = ((beN (stepR st 2).1 : Nat) : Int) from Go.IntWalk.i64_in _ ⟨by omega, by omega⟩)))
  refine w_call rfl rfl rfl (by kernel_rfl) (Fnc.mono (step_s (n := beN (stepR st 2).1) g1 hne) ?_)
  rintro _ ⟨s, H2, rfl, k1, k2, k3⟩
  dsimp only
  (repeat (first | refine y_regEnd ?_ | (apply w_assign; exact rfl; exact rfl; exact rfl)))
  ((apply w_ret Try.func20 (congrArg Array.toList Try.results20)); (focus (repeat (first | exact ResIs.nil | apply ResIs.tmp rfl))))
  exact ⟨_, _, rfl, k1, k2, fun m hm => (k3 m hm).trans (g2 m hm)⟩
def endR : Option (List UInt8) → Nat
  | some [] => 0
  | _ => 4
theorem left_s {H : Heap} {nx b : Nat} {s : SV} {l : List UInt8} (hb : H.at' b = some (rdO s true)) (hs : BsIs H s (byV l)) : Fnc Try.prog 37 [.ptr b 0] H nx (fun q => q = (.sc (.int .i64 (l.length : Int)), H, nx)) := by
  refine Fnc.start Try.func37 rfl rfl ?_
  (repeat (first | (first | refine y_seq ?_ | refine w_region ?_ | refine y_regEnd ?_ | refine y_skip ?_ | refine y_condF rfl ?_ | (apply w_move; exact rfl; exact rfl; exact rfl) | (apply w_assign; exact rfl; exact rfl; exact rfl) | (apply w_nilCheck; exact rfl; exact rfl; exact rfl) | (apply w_fieldAddr; exact rfl; exact rfl; exact rfl; exact (F.fo _ _ rfl rfl)) | refine w_loadB1 rfl rfl rfl (F.ag _ rfl) (by (focus ((repeat (assumption)); done))) (by exact rfl) ?_) | (refine w_call rfl rfl rfl (by kernel_rfl) (Fnc.mono (failed_s hb) ?_); rintro _ rfl; dsimp only) | (refine w_lenB rfl rfl (F.un _ rfl) rfl hs ?_; rw [by_len])))
  ((apply w_ret Try.func37 (congrArg Array.toList Try.results37)); (focus (repeat (first | exact ResIs.nil | apply ResIs.tmp rfl))))
  rfl
set_option maxRecDepth 100000 in
theorem end_s {H : Heap} {nx b r : Nat} {st : Option (List UInt8)} (h : RdSt H b r st) : Fnc Try.prog 21 [.ptr b 0] H nx (fun q => q = (.sc (.int .i64 (endR st : Int)), H, nx)) := by
  refine Fnc.start Try.func21 rfl rfl ?_
  cases st with
  | none =>
    obtain ⟨s, hs⟩ := h
    (repeat (first | (first | refine y_seq ?_ | refine w_region ?_ | refine y_regEnd ?_ | refine y_block ?_ | refine y_condT rfl ?_ | refine y_condF rfl ?_ | (apply w_move; exact rfl; exact rfl; exact rfl) | (apply w_assign; exact rfl; exact rfl; exact rfl) | (apply w_pickT; exact rfl; exact rfl; exact rfl; exact rfl) | (apply w_not; exact rfl) | (apply w_eqNil; exact rfl; exact rfl; exact rfl; exact rfl; exact (F.un _ rfl); exact rfl)) | (refine w_call rfl rfl rfl (by kernel_rfl) (Fnc.mono (failed_s hs) ?_); rintro _ rfl; dsimp only)))
    ((apply w_ret Try.func21 (congrArg Array.toList Try.results21)); (focus (repeat (first | exact ResIs.nil | apply ResIs.tmp rfl))))
    rfl
  | some l =>
    obtain ⟨o, C, h1, h2, h4⟩ := h
    have hb4 := h4.bs (C := C)
    (repeat (first | (first | refine y_seq ?_ | refine w_region ?_ | refine y_regEnd ?_ | refine y_block ?_ | refine y_condF rfl ?_ | (apply w_move; exact rfl; exact rfl; exact rfl) | (apply w_assign; exact rfl; exact rfl; exact rfl) | (apply w_eqNil; exact rfl; exact rfl; exact rfl; exact rfl; exact (F.un _ rfl); exact rfl)) | (refine w_call rfl rfl rfl (by kernel_rfl) (Fnc.mono (failed_s h1) ?_); rintro _ rfl; dsimp only) | (refine w_call rfl rfl rfl (by kernel_rfl) (Fnc.mono (left_s h1 hb4) ?_); rintro _ rfl; dsimp only)))
    refine w_gtrS rfl rfl rfl rfl (fun hq => ?_) (fun hq => ?_)
    all_goals (repeat (first | refine y_seq ?_ | refine w_region ?_ | refine y_regEnd ?_ | refine y_inBlock ?_ | refine y_skip ?_ | refine y_condT rfl ?_ | refine y_condF rfl ?_ | (apply w_assign; exact rfl; exact rfl; exact rfl) | (apply w_pickF; exact rfl; exact rfl; exact rfl; exact rfl)))
    all_goals ((apply w_ret Try.func21 (congrArg Array.toList Try.results21)); (focus (repeat (first | exact ResIs.nil | apply ResIs.tmp rfl))))
    all_goals (cases l with | nil => _ | cons c l => _)
    all_goals first | rfl | (exfalso; simp at hq; done) | (exfalso; simp only [List.length_cons, List.length_nil] at hq; omega)
end Go.Proofs.Ytdpjbpnemjdhfaa
end
section
namespace Go.Proofs.Ytdpjbpnemjdhfaa
open Go Go.Sy Go.Sl Go.RowKit
abbrev verS (k w : SV) (x y : Nat) : SV := .agg [k, w, .sc (.int .u64 (x : Int)), .sc (.int .u64 (y : Int))]
def VerIs (H : Heap) (s : SV) (v : VerT) : Prop := ∃ k w, s = verS k w v.2.2.1 v.2.2.2 ∧ BsIs H k (byV v.1) ∧ BsIs H w (byV v.2.1)
theorem VerIs.frame {H H' : Heap} {s : SV} {v : VerT} (h : VerIs H s v) (hf : ∀ b vo, H.at' b = some vo → H'.at' b = some vo) : VerIs H' s v := by
  obtain ⟨k, w, h1, h2, h3⟩ := h
  exact ⟨k, w, h1, h2.frame hf, h3.frame hf⟩
abbrev zeroV : VerT := ([], [], 0, 0)
set_option maxRecDepth 100000 in
set_option maxHeartbeats 0 in
theorem may_s {H : Heap} {nx : Nat} {s : SV} {v : VerT} (hv : VerIs H s v) : Fnc Try.prog 6 [s] H nx (fun q => q = (.sc (.bool (mayV v)), H, nx)) := by
  refine Fnc.forgetV (Free.sc _) ?_
  obtain ⟨k, w, rfl, hk, hw⟩ := hv
  refine Fnc.start Try.func6 rfl rfl ?_
  refine y_under fun hund => ?_
  have hf : ∀ {vo : VO} (b : Nat) (vo' : VO), H.at' b = some vo' → (H.set nx vo).at' b = some vo' := fun b vo' hb => (Tr.at_set_other _ _ (by have := hund b vo' hb; omega)).trans hb
  have hk2 : ∀ {vo : VO}, BsIs (H.set nx vo) k (byV v.1) := fun {vo} => hk.frame hf
  have hw2 : ∀ {vo : VO}, BsIs (H.set nx vo) w (byV v.2.1) := fun {vo} => hw.frame hf
  have hm : mayV v = decide ((1 ≤ v.1.length ∧ v.1.length ≤ 32) ∧ v.2.1.length ≤ 128 ∧ (1 ≤ v.2.2.1 ∧ v.2.2.1 ≤ 4000) ∧ v.2.2.2 ≤ 4000) := rfl
  have hl1 := by_len v.1
  have hl2 := by_len v.2.1
  (repeat' (first | (first | refine y_seq ?_ | refine w_region ?_ | refine y_regEnd ?_ | (apply w_move; exact rfl; exact rfl; exact rfl) | (apply w_assign; exact rfl; exact rfl; exact rfl) | (apply w_pickT; exact rfl; exact rfl; exact rfl; exact rfl) | (apply w_pickF; exact rfl; exact rfl; exact rfl; exact rfl) | (apply w_fieldAddr; exact rfl; exact rfl; exact rfl; exact (F.fo _ _ rfl rfl)) | (apply w_not; exact rfl) | (apply w_boxN; exact rfl; exact rfl; exact rfl) | refine w_loadB1 rfl rfl rfl (F.ag _ rfl) (by (focus ((repeat (exact Tr.at_set_same _ _ _)); done))) (by exact rfl) ?_) | (refine w_lenB rfl rfl (F.un _ rfl) rfl hk2 ?_; rw [by_len]) | (refine w_lenB rfl rfl (F.un _ rfl) rfl hw2 ?_; rw [by_len]) | (refine w_geqS rfl rfl rfl rfl ?_ ?_ <;> intro hq) | (refine w_leqS rfl rfl rfl rfl ?_ ?_ <;> intro hq2)))
  all_goals ((apply w_ret Try.func6 (congrArg Array.toList Try.results6)); (focus (repeat (first | exact ResIs.nil | apply ResIs.tmp rfl))))
  all_goals (refine ⟨?_, Nat.le_succ _, fun m hm => Tr.at_set_other _ _ (by omega)⟩)
  all_goals (rw [hm]; first | (rw [decide_eq_true (by omega)]; rfl) | (rw [decide_eq_false (by omega)]; rfl))
theorem LsIs.nil (H : Heap) : LsIs H [] [] := ⟨rfl, fun j s vs h => by simp at h⟩
theorem LsIs.cons {H : Heap} {s : SV} {vs : List Value} {ls : List SV} {bs : List (List Value)} (h : BsIs H s vs) (t : LsIs H ls bs) : LsIs H (s :: ls) (vs :: bs) := by
  refine ⟨by simp [t.1], fun j s' vs' h1 h2 => ?_⟩
  cases j with
  | zero =>
    simp only [List.getElem?_cons_zero, Option.some.injEq] at h1 h2
    subst h1 h2
    exact h
  | succ j => exact t.2 j s' vs' (by simpa using h1) (by simpa using h2)
theorem by_app (a b : List UInt8) : byV (a ++ b) = byV a ++ byV b := List.map_append
theorem shr8 (n : Nat) : ((n : Nat) : Int).fdiv (2 ^ (min (8 : Int).toNat IntKind.i64.bits)) = ((n / 256 : Nat) : Int) := by
  rw [show min (8 : Int).toNat IntKind.i64.bits = 8 from rfl, Int.fdiv_eq_ediv_of_nonneg _ (by decide)]
  omega
theorem beB_two (n : Nat) : byV (beB n 2) = [.int .u8 ((UInt8.ofNat (n / 256)).toNat : Int), .int .u8 ((UInt8.ofNat n).toNat : Int)] := by
  rw [beB_succ, beB_succ]
  simp [beB]
set_option maxRecDepth 100000 in
set_option maxHeartbeats 0 in
theorem blob_s {H : Heap} {nx : Nat} {s : SV} {l : List UInt8} (hs : BsIs H s (byV l)) (hl : l.length ≤ 65535) : Fnc Try.prog 16 [s] H nx (fun q => ∃ r, q.1 = .tup [.slu r 0 (blobB l).length, .sc (.int .i64 0)] ∧ q.2.1.at' r = some (u8R false (byV (blobB l))) ∧ nx ≤ r ∧ r < q.2.2 ∧ ∀ m, m < nx → q.2.1.at' m = H.at' m) := by
  refine Fnc.start Try.func16 rfl rfl ?_
  refine y_under fun hund => ?_
  have hbl : (byV (blobB l)) = [.int .u8 ((UInt8.ofNat (l.length / 256)).toNat : Int), .int .u8 ((UInt8.ofNat l.length).toNat : Int)] ++ (byV l ++ []) := by
    unfold blobB
    rw [by_app, beB_two, List.append_nil]
  have hf : ∀ (vo vo' : VO) (b : Nat) (w : VO), H.at' b = some w → ((H.set nx vo).set (nx + 1) vo').at' b = some w := fun vo vo' b w hb => by
    have := hund b w hb
    exact (Tr.at_set_other _ _ (by omega)).trans ((Tr.at_set_other _ _ (by omega)).trans hb)
  have hs0 := hs
  (repeat (first | (first | refine y_seq ?_ | refine w_region ?_ | refine y_regEnd ?_ | (apply w_move; exact rfl; exact rfl; exact rfl) | (apply w_assign; exact rfl; exact rfl; exact rfl)) | (refine w_lenB rfl rfl (F.un _ rfl) rfl hs ?_; rw [by_len])))
  refine w_gtrS rfl rfl rfl rfl (fun hq => absurd hq (by omega)) (fun _ => ?_)
  (repeat (first | (first | refine y_seq ?_ | refine w_region ?_ | refine y_regEnd ?_ | refine y_skip ?_ | refine y_condF rfl ?_ | (apply w_move; exact rfl; exact rfl; exact rfl)) | (refine w_lenB rfl rfl (F.un _ rfl) rfl hs ?_; rw [by_len]) | ((apply w_shrC; exact rfl; exact rfl; exact rfl; exact rfl; (focus (decide)); exact (shr8 _))) | (apply w_conv; exact rfl; exact rfl; exact rfl; exact (F.un _ rfl); exact (F.un _ rfl); exact (wrap8 _))))
  obtain ⟨_, ⟨_, rfl⟩ | ⟨r0, eo, ne, ro0, t0, us, rfl, hb0, hn0, hu0⟩ | ⟨b0, o0, C0, vo0, rfl, hb0, hc0⟩⟩ := hs0
  all_goals (repeat (first | (apply w_buildSlice; exact rfl; exact rfl; exact (F.un _ rfl); exact (F.sz _ rfl); exact rfl; exact (F.ze _ rfl); exact rfl; exact rfl; exact rfl; exact rfl; exact rfl) | (apply w_move; exact rfl; exact rfl; exact rfl)))
  all_goals
    refine w_call rfl rfl rfl (by kernel_rfl) (Fnc.mono (join_s (bs := [[.int .u8 ((UInt8.ofNat (l.length / 256)).toNat : Int), .int .u8 ((UInt8.ofNat l.length).toNat : Int)], byV l]) (ls := [_, _]) (Tr.at_set_same _ _ _) (LsIs.cons (BsIs.row (ne := 2) (fun v hv => by rcases List.mem_cons.1 hv with rfl | hv; rfl; rw [List.mem_singleton.1 hv]; rfl) ((Tr.at_set_other _ _ (by omega)).trans ((Tr.at_set_same _ _ _).trans (congrArg some (dat_list _ _ _ _ [.int .u8 ((UInt8.ofNat (l.length / 256)).toNat : Int), .int .u8 ((UInt8.ofNat l.length).toNat : Int)])))) rfl) (LsIs.cons (hs.frame (hf _ _)) (LsIs.nil _))) (by simp; omega) (Nat.le_of_ble_eq_true rfl)) ?_)
    rintro _ rfl
    dsimp only
    (repeat (first | refine y_regEnd ?_ | (apply w_assign; exact rfl; exact rfl; exact rfl)))
    ((apply w_ret Try.func16 (congrArg Array.toList Try.results16)); (focus (repeat (first | exact ResIs.nil | apply ResIs.tmp rfl))))
  all_goals
    refine ⟨nx + 1 + 1, ?_, ?_, by omega, Nat.lt_succ_self _, fun m hm => by (focus ((repeat (refine (Tr.at_set_other _ _ (by omega)).trans ?_)); exact rfl))⟩
    · rw [show (blobB l).length = (byV (blobB l)).length from (by_len _).symm, hbl]
      rfl
    · refine (Tr.at_set_same _ _ _).trans ?_
      rw [hbl]
      rfl
theorem row_bs {H : Heap} {r : Nat} {ro : Bool} {l : List UInt8} (h : H.at' r = some (u8R ro (byV l))) : BsIs H (.slu r 0 l.length) (byV l) := by
  have := BsIs.row (oneV_by l) h rfl
  rwa [by_len] at this
set_option maxRecDepth 100000 in
set_option maxHeartbeats 0 in
theorem bytes_s {H : Heap} {nx : Nat} {s : SV} {v : VerT} (hv : VerIs H s v) (hm : mayV v = true) : Fnc Try.prog 5 [s] H nx (fun q => ∃ r, q.1 = .tup [.slu r 0 (bytesV v).length, .sc (.int .i64 0)] ∧ q.2.1.at' r = some (u8R false (byV (bytesV v))) ∧ nx ≤ r ∧ r < q.2.2 ∧ ∀ m, m < nx → q.2.1.at' m = H.at' m) := by
  have hv0 := hv
  have hb := of_decide_eq_true hm
  obtain ⟨k, w, rfl, hk, hw⟩ := hv
  refine Fnc.start Try.func5 rfl rfl ?_
  refine y_under fun hund => ?_
  (repeat (first | refine y_seq ?_ | refine w_region ?_ | refine y_regEnd ?_ | (apply w_assign; exact rfl; exact rfl; exact rfl) | (apply w_boxN; exact rfl; exact rfl; exact rfl) | refine w_loadBN rfl rfl rfl (F.ag _ rfl) (by (focus ((repeat (exact Tr.at_set_same _ _ _)); done))) (by exact rfl) ?_))
  have hm1 := may_s (H := H.set nx (newCells 25 [k, w, .sc (.int .u64 (v.2.2.1 : Int)), .sc (.int .u64 (v.2.2.2 : Int))])) (nx := nx + 1) (hv0.frame fun b vo hb => (Tr.at_set_other _ _ (by have := hund b vo hb; omega)).trans hb)
  rw [hm] at hm1
  (repeat (first | (first | refine y_seq ?_ | refine w_region ?_ | refine y_regEnd ?_ | refine y_skip ?_ | refine y_condF rfl ?_ | (apply w_fieldAddr; exact rfl; exact rfl; exact rfl; exact (F.fo _ _ rfl rfl)) | refine w_loadB1 rfl rfl rfl (F.ag _ rfl) (by (focus ((repeat (exact Tr.at_set_same _ _ _)); done))) (by exact rfl) ?_ | (apply w_notB; exact rfl; exact rfl; exact rfl)) | (refine w_call rfl rfl rfl (by kernel_rfl) (Fnc.mono (hm1) ?_); rintro _ rfl; dsimp only)))
  refine w_call rfl rfl rfl (by kernel_rfl) (Fnc.mono (put_s (n := v.2.2.1) (size := 8) (by omega) (by decide) (by decide) (by omega)) ?_)
  rintro ⟨_, H2, n2⟩ ⟨rfl, a2, rfl, a4⟩
  dsimp only at a2 a4 ⊢
  have hbox2 : H2.at' nx = some (newCells 25 [k, w, .sc (.int .u64 (v.2.2.1 : Int)), .sc (.int .u64 (v.2.2.2 : Int))]) := (a4 nx (by omega)).trans (Tr.at_set_same _ _ _)
  (repeat (first | refine y_seq ?_ | refine w_region ?_ | refine y_regEnd ?_ | (apply w_move; exact rfl; exact rfl; exact rfl) | (apply w_assign; exact rfl; exact rfl; exact rfl) | (apply w_extract; exact rfl; exact rfl; exact rfl; exact rfl) | (apply w_fieldAddr; exact rfl; exact rfl; exact rfl; exact (F.fo _ _ rfl rfl)) | refine w_loadB1 rfl rfl rfl (F.ag _ rfl) (by (focus ((repeat (assumption)); done))) (by exact rfl) ?_))
  refine w_call rfl rfl rfl (by kernel_rfl) (Fnc.mono (put_s (n := v.2.2.2) (size := 8) (by omega) (by decide) (by decide) (by omega)) ?_)
  rintro ⟨_, H3, n3⟩ ⟨rfl, b2, rfl, b4⟩
  dsimp only at b2 b4 ⊢
  have hbox3 := (b4 nx (by omega)).trans hbox2
  have h3 : ∀ m, m < nx → H3.at' m = H.at' m := fun m hm => (b4 m (by omega)).trans ((a4 m (by omega)).trans (Tr.at_set_other _ _ (by omega)))
  (repeat (first | refine y_seq ?_ | refine w_region ?_ | refine y_regEnd ?_ | (apply w_move; exact rfl; exact rfl; exact rfl) | (apply w_assign; exact rfl; exact rfl; exact rfl) | (apply w_extract; exact rfl; exact rfl; exact rfl; exact rfl) | (apply w_fieldAddr; exact rfl; exact rfl; exact rfl; exact (F.fo _ _ rfl rfl)) | refine w_loadB1 rfl rfl rfl (F.ag _ rfl) (by (focus ((repeat (assumption)); done))) (by exact rfl) ?_))
  refine w_call rfl rfl rfl (by kernel_rfl) (Fnc.mono (blob_s (hk.frame fun b vo hb => (h3 b (hund b vo hb)).trans hb) (by omega)) ?_)
  rintro ⟨_, H4, n4⟩ ⟨r4, rfl, c2, c3, c4, c5⟩
  dsimp only at c2 c3 c4 c5 ⊢
  have hbox4 := (c5 nx (by omega)).trans hbox3
  have h4 : ∀ m, m < nx → H4.at' m = H.at' m := fun m hm => (c5 m (by omega)).trans (h3 m hm)
  (repeat (first | refine y_seq ?_ | refine w_region ?_ | refine y_regEnd ?_ | (apply w_move; exact rfl; exact rfl; exact rfl) | (apply w_assign; exact rfl; exact rfl; exact rfl) | (apply w_extract; exact rfl; exact rfl; exact rfl; exact rfl) | (apply w_fieldAddr; exact rfl; exact rfl; exact rfl; exact (F.fo _ _ rfl rfl)) | refine w_loadB1 rfl rfl rfl (F.ag _ rfl) (by (focus ((repeat (assumption)); done))) (by exact rfl) ?_))
  refine w_call rfl rfl rfl (by kernel_rfl) (Fnc.mono (blob_s (hw.frame fun b vo hb => (h4 b (hund b vo hb)).trans hb) (by omega)) ?_)
  rintro ⟨_, H5, n5⟩ ⟨r5, rfl, d2, d3, d4, d5⟩
  dsimp only at d2 d3 d4 d5 ⊢
  have h5 : ∀ m, m < nx → H5.at' m = H.at' m := fun m hm => (d5 m (by omega)).trans (h4 m hm)
  have e1 : H5.at' (nx + 1) = some (dat false 8 1 5 (byV (beB v.2.2.1 8))) := (d5 _ (by omega)).trans ((c5 _ (by omega)).trans ((b4 _ (by omega)).trans a2))
  have e2 : H5.at' (nx + 1 + 1) = some (dat false 8 1 5 (byV (beB v.2.2.2 8))) := (d5 _ (by omega)).trans ((c5 _ (by omega)).trans b2)
  have e3 : H5.at' r4 = some (u8R false (byV (blobB v.1))) := (d5 _ (by omega)).trans c2
  clear a2 a4 b2 b4 c2 c5
  refine y_under fun hund5 => ?_
  (repeat (first | (apply w_buildSlice; exact rfl; exact rfl; exact (F.un _ rfl); exact (F.sz _ rfl); exact rfl; exact (F.ze _ rfl); exact rfl; exact rfl; exact rfl; exact rfl; exact rfl) | (first | refine y_seq ?_ | refine w_region ?_ | refine y_regEnd ?_ | (apply w_move; exact rfl; exact rfl; exact rfl) | (apply w_assign; exact rfl; exact rfl; exact rfl) | (apply w_extract; exact rfl; exact rfl; exact rfl; exact rfl))))
  have hfr : ∀ (vo : VO) (b : Nat) (x : VO), H5.at' b = some x → (H5.set n5 vo).at' b = some x := fun vo b x hx => (Tr.at_set_other _ _ (by have := hund5 b x hx; omega)).trans hx
  have hfl : byV (bytesV v) = byV (beB v.2.2.1 8) ++ (byV (beB v.2.2.2 8) ++ (byV (blobB v.1) ++ (byV (blobB v.2.1) ++ []))) := by
    unfold bytesV
    rw [by_app, by_app, by_app, List.append_nil]
  have hvl := bytesV_len v
  refine w_call rfl rfl rfl (by kernel_rfl) (Fnc.mono (join_s (bs := [byV (beB v.2.2.1 8), byV (beB v.2.2.2 8), byV (blobB v.1), byV (blobB v.2.1)]) (ls := [_, _, _, _]) (Tr.at_set_same _ _ _) (LsIs.cons ((bs_row e1 (beB_len _ _)).frame (hfr _)) (LsIs.cons ((bs_row e2 (beB_len _ _)).frame (hfr _)) (LsIs.cons ((row_bs e3).frame (hfr _)) (LsIs.cons ((row_bs d2).frame (hfr _)) (LsIs.nil _))))) (by show (byV (beB v.2.2.1 8) ++ (byV (beB v.2.2.2 8) ++ (byV (blobB v.1) ++ (byV (blobB v.2.1) ++ [])))).length ≤ _; rw [← hfl, by_len, hvl]; omega) (Nat.le_of_ble_eq_true rfl)) ?_)
  rintro _ rfl
  dsimp only
  (repeat (first | refine y_regEnd ?_ | (apply w_assign; exact rfl; exact rfl; exact rfl)))
  ((apply w_ret Try.func5 (congrArg Array.toList Try.results5)); (focus (repeat (first | exact ResIs.nil | apply ResIs.tmp rfl))))
  refine ⟨n5 + 1, ?_, ?_, by omega, Nat.lt_succ_self _, fun m hm => (Tr.at_set_other _ _ (by omega)).trans ((Tr.at_set_other _ _ (by omega)).trans (h5 m hm))⟩
  · rw [show (bytesV v).length = (byV (bytesV v)).length from (by_len _).symm, hfl]
    rfl
  · refine (Tr.at_set_same _ _ _).trans ?_
    rw [hfl]
    rfl
set_option maxRecDepth 100000 in
theorem bytes_no {H : Heap} {nx : Nat} {s : SV} {v : VerT} (hv : VerIs H s v) (hm : mayV v = false) : Fnc Try.prog 5 [s] H nx (fun q => q = (.tup [nilS, .sc (.int .i64 2)], H, nx)) := by
  refine Fnc.forgetV (Free.two (Free.sc _) (Free.sc _)) ?_
  have hv0 := hv
  obtain ⟨k, w, rfl, hk, hw⟩ := hv
  refine Fnc.start Try.func5 rfl rfl ?_
  refine y_under fun hund => ?_
  have hm1 := may_s (H := H.set nx (newCells 25 [k, w, .sc (.int .u64 (v.2.2.1 : Int)), .sc (.int .u64 (v.2.2.2 : Int))])) (nx := nx + 1) (hv0.frame fun b vo hb => (Tr.at_set_other _ _ (by have := hund b vo hb; omega)).trans hb)
  rw [hm] at hm1
  (repeat (first | (first | refine y_seq ?_ | refine w_region ?_ | refine y_regEnd ?_ | refine y_condT rfl ?_ | (apply w_assign; exact rfl; exact rfl; exact rfl) | (apply w_boxN; exact rfl; exact rfl; exact rfl) | refine w_loadBN rfl rfl rfl (F.ag _ rfl) (by (focus ((repeat (exact Tr.at_set_same _ _ _)); done))) (by exact rfl) ?_ | (apply w_notB; exact rfl; exact rfl; exact rfl)) | (refine w_call rfl rfl rfl (by kernel_rfl) (Fnc.mono (hm1) ?_); rintro _ rfl; dsimp only)))
  ((apply w_ret Try.func5 (congrArg Array.toList Try.results5)); (focus (repeat (first | exact ResIs.nil | apply ResIs.tmp rfl))))
  exact ⟨rfl, Nat.le_succ _, fun m hm => Tr.at_set_other _ _ (by omega)⟩
theorem u8R_by (ro : Bool) (l : List UInt8) : u8R ro (byV l) = dat ro l.length 1 5 (byV l) := by
  show dat ro (byV l).length 1 _ _ = _
  rw [by_len]
theorem bs_retell {H : Heap} {r : Nat} {ro : Bool} {l : List UInt8} (h : H.at' r = some (dat ro l.length 1 5 (byV l))) : BlkAt H r 0 l := by
  refine ⟨_, h, ?_⟩
  exact cellsFrom_dat l.length 0 (by rw [List.drop_zero]; exact List.take_of_length_le (by rw [by_len]; exact Nat.le_refl _)) (by_len l) (by omega)
set_option maxRecDepth 100000 in
set_option maxHeartbeats 0 in
/-- A reader over some bytes: their copy. -/
theorem read_s {H : Heap} {nx : Nat} {s : SV} {l : List UInt8} (hs : BsIs H s (byV l)) (hl : l.length ≤ 140737488355328) : Fnc Try.prog 18 [s] H nx (fun q => ∃ r b, q.1 = .ptr b 0 ∧ q.2.1.at' b = some (rdO (.slu r 0 l.length) true) ∧ q.2.1.at' r = some (dat false l.length 1 5 (byV l)) ∧ r ≠ b ∧ nx ≤ r ∧ nx ≤ b ∧ r < q.2.2 ∧ b < q.2.2 ∧ ∀ m, m < nx → q.2.1.at' m = H.at' m) := by
  refine Fnc.start Try.func18 rfl rfl ?_
  refine y_under fun hund => ?_
  have hfr : ∀ (vo : VO) (b : Nat) (x : VO), H.at' b = some x → (H.set nx vo).at' b = some x := fun vo b x hx => (Tr.at_set_other _ _ (by have := hund b x hx; omega)).trans hx
  have hs0 := hs
  obtain ⟨_, ⟨_, rfl⟩ | ⟨r0, eo, ne, ro0, t0, us, rfl, hb0, hn0, hu0⟩ | ⟨b0, o0, C0, vo0, rfl, hb0, hc0⟩⟩ := hs0
  all_goals (repeat (first | (apply w_buildSlice; exact rfl; exact rfl; exact (F.un _ rfl); exact (F.sz _ rfl); exact rfl; exact (F.ze _ rfl); exact rfl; exact rfl; exact rfl; exact rfl; exact rfl) | (first | refine y_seq ?_ | refine w_region ?_ | refine y_regEnd ?_ | (apply w_move; exact rfl; exact rfl; exact rfl) | (apply w_assign; exact rfl; exact rfl; exact rfl))))
  all_goals
    refine w_call rfl rfl rfl (by kernel_rfl) (Fnc.mono (join_s (bs := [byV l]) (ls := [_]) (Tr.at_set_same _ _ _) (LsIs.cons (hs.frame (hfr _)) (LsIs.nil _)) (by show (byV l ++ []).length ≤ _; rw [List.append_nil, by_len]; exact hl) (Nat.le_of_ble_eq_true rfl)) ?_)
    rintro _ rfl
    dsimp only
    have hfl : [byV l].flatten = byV l := List.append_nil _
    rw [hfl, by_len]
    (repeat (first | refine y_regEnd ?_ | (apply w_assign; exact rfl; exact rfl; exact rfl) | (apply w_boxN; exact rfl; exact rfl; exact rfl) | (apply w_build; exact rfl; exact rfl; exact rfl; exact (F.ze _ rfl); exact (F.pl _ rfl); exact rfl)))
    ((apply w_ret Try.func18 (congrArg Array.toList Try.results18)); (focus (repeat (first | exact ResIs.nil | apply ResIs.tmp rfl))))
    refine ⟨nx + 1, nx + 1 + 1, rfl, Tr.at_set_same _ _ _, ((Tr.at_set_other _ _ (by omega)).trans (Tr.at_set_same _ _ _)).trans (congrArg some (u8R_by _ _)), by omega, by omega, by omega, by dsimp only; omega, by dsimp only; omega, fun m hm => by (focus ((repeat (refine (Tr.at_set_other _ _ (by omega)).trans ?_)); exact rfl))⟩
end Go.Proofs.Ytdpjbpnemjdhfaa
end
section
namespace Go.Proofs.Ytdpjbpnemjdhfaa
open Go Go.Sy Go.Sl Go.RowKit
abbrev verO (s : List SV) : VO := newCells 25 s
abbrev verC (k w : SV) (x y : Nat) : List SV := [k, w, .sc (.int .u64 (x : Int)), .sc (.int .u64 (y : Int))]
def ofNo (o : Option VerT) : Nat := if o.isSome then 0 else 13
theorem BlkS.verIs {H : Heap} {k w : SV} {r : Nat} {v : VerT} (hk : BlkS H k r v.1) (hw : BlkS H w r v.2.1) : VerIs H (verS k w v.2.2.1 v.2.2.2) v := ⟨k, w, rfl, hk.bs, hw.bs⟩
def VerAt (H : Heap) (s : SV) (r : Nat) (v : VerT) : Prop := ∃ k w, s = verS k w v.2.2.1 v.2.2.2 ∧ BlkS H k r v.1 ∧ BlkS H w r v.2.1
theorem VerAt.is {H : Heap} {s : SV} {r : Nat} {v : VerT} (h : VerAt H s r v) : VerIs H s v := by
  obtain ⟨k, w, h1, h2, h3⟩ := h
  exact ⟨k, w, h1, h2.bs, h3.bs⟩
theorem VerAt.frame {H H' : Heap} {s : SV} {r : Nat} {v : VerT} (h : VerAt H s r v) (hf : H'.at' r = H.at' r) : VerAt H' s r v := by
  obtain ⟨k, w, h1, h2, h3⟩ := h
  exact ⟨k, w, h1, h2.frame hf, h3.frame hf⟩
theorem zero_at (H : Heap) (r : Nat) : VerAt H (verS nilS nilS 0 0) r zeroV := ⟨nilS, nilS, rfl, .inl ⟨rfl, rfl⟩, .inl ⟨rfl, rfl⟩⟩
theorem RdSt.frame {H H' : Heap} {b r : Nat} {st : Option (List UInt8)} (h : RdSt H b r st) (hb : H'.at' b = H.at' b) (hr : H'.at' r = H.at' r) : RdSt H' b r st := by
  cases st with
  | none => obtain ⟨s, h⟩ := h; exact ⟨s, hb.trans h⟩
  | some l => obtain ⟨o, C, h1, h2, h3⟩ := h; exact ⟨o, C, hb.trans h1, h2, h3.frame hr⟩
set_option maxRecDepth 100000 in
set_option maxHeartbeats 0 in
theorem of_s {H : Heap} {nx : Nat} {s : SV} {l : List UInt8} (hs : BsIs H s (byV l)) (hl : l.length ≤ 140737488355328) : Fnc Try.prog 8 [s] H nx (fun q => ∃ s' r, q.1 = .tup [s', .sc (.int .i64 (ofNo (ofV l) : Int))] ∧ VerAt q.2.1 s' r ((ofV l).getD zeroV) ∧ nx ≤ r ∧ nx ≤ q.2.2 ∧ ∀ m, m < nx → q.2.1.at' m = H.at' m) := by
  refine Fnc.start Try.func8 rfl rfl ?_
  refine y_under fun hund => ?_
  have hs1 : ∀ {vo : VO}, BsIs (H.set nx vo) s (byV l) := fun {vo} => hs.frame fun b x hb => (Tr.at_set_other _ _ (by have := hund b x hb; omega)).trans hb
  (repeat (first | (first | refine y_seq ?_ | refine w_region ?_ | refine y_regEnd ?_ | (apply w_move; exact rfl; exact rfl; exact rfl) | (apply w_assign; exact rfl; exact rfl; exact rfl) | (apply w_alloc; exact rfl; exact rfl; exact (F.zl _ rfl))) | (refine w_lenB rfl rfl (F.un _ rfl) rfl hs1 ?_; rw [by_len])))
  refine w_gtrS rfl rfl rfl rfl (fun h1 => ?_) (fun h1 => ?_)
  · have hv : ofV l = none := by unfold ofV; rw [if_pos (by omega)]
    (repeat (first | refine y_seq ?_ | refine w_region ?_ | refine y_regEnd ?_ | refine y_condT rfl ?_ | (apply w_assign; exact rfl; exact rfl; exact rfl) | refine w_storeC rfl rfl rfl rfl (F.sz _ rfl) (by (focus ((repeat (exact Tr.at_set_same _ _ _)); done))) rfl (by exact Nat.le_of_ble_eq_true rfl) rfl ?_ | (apply w_build; exact rfl; exact rfl; exact rfl; exact (F.ze _ rfl); exact (F.pl _ rfl); exact rfl)))
    ((apply w_ret Try.func8 (congrArg Array.toList Try.results8)); (focus (repeat (first | exact ResIs.nil | apply ResIs.tmp rfl | apply ResIs.cell rfl (LoadIs.many (F.ag _ rfl) (by (focus ((repeat (exact Tr.at_set_same _ _ _)); done))) (cellsFrom_box _ 0 rfl rfl))))))
    rw [hv]
    exact ⟨_, nx, rfl, zero_at _ _, Nat.le_refl _, Nat.le_succ _, fun m hm => (Tr.at_set_other _ _ (by omega)).trans (Tr.at_set_other _ _ (by omega))⟩
  · have hv : ofV l = finV (parseV l).2 (parseV l).1 := by unfold ofV; rw [if_neg (by omega)]
    have hp : parseV l = (((blobR (stepR (stepR (some l) 8).2 8).2).1, (blobR (blobR (stepR (stepR (some l) 8).2 8).2).2).1, beN (stepR (some l) 8).1, beN (stepR (stepR (some l) 8).2 8).1), (blobR (blobR (stepR (stepR (some l) 8).2 8).2).2).2) := rfl
    (repeat (first | refine y_seq ?_ | refine w_region ?_ | refine y_regEnd ?_ | refine y_skip ?_ | refine y_condF rfl ?_ | (apply w_move; exact rfl; exact rfl; exact rfl)))
    refine w_call rfl rfl rfl (by kernel_rfl) (Fnc.mono (read_s hs1 hl) ?_)
    rintro ⟨_, H1, n1⟩ ⟨r, b, rfl, a1, a2, a3, a4, a5, a6, a7, a8⟩
    dsimp only at a1 a2 a6 a7 a8 ⊢
    have ares : H1.at' nx = some (verO (verC nilS nilS 0 0)) := (a8 nx (by omega)).trans (Tr.at_set_same _ _ _)
    have aold : ∀ m, m < nx → H1.at' m = H.at' m := fun m hm => (a8 m (by omega)).trans (Tr.at_set_other _ _ (by omega))
    clear a8
    (repeat (first | refine y_seq ?_ | refine w_region ?_ | refine y_regEnd ?_ | (apply w_move; exact rfl; exact rfl; exact rfl) | (apply w_assign; exact rfl; exact rfl; exact rfl) | (apply w_alloc; exact rfl; exact rfl; exact (F.zl _ rfl))))
    refine w_call rfl rfl rfl (by kernel_rfl) (Fnc.mono (num_first (l := l) (n := 8) (r := r) (by (focus ((repeat (refine (Tr.at_set_other _ _ (by omega)).trans ?_)); exact a1))) (by (focus ((repeat (refine (Tr.at_set_other _ _ (by omega)).trans ?_)); exact a2))) ((bs_retell a2).frame (by (focus ((repeat (refine (Tr.at_set_other _ _ (by omega)).trans ?_)); exact rfl)))) a3 (by decide) (by decide)) ?_)
    rintro _ ⟨H2, rfl, b1, b2⟩
    dsimp only
    have bbox : H2.at' n1 = some (verO (verC nilS nilS 0 0)) := (b2 n1 (by omega)).trans (Tr.at_set_same _ _ _)
    have bres : H2.at' nx = some (verO (verC nilS nilS 0 0)) := (b2 nx (by omega)).trans ((Tr.at_set_other _ _ (by omega)).trans ares)
    have bold : ∀ m, m < nx → H2.at' m = H.at' m := fun m hm => (b2 m (by omega)).trans ((Tr.at_set_other _ _ (by omega)).trans (aold m hm))
    clear b2 a1 a2 ares aold hs1
    (repeat (first | refine y_seq ?_ | refine w_region ?_ | refine y_regEnd ?_ | (apply w_move; exact rfl; exact rfl; exact rfl) | (apply w_fieldAddr; exact rfl; exact rfl; exact rfl; exact (F.fo _ _ rfl rfl)) | refine w_storeC rfl rfl rfl rfl (F.sz _ rfl) (by (focus ((repeat (assumption)); done))) rfl (by exact Nat.le_of_ble_eq_true rfl) rfl ?_))
    refine w_call rfl rfl rfl (by kernel_rfl) (Fnc.mono (num_s (n := 8) (b1.frame (Tr.at_set_other _ _ (by omega)) (Tr.at_set_other _ _ (by omega))) a3 (by decide) (by decide)) ?_)
    rintro _ ⟨H3, rfl, c1, c2⟩
    dsimp only
    have cbox := (c2 n1 (by omega)).trans (Tr.at_set_same _ _ _)
    have cres : H3.at' nx = some (verO (verC nilS nilS 0 0)) := (c2 nx (by omega)).trans ((Tr.at_set_other _ _ (by omega)).trans bres)
    have cold : ∀ m, m < nx → H3.at' m = H.at' m := fun m hm => (c2 m (by omega)).trans ((Tr.at_set_other _ _ (by omega)).trans (bold m hm))
    clear c2 b1 bbox bres bold
    (repeat (first | refine y_seq ?_ | refine w_region ?_ | refine y_regEnd ?_ | (apply w_move; exact rfl; exact rfl; exact rfl) | (apply w_fieldAddr; exact rfl; exact rfl; exact rfl; exact (F.fo _ _ rfl rfl)) | refine w_storeC rfl rfl rfl rfl (F.sz _ rfl) (by (focus ((repeat (assumption)); done))) rfl (by exact Nat.le_of_ble_eq_true rfl) rfl ?_))
    refine w_call rfl rfl rfl (by kernel_rfl) (Fnc.mono (blobr_s (c1.frame (Tr.at_set_other _ _ (by omega)) (Tr.at_set_other _ _ (by omega))) a3) ?_)
    rintro _ ⟨k, H4, rfl, d0, d1, d2⟩
    dsimp only
    have dbox := (d2 n1 (by omega)).trans (Tr.at_set_same _ _ _)
    have dres : H4.at' nx = some (verO (verC nilS nilS 0 0)) := (d2 nx (by omega)).trans ((Tr.at_set_other _ _ (by omega)).trans cres)
    have dold : ∀ m, m < nx → H4.at' m = H.at' m := fun m hm => (d2 m (by omega)).trans ((Tr.at_set_other _ _ (by omega)).trans (cold m hm))
    clear d2 c1 cbox cres cold
    have hk1 : k.one = true := by rcases d0 with ⟨rfl, _⟩ | ⟨o, C, rfl, _⟩ <;> rfl
    (repeat (first | (first | refine y_seq ?_ | refine w_region ?_ | refine y_regEnd ?_ | (apply w_move; exact rfl; exact rfl; exact rfl) | (apply w_fieldAddr; exact rfl; exact rfl; exact rfl; exact (F.fo _ _ rfl rfl))) | (refine w_store1 rfl rfl rfl (F.sz _ rfl) (by (focus ((repeat (assumption)); done))) hk1 (by exact rfl) ?_)))
    refine w_call rfl rfl rfl (by kernel_rfl) (Fnc.mono (blobr_s (d1.frame (Tr.at_set_other _ _ (by omega)) (Tr.at_set_other _ _ (by omega))) a3) ?_)
    rintro _ ⟨w, H5, rfl, e0, e1, e2⟩
    dsimp only
    have ebox := (e2 n1 (by omega)).trans (Tr.at_set_same _ _ _)
    have eres : H5.at' nx = some (verO (verC nilS nilS 0 0)) := (e2 nx (by omega)).trans ((Tr.at_set_other _ _ (by omega)).trans dres)
    have eold : ∀ m, m < nx → H5.at' m = H.at' m := fun m hm => (e2 m (by omega)).trans ((Tr.at_set_other _ _ (by omega)).trans (dold m hm))
    have d0' : BlkS H5 k r _ := d0.frame ((e2 r a3).trans (Tr.at_set_other _ _ (by omega)))
    clear e2 d1 d0 dbox dres dold
    have hw1 : w.one = true := by rcases e0 with ⟨rfl, _⟩ | ⟨o, C, rfl, _⟩ <;> rfl
    (repeat (first | (first | refine y_seq ?_ | refine w_region ?_ | refine y_regEnd ?_ | (apply w_move; exact rfl; exact rfl; exact rfl) | (apply w_fieldAddr; exact rfl; exact rfl; exact rfl; exact (F.fo _ _ rfl rfl))) | (refine w_store1 rfl rfl rfl (F.sz _ rfl) (by (focus ((repeat (assumption)); done))) hw1 (by exact rfl) ?_)))
    refine w_call rfl rfl rfl (by kernel_rfl) (Fnc.mono (end_s (e1.frame (Tr.at_set_other _ _ (by omega)) (Tr.at_set_other _ _ (by omega)))) ?_)
    rintro _ rfl
    dsimp only
    have fold : ∀ (vo : VO) m, m < nx → (H5.set n1 vo).at' m = H.at' m := fun vo m hm => (Tr.at_set_other _ _ (by omega)).trans (eold m hm)
    rw [hv, hp]
    dsimp only
    generalize stepR (some l) 8 = p1 at *
    generalize stepR p1.2 8 = p2 at *
    generalize blobR p2.2 = p3 at *
    generalize blobR p3.2 = p4 at *
    have g1 : BlkS (H5.set n1 (verO (verC k w (beN p1.1) (beN p2.1)))) k r p3.1 := d0'.frame (Tr.at_set_other _ _ (by omega))
    have g2 : BlkS (H5.set n1 (verO (verC k w (beN p1.1) (beN p2.1)))) w r p4.1 := e0.frame (Tr.at_set_other _ _ (by omega))
    have g3 : VerIs (H5.set n1 (verO (verC k w (beN p1.1) (beN p2.1)))) (verS k w (beN p1.1) (beN p2.1)) (p3.1, p4.1, beN p1.1, beN p2.1) := BlkS.verIs (v := (p3.1, p4.1, beN p1.1, beN p2.1)) g1 g2
    have fbox : (H5.set n1 (verO (verC k w (beN p1.1) (beN p2.1)))).at' n1 = some (verO (verC k w (beN p1.1) (beN p2.1))) := Tr.at_set_same _ _ _
    have fres : (H5.set n1 (verO (verC k w (beN p1.1) (beN p2.1)))).at' nx = some (verO (verC nilS nilS 0 0)) := (Tr.at_set_other _ _ (by omega)).trans eres
    have fold2 := fold (verO (verC k w (beN p1.1) (beN p2.1)))
    refine y_gen (R := fun H6 n6 => H6 = H5.set n1 (verO (verC k w (beN p1.1) (beN p2.1))) ∧ n6 = n1 + 1) ⟨rfl, rfl⟩ ?_
    rintro H6 n6 ⟨hH6, rfl⟩
    rw [← hH6] at g1 g2 g3 fbox fres fold2
    clear hH6 d0' e0 e1 ebox eres eold fold
    by_cases he : p4.2 = some []
    · rw [show endR p4.2 = 0 by rw [he]; rfl, he]
      have hm := may_s (nx := n1 + 1) g3
      cases hmv : mayV (p3.1, p4.1, beN p1.1, beN p2.1) with
      | true =>
        rw [hmv] at hm
        have hone : allOne (verC k w (beN p1.1) (beN p2.1)) = true := by simp only [allOne, hk1, hw1]; rfl
        have hfin : finV (some []) (p3.1, p4.1, beN p1.1, beN p2.1) = some (p3.1, p4.1, beN p1.1, beN p2.1) := if_pos ⟨rfl, hmv⟩
        (repeat (first | (first | refine y_seq ?_ | refine w_region ?_ | refine y_regEnd ?_ | refine y_skip ?_ | refine y_condF rfl ?_ | (apply w_move; exact rfl; exact rfl; exact rfl) | (apply w_assign; exact rfl; exact rfl; exact rfl) | (apply w_pickF; exact rfl; exact rfl; exact rfl; exact rfl) | refine w_loadBN rfl rfl rfl (F.ag _ rfl) (by (focus ((repeat (assumption)); done))) (by exact rfl) ?_ | (apply w_notB; exact rfl; exact rfl; exact rfl)) | (refine w_neqS rfl rfl rfl rfl (fun hq => absurd rfl hq) (fun _ => ?_)) | (refine w_call rfl rfl rfl (by kernel_rfl) (Fnc.mono (hm) ?_); rintro _ rfl; dsimp only) | (refine w_storeN rfl rfl rfl (F.sz _ rfl) (by (focus ((repeat (assumption)); done))) rfl (by exact Nat.le_of_ble_eq_true rfl) hone rfl ?_)))
        ((apply w_ret Try.func8 (congrArg Array.toList Try.results8)); (focus (repeat (first | exact ResIs.nil | apply ResIs.tmp rfl | apply ResIs.cell rfl (LoadIs.many (F.ag _ rfl) (by (focus ((repeat (exact Tr.at_set_same _ _ _)); done))) (cellsFrom_box _ 0 rfl rfl))))))
        rw [hfin]
        exact ⟨_, r, rfl, ⟨k, w, rfl, g1.frame (Tr.at_set_other _ _ (by omega)), g2.frame (Tr.at_set_other _ _ (by omega))⟩, by omega, by dsimp only; omega, fun m hm => (Tr.at_set_other _ _ (by omega)).trans (fold2 m hm)⟩
      | false =>
        rw [hmv] at hm
        have hfin : finV (some []) (p3.1, p4.1, beN p1.1, beN p2.1) = none := if_neg fun h => by rw [hmv] at h; cases h.2
        (repeat (first | (first | refine y_seq ?_ | refine w_region ?_ | refine y_regEnd ?_ | refine y_condT rfl ?_ | (apply w_move; exact rfl; exact rfl; exact rfl) | (apply w_assign; exact rfl; exact rfl; exact rfl) | (apply w_pickF; exact rfl; exact rfl; exact rfl; exact rfl) | refine w_storeC rfl rfl rfl rfl (F.sz _ rfl) (by (focus ((repeat (assumption)); done))) rfl (by exact Nat.le_of_ble_eq_true rfl) rfl ?_ | refine w_loadBN rfl rfl rfl (F.ag _ rfl) (by (focus ((repeat (assumption)); done))) (by exact rfl) ?_ | (apply w_notB; exact rfl; exact rfl; exact rfl) | (apply w_build; exact rfl; exact rfl; exact rfl; exact (F.ze _ rfl); exact (F.pl _ rfl); exact rfl)) | (refine w_neqS rfl rfl rfl rfl (fun hq => absurd rfl hq) (fun _ => ?_)) | (refine w_call rfl rfl rfl (by kernel_rfl) (Fnc.mono (hm) ?_); rintro _ rfl; dsimp only)))
        ((apply w_ret Try.func8 (congrArg Array.toList Try.results8)); (focus (repeat (first | exact ResIs.nil | apply ResIs.tmp rfl | apply ResIs.cell rfl (LoadIs.many (F.ag _ rfl) (by (focus ((repeat (exact Tr.at_set_same _ _ _)); done))) (cellsFrom_box _ 0 rfl rfl))))))
        rw [hfin]
        exact ⟨_, nx, rfl, zero_at _ _, Nat.le_refl _, by dsimp only; omega, fun m hm => (Tr.at_set_other _ _ (by omega)).trans (fold2 m hm)⟩
    · rw [finV_no he, show endR p4.2 = 4 by rcases hq : p4.2 with _ | ⟨_ | ⟨c, l'⟩⟩; rfl; exact absurd hq he; rfl]
      (repeat (first | (first | refine y_seq ?_ | refine w_region ?_ | refine y_regEnd ?_ | refine y_condT rfl ?_ | (apply w_move; exact rfl; exact rfl; exact rfl) | (apply w_assign; exact rfl; exact rfl; exact rfl) | (apply w_pickT; exact rfl; exact rfl; exact rfl; exact rfl) | (apply w_not; exact rfl) | refine w_storeC rfl rfl rfl rfl (F.sz _ rfl) (by (focus ((repeat (assumption)); done))) rfl (by exact Nat.le_of_ble_eq_true rfl) rfl ?_ | (apply w_build; exact rfl; exact rfl; exact rfl; exact (F.ze _ rfl); exact (F.pl _ rfl); exact rfl)) | (refine w_neqS rfl rfl rfl rfl (fun _ => ?_) (fun hq => absurd hq (by decide)))))
      ((apply w_ret Try.func8 (congrArg Array.toList Try.results8)); (focus (repeat (first | exact ResIs.nil | apply ResIs.tmp rfl | apply ResIs.cell rfl (LoadIs.many (F.ag _ rfl) (by (focus ((repeat (exact Tr.at_set_same _ _ _)); done))) (cellsFrom_box _ 0 rfl rfl))))))
      exact ⟨_, nx, rfl, zero_at _ _, Nat.le_refl _, by dsimp only; omega, fun m hm => (Tr.at_set_other _ _ (by omega)).trans (fold2 m hm)⟩
end Go.Proofs.Ytdpjbpnemjdhfaa
end
section
namespace Go.Proofs.Ytdpjbpnemjdhfaa
open Go Go.Sy Go.Sl Go.RowKit
set_option maxRecDepth 100000 in
set_option maxHeartbeats 0 in
theorem mayr_s {H : Heap} {nx : Nat} {s : SV} {v : VerT} (hv : VerIs H s v) : Fnc Try.prog 7 [s] H nx (fun q => q = (.sc (.bool (mayV v)), H, nx)) := by
  refine Fnc.forgetV (Free.sc _) ?_
  obtain ⟨k, w, rfl, hk, hw⟩ := hv
  refine Fnc.start Try.func7 rfl rfl ?_
  refine y_under fun hund => ?_
  have hf : ∀ {vo : VO} (b : Nat) (vo' : VO), H.at' b = some vo' → (H.set nx vo).at' b = some vo' := fun b vo' hb => (Tr.at_set_other _ _ (by have := hund b vo' hb; omega)).trans hb
  have hk2 : ∀ {vo : VO}, BsIs (H.set nx vo) k (byV v.1) := fun {vo} => hk.frame hf
  have hw2 : ∀ {vo : VO}, BsIs (H.set nx vo) w (byV v.2.1) := fun {vo} => hw.frame hf
  have hm : mayV v = decide ((1 ≤ v.1.length ∧ v.1.length ≤ 32) ∧ v.2.1.length ≤ 128 ∧ (1 ≤ v.2.2.1 ∧ v.2.2.1 ≤ 4000) ∧ v.2.2.2 ≤ 4000) := rfl
  have hl1 := by_len v.1
  have hl2 := by_len v.2.1
  (repeat' (first | (first | refine y_seq ?_ | refine w_region ?_ | refine y_regEnd ?_ | (apply w_move; exact rfl; exact rfl; exact rfl) | (apply w_assign; exact rfl; exact rfl; exact rfl) | (apply w_pickT; exact rfl; exact rfl; exact rfl; exact rfl) | (apply w_pickF; exact rfl; exact rfl; exact rfl; exact rfl) | (apply w_fieldAddr; exact rfl; exact rfl; exact rfl; exact (F.fo _ _ rfl rfl)) | (apply w_not; exact rfl) | (apply w_boxN; exact rfl; exact rfl; exact rfl) | refine w_loadB1 rfl rfl rfl (F.ag _ rfl) (by (focus ((repeat (exact Tr.at_set_same _ _ _)); done))) (by exact rfl) ?_) | (refine w_lenB rfl rfl (F.un _ rfl) rfl hk2 ?_; rw [by_len]) | (refine w_lenB rfl rfl (F.un _ rfl) rfl hw2 ?_; rw [by_len]) | (refine w_gtrS rfl rfl rfl rfl ?_ ?_ <;> intro hq) | (refine w_leqS rfl rfl rfl rfl ?_ ?_ <;> intro hq2)))
  all_goals ((apply w_ret Try.func7 (congrArg Array.toList Try.results7)); (focus (repeat (first | exact ResIs.nil | apply ResIs.tmp rfl))))
  all_goals (refine ⟨?_, Nat.le_succ _, fun m hm => Tr.at_set_other _ _ (by omega)⟩)
  all_goals (rw [hm]; first | (rw [decide_eq_true (by omega)]; rfl) | (rw [decide_eq_false (by omega)]; rfl))
theorem by_flat (l : List UInt8) : l.flatMap (fun c => [Value.int .u8 (c.toNat : Int)]) = byV l := by
  induction l with
  | nil => rfl
  | cons c l ih => rw [List.flatMap_cons, ih]; rfl
theorem recB : RecOf (fun c : UInt8 => [Value.int .u8 (c.toNat : Int)]) 1 := recOne (fun _ => rfl)
set_option maxRecDepth 100000 in
set_option maxHeartbeats 0 in
theorem numr_r {H : Heap} {nx n size : Nat} (h1 : 1 ≤ size) (h2 : size ≤ 8) (hn : n ≤ 18446744073709551615) : Fnc Try.prog 22 [.sc (.int .u64 (n : Int)), .sc (.int .i64 (size : Int))] H nx
    (fun q => ∃ r', q.1 = .slu r' 0 size ∧ q.2.1.at' r' = some (dat false size 1 5 (byV (beB n size))) ∧ nx ≤ r' ∧ r' < q.2.2 ∧ nx ≤ q.2.2 ∧ ∀ m, m < nx → q.2.1.at' m = H.at' m) := by
  refine Fnc.start Try.func22 rfl rfl ?_
  (repeat (first | refine y_seq ?_ | refine w_region ?_ | refine y_regEnd ?_ | refine y_block ?_ | (apply w_move; exact rfl; exact rfl; exact rfl) | (apply w_assign; exact rfl; exact rfl; exact rfl) | (apply w_sub; exact rfl; exact rfl; exact rfl; exact rfl; (focus (omega)); (focus (omega)))))
  refine y_nilRow (d := 5) 1 5 rfl rfl ?_
  refine y_loopT (α := Nat × Nat) (fun x => [(0, .sc (.int .u64 (n : Int))), (5, .slu x.2 0 ((beB n size).take x.1).length), (6, .sc (.int .i64 ((size : Int) - 1 - (x.1 : Int))))]) (fun x H1 n1 => x.1 ≤ size ∧ nx ≤ x.2 ∧ x.2 < n1 ∧ H1.at' x.2 = some (dat false ((beB n size).take x.1).length 1 5 (((beB n size).take x.1).flatMap fun c => [Value.int .u8 (c.toNat : Int)])) ∧ ∀ m, m < nx → H1.at' m = H.at' m) (fun x => size - x.1) (0, nx)
    ⟨Nat.zero_le _, Nat.le_refl _, Nat.lt_succ_self _, Tr.at_set_same _ _ _, fun m hm => Tr.at_set_other _ _ (by omega)⟩ (SlIn.sub (by repeat (first | exact trivial | refine ⟨rfl, ?_⟩ | refine ⟨sl_eq (by (omega)), ?_⟩))) ?_
  rintro ⟨j, r⟩ H1 n1 ⟨a1, a2, a3, a4, a5⟩ ih
  dsimp only at a1 a2 a3 a4 a5 ih ⊢
  (repeat (first | refine y_seq ?_ | refine w_region ?_ | (apply w_move; exact rfl; exact rfl; exact rfl)))
  refine w_geqS rfl rfl rfl rfl (fun h => ?_) (fun h => ?_)
  · have hj : j < size := by omega
    have hl : ((beB n size).take j).length = j := by rw [List.length_take, beB_len]; omega
    have htk := put_take (n := n) hj
    have hmul : IntKind.u64.wrap (8 * ((size - 1 - j : Nat) : Int)) = ((8 * (size - 1 - j) : Nat) : Int) := (Go.IntWalk.u64_in _ ⟨by omega, by omega⟩).trans (by omega)
    (repeat (first | (first | refine y_seq ?_ | refine w_region ?_ | refine y_regEnd ?_ | refine y_block ?_ | refine y_skip ?_ | refine y_condT rfl ?_ | (apply w_move; exact rfl; exact rfl; exact rfl)) | (apply w_conv; exact rfl; exact rfl; exact rfl; exact (F.un _ rfl); exact (F.un _ rfl); exact (show _ = ((size - 1 - j : Nat) : Int) from (Go.IntWalk.u64_in _ ⟨by omega, by omega⟩).trans (by omega)))))
    (apply w_mulW; exact rfl; exact rfl; exact rfl; exact rfl)
    rw [hmul]
    (repeat (first | (first | refine w_region ?_ | refine y_regEnd ?_ | refine y_inBlock ?_ | (apply w_move; exact rfl; exact rfl; exact rfl) | (apply w_assign; exact rfl; exact rfl; exact rfl) | (apply w_sub; exact rfl; exact rfl; exact rfl; exact rfl; (focus (omega)); (focus (omega)))) | ((apply w_shrC; exact rfl; exact rfl; exact rfl; exact rfl; (focus (omega)); exact (shrB (k := size - 1 - j) (by omega) (by omega)))) | (apply w_conv; exact rfl; exact rfl; exact rfl; exact (F.un _ rfl); exact (F.un _ rfl); exact (wrap8 _)) | (apply w_buildSlice; exact rfl; exact rfl; exact (F.un _ rfl); exact (F.sz _ rfl); exact rfl; exact (F.ze _ rfl); exact rfl; exact rfl; exact rfl; exact rfl; exact rfl) | refine w_push (b := 1) (xs := (beB n size).take j) (a := UInt8.ofNat (n / 256 ^ (size - 1 - j))) rfl rfl rfl rfl (F.un _ rfl) (.inl ⟨_, F.un _ rfl⟩) (F.sz _ rfl) rfl (by kernel_rfl) (by kernel_rfl) (by (focus ((repeat (first | assumption | refine (Tr.at_set_other _ _ (by omega)).trans ?_)); done))) (by (focus ((repeat (exact Tr.at_set_same _ _ _)); done))) (by exact rfl) (recB) (by omega) (by omega) ?_))
    refine ih _ _ _ (j + 1, n1 + 1) ⟨hj, by dsimp only; omega, by dsimp only; omega, ?_, fun m hm => ?_⟩ (by dsimp only; omega) ?_
    · dsimp only
      rw [htk]
      exact Tr.at_set_same _ _ _
    · refine (Tr.at_set_other _ _ (by omega)).trans ((Tr.at_del_other _ (by omega)).trans ((Tr.at_set_other _ _ (by omega)).trans (a5 m hm)))
    · dsimp only
      rw [htk, show (size : Int) - 1 - ((j + 1 : Nat) : Int) = (size : Int) - 1 - (j : Int) - 1 by omega]
      exact SlIn.sub (by repeat (first | exact trivial | refine ⟨rfl, ?_⟩))
  · obtain rfl : j = size := by omega
    rw [List.take_of_length_le (by rw [beB_len]; exact Nat.le_refl _)] at a4 ⊢
    (repeat (first | refine y_seq ?_ | refine w_region ?_ | refine y_regEnd ?_ | refine y_exit rfl ?_ | refine y_condF rfl ?_ | (apply w_move; exact rfl; exact rfl; exact rfl) | (apply w_assign; exact rfl; exact rfl; exact rfl)))
    ((apply w_ret Try.func22 (congrArg Array.toList Try.results22)); (focus (repeat (first | exact ResIs.nil | apply ResIs.tmp rfl))))
    rw [by_flat] at a4
    rw [beB_len] at a4 ⊢
    exact ⟨r, rfl, a4, a2, a3, by dsimp only; omega, a5⟩
end Go.Proofs.Ytdpjbpnemjdhfaa
end
