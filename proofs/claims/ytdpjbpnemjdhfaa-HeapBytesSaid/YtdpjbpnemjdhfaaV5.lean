/-
  Texts of the proof, merged: Hs Hb P3 P4 P5 P6 P7 H3 SyAq H4 H5 H6 H7 H8 Hz H9 Hk Ht Hn.
-/
import Derived.Laws.StructEq
import Derived.ChangeKeysEq
import Derived.Test.YtdpjbpnemjdhfaaV4
set_option linter.unusedVariables false
set_option linter.unusedSimpArgs false
section
namespace Go.Proofs.Ytdpjbpnemjdhfaa
open Go Go.Sy Go.Sl Go.RowKit
set_option maxRecDepth 100000 in
set_option maxHeartbeats 0 in
theorem getr_s {H : Heap} {nx : Nat} {s : SV} {bs : List UInt8} (hb : BsIs H s (byV bs)) (h2 : bs.length ≤ 8) : Fnc Try.prog 23 [s] H nx (fun q => q = (.sc (.int .u64 (beN bs : Int)), H, nx)) := by
  have hlen : (byV bs).length = bs.length := by simp
  refine Fnc.start Try.func23 rfl rfl ?_
  (repeat (first | refine y_seq ?_ | refine w_region ?_ | refine y_regEnd ?_ | refine y_block ?_ | (apply w_assign; exact rfl; exact rfl; exact rfl)))
  refine y_loopT (α := Nat) (fun j => [(0, s), (3, .sc (.int .u64 (beN (bs.take j) : Int))), (4, .sc (.int .i64 (j : Int)))]) (fun j H1 n1 => H1 = H ∧ n1 = nx ∧ j ≤ bs.length) (fun j => bs.length - j) 0
    ⟨rfl, rfl, Nat.zero_le _⟩ (SlIn.sub (by repeat (first | exact trivial | refine ⟨rfl, ?_⟩))) ?_
  rintro j H1 n1 ⟨rfl, rfl, h3⟩ ih
  (repeat (first | (first | refine y_seq ?_ | refine w_region ?_ | (apply w_move; exact rfl; exact rfl; exact rfl)) | (refine w_lenB rfl rfl (F.un _ rfl) rfl hb ?_; rw [hlen])))
  refine w_lssS rfl rfl rfl rfl (fun h4 => ?_) (fun h4 => ?_)
  · have hj : j < bs.length := by omega
    have hlt := beN_lt (bs.take j)
    rw [List.length_take, Nat.min_eq_left (by omega)] at hlt
    have hp : 256 ^ j ≤ 256 ^ 7 := Nat.pow_le_pow_right (by decide) (by omega)
    have hn : beN (bs.take j) < 72057594037927936 := Nat.lt_of_lt_of_le hlt hp
    (repeat (first | (first | refine y_seq ?_ | refine w_region ?_ | refine y_regEnd ?_ | refine y_block ?_ | refine y_skip ?_ | refine y_condT rfl ?_ | (apply w_move; exact rfl; exact rfl; exact rfl)) | ((apply w_shlC; exact rfl; exact rfl; exact rfl; exact rfl; (focus (decide)); exact (shl8 hn)))))
    refine w_idxB (j := j) rfl rfl rfl rfl (F.un _ rfl) (F.sz _ rfl) hb (by omega) ?_
    intro b o vo hvo hcell
    rw [byV_get] at hcell
    have hc := (bs[j]).toNat_lt
    (repeat (first | (first | refine w_region ?_ | refine y_regEnd ?_ | refine y_inBlock ?_ | (apply w_move; exact rfl; exact rfl; exact rfl) | (apply w_assign; exact rfl; exact rfl; exact rfl) | (apply w_add; exact rfl; exact rfl; exact rfl; exact rfl; (focus (omega)); (focus (omega)))) | (refine w_cell rfl rfl rfl (F.ag _ rfl) hvo hcell ?_) | (apply w_conv; exact rfl; exact rfl; exact rfl; exact (F.un _ rfl); exact (F.un _ rfl); exact (show _ = ((bs[j].toNat : Nat) : Int) from Go.IntWalk.u64_in _ ⟨by omega, by omega⟩)) | ((apply w_bitC; exact rfl; exact rfl; exact rfl; exact rfl; exact (.inr (.inl rfl)); exact (or8 hn hc)))))
    refine ih _ _ _ (j + 1) ⟨rfl, rfl, by omega⟩ (by omega) ?_
    rw [beN_take hj]
    exact SlIn.sub (by repeat (first | exact trivial | refine ⟨rfl, ?_⟩))
  · obtain rfl : j = bs.length := by omega
    rw [List.take_length]
    (repeat (first | refine y_seq ?_ | refine w_region ?_ | refine y_regEnd ?_ | refine y_exit rfl ?_ | refine y_condF rfl ?_ | (apply w_move; exact rfl; exact rfl; exact rfl) | (apply w_assign; exact rfl; exact rfl; exact rfl)))
    ((apply w_ret Try.func23 (congrArg Array.toList Try.results23)); (focus (repeat (first | exact ResIs.nil | apply ResIs.tmp rfl))))
    rfl
theorem bs_u8 {H : Heap} {s : SV} {l : List UInt8} (h : BsIs H s (byV l)) : BsIs H s (u8L ⟨l.toArray⟩) := h
theorem beq_self (b : ByteArray) : (b == b) = true := (MapKept.bytes_beq b b).2 rfl
set_option maxRecDepth 100000 in
set_option maxHeartbeats 0 in
theorem same_s {H : Heap} {nx : Nat} {a b : SV} {v : VerT} (ha : VerIs H a v) (hb : VerIs H b v) : Fnc Try.prog 10 [a, b] H nx (fun q => q = (.sc (.bool true), H, nx)) := by
  refine Fnc.forgetV (Free.sc _) ?_
  obtain ⟨k, w, rfl, hk, hw⟩ := ha
  obtain ⟨k', w', rfl, hk', hw'⟩ := hb
  refine Fnc.start Try.func10 rfl rfl ?_
  refine y_under fun hund => ?_
  have hf : ∀ {vo vo' : VO} (b : Nat) (w : VO), H.at' b = some w → ((H.set nx vo).set (nx + 1) vo').at' b = some w := fun b w hb => by
    have := hund b w hb
    exact (Tr.at_set_other _ _ (by omega)).trans ((Tr.at_set_other _ _ (by omega)).trans hb)
  have k1 : ∀ {vo vo' : VO}, BsIs ((H.set nx vo).set (nx + 1) vo') k (u8L ⟨v.1.toArray⟩) := bs_u8 (hk.frame hf)
  have k2 : ∀ {vo vo' : VO}, BsIs ((H.set nx vo).set (nx + 1) vo') k' (u8L ⟨v.1.toArray⟩) := bs_u8 (hk'.frame hf)
  have w1 : ∀ {vo vo' : VO}, BsIs ((H.set nx vo).set (nx + 1) vo') w (u8L ⟨v.2.1.toArray⟩) := bs_u8 (hw.frame hf)
  have w2 : ∀ {vo vo' : VO}, BsIs ((H.set nx vo).set (nx + 1) vo') w' (u8L ⟨v.2.1.toArray⟩) := bs_u8 (hw'.frame hf)
  (repeat (first | (first | refine y_seq ?_ | refine w_region ?_ | refine y_regEnd ?_ | (apply w_move; exact rfl; exact rfl; exact rfl) | (apply w_assign; exact rfl; exact rfl; exact rfl) | (apply w_pickT; exact rfl; exact rfl; exact rfl; exact rfl) | (apply w_fieldAddr; exact rfl; exact rfl; exact rfl; exact (F.fo _ _ rfl rfl)) | (apply w_boxN; exact rfl; exact rfl; exact rfl) | refine w_loadB1 rfl rfl rfl (F.ag _ rfl) (by (focus ((repeat (first | exact Tr.at_set_same _ _ _ | refine (Tr.at_set_other _ _ (by omega)).trans ?_)); done))) (by exact rfl) ?_) | (refine w_eqlS rfl rfl rfl rfl (fun _ => ?_) (fun hq => absurd rfl hq)) | (refine w_toStr rfl rfl (F.un _ rfl) (F.un _ rfl) (F.un _ rfl) rfl k1 ?_) | (refine w_toStr rfl rfl (F.un _ rfl) (F.un _ rfl) (F.un _ rfl) rfl k2 ?_) | (refine w_toStr rfl rfl (F.un _ rfl) (F.un _ rfl) (F.un _ rfl) rfl w1 ?_) | (refine w_toStr rfl rfl (F.un _ rfl) (F.un _ rfl) (F.un _ rfl) rfl w2 ?_) | ((apply w_eqStrV (r := true); exact rfl; exact rfl; exact rfl; exact rfl; exact (beq_self _)))))
  ((apply w_ret Try.func10 (congrArg Array.toList Try.results10)); (focus (repeat (first | exact ResIs.nil | apply ResIs.tmp rfl))))
  exact ⟨rfl, by dsimp only; omega, fun m hm => (Tr.at_set_other _ _ (by omega)).trans (Tr.at_set_other _ _ (by omega))⟩
theorem y_fixcapV {P : Program} {ro : Option Nat} {fn nt : Nat} {T : Tr SV} {k : List AIt} {dfs : List ADf} {H : Heap} {nx : Nat} {Q : Pst} {t r n ne sz : Nat} {rr : Bool} {rt : TypeId} {c : Tr SV} (hT : T.at' t = some (.slu r 0 n)) (hb : H.at' r = some (.row rr ne sz rt c)) (h0 : 0 < ne)
    (h : ∀ C, ne ≤ C → Wp P ro ⟨fn, nt, T.set t (.sl r 0 n C), k, dfs, H, nx⟩ Q) : Wp P ro ⟨fn, nt, T, k, dfs, H, nx⟩ Q := by
  refine ⟨fun K w0 e w tmps todo ds kd rof cs hS hTr htd hds hc2 => ?_⟩
  obtain ⟨z, hz, hlz⟩ := hS.rel _ _ hb
  obtain ⟨g1, g2, g3, g4⟩ := Lies.row hlz
  have hnil := g3 h0
  have hT2 : TRel e nt (T.set t (.sl r 0 n z.cap)) tmps := by
    refine ⟨hTr.1, fun t' u hs => ?_⟩
    rcases Tr.at_set hs with ⟨rfl, rfl⟩ | ⟨_, hs⟩
    · obtain ⟨v, f1, f2⟩ := hTr.2 _ _ hT
      refine ⟨v, ?_, f2⟩
      rw [← f1]
      simp [SV.conc, hz, Ent.at_some hnil]
    · exact hTr.2 _ _ hs
  exact (h z.cap g4).run K w0 e w tmps todo ds kd rof cs hS hT2 htd hds hc2
def FormV (s : SV) : Prop := ∃ k w x y, s = verS k w x y ∧ k.one = true ∧ w.one = true
theorem isBs {H : Heap} {r : Nat} {l : List UInt8} (h : BlkAt H r 0 l) {o n : Nat} (ho : o + n ≤ l.length) : BlkAt H r o ((l.drop o).take n) := by
  have := ((h.part (n := o) (by omega)).2.part (n := n) (by rw [List.length_drop]; omega)).1
  rwa [Nat.zero_add] at this
set_option maxRecDepth 100000 in
set_option maxHeartbeats 0 in
theorem ofr_s {H : Heap} {nx r : Nat} {ro : Bool} {l : List UInt8} (hr : H.at' r = some (dat ro l.length 1 5 (byV l))) (hl : l.length ≤ 100000) : Fnc Try.prog 11 [.slu r 0 l.length] H nx (fun q => ∃ s', q.1 = .tup [s', .sc (.bool (ofR l).isSome)] ∧ FormV s' ∧ (∀ v, ofR l = some v → VerAt q.2.1 s' r v) ∧ nx ≤ q.2.2 ∧ ∀ m, m < nx → q.2.1.at' m = H.at' m) := by
  refine Fnc.start Try.func11 rfl rfl ?_
  refine y_under fun hund => ?_
  have lr := hund _ _ hr
  (repeat (first | refine y_seq ?_ | refine w_region ?_ | refine y_regEnd ?_ | (apply w_move; exact rfl; exact rfl; exact rfl) | (apply w_assign; exact rfl; exact rfl; exact rfl) | (apply w_alloc; exact rfl; exact rfl; exact (F.zl _ rfl)) | (apply w_lenSl; exact rfl; exact rfl; exact rfl; exact (F.un _ rfl))))
  refine w_lssS rfl rfl rfl rfl (fun h1 => ?_) (fun h1 => ?_)
  · have hv : ofR l = none := by unfold ofR; rw [if_pos (by omega)]
    (repeat (first | refine y_seq ?_ | refine w_region ?_ | refine y_regEnd ?_ | refine y_condT rfl ?_ | (apply w_assign; exact rfl; exact rfl; exact rfl) | refine w_storeC rfl rfl rfl rfl (F.sz _ rfl) (by (focus ((repeat (exact Tr.at_set_same _ _ _)); done))) rfl (by exact Nat.le_of_ble_eq_true rfl) rfl ?_ | (apply w_build; exact rfl; exact rfl; exact rfl; exact (F.ze _ rfl); exact (F.pl _ rfl); exact rfl)))
    ((apply w_ret Try.func11 (congrArg Array.toList Try.results11)); (focus (repeat (first | exact ResIs.nil | apply ResIs.tmp rfl | apply ResIs.cell rfl (LoadIs.many (F.ag _ rfl) (by (focus ((repeat (exact Tr.at_set_same _ _ _)); done))) (cellsFrom_box _ 0 rfl rfl))))))
    rw [hv]
    exact ⟨_, rfl, ⟨_, _, _, _, rfl, rfl, rfl⟩, fun v h => (by cases h), by dsimp only; omega, fun m hm => (Tr.at_set_other _ _ (by omega)).trans (Tr.at_set_other _ _ (by omega))⟩
  · have h20 : 20 ≤ l.length := by omega
    have hr1 : (H.set nx (verO (verC nilS nilS 0 0))).at' r = some (dat ro l.length 1 5 (byV l)) := (Tr.at_set_other _ _ (by omega)).trans hr
    have hB1 : ∀ H' : Heap, H'.at' r = H.at' r → BlkAt H' r 0 l := fun H' h => bs_retell (h.trans hr)
    refine y_fixcapV (t := 0) rfl hr1 (by omega) ?_
    intro C hC
    have hk16 : ((l.drop 16).take 2).length = 2 := by rw [List.length_take, List.length_drop]; omega
    have hklt := beN_lt ((l.drop 16).take 2)
    rw [hk16] at hklt
    (repeat (first | refine y_seq ?_ | refine w_region ?_ | refine y_regEnd ?_ | refine y_skip ?_ | refine y_condF rfl ?_ | (apply w_move; exact rfl; exact rfl; exact rfl)))
    (apply w_cutS (lw := 16) (hg := 18); exact rfl; exact rfl; exact rfl; exact (F.un _ rfl); exact (F.sz _ rfl); exact (bd_n rfl rfl); exact (bd_n rfl rfl); (focus (omega)); (focus (omega)); exact (if_neg (by omega)))
    refine w_call rfl rfl rfl (by kernel_rfl) (Fnc.mono (getr_s (s := .sl r 16 (18 - 16) (C - 16)) (bs := (l.drop 16).take 2) (by have := (isBs (hB1 _ (Tr.at_set_other _ _ (by omega) : (H.set nx (verO (verC nilS nilS 0 0))).at' r = H.at' r)) (o := 16) (n := 2) (by omega)).bs (C := C - 16); rwa [hk16] at this) (by omega)) ?_)
    rintro _ rfl
    dsimp only
    have hof : ofR l = (if l.length < 20 + beN ((l.drop 16).take 2) then none else if mayV (verR l) = true ∧ beN ((l.drop (18 + beN ((l.drop 16).take 2))).take 2) = (l.drop (20 + beN ((l.drop 16).take 2))).length then some (verR l) else none) := by unfold ofR; rw [if_neg (by omega)]
    have hver : verR l = ((l.drop 18).take (beN ((l.drop 16).take 2)), l.drop (20 + beN ((l.drop 16).take 2)), beN (l.take 8), beN ((l.drop 8).take 8)) := rfl
    generalize beN ((l.drop 16).take 2) = kk at hklt hof hver ⊢
    (repeat (first | (first | refine y_seq ?_ | refine w_region ?_ | refine y_regEnd ?_ | (apply w_move; exact rfl; exact rfl; exact rfl) | (apply w_assign; exact rfl; exact rfl; exact rfl) | (apply w_add; exact rfl; exact rfl; exact rfl; exact rfl; (focus (omega)); (focus (omega)))) | (apply w_conv; exact rfl; exact rfl; exact rfl; exact (F.un _ rfl); exact (F.un _ rfl); exact (show _ = ((kk : Nat) : Int) from Go.IntWalk.i64_in _ ⟨by omega, by omega⟩)) | ((apply w_lenS; exact rfl; exact rfl; exact rfl; exact (F.un _ rfl)))))
    refine w_lssS rfl rfl rfl rfl (fun h2 => ?_) (fun h2 => ?_)
    · have hv : ofR l = none := by rw [hof, if_pos (by omega)]
      (repeat (first | refine y_seq ?_ | refine w_region ?_ | refine y_regEnd ?_ | refine y_condT rfl ?_ | (apply w_assign; exact rfl; exact rfl; exact rfl) | refine w_storeC rfl rfl rfl rfl (F.sz _ rfl) (by (focus ((repeat (exact Tr.at_set_same _ _ _)); done))) rfl (by exact Nat.le_of_ble_eq_true rfl) rfl ?_ | (apply w_build; exact rfl; exact rfl; exact rfl; exact (F.ze _ rfl); exact (F.pl _ rfl); exact rfl)))
      ((apply w_ret Try.func11 (congrArg Array.toList Try.results11)); (focus (repeat (first | exact ResIs.nil | apply ResIs.tmp rfl | apply ResIs.cell rfl (LoadIs.many (F.ag _ rfl) (by (focus ((repeat (exact Tr.at_set_same _ _ _)); done))) (cellsFrom_box _ 0 rfl rfl))))))
      rw [hv]
      exact ⟨_, rfl, ⟨_, _, _, _, rfl, rfl, rfl⟩, fun v h => (by cases h), by dsimp only; omega, fun m hm => (Tr.at_set_other _ _ (by omega)).trans (Tr.at_set_other _ _ (by omega))⟩
    · have hv := hof
      rw [if_neg (by omega)] at hv
      clear hof
      have l8 : (l.take 8).length = 8 := by rw [List.length_take]; omega
      have l16 : ((l.drop 8).take 8).length = 8 := by rw [List.length_take, List.length_drop]; omega
      have g8 : ∀ (H' : Heap) (nx' : Nat), H'.at' r = H.at' r → Fnc Try.prog 23 [.sl r (0 + 0) (8 - 0) (C - 0)] H' nx' (fun q => q = (.sc (.int .u64 (beN (l.take 8) : Int)), H', nx')) := fun H' nx' h => getr_s (by
        have := (isBs (hB1 H' h) (o := 0) (n := 8) (by omega)).bs (C := C - 0)
        rwa [List.drop_zero, l8] at this) (by omega)
      have g16 : ∀ (H' : Heap) (nx' : Nat), H'.at' r = H.at' r → Fnc Try.prog 23 [.sl r (0 + 8) (16 - 8) (C - 8)] H' nx' (fun q => q = (.sc (.int .u64 (beN ((l.drop 8).take 8) : Int)), H', nx')) := fun H' nx' h => getr_s (by
        have := (isBs (hB1 H' h) (o := 8) (n := 8) (by omega)).bs (C := C - 8)
        rwa [l16] at this) (by omega)
      have lk : ((l.drop 18).take kk).length = kk := by rw [List.length_take, List.length_drop]; omega
      have lv : (l.drop (20 + kk)).length = l.length - (20 + kk) := List.length_drop
      have hK : ∀ H' : Heap, H'.at' r = H.at' r → BlkS H' (.sl r (0 + 18) (18 + kk - 18) (C - 18)) r (verR l).1 := fun H' h => by
        rw [hver]
        refine .inr ⟨18, C - 18, ?_, isBs (hB1 H' h) (by omega)⟩
        rw [lk, Nat.zero_add, Nat.add_sub_cancel_left]
      have hV : ∀ H' : Heap, H'.at' r = H.at' r → BlkS H' (.sl r (if C = 20 + kk then 0 else 0 + (20 + kk)) (l.length - (20 + kk)) (C - (20 + kk))) r (verR l).2.1 := fun H' h => by
        rw [hver]
        refine .inr ⟨if C = 20 + kk then 0 else 0 + (20 + kk), C - (20 + kk), by rw [lv], ?_⟩
        by_cases hc : C = 20 + kk
        · have : l.drop (20 + kk) = [] := List.drop_of_length_le (by omega)
          rw [this]
          exact BlkAt.none _ (h.trans hr) _
        · rw [if_neg hc, Nat.zero_add]
          have := ((hB1 H' h).part (n := 20 + kk) (by omega)).2
          rwa [Nat.zero_add] at this
      (repeat (first | refine y_seq ?_ | refine y_regEnd ?_ | refine y_skip ?_ | refine y_condF rfl ?_))
      (apply w_drawQ; (focus (kernel_rfl)); (focus (kernel_rfl)))
      refine dq_some 2 (Nat.le_of_ble_eq_true rfl) ?_
      (repeat (first | (apply dw_move; exact rfl; exact rfl; exact rfl) | (apply dk_read; exact rfl; exact rfl; exact (fun _ h => by cases h); exact (rd_cutS (l := 0) (h := 8) (F.un _ rfl) (F.sz _ rfl) rfl bd_none (bd_n rfl rfl) (by omega) (by omega) (if_neg (by omega))))))
      (refine dk_nil ?_); refine dq_call rfl rfl rfl (by kernel_rfl) (g8 _ _ (by (focus ((repeat (refine (Tr.at_set_other _ _ (by omega)).trans ?_)); exact rfl)))) ?_
      refine dq_some 2 (Nat.le_of_ble_eq_true rfl) ?_
      (repeat (first | (apply dw_move; exact rfl; exact rfl; exact rfl) | (apply dk_read; exact rfl; exact rfl; exact (fun _ h => by cases h); exact (rd_cutS (l := 8) (h := 16) (F.un _ rfl) (F.sz _ rfl) rfl (bd_n rfl rfl) (bd_n rfl rfl) (by omega) (by omega) (if_neg (by omega))))))
      (refine dk_nil ?_); refine dq_call rfl rfl rfl (by kernel_rfl) (g16 _ _ (by (focus ((repeat (refine (Tr.at_set_other _ _ (by omega)).trans ?_)); exact rfl)))) ?_
      refine dq_all ?_
      (repeat (first | (first | (apply dw_move; exact rfl; exact rfl; exact rfl) | (apply dw_alloc; exact rfl; exact rfl; exact (F.zl _ rfl)) | (apply dw_add; exact rfl; exact rfl; exact rfl; exact rfl; (focus (omega)); (focus (omega))) | (apply dw_build; exact rfl; exact rfl; exact rfl; exact (F.ze _ rfl); exact (F.pl _ rfl); exact rfl) | refine dw_storeC rfl rfl rfl rfl (F.sz _ rfl) (by (focus ((repeat (exact Tr.at_set_same _ _ _)); done))) rfl (by exact Nat.le_of_ble_eq_true rfl) rfl ?_) | (apply dk_read; exact rfl; exact rfl; exact (fun _ h => by cases h); exact (rd_cutS (l := 18) (h := 18 + kk) (F.un _ rfl) (F.sz _ rfl) rfl (bd_n rfl rfl) (bd_n rfl (by omega)) (by omega) (by omega) (if_neg (by omega)))) | (apply dk_read; exact rfl; exact rfl; exact (fun _ h => by cases h); exact (rd_cutS (l := 20 + kk) (h := l.length) (F.un _ rfl) (F.sz _ rfl) rfl (bd_n rfl (by omega)) bd_none (by omega) (by omega) rfl))))
      (refine dk_nil ?_); (refine ⟨by kernel_rfl, ?_, ?_⟩); (focus (repeat (first | exact trivial | refine ⟨.inl rfl, ?_⟩ | refine ⟨.inr (.inl (by (repeat (refine ⟨(by first | exact rd_arith rfl rfl (.inl ⟨rfl, (Go.IntWalk.i64_in _ ⟨by omega, by omega⟩).symm⟩) | exact rd_move rfl | exact rd_build rfl (F.ze _ rfl) (F.pl _ rfl) rfl | exact rd_cutS (l := 0) (h := 8) (F.un _ rfl) (F.sz _ rfl) rfl bd_none (bd_n rfl rfl) (by omega) (by omega) (if_neg (by omega)) | exact rd_cutS (l := 8) (h := 16) (F.un _ rfl) (F.sz _ rfl) rfl (bd_n rfl rfl) (bd_n rfl rfl) (by omega) (by omega) (if_neg (by omega)) | exact rd_cutS (l := 18) (h := 18 + kk) (F.un _ rfl) (F.sz _ rfl) rfl (bd_n rfl rfl) (bd_n rfl (by omega)) (by omega) (by omega) (if_neg (by omega)) | exact rd_cutS (l := 20 + kk) (h := l.length) (F.un _ rfl) (F.sz _ rfl) rfl (bd_n rfl (by omega)) bd_none (by omega) (by omega) rfl), ?_⟩)); exact trivial)), ?_⟩ | refine ⟨.inr (.inr (by (repeat (refine ⟨(by exact eff_call rfl (by kernel_rfl) (by first | exact g8 _ _ (by (focus ((repeat (refine (Tr.at_set_other _ _ (by omega)).trans ?_)); exact rfl))) | exact g16 _ _ (by (focus ((repeat (refine (Tr.at_set_other _ _ (by omega)).trans ?_)); exact rfl))))), ?_⟩)); exact trivial)), ?_⟩)))
      obtain ⟨kS, hkS⟩ : ∃ kS, kS = SV.sl r (0 + 18) (18 + kk - 18) (C - 18) := ⟨_, rfl⟩
      refine y_gen (R := fun H7 n7 => n7 = nx + 1 + 1 ∧ H7.at' (nx + 1) = some (verO (verC (.sl r (0 + 18) (18 + kk - 18) (C - 18)) (.sl r (if C = 20 + kk then 0 else 0 + (20 + kk)) (l.length - (20 + kk)) (C - (20 + kk))) (beN (l.take 8)) (beN ((l.drop 8).take 8)))) ∧ H7.at' nx = some (verO (verC nilS nilS 0 0)) ∧ ∀ m, m < nx → H7.at' m = H.at' m) ⟨rfl, by (focus ((repeat (exact Tr.at_set_same _ _ _)); done)), by (focus ((repeat (first | exact Tr.at_set_same _ _ _ | refine (Tr.at_set_other _ _ (by omega)).trans ?_)); done)), fun m hm => by (focus ((repeat (refine (Tr.at_set_other _ _ (by omega)).trans ?_)); exact rfl))⟩ ?_
      rintro H7 n7 ⟨rfl, b5, b2, bo⟩
      clear kS hkS g8 g16 l8 l16 hr1 hk16
      have br : H7.at' r = H.at' r := bo r lr
      have hat : ∀ H' : Heap, H'.at' r = H7.at' r → VerAt H' (verS (.sl r (0 + 18) (18 + kk - 18) (C - 18)) (.sl r (if C = 20 + kk then 0 else 0 + (20 + kk)) (l.length - (20 + kk)) (C - (20 + kk))) (beN (l.take 8)) (beN ((l.drop 8).take 8))) r (verR l) := fun H' h => ⟨_, _, by rw [hver], hK H' (h.trans br), hV H' (h.trans br)⟩
      have cM : ∀ (H' : Heap) (nx' : Nat), H'.at' r = H7.at' r → Fnc Try.prog 7 [verS (.sl r (0 + 18) (18 + kk - 18) (C - 18)) (.sl r (if C = 20 + kk then 0 else 0 + (20 + kk)) (l.length - (20 + kk)) (C - (20 + kk))) (beN (l.take 8)) (beN ((l.drop 8).take 8))] H' nx' (fun q => q = (.sc (.bool (mayV (verR l))), H', nx')) := fun H' nx' h => mayr_s (hat H' h).is
      have l2 : ((l.drop (18 + kk)).take 2).length = 2 := by rw [List.length_take, List.length_drop]; omega
      have g2 : ∀ (H' : Heap) (nx' : Nat), H'.at' r = H7.at' r → Fnc Try.prog 23 [.sl r (0 + (18 + kk)) (20 + kk - (18 + kk)) (C - (18 + kk))] H' nx' (fun q => q = (.sc (.int .u64 (beN ((l.drop (18 + kk)).take 2) : Int)), H', nx')) := fun H' nx' h => getr_s (by
        have := (isBs (hB1 H' (h.trans br)) (o := 18 + kk) (n := 2) (by omega)).bs (C := C - (18 + kk))
        rw [Nat.zero_add, show 20 + kk - (18 + kk) = 2 by omega]
        rwa [l2] at this) (by omega)
      have hn2 := beN_lt ((l.drop (18 + kk)).take 2)
      rw [l2] at hn2
      generalize beN ((l.drop (18 + kk)).take 2) = n2 at hn2 hv g2
      (repeat (refine y_seq ?_))
      cases hm : mayV (verR l) with
      | false =>
        rw [hm] at cM
        have hno : ofR l = none := by rw [hv, if_neg (fun h => by rw [hm] at h; cases h.1)]
        (apply w_drawQ; (focus (kernel_rfl)); (focus (kernel_rfl)))
        refine dq_some 2 (Nat.le_of_ble_eq_true rfl) ?_
        (repeat (refine dw_loadBN rfl rfl rfl (F.ag _ rfl) (by (focus ((repeat (assumption)); done))) (by exact rfl) ?_))
        (refine dk_nil ?_); (apply dq_call; exact rfl; exact rfl; exact rfl; (focus (kernel_rfl)); exact (cM _ _ rfl))
        refine dq_all ?_
        (repeat (first | (apply dw_move; exact rfl; exact rfl; exact rfl) | (apply dw_assign; exact rfl; exact rfl; exact rfl) | (apply dw_pickF; exact rfl; exact rfl; exact rfl; exact rfl) | (apply dk_skip; exact rfl; exact rfl) | refine dw_storeC rfl rfl rfl rfl (F.sz _ rfl) (by (focus ((repeat (assumption)); done))) rfl (by exact Nat.le_of_ble_eq_true rfl) rfl ?_))
        (refine dk_nil ?_); (refine ⟨by kernel_rfl, ?_, ?_⟩); (focus (repeat (first | exact trivial | refine ⟨.inl rfl, ?_⟩ | refine ⟨.inr (.inl (by (repeat (refine ⟨(by first | exact rd_move rfl | exact rd_assign rfl | exact rd_pickF rfl rfl | exact rd_loadN (F.ag _ rfl) rfl (by (focus ((repeat (first | assumption | refine (Tr.at_set_other _ _ (by omega)).trans ?_)); done))) (cellsFrom_box _ 0 rfl rfl)), ?_⟩)); exact trivial)), ?_⟩ | refine ⟨.inr (.inr (by (repeat (refine ⟨(by exact eff_call rfl (by kernel_rfl) (by (exact cM _ _ (by (focus ((repeat (refine (Tr.at_set_other _ _ (by omega)).trans ?_)); exact rfl)))))), ?_⟩)); exact trivial)), ?_⟩)))
        ((apply w_ret Try.func11 (congrArg Array.toList Try.results11)); (focus (repeat (first | exact ResIs.nil | apply ResIs.tmp rfl | apply ResIs.cell rfl (LoadIs.many (F.ag _ rfl) (by (focus ((repeat (exact Tr.at_set_same _ _ _)); done))) (cellsFrom_box _ 0 rfl rfl))))))
        rw [hno]
        exact ⟨_, rfl, ⟨_, _, _, _, rfl, rfl, rfl⟩, fun v h => (by cases h), by dsimp only; omega, fun m hm => by (focus ((repeat (refine (Tr.at_set_other _ _ (by omega)).trans ?_)); exact bo m hm))⟩
      | true =>
        rw [hm] at cM
        (apply w_drawQ; (focus (kernel_rfl)); (focus (kernel_rfl)))
        refine dq_some 2 (Nat.le_of_ble_eq_true rfl) ?_
        (repeat (refine dw_loadBN rfl rfl rfl (F.ag _ rfl) (by (focus ((repeat (assumption)); done))) (by exact rfl) ?_))
        (refine dk_nil ?_); (apply dq_call; exact rfl; exact rfl; exact rfl; (focus (kernel_rfl)); exact (cM _ _ rfl))
        refine dq_some 7 (Nat.le_of_ble_eq_true rfl) ?_
        (repeat (first | (first | (apply dw_move; exact rfl; exact rfl; exact rfl) | (apply dw_add; exact rfl; exact rfl; exact rfl; exact rfl; (focus (omega)); (focus (omega)))) | (apply dk_read; exact rfl; exact rfl; exact (fun _ h => by cases h); exact (rd_cutS (l := 18 + kk) (h := 20 + kk) (F.un _ rfl) (F.sz _ rfl) rfl (bd_n rfl (by omega)) (bd_n rfl (by omega)) (by omega) (by omega) (if_neg (by omega))))))
        (refine dk_nil ?_); (apply dq_call; exact rfl; exact rfl; exact rfl; (focus (kernel_rfl)); exact (g2 _ _ rfl))
        refine dq_all ?_
        (repeat (first | (apply dw_fieldAddr; exact rfl; exact rfl; exact rfl; exact (F.fo _ _ rfl rfl)) | refine dw_loadB1 rfl rfl rfl (F.ag _ rfl) (by (focus ((repeat (assumption)); done))) (by exact rfl) ?_ | (apply dw_conv; exact rfl; exact rfl; exact rfl; exact (F.un _ rfl); exact (F.un _ rfl); exact (show _ = ((n2 : Nat) : Int) from Go.IntWalk.i64_in _ ⟨by omega, by omega⟩)) | (apply dk_read; exact rfl; exact rfl; exact (fun _ h => by cases h); exact (rd_lenS (F.un _ rfl) rfl))))
        refine dw_eqlS rfl rfl rfl rfl (fun e => ?_) (fun e => ?_)
        · have hyes : ofR l = some (verR l) := by rw [hv, if_pos ⟨hm, by omega⟩]
          (repeat (first | (apply dw_assign; exact rfl; exact rfl; exact rfl) | (apply dw_pickT; exact rfl; exact rfl; exact rfl; exact rfl) | refine dw_storeC rfl rfl rfl rfl (F.sz _ rfl) (by (focus ((repeat (assumption)); done))) rfl (by exact Nat.le_of_ble_eq_true rfl) rfl ?_))
          (refine dk_nil ?_); (refine ⟨by kernel_rfl, ?_, ?_⟩); (focus (repeat (first | exact trivial | refine ⟨.inl rfl, ?_⟩ | refine ⟨.inr (.inl (by (repeat (refine ⟨(by first | exact rd_arith rfl rfl (.inl ⟨rfl, (Go.IntWalk.i64_in _ ⟨by omega, by omega⟩).symm⟩) | exact rd_fieldAddr (F.fo _ _ rfl rfl) rfl | exact rd_move rfl | exact rd_assign rfl | exact rd_pickT rfl rfl | exact rd_load1 (F.ag _ rfl) rfl (by (focus ((repeat (first | assumption | refine (Tr.at_set_other _ _ (by omega)).trans ?_)); done))) (cell_box rfl) | exact rd_loadN (F.ag _ rfl) rfl (by (focus ((repeat (first | assumption | refine (Tr.at_set_other _ _ (by omega)).trans ?_)); done))) (cellsFrom_box _ 0 rfl rfl) | exact rd_cutS (l := 18 + kk) (h := 20 + kk) (F.un _ rfl) (F.sz _ rfl) rfl (bd_n rfl (by omega)) (bd_n rfl (by omega)) (by omega) (by omega) (if_neg (by omega)) | exact rd_lenS (F.un _ rfl) rfl | exact rd_conv (F.un _ rfl) (F.un _ rfl) rfl (show _ = ((n2 : Nat) : Int) from Go.IntWalk.i64_in _ ⟨by omega, by omega⟩) | exact rd_cmp rfl rfl (.inl ⟨rfl, (decide_eq_true (by omega)).symm⟩)), ?_⟩)); exact trivial)), ?_⟩ | refine ⟨.inr (.inr (by (repeat (refine ⟨(by exact eff_call rfl (by kernel_rfl) (by first | exact cM _ _ (by (focus ((repeat (refine (Tr.at_set_other _ _ (by omega)).trans ?_)); exact rfl))) | exact g2 _ _ (by (focus ((repeat (refine (Tr.at_set_other _ _ (by omega)).trans ?_)); exact rfl))))), ?_⟩)); exact trivial)), ?_⟩)))
          ((apply w_ret Try.func11 (congrArg Array.toList Try.results11)); (focus (repeat (first | exact ResIs.nil | apply ResIs.tmp rfl | apply ResIs.cell rfl (LoadIs.many (F.ag _ rfl) (by (focus ((repeat (exact Tr.at_set_same _ _ _)); done))) (cellsFrom_box _ 0 rfl rfl))))))
          rw [hyes]
          exact ⟨_, rfl, ⟨_, _, _, _, rfl, rfl, rfl⟩, fun v h => (by cases h; exact hat _ (by (focus ((repeat (refine (Tr.at_set_other _ _ (by omega)).trans ?_)); exact rfl)))), by dsimp only; omega, fun m hm => by (focus ((repeat (refine (Tr.at_set_other _ _ (by omega)).trans ?_)); exact bo m hm))⟩
        · have hno : ofR l = none := by rw [hv, if_neg (fun h => by have := h.2; omega)]
          (repeat (first | (apply dw_assign; exact rfl; exact rfl; exact rfl) | (apply dw_pickT; exact rfl; exact rfl; exact rfl; exact rfl) | refine dw_storeC rfl rfl rfl rfl (F.sz _ rfl) (by (focus ((repeat (assumption)); done))) rfl (by exact Nat.le_of_ble_eq_true rfl) rfl ?_))
          (refine dk_nil ?_); (refine ⟨by kernel_rfl, ?_, ?_⟩); (focus (repeat (first | exact trivial | refine ⟨.inl rfl, ?_⟩ | refine ⟨.inr (.inl (by (repeat (refine ⟨(by first | exact rd_arith rfl rfl (.inl ⟨rfl, (Go.IntWalk.i64_in _ ⟨by omega, by omega⟩).symm⟩) | exact rd_fieldAddr (F.fo _ _ rfl rfl) rfl | exact rd_move rfl | exact rd_assign rfl | exact rd_pickT rfl rfl | exact rd_load1 (F.ag _ rfl) rfl (by (focus ((repeat (first | assumption | refine (Tr.at_set_other _ _ (by omega)).trans ?_)); done))) (cell_box rfl) | exact rd_loadN (F.ag _ rfl) rfl (by (focus ((repeat (first | assumption | refine (Tr.at_set_other _ _ (by omega)).trans ?_)); done))) (cellsFrom_box _ 0 rfl rfl) | exact rd_cutS (l := 18 + kk) (h := 20 + kk) (F.un _ rfl) (F.sz _ rfl) rfl (bd_n rfl (by omega)) (bd_n rfl (by omega)) (by omega) (by omega) (if_neg (by omega)) | exact rd_lenS (F.un _ rfl) rfl | exact rd_conv (F.un _ rfl) (F.un _ rfl) rfl (show _ = ((n2 : Nat) : Int) from Go.IntWalk.i64_in _ ⟨by omega, by omega⟩) | exact rd_cmp rfl rfl (.inl ⟨rfl, (decide_eq_false (by omega)).symm⟩)), ?_⟩)); exact trivial)), ?_⟩ | refine ⟨.inr (.inr (by (repeat (refine ⟨(by exact eff_call rfl (by kernel_rfl) (by first | exact cM _ _ (by (focus ((repeat (refine (Tr.at_set_other _ _ (by omega)).trans ?_)); exact rfl))) | exact g2 _ _ (by (focus ((repeat (refine (Tr.at_set_other _ _ (by omega)).trans ?_)); exact rfl))))), ?_⟩)); exact trivial)), ?_⟩)))
          ((apply w_ret Try.func11 (congrArg Array.toList Try.results11)); (focus (repeat (first | exact ResIs.nil | apply ResIs.tmp rfl | apply ResIs.cell rfl (LoadIs.many (F.ag _ rfl) (by (focus ((repeat (exact Tr.at_set_same _ _ _)); done))) (cellsFrom_box _ 0 rfl rfl))))))
          rw [hno]
          exact ⟨_, rfl, ⟨_, _, _, _, rfl, rfl, rfl⟩, fun v h => (by cases h), by dsimp only; omega, fun m hm => by (focus ((repeat (refine (Tr.at_set_other _ _ (by omega)).trans ?_)); exact bo m hm))⟩
end Go.Proofs.Ytdpjbpnemjdhfaa
end
section
namespace Go.Proofs.Ytdpjbpnemjdhfaa
open Go Go.Sy Go.Sl Go.RowKit
theorem numr_d {H : Heap} {nx n size : Nat} (h1 : 1 ≤ size) (h2 : size ≤ 8) (hn : n ≤ 18446744073709551615) : Fnc Try.prog 22 [.sc (.int .u64 (n : Int)), .sc (.int .i64 (size : Int))] H nx
    (fun q => q = (.slu nx 0 (beB n size).length, H.set nx (dat false (beB n size).length 1 5 (byV (beB n size))), nx + 1)) := by
  have := Fnc.next (numr_r (H := H) (nx := nx) h1 h2 hn)
  rwa [beB_len]
theorem op_appBs {T : Tr SV} {H : Heap} {nx : Nat} {d : Option Tmp} {ty : TypeId} {pos : String} {af : Array Edge} {gd : Option (Nat × Bool)} {r : Nat} {s x : Operand} {v : SV} {a b : List UInt8} (hx0 : evalS T s = some (.slu r 0 a.length)) (hx : evalS T x = some v) (hro : H.at' r = some (dat false a.length 1 5 (byV a))) (hb : BsIs H v (byV b)) (h0 : 0 < b.length) (hm : a.length + b.length ≤ 1000000) :
    OpDoes Try.prog T H nx ⟨d, .call { callee := .builtin .append, args := #[s, x], argTypes := #[22, 22] }, ty, pos, af, gd⟩ (.val (.slu nx 0 (a ++ b).length), (H.del r).set nx (dat false (a ++ b).length 1 5 (byV (a ++ b))), nx + 1) := by
  have hr := BsIs.rdv (P := Try.prog) hb
  unfold RdV at hr
  have h := op_appR (P := Try.prog) (T := T) (H := H) (nx := nx) (d := d) (ty := ty) (pos := pos) (af := af) (gd := gd) (t := 22) (tx := 22) (el := 5) (sz := 1) (m := (byV b).length) (b := 1) (r := r) (n := a.length) (s := s) (x := x) (v := v) (ws := (byV a).map .sc) (cs := (byV b).map .sc) (F.un _ rfl) (.inl ⟨_, F.un _ rfl⟩) (F.sz _ rfl) (by decide) (by kernel_rfl) (by kernel_rfl) hx0 hx (hro.trans (congrArg some (dat_list _ _ _ _ _).symm)) (by simp) hr (allOne_sc hb.1) (by rw [by_len]; exact h0) (by rw [by_len]; omega) (by rw [by_len]; omega)
  rw [by_len, ← List.map_append, ← by_app, show rowS false (a.length + b.length) 1 5 ((byV (a ++ b)).map .sc) = dat false (a.length + b.length) 1 5 (byV (a ++ b)) from dat_list _ _ _ _ _, ← List.length_append] at h
  exact h
set_option maxRecDepth 100000 in
set_option maxHeartbeats 0 in
theorem bytesr_r {H : Heap} {nx : Nat} {s : SV} {v : VerT} (hv : VerIs H s v) (hm : mayV v = true) : Fnc Try.prog 9 [s] H nx (fun q => ∃ r', q.1 = .slu r' 0 (bytesV v).length ∧ q.2.1.at' r' = some (dat false (bytesV v).length 1 5 (byV (bytesV v))) ∧ nx ≤ r' ∧ r' < q.2.2 ∧ nx ≤ q.2.2 ∧ ∀ m, m < nx → q.2.1.at' m = H.at' m) := by
  have hmd := of_decide_eq_true hm
  obtain ⟨k, w, rfl, hk, hw⟩ := hv
  refine Fnc.start Try.func9 rfl rfl ?_
  refine y_under fun hund => ?_
  have hK : ∀ H' : Heap, (∀ m, m < nx → H'.at' m = H.at' m) → BsIs H' k (byV v.1) := fun H' h => hk.frame fun b vo hb => (h b (hund b vo hb)).trans hb
  have hW : ∀ H' : Heap, (∀ m, m < nx → H'.at' m = H.at' m) → BsIs H' w (byV v.2.1) := fun H' h => hw.frame fun b vo hb => (h b (hund b vo hb)).trans hb
  have hl1 := by_len v.1
  have hl2 := by_len v.2.1
  have l8x := beB_len v.2.2.1 8
  have l8y := beB_len v.2.2.2 8
  have b0 : (H.set nx (verO (verC k w v.2.2.1 v.2.2.2))).at' nx = some (verO (verC k w v.2.2.1 v.2.2.2)) := Tr.at_set_same _ _ _
  have o0 : ∀ m, m < nx → (H.set nx (verO (verC k w v.2.2.1 v.2.2.2))).at' m = H.at' m := fun m hm => Tr.at_set_other _ _ (by omega)
  (repeat (first | refine y_seq ?_ | refine w_region ?_ | refine y_regEnd ?_ | (apply w_assign; exact rfl; exact rfl; exact rfl) | (apply w_boxN; exact rfl; exact rfl; exact rfl)))
  generalize H.set nx (verO (verC k w v.2.2.1 v.2.2.2)) = H0 at b0 o0 ⊢
  (apply w_drawE; (focus (kernel_rfl)); (focus (kernel_rfl)))
  (repeat (first | (first | (apply dw_assign; exact rfl; exact rfl; exact rfl) | (apply dw_fieldAddr; exact rfl; exact rfl; exact rfl; exact (F.fo _ _ rfl rfl))) | refine dw_loadB1 rfl rfl rfl (F.ag _ rfl) (by (focus ((repeat (first | assumption | refine (Tr.at_set_other _ _ (by omega)).trans ?_)); done))) (by exact rfl) ?_ | ((apply dk_call; exact rfl; exact rfl; exact rfl; (focus (kernel_rfl)); exact (numr_d (n := v.2.2.1) (size := 8) (by decide) (by decide) (by omega)))) | ((apply dk_call; exact rfl; exact rfl; exact rfl; (focus (kernel_rfl)); exact (numr_d (n := v.2.2.2) (size := 8) (by decide) (by decide) (by omega)))) | refine dk_val rfl rfl (fun _ h => by cases h) (op_appBs (a := beB v.2.2.1 8) (b := beB v.2.2.2 8) rfl rfl (by (focus ((repeat (first | exact Tr.at_set_same _ _ _ | refine (Tr.at_set_other _ _ (by omega)).trans ?_)); done))) (bs_row (ro := false) (n := (beB v.2.2.2 8).length) (by (focus ((repeat (exact Tr.at_set_same _ _ _)); done))) rfl) (by omega) (by omega)) ?_))
  (refine dk_nil ?_); (refine ⟨by kernel_rfl, ?_, ?_⟩); (focus (repeat (first | exact trivial | refine ⟨.inl (chk_chain rfl), ?_⟩ | refine ⟨.inr ⟨0, by kernel_rfl, AllH.all (fun _ => (by first | exact rd_fieldAddr (F.fo _ _ rfl rfl) rfl | exact rd_assign rfl)) _⟩, ?_⟩ | refine ⟨.inr ⟨0, by kernel_rfl, (by (refine ⟨(by (exact rd_load1 (F.ag _ rfl) rfl (by (focus ((repeat (first | assumption | refine (Tr.at_set_other _ _ (by omega)).trans ?_ | refine (Tr.at_del_other _ (by omega)).trans ?_)); done))) (cell_box rfl))), ?_⟩; (repeat (refine ⟨(by (exact rd_load1 (F.ag _ rfl) rfl (by (focus ((repeat (first | assumption | refine (Tr.at_set_other _ _ (by omega)).trans ?_)); done))) (cell_box rfl))), ?_⟩)); exact trivial))⟩, ?_⟩)))
  refine y_gen (R := fun H1 n1 => n1 = nx + 1 + 1 + 1 + 1 ∧ H1.at' nx = some (verO (verC k w v.2.2.1 v.2.2.2)) ∧ H1.at' (nx + 1 + 1 + 1) = some (dat false (beB v.2.2.1 8 ++ beB v.2.2.2 8).length 1 5 (byV (beB v.2.2.1 8 ++ beB v.2.2.2 8))) ∧ ∀ m, m < nx → H1.at' m = H.at' m) ⟨rfl, by (focus ((repeat (first | assumption | refine (Tr.at_set_other _ _ (by omega)).trans ?_ | refine (Tr.at_del_other _ (by omega)).trans ?_)); done)), by (focus ((repeat (exact Tr.at_set_same _ _ _)); done)), fun m hm => by (focus ((repeat (first | refine (Tr.at_set_other _ _ (by omega)).trans ?_ | refine (Tr.at_del_other _ (by omega)).trans ?_)); exact o0 m hm))⟩ ?_
  rintro H1 n1 ⟨rfl, b1, r1, o1⟩
  clear b0 o0
  have la : (beB v.2.2.1 8 ++ beB v.2.2.2 8).length = 16 := by rw [List.length_append, l8x, l8y]
  have lk2 := beB_len v.1.length 2
  have lab : (beB v.2.2.1 8 ++ beB v.2.2.2 8 ++ beB v.1.length 2).length = 18 := by rw [List.length_append, la, lk2]
  (repeat (refine y_seq ?_))
  (apply w_drawE; (focus (kernel_rfl)); (focus (kernel_rfl)))
  (repeat (first | (first | (apply dw_move; exact rfl; exact rfl; exact rfl) | (apply dw_assign; exact rfl; exact rfl; exact rfl) | (apply dw_fieldAddr; exact rfl; exact rfl; exact rfl; exact (F.fo _ _ rfl rfl))) | refine dw_loadB1 rfl rfl rfl (F.ag _ rfl) (by (focus ((repeat (first | assumption | refine (Tr.at_set_other _ _ (by omega)).trans ?_ | refine (Tr.at_del_other _ (by omega)).trans ?_)); done))) (by exact rfl) ?_ | (apply dk_read; exact rfl; exact rfl; exact (fun _ h => by cases h); exact (rd_lenB (F.un _ rfl) rfl (hK _ o1))) | (apply dw_conv; exact rfl; exact rfl; exact rfl; exact (F.un _ rfl); exact (F.un _ rfl); exact (show _ = ((v.1.length : Nat) : Int) from (Go.IntWalk.u64_in _ ⟨by omega, by omega⟩).trans (by omega))) | ((apply dk_call; exact rfl; exact rfl; exact rfl; (focus (kernel_rfl)); exact (numr_d (n := v.1.length) (size := 2) (by decide) (by decide) (by omega)))) | refine dk_val rfl rfl (fun _ h => by cases h) (op_appBs (a := beB v.2.2.1 8 ++ beB v.2.2.2 8) (b := beB v.1.length 2) rfl rfl (by (focus ((repeat (first | assumption | refine (Tr.at_set_other _ _ (by omega)).trans ?_)); done))) (bs_row (ro := false) (n := (beB v.1.length 2).length) (by (focus ((repeat (exact Tr.at_set_same _ _ _)); done))) rfl) (by omega) (by omega)) ?_ | refine dk_val rfl rfl (fun _ h => by cases h) (op_appBs (a := beB v.2.2.1 8 ++ beB v.2.2.2 8 ++ beB v.1.length 2) (b := v.1) rfl rfl (by (focus ((repeat (exact Tr.at_set_same _ _ _)); done))) (hK _ (fun m hm => by (focus ((repeat (first | refine (Tr.at_set_other _ _ (by omega)).trans ?_ | refine (Tr.at_del_other _ (by omega)).trans ?_)); exact o1 m hm)))) (by omega) (by omega)) ?_))
  (refine dk_nil ?_); (refine ⟨by kernel_rfl, ?_, ?_⟩); (focus (repeat (first | exact trivial | refine ⟨.inl (chk_chain rfl), ?_⟩ | refine ⟨.inr ⟨0, by kernel_rfl, AllH.all (fun _ => (by first | exact rd_move rfl | exact rd_fieldAddr (F.fo _ _ rfl rfl) rfl | exact rd_assign rfl)) _⟩, ?_⟩ | refine ⟨.inr ⟨0, by kernel_rfl, (by (refine ⟨(by first | exact rd_load1 (F.ag _ rfl) rfl (by (focus ((repeat (first | assumption | refine (Tr.at_set_other _ _ (by omega)).trans ?_ | refine (Tr.at_del_other _ (by omega)).trans ?_)); done))) (cell_box rfl) | exact rd_lenB (F.un _ rfl) rfl (hK _ (fun m hm => by (focus ((repeat (first | refine (Tr.at_set_other _ _ (by omega)).trans ?_ | refine (Tr.at_del_other _ (by omega)).trans ?_)); exact o1 m hm)))) | exact rd_conv (F.un _ rfl) (F.un _ rfl) rfl (show _ = ((v.1.length : Nat) : Int) from (Go.IntWalk.u64_in _ ⟨by omega, by omega⟩).trans (by omega))), ?_⟩; (repeat (refine ⟨(by first | exact rd_load1 (F.ag _ rfl) rfl (by (focus ((repeat (first | assumption | refine (Tr.at_set_other _ _ (by omega)).trans ?_ | refine (Tr.at_del_other _ (by omega)).trans ?_)); done))) (cell_box rfl) | exact rd_lenB (F.un _ rfl) rfl (hK _ (fun m hm => by (focus ((repeat (first | refine (Tr.at_set_other _ _ (by omega)).trans ?_ | refine (Tr.at_del_other _ (by omega)).trans ?_)); exact o1 m hm)))) | exact rd_conv (F.un _ rfl) (F.un _ rfl) rfl (show _ = ((v.1.length : Nat) : Int) from (Go.IntWalk.u64_in _ ⟨by omega, by omega⟩).trans (by omega))), ?_⟩)); exact trivial))⟩, ?_⟩)))
  obtain ⟨A, hA⟩ : ∃ A, A = beB v.2.2.1 8 ++ beB v.2.2.2 8 ++ beB v.1.length 2 ++ v.1 := ⟨_, rfl⟩
  refine y_gen (R := fun H2 n2 => n2 = nx + 1 + 1 + 1 + 1 + 1 + 1 + 1 ∧ H2.at' nx = some (verO (verC k w v.2.2.1 v.2.2.2)) ∧ H2.at' (nx + 1 + 1 + 1 + 1 + 1 + 1) = some (dat false (beB v.2.2.1 8 ++ beB v.2.2.2 8 ++ beB v.1.length 2 ++ v.1).length 1 5 (byV (beB v.2.2.1 8 ++ beB v.2.2.2 8 ++ beB v.1.length 2 ++ v.1))) ∧ ∀ m, m < nx → H2.at' m = H.at' m) ⟨rfl, by (focus ((repeat (first | assumption | refine (Tr.at_set_other _ _ (by omega)).trans ?_ | refine (Tr.at_del_other _ (by omega)).trans ?_)); done)), by (focus ((repeat (exact Tr.at_set_same _ _ _)); done)), fun m hm => by (focus ((repeat (first | refine (Tr.at_set_other _ _ (by omega)).trans ?_ | refine (Tr.at_del_other _ (by omega)).trans ?_)); exact o1 m hm))⟩ ?_
  rintro H2 n2 ⟨rfl, b2, r2, o2⟩
  clear b1 o1 r1
  have lA : A.length = 18 + v.1.length := by rw [hA, List.length_append, lab]
  (repeat (refine y_seq ?_))
  rw [← hA] at r2 ⊢
  have lv2 := beB_len v.2.1.length 2
  have lAv : (A ++ beB v.2.1.length 2).length = 20 + v.1.length := by rw [List.length_append, lA, lv2]; omega
  have hall : bytesV v = A ++ beB v.2.1.length 2 ++ v.2.1 := by
    rw [hA]
    unfold bytesV blobB
    simp only [List.append_assoc]
  rcases Nat.eq_zero_or_pos v.2.1.length with h0 | h0
  · have hv0 : v.2.1 = [] := List.eq_nil_of_length_eq_zero h0
    have hw0 : ∀ H' : Heap, (∀ m, m < nx → H'.at' m = H.at' m) → RdV Try.prog H' 1 w 0 [] := fun H' h => by
      have := BsIs.rdv (P := Try.prog) (hW H' h)
      rw [hv0] at this
      exact this
    rw [hv0, List.append_nil] at hall
    (apply w_drawE; (focus (kernel_rfl)); (focus (kernel_rfl)))
    (repeat (first | (first | (apply dw_move; exact rfl; exact rfl; exact rfl) | (apply dw_assign; exact rfl; exact rfl; exact rfl) | (apply dw_fieldAddr; exact rfl; exact rfl; exact rfl; exact (F.fo _ _ rfl rfl))) | refine dw_loadB1 rfl rfl rfl (F.ag _ rfl) (by (focus ((repeat (first | assumption | refine (Tr.at_set_other _ _ (by omega)).trans ?_ | refine (Tr.at_del_other _ (by omega)).trans ?_)); done))) (by exact rfl) ?_ | (apply dk_read; exact rfl; exact rfl; exact (fun _ h => by cases h); exact (rd_lenB (F.un _ rfl) rfl (hW _ o2))) | (apply dw_conv; exact rfl; exact rfl; exact rfl; exact (F.un _ rfl); exact (F.un _ rfl); exact (show _ = ((v.2.1.length : Nat) : Int) from (Go.IntWalk.u64_in _ ⟨by omega, by omega⟩).trans (by omega))) | ((apply dk_call; exact rfl; exact rfl; exact rfl; (focus (kernel_rfl)); exact (numr_d (n := v.2.1.length) (size := 2) (by decide) (by decide) (by omega)))) | refine dk_val rfl rfl (fun _ h => by cases h) (op_appBs (a := A) (b := beB v.2.1.length 2) rfl rfl (by (focus ((repeat (first | assumption | refine (Tr.at_set_other _ _ (by omega)).trans ?_)); done))) (bs_row (ro := false) (n := (beB v.2.1.length 2).length) (by (focus ((repeat (exact Tr.at_set_same _ _ _)); done))) rfl) (by omega) (by omega)) ?_ | refine dk_val rfl rfl (fun _ h => by cases h) (op_append0 (vs := []) (F.un _ rfl) (.inl ⟨_, F.un _ rfl⟩) (F.sz _ rfl) (by decide) rfl rfl (Tr.at_set_same _ _ _) (by omega) (hw0 _ (fun m hm => by (focus ((repeat (first | refine (Tr.at_set_other _ _ (by omega)).trans ?_ | refine (Tr.at_del_other _ (by omega)).trans ?_)); exact o2 m hm)))) (fun v hv => by cases hv)) ?_))
    (refine dk_nil ?_); (refine ⟨by kernel_rfl, ?_, ?_⟩); (focus (repeat (first | exact trivial | refine ⟨.inl (chk_chain rfl), ?_⟩ | refine ⟨.inr ⟨0, by kernel_rfl, AllH.all (fun _ => (by first | exact rd_move rfl | exact rd_fieldAddr (F.fo _ _ rfl rfl) rfl | exact rd_assign rfl)) _⟩, ?_⟩ | refine ⟨.inr ⟨0, by kernel_rfl, (by (refine ⟨(by first | exact rd_load1 (F.ag _ rfl) rfl (by (focus ((repeat (first | assumption | refine (Tr.at_set_other _ _ (by omega)).trans ?_ | refine (Tr.at_del_other _ (by omega)).trans ?_)); done))) (cell_box rfl) | exact rd_lenB (F.un _ rfl) rfl (hW _ (fun m hm => by (focus ((repeat (first | refine (Tr.at_set_other _ _ (by omega)).trans ?_ | refine (Tr.at_del_other _ (by omega)).trans ?_)); exact o2 m hm)))) | exact rd_conv (F.un _ rfl) (F.un _ rfl) rfl (show _ = ((v.2.1.length : Nat) : Int) from (Go.IntWalk.u64_in _ ⟨by omega, by omega⟩).trans (by omega))), ?_⟩; (repeat (refine ⟨(by first | exact rd_load1 (F.ag _ rfl) rfl (by (focus ((repeat (first | assumption | refine (Tr.at_set_other _ _ (by omega)).trans ?_ | refine (Tr.at_del_other _ (by omega)).trans ?_)); done))) (cell_box rfl) | exact rd_lenB (F.un _ rfl) rfl (hW _ (fun m hm => by (focus ((repeat (first | refine (Tr.at_set_other _ _ (by omega)).trans ?_ | refine (Tr.at_del_other _ (by omega)).trans ?_)); exact o2 m hm)))) | exact rd_conv (F.un _ rfl) (F.un _ rfl) rfl (show _ = ((v.2.1.length : Nat) : Int) from (Go.IntWalk.u64_in _ ⟨by omega, by omega⟩).trans (by omega))), ?_⟩)); exact trivial))⟩, ?_⟩)))
    ((apply w_ret Try.func9 (congrArg Array.toList Try.results9)); (focus (repeat (first | exact ResIs.nil | apply ResIs.tmp rfl))))
    rw [hall, hv0]
    exact ⟨_, rfl, Tr.at_set_same _ _ _, by omega, by dsimp only; omega, by dsimp only; omega, fun m hm => by (focus ((repeat (first | refine (Tr.at_set_other _ _ (by omega)).trans ?_ | refine (Tr.at_del_other _ (by omega)).trans ?_)); exact o2 m hm))⟩
  · (apply w_drawE; (focus (kernel_rfl)); (focus (kernel_rfl)))
    (repeat (first | (first | (apply dw_move; exact rfl; exact rfl; exact rfl) | (apply dw_assign; exact rfl; exact rfl; exact rfl) | (apply dw_fieldAddr; exact rfl; exact rfl; exact rfl; exact (F.fo _ _ rfl rfl))) | refine dw_loadB1 rfl rfl rfl (F.ag _ rfl) (by (focus ((repeat (first | assumption | refine (Tr.at_set_other _ _ (by omega)).trans ?_ | refine (Tr.at_del_other _ (by omega)).trans ?_)); done))) (by exact rfl) ?_ | (apply dk_read; exact rfl; exact rfl; exact (fun _ h => by cases h); exact (rd_lenB (F.un _ rfl) rfl (hW _ o2))) | (apply dw_conv; exact rfl; exact rfl; exact rfl; exact (F.un _ rfl); exact (F.un _ rfl); exact (show _ = ((v.2.1.length : Nat) : Int) from (Go.IntWalk.u64_in _ ⟨by omega, by omega⟩).trans (by omega))) | ((apply dk_call; exact rfl; exact rfl; exact rfl; (focus (kernel_rfl)); exact (numr_d (n := v.2.1.length) (size := 2) (by decide) (by decide) (by omega)))) | refine dk_val rfl rfl (fun _ h => by cases h) (op_appBs (a := A) (b := beB v.2.1.length 2) rfl rfl (by (focus ((repeat (first | assumption | refine (Tr.at_set_other _ _ (by omega)).trans ?_)); done))) (bs_row (ro := false) (n := (beB v.2.1.length 2).length) (by (focus ((repeat (exact Tr.at_set_same _ _ _)); done))) rfl) (by omega) (by omega)) ?_ | refine dk_val rfl rfl (fun _ h => by cases h) (op_appBs (a := A ++ beB v.2.1.length 2) (b := v.2.1) rfl rfl (by (focus ((repeat (exact Tr.at_set_same _ _ _)); done))) (hW _ (fun m hm => by (focus ((repeat (first | refine (Tr.at_set_other _ _ (by omega)).trans ?_ | refine (Tr.at_del_other _ (by omega)).trans ?_)); exact o2 m hm)))) (by omega) (by omega)) ?_))
    (refine dk_nil ?_); (refine ⟨by kernel_rfl, ?_, ?_⟩); (focus (repeat (first | exact trivial | refine ⟨.inl (chk_chain rfl), ?_⟩ | refine ⟨.inr ⟨0, by kernel_rfl, AllH.all (fun _ => (by first | exact rd_move rfl | exact rd_fieldAddr (F.fo _ _ rfl rfl) rfl | exact rd_assign rfl)) _⟩, ?_⟩ | refine ⟨.inr ⟨0, by kernel_rfl, (by (refine ⟨(by first | exact rd_load1 (F.ag _ rfl) rfl (by (focus ((repeat (first | assumption | refine (Tr.at_set_other _ _ (by omega)).trans ?_ | refine (Tr.at_del_other _ (by omega)).trans ?_)); done))) (cell_box rfl) | exact rd_lenB (F.un _ rfl) rfl (hW _ (fun m hm => by (focus ((repeat (first | refine (Tr.at_set_other _ _ (by omega)).trans ?_ | refine (Tr.at_del_other _ (by omega)).trans ?_)); exact o2 m hm)))) | exact rd_conv (F.un _ rfl) (F.un _ rfl) rfl (show _ = ((v.2.1.length : Nat) : Int) from (Go.IntWalk.u64_in _ ⟨by omega, by omega⟩).trans (by omega))), ?_⟩; (repeat (refine ⟨(by first | exact rd_load1 (F.ag _ rfl) rfl (by (focus ((repeat (first | assumption | refine (Tr.at_set_other _ _ (by omega)).trans ?_ | refine (Tr.at_del_other _ (by omega)).trans ?_)); done))) (cell_box rfl) | exact rd_lenB (F.un _ rfl) rfl (hW _ (fun m hm => by (focus ((repeat (first | refine (Tr.at_set_other _ _ (by omega)).trans ?_ | refine (Tr.at_del_other _ (by omega)).trans ?_)); exact o2 m hm)))) | exact rd_conv (F.un _ rfl) (F.un _ rfl) rfl (show _ = ((v.2.1.length : Nat) : Int) from (Go.IntWalk.u64_in _ ⟨by omega, by omega⟩).trans (by omega))), ?_⟩)); exact trivial))⟩, ?_⟩)))
    ((apply w_ret Try.func9 (congrArg Array.toList Try.results9)); (focus (repeat (first | exact ResIs.nil | apply ResIs.tmp rfl))))
    rw [hall]
    exact ⟨_, rfl, Tr.at_set_same _ _ _, by omega, by dsimp only; omega, by dsimp only; omega, fun m hm => by (focus ((repeat (first | refine (Tr.at_set_other _ _ (by omega)).trans ?_ | refine (Tr.at_del_other _ (by omega)).trans ?_)); exact o2 m hm))⟩
end Go.Proofs.Ytdpjbpnemjdhfaa
end
section
namespace Go.Proofs.Ytdpjbpnemjdhfaa
open Go Go.Sy Go.Sl Go.RowKit
def covers (seen : List (Nat × Nat)) (i : Nat) : Bool := seen.any fun x => decide (x.1 ≤ i ∧ i < x.1 + x.2)
def meets (seen : List (Nat × Nat)) (a s : Nat) : Bool := (List.range s).any fun j => covers seen (a + j)
def rightGo (p : List UInt8) : Nat → Nat → List (Nat × Nat) → Bool → Bool
  | 0, _, _, fine => fine
  | k + 1, n, seen, _ =>
    if fromP p n = 0 ∧ sizeP p n = 0 then rightGo p k (n + 1) seen (decide (n + 1 < slotsP p))
    else if sizeP p n < 1 ∨ 1000 < sizeP p n ∨ fromP p n < beginP p ∨ 1024 < fromP p n + sizeP p n then false
    else if meets seen (fromP p n) (sizeP p n) then false else rightGo p k (n + 1) ((fromP p n, sizeP p n) :: seen) true
def rightP (p : List UInt8) : Bool := decide (18 + 4 * slotsP p ≤ beginP p ∧ beginP p ≤ 1024) && rightGo p (slotsP p) 0 [] true
abbrev takS (f : Nat → Bool) : List SV := (List.range 1024).map fun i => .sc (.bool (f i))
abbrev takO (f : Nat → Bool) : VO := newCells 99 (takS f)
theorem zTak : zeroL Try.prog 99 = some (takS fun _ => false) := by kernel_rfl
theorem tak_cell (f : Nat → Bool) {i : Nat} (hi : i < 1024) : (takO f).cell i = some (.sc (.bool (f i))) := cell_box (by simp [hi])
theorem cov_none (seen : List (Nat × Nat)) (a : Nat) : covers ((a, 0) :: seen) = covers seen := by
  funext i
  simp only [covers, List.any_cons, Nat.add_zero]
  rw [decide_eq_false (by omega), Bool.false_or]
theorem cov_at (seen : List (Nat × Nat)) {a i : Nat} (h : a ≤ i) : covers ((a, i - a) :: seen) i = covers seen i := by
  simp only [covers, List.any_cons]
  rw [decide_eq_false (by omega), Bool.false_or]
theorem tak_set {seen : List (Nat × Nat)} {a i : Nat} (h : a ≤ i) : (takS (covers ((a, i - a) :: seen))).set i (.sc (.bool true)) = takS (covers ((a, i + 1 - a) :: seen)) := by
  refine List.ext_getElem? fun j => ?_
  rw [List.getElem?_set, List.getElem?_map, List.getElem?_map, List.length_map, List.length_range]
  rcases Nat.lt_or_ge j 1024 with hj | hj
  · rw [List.getElem?_range hj]
    by_cases he : i = j
    · subst he
      rw [if_pos rfl, if_pos hj]
      simp only [Option.map_some, covers, List.any_cons]
      rw [decide_eq_true (by omega), Bool.true_or]
    · rw [if_neg he]
      simp only [Option.map_some, covers, List.any_cons]
      rw [show decide (a ≤ j ∧ j < a + (i - a)) = decide (a ≤ j ∧ j < a + (i + 1 - a)) from decide_eq_decide.2 (by omega)]
  · rw [List.getElem?_eq_none (by simpa using hj)]
    by_cases he : i = j
    · subst he
      rw [if_pos rfl, if_neg (by omega)]
      rfl
    · rw [if_neg he]
      rfl
theorem meets_yes {seen : List (Nat × Nat)} {a s i : Nat} (h1 : a ≤ i) (h2 : i < a + s) (h : covers seen i = true) : meets seen a s = true := by
  unfold meets
  rw [List.any_eq_true]
  exact ⟨i - a, List.mem_range.2 (by omega), by rw [show a + (i - a) = i by omega]; exact h⟩
theorem meets_no {seen : List (Nat × Nat)} {a s : Nat} (h : ∀ j, a ≤ j → j < a + s → covers seen j = false) : meets seen a s = false := by
  unfold meets
  rw [List.any_eq_false]
  intro j hj
  rw [h (a + j) (by omega) (by have := List.mem_range.1 hj; omega)]
  decide
set_option maxRecDepth 100000 in
set_option maxHeartbeats 0 in
theorem right_r {H : Heap} {nx b : Nat} {p : List UInt8} (hb : H.at' b = some (pgO p)) (hp : p.length = 1024) : Fnc Try.prog 38 [.ptr b 0] H nx (fun q => q.1 = .sc (.bool (rightP p)) ∧ nx ≤ q.2.2 ∧ ∀ m, m < nx → q.2.1.at' m = H.at' m) := by
  have hs : slotsP p < 65536 := numP_lt p 14
  have hg : beginP p < 65536 := numP_lt p 16
  refine Fnc.start Try.func38 rfl rfl ?_
  refine y_under fun hund => ?_
  have hlt := hund _ _ hb
  (repeat (first | (first | refine y_seq ?_ | refine w_region ?_ | refine y_regEnd ?_ | refine y_scope ?_ | (apply w_move; exact rfl; exact rfl; exact rfl) | (apply w_assign; exact rfl; exact rfl; exact rfl) | (apply w_add; exact rfl; exact rfl; exact rfl; exact rfl; (focus (omega)); (focus (omega))) | (apply w_mul; exact rfl; exact rfl; exact rfl; exact rfl; (focus (omega)); (focus (omega)))) | (refine w_call rfl rfl rfl (by kernel_rfl) (Fnc.mono (slots_s hb hp) ?_); rintro _ rfl; dsimp only) | (refine w_call rfl rfl rfl (by kernel_rfl) (Fnc.mono (begin_s hb hp) ?_); rintro _ rfl; dsimp only)))
  refine w_lssS rfl rfl rfl rfl (fun h1 => ?_) (fun h1 => ?_)
  · (repeat (first | refine y_seq ?_ | refine w_region ?_ | refine y_regEnd ?_ | refine y_condT rfl ?_ | (apply w_move; exact rfl; exact rfl; exact rfl) | (apply w_assign; exact rfl; exact rfl; exact rfl) | (apply w_pickT; exact rfl; exact rfl; exact rfl; exact rfl) | (apply w_not; exact rfl)))
    ((apply w_ret Try.func38 (congrArg Array.toList Try.results38)); (focus (repeat (first | exact ResIs.nil | apply ResIs.tmp rfl))))
    refine ⟨?_, Nat.le_refl _, fun m _ => rfl⟩
    unfold rightP
    rw [decide_eq_false (by omega)]
    rfl
  (repeat (apply w_move; exact rfl; exact rfl; exact rfl))
  refine w_gtrS rfl rfl rfl rfl (fun h2 => ?_) (fun h2 => ?_)
  · (repeat (first | refine y_seq ?_ | refine w_region ?_ | refine y_regEnd ?_ | refine y_condT rfl ?_ | (apply w_assign; exact rfl; exact rfl; exact rfl) | (apply w_pickF; exact rfl; exact rfl; exact rfl; exact rfl)))
    ((apply w_ret Try.func38 (congrArg Array.toList Try.results38)); (focus (repeat (first | exact ResIs.nil | apply ResIs.tmp rfl))))
    refine ⟨?_, Nat.le_refl _, fun m _ => rfl⟩
    unfold rightP
    rw [decide_eq_false (by omega)]
    rfl
  have hrp : rightP p = rightGo p (slotsP p) 0 [] true := by
    unfold rightP
    rw [decide_eq_true (by omega), Bool.true_and]
  rw [hrp]
  (repeat (first | (first | refine y_seq ?_ | refine w_region ?_ | refine y_regEnd ?_ | refine y_block ?_ | refine y_skip ?_ | refine y_label ?_ | refine y_condF rfl ?_ | (apply w_move; exact rfl; exact rfl; exact rfl) | (apply w_assign; exact rfl; exact rfl; exact rfl) | (apply w_pickF; exact rfl; exact rfl; exact rfl; exact rfl)) | (refine w_call rfl rfl rfl (by kernel_rfl) (Fnc.mono (finder_s) ?_); rintro _ rfl; dsimp only) | (refine w_alloc rfl rfl zTak ?_)))
  refine y_loopT (α := Nat × List (Nat × Nat) × Bool) (fun x => [(0, .ptr b 0), (3, .sc (.int .i64 (slotsP p : Int))), (4, .sc (.int .i64 (beginP p : Int))), (5, finF nx), (6, .ptr (nx + 1) 0), (7, .sc (.bool x.2.2)), (27, .sc (.int .i64 (slotsP p : Int))), (28, .sc (.int .i64 (x.1 : Int)))])
    (fun x H1 n1 => n1 = nx + 1 + 1 ∧ x.1 ≤ slotsP p ∧ rightGo p (slotsP p - x.1) x.1 x.2.1 x.2.2 = rightGo p (slotsP p) 0 [] true ∧ H1.at' nx = some (finO b) ∧ H1.at' (nx + 1) = some (takO (covers x.2.1)) ∧ ∀ m, m < nx → H1.at' m = H.at' m) (fun x => slotsP p - x.1) (0, [], true)
    ⟨rfl, Nat.zero_le _, rfl, by (focus ((repeat (first | exact Tr.at_set_same _ _ _ | refine (Tr.at_set_other _ _ (by omega)).trans ?_)); done)), Tr.at_set_same _ _ _, fun m hm => (Tr.at_set_other _ _ (by omega)).trans (Tr.at_set_other _ _ (by omega))⟩ (SlIn.sub (by repeat (first | exact trivial | refine ⟨rfl, ?_⟩))) ?_
  rintro ⟨n, seen, fine⟩ H1 n1 ⟨rfl, h3, h4, h5, h6, h7⟩ ih
  dsimp only at h3 h4 h5 h6 h7 ih ⊢
  have hb1 := (h7 b hlt).trans hb
  have ha0 : fromP p n < 65536 := numP_lt p _
  have hz0 : sizeP p n < 65536 := numP_lt p _
  (repeat (first | refine y_seq ?_ | refine w_region ?_))
  refine w_lssS rfl rfl rfl rfl (fun h8 => ?_) (fun h8 => ?_)
  · have hn : n < slotsP p := by omega
    have hgo : rightGo p (slotsP p - n) n seen fine = if fromP p n = 0 ∧ sizeP p n = 0 then rightGo p (slotsP p - (n + 1)) (n + 1) seen (decide (n + 1 < slotsP p))
        else if sizeP p n < 1 ∨ 1000 < sizeP p n ∨ fromP p n < beginP p ∨ 1024 < fromP p n + sizeP p n then false
        else if meets seen (fromP p n) (sizeP p n) then false else rightGo p (slotsP p - (n + 1)) (n + 1) ((fromP p n, sizeP p n) :: seen) true := by
      rw [show slotsP p - n = (slotsP p - (n + 1)) + 1 by omega]
      rfl
    (repeat (first | refine y_seq ?_ | refine w_region ?_ | refine y_regEnd ?_ | refine y_block ?_ | refine y_skip ?_ | refine y_condT rfl ?_ | (apply w_move; exact rfl; exact rfl; exact rfl) | (apply w_assign; exact rfl; exact rfl; exact rfl)))
    refine w_callF rfl rfl rfl rfl (by kernel_rfl) (Fnc.mono (where_s h5 hb1 hp (n := n) (by omega)) ?_)
    rintro _ rfl
    dsimp only
    (repeat (first | refine y_seq ?_ | refine w_region ?_ | refine y_regEnd ?_ | (apply w_move; exact rfl; exact rfl; exact rfl) | (apply w_assign; exact rfl; exact rfl; exact rfl) | (apply w_extract; exact rfl; exact rfl; exact rfl; exact rfl)))
    by_cases hE : fromP p n = 0 ∧ sizeP p n = 0
    · refine w_eqlS rfl rfl rfl rfl (fun _ => ?_) (fun hq => absurd (by omega) hq)
      (repeat (apply w_move; exact rfl; exact rfl; exact rfl))
      refine w_eqlS rfl rfl rfl rfl (fun _ => ?_) (fun hq => absurd (by omega) hq)
      (repeat (first | (first | refine y_seq ?_ | refine w_region ?_ | refine y_regEnd ?_ | refine y_exit rfl ?_ | refine y_condT rfl ?_ | (apply w_move; exact rfl; exact rfl; exact rfl) | (apply w_assign; exact rfl; exact rfl; exact rfl) | (apply w_pickT; exact rfl; exact rfl; exact rfl; exact rfl) | (apply w_add; exact rfl; exact rfl; exact rfl; exact rfl; (focus (omega)); (focus (omega))) | (apply w_sub; exact rfl; exact rfl; exact rfl; exact rfl; (focus (omega)); (focus (omega)))) | (apply w_lss; exact rfl; exact rfl; exact rfl; exact rfl)))
      refine ih _ _ _ (n + 1, seen, decide (n + 1 < slotsP p)) ⟨rfl, hn, ?_, h5, h6, h7⟩ (by omega) ?_
      · rw [← h4, hgo, if_pos hE]
      · rw [show decide ((n : Int) < (slotsP p : Int) - 1) = decide (n + 1 < slotsP p) from decide_eq_decide.2 (by omega)]
        exact SlIn.sub (by repeat (first | exact trivial | refine ⟨rfl, ?_⟩))
    · have hgo2 := hgo
      rw [if_neg hE] at hgo2
      refine w_eqlS rfl rfl rfl rfl (fun e1 => ?_) (fun e1 => ?_)
      · (repeat (apply w_move; exact rfl; exact rfl; exact rfl))
        refine w_eqlS rfl rfl rfl rfl (fun hq => absurd hq (by omega)) (fun _ => ?_)
        (repeat (first | refine y_seq ?_ | refine w_region ?_ | refine y_regEnd ?_ | refine y_skip ?_ | refine y_condF rfl ?_ | (apply w_move; exact rfl; exact rfl; exact rfl) | (apply w_pickT; exact rfl; exact rfl; exact rfl; exact rfl)))
        refine w_lssS rfl rfl rfl rfl (fun c1 => ?_) (fun c1 => ?_)
        · (repeat (first | refine y_seq ?_ | refine w_region ?_ | refine y_regEnd ?_ | refine y_exit rfl ?_ | refine y_condT rfl ?_ | (apply w_move; exact rfl; exact rfl; exact rfl) | (apply w_assign; exact rfl; exact rfl; exact rfl) | (apply w_pickT; exact rfl; exact rfl; exact rfl; exact rfl) | (apply w_not; exact rfl))); ((apply w_ret Try.func38 (congrArg Array.toList Try.results38)); (focus (repeat (first | exact ResIs.nil | apply ResIs.tmp rfl)))); exact ⟨by rw [← h4, hgo2, if_pos (by omega)]; rfl, by dsimp only; omega, h7⟩
        (repeat (apply w_move; exact rfl; exact rfl; exact rfl))
        refine w_gtrS rfl rfl rfl rfl (fun c2 => ?_) (fun c2 => ?_)
        · (repeat (first | refine y_seq ?_ | refine w_region ?_ | refine y_regEnd ?_ | refine y_exit rfl ?_ | refine y_condT rfl ?_ | (apply w_move; exact rfl; exact rfl; exact rfl) | (apply w_assign; exact rfl; exact rfl; exact rfl) | (apply w_pickT; exact rfl; exact rfl; exact rfl; exact rfl) | (apply w_pickF; exact rfl; exact rfl; exact rfl; exact rfl) | (apply w_not; exact rfl))); ((apply w_ret Try.func38 (congrArg Array.toList Try.results38)); (focus (repeat (first | exact ResIs.nil | apply ResIs.tmp rfl)))); exact ⟨by rw [← h4, hgo2, if_pos (by omega)]; rfl, by dsimp only; omega, h7⟩
        (repeat (first | (apply w_move; exact rfl; exact rfl; exact rfl) | (apply w_pickF; exact rfl; exact rfl; exact rfl; exact rfl)))
        refine w_lssS rfl rfl rfl rfl (fun c3 => ?_) (fun c3 => ?_)
        · (repeat (first | refine y_seq ?_ | refine w_region ?_ | refine y_regEnd ?_ | refine y_exit rfl ?_ | refine y_condT rfl ?_ | (apply w_move; exact rfl; exact rfl; exact rfl) | (apply w_assign; exact rfl; exact rfl; exact rfl) | (apply w_pickT; exact rfl; exact rfl; exact rfl; exact rfl) | (apply w_pickF; exact rfl; exact rfl; exact rfl; exact rfl) | (apply w_not; exact rfl))); ((apply w_ret Try.func38 (congrArg Array.toList Try.results38)); (focus (repeat (first | exact ResIs.nil | apply ResIs.tmp rfl)))); exact ⟨by rw [← h4, hgo2, if_pos (by omega)]; rfl, by dsimp only; omega, h7⟩
        (repeat (first | (apply w_move; exact rfl; exact rfl; exact rfl) | (apply w_pickF; exact rfl; exact rfl; exact rfl; exact rfl) | (apply w_add; exact rfl; exact rfl; exact rfl; exact rfl; (focus (omega)); (focus (omega)))))
        refine w_gtrS rfl rfl rfl rfl (fun c4 => ?_) (fun c4 => ?_)
        · (repeat (first | refine y_seq ?_ | refine w_region ?_ | refine y_regEnd ?_ | refine y_exit rfl ?_ | refine y_condT rfl ?_ | (apply w_move; exact rfl; exact rfl; exact rfl) | (apply w_assign; exact rfl; exact rfl; exact rfl) | (apply w_pickF; exact rfl; exact rfl; exact rfl; exact rfl))); ((apply w_ret Try.func38 (congrArg Array.toList Try.results38)); (focus (repeat (first | exact ResIs.nil | apply ResIs.tmp rfl)))); exact ⟨by rw [← h4, hgo2, if_pos (by omega)]; rfl, by dsimp only; omega, h7⟩
        rw [if_neg (by omega)] at hgo2
        (repeat (first | refine y_seq ?_ | refine w_region ?_ | refine y_regEnd ?_ | refine y_block ?_ | refine y_skip ?_ | refine y_condF rfl ?_ | (apply w_move; exact rfl; exact rfl; exact rfl) | (apply w_assign; exact rfl; exact rfl; exact rfl) | (apply w_pickF; exact rfl; exact rfl; exact rfl; exact rfl)))
        refine y_loopT (α := Nat) (fun i => [(0, .ptr b 0), (3, .sc (.int .i64 (slotsP p : Int))), (4, .sc (.int .i64 (beginP p : Int))), (5, finF nx), (6, .ptr (nx + 1) 0), (8, .sc (.int .i64 (n : Int))), (9, .sc (.int .i64 (fromP p n : Int))), (10, .sc (.int .i64 (sizeP p n : Int))), (11, .sc (.int .i64 (i : Int))), (27, .sc (.int .i64 (slotsP p : Int))), (28, .sc (.int .i64 (n : Int)))])
          (fun i H2 n2 => n2 = nx + 1 + 1 ∧ fromP p n ≤ i ∧ i ≤ fromP p n + sizeP p n ∧ (∀ j, fromP p n ≤ j → j < i → covers seen j = false) ∧ H2.at' nx = some (finO b) ∧ H2.at' (nx + 1) = some (takO (covers ((fromP p n, i - fromP p n) :: seen))) ∧ ∀ m, m < nx → H2.at' m = H.at' m) (fun i => fromP p n + sizeP p n - i) (fromP p n)
          ⟨rfl, Nat.le_refl _, by omega, fun j g1 g2 => absurd g1 (by omega), h5, by rw [Nat.sub_self]; exact h6.trans (congrArg (fun f => some (takO f)) (cov_none _ _).symm), h7⟩ (SlIn.sub (by repeat (first | exact trivial | refine ⟨rfl, ?_⟩))) ?_
        rintro i H2 n2 ⟨rfl, g1, g2, g3, g4, g5, g6⟩ ih2
        (repeat (first | refine y_seq ?_ | refine w_region ?_ | (apply w_move; exact rfl; exact rfl; exact rfl) | (apply w_add; exact rfl; exact rfl; exact rfl; exact rfl; (focus (omega)); (focus (omega)))))
        refine w_lssS rfl rfl rfl rfl (fun c5 => ?_) (fun c5 => ?_)
        · have hi : i < 1024 := by omega
          have hc := tak_cell (covers ((fromP p n, i - fromP p n) :: seen)) hi
          rw [cov_at seen g1] at hc
          cases hci : covers seen i with
          | true =>
            rw [hci] at hc
            (repeat (first | (first | refine y_seq ?_ | refine w_region ?_ | refine y_regEnd ?_ | refine y_block ?_ | refine y_skip ?_ | refine y_exit rfl ?_ | refine y_condT rfl ?_ | (apply w_move; exact rfl; exact rfl; exact rfl) | (apply w_assign; exact rfl; exact rfl; exact rfl)) | (apply w_idxA (q := i); exact rfl; exact rfl; exact rfl; exact rfl; exact (F.un _ rfl); exact (F.sz _ rfl); (focus (omega)); (focus (omega))) | (refine w_cell rfl rfl rfl (F.ag _ rfl) g5 (by rw [Nat.zero_add, Nat.mul_one]; exact hc) ?_)))
            ((apply w_ret Try.func38 (congrArg Array.toList Try.results38)); (focus (repeat (first | exact ResIs.nil | apply ResIs.tmp rfl))))
            exact ⟨by rw [← h4, hgo2, if_pos (meets_yes (by omega) (by omega) hci)]; rfl, by dsimp only; omega, g6⟩
          | false =>
            rw [hci] at hc
            (repeat (first | (first | refine y_seq ?_ | refine w_region ?_ | refine y_regEnd ?_ | refine y_block ?_ | refine y_skip ?_ | refine y_condT rfl ?_ | refine y_condF rfl ?_ | (apply w_move; exact rfl; exact rfl; exact rfl)) | (apply w_idxA (q := i); exact rfl; exact rfl; exact rfl; exact rfl; exact (F.un _ rfl); exact (F.sz _ rfl); (focus (omega)); (focus (omega))) | (refine w_cell rfl rfl rfl (F.ag _ rfl) g5 (by rw [Nat.zero_add, Nat.mul_one]; exact hc) ?_)))
            refine w_store1 (v := .sc (.bool true)) (cs := takS (covers ((fromP p n, i - fromP p n) :: seen))) rfl rfl rfl (F.sz _ rfl) g5 rfl (by rw [Nat.zero_add, Nat.mul_one]; exact Nat.ble_eq_true_of_le (by rw [List.length_map, List.length_range]; exact hi)) ?_
            rw [Nat.zero_add, Nat.mul_one, tak_set g1]
            (repeat (first | refine w_region ?_ | refine y_regEnd ?_ | refine y_inBlock ?_ | (apply w_move; exact rfl; exact rfl; exact rfl) | (apply w_assign; exact rfl; exact rfl; exact rfl) | (apply w_add; exact rfl; exact rfl; exact rfl; exact rfl; (focus (omega)); (focus (omega)))))
            refine ih2 _ _ _ (i + 1) ⟨rfl, by omega, by omega, fun j k1 k2 => ?_, (Tr.at_set_other _ _ (by omega)).trans g4, Tr.at_set_same _ _ _, fun m hm => (Tr.at_set_other _ _ (by omega)).trans (g6 m hm)⟩ (by omega) (SlIn.sub (by repeat (first | exact trivial | refine ⟨rfl, ?_⟩)))
            rcases Nat.lt_or_ge j i with k3 | k3
            · exact g3 j k1 k3
            · obtain rfl : j = i := by omega
              exact hci
        · obtain rfl : i = fromP p n + sizeP p n := by omega
          rw [Nat.add_sub_cancel_left] at g5
          rw [if_neg (by rw [meets_no g3]; decide)] at hgo2
          (repeat (first | refine w_region ?_ | refine y_regEnd ?_ | refine y_inBlock ?_ | refine y_exit rfl ?_ | refine y_condF rfl ?_ | (apply w_move; exact rfl; exact rfl; exact rfl) | (apply w_assign; exact rfl; exact rfl; exact rfl) | (apply w_add; exact rfl; exact rfl; exact rfl; exact rfl; (focus (omega)); (focus (omega)))))
          exact ih _ _ _ (n + 1, (fromP p n, sizeP p n) :: seen, true) ⟨rfl, hn, by rw [← h4, hgo2], g4, g5, g6⟩ (by omega) (SlIn.sub (by repeat (first | exact trivial | refine ⟨rfl, ?_⟩)))
      · (repeat (first | refine y_seq ?_ | refine w_region ?_ | refine y_regEnd ?_ | refine y_skip ?_ | refine y_condF rfl ?_ | (apply w_move; exact rfl; exact rfl; exact rfl) | (apply w_pickF; exact rfl; exact rfl; exact rfl; exact rfl) | (apply w_not; exact rfl)))
        refine w_lssS rfl rfl rfl rfl (fun c1 => ?_) (fun c1 => ?_)
        · (repeat (first | refine y_seq ?_ | refine w_region ?_ | refine y_regEnd ?_ | refine y_exit rfl ?_ | refine y_condT rfl ?_ | (apply w_move; exact rfl; exact rfl; exact rfl) | (apply w_assign; exact rfl; exact rfl; exact rfl) | (apply w_pickT; exact rfl; exact rfl; exact rfl; exact rfl) | (apply w_not; exact rfl))); ((apply w_ret Try.func38 (congrArg Array.toList Try.results38)); (focus (repeat (first | exact ResIs.nil | apply ResIs.tmp rfl)))); exact ⟨by rw [← h4, hgo2, if_pos (by omega)]; rfl, by dsimp only; omega, h7⟩
        (repeat (apply w_move; exact rfl; exact rfl; exact rfl))
        refine w_gtrS rfl rfl rfl rfl (fun c2 => ?_) (fun c2 => ?_)
        · (repeat (first | refine y_seq ?_ | refine w_region ?_ | refine y_regEnd ?_ | refine y_exit rfl ?_ | refine y_condT rfl ?_ | (apply w_move; exact rfl; exact rfl; exact rfl) | (apply w_assign; exact rfl; exact rfl; exact rfl) | (apply w_pickT; exact rfl; exact rfl; exact rfl; exact rfl) | (apply w_pickF; exact rfl; exact rfl; exact rfl; exact rfl) | (apply w_not; exact rfl))); ((apply w_ret Try.func38 (congrArg Array.toList Try.results38)); (focus (repeat (first | exact ResIs.nil | apply ResIs.tmp rfl)))); exact ⟨by rw [← h4, hgo2, if_pos (by omega)]; rfl, by dsimp only; omega, h7⟩
        (repeat (first | (apply w_move; exact rfl; exact rfl; exact rfl) | (apply w_pickF; exact rfl; exact rfl; exact rfl; exact rfl)))
        refine w_lssS rfl rfl rfl rfl (fun c3 => ?_) (fun c3 => ?_)
        · (repeat (first | refine y_seq ?_ | refine w_region ?_ | refine y_regEnd ?_ | refine y_exit rfl ?_ | refine y_condT rfl ?_ | (apply w_move; exact rfl; exact rfl; exact rfl) | (apply w_assign; exact rfl; exact rfl; exact rfl) | (apply w_pickT; exact rfl; exact rfl; exact rfl; exact rfl) | (apply w_pickF; exact rfl; exact rfl; exact rfl; exact rfl) | (apply w_not; exact rfl))); ((apply w_ret Try.func38 (congrArg Array.toList Try.results38)); (focus (repeat (first | exact ResIs.nil | apply ResIs.tmp rfl)))); exact ⟨by rw [← h4, hgo2, if_pos (by omega)]; rfl, by dsimp only; omega, h7⟩
        (repeat (first | (apply w_move; exact rfl; exact rfl; exact rfl) | (apply w_pickF; exact rfl; exact rfl; exact rfl; exact rfl) | (apply w_add; exact rfl; exact rfl; exact rfl; exact rfl; (focus (omega)); (focus (omega)))))
        refine w_gtrS rfl rfl rfl rfl (fun c4 => ?_) (fun c4 => ?_)
        · (repeat (first | refine y_seq ?_ | refine w_region ?_ | refine y_regEnd ?_ | refine y_exit rfl ?_ | refine y_condT rfl ?_ | (apply w_move; exact rfl; exact rfl; exact rfl) | (apply w_assign; exact rfl; exact rfl; exact rfl) | (apply w_pickF; exact rfl; exact rfl; exact rfl; exact rfl))); ((apply w_ret Try.func38 (congrArg Array.toList Try.results38)); (focus (repeat (first | exact ResIs.nil | apply ResIs.tmp rfl)))); exact ⟨by rw [← h4, hgo2, if_pos (by omega)]; rfl, by dsimp only; omega, h7⟩
        rw [if_neg (by omega)] at hgo2
        (repeat (first | refine y_seq ?_ | refine w_region ?_ | refine y_regEnd ?_ | refine y_block ?_ | refine y_skip ?_ | refine y_condF rfl ?_ | (apply w_move; exact rfl; exact rfl; exact rfl) | (apply w_assign; exact rfl; exact rfl; exact rfl) | (apply w_pickF; exact rfl; exact rfl; exact rfl; exact rfl)))
        refine y_loopT (α := Nat) (fun i => [(0, .ptr b 0), (3, .sc (.int .i64 (slotsP p : Int))), (4, .sc (.int .i64 (beginP p : Int))), (5, finF nx), (6, .ptr (nx + 1) 0), (8, .sc (.int .i64 (n : Int))), (9, .sc (.int .i64 (fromP p n : Int))), (10, .sc (.int .i64 (sizeP p n : Int))), (11, .sc (.int .i64 (i : Int))), (27, .sc (.int .i64 (slotsP p : Int))), (28, .sc (.int .i64 (n : Int)))])
          (fun i H2 n2 => n2 = nx + 1 + 1 ∧ fromP p n ≤ i ∧ i ≤ fromP p n + sizeP p n ∧ (∀ j, fromP p n ≤ j → j < i → covers seen j = false) ∧ H2.at' nx = some (finO b) ∧ H2.at' (nx + 1) = some (takO (covers ((fromP p n, i - fromP p n) :: seen))) ∧ ∀ m, m < nx → H2.at' m = H.at' m) (fun i => fromP p n + sizeP p n - i) (fromP p n)
          ⟨rfl, Nat.le_refl _, by omega, fun j g1 g2 => absurd g1 (by omega), h5, by rw [Nat.sub_self]; exact h6.trans (congrArg (fun f => some (takO f)) (cov_none _ _).symm), h7⟩ (SlIn.sub (by repeat (first | exact trivial | refine ⟨rfl, ?_⟩))) ?_
        rintro i H2 n2 ⟨rfl, g1, g2, g3, g4, g5, g6⟩ ih2
        (repeat (first | refine y_seq ?_ | refine w_region ?_ | (apply w_move; exact rfl; exact rfl; exact rfl) | (apply w_add; exact rfl; exact rfl; exact rfl; exact rfl; (focus (omega)); (focus (omega)))))
        refine w_lssS rfl rfl rfl rfl (fun c5 => ?_) (fun c5 => ?_)
        · have hi : i < 1024 := by omega
          have hc := tak_cell (covers ((fromP p n, i - fromP p n) :: seen)) hi
          rw [cov_at seen g1] at hc
          cases hci : covers seen i with
          | true =>
            rw [hci] at hc
            (repeat (first | (first | refine y_seq ?_ | refine w_region ?_ | refine y_regEnd ?_ | refine y_block ?_ | refine y_skip ?_ | refine y_exit rfl ?_ | refine y_condT rfl ?_ | (apply w_move; exact rfl; exact rfl; exact rfl) | (apply w_assign; exact rfl; exact rfl; exact rfl)) | (apply w_idxA (q := i); exact rfl; exact rfl; exact rfl; exact rfl; exact (F.un _ rfl); exact (F.sz _ rfl); (focus (omega)); (focus (omega))) | (refine w_cell rfl rfl rfl (F.ag _ rfl) g5 (by rw [Nat.zero_add, Nat.mul_one]; exact hc) ?_)))
            ((apply w_ret Try.func38 (congrArg Array.toList Try.results38)); (focus (repeat (first | exact ResIs.nil | apply ResIs.tmp rfl))))
            exact ⟨by rw [← h4, hgo2, if_pos (meets_yes (by omega) (by omega) hci)]; rfl, by dsimp only; omega, g6⟩
          | false =>
            rw [hci] at hc
            (repeat (first | (first | refine y_seq ?_ | refine w_region ?_ | refine y_regEnd ?_ | refine y_block ?_ | refine y_skip ?_ | refine y_condT rfl ?_ | refine y_condF rfl ?_ | (apply w_move; exact rfl; exact rfl; exact rfl)) | (apply w_idxA (q := i); exact rfl; exact rfl; exact rfl; exact rfl; exact (F.un _ rfl); exact (F.sz _ rfl); (focus (omega)); (focus (omega))) | (refine w_cell rfl rfl rfl (F.ag _ rfl) g5 (by rw [Nat.zero_add, Nat.mul_one]; exact hc) ?_)))
            refine w_store1 (v := .sc (.bool true)) (cs := takS (covers ((fromP p n, i - fromP p n) :: seen))) rfl rfl rfl (F.sz _ rfl) g5 rfl (by rw [Nat.zero_add, Nat.mul_one]; exact Nat.ble_eq_true_of_le (by rw [List.length_map, List.length_range]; exact hi)) ?_
            rw [Nat.zero_add, Nat.mul_one, tak_set g1]
            (repeat (first | refine w_region ?_ | refine y_regEnd ?_ | refine y_inBlock ?_ | (apply w_move; exact rfl; exact rfl; exact rfl) | (apply w_assign; exact rfl; exact rfl; exact rfl) | (apply w_add; exact rfl; exact rfl; exact rfl; exact rfl; (focus (omega)); (focus (omega)))))
            refine ih2 _ _ _ (i + 1) ⟨rfl, by omega, by omega, fun j k1 k2 => ?_, (Tr.at_set_other _ _ (by omega)).trans g4, Tr.at_set_same _ _ _, fun m hm => (Tr.at_set_other _ _ (by omega)).trans (g6 m hm)⟩ (by omega) (SlIn.sub (by repeat (first | exact trivial | refine ⟨rfl, ?_⟩)))
            rcases Nat.lt_or_ge j i with k3 | k3
            · exact g3 j k1 k3
            · obtain rfl : j = i := by omega
              exact hci
        · obtain rfl : i = fromP p n + sizeP p n := by omega
          rw [Nat.add_sub_cancel_left] at g5
          rw [if_neg (by rw [meets_no g3]; decide)] at hgo2
          (repeat (first | refine w_region ?_ | refine y_regEnd ?_ | refine y_inBlock ?_ | refine y_exit rfl ?_ | refine y_condF rfl ?_ | (apply w_move; exact rfl; exact rfl; exact rfl) | (apply w_assign; exact rfl; exact rfl; exact rfl) | (apply w_add; exact rfl; exact rfl; exact rfl; exact rfl; (focus (omega)); (focus (omega)))))
          exact ih _ _ _ (n + 1, (fromP p n, sizeP p n) :: seen, true) ⟨rfl, hn, by rw [← h4, hgo2], g4, g5, g6⟩ (by omega) (SlIn.sub (by repeat (first | exact trivial | refine ⟨rfl, ?_⟩)))
  · obtain rfl : n = slotsP p := by omega
    rw [Nat.sub_self] at h4
    have h4 : fine = rightGo p (slotsP p) 0 [] true := h4
    (repeat (first | refine y_seq ?_ | refine w_region ?_ | refine y_regEnd ?_ | refine y_exit rfl ?_ | refine y_condF rfl ?_ | (apply w_move; exact rfl; exact rfl; exact rfl) | (apply w_assign; exact rfl; exact rfl; exact rfl)))
    ((apply w_ret Try.func38 (congrArg Array.toList Try.results38)); (focus (repeat (first | exact ResIs.nil | apply ResIs.tmp rfl))))
    exact ⟨by rw [← h4]; rfl, by dsimp only; omega, h7⟩
theorem right_s {H : Heap} {nx b : Nat} {p : List UInt8} (hb : H.at' b = some (pgO p)) (hp : p.length = 1024) : Fnc Try.prog 38 [.ptr b 0] H nx (fun q => q = (.sc (.bool (rightP p)), H, nx)) := Fnc.forgetV (fun _ _ _ h => h) (right_r hb hp)
end Go.Proofs.Ytdpjbpnemjdhfaa
end
section
namespace Go.Proofs.Ytdpjbpnemjdhfaa
open Go Go.Sy Go.Sl Go.RowKit
def emptyGo (p : List UInt8) : Nat → Nat → Nat
  | 0, n => n
  | k + 1, n => if sizeP p n = 0 then n else emptyGo p k (n + 1)
def emptyP (p : List UInt8) : Nat := emptyGo p (slotsP p) 0
theorem emptyGo_le (p : List UInt8) : ∀ k n, emptyGo p k n ≤ n + k
  | 0, n => Nat.le_refl _
  | k + 1, n => by
    unfold emptyGo
    split
    · omega
    · have := emptyGo_le p k (n + 1); omega
theorem emptyP_le (p : List UInt8) : emptyP p ≤ slotsP p := by have := emptyGo_le p (slotsP p) 0; unfold emptyP; omega
def fitsP (p : List UInt8) : Prop := p.length = 1024 ∧ 18 + 4 * slotsP p ≤ beginP p ∧ beginP p ≤ 1024
theorem fits_right {p : List UInt8} (hp : p.length = 1024) (h : rightP p = true) : fitsP p := by
  unfold rightP at h
  rw [Bool.and_eq_true, decide_eq_true_eq] at h
  exact ⟨hp, h.1⟩
set_option maxRecDepth 100000 in
set_option maxHeartbeats 0 in
theorem empty_r {H : Heap} {nx b : Nat} {p : List UInt8} (hb : H.at' b = some (pgO p)) (hp : fitsP p) : Fnc Try.prog 45 [.ptr b 0] H nx (fun q => q.1 = .sc (.int .i64 (emptyP p : Int)) ∧ nx ≤ q.2.2 ∧ ∀ m, m < nx → q.2.1.at' m = H.at' m) := by
  obtain ⟨hp, hp1, hp2⟩ := hp
  have hs : slotsP p < 65536 := numP_lt p 14
  refine Fnc.start Try.func45 rfl rfl ?_
  refine y_under fun hund => ?_
  have hlt := hund _ _ hb
  have hb0 : ∀ {vo : VO}, (H.set nx vo).at' b = some (pgO p) := fun {vo} => (Tr.at_set_other _ _ (by omega)).trans hb
  (repeat (first | (first | refine y_seq ?_ | refine w_region ?_ | refine y_regEnd ?_ | refine y_block ?_ | (apply w_move; exact rfl; exact rfl; exact rfl) | (apply w_assign; exact rfl; exact rfl; exact rfl)) | (refine w_call rfl rfl rfl (by kernel_rfl) (Fnc.mono (finder_s) ?_); rintro _ rfl; dsimp only) | (refine w_call rfl rfl rfl (by kernel_rfl) (Fnc.mono (slots_s hb0 hp) ?_); rintro _ rfl; dsimp only)))
  refine y_loopT (α := Nat) (fun n => [(0, .ptr b 0), (3, finF nx), (10, .sc (.int .i64 (slotsP p : Int))), (11, .sc (.int .i64 (n : Int)))])
    (fun n H1 n1 => n1 = nx + 1 ∧ n ≤ slotsP p ∧ emptyGo p (slotsP p - n) n = emptyP p ∧ H1 = H.set nx (finO b)) (fun n => slotsP p - n) 0
    ⟨rfl, Nat.zero_le _, rfl, rfl⟩ (SlIn.sub (by repeat (first | exact trivial | refine ⟨rfl, ?_⟩))) ?_
  rintro n H1 n1 ⟨rfl, h3, h4, rfl⟩ ih
  (repeat (first | refine y_seq ?_ | refine w_region ?_))
  refine w_lssS rfl rfl rfl rfl (fun h8 => ?_) (fun h8 => ?_)
  · have hgo : emptyGo p (slotsP p - n) n = if sizeP p n = 0 then n else emptyGo p (slotsP p - (n + 1)) (n + 1) := by
      rw [show slotsP p - n = (slotsP p - (n + 1)) + 1 by omega]
      rfl
    (repeat (first | refine y_seq ?_ | refine w_region ?_ | refine y_regEnd ?_ | refine y_block ?_ | refine y_skip ?_ | refine y_condT rfl ?_ | (apply w_move; exact rfl; exact rfl; exact rfl) | (apply w_assign; exact rfl; exact rfl; exact rfl)))
    refine w_callF rfl rfl rfl rfl (by kernel_rfl) (Fnc.mono (where_s (Tr.at_set_same _ _ _) hb0 hp (n := n) (by omega)) ?_)
    rintro _ rfl
    dsimp only
    (repeat (first | refine y_seq ?_ | refine w_region ?_ | refine y_regEnd ?_ | (apply w_move; exact rfl; exact rfl; exact rfl) | (apply w_assign; exact rfl; exact rfl; exact rfl) | (apply w_extract; exact rfl; exact rfl; exact rfl; exact rfl)))
    refine w_eqlS rfl rfl rfl rfl (fun e1 => ?_) (fun e1 => ?_)
    · (repeat (first | refine y_seq ?_ | refine w_region ?_ | refine y_regEnd ?_ | refine y_condT rfl ?_ | (apply w_move; exact rfl; exact rfl; exact rfl) | (apply w_assign; exact rfl; exact rfl; exact rfl)))
      ((apply w_ret Try.func45 (congrArg Array.toList Try.results45)); (focus (repeat (first | exact ResIs.nil | apply ResIs.tmp rfl))))
      refine ⟨?_, Nat.le_succ _, fun m hm => Tr.at_set_other _ _ (by omega)⟩
      rw [← h4, hgo, if_pos (by omega)]
      rfl
    · (repeat (first | refine w_region ?_ | refine y_regEnd ?_ | refine y_inBlock ?_ | refine y_skip ?_ | refine y_condF rfl ?_ | (apply w_move; exact rfl; exact rfl; exact rfl) | (apply w_add; exact rfl; exact rfl; exact rfl; exact rfl; (focus (omega)); (focus (omega)))))
      exact ih _ _ _ (n + 1) ⟨rfl, by omega, by rw [← h4, hgo, if_neg (by omega)], rfl⟩ (by omega) (SlIn.sub (by repeat (first | exact trivial | refine ⟨rfl, ?_⟩)))
  · obtain rfl : n = slotsP p := by omega
    rw [Nat.sub_self] at h4
    have h4 : slotsP p = emptyP p := h4
    (repeat (first | (first | refine y_seq ?_ | refine w_region ?_ | refine y_regEnd ?_ | refine y_exit rfl ?_ | refine y_condF rfl ?_ | (apply w_move; exact rfl; exact rfl; exact rfl) | (apply w_assign; exact rfl; exact rfl; exact rfl)) | (refine w_call rfl rfl rfl (by kernel_rfl) (Fnc.mono (slots_s hb0 hp) ?_); rintro _ rfl; dsimp only)))
    ((apply w_ret Try.func45 (congrArg Array.toList Try.results45)); (focus (repeat (first | exact ResIs.nil | apply ResIs.tmp rfl))))
    refine ⟨?_, Nat.le_succ _, fun m hm => Tr.at_set_other _ _ (by omega)⟩
    rw [← h4]
    rfl
theorem empty_s {H : Heap} {nx b : Nat} {p : List UInt8} (hb : H.at' b = some (pgO p)) (hp : fitsP p) : Fnc Try.prog 45 [.ptr b 0] H nx (fun q => q = (.sc (.int .i64 (emptyP p : Int)), H, nx)) := Fnc.forgetV (fun _ _ _ h => h) (empty_r hb hp)
def roomP (p : List UInt8) : Nat := beginP p - 18 - 4 * slotsP p - (if emptyP p = slotsP p then 4 else 0)
set_option maxRecDepth 100000 in
set_option maxHeartbeats 0 in
theorem room_s {H : Heap} {nx b : Nat} {p : List UInt8} (hb : H.at' b = some (pgO p)) (hp : fitsP p) : Fnc Try.prog 39 [.ptr b 0] H nx (fun q => q = (.sc (.int .i64 (roomP p : Int)), H, nx)) := by
  have hp0 := hp
  obtain ⟨hp, hp1, hp2⟩ := hp
  have hs : slotsP p < 65536 := numP_lt p 14
  have he := emptyP_le p
  refine Fnc.start Try.func39 rfl rfl ?_
  (repeat (first | (first | refine y_seq ?_ | refine w_region ?_ | refine y_regEnd ?_ | (apply w_move; exact rfl; exact rfl; exact rfl) | (apply w_assign; exact rfl; exact rfl; exact rfl) | (apply w_sub; exact rfl; exact rfl; exact rfl; exact rfl; (focus (omega)); (focus (omega))) | (apply w_mul; exact rfl; exact rfl; exact rfl; exact rfl; (focus (omega)); (focus (omega)))) | (refine w_call rfl rfl rfl (by kernel_rfl) (Fnc.mono (slots_s hb hp) ?_); rintro _ rfl; dsimp only) | (refine w_call rfl rfl rfl (by kernel_rfl) (Fnc.mono (begin_s hb hp) ?_); rintro _ rfl; dsimp only) | (refine w_call rfl rfl rfl (by kernel_rfl) (Fnc.mono (empty_s hb hp0) ?_); rintro _ rfl; dsimp only)))
  refine w_eqlS rfl rfl rfl rfl (fun e1 => ?_) (fun e1 => ?_)
  · (repeat (first | (first | refine y_seq ?_ | refine w_region ?_ | refine y_regEnd ?_ | refine y_condT rfl ?_ | (apply w_move; exact rfl; exact rfl; exact rfl) | (apply w_assign; exact rfl; exact rfl; exact rfl) | (apply w_sub; exact rfl; exact rfl; exact rfl; exact rfl; (focus (omega)); (focus (omega)))) | ((apply w_max2 (c := (roomP p : Int)); exact rfl; exact rfl; exact rfl; exact rfl; (focus (unfold roomP; rw [if_pos (by omega)]; omega))))))
    ((apply w_ret Try.func39 (congrArg Array.toList Try.results39)); (focus (repeat (first | exact ResIs.nil | apply ResIs.tmp rfl))))
    rfl
  · (repeat (first | (first | refine y_seq ?_ | refine w_region ?_ | refine y_regEnd ?_ | refine y_skip ?_ | refine y_condF rfl ?_ | (apply w_move; exact rfl; exact rfl; exact rfl) | (apply w_assign; exact rfl; exact rfl; exact rfl)) | ((apply w_max2 (c := (roomP p : Int)); exact rfl; exact rfl; exact rfl; exact rfl; (focus (unfold roomP; rw [if_neg (by omega)]; omega))))))
    ((apply w_ret Try.func39 (congrArg Array.toList Try.results39)); (focus (repeat (first | exact ResIs.nil | apply ResIs.tmp rfl))))
    rfl
end Go.Proofs.Ytdpjbpnemjdhfaa
end
section
namespace Go.Proofs.Ytdpjbpnemjdhfaa
open Go Go.Sy Go.Sl Go.RowKit
theorem putAt_get {p : List UInt8} {o : Nat} {l : List UInt8} (h : o + l.length ≤ p.length) (i : Nat) : (putAt p o l)[i]? = if o ≤ i ∧ i < o + l.length then l[i - o]? else p[i]? := by
  have ho : (p.take o).length = o := by rw [List.length_take]; omega
  unfold putAt
  rcases Nat.lt_or_ge i o with h1 | h1
  · rw [if_neg (by omega), List.append_assoc, List.getElem?_append_left (by omega), List.getElem?_take_of_lt h1]
  · rcases Nat.lt_or_ge i (o + l.length) with h2 | h2
    · rw [if_pos ⟨h1, h2⟩, List.getElem?_append_left (by rw [List.length_append]; omega), List.getElem?_append_right (by omega), ho]
    · rw [if_neg (by omega), List.getElem?_append_right (by rw [List.length_append]; omega), List.length_append, ho, List.getElem?_drop]
      congr 1
      omega
theorem numP_eq {p q : List UInt8} {o : Nat} (h : ∀ i, o ≤ i → i < o + 2 → p[i]? = q[i]?) : numP p o = numP q o := by
  unfold numP
  congr 1
  refine List.ext_getElem? fun i => ?_
  rcases Nat.lt_or_ge i 2 with hi | hi
  · rw [List.getElem?_take_of_lt hi, List.getElem?_take_of_lt hi, List.getElem?_drop, List.getElem?_drop]
    exact h _ (by omega) (by omega)
  · rw [List.getElem?_eq_none (by rw [List.length_take]; omega), List.getElem?_eq_none (by rw [List.length_take]; omega)]
theorem numP_put {p : List UInt8} {o o' : Nat} {l : List UInt8} (h : o + l.length ≤ p.length) (h2 : o' + 2 ≤ o ∨ o + l.length ≤ o') : numP (putAt p o l) o' = numP p o' :=
  numP_eq fun i h3 h4 => by rw [putAt_get h, if_neg (by omega)]
theorem numP_other {p : List UInt8} {o o' n : Nat} (h : o + 2 ≤ p.length) (h2 : o' + 2 ≤ o ∨ o + 2 ≤ o') : numP (setP p o n) o' = numP p o' :=
  numP_put (by rw [beB_len]; exact h) (by rw [beB_len]; exact h2)
theorem zBuild : buildS Try.prog 40 [] = some (.agg (pgS zeroP)) := by kernel_rfl
def moreP (p : List UInt8) : List UInt8 := if emptyP p = slotsP p then setP p 14 (emptyP p + 1) else p
def layP (p it : List UInt8) : List UInt8 := putAt (setP (pointP (moreP p) (emptyP p) (beginP (moreP p) - it.length) it.length) 16 (beginP (moreP p) - it.length)) (beginP (moreP p) - it.length) it
def insP (p it : List UInt8) : List UInt8 × Nat × Nat :=
  if rightP p = false then (zeroP, 0, 4) else if ¬ (1 ≤ it.length ∧ it.length ≤ 1000) then (zeroP, 0, 2) else if roomP p < it.length then (zeroP, 0, 5) else (layP p it, emptyP p, 0)
abbrev insS (r : List UInt8 × Nat × Nat) : SV := .tup [.agg (pgS r.1), .sc (.int .i64 (r.2.1 : Int)), .sc (.int .i64 (r.2.2 : Int))]
set_option maxRecDepth 100000 in
set_option maxHeartbeats 0 in
theorem insert_r {H : Heap} {nx : Nat} {p it : List UInt8} {s : SV} (hp : p.length = 1024) (hB : BsIs H s (byV it)) (hit : it.length ≤ 4611686018427387904) : Fnc Try.prog 29 [.agg (pgS p), s] H nx (fun q => q.1 = insS (insP p it) ∧ nx ≤ q.2.2 ∧ ∀ m, m < nx → q.2.1.at' m = H.at' m) := by
  have hlen : (byV it).length = it.length := by simp
  refine Fnc.start Try.func29 rfl rfl ?_
  refine y_under fun hund => ?_
  (repeat (first | (first | refine y_seq ?_ | refine w_region ?_ | refine y_regEnd ?_ | (apply w_assign; exact rfl; exact rfl; exact rfl) | (apply w_boxN; exact rfl; exact rfl; exact rfl)) | (refine w_alloc rfl rfl zPage ?_)))
  have hb1 : ((H.set nx (pgO p)).set (nx + 1) (pgO zeroP)).at' nx = some (pgO p) := by (focus ((repeat (first | exact Tr.at_set_same _ _ _ | refine (Tr.at_set_other _ _ (by omega)).trans ?_)); done))
  have hz1 : ((H.set nx (pgO p)).set (nx + 1) (pgO zeroP)).at' (nx + 1) = some (pgO zeroP) := by (focus ((repeat (exact Tr.at_set_same _ _ _)); done))
  have ho1 : ∀ m, m < nx → ((H.set nx (pgO p)).set (nx + 1) (pgO zeroP)).at' m = H.at' m := fun m hm => by (focus ((repeat (refine (Tr.at_set_other _ _ (by omega)).trans ?_)); exact rfl))
  have hB2 : ∀ H' : Heap, (∀ m, m < nx → H'.at' m = H.at' m) → BsIs H' s (byV it) := fun H' h => hB.frame fun b vo hb => (h b (hund b vo hb)).trans hb
  have hB1 := hB2 _ ho1
  generalize (H.set nx (pgO p)).set (nx + 1) (pgO zeroP) = H1 at hb1 hz1 ho1 hB1 ⊢
  cases hr : rightP p with
  | false =>
    have hv : insP p it = (zeroP, 0, 4) := by unfold insP; rw [if_pos hr]
    have hrs := fun nx => right_s (nx := nx) hb1 hp
    rw [hr] at hrs
    (repeat (first | (first | refine y_seq ?_ | refine w_region ?_ | refine y_regEnd ?_ | refine y_condT rfl ?_ | (apply w_assign; exact rfl; exact rfl; exact rfl) | refine w_storeC rfl rfl rfl rfl (F.sz _ rfl) (by (focus ((repeat (assumption)); done))) rfl (by exact Nat.le_of_ble_eq_true rfl) rfl ?_ | (apply w_notB; exact rfl; exact rfl; exact rfl)) | (refine w_call rfl rfl rfl (by kernel_rfl) (Fnc.mono (hrs _) ?_); rintro _ rfl; dsimp only) | (refine w_build0 rfl rfl zBuild ?_)))
    rw [seg_pg _ _ zeroP_len zeroP_len]
    ((apply w_ret Try.func29 (congrArg Array.toList Try.results29)); (focus ((apply ResIs.cell rfl (LoadIs.many (F.ag _ rfl) (by (focus ((repeat (exact Tr.at_set_same _ _ _)); done))) (box_pg zeroP_len))); (repeat (first | exact ResIs.nil | apply ResIs.tmp rfl)))))
    exact ⟨by rw [hv]; rfl, by dsimp only; omega, fun m hm => (Tr.at_set_other _ _ (by omega)).trans (ho1 m hm)⟩
  | true =>
    have hf := fits_right hp hr
    have hrs := fun nx => right_s (nx := nx) hb1 hp
    rw [hr] at hrs
    have hmi := fun (H : Heap) nx => mayItem_s (H := H) (nx := nx) (n := it.length)
    have hlB := hlen
    by_cases hm : 1 ≤ it.length ∧ it.length ≤ 1000
    · have hmt : decide (1 ≤ it.length ∧ it.length ≤ 1000) = true := decide_eq_true hm
      rw [hmt] at hmi
      (repeat (first | (first | refine y_seq ?_ | refine w_region ?_ | refine y_regEnd ?_ | refine y_skip ?_ | refine y_condF rfl ?_ | (apply w_move; exact rfl; exact rfl; exact rfl) | (apply w_notB; exact rfl; exact rfl; exact rfl)) | (refine w_call rfl rfl rfl (by kernel_rfl) (Fnc.mono (hrs _) ?_); rintro _ rfl; dsimp only) | (refine w_lenB rfl rfl (F.un _ rfl) rfl hB1 ?_; rw [hlen]) | (refine w_call rfl rfl rfl (by kernel_rfl) (Fnc.mono (hmi _ _) ?_); rintro _ rfl; dsimp only) | (refine w_call rfl rfl rfl (by kernel_rfl) (Fnc.mono (room_s hb1 hf) ?_); rintro _ rfl; dsimp only)))
      refine w_gtrS rfl rfl rfl rfl (fun h1 => ?_) (fun h1 => ?_)
      · have hv : insP p it = (zeroP, 0, 5) := by unfold insP; rw [if_neg (by rw [hr]; decide), if_neg (fun hq => hq hm), if_pos (by omega)]
        (repeat (first | (first | refine y_seq ?_ | refine w_region ?_ | refine y_regEnd ?_ | refine y_condT rfl ?_ | (apply w_assign; exact rfl; exact rfl; exact rfl) | refine w_storeC rfl rfl rfl rfl (F.sz _ rfl) (by (focus ((repeat (assumption)); done))) rfl (by exact Nat.le_of_ble_eq_true rfl) rfl ?_) | (refine w_build0 rfl rfl zBuild ?_)))
        rw [seg_pg _ _ zeroP_len zeroP_len]
        ((apply w_ret Try.func29 (congrArg Array.toList Try.results29)); (focus ((apply ResIs.cell rfl (LoadIs.many (F.ag _ rfl) (by (focus ((repeat (exact Tr.at_set_same _ _ _)); done))) (box_pg zeroP_len))); (repeat (first | exact ResIs.nil | apply ResIs.tmp rfl)))))
        exact ⟨by rw [hv]; rfl, by dsimp only; omega, fun m hm => (Tr.at_set_other _ _ (by omega)).trans (ho1 m hm)⟩
      · have hv : insP p it = (layP p it, emptyP p, 0) := by unfold insP; rw [if_neg (by rw [hr]; decide), if_neg (fun hq => hq hm), if_neg (by omega)]
        have hel := emptyP_le p
        have hf1 := hf.2.1
        have hf2 := hf.2.2
        have hro : it.length + 18 + 4 * slotsP p + (if emptyP p = slotsP p then 4 else 0) ≤ beginP p := by
          have : roomP p = beginP p - 18 - 4 * slotsP p - (if emptyP p = slotsP p then 4 else 0) := rfl
          omega
        (repeat (first | (first | refine y_seq ?_ | refine w_region ?_ | refine y_regEnd ?_ | refine y_skip ?_ | refine y_condF rfl ?_ | (apply w_move; exact rfl; exact rfl; exact rfl) | (apply w_assign; exact rfl; exact rfl; exact rfl)) | (refine w_call rfl rfl rfl (by kernel_rfl) (Fnc.mono (empty_s hb1 hf) ?_); rintro _ rfl; dsimp only) | (refine w_call rfl rfl rfl (by kernel_rfl) (Fnc.mono (slots_s hb1 hp) ?_); rintro _ rfl; dsimp only)))
        refine w_eqlS rfl rfl rfl rfl (fun e1 => ?_) (fun e1 => ?_)
        · have en : emptyP p = slotsP p := by omega
          rw [if_pos en] at hro
          have hmo : setP p 14 (emptyP p + 1) = moreP p := by unfold moreP; rw [if_pos en]
          (repeat (first | refine w_region ?_ | refine y_regEnd ?_ | refine y_condT rfl ?_ | (apply w_move; exact rfl; exact rfl; exact rfl) | (apply w_add; exact rfl; exact rfl; exact rfl; exact rfl; (focus (omega)); (focus (omega)))))
          rw [show ((emptyP p : Nat) : Int) + 1 = ((emptyP p + 1 : Nat) : Int) by omega]
          refine w_call rfl rfl rfl (by kernel_rfl) (Fnc.mono (set_s hb1 hp (o := 14) (n := emptyP p + 1) (by decide) (by omega)) ?_)
          rintro ⟨_, H2, n2⟩ ⟨rfl, hb2, hn2, g4⟩
          dsimp only at hb2 hn2 g4 ⊢
          have hp1 : (setP p 14 (emptyP p + 1)).length = 1024 := by rw [setP_len (by omega)]; exact hp
          have hbe : beginP (setP p 14 (emptyP p + 1)) = beginP p := numP_other (by omega) (by omega)
          have k2 : ∀ m, m < nx → H2.at' m = H.at' m := fun m hm => (g4 m (by omega) (by omega)).trans (ho1 m hm)
          have hz2 : H2.at' (nx + 1) = some (pgO zeroP) := (g4 _ (by omega) (by omega)).trans hz1
          generalize setP p 14 (emptyP p + 1) = p1 at hmo hb2 hp1 hbe
          (repeat (first | (first | refine y_seq ?_ | refine w_region ?_ | refine y_regEnd ?_ | (apply w_move; exact rfl; exact rfl; exact rfl) | (apply w_assign; exact rfl; exact rfl; exact rfl) | (apply w_sub; exact rfl; exact rfl; exact rfl; exact rfl; (focus (omega)); (focus (omega)))) | (refine w_call rfl rfl rfl (by kernel_rfl) (Fnc.mono (begin_s hb2 hp1) ?_); rintro _ rfl; dsimp only) | ((apply w_lenB; exact rfl; exact rfl; exact (F.un _ rfl); exact rfl; exact (hB2 _ k2)); rw [hlen])))
          rw [show ((beginP p1 : Nat) : Int) - (it.length : Int) = ((beginP p1 - it.length : Nat) : Int) by omega]
          refine w_call rfl rfl rfl (by kernel_rfl) (Fnc.mono (point_s hb2 hp1 (n := emptyP p) (a := beginP p1 - it.length) (s := it.length) (by omega) (by omega) (by omega)) ?_)
          rintro ⟨_, H3, n3⟩ ⟨rfl, q2, q3, q4⟩
          dsimp only at q2 q3 q4 ⊢
          have hp2 : (pointP p1 (emptyP p) (beginP p1 - it.length) it.length).length = 1024 := by rw [pointP_len (by omega)]; exact hp1
          (repeat (first | refine y_seq ?_ | refine w_region ?_ | refine y_regEnd ?_ | (apply w_move; exact rfl; exact rfl; exact rfl)))
          refine w_call rfl rfl rfl (by kernel_rfl) (Fnc.mono (set_s q2 hp2 (o := 16) (n := beginP p1 - it.length) (by decide) (by omega)) ?_)
          rintro ⟨_, H4, n4⟩ ⟨rfl, r2, r3, r4⟩
          dsimp only at r2 r3 r4 ⊢
          have hp3 : (setP (pointP p1 (emptyP p) (beginP p1 - it.length) it.length) 16 (beginP p1 - it.length)).length = 1024 := by rw [setP_len (by omega)]; exact hp2
          have k4 : ∀ m, m < nx → H4.at' m = H.at' m := fun m hm => (r4 m (by omega) (by omega)).trans ((q4 m (by omega) (by omega)).trans (k2 m hm))
          have hz4 : H4.at' (nx + 1) = some (pgO zeroP) := (r4 _ (by omega) (by omega)).trans ((q4 _ (by omega) (by omega)).trans hz2)
          (repeat (first | (first | refine y_seq ?_ | refine w_region ?_ | refine y_regEnd ?_ | (apply w_move; exact rfl; exact rfl; exact rfl)) | ((apply w_cutA (lw := beginP p1 - it.length) (hg := 1024) (m := 1024 - (beginP p1 - it.length)); exact rfl; exact rfl; exact rfl; exact (F.un _ rfl); exact (F.sz _ rfl); exact rfl; exact rfl; (focus (omega)); (focus (omega)); (focus (omega)); exact rfl; exact rfl; exact (Nat.zero_add _)))))
          refine w_copyB rfl rfl rfl rfl (F.un _ rfl) (F.sz _ rfl) r2 (hB2 _ k4) (by omega) (by rw [pgS_len hp3]; omega) ?_
          rw [pgS_put rfl]
          have hlay : putAt (setP (pointP p1 (emptyP p) (beginP p1 - it.length) it.length) 16 (beginP p1 - it.length)) (beginP p1 - it.length) it = layP p it := by rw [hmo]; rfl
          have hp4 : (layP p it).length = 1024 := by rw [← hlay, putAt_len (by omega)]; exact hp3
          rw [hlay]
          clear hlay
          generalize layP p it = pL at hv hp4 ⊢
          (repeat (first | (apply w_loadBN; (exact rfl); (exact rfl); (exact rfl); (exact F.ag _ rfl); (focus ((focus ((repeat (exact Tr.at_set_same _ _ _)); done)))); (exact pgS_len hp4)) | (apply w_storeN; (exact rfl); (exact rfl); (exact rfl); (exact F.sz _ rfl); (focus ((focus ((repeat (first | assumption | refine (Tr.at_set_other _ _ (by omega)).trans ?_)); done)))); (exact pgS_len hp4); (rw [pgS_len zeroP_len]; exact Nat.le_refl _); (exact one_pg _); (exact seg_pg _ _ zeroP_len hp4)) | (first | refine y_seq ?_ | refine w_region ?_ | refine y_regEnd ?_ | (apply w_move; exact rfl; exact rfl; exact rfl) | (apply w_assign; exact rfl; exact rfl; exact rfl))))
          ((apply w_ret Try.func29 (congrArg Array.toList Try.results29)); (focus ((apply ResIs.cell rfl (LoadIs.many (F.ag _ rfl) (by (focus ((repeat (exact Tr.at_set_same _ _ _)); done))) (box_pg hp4))); (repeat (first | exact ResIs.nil | apply ResIs.tmp rfl)))))
          exact ⟨by rw [hv]; rfl, Nat.le_trans (Nat.le_trans (Nat.le_succ _) (Nat.le_succ _)) (Nat.le_trans hn2 (Nat.le_trans q3 r3)), fun m hm => (Tr.at_set_other _ _ (by omega)).trans ((Tr.at_set_other _ _ (by omega)).trans (k4 m hm))⟩
        · have en : ¬ emptyP p = slotsP p := by omega
          rw [if_neg en] at hro
          obtain ⟨p1, hmo, hb2, hp1, hbe⟩ : ∃ p1, p1 = moreP p ∧ H1.at' nx = some (pgO p1) ∧ p1.length = 1024 ∧ beginP p1 = beginP p := ⟨p, by unfold moreP; rw [if_neg en], hb1, hp, rfl⟩
          have hz2 := hz1
          have k2 := ho1
          have hn2 : nx + 1 + 1 ≤ nx + 1 + 1 := Nat.le_refl _
          (repeat (first | (first | refine y_seq ?_ | refine w_region ?_ | refine y_regEnd ?_ | refine y_skip ?_ | refine y_condF rfl ?_ | (apply w_move; exact rfl; exact rfl; exact rfl) | (apply w_assign; exact rfl; exact rfl; exact rfl) | (apply w_sub; exact rfl; exact rfl; exact rfl; exact rfl; (focus (omega)); (focus (omega)))) | (refine w_call rfl rfl rfl (by kernel_rfl) (Fnc.mono (begin_s hb2 hp1) ?_); rintro _ rfl; dsimp only) | ((apply w_lenB; exact rfl; exact rfl; exact (F.un _ rfl); exact rfl; exact (hB2 _ k2)); rw [hlen])))
          rw [show ((beginP p1 : Nat) : Int) - (it.length : Int) = ((beginP p1 - it.length : Nat) : Int) by omega]
          refine w_call rfl rfl rfl (by kernel_rfl) (Fnc.mono (point_s hb2 hp1 (n := emptyP p) (a := beginP p1 - it.length) (s := it.length) (by omega) (by omega) (by omega)) ?_)
          rintro ⟨_, H3, n3⟩ ⟨rfl, q2, q3, q4⟩
          dsimp only at q2 q3 q4 ⊢
          have hp2 : (pointP p1 (emptyP p) (beginP p1 - it.length) it.length).length = 1024 := by rw [pointP_len (by omega)]; exact hp1
          (repeat (first | refine y_seq ?_ | refine w_region ?_ | refine y_regEnd ?_ | (apply w_move; exact rfl; exact rfl; exact rfl)))
          refine w_call rfl rfl rfl (by kernel_rfl) (Fnc.mono (set_s q2 hp2 (o := 16) (n := beginP p1 - it.length) (by decide) (by omega)) ?_)
          rintro ⟨_, H4, n4⟩ ⟨rfl, r2, r3, r4⟩
          dsimp only at r2 r3 r4 ⊢
          have hp3 : (setP (pointP p1 (emptyP p) (beginP p1 - it.length) it.length) 16 (beginP p1 - it.length)).length = 1024 := by rw [setP_len (by omega)]; exact hp2
          have k4 : ∀ m, m < nx → H4.at' m = H.at' m := fun m hm => (r4 m (by omega) (by omega)).trans ((q4 m (by omega) (by omega)).trans (k2 m hm))
          have hz4 : H4.at' (nx + 1) = some (pgO zeroP) := (r4 _ (by omega) (by omega)).trans ((q4 _ (by omega) (by omega)).trans hz2)
          (repeat (first | (first | refine y_seq ?_ | refine w_region ?_ | refine y_regEnd ?_ | (apply w_move; exact rfl; exact rfl; exact rfl)) | ((apply w_cutA (lw := beginP p1 - it.length) (hg := 1024) (m := 1024 - (beginP p1 - it.length)); exact rfl; exact rfl; exact rfl; exact (F.un _ rfl); exact (F.sz _ rfl); exact rfl; exact rfl; (focus (omega)); (focus (omega)); (focus (omega)); exact rfl; exact rfl; exact (Nat.zero_add _)))))
          refine w_copyB rfl rfl rfl rfl (F.un _ rfl) (F.sz _ rfl) r2 (hB2 _ k4) (by omega) (by rw [pgS_len hp3]; omega) ?_
          rw [pgS_put rfl]
          have hlay : putAt (setP (pointP p1 (emptyP p) (beginP p1 - it.length) it.length) 16 (beginP p1 - it.length)) (beginP p1 - it.length) it = layP p it := by rw [hmo]; rfl
          have hp4 : (layP p it).length = 1024 := by rw [← hlay, putAt_len (by omega)]; exact hp3
          rw [hlay]
          clear hlay
          generalize layP p it = pL at hv hp4 ⊢
          (repeat (first | (apply w_loadBN; (exact rfl); (exact rfl); (exact rfl); (exact F.ag _ rfl); (focus ((focus ((repeat (exact Tr.at_set_same _ _ _)); done)))); (exact pgS_len hp4)) | (apply w_storeN; (exact rfl); (exact rfl); (exact rfl); (exact F.sz _ rfl); (focus ((focus ((repeat (first | assumption | refine (Tr.at_set_other _ _ (by omega)).trans ?_)); done)))); (exact pgS_len hp4); (rw [pgS_len zeroP_len]; exact Nat.le_refl _); (exact one_pg _); (exact seg_pg _ _ zeroP_len hp4)) | (first | refine y_seq ?_ | refine w_region ?_ | refine y_regEnd ?_ | (apply w_move; exact rfl; exact rfl; exact rfl) | (apply w_assign; exact rfl; exact rfl; exact rfl))))
          ((apply w_ret Try.func29 (congrArg Array.toList Try.results29)); (focus ((apply ResIs.cell rfl (LoadIs.many (F.ag _ rfl) (by (focus ((repeat (exact Tr.at_set_same _ _ _)); done))) (box_pg hp4))); (repeat (first | exact ResIs.nil | apply ResIs.tmp rfl)))))
          exact ⟨by rw [hv]; rfl, Nat.le_trans (Nat.le_trans (Nat.le_succ _) (Nat.le_succ _)) (Nat.le_trans hn2 (Nat.le_trans q3 r3)), fun m hm => (Tr.at_set_other _ _ (by omega)).trans ((Tr.at_set_other _ _ (by omega)).trans (k4 m hm))⟩
    · have hmt : decide (1 ≤ it.length ∧ it.length ≤ 1000) = false := decide_eq_false hm
      rw [hmt] at hmi
      have hv : insP p it = (zeroP, 0, 2) := by unfold insP; rw [if_neg (by rw [hr]; decide), if_pos hm]
      (repeat (first | (first | refine y_seq ?_ | refine w_region ?_ | refine y_regEnd ?_ | refine y_skip ?_ | refine y_condT rfl ?_ | refine y_condF rfl ?_ | (apply w_move; exact rfl; exact rfl; exact rfl) | (apply w_assign; exact rfl; exact rfl; exact rfl) | refine w_storeC rfl rfl rfl rfl (F.sz _ rfl) (by (focus ((repeat (assumption)); done))) rfl (by exact Nat.le_of_ble_eq_true rfl) rfl ?_ | (apply w_notB; exact rfl; exact rfl; exact rfl)) | (refine w_call rfl rfl rfl (by kernel_rfl) (Fnc.mono (hrs _) ?_); rintro _ rfl; dsimp only) | (refine w_lenB rfl rfl (F.un _ rfl) rfl hB1 ?_; rw [hlen]) | (refine w_call rfl rfl rfl (by kernel_rfl) (Fnc.mono (hmi _ _) ?_); rintro _ rfl; dsimp only) | (refine w_build0 rfl rfl zBuild ?_)))
      rw [seg_pg _ _ zeroP_len zeroP_len]
      ((apply w_ret Try.func29 (congrArg Array.toList Try.results29)); (focus ((apply ResIs.cell rfl (LoadIs.many (F.ag _ rfl) (by (focus ((repeat (exact Tr.at_set_same _ _ _)); done))) (box_pg zeroP_len))); (repeat (first | exact ResIs.nil | apply ResIs.tmp rfl)))))
      exact ⟨by rw [hv]; rfl, by dsimp only; omega, fun m hm => (Tr.at_set_other _ _ (by omega)).trans (ho1 m hm)⟩
theorem Free.three {a b c : SV} (ha : Free a) (hb : Free b) (hc : Free c) : Free (.tup [a, b, c]) := fun e e' u h => by
  simp only [SV.conc, SV.concL] at h ⊢
  cases h1 : a.conc e with
  | none => rw [h1] at h; simp at h
  | some x =>
    cases h2 : b.conc e with
    | none => rw [h1, h2] at h; simp at h
    | some y =>
      cases h3 : c.conc e with
      | none => rw [h1, h2, h3] at h; simp at h
      | some z =>
        rw [h1, h2, h3] at h
        rw [ha e e' x h1, hb e e' y h2, hc e e' z h3]
        exact h
theorem insS_free (r : List UInt8 × Nat × Nat) : Free (insS r) := Free.three (Free.agg _) (Free.sc _) (Free.sc _)
theorem insert_s {H : Heap} {nx : Nat} {p it : List UInt8} {s : SV} (hp : p.length = 1024) (hB : BsIs H s (byV it)) (hit : it.length ≤ 4611686018427387904) : Fnc Try.prog 29 [.agg (pgS p), s] H nx (fun q => q = (insS (insP p it), H, nx)) := Fnc.forgetV (insS_free _) (insert_r hp hB hit)
end Go.Proofs.Ytdpjbpnemjdhfaa
end
section
namespace Go.Proofs.Ytdpjbpnemjdhfaa
open Go Go.Sy Go.Sl Go.RowKit
def findP (p : List UInt8) (n : Nat) : Nat × Nat × Nat := if slotsP p ≤ n then (0, 0, 6) else if sizeP p n = 0 then (0, 0, 6) else (fromP p n, sizeP p n, 0)
abbrev findS (r : Nat × Nat × Nat) : SV := .tup [.sc (.int .i64 (r.1 : Int)), .sc (.int .i64 (r.2.1 : Int)), .sc (.int .i64 (r.2.2 : Int))]
set_option maxRecDepth 100000 in
set_option maxHeartbeats 0 in
theorem find_r {H : Heap} {nx b n : Nat} {p : List UInt8} (hb : H.at' b = some (pgO p)) (hp : fitsP p) : Fnc Try.prog 51 [.ptr b 0, .sc (.int .i64 (n : Int))] H nx (fun q => q.1 = findS (findP p n) ∧ nx ≤ q.2.2 ∧ ∀ m, m < nx → q.2.1.at' m = H.at' m) := by
  obtain ⟨hp, hp1, hp2⟩ := hp
  refine Fnc.start Try.func51 rfl rfl ?_
  refine y_under fun hund => ?_
  have hlt := hund _ _ hb
  have hb0 : ∀ {vo : VO}, (H.set nx vo).at' b = some (pgO p) := fun {vo} => (Tr.at_set_other _ _ (by omega)).trans hb
  (repeat (first | (first | refine y_seq ?_ | refine w_region ?_ | refine y_regEnd ?_ | (apply w_move; exact rfl; exact rfl; exact rfl) | (apply w_assign; exact rfl; exact rfl; exact rfl)) | (refine w_call rfl rfl rfl (by kernel_rfl) (Fnc.mono (slots_s hb hp) ?_); rintro _ rfl; dsimp only)))
  refine w_geqS rfl rfl rfl rfl (fun h1 => ?_) (fun h1 => ?_)
  · (repeat (first | refine y_seq ?_ | refine w_region ?_ | refine y_regEnd ?_ | refine y_condT rfl ?_ | (apply w_assign; exact rfl; exact rfl; exact rfl)))
    ((apply w_ret Try.func51 (congrArg Array.toList Try.results51)); (focus (repeat (first | exact ResIs.nil | apply ResIs.tmp rfl))))
    refine ⟨?_, Nat.le_refl _, fun m hm => rfl⟩
    unfold findP
    rw [if_pos (by omega)]
    rfl
  · (repeat (first | (first | refine y_seq ?_ | refine w_region ?_ | refine y_regEnd ?_ | refine y_skip ?_ | refine y_condF rfl ?_ | (apply w_move; exact rfl; exact rfl; exact rfl)) | (refine w_call rfl rfl rfl (by kernel_rfl) (Fnc.mono (finder_s) ?_); rintro _ rfl; dsimp only)))
    refine w_callF rfl rfl rfl rfl (by kernel_rfl) (Fnc.mono (where_s (Tr.at_set_same _ _ _) hb0 hp (n := n) (by omega)) ?_)
    rintro _ rfl
    dsimp only
    (repeat (first | refine y_seq ?_ | refine w_region ?_ | refine y_regEnd ?_ | (apply w_move; exact rfl; exact rfl; exact rfl) | (apply w_assign; exact rfl; exact rfl; exact rfl) | (apply w_extract; exact rfl; exact rfl; exact rfl; exact rfl)))
    refine w_eqlS rfl rfl rfl rfl (fun h2 => ?_) (fun h2 => ?_)
    · (repeat (first | refine y_seq ?_ | refine w_region ?_ | refine y_regEnd ?_ | refine y_condT rfl ?_ | (apply w_assign; exact rfl; exact rfl; exact rfl)))
      ((apply w_ret Try.func51 (congrArg Array.toList Try.results51)); (focus (repeat (first | exact ResIs.nil | apply ResIs.tmp rfl))))
      refine ⟨?_, Nat.le_succ _, fun m hm => Tr.at_set_other _ _ (by omega)⟩
      unfold findP
      rw [if_neg (by omega), if_pos (by omega)]
      rfl
    · (repeat (first | refine y_seq ?_ | refine w_region ?_ | refine y_regEnd ?_ | refine y_skip ?_ | refine y_condF rfl ?_ | (apply w_move; exact rfl; exact rfl; exact rfl) | (apply w_assign; exact rfl; exact rfl; exact rfl)))
      ((apply w_ret Try.func51 (congrArg Array.toList Try.results51)); (focus (repeat (first | exact ResIs.nil | apply ResIs.tmp rfl))))
      refine ⟨?_, Nat.le_succ _, fun m hm => Tr.at_set_other _ _ (by omega)⟩
      unfold findP
      rw [if_neg (by omega), if_neg (by omega)]
      rfl
theorem find_s {H : Heap} {nx b n : Nat} {p : List UInt8} (hb : H.at' b = some (pgO p)) (hp : fitsP p) : Fnc Try.prog 51 [.ptr b 0, .sc (.int .i64 (n : Int))] H nx (fun q => q = (findS (findP p n), H, nx)) := Fnc.forgetV (Free.three (Free.sc _) (Free.sc _) (Free.sc _)) (find_r hb hp)
abbrev pgE (r : List UInt8 × Nat) : SV := .tup [.agg (pgS r.1), .sc (.int .i64 (r.2 : Int))]
theorem pgE_free (r : List UInt8 × Nat) : Free (pgE r) := Free.two (Free.agg _) (Free.sc _)
end Go.Proofs.Ytdpjbpnemjdhfaa
end
section
namespace Go.Proofs.Ytdpjbpnemjdhfaa
open Go Go.Sy Go.Sl Go.RowKit
set_option maxRecDepth 100000 in
set_option maxHeartbeats 0 in
theorem Right_r {H : Heap} {nx : Nat} {p : List UInt8} (hp : p.length = 1024) : Fnc Try.prog 49 [.agg (pgS p)] H nx (fun q => q.1 = .sc (.bool (rightP p)) ∧ nx ≤ q.2.2 ∧ ∀ m, m < nx → q.2.1.at' m = H.at' m) := by
  refine Fnc.start Try.func49 rfl rfl ?_
  have hb1 : (H.set nx (pgO p)).at' nx = some (pgO p) := Tr.at_set_same _ _ _
  (repeat (first | (first | refine y_seq ?_ | refine w_region ?_ | refine y_regEnd ?_ | (apply w_assign; exact rfl; exact rfl; exact rfl) | (apply w_boxN; exact rfl; exact rfl; exact rfl)) | (refine w_call rfl rfl rfl (by kernel_rfl) (Fnc.mono (right_s hb1 hp) ?_); rintro _ rfl; dsimp only)))
  ((apply w_ret Try.func49 (congrArg Array.toList Try.results49)); (focus (repeat (first | exact ResIs.nil | apply ResIs.tmp rfl))))
  exact ⟨rfl, Nat.le_succ _, fun m hm => Tr.at_set_other _ _ (by omega)⟩
theorem Right_s {H : Heap} {nx : Nat} {p : List UInt8} (hp : p.length = 1024) : Fnc Try.prog 49 [.agg (pgS p)] H nx (fun q => q = (.sc (.bool (rightP p)), H, nx)) := Fnc.forgetV (fun _ _ _ h => h) (Right_r hp)
abbrev itemsF (f q : Nat) : SV := .fn (.func 54) [] [.ptr f 0, .ptr q 0]
set_option maxRecDepth 100000 in
set_option maxHeartbeats 0 in
theorem items_s {H : Heap} {nx : Nat} {p : List UInt8} (hp : p.length = 1024) : Fnc Try.prog 41 [.agg (pgS p)] H nx (fun q => q = (itemsF (nx + 1) nx, (H.set nx (pgO p)).set (nx + 1) (newCells 4 [.sc (.bool (rightP p))]), nx + 1 + 1)) := by
  refine Fnc.start Try.func41 rfl rfl ?_
  have hb1 : (H.set nx (pgO p)).at' nx = some (pgO p) := Tr.at_set_same _ _ _
  (repeat (first | (first | refine y_seq ?_ | refine w_region ?_ | refine y_regEnd ?_ | (apply w_assign; exact rfl; exact rfl; exact rfl) | (apply w_makeFunc; exact rfl; exact rfl; exact rfl; exact rfl) | refine w_storeC rfl rfl rfl rfl (F.sz _ rfl) (by (focus ((repeat (first | assumption | exact Tr.at_set_same _ _ _)); done))) rfl (by exact Nat.le_of_ble_eq_true rfl) rfl ?_ | (apply w_alloc; exact rfl; exact rfl; exact (F.zl _ rfl)) | (apply w_boxN; exact rfl; exact rfl; exact rfl)) | (refine w_call rfl rfl rfl (by kernel_rfl) (Fnc.mono (right_s hb1 hp) ?_); rintro _ rfl; dsimp only)))
  ((apply w_ret Try.func41 (congrArg Array.toList Try.results41)); (focus (repeat (first | exact ResIs.nil | apply ResIs.tmp rfl))))
  refine Prod.ext rfl (Prod.ext ?_ rfl)
  funext n
  by_cases hn : n = nx + 1
  · subst hn
    exact (Tr.at_set_same _ _ _).trans (Tr.at_set_same _ _ _).symm
  · exact (Tr.at_set_other _ _ hn).trans ((Tr.at_set_other _ _ hn).trans (Tr.at_set_other _ _ hn).symm)
end Go.Proofs.Ytdpjbpnemjdhfaa
end
section
namespace Go.Proofs.Ytdpjbpnemjdhfaa
open Go Go.Sy Go.Sl Go.RowKit
def itemP (p : List UInt8) (j : Nat) : List UInt8 := (p.drop (fromP p j)).take (sizeP p j)
theorem rightGo_slots (p : List UInt8) : ∀ (k n : Nat) (seen : List (Nat × Nat)) (fine : Bool), rightGo p k n seen fine = true → ∀ j, n ≤ j → j < n + k → (fromP p j = 0 ∧ sizeP p j = 0) ∨ (1 ≤ sizeP p j ∧ sizeP p j ≤ 1000 ∧ beginP p ≤ fromP p j ∧ fromP p j + sizeP p j ≤ 1024)
  | 0, n, seen, fine, _, j, h1, h2 => absurd h1 (by omega)
  | k + 1, n, seen, fine, h, j, h1, h2 => by
    unfold rightGo at h
    split at h
    · rename_i h3
      rcases Nat.lt_or_ge n j with h4 | h4
      · exact rightGo_slots p k (n + 1) _ _ h j (by omega) (by omega)
      · obtain rfl : n = j := by omega
        exact .inl h3
    · split at h
      · cases h
      · split at h
        · cases h
        · rename_i h5 _
          rcases Nat.lt_or_ge n j with h4 | h4
          · exact rightGo_slots p k (n + 1) _ _ h j (by omega) (by omega)
          · obtain rfl : n = j := by omega
            exact .inr (by omega)
theorem right_slots {p : List UInt8} (h : rightP p = true) {j : Nat} (hj : j < slotsP p) (hs : sizeP p j ≠ 0) : 1 ≤ sizeP p j ∧ sizeP p j ≤ 1000 ∧ beginP p ≤ fromP p j ∧ fromP p j + sizeP p j ≤ 1024 := by
  unfold rightP at h
  rw [Bool.and_eq_true] at h
  rcases rightGo_slots p _ _ _ _ h.2 j (Nat.zero_le _) (by omega) with h1 | h1
  · exact absurd h1.2 hs
  · exact h1
theorem itemP_len {p : List UInt8} (hp : p.length = 1024) {j : Nat} (h : fromP p j + sizeP p j ≤ 1024) : (itemP p j).length = sizeP p j := by
  unfold itemP
  rw [List.length_take, List.length_drop]
  omega
set_option maxRecDepth 100000 in
set_option maxHeartbeats 0 in
/-- The iterator over a page's items: what each round keeps is kept. -/
theorem items_w {H : Heap} {nx l f q : Nat} {p : List UInt8} (hp : p.length = 1024) (hr : rightP p = true) {f2 nt2 : Nat} {T2 : Tr SV} {ps : Array Tmp} {ca cb : Code} {dr : Nat} (hps : ps.size = 2) (I : Nat → Heap → Nat → Prop) (J : Heap → Nat → Prop)
    (hI : ∀ j H nx, I j H nx → H.at' l = some (.loop .ready none f2 nt2 T2 ps ca cb dr) ∧ H.at' f = some (newCells 4 [.sc (.bool true)]) ∧ H.at' q = some (pgO p) ∧ l < nx ∧ f < nx ∧ q < nx)
    (hgrow : ∀ j H nx H' nx', I j H nx → nx ≤ nx' → (∀ m, m < nx → H'.at' m = H.at' m) → I j H' nx')
    (hskip : ∀ j H nx, I j H nx → sizeP p j = 0 → I (j + 1) H nx)
    (hround : ∀ j H1 n1 r, I j H1 n1 → nx ≤ r → r < n1 → j < slotsP p → sizeP p j ≠ 0 → H1.at' r = some (u8R false (byV (itemP p j))) →
      Wp Try.prog (some l) ⟨f2, nt2, (ps.toList.zip [.sc (.int .i64 (j : Int)), .slu r 0 (itemP p j).length]).foldl (fun T x => putS nt2 T (some x.1) x.2) T2, [.code ca, .beginRound, .code cb], [], H1, n1⟩ (fun x => (x.1 = .sc (.bool true) ∧ I (j + 1) x.2.1 x.2.2 ∧ n1 ≤ x.2.2 ∧ ∀ m, nx ≤ m → m < n1 → x.2.1.at' m = H1.at' m) ∨ (x.1 = .sc (.bool false) ∧ J x.2.1 x.2.2)))
    (h0 : I 0 H nx) : Fnc Try.prog 54 [.yld l, .ptr f 0, .ptr q 0] H nx (fun r => I (slotsP p) r.2.1 r.2.2 ∨ J r.2.1 r.2.2) := by
  have hf := fits_right hp hr
  obtain ⟨_, hp1, hp2⟩ := hf
  have hJ0 : Nat.beq ps.size 2 = true := by rw [hps]; rfl
  refine Fnc.start Try.func54 rfl rfl ?_
  obtain ⟨i1, i2, i3, i4, i5, i6⟩ := hI _ _ _ h0
  have hg1 : I 0 (H.set nx (finO q)) (nx + 1) := hgrow _ _ _ _ _ h0 (Nat.le_succ _) fun m hm => Tr.at_set_other _ _ (by omega)
  have hq1 : ∀ {vo : VO}, (H.set nx vo).at' q = some (pgO p) := fun {vo} => (Tr.at_set_other _ _ (by omega)).trans i3
  (repeat (first | (first | refine y_seq ?_ | refine w_region ?_ | refine y_regEnd ?_ | refine y_block ?_ | refine y_skip ?_ | refine y_condF rfl ?_ | (apply w_move; exact rfl; exact rfl; exact rfl) | (apply w_assign; exact rfl; exact rfl; exact rfl) | refine w_loadB1 rfl rfl rfl (F.ag _ rfl) (by (focus ((repeat (assumption)); done))) (by exact rfl) ?_ | (apply w_notB; exact rfl; exact rfl; exact rfl)) | (refine w_call rfl rfl rfl (by kernel_rfl) (Fnc.mono (finder_s) ?_); rintro _ rfl; dsimp only) | (refine w_call rfl rfl rfl (by kernel_rfl) (Fnc.mono (slots_s hq1 hp) ?_); rintro _ rfl; dsimp only)))
  refine y_loopT (α := Nat) (fun j => [(0, .yld l), (2, .ptr q 0), (4, finF nx), (11, .sc (.int .i64 (slotsP p : Int))), (12, .sc (.int .i64 (j : Int)))])
    (fun j H1 n1 => j ≤ slotsP p ∧ I j H1 n1 ∧ nx + 1 ≤ n1 ∧ H1.at' nx = some (finO q)) (fun j => slotsP p - j) 0
    ⟨Nat.zero_le _, hg1, Nat.le_refl _, Tr.at_set_same _ _ _⟩ (SlIn.sub (by repeat (first | exact trivial | refine ⟨rfl, ?_⟩))) ?_
  clear hg1 h0 hq1 i1 i2 i3
  rintro j H1 n1 ⟨h1, h2, h3, h4⟩ ih
  obtain ⟨k1, k2, k3, k4, k5, k6⟩ := hI _ _ _ h2
  (repeat (first | refine y_seq ?_ | refine w_region ?_))
  refine w_lssS rfl rfl rfl rfl (fun h5 => ?_) (fun h5 => ?_)
  · (repeat (first | refine y_seq ?_ | refine w_region ?_ | refine y_regEnd ?_ | refine y_block ?_ | refine y_skip ?_ | refine y_condT rfl ?_ | (apply w_move; exact rfl; exact rfl; exact rfl) | (apply w_assign; exact rfl; exact rfl; exact rfl)))
    refine w_callF rfl rfl rfl rfl (by kernel_rfl) (Fnc.mono (where_s h4 k3 hp (n := j) (by omega)) ?_)
    rintro _ rfl
    dsimp only
    (repeat (first | refine y_seq ?_ | refine w_region ?_ | refine y_regEnd ?_ | (apply w_move; exact rfl; exact rfl; exact rfl) | (apply w_assign; exact rfl; exact rfl; exact rfl) | (apply w_extract; exact rfl; exact rfl; exact rfl; exact rfl)))
    refine w_eqlS rfl rfl rfl rfl (fun e1 => ?_) (fun e1 => ?_)
    · (repeat (first | refine w_region ?_ | refine y_regEnd ?_ | refine y_exit rfl ?_ | refine y_condT rfl ?_ | (apply w_move; exact rfl; exact rfl; exact rfl) | (apply w_add; exact rfl; exact rfl; exact rfl; exact rfl; (focus (omega)); (focus (omega)))))
      exact ih _ _ _ (j + 1) ⟨by omega, hskip _ _ _ h2 (by omega), h3, h4⟩ (by omega) (SlIn.sub (by repeat (first | exact trivial | refine ⟨rfl, ?_⟩)))
    · have hs := right_slots hr (j := j) (by omega) (by omega)
      have hil := itemP_len hp hs.2.2.2
      have hbl := by_len (itemP p j)
      (repeat (first | (first | refine y_seq ?_ | refine w_region ?_ | refine y_regEnd ?_ | refine y_skip ?_ | refine y_condF rfl ?_ | (apply w_move; exact rfl; exact rfl; exact rfl) | (apply w_add; exact rfl; exact rfl; exact rfl; exact rfl; (focus (omega)); (focus (omega)))) | ((apply w_cutA (lw := fromP p j) (hg := fromP p j + sizeP p j); exact rfl; exact rfl; exact rfl; exact (F.un _ rfl); exact (F.sz _ rfl); exact rfl; exact rfl; (focus (omega)); (focus (omega)); (focus (omega)); exact (show fromP p j + sizeP p j - fromP p j = sizeP p j by omega); exact rfl; exact (Nat.zero_add _))) | (refine w_eqNil rfl rfl rfl rfl Try.underlying102 rfl ?_) | (apply w_buildSlice; exact rfl; exact rfl; exact (F.un _ rfl); exact (F.sz _ rfl); exact rfl; exact (F.ze _ rfl); exact rfl; exact rfl; exact rfl; exact rfl; exact rfl)))
      refine w_call rfl rfl rfl (by kernel_rfl) (Fnc.mono (join_s (bs := [byV (itemP p j)]) (ls := [_]) (Tr.at_set_same _ _ _) (LsIs.cons (bs_part ((Tr.at_set_other _ _ (by omega)).trans k3) (by omega)) (LsIs.nil _)) (by show (byV (itemP p j) ++ []).length ≤ _; rw [List.append_nil]; omega) (Nat.le_of_ble_eq_true rfl)) ?_)
      rintro _ rfl
      dsimp only
      have hfl : [byV (itemP p j)].flatten = byV (itemP p j) := List.append_nil _
      rw [hfl, by_len]
      have hg : I j ((H1.set n1 (bsR false [.sl q (fromP p j) (sizeP p j) (1024 - fromP p j)])).set (n1 + 1) (u8R false (byV (itemP p j)))) (n1 + 1 + 1) := hgrow _ _ _ _ _ h2 (by omega) fun m hm => (Tr.at_set_other _ _ (by omega)).trans (Tr.at_set_other _ _ (by omega))
      have hl2 := (hI _ _ _ hg).1
      refine w_round (n := l) rfl rfl rfl rfl hl2 hJ0 ?_
      refine Wp.mono (hround j _ _ (n1 + 1) hg (by omega) (by omega) (by omega) (by omega) (Tr.at_set_same _ _ _)) ?_
      rintro ⟨v, H2, n2⟩ (⟨rfl, g2, g3, g4⟩ | ⟨rfl, g2⟩)
      · dsimp only at g2 g3 g4 ⊢
        (repeat (first | refine w_region ?_ | refine y_regEnd ?_ | refine y_inBlock ?_ | refine y_skip ?_ | refine y_condF rfl ?_ | (apply w_move; exact rfl; exact rfl; exact rfl) | (apply w_pickF; exact rfl; exact rfl; exact rfl; exact rfl) | (apply w_add; exact rfl; exact rfl; exact rfl; exact rfl; (focus (omega)); (focus (omega))) | (apply w_notB; exact rfl; exact rfl; exact rfl)))
        exact ih _ _ _ (j + 1) ⟨by omega, g2, by omega, (g4 _ (Nat.le_refl _) (by omega)).trans ((Tr.at_set_other _ _ (by omega)).trans ((Tr.at_set_other _ _ (by omega)).trans h4))⟩ (by omega) (SlIn.sub (by repeat (first | exact trivial | refine ⟨rfl, ?_⟩)))
      · dsimp only at g2 ⊢
        (repeat (first | refine y_regEnd ?_ | refine y_condT rfl ?_ | (apply w_pickF; exact rfl; exact rfl; exact rfl; exact rfl) | (apply w_notB; exact rfl; exact rfl; exact rfl)))
        ((apply w_ret Try.func54 (congrArg Array.toList Try.results54)); (focus (repeat (exact ResIs.nil))))
        exact .inr g2
  · obtain rfl : j = slotsP p := by omega
    (repeat (first | refine y_seq ?_ | refine y_regEnd ?_ | refine y_exit rfl ?_ | refine y_condF rfl ?_))
    ((apply w_end Try.func54 (congrArg Array.toList Try.results54)); (focus (repeat (exact ResIs.nil))))
    exact .inl h2
end Go.Proofs.Ytdpjbpnemjdhfaa
end
section
namespace Go.Sy
open Go Go.Sl Go.RowKit
def intVs (k : IntKind) (l : List Int) : List Value := l.map fun n => .int k n
theorem run_partN {P : Program} {t : TypeId} {k : IntKind} {l : List Int} {i : Nat} (hu : P.underlying t = some (.int k)) (hi : i < l.length) (w : World) : (part t (intVs k l).toArray (i * 1)).run P w = .ok (.int k l[i]) w := by
  have hv : (intVs k l).toArray[i]? = some (.int k l[i]) := by
    simp [intVs, List.getElem?_eq_getElem hi]
  rw [Nat.mul_one]
  generalize (intVs k l).toArray = cs at hv
  simp [part, isAgg, run_underlying hu, hv]
theorem run_eqItems_int {P : Program} {e : TypeId} {k : IntKind} (hu : P.underlying e = some (.int k)) (d : Nat) (xs ys : List Int) (w : World) : ∀ is : List Nat, (∀ i ∈ is, i < xs.length ∧ i < ys.length) → (Op.eqItems (d + 1) e 1 (intVs k xs).toArray (intVs k ys).toArray is).run P w = .ok (is.all fun i => xs[i]? == ys[i]?) w
  | [], _ => by simp [Op.eqItems]
  | i :: is, h => by
    obtain ⟨h1, h2⟩ := h i List.mem_cons_self
    simp only [Op.eqItems, Sem.run_bind, run_partN hu h1, run_partN hu h2, run_equalIn_int w d e k k _ _ hu, Result.andThen_ok]
    have ih := run_eqItems_int hu d xs ys w is fun j hj => h j (List.mem_cons_of_mem _ hj)
    rw [List.all_cons, List.getElem?_eq_getElem h1, List.getElem?_eq_getElem h2]
    by_cases he : xs[i] = ys[i]
    · simp [he, ih]
    · simp [he]
theorem all_range_eq {xs ys : List Int} {n : Nat} (hx : xs.length = n) (hy : ys.length = n) : ((List.range n).all fun i => xs[i]? == ys[i]?) = decide (xs = ys) := by
  by_cases h : xs = ys
  · subst h
    simp
  · rw [decide_eq_false h]
    cases h' : (List.range n).all fun i => xs[i]? == ys[i]? with
    | false => rfl
    | true =>
      refine absurd (List.ext_getElem? fun i => ?_) h
      rw [List.all_eq_true] at h'
      rcases Nat.lt_or_ge i n with hi | hi
      · simpa using h' i (List.mem_range.2 hi)
      · rw [List.getElem?_eq_none (by omega), List.getElem?_eq_none (by omega)]
theorem run_eqArr {P : Program} {t e : TypeId} {n : Nat} {k : IntKind} {i : TypeInfo} (hu : P.underlying t = some (.array n e)) (hi : P.info? e = some i) (hc : P.cellsOf e = 1) (he : P.underlying e = some (.int k)) {xs ys : List Int} (hx : xs.length = n) (hy : ys.length = n) (w : World) :
    (Op.equalIn 10000 t (.agg (intVs k xs).toArray) (.agg (intVs k ys).toArray)).run P w = .ok (decide (xs = ys)) w := by
  rw [show (10000 : Nat) = 9998 + 1 + 1 from rfl, run_equalIn_array w (9998 + 1) _ _ hu hi, hc, run_eqItems_int he 9998 xs ys w _ (fun i hi => by rw [hx, hy]; exact ⟨List.mem_range.1 hi, List.mem_range.1 hi⟩), all_range_eq hx hy]
section
variable {P : Program} {H : Heap} {T : Tr SV} {nx : Nat}
variable {d : Option Tmp} {ty : TypeId} {pos : String} {af : Array Edge} {gd : Option (Nat × Bool)}
theorem conc_aggSc {e : Env} {l : List Value} {v : Value} (h : (SV.agg (l.map .sc)).conc e = some v) : v = .agg l.toArray := by
  have hl : ∀ l : List Value, SV.concL e (l.map .sc) = some l := fun l => by
    induction l with
    | nil => rfl
    | cons x l ih => exact concL_cons_mk rfl ih
  simp only [SV.conc, hl, Option.map_some, Option.some.injEq] at h
  exact h.symm
theorem rd_eqlArr {t e : TypeId} {n : Nat} {k : IntKind} {i : TypeInfo} (hu : P.underlying t = some (.array n e)) (hi : P.info? e = some i) (hc : P.cellsOf e = 1) (he : P.underlying e = some (.int k)) (hg : P.eqGuardType P.depth t = false) {x y : Operand} {yt : TypeId} {xs ys : List Int} (hlx : xs.length = n) (hly : ys.length = n) (hx : evalS T x = some (.agg ((intVs k xs).map .sc))) (hy : evalS T y = some (.agg ((intVs k ys).map .sc))) :
    ReadDoes P T H ⟨d, .binOp .eql t x y yt, ty, pos, af, gd⟩ (.sc (.bool (decide (xs = ys)))) := by
  intro K w0 ev nx w en hS hE
  refine ⟨_, rfl, ?_⟩
  have e1 := conc_aggSc (hE x _ hx)
  have e2 := conc_aggSc (hE y _ hy)
  simp [execOp, e1, e2, run_eqGuard_agg (P := P) w .eql t x y _ _ hg, run_eql_struct, run_eqArr hu hi hc he hlx hly]
end
end Go.Sy
end
section
namespace Go.Proofs.Ytdpjbpnemjdhfaa
open Go Go.Sy Go.Sl Go.RowKit
def roomE (p : List UInt8) : Nat := if rightP p = true then roomP p else 0
set_option maxRecDepth 100000 in
set_option maxHeartbeats 0 in
theorem Room_s {H : Heap} {nx : Nat} {p : List UInt8} (hp : p.length = 1024) : Fnc Try.prog 27 [.agg (pgS p)] H nx (fun q => q = (.sc (.int .i64 (roomE p : Int)), H, nx)) := by
  refine Fnc.forgetV (Free.sc _) ?_
  refine Fnc.start Try.func27 rfl rfl ?_
  have hb1 : (H.set nx (pgO p)).at' nx = some (pgO p) := Tr.at_set_same _ _ _
  have hrs := fun nx' => right_s (nx := nx') hb1 hp
  cases hr : rightP p with
  | false =>
    rw [hr] at hrs
    have hv : roomE p = 0 := by unfold roomE; rw [if_neg (by rw [hr]; decide)]
    (repeat (first | (first | refine y_seq ?_ | refine w_region ?_ | refine y_regEnd ?_ | refine y_condT rfl ?_ | (apply w_assign; exact rfl; exact rfl; exact rfl) | (apply w_boxN; exact rfl; exact rfl; exact rfl) | (apply w_notB; exact rfl; exact rfl; exact rfl)) | (refine w_call rfl rfl rfl (by kernel_rfl) (Fnc.mono (hrs _) ?_); rintro _ rfl; dsimp only)))
    ((apply w_ret Try.func27 (congrArg Array.toList Try.results27)); (focus (repeat (first | exact ResIs.nil | apply ResIs.tmp rfl))))
    exact ⟨by rw [hv]; rfl, Nat.le_succ _, fun m hm => Tr.at_set_other _ _ (by omega)⟩
  | true =>
    rw [hr] at hrs
    have hv : roomE p = roomP p := by unfold roomE; rw [if_pos hr]
    have hf := fits_right hp hr
    (repeat (first | (first | refine y_seq ?_ | refine w_region ?_ | refine y_regEnd ?_ | refine y_skip ?_ | refine y_condF rfl ?_ | (apply w_assign; exact rfl; exact rfl; exact rfl) | (apply w_boxN; exact rfl; exact rfl; exact rfl) | (apply w_notB; exact rfl; exact rfl; exact rfl)) | (refine w_call rfl rfl rfl (by kernel_rfl) (Fnc.mono (hrs _) ?_); rintro _ rfl; dsimp only) | (refine w_call rfl rfl rfl (by kernel_rfl) (Fnc.mono (room_s hb1 hf) ?_); rintro _ rfl; dsimp only)))
    ((apply w_ret Try.func27 (congrArg Array.toList Try.results27)); (focus (repeat (first | exact ResIs.nil | apply ResIs.tmp rfl))))
    exact ⟨by rw [hv]; rfl, Nat.le_succ _, fun m hm => Tr.at_set_other _ _ (by omega)⟩
theorem pg_ints (a : List UInt8) : pgS a = (intVs .u8 (a.map fun c => (c.toNat : Int))).map .sc := by simp [intVs]
theorem toNat_inj {a b : List UInt8} (h : a.map (fun c => (c.toNat : Int)) = b.map (fun c => (c.toNat : Int))) : a = b := by
  refine List.map_inj_right (f := fun c : UInt8 => (c.toNat : Int)) (fun x y hxy => ?_) |>.1 h
  have hxy : (x.toNat : Int) = (y.toNat : Int) := hxy
  have : x.toNat = y.toNat := by omega
  exact UInt8.toNat_inj.1 this
set_option maxRecDepth 100000 in
theorem rd_eqlPg {H : Heap} {T : Tr SV} {d : Option Tmp} {ty : TypeId} {pos : String} {af : Array Edge} {gd : Option (Nat × Bool)} {x y : Operand} {yt : TypeId} {a b : List UInt8} (ha : a.length = 1024) (hb : b.length = 1024) (hx : evalS T x = some (.agg (pgS a))) (hy : evalS T y = some (.agg (pgS b))) :
    ReadDoes Try.prog T H ⟨d, .binOp .eql 40 x y yt, ty, pos, af, gd⟩ (.sc (.bool (decide (a = b)))) := by
  have h := rd_eqlArr (P := Try.prog) (H := H) (T := T) (d := d) (ty := ty) (pos := pos) (af := af) (gd := gd) (t := 40) (e := 5) (n := 1024) (k := .u8) (x := x) (y := y) (yt := yt) (xs := a.map fun c => (c.toNat : Int)) (ys := b.map fun c => (c.toNat : Int)) (F.un _ rfl) (by exact rfl) (by kernel_rfl) (F.un _ rfl) (by kernel_rfl) (by rw [List.length_map]; exact ha) (by rw [List.length_map]; exact hb) (hx.trans (by rw [pg_ints])) (hy.trans (by rw [pg_ints]))
  rwa [show decide (a.map (fun c => (c.toNat : Int)) = b.map (fun c => (c.toNat : Int))) = decide (a = b) from decide_eq_decide.2 ⟨toNat_inj, fun h => by rw [h]⟩] at h
theorem w_eqlPg {ro : Option Nat} {fn nt nx i : Nat} {T : Tr SV} {k : List AIt} {dfs : List ADf} {H : Heap} {Q : Pst} {ops : Array Oper} {l : List Oper} {ty : TypeId} {pos : String} {af : Array Edge} {gd : Option (Nat × Bool)} {x y : Operand} {yt : TypeId} {a b : List UInt8} {dd : Nat} (hw : wantedS T ops ⟨some dd, .binOp .eql 40 x y yt, ty, pos, af, gd⟩ = some true) (hd : Nat.blt dd nt = true) (hx : evalS T x = some (.agg (pgS a))) (hy : evalS T y = some (.agg (pgS b))) (ha : a.length = 1024) (hb : b.length = 1024)
    (h : Wp Try.prog ro ⟨fn, nt, T.set dd (.sc (.bool (decide (a = b)))), .inReg ops (i + 1) l :: k, dfs, H, nx⟩ Q) : Wp Try.prog ro ⟨fn, nt, T, .inReg ops i (⟨some dd, .binOp .eql 40 x y yt, ty, pos, af, gd⟩ :: l) :: k, dfs, H, nx⟩ Q :=
  y_val hw (.inr (fun _ h => by cases h)) ((rd_eqlPg ha hb hx hy).does) (by rw [putS_some hd]; exact h)
def bareP (p : List UInt8) : List UInt8 := List.replicate 12 0 ++ p.drop 12
theorem bareP_len {p : List UInt8} (hp : p.length = 1024) : (bareP p).length = 1024 := by
  unfold bareP
  rw [List.length_append, List.length_replicate, List.length_drop, hp]
def unusedP (p : List UInt8) : Bool := decide (bareP p = zeroP)
abbrev z12 : List SV := (byV (List.replicate 12 0)).map .sc
set_option maxRecDepth 100000 in
set_option maxHeartbeats 0 in
theorem unused_s {H : Heap} {nx : Nat} {p : List UInt8} (hp : p.length = 1024) : Fnc Try.prog 47 [.agg (pgS p)] H nx (fun q => q = (.sc (.bool (unusedP p)), H, nx)) := by
  refine Fnc.forgetV (Free.sc _) ?_
  refine Fnc.start Try.func47 rfl rfl ?_
  (repeat (first | (first | refine y_seq ?_ | refine w_region ?_ | refine y_regEnd ?_ | (apply w_assign; exact rfl; exact rfl; exact rfl) | (apply w_boxN; exact rfl; exact rfl; exact rfl)) | ((apply w_cutA (lw := 0) (hg := 12); exact rfl; exact rfl; exact rfl; exact (F.un _ rfl); exact (F.sz _ rfl); exact rfl; exact rfl; (focus (omega)); (focus (omega)); (focus (omega)); exact rfl; exact rfl; exact rfl))))
  refine w_clearB (n := 11) z12 rfl rfl (F.un _ rfl) (F.ze _ rfl) (Tr.at_set_same _ _ _) (by kernel_rfl) (by kernel_rfl) (by rw [pgS_len hp]; exact Nat.le_of_ble_eq_true rfl) ?_
  have hc : (pgS p).take 0 ++ z12 ++ (pgS p).drop (0 + z12.length) = pgS (bareP p) := by
    unfold bareP
    simp [List.map_drop]
  rw [hc]
  have hl := bareP_len hp
  (repeat (first | (apply w_loadBN; (exact rfl); (exact rfl); (exact rfl); (exact F.ag _ rfl); (focus ((focus ((repeat (exact Tr.at_set_same _ _ _)); done)))); (exact pgS_len hl)) | (first | refine y_seq ?_ | refine w_region ?_ | refine y_regEnd ?_ | (apply w_assign; exact rfl; exact rfl; exact rfl)) | (refine w_build0 rfl rfl zBuild ?_) | (refine w_eqlPg rfl rfl rfl rfl hl zeroP_len ?_)))
  ((apply w_ret Try.func47 (congrArg Array.toList Try.results47)); (focus (repeat (first | exact ResIs.nil | apply ResIs.tmp rfl))))
  exact ⟨rfl, Nat.le_succ _, fun m hm => (Tr.at_set_other _ _ (by omega)).trans (Tr.at_set_other _ _ (by omega))⟩
abbrev pgsS (mem : List UInt8) (left puts : Int) : List SV := (byV mem).map .sc ++ [.sc (.int .i64 left), .sc (.int .i64 puts)]
abbrev pgsO (mem : List UInt8) (left puts : Int) : VO := newCells 43 (pgsS mem left puts)
def pageN (mem : List UInt8) (n : Nat) : List UInt8 := (mem.drop (1024 * n)).take 1024
theorem pageN_len {mem : List UInt8} (hm : mem.length = 131072) {n : Nat} (hn : n < 128) : (pageN mem n).length = 1024 := by
  unfold pageN
  rw [List.length_take, List.length_drop]
  omega
theorem pgs_cells {mem : List UInt8} (hm : mem.length = 131072) {n : Nat} (hn : n < 128) (left puts : Int) : (pgsO mem left puts).cellsFrom (0 + n * 1024) 1024 = some (pgS (pageN mem n)) := by
  refine cellsFrom_box _ _ ?_ (by rw [pgS_len (pageN_len hm hn)])
  have hl : ((byV mem).map SV.sc).length = 131072 := by simpa using hm
  rw [List.drop_append_of_le_length (by omega), List.take_append_of_le_length (by rw [List.length_drop]; omega)]
  unfold pageN
  rw [Nat.zero_add, Nat.mul_comm]
  simp [List.map_take, List.map_drop]
set_option maxRecDepth 100000 in
set_option maxHeartbeats 0 in
theorem page_s {H : Heap} {nx b n : Nat} {mem : List UInt8} {left puts : Int} (hb : H.at' b = some (pgsO mem left puts)) (hm : mem.length = 131072) (hn : n < 128) : Fnc Try.prog 72 [.ptr b 0, .sc (.int .i64 (n : Int))] H nx (fun q => q = (pgE (pageN mem n, 0), H, nx)) := by
  refine Fnc.forgetV (pgE_free _) ?_
  refine Fnc.start Try.func72 rfl rfl ?_
  refine y_under fun hund => ?_
  have hlt := hund _ _ hb
  have hl := pageN_len hm hn
  (repeat (first | (refine w_alloc rfl rfl zPage ?_) | (first | refine y_seq ?_ | refine w_region ?_ | refine y_regEnd ?_ | refine y_skip ?_ | refine y_condF rfl ?_ | (apply w_move; exact rfl; exact rfl; exact rfl) | (apply w_assign; exact rfl; exact rfl; exact rfl) | (apply w_pickF; exact rfl; exact rfl; exact rfl; exact rfl) | (apply w_nilCheck; exact rfl; exact rfl; exact rfl) | (apply w_fieldAddr; exact rfl; exact rfl; exact rfl; exact (F.fo _ _ rfl rfl))) | (refine w_lssS rfl rfl rfl rfl (fun hq => absurd hq (by omega)) (fun _ => ?_)) | (refine w_gtrS rfl rfl rfl rfl (fun hq => absurd hq (by omega)) (fun _ => ?_)) | (apply w_idxA (q := n); exact rfl; exact rfl; exact rfl; exact rfl; exact (F.un _ rfl); exact (F.sz _ rfl); (focus (omega)); (focus (omega)))))
  refine w_loadN rfl rfl rfl (F.ag _ rfl) (by (focus ((repeat (first | assumption | refine (Tr.at_set_other _ _ (by omega)).trans ?_)); done))) (pgs_cells hm hn _ _) ?_
  (repeat (first | (apply w_storeN; (exact rfl); (exact rfl); (exact rfl); (exact F.sz _ rfl); (focus ((focus ((repeat (exact Tr.at_set_same _ _ _)); done)))); (exact pgS_len hl); (rw [pgS_len zeroP_len]; exact Nat.le_refl _); (exact one_pg _); (exact seg_pg _ _ zeroP_len hl)) | (first | refine y_regEnd ?_ | (apply w_assign; exact rfl; exact rfl; exact rfl))))
  ((apply w_ret Try.func72 (congrArg Array.toList Try.results72)); (focus ((apply ResIs.cell rfl (LoadIs.many (F.ag _ rfl) (by (focus ((repeat (exact Tr.at_set_same _ _ _)); done))) (box_pg hl))); (repeat (first | exact ResIs.nil | apply ResIs.tmp rfl)))))
  exact ⟨rfl, Nat.le_succ _, fun m hm => (Tr.at_set_other _ _ (by omega)).trans (Tr.at_set_other _ _ (by omega))⟩
end Go.Proofs.Ytdpjbpnemjdhfaa
end
section
namespace Go.Proofs.Ytdpjbpnemjdhfaa
open Go Go.Sy Go.Sl Go.RowKit
theorem pgs_len {mem : List UInt8} (hm : mem.length = 131072) (l p : Int) : (pgsS mem l p).length = 131074 := by simp [hm]
theorem by1_len {mem : List UInt8} (hm : mem.length = 131072) : ((byV mem).map SV.sc).length = 131072 := by simpa using hm
theorem pgs_left {mem : List UInt8} (hm : mem.length = 131072) (l p : Int) : (pgsS mem l p)[131072]? = some (.sc (.int .i64 l)) := by
  rw [List.getElem?_append_right (by rw [by1_len hm]; exact Nat.le_refl _), by1_len hm]
  rfl
theorem pgs_puts {mem : List UInt8} (hm : mem.length = 131072) (l p : Int) : (pgsS mem l p)[131073]? = some (.sc (.int .i64 p)) := by
  rw [List.getElem?_append_right (by rw [by1_len hm]; decide), by1_len hm]
  rfl
theorem pgs_setL {mem : List UInt8} (hm : mem.length = 131072) (l p l' : Int) : (pgsS mem l p).set 131072 (.sc (.int .i64 l')) = pgsS mem l' p := by
  rw [List.set_append_right _ _ (by rw [by1_len hm]; exact Nat.le_refl _), by1_len hm]
  rfl
theorem pgs_setP {mem : List UInt8} (hm : mem.length = 131072) (l p p' : Int) : (pgsS mem l p).set 131073 (.sc (.int .i64 p')) = pgsS mem l p' := by
  rw [List.set_append_right _ _ (by rw [by1_len hm]; decide), by1_len hm]
  rfl
def setN (mem : List UInt8) (n : Nat) (x : List UInt8) : List UInt8 := putAt mem (1024 * n) x
theorem setN_len {mem x : List UInt8} (hm : mem.length = 131072) {n : Nat} (hn : n < 128) (hx : x.length = 1024) : (setN mem n x).length = 131072 := by
  unfold setN
  rw [putAt_len (by omega), hm]
theorem pgs_seg {mem x : List UInt8} (hm : mem.length = 131072) {n : Nat} (hn : n < 128) (hx : x.length = 1024) (l p : Int) : (pgsS mem l p).take (0 + n * 1024) ++ pgS x ++ (pgsS mem l p).drop (0 + n * 1024 + 1024) = pgsS (setN mem n x) l p := by
  have hl := by1_len hm
  rw [List.take_append_of_le_length (by omega), List.drop_append_of_le_length (by omega)]
  unfold setN putAt
  rw [hx, Nat.zero_add, Nat.mul_comm n]
  show _ = (byV (mem.take (1024 * n) ++ x ++ mem.drop (1024 * n + 1024))).map SV.sc ++ _
  rw [by_app, by_app, List.map_append, List.map_append]
  simp only [byV, List.map_take, List.map_drop, List.append_assoc]
set_option maxRecDepth 100000 in
set_option maxHeartbeats 0 in
theorem put_pg {H : Heap} {nx b n : Nat} {mem x : List UInt8} {left puts : Int} (hb : H.at' b = some (pgsO mem left puts)) (hm : mem.length = 131072) (hn : n < 128) (hx : x.length = 1024) (hl : left ≠ 0) (hl2 : -1000000000 ≤ left ∧ left ≤ 1000000000) (hp : -1000000000 ≤ puts ∧ puts ≤ 1000000000) : Fnc Try.prog 73 [.ptr b 0, .sc (.int .i64 (n : Int)), .agg (pgS x)] H nx
    (fun q => q.1 = .sc (.int .i64 0) ∧ q.2.1.at' b = some (pgsO (setN mem n x) (left - 1) (puts + 1)) ∧ nx ≤ q.2.2 ∧ ∀ m, m < nx → m ≠ b → q.2.1.at' m = H.at' m) := by
  refine Fnc.start Try.func73 rfl rfl ?_
  refine y_under fun hund => ?_
  have hlt := hund _ _ hb
  have hbox : (H.set nx (pgO x)).at' nx = some (pgO x) := Tr.at_set_same _ _ _
  have hb1 : (H.set nx (pgO x)).at' b = some (pgsO mem left puts) := (Tr.at_set_other _ _ (by omega)).trans hb
  have hold : ∀ m, m < nx → (H.set nx (pgO x)).at' m = H.at' m := fun m hm => Tr.at_set_other _ _ (by omega)
  (repeat (first | refine y_seq ?_ | refine w_region ?_ | refine y_regEnd ?_ | (apply w_move; exact rfl; exact rfl; exact rfl) | (apply w_assign; exact rfl; exact rfl; exact rfl) | (apply w_boxN; exact rfl; exact rfl; exact rfl)))
  generalize H.set nx (pgO x) = H1 at hbox hb1 hold ⊢
  (repeat (first | (refine w_loadB1 rfl rfl rfl (F.ag _ rfl) hb1 (pgs_left hm _ _) ?_) | (first | refine y_seq ?_ | refine w_region ?_ | refine y_regEnd ?_ | refine y_skip ?_ | refine y_condF rfl ?_ | (apply w_move; exact rfl; exact rfl; exact rfl) | (apply w_pickF; exact rfl; exact rfl; exact rfl; exact rfl) | (apply w_nilCheck; exact rfl; exact rfl; exact rfl) | (apply w_fieldAddr; exact rfl; exact rfl; exact rfl; exact (F.fo _ _ rfl rfl)) | (apply w_sub; exact rfl; exact rfl; exact rfl; exact rfl; (focus (omega)); (focus (omega)))) | (refine w_lssS rfl rfl rfl rfl (fun hq => absurd hq (by omega)) (fun _ => ?_)) | (refine w_gtrS rfl rfl rfl rfl (fun hq => absurd hq (by omega)) (fun _ => ?_)) | (refine w_eqlS rfl rfl rfl rfl (fun hq => absurd hq (by omega)) (fun _ => ?_))))
  refine w_store1 rfl rfl rfl (F.sz _ rfl) hb1 rfl (Nat.ble_eq_true_of_le (by rw [pgs_len hm]; decide)) ?_
  rw [pgs_setL hm]
  have hb2 : (H1.set b (pgsO mem (left - 1) puts)).at' b = some (pgsO mem (left - 1) puts) := Tr.at_set_same _ _ _
  (repeat (first | (refine w_loadB1 rfl rfl rfl (F.ag _ rfl) hb2 (pgs_puts hm _ _) ?_) | (first | refine y_seq ?_ | refine w_region ?_ | refine y_regEnd ?_ | (apply w_move; exact rfl; exact rfl; exact rfl) | (apply w_nilCheck; exact rfl; exact rfl; exact rfl) | (apply w_fieldAddr; exact rfl; exact rfl; exact rfl; exact (F.fo _ _ rfl rfl)) | (apply w_add; exact rfl; exact rfl; exact rfl; exact rfl; (focus (omega)); (focus (omega))))))
  refine w_store1 rfl rfl rfl (F.sz _ rfl) hb2 rfl (Nat.ble_eq_true_of_le (by rw [pgs_len hm]; decide)) ?_
  rw [pgs_setP hm]
  have hb3 : ((H1.set b (pgsO mem (left - 1) puts)).set b (pgsO mem (left - 1) (puts + 1))).at' b = some (pgsO mem (left - 1) (puts + 1)) := Tr.at_set_same _ _ _
  have hbox3 : ((H1.set b (pgsO mem (left - 1) puts)).set b (pgsO mem (left - 1) (puts + 1))).at' nx = some (pgO x) := (Tr.at_set_other _ _ (by omega)).trans ((Tr.at_set_other _ _ (by omega)).trans hbox)
  have hold3 : ∀ m, m < nx → m ≠ b → ((H1.set b (pgsO mem (left - 1) puts)).set b (pgsO mem (left - 1) (puts + 1))).at' m = H.at' m := fun m h1 h2 => (Tr.at_set_other _ _ h2).trans ((Tr.at_set_other _ _ h2).trans (hold m h1))
  generalize (H1.set b (pgsO mem (left - 1) puts)).set b (pgsO mem (left - 1) (puts + 1)) = H3 at hb3 hbox3 hold3 ⊢
  clear hb2 hb1 hbox hold
  (repeat (first | refine y_seq ?_ | refine y_regEnd ?_))
  (apply w_drawE; (focus (kernel_rfl)); (focus (kernel_rfl)))
  (repeat (first | (refine dw_loadBN rfl rfl rfl (F.ag _ rfl) hbox3 (pgS_len hx) ?_) | (refine dw_storeN rfl rfl rfl (F.sz _ rfl) hb3 (pgS_len hx) (by rw [pgs_len hm]; omega) (one_pg _) (pgs_seg hm hn hx _ _) ?_) | (apply dw_idxA (q := n); exact rfl; exact rfl; exact rfl; exact rfl; exact (F.un _ rfl); exact (F.sz _ rfl); (focus (omega)); (focus (omega))) | (first | (apply dw_move; exact rfl; exact rfl; exact rfl) | (apply dw_nilCheck; exact rfl; exact rfl; exact rfl) | (apply dw_fieldAddr; exact rfl; exact rfl; exact rfl; exact (F.fo _ _ rfl rfl)))))
  (refine dk_nil ?_); (refine ⟨by kernel_rfl, ?_, ?_⟩); (focus (repeat (first | exact trivial | refine ⟨.inl (chk_chain rfl), ?_⟩ | refine ⟨.inr ⟨0, by kernel_rfl, AllH.all (fun _ => (by first | exact rd_move rfl | exact rd_nilCheck rfl | exact rd_fieldAddr (F.fo _ _ rfl rfl) rfl)) _⟩, ?_⟩ | refine ⟨.inr ⟨0, by kernel_rfl, (by (refine ⟨(by first | exact rd_loadN (F.ag _ rfl) rfl (by (focus ((repeat (first | assumption | refine (Tr.at_set_other _ _ (by omega)).trans ?_)); done))) (box_pg hx) | exact rd_idxA (q := n) rfl rfl (F.un _ rfl) (F.sz _ rfl) (by omega) (by omega)), ?_⟩; (repeat (refine ⟨(by first | exact rd_loadN (F.ag _ rfl) rfl (by (focus ((repeat (assumption)); done))) (box_pg hx) | exact rd_idxA (q := n) rfl rfl (F.un _ rfl) (F.sz _ rfl) (by omega) (by omega)), ?_⟩)); exact trivial))⟩, ?_⟩)))
  (repeat (first | refine y_seq ?_ | refine w_region ?_ | refine y_regEnd ?_ | (apply w_assign; exact rfl; exact rfl; exact rfl)))
  ((apply w_ret Try.func73 (congrArg Array.toList Try.results73)); (focus (repeat (first | exact ResIs.nil | apply ResIs.tmp rfl))))
  exact ⟨rfl, Tr.at_set_same _ _ _, Nat.le_succ _, fun m h1 h2 => (Tr.at_set_other _ _ h2).trans (hold3 m h1 h2)⟩
end Go.Proofs.Ytdpjbpnemjdhfaa
end
section
namespace Go.Proofs.Ytdpjbpnemjdhfaa
open Go Go.Sy Go.Sl Go.RowKit
def kP (p : List UInt8) : Nat := (p.getD 12 0).toNat
theorem kind_v {H : Heap} {nx : Nat} {p : List UInt8} (hp : p.length = 1024) : Fnc Try.prog 50 [.agg (pgS p)] H nx (fun q => q = (.sc (.int .u8 (kP p : Int)), H, nx)) := by
  refine Fnc.forgetV (Free.sc _) ?_
  refine Fnc.start Try.func50 rfl rfl ?_
  have hc := pgS_cell (p := p) (i := 12) (by omega)
  (repeat (first | (first | refine y_seq ?_ | refine w_region ?_ | refine y_regEnd ?_ | (apply w_assign; exact rfl; exact rfl; exact rfl) | (apply w_boxN; exact rfl; exact rfl; exact rfl)) | (apply w_idxA (q := 12); exact rfl; exact rfl; exact rfl; exact rfl; exact (F.un _ rfl); exact (F.sz _ rfl); (focus (omega)); (focus (omega))) | (refine w_cell rfl rfl rfl (F.ag _ rfl) (by (focus ((repeat (exact Tr.at_set_same _ _ _)); done))) hc ?_)))
  ((apply w_ret Try.func50 (congrArg Array.toList Try.results50)); (focus (repeat (first | exact ResIs.nil | apply ResIs.tmp rfl))))
  refine ⟨?_, Nat.le_succ _, fun m hm => Tr.at_set_other _ _ (by omega)⟩
  have hg : p.getD 12 0 = p[12]'(by omega) := by rw [List.getD_eq_getElem?_getD, List.getElem?_eq_getElem (by omega)]; rfl
  unfold kP
  rw [hg]
  rfl
def badI (p : List UInt8) : Bool := (List.range (slotsP p)).any fun j => decide (sizeP p j ≠ 0) && (ofV (itemP p j)).isNone
def readP (p : List UInt8) : List UInt8 × Nat := if unusedP p = true then (initP 4, 0) else if rightP p = false ∨ kP p ≠ 4 then (zeroP, 13) else if badI p = true then (zeroP, 13) else (p, 0)
theorem bs_one {H : Heap} {s : SV} {vs : List Value} (h : BsIs H s vs) : s.one = true := by
  obtain ⟨_, ⟨_, rfl⟩ | ⟨r0, eo, ne, ro0, t0, us, rfl, _⟩ | ⟨b0, o0, C0, vo0, rfl, _⟩⟩ := h <;> rfl
abbrev stoS (b : Nat) : SV := .ifc 38 (.ptr b 0)
abbrev errO (e : Int) : VO := newCells 27 [.sc (.int .i64 e)]
set_option maxRecDepth 100000 in
set_option maxHeartbeats 0 in
theorem read_r {H : Heap} {nx b n : Nat} {mem : List UInt8} {left puts : Int} (hb : H.at' b = some (pgsO mem left puts)) (hm : mem.length = 131072) (hn : n < 128) : Fnc Try.prog 32 [stoS b, .sc (.int .i64 (n : Int))] H nx (fun q => q.1 = pgE (readP (pageN mem n)) ∧ nx ≤ q.2.2 ∧ ∀ m, m < nx → q.2.1.at' m = H.at' m) := by
  have hp := pageN_len hm hn
  refine Fnc.start Try.func32 rfl rfl ?_
  refine y_under fun hund => ?_
  have hlt := hund _ _ hb
  (repeat (first | (refine w_alloc rfl rfl zPage ?_) | (first | refine y_seq ?_ | refine w_region ?_ | refine y_regEnd ?_ | (apply w_move; exact rfl; exact rfl; exact rfl) | (apply w_alloc; exact rfl; exact rfl; exact (F.zl _ rfl)))))
  have hb1 : ((H.set nx (pgO zeroP)).set (nx + 1) (errO 0)).at' b = some (pgsO mem left puts) := by (focus ((repeat (first | assumption | refine (Tr.at_set_other _ _ (by omega)).trans ?_)); done))
  have h41 : ((H.set nx (pgO zeroP)).set (nx + 1) (errO 0)).at' nx = some (pgO zeroP) := by (focus ((repeat (first | exact Tr.at_set_same _ _ _ | refine (Tr.at_set_other _ _ (by omega)).trans ?_)); done))
  have h51 : ((H.set nx (pgO zeroP)).set (nx + 1) (errO 0)).at' (nx + 1) = some (errO 0) := by (focus ((repeat (exact Tr.at_set_same _ _ _)); done))
  have ho1 : ∀ m, m < nx → ((H.set nx (pgO zeroP)).set (nx + 1) (errO 0)).at' m = H.at' m := fun m hm => by (focus ((repeat (refine (Tr.at_set_other _ _ (by omega)).trans ?_)); exact rfl))
  refine w_invoke 72 rfl rfl rfl rfl (by kernel_rfl) (Fnc.mono (page_s hb1 hm hn) ?_)
  rintro _ rfl
  dsimp only
  generalize (H.set nx (pgO zeroP)).set (nx + 1) (errO 0) = H1 at hb1 h41 h51 ho1 ⊢
  generalize pageN mem n = p at hp ⊢
  (repeat (first | (refine w_alloc rfl rfl zPage ?_) | (apply w_storeN; (exact rfl); (exact rfl); (exact rfl); (exact F.sz _ rfl); (focus ((focus ((repeat (exact Tr.at_set_same _ _ _)); done)))); (exact pgS_len hp); (rw [pgS_len zeroP_len]; exact Nat.le_refl _); (exact one_pg _); (exact seg_pg _ _ zeroP_len hp)) | (first | refine y_seq ?_ | refine w_region ?_ | refine y_regEnd ?_ | refine y_skip ?_ | refine y_condF rfl ?_ | (apply w_move; exact rfl; exact rfl; exact rfl) | (apply w_assign; exact rfl; exact rfl; exact rfl) | (apply w_extract; exact rfl; exact rfl; exact rfl; exact rfl)) | (refine w_neqS rfl rfl rfl rfl (fun hq => absurd rfl hq) (fun _ => ?_))))
  have h62 : ((H1.set (nx + 1 + 1) (pgO zeroP)).set (nx + 1 + 1) (pgO p)).at' (nx + 1 + 1) = some (pgO p) := Tr.at_set_same _ _ _
  have h42 : ((H1.set (nx + 1 + 1) (pgO zeroP)).set (nx + 1 + 1) (pgO p)).at' nx = some (pgO zeroP) := by (focus ((repeat (first | assumption | refine (Tr.at_set_other _ _ (by omega)).trans ?_)); done))
  have h52 : ((H1.set (nx + 1 + 1) (pgO zeroP)).set (nx + 1 + 1) (pgO p)).at' (nx + 1) = some (errO 0) := by (focus ((repeat (first | assumption | refine (Tr.at_set_other _ _ (by omega)).trans ?_)); done))
  have ho2 : ∀ m, m < nx → ((H1.set (nx + 1 + 1) (pgO zeroP)).set (nx + 1 + 1) (pgO p)).at' m = H.at' m := fun m hm => (Tr.at_set_other _ _ (by omega)).trans ((Tr.at_set_other _ _ (by omega)).trans (ho1 m hm))
  refine y_gen (R := fun H2 n2 => H2 = (H1.set (nx + 1 + 1) (pgO zeroP)).set (nx + 1 + 1) (pgO p) ∧ n2 = nx + 1 + 1 + 1) ⟨rfl, rfl⟩ ?_
  rintro H2 n2 ⟨hH2, rfl⟩
  rw [← hH2] at h62 h42 h52 ho2
  clear hH2 h41 h51 ho1 hb1
  have hfin : ∀ (e : Nat) (x : List UInt8) (H3 : Heap) (n3 : Nat), readP p = (x, e) → nx ≤ n3 → (∀ m, m < nx → H3.at' m = H.at' m) → (SV.tup [.agg (pgS x), .sc (.int .i64 (e : Int))] = pgE (readP p) ∧ nx ≤ n3 ∧ ∀ m, m < nx → H3.at' m = H.at' m) := fun e x H3 n3 h1 h2 h3 => ⟨by rw [h1], h2, h3⟩
  cases hu : unusedP p with
  | true =>
    have hv : readP p = (initP 4, 0) := by unfold readP; rw [if_pos hu]
    have hus := fun (H : Heap) nx => unused_s (H := H) (nx := nx) hp
    rw [hu] at hus
    have hl4 := initP_len 4
    (repeat (first | (apply w_loadBN; (exact rfl); (exact rfl); (exact rfl); (exact F.ag _ rfl); (focus ((focus ((repeat (assumption)); done)))); (exact pgS_len hp)) | (first | refine y_seq ?_ | refine w_region ?_ | refine y_regEnd ?_ | refine y_condT rfl ?_) | (refine w_call rfl rfl rfl (by kernel_rfl) (Fnc.mono (hus _ _) ?_); rintro _ rfl; dsimp only)))
    refine w_call rfl rfl rfl (by kernel_rfl) (Fnc.mono (init_s 4) ?_)
    rintro _ rfl
    dsimp only
    generalize initP 4 = p4 at hv hl4
    (repeat (first | (apply w_storeN; (exact rfl); (exact rfl); (exact rfl); (exact F.sz _ rfl); (focus ((focus ((repeat (assumption)); done)))); (exact pgS_len hl4); (rw [pgS_len zeroP_len]; exact Nat.le_refl _); (exact one_pg _); (exact seg_pg _ _ zeroP_len hl4)) | (first | refine y_regEnd ?_ | refine w_storeC rfl rfl rfl rfl (F.sz _ rfl) (by (focus ((repeat (first | assumption | refine (Tr.at_set_other _ _ (by omega)).trans ?_)); done))) rfl (by exact Nat.le_of_ble_eq_true rfl) rfl ?_)))
    ((apply w_ret Try.func32 (congrArg Array.toList Try.results32)); (focus ((apply ResIs.cell rfl (LoadIs.many (F.ag _ rfl) (by (focus ((repeat (first | exact Tr.at_set_same _ _ _ | refine (Tr.at_set_other _ _ (by omega)).trans ?_)); done))) (box_pg hl4))); apply ResIs.cell rfl (LoadIs.one (F.ag _ rfl) (by (focus ((repeat (exact Tr.at_set_same _ _ _)); done))) (cell_box rfl)); exact ResIs.nil)))
    exact hfin 0 _ _ _ hv (by dsimp only; omega) fun m hm => (Tr.at_set_other _ _ (by omega)).trans ((Tr.at_set_other _ _ (by omega)).trans (ho2 m hm))
  | false =>
    have hus := fun (H : Heap) nx => unused_s (H := H) (nx := nx) hp
    rw [hu] at hus
    have hrs := fun (H : Heap) nx => Right_s (H := H) (nx := nx) hp
    cases hr : rightP p with
    | false =>
      have hv : readP p = (zeroP, 13) := by unfold readP; rw [if_neg (by rw [hu]; decide), if_pos (.inl hr)]
      rw [hr] at hrs
      (repeat (first | (apply w_loadBN; (exact rfl); (exact rfl); (exact rfl); (exact F.ag _ rfl); (focus ((focus ((repeat (assumption)); done)))); (exact pgS_len hp)) | (apply w_storeN; (exact rfl); (exact rfl); (exact rfl); (exact F.sz _ rfl); (focus ((focus ((repeat (assumption)); done)))); (exact pgS_len zeroP_len); (rw [pgS_len zeroP_len]; exact Nat.le_refl _); (exact one_pg _); (exact seg_pg _ _ zeroP_len zeroP_len)) | (first | refine y_seq ?_ | refine w_region ?_ | refine y_regEnd ?_ | refine y_skip ?_ | refine y_condT rfl ?_ | refine y_condF rfl ?_ | (apply w_move; exact rfl; exact rfl; exact rfl) | (apply w_pickT; exact rfl; exact rfl; exact rfl; exact rfl) | (apply w_not; exact rfl) | refine w_storeC rfl rfl rfl rfl (F.sz _ rfl) (by (focus ((repeat (first | assumption | refine (Tr.at_set_other _ _ (by omega)).trans ?_)); done))) rfl (by exact Nat.le_of_ble_eq_true rfl) rfl ?_ | (apply w_notB; exact rfl; exact rfl; exact rfl)) | (refine w_call rfl rfl rfl (by kernel_rfl) (Fnc.mono (hus _ _) ?_); rintro _ rfl; dsimp only) | (refine w_call rfl rfl rfl (by kernel_rfl) (Fnc.mono (hrs _ _) ?_); rintro _ rfl; dsimp only) | (refine w_build0 rfl rfl zBuild ?_)))
      ((apply w_ret Try.func32 (congrArg Array.toList Try.results32)); (focus ((apply ResIs.cell rfl (LoadIs.many (F.ag _ rfl) (by (focus ((repeat (first | exact Tr.at_set_same _ _ _ | refine (Tr.at_set_other _ _ (by omega)).trans ?_)); done))) (box_pg zeroP_len))); apply ResIs.cell rfl (LoadIs.one (F.ag _ rfl) (by (focus ((repeat (exact Tr.at_set_same _ _ _)); done))) (cell_box rfl)); exact ResIs.nil)))
      exact hfin 13 _ _ _ hv (by dsimp only; omega) fun m hm => (Tr.at_set_other _ _ (by omega)).trans ((Tr.at_set_other _ _ (by omega)).trans (ho2 m hm))
    | true =>
      rw [hr] at hrs
      (repeat (first | (apply w_loadBN; (exact rfl); (exact rfl); (exact rfl); (exact F.ag _ rfl); (focus ((focus ((repeat (assumption)); done)))); (exact pgS_len hp)) | (first | refine y_seq ?_ | refine w_region ?_ | refine y_regEnd ?_ | refine y_skip ?_ | refine y_condF rfl ?_ | (apply w_move; exact rfl; exact rfl; exact rfl) | (apply w_notB; exact rfl; exact rfl; exact rfl)) | (refine w_call rfl rfl rfl (by kernel_rfl) (Fnc.mono (hus _ _) ?_); rintro _ rfl; dsimp only) | (refine w_call rfl rfl rfl (by kernel_rfl) (Fnc.mono (hrs _ _) ?_); rintro _ rfl; dsimp only) | (refine w_call rfl rfl rfl (by kernel_rfl) (Fnc.mono (kind_v hp) ?_); rintro _ rfl; dsimp only)))
      refine w_neqS rfl rfl rfl rfl (fun hk => ?_) (fun hk => ?_)
      · have hv : readP p = (zeroP, 13) := by unfold readP; rw [if_neg (by rw [hu]; decide), if_pos (.inr (by omega))]
        (repeat (first | (apply w_storeN; (exact rfl); (exact rfl); (exact rfl); (exact F.sz _ rfl); (focus ((focus ((repeat (assumption)); done)))); (exact pgS_len zeroP_len); (rw [pgS_len zeroP_len]; exact Nat.le_refl _); (exact one_pg _); (exact seg_pg _ _ zeroP_len zeroP_len)) | (first | refine y_seq ?_ | refine w_region ?_ | refine y_regEnd ?_ | refine y_condT rfl ?_ | (apply w_pickF; exact rfl; exact rfl; exact rfl; exact rfl) | refine w_storeC rfl rfl rfl rfl (F.sz _ rfl) (by (focus ((repeat (first | assumption | refine (Tr.at_set_other _ _ (by omega)).trans ?_)); done))) rfl (by exact Nat.le_of_ble_eq_true rfl) rfl ?_) | (refine w_build0 rfl rfl zBuild ?_)))
        ((apply w_ret Try.func32 (congrArg Array.toList Try.results32)); (focus ((apply ResIs.cell rfl (LoadIs.many (F.ag _ rfl) (by (focus ((repeat (first | exact Tr.at_set_same _ _ _ | refine (Tr.at_set_other _ _ (by omega)).trans ?_)); done))) (box_pg zeroP_len))); apply ResIs.cell rfl (LoadIs.one (F.ag _ rfl) (by (focus ((repeat (exact Tr.at_set_same _ _ _)); done))) (cell_box rfl)); exact ResIs.nil)))
        exact hfin 13 _ _ _ hv (by dsimp only; omega) fun m hm => (Tr.at_set_other _ _ (by omega)).trans ((Tr.at_set_other _ _ (by omega)).trans (ho2 m hm))
      · have hv : readP p = if badI p = true then (zeroP, 13) else (p, 0) := by unfold readP; rw [if_neg (by rw [hu]; decide), if_neg (by rw [hr]; intro h; rcases h with h | h; cases h; omega)]
        (repeat (first | (apply w_loadBN; (exact rfl); (exact rfl); (exact rfl); (exact F.ag _ rfl); (focus ((focus ((repeat (assumption)); done)))); (exact pgS_len hp)) | (first | refine y_seq ?_ | refine w_region ?_ | refine y_regEnd ?_ | refine y_block ?_ | refine y_skip ?_ | refine y_condF rfl ?_ | (apply w_pickF; exact rfl; exact rfl; exact rfl; exact rfl)) | (refine w_call rfl rfl rfl (by kernel_rfl) (Fnc.mono (items_s hp) ?_); rintro _ rfl; dsimp only)))
        rw [hr]
        obtain ⟨q0, hq0⟩ : ∃ q0, q0 = nx + 1 + 1 + 1 := ⟨_, rfl⟩
        rw [← hq0]
        have m0 : ((H2.set q0 (pgO p)).set (q0 + 1) (newCells 4 [.sc (.bool true)])).at' q0 = some (pgO p) := by (focus ((repeat (first | exact Tr.at_set_same _ _ _ | refine (Tr.at_set_other _ _ (by omega)).trans ?_)); done))
        have m1 : ((H2.set q0 (pgO p)).set (q0 + 1) (newCells 4 [.sc (.bool true)])).at' (q0 + 1) = some (newCells 4 [.sc (.bool true)]) := Tr.at_set_same _ _ _
        have m4 : ((H2.set q0 (pgO p)).set (q0 + 1) (newCells 4 [.sc (.bool true)])).at' nx = some (pgO zeroP) := by (focus ((repeat (first | assumption | refine (Tr.at_set_other _ _ (by omega)).trans ?_)); done))
        have m5 : ((H2.set q0 (pgO p)).set (q0 + 1) (newCells 4 [.sc (.bool true)])).at' (nx + 1) = some (errO 0) := by (focus ((repeat (first | assumption | refine (Tr.at_set_other _ _ (by omega)).trans ?_)); done))
        have m6 : ((H2.set q0 (pgO p)).set (q0 + 1) (newCells 4 [.sc (.bool true)])).at' (nx + 1 + 1) = some (pgO p) := by (focus ((repeat (first | assumption | refine (Tr.at_set_other _ _ (by omega)).trans ?_)); done))
        have mo : ∀ m, m < nx → ((H2.set q0 (pgO p)).set (q0 + 1) (newCells 4 [.sc (.bool true)])).at' m = H.at' m := fun m hm => (Tr.at_set_other _ _ (by omega)).trans ((Tr.at_set_other _ _ (by omega)).trans (ho2 m hm))
        generalize (H2.set q0 (pgO p)).set (q0 + 1) (newCells 4 [.sc (.bool true)]) = H3 at m0 m1 m4 m5 m6 mo ⊢
        clear ho2 h52 h42 h62 hus hrs hu
        refine y_rangeFunc [(4, .ptr nx 0), (5, .ptr (nx + 1) 0)] rfl rfl (by kernel_rfl) (SlIn.sub (by repeat (first | exact trivial | refine ⟨rfl, ?_⟩))) ?_
        intro cA cB hcA hcB
        refine Fnc.mono (items_w (l := q0 + 1 + 1 + 1) (f := q0 + 1) (q := q0) hp hr (f2 := 32) (nt2 := 47) (T2 := slT [(4, .ptr nx 0), (5, .ptr (nx + 1) 0)]) (ps := #[36, 37]) (ca := cA) (cb := cB) (dr := q0 + 1 + 1) rfl
          (fun j H4 n4 => H4.at' (q0 + 1 + 1 + 1) = some (.loop .ready none 32 47 (slT [(4, .ptr nx 0), (5, .ptr (nx + 1) 0)]) #[36, 37] cA cB (q0 + 1 + 1)) ∧ H4.at' (q0 + 1) = some (newCells 4 [.sc (.bool true)]) ∧ H4.at' q0 = some (pgO p) ∧ q0 + 1 + 1 + 1 + 1 ≤ n4 ∧ H4.at' nx = some (pgO zeroP) ∧ H4.at' (nx + 1) = some (errO 0) ∧ H4.at' (nx + 1 + 1) = some (pgO p) ∧ H4.at' (q0 + 1 + 1) = some (.dfd (some [])) ∧ (∀ i, i < j → sizeP p i ≠ 0 → (ofV (itemP p i)).isSome = true) ∧ ∀ m, m < nx → H4.at' m = H.at' m)
          (fun H4 n4 => H4.at' (q0 + 1 + 1 + 1) = some (.loop .done (some .ret) 32 47 (slT [(4, .ptr nx 0), (5, .ptr (nx + 1) 0)]) #[36, 37] cA cB (q0 + 1 + 1)) ∧ q0 ≤ n4 ∧ H4.at' nx = some (pgO zeroP) ∧ H4.at' (nx + 1) = some (errO 13) ∧ H4.at' (q0 + 1 + 1) = some (.dfd (some [])) ∧ badI p = true ∧ ∀ m, m < nx → H4.at' m = H.at' m)
          ?_ ?_ ?_ ?_ ?_) ?_
        · rintro j H4 n4 ⟨i1, i2, i3, i4, _⟩
          exact ⟨i1, i2, i3, by omega, by omega, by omega⟩
        · rintro j H4 n4 H5 n5 ⟨i1, i2, i3, i4, i5, i6, i7, i8, i9, i10⟩ hle hs
          exact ⟨(hs _ (by omega)).trans i1, (hs _ (by omega)).trans i2, (hs _ (by omega)).trans i3, by omega, (hs _ (by omega)).trans i5, (hs _ (by omega)).trans i6, (hs _ (by omega)).trans i7, (hs _ (by omega)).trans i8, i9, fun m hm => (hs _ (by omega)).trans (i10 m hm)⟩
        · rintro j H4 n4 ⟨i1, i2, i3, i4, i5, i6, i7, i8, i9, i10⟩ hz
          refine ⟨i1, i2, i3, i4, i5, i6, i7, i8, fun i hi hs => ?_, i10⟩
          rcases Nat.lt_or_ge i j with h | h
          · exact i9 i h hs
          · obtain rfl : i = j := by omega
            exact absurd hz hs
        · rintro j H4 n4 r ⟨i1, i2, i3, i4, i5, i6, i7, i8, i9, i10⟩ hr1 hr2 hj hs hrow
          have hrow2 : (H4.set (q0 + 1 + 1 + 1) (.loop .busy none 32 47 (slT [(4, .ptr nx 0), (5, .ptr (nx + 1) 0)]) #[36, 37] cA cB (q0 + 1 + 1))).at' r = some (u8R false (byV (itemP p j))) := (Tr.at_set_other _ _ (by omega)).trans hrow
          have hil : (itemP p j).length ≤ 1024 := by unfold itemP; rw [List.length_take, List.length_drop]; omega
          refine y_cast hcA ?_
          (repeat (first | refine w_region ?_ | refine y_regEnd ?_ | (apply w_assign; exact rfl; exact rfl; exact rfl)))
          refine y_begin (by (focus ((repeat (assumption)); done))) ?_
          refine y_cast hcB ?_
          (repeat (first | refine y_seq ?_ | refine w_region ?_ | refine y_block ?_ | (apply w_move; exact rfl; exact rfl; exact rfl)))
          refine w_call rfl rfl rfl (by kernel_rfl) (Fnc.mono (of_s (row_bs hrow2) (by omega)) ?_)
          rintro ⟨_, H5, n5⟩ ⟨s', r', rfl, ⟨k, w, rfl, gk, gw⟩, _, g2, g3⟩
          dsimp only at g2 g3 ⊢
          have j1 := (g3 _ (show q0 + 1 + 1 + 1 < n4 by omega)).trans (Tr.at_set_same _ _ _)
          have jo : ∀ m, m < n4 → m ≠ q0 + 1 + 1 + 1 → H5.at' m = H4.at' m := fun m h1 h2 => (g3 m h1).trans (Tr.at_set_other _ _ h2)
          have j4 : H5.at' nx = some (pgO zeroP) := (jo _ (by omega) (by omega)).trans i5
          have j5 : H5.at' (nx + 1) = some (errO 0) := (jo _ (by omega) (by omega)).trans i6
          have hone : ∀ x y : Nat, allOne (verC k w x y) = true := fun x y => by simp only [allOne, bs_one gk.bs, bs_one gw.bs]; rfl
          clear gk gw g3 hrow hrow2
          (repeat (first | (first | refine y_seq ?_ | refine w_region ?_ | refine y_regEnd ?_ | (apply w_move; exact rfl; exact rfl; exact rfl) | (apply w_assign; exact rfl; exact rfl; exact rfl) | (apply w_extract; exact rfl; exact rfl; exact rfl; exact rfl) | (apply w_alloc; exact rfl; exact rfl; exact (F.zl _ rfl))) | (refine w_storeN rfl rfl rfl (F.sz _ rfl) (by (focus ((repeat (first | assumption | exact Tr.at_set_same _ _ _)); done))) rfl (by exact Nat.le_of_ble_eq_true rfl) (hone _ _) rfl ?_)))
          cases ho : ofV (itemP p j) with
          | none =>
            have hbd : badI p = true := by
              unfold badI
              rw [List.any_eq_true]
              exact ⟨j, List.mem_range.2 hj, by rw [decide_eq_true hs, ho]; rfl⟩
            refine w_neqS rfl rfl rfl rfl (fun _ => ?_) (fun hq => absurd hq (by decide))
            (repeat (first | (apply w_storeN; (exact rfl); (exact rfl); (exact rfl); (exact F.sz _ rfl); (focus ((focus ((repeat (first | assumption | refine (Tr.at_set_other _ _ (by omega)).trans ?_)); done)))); (exact pgS_len zeroP_len); (rw [pgS_len zeroP_len]; exact Nat.le_refl _); (exact one_pg _); (exact seg_pg _ _ zeroP_len zeroP_len)) | (first | refine y_seq ?_ | refine w_region ?_ | refine y_regEnd ?_ | refine y_condT rfl ?_ | refine w_storeC rfl rfl rfl rfl (F.sz _ rfl) (by (focus ((repeat (first | assumption | refine (Tr.at_set_other _ _ (by omega)).trans ?_)); done))) rfl (by exact Nat.le_of_ble_eq_true rfl) rfl ?_) | (refine w_build0 rfl rfl zBuild ?_)))
            refine y_roundRet (by (focus ((repeat (first | assumption | refine (Tr.at_set_other _ _ (by omega)).trans ?_)); done))) (.inr ⟨rfl, Tr.at_set_same _ _ _, by dsimp only; omega, by (focus ((repeat (first | exact Tr.at_set_same _ _ _ | refine (Tr.at_set_other _ _ (by omega)).trans ?_)); done)), by (focus ((repeat (first | exact Tr.at_set_same _ _ _ | refine (Tr.at_set_other _ _ (by omega)).trans ?_)); done)), ?_, hbd, fun m hm => ?_⟩)
            · (focus ((repeat (refine (Tr.at_set_other _ _ (by omega)).trans ?_)); exact (jo _ (by omega) (by omega)).trans i8))
            · (focus ((repeat (refine (Tr.at_set_other _ _ (by omega)).trans ?_)); exact (jo _ (by omega) (by omega)).trans (i10 m hm)))
          | some v =>
            refine w_neqS rfl rfl rfl rfl (fun hq => absurd rfl hq) (fun _ => ?_)
            (repeat (first | refine y_regEnd ?_ | refine y_inBlock ?_ | refine y_skip ?_ | refine y_condF rfl ?_))
            refine y_roundEnd (by (focus ((repeat (first | assumption | refine (Tr.at_set_other _ _ (by omega)).trans ?_)); done))) (.inl ⟨rfl, ⟨Tr.at_set_same _ _ _, ?_, ?_, by dsimp only; omega, ?_, ?_, ?_, ?_, fun i hi hsi => ?_, fun m hm => ?_⟩, by dsimp only; omega, fun m h1 h2 => ?_⟩)
            · (focus ((repeat (refine (Tr.at_set_other _ _ (by omega)).trans ?_)); exact (jo _ (by omega) (by omega)).trans i2))
            · (focus ((repeat (refine (Tr.at_set_other _ _ (by omega)).trans ?_)); exact (jo _ (by omega) (by omega)).trans i3))
            · (focus ((repeat (first | assumption | refine (Tr.at_set_other _ _ (by omega)).trans ?_)); done))
            · (focus ((repeat (first | assumption | refine (Tr.at_set_other _ _ (by omega)).trans ?_)); done))
            · (focus ((repeat (refine (Tr.at_set_other _ _ (by omega)).trans ?_)); exact (jo _ (by omega) (by omega)).trans i7))
            · (focus ((repeat (refine (Tr.at_set_other _ _ (by omega)).trans ?_)); exact (jo _ (by omega) (by omega)).trans i8))
            · rcases Nat.lt_or_ge i j with h | h
              · exact i9 i h hsi
              · obtain rfl : i = j := by omega
                rw [ho]
                rfl
            · (focus ((repeat (refine (Tr.at_set_other _ _ (by omega)).trans ?_)); exact (jo _ (by omega) (by omega)).trans (i10 m hm)))
            · (focus ((repeat (refine (Tr.at_set_other _ _ (by omega)).trans ?_)); exact jo _ (by omega) (by omega)))
        · exact ⟨Tr.at_set_same _ _ _, by (focus ((repeat (first | assumption | refine (Tr.at_set_other _ _ (by omega)).trans ?_)); done)), by (focus ((repeat (first | assumption | refine (Tr.at_set_other _ _ (by omega)).trans ?_)); done)), Nat.le_refl _, by (focus ((repeat (first | assumption | refine (Tr.at_set_other _ _ (by omega)).trans ?_)); done)), by (focus ((repeat (first | assumption | refine (Tr.at_set_other _ _ (by omega)).trans ?_)); done)), by (focus ((repeat (first | assumption | refine (Tr.at_set_other _ _ (by omega)).trans ?_)); done)), by (focus ((repeat (first | exact Tr.at_set_same _ _ _ | refine (Tr.at_set_other _ _ (by omega)).trans ?_)); done)), fun i hi => absurd hi (Nat.not_lt_zero _), fun m hm => (Tr.at_set_other _ _ (by omega)).trans ((Tr.at_set_other _ _ (by omega)).trans (mo m hm))⟩
        · rintro ⟨v, H4, n4⟩ (⟨i1, i2, i3, i4, i5, i6, i7, i8, i9, i10⟩ | ⟨i1, i4, i5, i6, i8, i9, i10⟩)
          · dsimp only at i1 i2 i3 i4 i5 i6 i7 i8 i10 ⊢
            have hbad : badI p = false := by
              unfold badI
              rw [List.any_eq_false]
              intro j hj
              have hj := List.mem_range.1 hj
              by_cases hz : sizeP p j = 0
              · rw [decide_eq_false (fun h => h hz)]; simp
              · have := i9 j hj hz
                rw [show (ofV (itemP p j)).isNone = false by cases h : ofV (itemP p j) with | none => rw [h] at this; cases this | some _ => rfl]
                simp
            rw [hbad] at hv
            refine y_endRange i1 (fun h => by cases h) ?_
            dsimp only [withPend]
            have h6 : ∀ vo, (H4.set (q0 + 1 + 1 + 1) vo).at' (nx + 1 + 1) = some (pgO p) := fun vo => (Tr.at_set_other _ _ (by omega)).trans i7
            have h4 : ∀ vo, (H4.set (q0 + 1 + 1 + 1) vo).at' nx = some (pgO zeroP) := fun vo => (Tr.at_set_other _ _ (by omega)).trans i5
            (repeat (first | (apply w_loadBN; (exact rfl); (exact rfl); (exact rfl); (exact F.ag _ rfl); (focus ((focus ((repeat (first | assumption | refine (Tr.at_set_other _ _ (by omega)).trans ?_)); done)))); (exact pgS_len hp)) | (apply w_storeN; (exact rfl); (exact rfl); (exact rfl); (exact F.sz _ rfl); (focus ((focus ((repeat (first | assumption | refine (Tr.at_set_other _ _ (by omega)).trans ?_)); done)))); (exact pgS_len hp); (rw [pgS_len zeroP_len]; exact Nat.le_refl _); (exact one_pg _); (exact seg_pg _ _ zeroP_len hp)) | (first | refine y_seq ?_ | refine w_region ?_ | refine y_regEnd ?_ | refine y_inBlock ?_ | refine w_storeC rfl rfl rfl rfl (F.sz _ rfl) (by (focus ((repeat (first | assumption | refine (Tr.at_set_other _ _ (by omega)).trans ?_)); done))) rfl (by exact Nat.le_of_ble_eq_true rfl) rfl ?_)))
            refine y_retT Try.func32 (congrArg Array.toList Try.results32) (rs := [q0 + 1 + 1]) rfl (fun r hr => by rw [List.mem_singleton.1 hr]; (focus ((repeat (first | assumption | refine (Tr.at_set_other _ _ (by omega)).trans ?_)); done))) (by simp) ?_
            intro H7 hH7
            have hno : ∀ m, m ≤ nx + 1 → m ∉ [q0 + 1 + 1] := fun m hm h => by have := List.mem_singleton.1 h; omega
            have g4 : H7.at' nx = some (pgO p) := (hH7 nx (hno _ (by omega))).trans (by (focus ((repeat (first | exact Tr.at_set_same _ _ _ | refine (Tr.at_set_other _ _ (by omega)).trans ?_)); done)))
            have g5 : H7.at' (nx + 1) = some (errO 0) := (hH7 _ (hno _ (by omega))).trans (by (focus ((repeat (exact Tr.at_set_same _ _ _)); done)))
            refine ⟨_, (by ((apply ResIs.cell rfl (LoadIs.many (F.ag _ rfl) (by (focus ((repeat (assumption)); done))) (box_pg hp))); apply ResIs.cell rfl (LoadIs.one (F.ag _ rfl) (by (focus ((repeat (assumption)); done))) (cell_box rfl)); exact ResIs.nil)), ?_⟩
            exact hfin 0 _ _ _ (hv.trans (if_neg (by decide))) (by dsimp only; omega) fun m hm => (hH7 m (hno _ (by omega))).trans (by (focus ((repeat (refine (Tr.at_set_other _ _ (by omega)).trans ?_)); exact i10 m hm)))
          · dsimp only at i1 i4 i5 i6 i8 i10 ⊢
            refine y_endRange i1 (fun h => by cases h) ?_
            dsimp only [withPend]
            refine y_retT Try.func32 (congrArg Array.toList Try.results32) (rs := [q0 + 1 + 1]) rfl (fun r hr => by rw [List.mem_singleton.1 hr]; (focus ((repeat (first | assumption | refine (Tr.at_set_other _ _ (by omega)).trans ?_)); done))) (by simp) ?_
            intro H7 hH7
            have hno : ∀ m, m ≤ nx + 1 → m ∉ [q0 + 1 + 1] := fun m hm h => by have := List.mem_singleton.1 h; omega
            have g4 : H7.at' nx = some (pgO zeroP) := (hH7 nx (hno _ (by omega))).trans (by (focus ((repeat (first | assumption | refine (Tr.at_set_other _ _ (by omega)).trans ?_)); done)))
            have g5 : H7.at' (nx + 1) = some (errO 13) := (hH7 _ (hno _ (by omega))).trans (by (focus ((repeat (first | assumption | refine (Tr.at_set_other _ _ (by omega)).trans ?_)); done)))
            refine ⟨_, (by ((apply ResIs.cell rfl (LoadIs.many (F.ag _ rfl) (by (focus ((repeat (assumption)); done))) (box_pg zeroP_len))); apply ResIs.cell rfl (LoadIs.one (F.ag _ rfl) (by (focus ((repeat (assumption)); done))) (cell_box rfl)); exact ResIs.nil)), ?_⟩
            exact hfin 13 _ _ _ (hv.trans (if_pos i9)) (by dsimp only; omega) fun m hm => (hH7 m (hno _ (by omega))).trans (by (focus ((repeat (refine (Tr.at_set_other _ _ (by omega)).trans ?_)); exact i10 m hm)))
theorem read_p {H : Heap} {nx b n : Nat} {mem : List UInt8} {left puts : Int} (hb : H.at' b = some (pgsO mem left puts)) (hm : mem.length = 131072) (hn : n < 128) : Fnc Try.prog 32 [stoS b, .sc (.int .i64 (n : Int))] H nx (fun q => q = (pgE (readP (pageN mem n)), H, nx)) := Fnc.forgetV (pgE_free _) (read_r hb hm hn)
end Go.Proofs.Ytdpjbpnemjdhfaa
end
section
namespace Go.Proofs.Ytdpjbpnemjdhfaa
open Go Go.Sy Go.Sl Go.RowKit
abbrev tidO (a b : Int) : VO := newCells 45 [.sc (.int .i64 a), .sc (.int .i64 b)]
abbrev bsO (s : SV) : VO := newCells 22 [s]
set_option maxRecDepth 100000 in
set_option maxHeartbeats 0 in
/-- The closure that looks for room: there is some. -/
theorem ins2_s {H : Heap} {nx bc t to n : Nat} {s : SV} {p it x0 p' : List UInt8} {slot : Nat} {a0 a1 : Int} (hbc : H.at' bc = some (bsO s)) (hs : BsIs H s (byV it)) (hp : p.length = 1024) (ht : H.at' t = some (tidO a0 a1)) (hto : H.at' to = some (pgO x0)) (hx0 : x0.length = 1024) (hne : t ≠ to) (hit : it.length ≤ 1000)
    (hroom : it.length ≤ roomE p) (hins : insP p it = (p', slot, 0)) (hp' : p'.length = 1024) : Fnc Try.prog 26 [.sc (.int .i64 (n : Int)), .agg (pgS p), .ptr bc 0, .ptr t 0, .ptr to 0] H nx
    (fun q => q.1 = .tup [.sc (.bool true), .sc (.int .i64 0)] ∧ q.2.1.at' t = some (tidO n slot) ∧ q.2.1.at' to = some (pgO p') ∧ nx ≤ q.2.2 ∧ ∀ m, m < nx → m ≠ t → m ≠ to → q.2.1.at' m = H.at' m) := by
  refine Fnc.start Try.func26 rfl rfl ?_
  refine y_under fun hund => ?_
  have l1 := hund _ _ hbc
  have l2 := hund _ _ ht
  have l3 := hund _ _ hto
  have hs1 : BsIs (H.set nx (pgO p)) s (byV it) := hs.frame fun b vo hb => (Tr.at_set_other _ _ (by have := hund b vo hb; omega)).trans hb
  have hbc1 : (H.set nx (pgO p)).at' bc = some (bsO s) := by (focus ((repeat (first | assumption | refine (Tr.at_set_other _ _ (by omega)).trans ?_)); done))
  have ht1 : (H.set nx (pgO p)).at' t = some (tidO a0 a1) := by (focus ((repeat (first | assumption | refine (Tr.at_set_other _ _ (by omega)).trans ?_)); done))
  have hto1 : (H.set nx (pgO p)).at' to = some (pgO x0) := by (focus ((repeat (first | assumption | refine (Tr.at_set_other _ _ (by omega)).trans ?_)); done))
  have hb1 : (H.set nx (pgO p)).at' nx = some (pgO p) := Tr.at_set_same _ _ _
  have ho1 : ∀ m, m < nx → (H.set nx (pgO p)).at' m = H.at' m := fun m hm => by (focus ((repeat (refine (Tr.at_set_other _ _ (by omega)).trans ?_)); exact rfl))
  (repeat (first | refine y_seq ?_ | refine w_region ?_ | refine y_regEnd ?_ | (apply w_assign; exact rfl; exact rfl; exact rfl) | (apply w_boxN; exact rfl; exact rfl; exact rfl)))
  generalize H.set nx (pgO p) = H1 at hs1 hbc1 ht1 hto1 hb1 ho1 ⊢
  have hbl := by_len it
  (apply w_drawE; (focus (kernel_rfl)); (focus (kernel_rfl)))
  (repeat (first | (refine dw_loadBN rfl rfl rfl (F.ag _ rfl) hb1 (pgS_len hp) ?_) | ((apply dk_call; exact rfl; exact rfl; exact rfl; (focus (kernel_rfl)); exact (Room_s hp))) | (refine dw_loadB1 rfl rfl rfl (F.ag _ rfl) hbc1 rfl ?_) | (apply dk_read; exact rfl; exact rfl; exact (fun _ h => by cases h); exact (rd_lenB (F.un _ rfl) rfl hs1)) | (refine dw_lssS rfl rfl rfl rfl (fun hq => absurd hq (by omega)) (fun _ => ?_))))
  (refine dk_nil ?_); (refine ⟨by kernel_rfl, ?_, ?_⟩); (focus (repeat (first | exact trivial | refine ⟨.inl (chk_chain rfl), ?_⟩ | refine ⟨.inr ⟨0, by kernel_rfl, (by (refine ⟨(by first | exact rd_load1 (F.ag _ rfl) rfl (by (focus ((repeat (assumption)); done))) (cell_box rfl) | exact rd_loadN (F.ag _ rfl) rfl hb1 (box_pg hp) | exact rd_lenB (F.un _ rfl) rfl hs1), ?_⟩; (repeat (refine ⟨(by first | exact rd_load1 (F.ag _ rfl) rfl (by (focus ((repeat (assumption)); done))) (cell_box rfl) | exact rd_loadN (F.ag _ rfl) rfl hb1 (box_pg hp) | exact rd_lenB (F.un _ rfl) rfl hs1), ?_⟩)); exact trivial))⟩, ?_⟩ | refine ⟨.inl (by kernel_rfl), ?_⟩)))
  have hi1 := insert_s (nx := nx + 1) hp hs1 (by omega)
  rw [hins] at hi1
  (repeat (first | (apply w_loadBN; (exact rfl); (exact rfl); (exact rfl); (exact F.ag _ rfl); (focus ((focus ((repeat (assumption)); done)))); (exact pgS_len hp)) | (apply w_storeN; (exact rfl); (exact rfl); (exact rfl); (exact F.sz _ rfl); (focus ((focus ((repeat (exact Tr.at_set_same _ _ _)); done)))); (exact pgS_len hp'); (rw [pgS_len zeroP_len]; exact Nat.le_refl _); (exact one_pg _); (exact seg_pg _ _ zeroP_len hp')) | (refine w_alloc rfl rfl zPage ?_) | (first | refine y_seq ?_ | refine w_region ?_ | refine y_regEnd ?_ | refine y_skip ?_ | refine y_condF rfl ?_ | (apply w_move; exact rfl; exact rfl; exact rfl) | (apply w_assign; exact rfl; exact rfl; exact rfl) | (apply w_extract; exact rfl; exact rfl; exact rfl; exact rfl) | refine w_loadB1 rfl rfl rfl (F.ag _ rfl) (by (focus ((repeat (assumption)); done))) (by exact rfl) ?_) | (refine w_call rfl rfl rfl (by kernel_rfl) (Fnc.mono (hi1) ?_); rintro _ rfl; dsimp only) | (refine w_neqS rfl rfl rfl rfl (fun hq => absurd rfl hq) (fun _ => ?_))))
  have hb2 : ((H1.set (nx + 1) (pgO zeroP)).set (nx + 1) (pgO p')).at' (nx + 1) = some (pgO p') := Tr.at_set_same _ _ _
  have ht2 : ((H1.set (nx + 1) (pgO zeroP)).set (nx + 1) (pgO p')).at' t = some (tidO a0 a1) := by (focus ((repeat (first | assumption | refine (Tr.at_set_other _ _ (by omega)).trans ?_)); done))
  have hto2 : ((H1.set (nx + 1) (pgO zeroP)).set (nx + 1) (pgO p')).at' to = some (pgO x0) := by (focus ((repeat (first | assumption | refine (Tr.at_set_other _ _ (by omega)).trans ?_)); done))
  have ho2 : ∀ m, m < nx → ((H1.set (nx + 1) (pgO zeroP)).set (nx + 1) (pgO p')).at' m = H.at' m := fun m hm => (Tr.at_set_other _ _ (by omega)).trans ((Tr.at_set_other _ _ (by omega)).trans (ho1 m hm))
  generalize (H1.set (nx + 1) (pgO zeroP)).set (nx + 1) (pgO p') = H2 at hb2 ht2 hto2 ho2 ⊢
  (apply w_drawE; (focus (kernel_rfl)); (focus (kernel_rfl)))
  (repeat (first | (refine dw_loadBN rfl rfl rfl (F.ag _ rfl) hb2 (pgS_len hp') ?_) | (refine dw_storeN rfl rfl rfl (F.sz _ rfl) ht2 rfl (by exact Nat.le_of_ble_eq_true rfl) rfl rfl ?_) | ((apply dw_storeN; exact rfl; exact rfl; exact rfl; exact (F.sz _ rfl); exact ((Tr.at_set_other _ _ (Ne.symm hne)).trans hto2); exact (pgS_len hp'); (focus (rw [pgS_len hx0]; exact Nat.le_refl _)); exact (one_pg _); exact (seg_pg _ _ hx0 hp'))) | (first | (apply dw_move; exact rfl; exact rfl; exact rfl) | (apply dw_build; exact rfl; exact rfl; exact rfl; exact (F.ze _ rfl); exact (F.pl _ rfl); exact rfl))))
  (refine dk_nil ?_); (refine ⟨by kernel_rfl, ?_, ?_⟩); (focus (repeat (first | exact trivial | refine ⟨.inl (chk_chain rfl), ?_⟩ | refine ⟨.inr ⟨0, by kernel_rfl, AllH.all (fun _ => (by first | exact rd_move rfl | exact rd_build rfl (F.ze _ rfl) (F.pl _ rfl) rfl)) _⟩, ?_⟩ | refine ⟨.inr ⟨0, by kernel_rfl, (by (refine ⟨(by (exact rd_loadN (F.ag _ rfl) rfl (by (focus ((repeat (first | assumption | refine (Tr.at_set_other _ _ (by omega)).trans ?_)); done))) (box_pg hp'))), ?_⟩; (repeat (refine ⟨(by (exact rd_loadN (F.ag _ rfl) rfl (by (focus ((repeat (first | assumption | refine (Tr.at_set_other _ _ (by omega)).trans ?_)); done))) (box_pg hp'))), ?_⟩)); exact trivial))⟩, ?_⟩)))
  (repeat (first | refine y_seq ?_ | refine w_region ?_ | refine y_regEnd ?_ | (apply w_assign; exact rfl; exact rfl; exact rfl)))
  ((apply w_ret Try.func26 (congrArg Array.toList Try.results26)); (focus (repeat (first | exact ResIs.nil | apply ResIs.tmp rfl))))
  refine ⟨rfl, (Tr.at_set_other _ _ hne).trans (Tr.at_set_same _ _ _), Tr.at_set_same _ _ _, by dsimp only; omega, fun m h1 h2 h3 => (Tr.at_set_other _ _ h3).trans ((Tr.at_set_other _ _ h2).trans (ho2 m h1))⟩
abbrev insF (bc t to : Nat) : SV := .fn (.func 26) [] [.ptr bc 0, .ptr t 0, .ptr to 0]
set_option maxRecDepth 100000 in
set_option maxHeartbeats 0 in
/-- .. of the first page. -/
theorem each_one {H : Heap} {nx b bc t to : Nat} {s : SV} {mem p it x0 p' : List UInt8} {slot : Nat} {a0 a1 left puts : Int} (hb : H.at' b = some (pgsO mem left puts)) (hm : mem.length = 131072) (hbc : H.at' bc = some (bsO s)) (hs : BsIs H s (byV it)) (hp : p.length = 1024) (ht : H.at' t = some (tidO a0 a1)) (hto : H.at' to = some (pgO x0)) (hx0 : x0.length = 1024) (hne : t ≠ to) (hit : it.length ≤ 1000)
    (hread : readP (pageN mem 32) = (p, 0)) (hroom : it.length ≤ roomE p) (hins : insP p it = (p', slot, 0)) (hp' : p'.length = 1024) : Fnc Try.prog 25 [stoS b, insF bc t to] H nx
    (fun q => q.1 = .sc (.int .i64 0) ∧ q.2.1.at' t = some (tidO 32 slot) ∧ q.2.1.at' to = some (pgO p') ∧ nx ≤ q.2.2 ∧ ∀ m, m < nx → m ≠ t → m ≠ to → q.2.1.at' m = H.at' m) := by
  refine Fnc.start Try.func25 rfl rfl ?_
  refine y_under fun hund => ?_
  have l1 := hund _ _ hbc
  have l2 := hund _ _ ht
  have l3 := hund _ _ hto
  have hrd := read_p (nx := nx) (n := 32) hb hm (by decide)
  rw [hread] at hrd
  (repeat (first | refine y_seq ?_ | refine w_region ?_ | refine y_regEnd ?_ | refine y_block ?_ | (apply w_assign; exact rfl; exact rfl; exact rfl)))
  refine y_unroll ?_
  (repeat (first | (apply w_storeN; (exact rfl); (exact rfl); (exact rfl); (exact F.sz _ rfl); (focus ((focus ((repeat (exact Tr.at_set_same _ _ _)); done)))); (exact pgS_len hp); (rw [pgS_len zeroP_len]; exact Nat.le_refl _); (exact one_pg _); (exact seg_pg _ _ zeroP_len hp)) | (refine w_alloc rfl rfl zPage ?_) | (first | refine y_seq ?_ | refine w_region ?_ | refine y_regEnd ?_ | refine y_block ?_ | refine y_skip ?_ | refine y_condT rfl ?_ | refine y_condF rfl ?_ | (apply w_move; exact rfl; exact rfl; exact rfl) | (apply w_assign; exact rfl; exact rfl; exact rfl) | (apply w_extract; exact rfl; exact rfl; exact rfl; exact rfl)) | (refine w_lssS rfl rfl rfl rfl (fun _ => ?_) (fun hq => absurd hq (by decide))) | (refine w_call rfl rfl rfl (by kernel_rfl) (Fnc.mono (hrd) ?_); rintro _ rfl; dsimp only) | (refine w_neqS rfl rfl rfl rfl (fun hq => absurd rfl hq) (fun _ => ?_))))
  have h0 : ∀ m, m < nx → ((H.set nx (pgO zeroP)).set nx (pgO p)).at' m = H.at' m := fun m hm => (Tr.at_set_other _ _ (by omega)).trans (Tr.at_set_other _ _ (by omega))
  have hb6 : ((H.set nx (pgO zeroP)).set nx (pgO p)).at' nx = some (pgO p) := Tr.at_set_same _ _ _
  generalize (H.set nx (pgO zeroP)).set nx (pgO p) = H1 at h0 hb6 ⊢
  (repeat (apply w_loadBN; (exact rfl); (exact rfl); (exact rfl); (exact F.ag _ rfl); (focus ((focus ((repeat (assumption)); done)))); (exact pgS_len hp)))
  refine w_callF rfl rfl rfl rfl (by kernel_rfl) (Fnc.mono (ins2_s (n := 32) ((h0 _ l1).trans hbc) (hs.frame fun b' vo hb' => (h0 _ (hund _ _ hb')).trans hb') hp ((h0 _ l2).trans ht) ((h0 _ l3).trans hto) hx0 hne hit hroom hins hp') ?_)
  rintro ⟨_, H2, n2⟩ ⟨rfl, g1, g2, g3, g4⟩
  dsimp only at g1 g2 g3 g4 ⊢
  (repeat (first | refine y_seq ?_ | refine w_region ?_ | refine y_regEnd ?_ | refine y_condT rfl ?_ | (apply w_move; exact rfl; exact rfl; exact rfl) | (apply w_assign; exact rfl; exact rfl; exact rfl) | (apply w_pickT; exact rfl; exact rfl; exact rfl; exact rfl) | (apply w_extract; exact rfl; exact rfl; exact rfl; exact rfl) | (apply w_not; exact rfl)))
  ((apply w_ret Try.func25 (congrArg Array.toList Try.results25)); (focus (repeat (first | exact ResIs.nil | apply ResIs.tmp rfl))))
  exact ⟨rfl, g1, g2, by dsimp only; omega, fun m h1 h2 h3 => (g4 m (by omega) h2 h3).trans (h0 m h1)⟩
theorem ins1_s {H : Heap} {nx a b : Nat} : Fnc Try.prog 24 [.ptr a 0, .ptr b 0] H nx (fun q => q = (.tup [], H, nx)) := by
  refine Fnc.start Try.func24 rfl rfl ?_
  (repeat (first | (first | refine y_seq ?_ | refine w_region ?_ | refine y_regEnd ?_ | refine y_skip ?_ | refine y_condF rfl ?_) | ((apply w_recover; exact rfl; exact rfl)) | (refine w_noNilI rfl rfl rfl Try.underlying20 ?_)))
  ((apply w_end Try.func24 (congrArg Array.toList Try.results24)); (focus (repeat (exact ResIs.nil))))
  rfl
set_option maxRecDepth 100000 in
set_option maxHeartbeats 0 in
theorem insert_one {H : Heap} {nx b : Nat} {s : SV} {v : VerT} {mem p p' : List UInt8} {slot : Nat} {left puts : Int} (hb : H.at' b = some (pgsO mem left puts)) (hm : mem.length = 131072) (hv : VerIs H s v) (hmay : mayV v = true) (hp : p.length = 1024) (hleft : left ≠ 0) (hl2 : -1000000000 ≤ left ∧ left ≤ 1000000000) (hputs : -1000000000 ≤ puts ∧ puts ≤ 1000000000)
    (hread : readP (pageN mem 32) = (p, 0)) (hroom : (bytesV v).length ≤ roomE p) (hins : insP p (bytesV v) = (p', slot, 0)) (hp' : p'.length = 1024) : Fnc Try.prog 12 [stoS b, s] H nx
    (fun q => q.1 = .tup [.agg [.sc (.int .i64 32), .sc (.int .i64 (slot : Int))], .sc (.int .i64 0)] ∧ q.2.1.at' b = some (pgsO (setN mem 32 p') (left - 1) (puts + 1)) ∧ nx ≤ q.2.2 ∧ ∀ m, m < nx → m ≠ b → q.2.1.at' m = H.at' m) := by
  have hv0 := hv
  obtain ⟨k, w, rfl, hk, hw⟩ := hv
  have hbl := bytesV_len v
  have hmd := of_decide_eq_true hmay
  refine Fnc.start Try.func12 rfl rfl ?_
  refine y_under fun hund => ?_
  have lb := hund _ _ hb
  (repeat (first | (first | refine y_seq ?_ | refine w_region ?_ | refine y_regEnd ?_ | (apply w_move; exact rfl; exact rfl; exact rfl) | (apply w_makeFunc; exact rfl; exact rfl; exact rfl; exact rfl) | (apply w_alloc; exact rfl; exact rfl; exact (F.zl _ rfl)) | (apply w_boxN; exact rfl; exact rfl; exact rfl)) | ((apply w_defer; exact rfl; exact rfl; exact rfl; (focus (kernel_rfl))))))
  have hvb : ((H.set nx (verO (verC k w v.2.2.1 v.2.2.2))).set (nx + 1) (tidO 0 0)).set (nx + 1 + 1) (errO 0) = ((H.set nx (verO (verC k w v.2.2.1 v.2.2.2))).set (nx + 1) (tidO 0 0)).set (nx + 1 + 1) (errO 0) := rfl
  have a3 : (((H.set nx (verO (verC k w v.2.2.1 v.2.2.2))).set (nx + 1) (tidO 0 0)).set (nx + 1 + 1) (errO 0)).at' nx = some (verO (verC k w v.2.2.1 v.2.2.2)) := by (focus ((repeat (first | exact Tr.at_set_same _ _ _ | refine (Tr.at_set_other _ _ (by omega)).trans ?_)); done))
  have a4 : (((H.set nx (verO (verC k w v.2.2.1 v.2.2.2))).set (nx + 1) (tidO 0 0)).set (nx + 1 + 1) (errO 0)).at' (nx + 1) = some (tidO 0 0) := by (focus ((repeat (first | exact Tr.at_set_same _ _ _ | refine (Tr.at_set_other _ _ (by omega)).trans ?_)); done))
  have a5 : (((H.set nx (verO (verC k w v.2.2.1 v.2.2.2))).set (nx + 1) (tidO 0 0)).set (nx + 1 + 1) (errO 0)).at' (nx + 1 + 1) = some (errO 0) := by (focus ((repeat (exact Tr.at_set_same _ _ _)); done))
  have ao : ∀ m, m < nx → (((H.set nx (verO (verC k w v.2.2.1 v.2.2.2))).set (nx + 1) (tidO 0 0)).set (nx + 1 + 1) (errO 0)).at' m = H.at' m := fun m hm => by (focus ((repeat (refine (Tr.at_set_other _ _ (by omega)).trans ?_)); exact rfl))
  generalize ((H.set nx (verO (verC k w v.2.2.1 v.2.2.2))).set (nx + 1) (tidO 0 0)).set (nx + 1 + 1) (errO 0) = H1 at a3 a4 a5 ao ⊢
  clear hvb
  (repeat (first | (first | refine y_seq ?_ | refine w_region ?_ | refine y_regEnd ?_ | refine y_skip ?_ | refine y_condF rfl ?_ | refine w_loadBN rfl rfl rfl (F.ag _ rfl) (by (focus ((repeat (assumption)); done))) (by exact rfl) ?_) | (refine w_eqNil rfl rfl rfl rfl Try.underlying61 rfl ?_)))
  refine w_call rfl rfl rfl (by kernel_rfl) (Fnc.mono (bytes_s (hv0.frame fun b' vo hb' => (ao _ (hund _ _ hb')).trans hb') hmay) ?_)
  rintro ⟨_, H2, n2⟩ ⟨r, rfl, b1, b2, b3, b4⟩
  dsimp only at b1 b3 b4 ⊢
  have b5 := (b4 _ (show nx + 1 + 1 < nx + 1 + 1 + 1 by omega)).trans a5
  have b6 := (b4 _ (show nx + 1 < nx + 1 + 1 + 1 by omega)).trans a4
  have bo : ∀ m, m < nx → H2.at' m = H.at' m := fun m hm => (b4 m (by omega)).trans (ao m hm)
  clear a3 a4 a5 ao b4
  (repeat (first | (refine w_alloc rfl rfl zPage ?_) | (first | refine y_seq ?_ | refine w_region ?_ | refine y_regEnd ?_ | refine y_skip ?_ | refine y_condF rfl ?_ | (apply w_move; exact rfl; exact rfl; exact rfl) | (apply w_extract; exact rfl; exact rfl; exact rfl; exact rfl) | (apply w_makeFunc; exact rfl; exact rfl; exact rfl; exact rfl) | refine w_storeC rfl rfl rfl rfl (F.sz _ rfl) (by (focus ((repeat (first | assumption | exact Tr.at_set_same _ _ _ | refine (Tr.at_set_other _ _ (by omega)).trans ?_)); done))) rfl (by exact Nat.le_of_ble_eq_true rfl) rfl ?_ | (apply w_alloc; exact rfl; exact rfl; exact (F.zl _ rfl)) | refine w_loadB1 rfl rfl rfl (F.ag _ rfl) (by (focus ((repeat (first | assumption | exact Tr.at_set_same _ _ _)); done))) (by exact rfl) ?_) | (refine w_neqS rfl rfl rfl rfl (fun hq => absurd rfl hq) (fun _ => ?_))))
  refine y_under fun hund3 => ?_
  refine w_call rfl rfl rfl (by kernel_rfl) (Fnc.mono (each_one (t := nx + 1) (to := n2 + 1) (bc := n2) (by (focus ((repeat (refine (Tr.at_set_other _ _ (by omega)).trans ?_)); exact (bo b lb).trans hb))) hm (by (focus ((repeat (first | exact Tr.at_set_same _ _ _ | refine (Tr.at_set_other _ _ (by omega)).trans ?_)); done))) (row_bs (by (focus ((repeat (refine (Tr.at_set_other _ _ (by omega)).trans ?_)); exact b1)))) hp (by (focus ((repeat (first | assumption | refine (Tr.at_set_other _ _ (by omega)).trans ?_)); done))) (by (focus ((repeat (exact Tr.at_set_same _ _ _)); done))) zeroP_len (by omega) (by omega) hread hroom hins hp') ?_)
  rintro ⟨_, H4, n4⟩ ⟨rfl, c1, c2, c3, c4⟩
  dsimp only at c1 c2 c3 c4 ⊢
  have c5 : H4.at' (nx + 1 + 1) = some (errO 0) := (c4 _ (by omega) (by omega) (by omega)).trans (by (focus ((repeat (first | exact Tr.at_set_same _ _ _ | refine (Tr.at_set_other _ _ (by omega)).trans ?_)); done)))
  have cb : H4.at' b = some (pgsO mem left puts) := (c4 _ (by omega) (by omega) (by omega)).trans (by (focus ((repeat (refine (Tr.at_set_other _ _ (by omega)).trans ?_)); exact (bo b lb).trans hb)))
  have co : ∀ m, m < nx → H4.at' m = H.at' m := fun m hm => (c4 _ (by omega) (by omega) (by omega)).trans (by (focus ((repeat (refine (Tr.at_set_other _ _ (by omega)).trans ?_)); exact bo m hm)))
  clear c4 b1 b5 b6 bo hund3
  (repeat (first | (apply w_loadBN; (exact rfl); (exact rfl); (exact rfl); (exact F.ag _ rfl); (focus ((focus ((repeat (first | assumption | refine (Tr.at_set_other _ _ (by omega)).trans ?_)); done)))); (exact pgS_len hp')) | (first | refine y_seq ?_ | refine w_region ?_ | refine y_regEnd ?_ | refine y_skip ?_ | refine y_condT rfl ?_ | refine y_condF rfl ?_ | (apply w_move; exact rfl; exact rfl; exact rfl) | (apply w_pickT; exact rfl; exact rfl; exact rfl; exact rfl) | (apply w_fieldAddr; exact rfl; exact rfl; exact rfl; exact (F.fo _ _ rfl rfl)) | refine w_storeC rfl rfl rfl rfl (F.sz _ rfl) (by (focus ((repeat (assumption)); done))) rfl (by exact Nat.le_of_ble_eq_true rfl) rfl ?_ | refine w_loadB1 rfl rfl rfl (F.ag _ rfl) (by (focus ((repeat (first | assumption | exact Tr.at_set_same _ _ _ | refine (Tr.at_set_other _ _ (by omega)).trans ?_)); done))) (by exact rfl) ?_) | (refine w_eqlS rfl rfl rfl rfl (fun hq => absurd hq (by decide)) (fun _ => ?_)) | (refine w_eqlS rfl rfl rfl rfl (fun _ => ?_) (fun hq => absurd rfl hq))))
  refine w_invoke 73 rfl rfl rfl rfl (by kernel_rfl) (Fnc.mono (put_pg (n := 32) (by (focus ((repeat (first | assumption | refine (Tr.at_set_other _ _ (by omega)).trans ?_)); done))) hm (by decide) hp' hleft hl2 hputs) ?_)
  rintro ⟨_, H5, n5⟩ ⟨rfl, d1, d2, d3⟩
  dsimp only at d1 d2 d3 ⊢
  have d4 : H5.at' (nx + 1) = some (tidO 32 slot) := (d3 _ (by omega) (by omega)).trans (by (focus ((repeat (first | assumption | refine (Tr.at_set_other _ _ (by omega)).trans ?_)); done)))
  have d5 : H5.at' (nx + 1 + 1) = some (errO 0) := (d3 _ (by omega) (by omega)).trans (by (focus ((repeat (exact Tr.at_set_same _ _ _)); done)))
  have dold : ∀ m, m < nx → m ≠ b → H5.at' m = H.at' m := fun m hm hmb => (d3 _ (by omega) hmb).trans (by (focus ((repeat (refine (Tr.at_set_other _ _ (by omega)).trans ?_)); exact co m hm)))
  clear c1 c2 c5 cb co d3
  (repeat (first | (first | refine y_seq ?_ | refine w_region ?_ | refine y_regEnd ?_ | refine y_skip ?_ | refine y_condF rfl ?_ | refine w_storeC rfl rfl rfl rfl (F.sz _ rfl) (by (focus ((repeat (first | assumption | exact Tr.at_set_same _ _ _ | refine (Tr.at_set_other _ _ (by omega)).trans ?_)); done))) rfl (by exact Nat.le_of_ble_eq_true rfl) rfl ?_ | refine w_loadB1 rfl rfl rfl (F.ag _ rfl) (by (focus ((repeat (first | assumption | exact Tr.at_set_same _ _ _ | refine (Tr.at_set_other _ _ (by omega)).trans ?_)); done))) (by exact rfl) ?_ | refine w_loadBN rfl rfl rfl (F.ag _ rfl) (by (focus ((repeat (first | assumption | refine (Tr.at_set_other _ _ (by omega)).trans ?_)); done))) (by exact rfl) ?_) | (refine w_neqS rfl rfl rfl rfl (fun hq => absurd rfl hq) (fun _ => ?_))))
  refine y_retC Try.func12 (congrArg Array.toList Try.results12) (by kernel_rfl) (Fnc.mono ins1_s ?_)
  rintro _ rfl
  refine ⟨_, (by (repeat (first | exact ResIs.nil | apply ResIs.cell rfl (LoadIs.one (F.ag _ rfl) (by (focus ((repeat (first | exact Tr.at_set_same _ _ _ | refine (Tr.at_set_other _ _ (by omega)).trans ?_)); done))) (cell_box rfl)) | apply ResIs.cell rfl (LoadIs.many (F.ag _ rfl) (by (focus ((repeat (first | exact Tr.at_set_same _ _ _ | refine (Tr.at_set_other _ _ (by omega)).trans ?_)); done))) (cellsFrom_box _ 0 rfl rfl))))), ?_⟩
  dsimp only
  exact ⟨rfl, by (focus ((repeat (refine (Tr.at_set_other _ _ (by omega)).trans ?_)); exact d1)), by omega, fun m h1 h2 => by (focus ((repeat (refine (Tr.at_set_other _ _ (by omega)).trans ?_)); exact dold m h1 h2))⟩
end Go.Proofs.Ytdpjbpnemjdhfaa
end
section
namespace Go.Proofs.Ytdpjbpnemjdhfaa
open Go Go.Sy Go.Sl Go.RowKit
set_option maxRecDepth 100000 in
set_option maxHeartbeats 0 in
theorem item_ok {H : Heap} {nx n : Nat} {p : List UInt8} (hp : p.length = 1024) (hr : rightP p = true) (hn : n < slotsP p) (hs : sizeP p n ≠ 0) : Fnc Try.prog 33 [.agg (pgS p), .sc (.int .i64 (n : Int))] H nx (fun q => ∃ r, q.1 = .tup [.slu r 0 (itemP p n).length, .sc (.int .i64 0)] ∧ q.2.1.at' r = some (u8R false (byV (itemP p n))) ∧ nx ≤ r ∧ r < q.2.2 ∧ ∀ m, m < nx → q.2.1.at' m = H.at' m) := by
  have hb := right_slots hr hn hs
  have hil := itemP_len hp hb.2.2.2
  have hbl := by_len (itemP p n)
  have hfd : findP p n = (fromP p n, sizeP p n, 0) := by unfold findP; rw [if_neg (by omega), if_neg hs]
  refine Fnc.start Try.func33 rfl rfl ?_
  have hb1 : (H.set nx (pgO p)).at' nx = some (pgO p) := Tr.at_set_same _ _ _
  have hrs := fun nx' => right_s (nx := nx') hb1 hp
  rw [hr] at hrs
  have hfs : ∀ nx', Fnc Try.prog 51 [.ptr nx 0, .sc (.int .i64 (n : Int))] (H.set nx (pgO p)) nx' (fun q => q = (.tup [.sc (.int .i64 (fromP p n : Int)), .sc (.int .i64 (sizeP p n : Int)), .sc (.int .i64 0)], H.set nx (pgO p), nx')) := fun nx' => by
    have := find_s (nx := nx') (n := n) hb1 (fits_right hp hr)
    rw [hfd] at this
    exact this
  (repeat (first | (first | refine y_seq ?_ | refine w_region ?_ | refine y_regEnd ?_ | refine y_skip ?_ | refine y_condF rfl ?_ | (apply w_move; exact rfl; exact rfl; exact rfl) | (apply w_assign; exact rfl; exact rfl; exact rfl) | (apply w_extract; exact rfl; exact rfl; exact rfl; exact rfl) | (apply w_boxN; exact rfl; exact rfl; exact rfl) | (apply w_add; exact rfl; exact rfl; exact rfl; exact rfl; (focus (omega)); (focus (omega))) | (apply w_notB; exact rfl; exact rfl; exact rfl)) | (refine w_call rfl rfl rfl (by kernel_rfl) (Fnc.mono (hrs _) ?_); rintro _ rfl; dsimp only) | (refine w_lssS rfl rfl rfl rfl (fun hq => absurd hq (by omega)) (fun _ => ?_)) | (refine w_call rfl rfl rfl (by kernel_rfl) (Fnc.mono (hfs _) ?_); rintro _ rfl; dsimp only) | (refine w_neqS rfl rfl rfl rfl (fun hq => absurd rfl hq) (fun _ => ?_)) | ((apply w_cutA (lw := fromP p n) (hg := fromP p n + sizeP p n); exact rfl; exact rfl; exact rfl; exact (F.un _ rfl); exact (F.sz _ rfl); exact rfl; exact rfl; (focus (omega)); (focus (omega)); (focus (omega)); exact (show fromP p n + sizeP p n - fromP p n = sizeP p n by omega); exact rfl; exact (Nat.zero_add _))) | (apply w_buildSlice; exact rfl; exact rfl; exact (F.un _ rfl); exact (F.sz _ rfl); exact rfl; exact (F.ze _ rfl); exact rfl; exact rfl; exact rfl; exact rfl; exact rfl)))
  refine w_call rfl rfl rfl (by kernel_rfl) (Fnc.mono (join_s (bs := [byV (itemP p n)]) (ls := [.sl nx (fromP p n) (sizeP p n) (1024 - fromP p n)]) (Tr.at_set_same _ _ _) (LsIs.cons (bs_part (b := nx) (p := p) (o := fromP p n) (m := sizeP p n) ((Tr.at_set_other _ _ (Nat.ne_of_lt (Nat.lt_succ_self _))).trans hb1) (by omega)) (LsIs.nil _)) (by show (byV (itemP p n) ++ []).length ≤ _; rw [List.append_nil]; omega) (Nat.le_of_ble_eq_true rfl)) ?_)
  rintro _ rfl
  dsimp only
  have hfl : [byV (itemP p n)].flatten = byV (itemP p n) := List.append_nil _
  rw [hfl, by_len]
  (repeat (first | refine y_regEnd ?_ | (apply w_assign; exact rfl; exact rfl; exact rfl)))
  ((apply w_ret Try.func33 (congrArg Array.toList Try.results33)); (focus (repeat (first | exact ResIs.nil | apply ResIs.tmp rfl))))
  exact ⟨nx + 1 + 1, rfl, Tr.at_set_same _ _ _, by omega, Nat.lt_succ_self _, fun m hm => by (focus ((repeat (refine (Tr.at_set_other _ _ (by omega)).trans ?_)); exact rfl))⟩
theorem may_tid {H : Heap} {nx n k : Nat} (h1 : 32 ≤ n) (h2 : n < 128) : Fnc Try.prog 31 [.agg [.sc (.int .i64 (n : Int)), .sc (.int .i64 (k : Int))]] H nx (fun q => q = (.sc (.bool true), H, nx)) := by
  refine Fnc.forgetV (Free.sc _) ?_
  refine Fnc.start Try.func31 rfl rfl ?_
  (repeat (first | (first | refine y_seq ?_ | refine w_region ?_ | refine y_regEnd ?_ | (apply w_move; exact rfl; exact rfl; exact rfl) | (apply w_assign; exact rfl; exact rfl; exact rfl) | (apply w_pickT; exact rfl; exact rfl; exact rfl; exact rfl) | (apply w_fieldAddr; exact rfl; exact rfl; exact rfl; exact (F.fo _ _ rfl rfl)) | (apply w_boxN; exact rfl; exact rfl; exact rfl) | refine w_loadB1 rfl rfl rfl (F.ag _ rfl) (by (focus ((repeat (exact Tr.at_set_same _ _ _)); done))) (by exact rfl) ?_) | (refine w_geqS rfl rfl rfl rfl (fun _ => ?_) (fun hq => absurd hq (by omega))) | (refine w_lssS rfl rfl rfl rfl (fun _ => ?_) (fun hq => absurd hq (by omega)))))
  ((apply w_ret Try.func31 (congrArg Array.toList Try.results31)); (focus (repeat (first | exact ResIs.nil | apply ResIs.tmp rfl))))
  exact ⟨rfl, Nat.le_succ _, fun m hm => Tr.at_set_other _ _ (by omega)⟩
theorem get1_s {H : Heap} {nx a b : Nat} : Fnc Try.prog 30 [.ptr a 0, .ptr b 0] H nx (fun q => q = (.tup [], H, nx)) := by
  refine Fnc.start Try.func30 rfl rfl ?_
  (repeat (first | (first | refine y_seq ?_ | refine w_region ?_ | refine y_regEnd ?_ | refine y_skip ?_ | refine y_condF rfl ?_) | ((apply w_recover; exact rfl; exact rfl)) | (refine w_noNilI rfl rfl rfl Try.underlying20 ?_)))
  ((apply w_end Try.func30 (congrArg Array.toList Try.results30)); (focus (repeat (exact ResIs.nil))))
  rfl
set_option maxRecDepth 100000 in
set_option maxHeartbeats 0 in
theorem get_one {H : Heap} {nx b n k : Nat} {v : VerT} {mem p : List UInt8} {left puts : Int} (hb : H.at' b = some (pgsO mem left puts)) (hm : mem.length = 131072) (hp : p.length = 1024) (h1 : 32 ≤ n) (h2 : n < 128) (hread : readP (pageN mem n) = (p, 0)) (hr : rightP p = true) (hn : k < slotsP p) (hs : sizeP p k ≠ 0) (hof : ofV (itemP p k) = some v) : Fnc Try.prog 14 [stoS b, .agg [.sc (.int .i64 (n : Int)), .sc (.int .i64 (k : Int))]] H nx
    (fun q => ∃ s' r, q.1 = .tup [s', .sc (.int .i64 0)] ∧ VerAt q.2.1 s' r v ∧ nx ≤ r ∧ nx ≤ q.2.2 ∧ ∀ m, m < nx → q.2.1.at' m = H.at' m) := by
  refine Fnc.start Try.func14 rfl rfl ?_
  refine y_under fun hund => ?_
  have lb := hund _ _ hb
  have hil : (itemP p k).length ≤ 1024 := by unfold itemP; rw [List.length_take, List.length_drop]; omega
  (repeat (first | (first | refine y_seq ?_ | refine w_region ?_ | refine y_regEnd ?_ | refine y_skip ?_ | refine y_condF rfl ?_ | (apply w_move; exact rfl; exact rfl; exact rfl) | (apply w_fieldAddr; exact rfl; exact rfl; exact rfl; exact (F.fo _ _ rfl rfl)) | (apply w_makeFunc; exact rfl; exact rfl; exact rfl; exact rfl) | (apply w_alloc; exact rfl; exact rfl; exact (F.zl _ rfl)) | (apply w_boxN; exact rfl; exact rfl; exact rfl) | refine w_loadB1 rfl rfl rfl (F.ag _ rfl) (by (focus ((repeat (first | assumption | exact Tr.at_set_same _ _ _ | refine (Tr.at_set_other _ _ (by omega)).trans ?_)); done))) (by exact rfl) ?_ | refine w_loadBN rfl rfl rfl (F.ag _ rfl) (by (focus ((repeat (first | assumption | exact Tr.at_set_same _ _ _ | refine (Tr.at_set_other _ _ (by omega)).trans ?_)); done))) (by exact rfl) ?_ | (apply w_notB; exact rfl; exact rfl; exact rfl)) | ((apply w_defer; exact rfl; exact rfl; exact rfl; (focus (kernel_rfl)))) | (refine w_eqNil rfl rfl rfl rfl Try.underlying61 rfl ?_) | (refine w_call rfl rfl rfl (by kernel_rfl) (Fnc.mono (may_tid (k := k) h1 h2) ?_); rintro _ rfl; dsimp only)))
  have hrd := fun (H' : Heap) (nx' : Nat) (h : H'.at' b = some (pgsO mem left puts)) => read_p (nx := nx') (n := n) h hm h2
  rw [hread] at hrd
  refine w_call rfl rfl rfl (by kernel_rfl) (Fnc.mono (hrd _ _ (by (focus ((repeat (refine (Tr.at_set_other _ _ (by omega)).trans ?_)); exact hb)))) ?_)
  rintro _ rfl
  dsimp only
  (repeat (first | (apply w_storeN; (exact rfl); (exact rfl); (exact rfl); (exact F.sz _ rfl); (focus ((focus ((repeat (exact Tr.at_set_same _ _ _)); done)))); (exact pgS_len hp); (rw [pgS_len zeroP_len]; exact Nat.le_refl _); (exact one_pg _); (exact seg_pg _ _ zeroP_len hp)) | (refine w_alloc rfl rfl zPage ?_) | (first | refine y_seq ?_ | refine w_region ?_ | refine y_regEnd ?_ | refine y_skip ?_ | refine y_condF rfl ?_ | (apply w_move; exact rfl; exact rfl; exact rfl) | (apply w_extract; exact rfl; exact rfl; exact rfl; exact rfl) | (apply w_fieldAddr; exact rfl; exact rfl; exact rfl; exact (F.fo _ _ rfl rfl)) | refine w_storeC rfl rfl rfl rfl (F.sz _ rfl) (by (focus ((repeat (first | assumption | exact Tr.at_set_same _ _ _ | refine (Tr.at_set_other _ _ (by omega)).trans ?_)); done))) rfl (by exact Nat.le_of_ble_eq_true rfl) rfl ?_ | refine w_loadB1 rfl rfl rfl (F.ag _ rfl) (by (focus ((repeat (first | assumption | exact Tr.at_set_same _ _ _ | refine (Tr.at_set_other _ _ (by omega)).trans ?_)); done))) (by exact rfl) ?_) | (refine w_neqS rfl rfl rfl rfl (fun hq => absurd rfl hq) (fun _ => ?_)) | (apply w_loadBN; (exact rfl); (exact rfl); (exact rfl); (exact F.ag _ rfl); (focus ((focus ((repeat (first | exact Tr.at_set_same _ _ _ | refine (Tr.at_set_other _ _ (by omega)).trans ?_)); done)))); (exact pgS_len hp))))
  refine w_call rfl rfl rfl (by kernel_rfl) (Fnc.mono (item_ok hp hr hn hs) ?_)
  rintro ⟨_, H2, n2⟩ ⟨r, rfl, a1, a2, a3, a4⟩
  dsimp only at a1 a3 a4 ⊢
  have b4 : H2.at' (nx + 1) = some (verO (verC nilS nilS 0 0)) := (a4 _ (by omega)).trans (by (focus ((repeat (first | exact Tr.at_set_same _ _ _ | refine (Tr.at_set_other _ _ (by omega)).trans ?_)); done)))
  have b5 : H2.at' (nx + 1 + 1) = some (errO 0) := (a4 _ (by omega)).trans (by (focus ((repeat (exact Tr.at_set_same _ _ _)); done)))
  have bo : ∀ m, m < nx → H2.at' m = H.at' m := fun m hm => (a4 _ (by omega)).trans (by (focus ((repeat (refine (Tr.at_set_other _ _ (by omega)).trans ?_)); exact rfl)))
  clear a4 hrd
  (repeat (first | (first | refine y_seq ?_ | refine w_region ?_ | refine y_regEnd ?_ | refine y_skip ?_ | refine y_condF rfl ?_ | (apply w_move; exact rfl; exact rfl; exact rfl) | (apply w_assign; exact rfl; exact rfl; exact rfl) | (apply w_extract; exact rfl; exact rfl; exact rfl; exact rfl) | refine w_storeC rfl rfl rfl rfl (F.sz _ rfl) (by (focus ((repeat (assumption)); done))) rfl (by exact Nat.le_of_ble_eq_true rfl) rfl ?_ | refine w_loadB1 rfl rfl rfl (F.ag _ rfl) (by (focus ((repeat (first | assumption | exact Tr.at_set_same _ _ _)); done))) (by exact rfl) ?_) | (refine w_neqS rfl rfl rfl rfl (fun hq => absurd rfl hq) (fun _ => ?_))))
  refine w_call rfl rfl rfl (by kernel_rfl) (Fnc.mono (of_s (row_bs (by (focus ((repeat (refine (Tr.at_set_other _ _ (by omega)).trans ?_)); exact a1)))) (by omega)) ?_)
  rintro ⟨_, H3, n3⟩ ⟨s', r', rfl, c1, cr, c2, c3⟩
  rw [hof] at c1 ⊢
  obtain ⟨k0, w0, rfl, gk, gw⟩ := c1
  dsimp only at gk gw c2 c3 ⊢
  have hone : ∀ x y : Nat, allOne (verC k0 w0 x y) = true := fun x y => by simp only [allOne, bs_one gk.bs, bs_one gw.bs]; rfl
  have d4 : H3.at' (nx + 1) = some (verO (verC nilS nilS 0 0)) := (c3 _ (by omega)).trans (by (focus ((repeat (first | assumption | refine (Tr.at_set_other _ _ (by omega)).trans ?_)); done)))
  have d5 := (c3 (nx + 1 + 1) (by omega)).trans (Tr.at_set_same _ _ _)
  have dold : ∀ m, m < nx → H3.at' m = H.at' m := fun m hm => (c3 _ (by omega)).trans (by (focus ((repeat (refine (Tr.at_set_other _ _ (by omega)).trans ?_)); exact bo m hm)))
  clear c3 b4 b5 bo a1
  (repeat (first | (first | refine y_regEnd ?_ | (apply w_extract; exact rfl; exact rfl; exact rfl; exact rfl) | refine w_storeC rfl rfl rfl rfl (F.sz _ rfl) (by (focus ((repeat (first | assumption | refine (Tr.at_set_other _ _ (by omega)).trans ?_)); done))) rfl (by exact Nat.le_of_ble_eq_true rfl) rfl ?_) | (refine w_storeN rfl rfl rfl (F.sz _ rfl) (by (focus ((repeat (assumption)); done))) rfl (by exact Nat.le_of_ble_eq_true rfl) (hone _ _) rfl ?_)))
  refine y_retC Try.func14 (congrArg Array.toList Try.results14) (by kernel_rfl) (Fnc.mono get1_s ?_)
  rintro _ rfl
  refine ⟨_, (by (repeat (first | exact ResIs.nil | apply ResIs.cell rfl (LoadIs.one (F.ag _ rfl) (by (focus ((repeat (first | exact Tr.at_set_same _ _ _ | refine (Tr.at_set_other _ _ (by omega)).trans ?_)); done))) (cell_box rfl)) | apply ResIs.cell rfl (LoadIs.many (F.ag _ rfl) (by (focus ((repeat (first | exact Tr.at_set_same _ _ _ | refine (Tr.at_set_other _ _ (by omega)).trans ?_)); done))) (cellsFrom_box _ 0 rfl rfl))))), ?_⟩
  dsimp only
  exact ⟨_, r', rfl, ⟨k0, w0, rfl, gk.frame (by (focus ((repeat (refine (Tr.at_set_other _ _ (by omega)).trans ?_)); exact rfl))), gw.frame (by (focus ((repeat (refine (Tr.at_set_other _ _ (by omega)).trans ?_)); exact rfl)))⟩, by omega, by omega, fun m hm => by (focus ((repeat (refine (Tr.at_set_other _ _ (by omega)).trans ?_)); exact dold m hm))⟩
end Go.Proofs.Ytdpjbpnemjdhfaa
end
section
namespace Go.Proofs.Ytdpjbpnemjdhfaa
open Go Go.Sy Go.Sl Go.RowKit
abbrev u8Zv : Value := .int .u8 0
abbrev i64Zv : Value := .int .i64 0
def zt0 : List Value := [u8Zv, u8Zv, u8Zv, u8Zv, u8Zv, u8Zv, u8Zv, u8Zv, u8Zv, u8Zv, u8Zv, u8Zv, u8Zv, u8Zv, u8Zv, u8Zv, u8Zv, u8Zv, u8Zv, u8Zv, u8Zv, u8Zv, u8Zv, u8Zv, u8Zv, u8Zv, u8Zv, u8Zv, u8Zv, u8Zv, u8Zv, u8Zv, u8Zv, u8Zv, u8Zv, u8Zv, u8Zv, u8Zv, u8Zv, u8Zv, u8Zv, u8Zv, u8Zv, u8Zv, u8Zv, u8Zv, u8Zv, u8Zv, u8Zv, u8Zv, u8Zv, u8Zv, u8Zv, u8Zv, u8Zv, u8Zv, u8Zv, u8Zv, u8Zv, u8Zv, u8Zv, u8Zv, u8Zv, u8Zv]
theorem zt0_eq : zt0 = List.replicate 64 u8Zv := rfl
def zt1 : List Value := List.append zt0 zt0
theorem zt1_eq : zt1 = List.replicate 128 u8Zv := by
  show zt0 ++ zt0 = _
  rw [zt0_eq, List.replicate_append_replicate]
def zt2 : List Value := List.append zt1 zt1
theorem zt2_eq : zt2 = List.replicate 256 u8Zv := by
  show zt1 ++ zt1 = _
  rw [zt1_eq, List.replicate_append_replicate]
def zt3 : List Value := List.append zt2 zt2
theorem zt3_eq : zt3 = List.replicate 512 u8Zv := by
  show zt2 ++ zt2 = _
  rw [zt2_eq, List.replicate_append_replicate]
def zt4 : List Value := List.append zt3 zt3
theorem zt4_eq : zt4 = List.replicate 1024 u8Zv := by
  show zt3 ++ zt3 = _
  rw [zt3_eq, List.replicate_append_replicate]
def zt5 : List Value := List.append zt4 zt4
theorem zt5_eq : zt5 = List.replicate 2048 u8Zv := by
  show zt4 ++ zt4 = _
  rw [zt4_eq, List.replicate_append_replicate]
def zt6 : List Value := List.append zt5 zt5
theorem zt6_eq : zt6 = List.replicate 4096 u8Zv := by
  show zt5 ++ zt5 = _
  rw [zt5_eq, List.replicate_append_replicate]
def zt7 : List Value := List.append zt6 zt6
theorem zt7_eq : zt7 = List.replicate 8192 u8Zv := by
  show zt6 ++ zt6 = _
  rw [zt6_eq, List.replicate_append_replicate]
def zt8 : List Value := List.append zt7 zt7
theorem zt8_eq : zt8 = List.replicate 16384 u8Zv := by
  show zt7 ++ zt7 = _
  rw [zt7_eq, List.replicate_append_replicate]
def zt9 : List Value := List.append zt8 zt8
theorem zt9_eq : zt9 = List.replicate 32768 u8Zv := by
  show zt8 ++ zt8 = _
  rw [zt8_eq, List.replicate_append_replicate]
def zr0 : List Value := List.append [u8Zv, u8Zv, u8Zv, u8Zv, u8Zv, u8Zv, u8Zv, u8Zv, u8Zv, u8Zv, u8Zv, u8Zv, u8Zv, u8Zv, u8Zv, u8Zv, u8Zv, u8Zv, u8Zv, u8Zv, u8Zv, u8Zv, u8Zv, u8Zv, u8Zv, u8Zv, u8Zv, u8Zv, u8Zv, u8Zv, u8Zv, u8Zv] [u8Zv, u8Zv, u8Zv, u8Zv, u8Zv, u8Zv, u8Zv, u8Zv, u8Zv, u8Zv, u8Zv, u8Zv, u8Zv, u8Zv, u8Zv, u8Zv, u8Zv, u8Zv, u8Zv, u8Zv, u8Zv, u8Zv, u8Zv, u8Zv, u8Zv, u8Zv, u8Zv, u8Zv, u8Zv, u8Zv, u8Zv, u8Zv, u8Zv]
theorem zr0_eq : zr0 = List.replicate 65 u8Zv := rfl
def zr1 : List Value := List.append zt0 zr0
theorem zr1_eq : zr1 = List.replicate 129 u8Zv := by
  show zt0 ++ zr0 = _
  rw [zt0_eq, zr0_eq, List.replicate_append_replicate]
def zr2 : List Value := List.append zt1 zr1
theorem zr2_eq : zr2 = List.replicate 257 u8Zv := by
  show zt1 ++ zr1 = _
  rw [zt1_eq, zr1_eq, List.replicate_append_replicate]
def zr3 : List Value := List.append zt2 zr2
theorem zr3_eq : zr3 = List.replicate 513 u8Zv := by
  show zt2 ++ zr2 = _
  rw [zt2_eq, zr2_eq, List.replicate_append_replicate]
def zr4 : List Value := List.append zt3 zr3
theorem zr4_eq : zr4 = List.replicate 1025 u8Zv := by
  show zt3 ++ zr3 = _
  rw [zt3_eq, zr3_eq, List.replicate_append_replicate]
def zr5 : List Value := List.append zt4 zr4
theorem zr5_eq : zr5 = List.replicate 2049 u8Zv := by
  show zt4 ++ zr4 = _
  rw [zt4_eq, zr4_eq, List.replicate_append_replicate]
def zr6 : List Value := List.append zt5 zr5
theorem zr6_eq : zr6 = List.replicate 4097 u8Zv := by
  show zt5 ++ zr5 = _
  rw [zt5_eq, zr5_eq, List.replicate_append_replicate]
def zr7 : List Value := List.append zt6 zr6
theorem zr7_eq : zr7 = List.replicate 8193 u8Zv := by
  show zt6 ++ zr6 = _
  rw [zt6_eq, zr6_eq, List.replicate_append_replicate]
def zr8 : List Value := List.append zt7 zr7
theorem zr8_eq : zr8 = List.replicate 16385 u8Zv := by
  show zt7 ++ zr7 = _
  rw [zt7_eq, zr7_eq, List.replicate_append_replicate]
def zr9 : List Value := List.append zt8 zr8
theorem zr9_eq : zr9 = List.replicate 32769 u8Zv := by
  show zt8 ++ zr8 = _
  rw [zt8_eq, zr8_eq, List.replicate_append_replicate]
def zr10 : List Value := List.append zt9 zr9
theorem zr10_eq : zr10 = List.replicate 65537 u8Zv := by
  show zt9 ++ zr9 = _
  rw [zt9_eq, zr9_eq, List.replicate_append_replicate]
def zq0 : List Value := List.append [u8Zv, u8Zv, u8Zv, u8Zv, u8Zv, u8Zv, u8Zv, u8Zv, u8Zv, u8Zv, u8Zv, u8Zv, u8Zv, u8Zv, u8Zv, u8Zv, u8Zv, u8Zv, u8Zv, u8Zv, u8Zv, u8Zv, u8Zv, u8Zv, u8Zv, u8Zv, u8Zv, u8Zv, u8Zv, u8Zv, u8Zv, u8Zv] [u8Zv, u8Zv, u8Zv, u8Zv, u8Zv, u8Zv, u8Zv, u8Zv, u8Zv, u8Zv, u8Zv, u8Zv, u8Zv, u8Zv, u8Zv, u8Zv, u8Zv, u8Zv, u8Zv, u8Zv, u8Zv, u8Zv, u8Zv, u8Zv, u8Zv, u8Zv, u8Zv, u8Zv, u8Zv, u8Zv, u8Zv, i64Zv, i64Zv]
theorem zq0_eq : zq0 = List.replicate 63 u8Zv ++ [i64Zv, i64Zv] := rfl
def zq1 : List Value := List.append zt0 zq0
theorem zq1_eq : zq1 = List.replicate 127 u8Zv ++ [i64Zv, i64Zv] := by
  show zt0 ++ zq0 = _
  rw [zt0_eq, zq0_eq, ← List.append_assoc, List.replicate_append_replicate]
def zq2 : List Value := List.append zt1 zq1
theorem zq2_eq : zq2 = List.replicate 255 u8Zv ++ [i64Zv, i64Zv] := by
  show zt1 ++ zq1 = _
  rw [zt1_eq, zq1_eq, ← List.append_assoc, List.replicate_append_replicate]
def zq3 : List Value := List.append zt2 zq2
theorem zq3_eq : zq3 = List.replicate 511 u8Zv ++ [i64Zv, i64Zv] := by
  show zt2 ++ zq2 = _
  rw [zt2_eq, zq2_eq, ← List.append_assoc, List.replicate_append_replicate]
def zq4 : List Value := List.append zt3 zq3
theorem zq4_eq : zq4 = List.replicate 1023 u8Zv ++ [i64Zv, i64Zv] := by
  show zt3 ++ zq3 = _
  rw [zt3_eq, zq3_eq, ← List.append_assoc, List.replicate_append_replicate]
def zq5 : List Value := List.append zt4 zq4
theorem zq5_eq : zq5 = List.replicate 2047 u8Zv ++ [i64Zv, i64Zv] := by
  show zt4 ++ zq4 = _
  rw [zt4_eq, zq4_eq, ← List.append_assoc, List.replicate_append_replicate]
def zq6 : List Value := List.append zt5 zq5
theorem zq6_eq : zq6 = List.replicate 4095 u8Zv ++ [i64Zv, i64Zv] := by
  show zt5 ++ zq5 = _
  rw [zt5_eq, zq5_eq, ← List.append_assoc, List.replicate_append_replicate]
def zq7 : List Value := List.append zt6 zq6
theorem zq7_eq : zq7 = List.replicate 8191 u8Zv ++ [i64Zv, i64Zv] := by
  show zt6 ++ zq6 = _
  rw [zt6_eq, zq6_eq, ← List.append_assoc, List.replicate_append_replicate]
def zq8 : List Value := List.append zt7 zq7
theorem zq8_eq : zq8 = List.replicate 16383 u8Zv ++ [i64Zv, i64Zv] := by
  show zt7 ++ zq7 = _
  rw [zt7_eq, zq7_eq, ← List.append_assoc, List.replicate_append_replicate]
def zq9 : List Value := List.append zt8 zq8
theorem zq9_eq : zq9 = List.replicate 32767 u8Zv ++ [i64Zv, i64Zv] := by
  show zt8 ++ zq8 = _
  rw [zt8_eq, zq8_eq, ← List.append_assoc, List.replicate_append_replicate]
def zq10 : List Value := List.append zt9 zq9
theorem zq10_eq : zq10 = List.replicate 65535 u8Zv ++ [i64Zv, i64Zv] := by
  show zt9 ++ zq9 = _
  rw [zt9_eq, zq9_eq, ← List.append_assoc, List.replicate_append_replicate]
def zAll : List Value := List.append zr10 zq10
theorem zAll_eq : zAll = List.replicate 131072 u8Zv ++ [i64Zv, i64Zv] := by
  show zr10 ++ zq10 = _
  rw [zr10_eq, zq10_eq, ← List.append_assoc, List.replicate_append_replicate]
theorem zPages : zeroT Try.prog 43 = some (.agg (List.toArray zAll)) := by kernel_rfl
end Go.Proofs.Ytdpjbpnemjdhfaa
end
section
namespace Go.Proofs.Ytdpjbpnemjdhfaa
open Go Go.Sy Go.Sl Go.RowKit
def digits : List UInt8 := [48, 49, 50, 51, 52, 53, 54, 55, 56, 57]
set_option maxRecDepth 100000 in
set_option maxHeartbeats 0 in
theorem version_s {H : Heap} {nx x : Nat} {k : ByteArray} (hk : k.size ≤ 1000) : Fnc Try.prog 13 [.sc (.string k), .sc (.int .u64 (x : Int))] H nx (fun q => VerIs q.2.1 q.1 (k.data.toList, digits, x, 0) ∧ nx ≤ q.2.2 ∧ ∀ m, m < nx → q.2.1.at' m = H.at' m) := by
  refine Fnc.start Try.func13 rfl rfl ?_
  (repeat (first | (first | refine y_seq ?_ | refine w_region ?_ | refine y_regEnd ?_ | (apply w_move; exact rfl; exact rfl; exact rfl) | (apply w_alloc; exact rfl; exact rfl; exact (F.zl _ rfl))) | ((apply w_toBytesB; exact rfl; exact rfl; exact (F.un _ rfl); exact (F.un _ rfl); exact (F.un _ rfl); exact rfl; (focus (omega)))) | (apply w_buildSlice; exact rfl; exact rfl; exact (F.un _ rfl); exact (F.sz _ rfl); exact rfl; exact (F.ze _ rfl); exact rfl; exact rfl; exact rfl; exact rfl; exact rfl)))
  (apply w_mark; exact rfl; exact rfl; exact (F.un _ rfl); exact (F.un _ rfl); exact rfl; exact (Tr.at_set_same _ _ _); (focus (decide)))
  (repeat (first | refine y_regEnd ?_ | (apply w_move; exact rfl; exact rfl; exact rfl) | refine w_storeC rfl rfl rfl rfl (F.sz _ rfl) (by (focus ((repeat (first | exact Tr.at_set_same _ _ _ | refine (Tr.at_set_other _ _ (by omega)).trans ?_)); done))) rfl (by exact Nat.le_of_ble_eq_true rfl) rfl ?_ | (apply w_build; exact rfl; exact rfl; exact rfl; exact (F.ze _ rfl); exact (F.pl _ rfl); exact rfl)))
  ((apply w_ret Try.func13 (congrArg Array.toList Try.results13)); (focus (repeat (first | exact ResIs.nil | apply ResIs.cell rfl (LoadIs.many (F.ag _ rfl) (by (focus ((repeat (exact Tr.at_set_same _ _ _)); done))) (cellsFrom_box _ 0 rfl rfl))))))
  refine ⟨⟨.slu (nx + 1) 0 k.size, .slu (nx + 1 + 1) 0 10, rfl, bs_row (ro := false) ?_ rfl, bs_row (ro := false) (n := 10) ?_ rfl⟩, by dsimp only; omega, fun m hm => by (focus ((repeat (refine (Tr.at_set_other _ _ (by omega)).trans ?_)); exact rfl))⟩
  · (focus ((repeat (first | exact Tr.at_set_same _ _ _ | refine (Tr.at_set_other _ _ (by omega)).trans ?_)); done))
  · refine (Tr.at_set_other _ _ (by omega)).trans ((Tr.at_set_same _ _ _).trans ?_)
    exact congrArg some (dat_list _ _ _ _ (byV digits))
abbrev zeroM : List UInt8 := List.replicate 131072 0
theorem zeroM_len : zeroM.length = 131072 := List.length_replicate
theorem zAll_map : zAll.map SV.sc = pgsS zeroM 0 0 := by
  rw [zAll_eq, List.map_append, List.map_replicate]
  show _ = (byV (List.replicate 131072 0)).map SV.sc ++ _
  rw [show byV (List.replicate 131072 (0 : UInt8)) = List.replicate 131072 u8Zv from List.map_replicate, List.map_replicate]
  rfl
theorem fill_one {place : Nat → Option (Nat × Nat)} {cells vc : List SV} {i off size : Nat} {v : SV} (hp : place i = some (off, size)) (hv : v.cells = vc) (hl : vc.length = size) (ho : off + size ≤ cells.length) : fillS place cells [(i, v)] = some (cells.take off ++ vc ++ cells.drop (off + size)) := by
  subst hv
  have hb : (Nat.beq v.cells.length size && Nat.ble (off + size) cells.length) = true := by
    rw [Bool.and_eq_true]
    exact ⟨by rw [hl]; exact Nat.beq_refl _, Nat.ble_eq_true_of_le ho⟩
  simp only [fillS, hp, hb, cond_true]
theorem fill_pgs : fillS (fun i => ([(0, 131072), (131072, 1), (131073, 1)] : List (Nat × Nat))[i]?) ((Value.agg (List.toArray zAll)).cells.toList.map .sc) [(1, .sc (.int .i64 (-1)))] = some (pgsS zeroM (-1) 0) := by
  have e : (Value.agg (List.toArray zAll)).cells.toList.map SV.sc = pgsS zeroM 0 0 := (congrArg (List.map SV.sc) (List.toList_toArray ..)).trans zAll_map
  have hl := pgs_len zeroM_len 0 0
  have h1 := by1_len zeroM_len
  rw [e, fill_one (vc := [.sc (.int .i64 (-1))]) (size := 1) (off := 131072) rfl rfl rfl (by rw [hl]; exact Nat.le_of_ble_eq_true rfl), List.take_left' h1, ← List.drop_drop, List.drop_left' h1, List.append_assoc]
  rfl
end Go.Proofs.Ytdpjbpnemjdhfaa
end
section
namespace Go.Proofs.Ytdpjbpnemjdhfaa
open Go Go.Sy Go.Sl Go.RowKit
abbrev kv1 : VerT := ([97], digits, 1, 0)
abbrev kv2 : VerT := ([98], digits, 2, 0)
def kp0 : List UInt8 := initP 4
def kp1 : List UInt8 := (insP kp0 (bytesV kv1)).1
def kp2 : List UInt8 := (insP kp1 (bytesV kv2)).1
theorem page_set {mem x : List UInt8} (hm : mem.length = 131072) {n : Nat} (hn : n < 128) (hx : x.length = 1024) : pageN (setN mem n x) n = x := by
  unfold pageN setN putAt
  rw [List.append_assoc, List.drop_left' (by rw [List.length_take]; omega), List.take_left' hx]
theorem page_zero : pageN zeroM 32 = zeroP := by
  unfold pageN zeroM zeroP
  rw [List.drop_replicate, List.take_replicate]
  rfl
theorem read_ok {p : List UInt8} (h1 : unusedP p = false) (h2 : rightP p = true) (h3 : kP p = 4) (h4 : badI p = false) : readP p = (p, 0) := by
  unfold readP
  rw [if_neg (by rw [h1]; decide), if_neg (by rw [h2, h3]; decide), if_neg (by rw [h4]; decide)]
theorem read_zero : readP zeroP = (kp0, 0) := if_pos (by kernel_rfl)
theorem kl0 : kp0.length = 1024 := initP_len 4
theorem kl1 : kp1.length = 1024 := by kernel_rfl
theorem kl2 : kp2.length = 1024 := by kernel_rfl
theorem kr0 : (bytesV kv1).length ≤ roomE kp0 := Nat.le_of_ble_eq_true (by kernel_rfl)
theorem ki0 : insP kp0 (bytesV kv1) = (kp1, 0, 0) := Prod.ext rfl (by kernel_rfl)
theorem kr1 : (bytesV kv2).length ≤ roomE kp1 := Nat.le_of_ble_eq_true (by kernel_rfl)
theorem ki1 : insP kp1 (bytesV kv2) = (kp2, 1, 0) := Prod.ext rfl (by kernel_rfl)
theorem kd1 : readP kp1 = (kp1, 0) := read_ok (by kernel_rfl) (by kernel_rfl) (by kernel_rfl) (by kernel_rfl)
theorem kg2 : rightP kp2 = true := by kernel_rfl
theorem kd2 : readP kp2 = (kp2, 0) := read_ok (by kernel_rfl) kg2 (by kernel_rfl) (by kernel_rfl)
theorem ks2 : 1 < slotsP kp2 := Nat.le_of_ble_eq_true (by kernel_rfl)
theorem kz2 : sizeP kp2 1 ≠ 0 := fun h => by
  have : Nat.beq (sizeP kp2 1) 0 = false := by kernel_rfl
  rw [h] at this
  cases this
theorem ko2 : ofV (itemP kp2 1) = some kv2 := by kernel_rfl
theorem km1 : mayV kv1 = true := by kernel_rfl
theorem km2 : mayV kv2 = true := by kernel_rfl
end Go.Proofs.Ytdpjbpnemjdhfaa
end
section
namespace Go.Proofs.Ytdpjbpnemjdhfaa
open Go Go.Sy Go.Sl Go.RowKit
abbrev tidS (a : Int × Int) : SV := .agg [.sc (.int .i64 a.1), .sc (.int .i64 a.2)]
def sameTd (a b : Int × Int) : Bool := decide (a.1 = b.1) && decide (a.2 = b.2)
theorem uTd : Try.prog.underlying 45 = some (.struct (Try.prog.fieldsOf 45)) := by kernel_rfl
def fdsTd : List (Bool × TypeId × Nat) := [(true, 3, 0), (true, 3, 1)]
theorem fTd : (Try.prog.fieldsOf 45).toList.map (fun f => (f.name != "_", f.type, f.offset)) = fdsTd := by kernel_rfl
theorem fTd2 : ∃ f g : Field, (Try.prog.fieldsOf 45).toList = [f, g] ∧ f.name ≠ "_" ∧ f.type = 3 ∧ f.offset = 0 ∧ g.name ≠ "_" ∧ g.type = 3 ∧ g.offset = 1 := by
  have h := fTd
  generalize (Try.prog.fieldsOf 45).toList = l at h
  have hl : l.length = 2 := by simpa [fdsTd] using congrArg List.length h
  rcases l with _ | ⟨f, _ | ⟨g, _ | ⟨x, l⟩⟩⟩
  · simp at hl
  · simp at hl
  · simp only [List.map_cons, List.map_nil, fdsTd, List.cons.injEq, Prod.mk.injEq, and_true, bne_iff_ne] at h
    exact ⟨f, g, rfl, h.1.1, h.1.2.1, h.1.2.2, h.2.1, h.2.2.1, h.2.2.2⟩
  · simp at hl
theorem run_part1 {P : Program} {t : TypeId} {cs : Array Value} {off : Nat} {v : Value} {k : IntKind} (hu : P.underlying t = some (.int k)) (hv : cs[off]? = some v) (w : World) : (part t cs off).run P w = .ok v w := by
  simp [part, isAgg, run_underlying hu, hv]
theorem run_eqTd (a b : Int × Int) (w : World) : (Op.equalIn 10000 45 (.agg #[.int .i64 a.1, .int .i64 a.2]) (.agg #[.int .i64 b.1, .int .i64 b.2])).run Try.prog w = .ok (sameTd a b) w := by
  obtain ⟨f, g, hl, f1, f2, f3, g1, g2, g3⟩ := fTd2
  have hu : Try.prog.underlying 3 = some (.int .i64) := by kernel_rfl
  have he : ∀ (a b : Int) (w : World), (Op.equalIn 9999 3 (.int .i64 a) (.int .i64 b)).run Try.prog w = .ok (a == b) w := fun a b w => run_equalIn_int w 9998 _ .i64 .i64 a b hu
  rw [show (10000 : Nat) = 9999 + 1 from rfl, run_equalIn_struct w 9999 _ _ _ uTd (by kernel_rfl), hl]
  simp only [Op.eqFields, if_pos f1, if_pos g1, f2, f3, g2, g3, Sem.run_bind, run_part1 hu (cs := #[.int .i64 a.1, .int .i64 a.2]) (off := 0) (v := .int .i64 a.1) rfl, run_part1 hu (cs := #[.int .i64 b.1, .int .i64 b.2]) (off := 0) (v := .int .i64 b.1) rfl, Result.andThen_ok]
  rw [he]
  simp only [Result.andThen_ok]
  by_cases h1 : a.1 = b.1
  · rw [show (a.1 == b.1) = true by simpa using h1]
    simp only [Bool.not_true, Bool.false_eq_true, if_false, Sem.run_bind, run_part1 hu (cs := #[.int .i64 a.1, .int .i64 a.2]) (off := 1) (v := .int .i64 a.2) rfl, run_part1 hu (cs := #[.int .i64 b.1, .int .i64 b.2]) (off := 1) (v := .int .i64 b.2) rfl, Result.andThen_ok]
    rw [he]
    simp only [Result.andThen_ok]
    by_cases h2 : a.2 = b.2
    · rw [show (a.2 == b.2) = true by simpa using h2]
      simp [h1, h2, sameTd]
    · rw [show (a.2 == b.2) = false by simpa using h2]
      simp [h1, h2, sameTd]
  · rw [show (a.1 == b.1) = false by simpa using h1]
    simp [h1, sameTd]
section
variable {P : Program} {H : Heap} {T : Tr SV} {nx : Nat}
variable {d : Option Tmp} {ty : TypeId} {pos : String} {af : Array Edge} {gd : Option (Nat × Bool)}
theorem conc_td {e : Env} {a : Int × Int} {v : Value} (h : (tidS a).conc e = some v) : v = .agg #[.int .i64 a.1, .int .i64 a.2] := by
  simpa [tidS, SV.conc, SV.concL] using h.symm
theorem rd_eqlTd {x y : Operand} {yt : TypeId} {a b : Int × Int} (hx : evalS T x = some (tidS a)) (hy : evalS T y = some (tidS b)) : ReadDoes Try.prog T H ⟨d, .binOp .eql 45 x y yt, ty, pos, af, gd⟩ (.sc (.bool (sameTd a b))) := by
  intro K w0 e nx w ev hS hE
  refine ⟨_, rfl, ?_⟩
  have e1 := conc_td (hE x _ hx)
  have e2 := conc_td (hE y _ hy)
  simp [execOp, e1, e2, run_eqGuard_agg (P := Try.prog) w .eql 45 x y _ _ (by kernel_rfl), run_eql_struct, run_eqTd]
end
theorem w_eqlTd {ro : Option Nat} {fn nt nx i : Nat} {T : Tr SV} {k : List AIt} {dfs : List ADf} {H : Heap} {Q : Pst} {ops : Array Oper} {l : List Oper} {ty : TypeId} {pos : String} {af : Array Edge} {gd : Option (Nat × Bool)} {x y : Operand} {yt : TypeId} {a b : Int × Int} {r : Bool} {dd : Nat} (hw : wantedS T ops ⟨some dd, .binOp .eql 45 x y yt, ty, pos, af, gd⟩ = some true) (hd : Nat.blt dd nt = true) (hx : evalS T x = some (tidS a)) (hy : evalS T y = some (tidS b)) (hr : sameTd a b = r)
    (h : Wp Try.prog ro ⟨fn, nt, T.set dd (.sc (.bool r)), .inReg ops (i + 1) l :: k, dfs, H, nx⟩ Q) : Wp Try.prog ro ⟨fn, nt, T, .inReg ops i (⟨some dd, .binOp .eql 45 x y yt, ty, pos, af, gd⟩ :: l) :: k, dfs, H, nx⟩ Q :=
  y_val hw (.inr (fun _ h => by cases h)) ((rd_eqlTd hx hy).does) (by rw [putS_some hd, hr]; exact h)
end Go.Proofs.Ytdpjbpnemjdhfaa
end
section
namespace Go.Proofs.Ytdpjbpnemjdhfaa
open Go Go.Sy Go.Sl Go.RowKit
theorem plPgs : plOf Try.prog 43 = some [(0, 131072), (131072, 1), (131073, 1)] := by kernel_rfl
set_option maxRecDepth 100000 in
set_option maxHeartbeats 0 in
theorem known_r {H : Heap} {nx : Nat} : Fnc Try.prog 4 [] H nx (fun q => q.1 = .sc (.bool true) ∧ nx ≤ q.2.2 ∧ ∀ m, m < nx → q.2.1.at' m = H.at' m) := by
  refine Fnc.start Try.func4 rfl rfl ?_
  (repeat (first | (refine w_build rfl rfl rfl zPages plPgs fill_pgs ?_) | (first | refine y_seq ?_ | refine w_region ?_ | refine y_regEnd ?_ | (apply w_move; exact rfl; exact rfl; exact rfl) | (apply w_assign; exact rfl; exact rfl; exact rfl) | (apply w_boxN; exact rfl; exact rfl; exact rfl)) | (refine w_makeI rfl rfl rfl Try.underlying38 rfl ?_)))
  have hb0 : (H.set nx (pgsO zeroM (-1) 0)).at' nx = some (pgsO zeroM (-1) 0) := Tr.at_set_same _ _ _
  have ho0 : ∀ m, m < nx → (H.set nx (pgsO zeroM (-1) 0)).at' m = H.at' m := fun m hm => Tr.at_set_other _ _ (by omega)
  refine y_gen (R := fun H0 n0 => H0 = H.set nx (pgsO zeroM (-1) 0) ∧ n0 = nx + 1) ⟨rfl, rfl⟩ ?_
  rintro H0 n0 ⟨hH0, rfl⟩
  rw [← hH0] at hb0 ho0
  clear hH0
  refine w_call rfl rfl rfl (by kernel_rfl) (Fnc.mono (version_s (k := ⟨#[97]⟩) (x := 1) (Nat.le_of_ble_eq_true rfl)) ?_)
  rintro ⟨s1, H1, n1⟩ ⟨a1, a2, a3⟩
  dsimp only at a1 a2 a3 ⊢
  refine w_call rfl rfl rfl (by kernel_rfl) (Fnc.mono (insert_one (v := kv1) (p := kp0) (p' := kp1) (slot := 0) ((a3 nx (by omega)).trans hb0) zeroM_len a1 km1 kl0 (by decide) (by decide) (by decide) (by rw [page_zero]; exact read_zero) kr0 ki0 kl1) ?_)
  rintro ⟨_, H2, n2⟩ ⟨rfl, b1, b2, b3⟩
  dsimp only at b1 b2 b3 ⊢
  have bo : ∀ m, m < nx → H2.at' m = H.at' m := fun m hm => (b3 m (by omega) (by omega)).trans ((a3 m (by omega)).trans (ho0 m hm))
  clear a1 a3 b3 hb0 ho0
  (repeat (first | (first | refine y_seq ?_ | refine w_region ?_ | refine y_regEnd ?_ | (apply w_move; exact rfl; exact rfl; exact rfl) | (apply w_assign; exact rfl; exact rfl; exact rfl) | (apply w_extract; exact rfl; exact rfl; exact rfl; exact rfl) | refine w_storeC rfl rfl rfl rfl (F.sz _ rfl) (by (focus ((repeat (first | assumption | exact Tr.at_set_same _ _ _)); done))) rfl (by exact Nat.le_of_ble_eq_true rfl) rfl ?_ | (apply w_alloc; exact rfl; exact rfl; exact (F.zl _ rfl))) | (refine w_makeI rfl rfl rfl Try.underlying38 rfl ?_)))
  refine w_call rfl rfl rfl (by kernel_rfl) (Fnc.mono (version_s (k := ⟨#[98]⟩) (x := 2) (Nat.le_of_ble_eq_true rfl)) ?_)
  rintro ⟨s2, H3, n3⟩ ⟨c1, c2, c3⟩
  dsimp only at c1 c2 c3 ⊢
  have cb : H3.at' nx = some (pgsO (setN zeroM 32 kp1) (-1 - 1) (0 + 1)) := (c3 nx (by omega)).trans (by (focus ((repeat (refine (Tr.at_set_other _ _ (by omega)).trans ?_)); exact b1)))
  have ct : H3.at' n2 = some (tidO 32 0) := (c3 n2 (by omega)).trans (by (focus ((repeat (exact Tr.at_set_same _ _ _)); done)))
  have co : ∀ m, m < nx → H3.at' m = H.at' m := fun m hm => (c3 m (by omega)).trans (by (focus ((repeat (refine (Tr.at_set_other _ _ (by omega)).trans ?_)); exact bo m hm)))
  clear c3 b1 bo
  refine y_under fun hund => ?_
  have hmem1 := setN_len (n := 32) zeroM_len (by decide) kl1
  refine w_call rfl rfl rfl (by kernel_rfl) (Fnc.mono (insert_one (v := kv2) (p := kp1) (p' := kp2) (slot := 1) cb hmem1 c1 km2 kl1 (by decide) (by decide) (by decide) (by rw [page_set zeroM_len (by decide) kl1]; exact kd1) kr1 ki1 kl2) ?_)
  rintro ⟨_, H4, n4⟩ ⟨rfl, d1, d2, d3⟩
  dsimp only at d1 d2 d3 ⊢
  have dt : H4.at' n2 = some (tidO 32 0) := (d3 n2 (by omega) (by omega)).trans ct
  have do' : ∀ m, m < nx → H4.at' m = H.at' m := fun m hm => (d3 m (by omega) (by omega)).trans (co m hm)
  clear c1 cb ct co d3 hund
  (repeat (first | (first | refine y_seq ?_ | refine w_region ?_ | refine y_regEnd ?_ | (apply w_move; exact rfl; exact rfl; exact rfl) | (apply w_assign; exact rfl; exact rfl; exact rfl) | (apply w_extract; exact rfl; exact rfl; exact rfl; exact rfl) | refine w_storeC rfl rfl rfl rfl (F.sz _ rfl) (by (focus ((repeat (first | assumption | exact Tr.at_set_same _ _ _)); done))) rfl (by exact Nat.le_of_ble_eq_true rfl) rfl ?_ | (apply w_alloc; exact rfl; exact rfl; exact (F.zl _ rfl)) | refine w_loadBN rfl rfl rfl (F.ag _ rfl) (by (focus ((repeat (first | assumption | exact Tr.at_set_same _ _ _)); done))) (by exact rfl) ?_) | (refine w_makeI rfl rfl rfl Try.underlying38 rfl ?_)))
  refine w_call rfl rfl rfl (by kernel_rfl) (Fnc.mono (get_one (n := 32) (k := 1) (v := kv2) (p := kp2) (by (focus ((repeat (refine (Tr.at_set_other _ _ (by omega)).trans ?_)); exact d1))) (setN_len hmem1 (by decide) kl2) kl2 (by decide) (by decide) (by rw [page_set hmem1 (by decide) kl2]; exact kd2) kg2 ks2 kz2 ko2) ?_)
  rintro ⟨_, H5, n5⟩ ⟨s', r', rfl, ⟨k0, w0, rfl, gk, gw⟩, e2, e3, e4⟩
  dsimp only at gk gw e2 e3 e4 ⊢
  have et : H5.at' n2 = some (tidO 32 0) := (e4 n2 (by omega)).trans (by (focus ((repeat (refine (Tr.at_set_other _ _ (by omega)).trans ?_)); exact dt)))
  have eu : H5.at' n4 = some (tidO 32 1) := (e4 n4 (by omega)).trans (by (focus ((repeat (exact Tr.at_set_same _ _ _)); done)))
  have eo : ∀ m, m < nx → H5.at' m = H.at' m := fun m hm => (e4 m (by omega)).trans (by (focus ((repeat (refine (Tr.at_set_other _ _ (by omega)).trans ?_)); exact do' m hm)))
  clear e4 d1 dt do'
  refine y_under fun hund => ?_
  have hr : r' < n5 := by
    rcases gk with ⟨_, h⟩ | ⟨o, C, _, vo, hv, _⟩
    · cases h
    · exact hund _ _ hv
  have hone : ∀ x y : Nat, allOne (verC k0 w0 x y) = true := fun x y => by simp only [allOne, bs_one gk.bs, bs_one gw.bs]; rfl
  have hk : ∀ vo vo' : VO, BsIs ((H5.set n5 vo).set n5 vo') k0 (u8L ⟨#[98]⟩) := fun vo vo' => (gk.frame ((Tr.at_set_other _ _ (by omega)).trans (Tr.at_set_other _ _ (by omega)))).bs
  (repeat (first | (refine w_storeN rfl rfl rfl (F.sz _ rfl) (by (focus ((repeat (first | assumption | exact Tr.at_set_same _ _ _)); done))) rfl (by exact Nat.le_of_ble_eq_true rfl) (hone _ _) rfl ?_) | ((apply w_eqlTd (a := (32, 0)) (b := (32, 0)) (r := true); exact rfl; exact rfl; exact rfl; exact rfl; (focus (decide)))) | ((apply w_eqlTd (a := (32, 1)) (b := (32, 1)) (r := true); exact rfl; exact rfl; exact rfl; exact rfl; (focus (decide)))) | (first | refine y_seq ?_ | refine w_region ?_ | refine y_regEnd ?_ | (apply w_move; exact rfl; exact rfl; exact rfl) | (apply w_assign; exact rfl; exact rfl; exact rfl) | (apply w_pickT; exact rfl; exact rfl; exact rfl; exact rfl) | (apply w_extract; exact rfl; exact rfl; exact rfl; exact rfl) | (apply w_fieldAddr; exact rfl; exact rfl; exact rfl; exact (F.fo _ _ rfl rfl)) | (apply w_alloc; exact rfl; exact rfl; exact (F.zl _ rfl)) | refine w_loadB1 rfl rfl rfl (F.ag _ rfl) (by (focus ((repeat (first | assumption | exact Tr.at_set_same _ _ _ | refine (Tr.at_set_other _ _ (by omega)).trans ?_)); done))) (by exact rfl) ?_ | refine w_loadBN rfl rfl rfl (F.ag _ rfl) (by (focus ((repeat (first | assumption | refine (Tr.at_set_other _ _ (by omega)).trans ?_)); done))) (by exact rfl) ?_ | (apply w_build; exact rfl; exact rfl; exact rfl; exact (F.ze _ rfl); exact (F.pl _ rfl); exact rfl)) | (refine w_eqlS rfl rfl rfl rfl (fun _ => ?_) (fun hq => absurd rfl hq)) | ((apply w_toStr; exact rfl; exact rfl; exact (F.un _ rfl); exact (F.un _ rfl); exact (F.un _ rfl); exact rfl; exact (hk _ _))) | ((apply w_eqStrV (r := true); exact rfl; exact rfl; exact rfl; exact rfl; (focus (decide))))))
  ((apply w_ret Try.func4 (congrArg Array.toList Try.results4)); (focus (repeat (first | exact ResIs.nil | apply ResIs.tmp rfl))))
  exact ⟨rfl, by dsimp only; omega, fun m hm => (Tr.at_set_other _ _ (by omega)).trans ((Tr.at_set_other _ _ (by omega)).trans (eo m hm))⟩
theorem known_f {H : Heap} {nx : Nat} : Fnc Try.prog 4 [] H nx (fun q => q = (.sc (.bool true), H, nx)) := Fnc.forgetV (Free.sc _) known_r
end Go.Proofs.Ytdpjbpnemjdhfaa
end
