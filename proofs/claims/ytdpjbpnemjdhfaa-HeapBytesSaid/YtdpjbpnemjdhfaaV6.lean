/-
  Texts of the proof, merged: Hy Post SyBr Ha.
-/
import Derived.WalkKit
import Derived.ProofKit
import Derived.OpenShut
import Derived.Below
import Derived.ChangeSame
import Derived.Carry
import Derived.ChangeArms
import Derived.Test.YtdpjbpnemjdhfaaChecked
import Derived.Test.YtdpjbpnemjdhfaaV5
set_option linter.unusedVariables false
set_option linter.unusedSimpArgs false
section
namespace Go.Proofs.Ytdpjbpnemjdhfaa
open Go Go.Sy Go.Sl Go.RowKit
theorem run_eqB {P : Program} {t : TypeId} {a b : Bool} {w : World} (hu : P.underlying t = some .bool) : (Op.equal t (.bool a) (.bool b)).run P w = .ok (a == b) w := by
  unfold Op.equal
  rw [show Op.maxDepth = Nat.succ (Op.maxDepth - 1) from rfl]
  unfold Op.equalIn
  simp [run_underlying hu, Sem.run_bind, Result.andThen]
theorem rd_neB {P : Program} {T : Tr SV} {H : Heap} {d : Option Tmp} {ty : TypeId} {pos : String} {af : Array Edge} {gd : Option (Nat × Bool)} {t yt : TypeId} {x y : Operand} {a : Bool} (hu : P.underlying t = some .bool) (hx : evalS T x = some (.sc (.bool a))) (hy : evalS T y = some (.sc (.bool a))) : ReadDoes P T H ⟨d, .binOp .neq t x y yt, ty, pos, af, gd⟩ (.sc (.bool false)) := by
  refine rd_pure fun ev w he => ?_
  have e1 := he x _ hx _ rfl
  have e2 := he y _ hy _ rfl
  simp only [execOp, e1, e2, eqGuard, binOp]
  simp [run_eqB hu, Sem.run_bind, Result.andThen]
theorem blk_under {H H' : Heap} {n r : Nat} {k : SV} {l : List UInt8} (h : BlkS H k r l) (hund : ∀ b vo, H.at' b = some vo → b < n) (hf : ∀ m, m < n → H'.at' m = H.at' m) : BlkS H' k r l := by
  rcases h with h | ⟨o, C, h1, vo, h2, h3⟩
  · exact .inl h
  · exact .inr ⟨o, C, h1, vo, (hf r (hund r vo h2)).trans h2, h3⟩
theorem bytesr_s {H : Heap} {nx : Nat} {s : SV} {v : VerT} (hv : VerIs H s v) (hm : mayV v = true) : Fnc Try.prog 9 [s] H nx (fun q => q = (.slu nx 0 (bytesV v).length, H.set nx (dat false (bytesV v).length 1 5 (byV (bytesV v))), nx + 1)) := Fnc.next (bytesr_r hv hm)
set_option maxRecDepth 100000 in
set_option maxHeartbeats 0 in
theorem heapBytes_s {H : Heap} {nx r : Nat} {ro : Bool} {s0 : SV} {v : VerT} {l : List UInt8} (hv : VerIs H s0 v) (hr : H.at' r = some (dat ro l.length 1 5 (byV l))) : Fnc Try.prog 3 [s0, .slu r 0 l.length] H nx (fun q => q.1 = .sc (.bool true)) := by
  have hv0 := hv
  obtain ⟨k, w, rfl, hk, hw⟩ := hv
  refine Fnc.start Try.func3 rfl rfl ?_
  refine y_under fun hund => ?_
  have lr := hund _ _ hr
  have hbB : ∀ H' : Heap, (∀ m, m < nx → H'.at' m = H.at' m) → BsIs H' (.slu r 0 l.length) (byV l) := fun H' h => bs_row ((h r lr).trans hr) rfl
  have hvB : ∀ H' : Heap, (∀ m, m < nx → H'.at' m = H.at' m) → VerIs H' (verS k w v.2.2.1 v.2.2.2) v := fun H' h => hv0.frame fun b vo hb => (h b (hund b vo hb)).trans hb
  have b0 : (H.set nx (verO (verC k w v.2.2.1 v.2.2.2))).at' nx = some (verO (verC k w v.2.2.1 v.2.2.2)) := Tr.at_set_same _ _ _
  have o0 : ∀ m, m < nx → (H.set nx (verO (verC k w v.2.2.1 v.2.2.2))).at' m = H.at' m := fun m hm => Tr.at_set_other _ _ (by omega)
  (repeat (first | refine y_seq ?_ | refine w_region ?_ | refine y_regEnd ?_ | (apply w_assign; exact rfl; exact rfl; exact rfl) | (apply w_fieldAddr; exact rfl; exact rfl; exact rfl; exact (F.fo _ _ rfl rfl)) | (apply w_boxN; exact rfl; exact rfl; exact rfl) | refine w_loadB1 rfl rfl rfl (F.ag _ rfl) (by (focus ((repeat (assumption)); done))) (by exact rfl) ?_))
  generalize H.set nx (verO (verC k w v.2.2.1 v.2.2.2)) = H0 at b0 o0 ⊢
  have hk0 : BsIs H0 k (byV v.1) := hk.frame fun b vo hb => (o0 b (hund b vo hb)).trans hb
  have hw0 : BsIs H0 w (byV v.2.1) := hw.frame fun b vo hb => (o0 b (hund b vo hb)).trans hb
  (repeat (refine w_lenB rfl rfl (F.un _ rfl) rfl hk0 ?_; rw [by_len]))
  refine w_gtrS rfl rfl rfl rfl (fun h1 => ?_) (fun h1 => ?_)
  · (repeat (first | (first | refine y_seq ?_ | refine w_region ?_ | refine y_regEnd ?_ | refine y_condT rfl ?_ | (apply w_move; exact rfl; exact rfl; exact rfl) | (apply w_assign; exact rfl; exact rfl; exact rfl) | (apply w_pickT; exact rfl; exact rfl; exact rfl; exact rfl) | (apply w_not; exact rfl)) | (refine w_call rfl rfl rfl (by kernel_rfl) (Fnc.mono (known_f) ?_); rintro _ rfl; dsimp only)))
    ((apply w_ret Try.func3 (congrArg Array.toList Try.results3)); (focus (repeat (first | exact ResIs.nil | apply ResIs.tmp rfl))))
    rfl
  (repeat (first | (first | (apply w_move; exact rfl; exact rfl; exact rfl) | (apply w_fieldAddr; exact rfl; exact rfl; exact rfl; exact (F.fo _ _ rfl rfl)) | refine w_loadB1 rfl rfl rfl (F.ag _ rfl) (by (focus ((repeat (assumption)); done))) (by exact rfl) ?_) | (refine w_lenB rfl rfl (F.un _ rfl) rfl hw0 ?_; rw [by_len])))
  refine w_gtrS rfl rfl rfl rfl (fun h2 => ?_) (fun h2 => ?_)
  · (repeat (first | (first | refine y_seq ?_ | refine w_region ?_ | refine y_regEnd ?_ | refine y_condT rfl ?_ | (apply w_move; exact rfl; exact rfl; exact rfl) | (apply w_assign; exact rfl; exact rfl; exact rfl) | (apply w_pickT; exact rfl; exact rfl; exact rfl; exact rfl) | (apply w_pickF; exact rfl; exact rfl; exact rfl; exact rfl) | (apply w_not; exact rfl)) | (refine w_call rfl rfl rfl (by kernel_rfl) (Fnc.mono (known_f) ?_); rintro _ rfl; dsimp only)))
    ((apply w_ret Try.func3 (congrArg Array.toList Try.results3)); (focus (repeat (first | exact ResIs.nil | apply ResIs.tmp rfl))))
    rfl
  (repeat (first | (apply w_move; exact rfl; exact rfl; exact rfl) | (apply w_pickF; exact rfl; exact rfl; exact rfl; exact rfl) | (apply w_lenSl; exact rfl; exact rfl; exact rfl; exact (F.un _ rfl))))
  refine w_gtrS rfl rfl rfl rfl (fun h3 => ?_) (fun h3 => ?_)
  · (repeat (first | (first | refine y_seq ?_ | refine w_region ?_ | refine y_regEnd ?_ | refine y_condT rfl ?_ | (apply w_assign; exact rfl; exact rfl; exact rfl) | (apply w_pickF; exact rfl; exact rfl; exact rfl; exact rfl)) | (refine w_call rfl rfl rfl (by kernel_rfl) (Fnc.mono (known_f) ?_); rintro _ rfl; dsimp only)))
    ((apply w_ret Try.func3 (congrArg Array.toList Try.results3)); (focus (repeat (first | exact ResIs.nil | apply ResIs.tmp rfl))))
    rfl
  clear hk0 hw0
  (repeat (first | refine y_seq ?_ | refine w_region ?_ | refine y_regEnd ?_ | refine y_skip ?_ | refine y_condF rfl ?_ | (apply w_pickF; exact rfl; exact rfl; exact rfl; exact rfl) | refine w_loadBN rfl rfl rfl (F.ag _ rfl) (by (focus ((repeat (assumption)); done))) (by exact rfl) ?_))
  have cM : ∀ (H' : Heap) (nx' : Nat), (∀ m, m < nx → H'.at' m = H.at' m) → Fnc Try.prog 6 [verS k w v.2.2.1 v.2.2.2] H' nx' (fun q => q = (.sc (.bool (mayV v)), H', nx')) := fun H' nx' h => may_s (hvB H' h)
  have cR : ∀ (H' : Heap) (nx' : Nat), (∀ m, m < nx → H'.at' m = H.at' m) → Fnc Try.prog 7 [verS k w v.2.2.1 v.2.2.2] H' nx' (fun q => q = (.sc (.bool (mayV v)), H', nx')) := fun H' nx' h => mayr_s (hvB H' h)
  cases hm : mayV v with
  | false =>
    rw [hm] at cM cR
    have hbn := bytes_no (nx := nx + 1) (hvB H0 o0) hm
    (repeat (first | (first | refine y_seq ?_ | refine y_regEnd ?_ | (apply w_move; exact rfl; exact rfl; exact rfl) | (apply w_assign; exact rfl; exact rfl; exact rfl) | (apply w_extract; exact rfl; exact rfl; exact rfl; exact rfl)) | (refine w_call rfl rfl rfl (by kernel_rfl) (Fnc.mono (hbn) ?_); rintro _ rfl; dsimp only)))
    (apply w_drawE; (focus (kernel_rfl)); (focus (kernel_rfl)))
    (repeat (first | refine dw_loadBN rfl rfl rfl (F.ag _ rfl) (by (focus ((repeat (assumption)); done))) (by exact rfl) ?_ | ((apply dk_call; exact rfl; exact rfl; exact rfl; (focus (kernel_rfl)); exact (cM _ _ o0))) | ((apply dk_call; exact rfl; exact rfl; exact rfl; (focus (kernel_rfl)); exact (cR _ _ o0))) | (apply dk_read; exact rfl; exact rfl; exact (fun _ h => by cases h); exact (rd_neB (F.un _ rfl) rfl rfl))))
    (refine dk_nil ?_); (refine ⟨by kernel_rfl, ?_, ?_⟩); (focus (repeat (first | exact trivial | refine ⟨.inl (chk_chain rfl), ?_⟩ | refine ⟨.inr ⟨0, by kernel_rfl, (by (refine ⟨(by (exact rd_loadN (F.ag _ rfl) rfl (by (focus ((repeat (assumption)); done))) (cellsFrom_box _ 0 rfl rfl))), ?_⟩; (repeat (refine ⟨(by (exact rd_loadN (F.ag _ rfl) rfl (by (focus ((repeat (assumption)); done))) (cellsFrom_box _ 0 rfl rfl))), ?_⟩)); exact trivial))⟩, ?_⟩ | refine ⟨.inl (by kernel_rfl), ?_⟩)))
    (repeat (first | (first | refine y_seq ?_ | refine w_region ?_ | refine y_regEnd ?_ | refine y_skip ?_ | refine y_condT rfl ?_ | refine y_condF rfl ?_ | (apply w_move; exact rfl; exact rfl; exact rfl) | (apply w_pickF; exact rfl; exact rfl; exact rfl; exact rfl) | refine w_loadBN rfl rfl rfl (F.ag _ rfl) (by (focus ((repeat (assumption)); done))) (by exact rfl) ?_ | (apply w_notB; exact rfl; exact rfl; exact rfl)) | (refine w_call rfl rfl rfl (by kernel_rfl) (Fnc.mono (cR _ _ o0) ?_); rintro _ rfl; dsimp only) | (refine w_neqS rfl rfl rfl rfl (fun hq => absurd rfl hq) (fun _ => ?_)) | ((apply w_lenB; exact rfl; exact rfl; exact (F.un _ rfl); exact rfl; exact (bs_nil _)))))
    refine w_call rfl rfl rfl (by kernel_rfl) (Fnc.mono (of_s (hbB _ o0) (by omega)) ?_)
    rintro ⟨_, H5, n5⟩ ⟨s5, r5, rfl, e1, er, e2, e3⟩
    dsimp only at e1 e2 e3 ⊢
    have eo : ∀ m, m < nx → H5.at' m = H.at' m := fun m hm => (e3 m (by omega)).trans (o0 m hm)
    clear e3
    refine y_under fun hund5 => ?_
    obtain ⟨k5, w5, rfl, ek, ew⟩ := e1
    have hone5 : ∀ x y : Nat, allOne (verC k5 w5 x y) = true := fun x y => by simp only [allOne, bs_one ek.bs, bs_one ew.bs]; rfl
    (repeat (first | (refine w_storeN rfl rfl rfl (F.sz _ rfl) (by (focus ((repeat (first | assumption | exact Tr.at_set_same _ _ _)); done))) rfl (by exact Nat.le_of_ble_eq_true rfl) (hone5 _ _) rfl ?_) | (first | refine y_seq ?_ | refine w_region ?_ | refine y_regEnd ?_ | (apply w_move; exact rfl; exact rfl; exact rfl) | (apply w_assign; exact rfl; exact rfl; exact rfl) | (apply w_extract; exact rfl; exact rfl; exact rfl; exact rfl) | (apply w_alloc; exact rfl; exact rfl; exact (F.zl _ rfl)))))
    refine w_call rfl rfl rfl (by kernel_rfl) (Fnc.mono (ofr_s (by (focus ((repeat (refine (Tr.at_set_other _ _ (by omega)).trans ?_)); exact (eo r lr).trans hr))) (by omega)) ?_)
    rintro ⟨_, H6, n6⟩ ⟨s6, rfl, ⟨k6, w6, x6, y6, rfl, f1, f2⟩, f3, f4, f5⟩
    dsimp only at f3 f4 f5 ⊢
    have fo : ∀ m, m < nx → H6.at' m = H.at' m := fun m hm => (f5 m (by omega)).trans (by (focus ((repeat (refine (Tr.at_set_other _ _ (by omega)).trans ?_)); exact eo m hm)))
    have f9 : H6.at' n5 = some (verO (verC k5 w5 ((ofV l).getD zeroV).2.2.1 ((ofV l).getD zeroV).2.2.2)) := (f5 n5 (by omega)).trans (Tr.at_set_same _ _ _)
    have fr : ∀ m, m < n5 → H6.at' m = H5.at' m := fun m hm => (f5 m (by omega)).trans (by (focus ((repeat (refine (Tr.at_set_other _ _ (by omega)).trans ?_)); exact rfl)))
    clear f5
    have hone6 : allOne (verC k6 w6 x6 y6) = true := by simp only [allOne, f1, f2]; rfl
    (repeat (first | (refine w_storeN rfl rfl rfl (F.sz _ rfl) (by (focus ((repeat (first | assumption | exact Tr.at_set_same _ _ _)); done))) rfl (by exact Nat.le_of_ble_eq_true rfl) hone6 rfl ?_) | (first | refine y_seq ?_ | refine w_region ?_ | refine y_regEnd ?_ | (apply w_move; exact rfl; exact rfl; exact rfl) | (apply w_assign; exact rfl; exact rfl; exact rfl) | (apply w_extract; exact rfl; exact rfl; exact rfl; exact rfl) | (apply w_alloc; exact rfl; exact rfl; exact (F.zl _ rfl)) | (apply w_notB; exact rfl; exact rfl; exact rfl))))
    rw [of_eq] at f9 ek ew ⊢
    cases ho : ofR l with
    | none =>
      rw [ho] at f9 ek ew
      (repeat (first | (first | refine y_seq ?_ | refine w_region ?_ | refine y_regEnd ?_ | refine y_condT rfl ?_ | (apply w_move; exact rfl; exact rfl; exact rfl) | (apply w_assign; exact rfl; exact rfl; exact rfl) | (apply w_pickT; exact rfl; exact rfl; exact rfl; exact rfl) | (apply w_fieldAddr; exact rfl; exact rfl; exact rfl; exact (F.fo _ _ rfl rfl)) | refine w_loadB1 rfl rfl rfl (F.ag _ rfl) (by (focus ((repeat (first | assumption | refine (Tr.at_set_other _ _ (by omega)).trans ?_)); done))) (by exact rfl) ?_) | (refine w_eqlS rfl rfl rfl rfl (fun _ => ?_) (fun hq => absurd rfl hq)) | (refine w_lenB rfl rfl (F.un _ rfl) rfl (blk_under ek hund5 fun m hm => by (focus ((repeat (refine (Tr.at_set_other _ _ (by omega)).trans ?_)); exact fr m hm))).bs ?_) | (refine w_call rfl rfl rfl (by kernel_rfl) (Fnc.mono (known_f) ?_); rintro _ rfl; dsimp only)))
      ((apply w_ret Try.func3 (congrArg Array.toList Try.results3)); (focus (repeat (first | exact ResIs.nil | apply ResIs.tmp rfl))))
      rfl
    | some u =>
      rw [ho] at f9 ek ew
      have hu6 := f3 u ho
      have hsame : ∀ (H' : Heap) (nx' : Nat), (∀ m, m < n6 → H'.at' m = H6.at' m) → Fnc Try.prog 10 [verS k5 w5 u.2.2.1 u.2.2.2, verS k6 w6 x6 y6] H' nx' (fun q => q = (.sc (.bool true), H', nx')) := fun H' nx' h => same_s ⟨k5, w5, rfl, (blk_under ek hund5 fun m hm => (h m (by omega)).trans (fr m hm)).bs, (blk_under ew hund5 fun m hm => (h m (by omega)).trans (fr m hm)).bs⟩ (hu6.frame (h r (by omega))).is
      (repeat (first | (first | refine y_seq ?_ | refine w_region ?_ | refine y_regEnd ?_ | refine y_skip ?_ | refine y_condF rfl ?_ | (apply w_move; exact rfl; exact rfl; exact rfl) | (apply w_assign; exact rfl; exact rfl; exact rfl) | (apply w_pickT; exact rfl; exact rfl; exact rfl; exact rfl) | refine w_loadBN rfl rfl rfl (F.ag _ rfl) (by (focus ((repeat (first | assumption | exact Tr.at_set_same _ _ _ | refine (Tr.at_set_other _ _ (by omega)).trans ?_)); done))) (by exact rfl) ?_) | (refine w_eqlS rfl rfl rfl rfl (fun _ => ?_) (fun hq => absurd rfl hq)) | (refine w_call rfl rfl rfl (by kernel_rfl) (Fnc.mono (hsame _ _ (fun m hm => by (focus ((repeat (refine (Tr.at_set_other _ _ (by omega)).trans ?_)); exact rfl)))) ?_); rintro _ rfl; dsimp only) | (refine w_call rfl rfl rfl (by kernel_rfl) (Fnc.mono (known_f) ?_); rintro _ rfl; dsimp only)))
      ((apply w_ret Try.func3 (congrArg Array.toList Try.results3)); (focus (repeat (first | exact ResIs.nil | apply ResIs.tmp rfl))))
      rfl
  | true =>
    rw [hm] at cM cR
    have hmd := of_decide_eq_true hm
    have hlen := bytesV_len v
    refine w_call rfl rfl rfl (by kernel_rfl) (Fnc.mono (bytes_s (nx := nx + 1) (hvB H0 o0) hm) ?_)
    rintro ⟨_, H1, n1⟩ ⟨rc, rfl, a1, a2, a3, a4⟩
    dsimp only at a1 a3 a4 ⊢
    have b1 : H1.at' nx = some (verO (verC k w v.2.2.1 v.2.2.2)) := (a4 nx (by omega)).trans b0
    have o1 : ∀ m, m < nx → H1.at' m = H.at' m := fun m hm => (a4 m (by omega)).trans (o0 m hm)
    clear b0 o0 a4
    (repeat (first | refine y_seq ?_ | refine y_regEnd ?_ | (apply w_move; exact rfl; exact rfl; exact rfl) | (apply w_assign; exact rfl; exact rfl; exact rfl) | (apply w_extract; exact rfl; exact rfl; exact rfl; exact rfl)))
    (apply w_drawE; (focus (kernel_rfl)); (focus (kernel_rfl)))
    (repeat (first | refine dw_loadBN rfl rfl rfl (F.ag _ rfl) (by (focus ((repeat (assumption)); done))) (by exact rfl) ?_ | ((apply dk_call; exact rfl; exact rfl; exact rfl; (focus (kernel_rfl)); exact (cM _ _ o1))) | ((apply dk_call; exact rfl; exact rfl; exact rfl; (focus (kernel_rfl)); exact (cR _ _ o1))) | (apply dk_read; exact rfl; exact rfl; exact (fun _ h => by cases h); exact (rd_neB (F.un _ rfl) rfl rfl))))
    (refine dk_nil ?_); (refine ⟨by kernel_rfl, ?_, ?_⟩); (focus (repeat (first | exact trivial | refine ⟨.inl (chk_chain rfl), ?_⟩ | refine ⟨.inr ⟨0, by kernel_rfl, (by (refine ⟨(by (exact rd_loadN (F.ag _ rfl) rfl (by (focus ((repeat (assumption)); done))) (cellsFrom_box _ 0 rfl rfl))), ?_⟩; (repeat (refine ⟨(by (exact rd_loadN (F.ag _ rfl) rfl (by (focus ((repeat (assumption)); done))) (cellsFrom_box _ 0 rfl rfl))), ?_⟩)); exact trivial))⟩, ?_⟩ | refine ⟨.inl (by kernel_rfl), ?_⟩)))
    (repeat (first | (first | refine y_seq ?_ | refine w_region ?_ | refine y_regEnd ?_ | refine y_skip ?_ | refine y_condF rfl ?_ | (apply w_move; exact rfl; exact rfl; exact rfl) | refine w_loadBN rfl rfl rfl (F.ag _ rfl) (by (focus ((repeat (assumption)); done))) (by exact rfl) ?_ | (apply w_notB; exact rfl; exact rfl; exact rfl)) | (refine w_call rfl rfl rfl (by kernel_rfl) (Fnc.mono (cR _ _ o1) ?_); rintro _ rfl; dsimp only)))
    refine w_call rfl rfl rfl (by kernel_rfl) (Fnc.mono (of_s (row_bs a1) (by omega)) ?_)
    rintro ⟨_, H2, n2⟩ ⟨s2, r2, rfl, c1, cr, c2, c3⟩
    rw [of_bytes hm] at c1 ⊢
    obtain ⟨k2, w2, rfl, gk, gw⟩ := c1
    dsimp only at gk gw c2 c3 ⊢
    have b2 : H2.at' nx = some (verO (verC k w v.2.2.1 v.2.2.2)) := (c3 nx (by omega)).trans b1
    have o2 : ∀ m, m < nx → H2.at' m = H.at' m := fun m hm => (c3 m (by omega)).trans (o1 m hm)
    have d1 : H2.at' rc = some (u8R false (byV (bytesV v))) := (c3 rc a3).trans a1
    clear c3 a1 b1 o1
    have hone2 : ∀ x y : Nat, allOne (verC k2 w2 x y) = true := fun x y => by simp only [allOne, bs_one gk.bs, bs_one gw.bs]; rfl
    refine y_under fun hund2 => ?_
    (repeat (first | (refine w_storeN rfl rfl rfl (F.sz _ rfl) (by (focus ((repeat (first | assumption | exact Tr.at_set_same _ _ _)); done))) rfl (by exact Nat.le_of_ble_eq_true rfl) (hone2 _ _) rfl ?_) | (first | refine y_seq ?_ | refine y_regEnd ?_ | (apply w_move; exact rfl; exact rfl; exact rfl) | (apply w_assign; exact rfl; exact rfl; exact rfl) | (apply w_extract; exact rfl; exact rfl; exact rfl; exact rfl) | (apply w_alloc; exact rfl; exact rfl; exact (F.zl _ rfl)))))
    refine y_gen (R := fun H3 n3 => n3 = n2 + 1 ∧ H3.at' n2 = some (verO (verC k2 w2 v.2.2.1 v.2.2.2)) ∧ H3.at' nx = some (verO (verC k w v.2.2.1 v.2.2.2)) ∧ H3.at' rc = some (u8R false (byV (bytesV v))) ∧ (∀ m, m < n2 → H3.at' m = H2.at' m)) ⟨rfl, Tr.at_set_same _ _ _, by (focus ((repeat (first | assumption | refine (Tr.at_set_other _ _ (by omega)).trans ?_)); done)), by (focus ((repeat (first | assumption | refine (Tr.at_set_other _ _ (by omega)).trans ?_)); done)), fun m hm => by (focus ((repeat (refine (Tr.at_set_other _ _ (by omega)).trans ?_)); exact rfl))⟩ ?_
    rintro H3 n3 ⟨rfl, e7, e1, ec, eo2⟩
    have o3 : ∀ m, m < nx → H3.at' m = H.at' m := fun m hm => (eo2 m (by omega)).trans (o2 m hm)
    have hcB : ∀ H' : Heap, H'.at' rc = H3.at' rc → BsIs H' (.slu rc 0 (bytesV v).length) (u8L ⟨(bytesV v).toArray⟩) := fun H' h => bs_u8 (row_bs (h.trans ec))
    have hsm : ∀ (H' : Heap) (nx' : Nat), (∀ m, m < n2 → H'.at' m = H3.at' m) → Fnc Try.prog 10 [verS k w v.2.2.1 v.2.2.2, verS k2 w2 v.2.2.1 v.2.2.2] H' nx' (fun q => q = (.sc (.bool true), H', nx')) := fun H' nx' h => same_s (hvB H' fun m hm => (h m (by omega)).trans (o3 m hm)) ⟨k2, w2, rfl, (blk_under gk hund2 fun m hm => (h m hm).trans (eo2 m hm)).bs, (blk_under gw hund2 fun m hm => (h m hm).trans (eo2 m hm)).bs⟩
    have hbr := bytesr_s (nx := n2 + 1) (hvB H3 o3) hm
    have hneq : ((⟨(bytesV v).toArray⟩ : ByteArray) != ⟨(bytesV v).toArray⟩) = false := by rw [show ((⟨(bytesV v).toArray⟩ : ByteArray) != ⟨(bytesV v).toArray⟩) = !((⟨(bytesV v).toArray⟩ : ByteArray) == ⟨(bytesV v).toArray⟩) from rfl, beq_self]; rfl
    (apply w_drawE; (focus (kernel_rfl)); (focus (kernel_rfl)))
    (repeat (first | (first | (apply dw_move; exact rfl; exact rfl; exact rfl) | (apply dw_pickF; exact rfl; exact rfl; exact rfl; exact rfl) | (apply dw_notB; exact rfl; exact rfl; exact rfl)) | refine dw_loadBN rfl rfl rfl (F.ag _ rfl) (by (focus ((repeat (first | assumption | refine (Tr.at_set_other _ _ (by omega)).trans ?_)); done))) (by exact rfl) ?_ | (refine dw_neqS rfl rfl rfl rfl (fun hq => absurd rfl hq) (fun _ => ?_)) | ((apply dw_toStr; exact rfl; exact rfl; exact rfl; exact (F.un _ rfl); exact (F.un _ rfl); exact (F.un _ rfl); exact (hcB _ rfl))) | (refine dk_call rfl rfl rfl (by kernel_rfl) hbr ?_) | (refine dw_toStr rfl rfl rfl (F.un _ rfl) (F.un _ rfl) (F.un _ rfl) (bs_u8 (bs_row (by (focus ((repeat (first | assumption | exact Tr.at_set_same _ _ _)); done))) rfl)) ?_) | (refine dw_neStrV (r := false) rfl rfl rfl rfl hneq ?_) | (refine dk_call rfl rfl rfl (by kernel_rfl) (hsm _ _ (fun m hm => by (focus ((repeat (refine (Tr.at_set_other _ _ (by omega)).trans ?_)); exact rfl)))) ?_)))
    (refine dk_nil ?_); (refine ⟨by kernel_rfl, ?_, ?_⟩); (focus (repeat (first | exact trivial | refine ⟨.inl (chk_chain rfl), ?_⟩ | refine ⟨.inr ⟨0, by kernel_rfl, AllH.all (fun _ => (by first | exact rd_move rfl | exact rd_not rfl | exact rd_pickF rfl rfl)) _⟩, ?_⟩ | refine ⟨.inr ⟨0, by kernel_rfl, (by (refine ⟨(by first | exact rd_loadN (F.ag _ rfl) rfl (by (focus ((repeat (first | assumption | refine (Tr.at_set_other _ _ (by omega)).trans ?_)); done))) (cellsFrom_box _ 0 rfl rfl) | exact rd_toStr (F.un _ rfl) (F.un _ rfl) (F.un _ rfl) rfl (hcB _ (by (focus ((repeat (refine (Tr.at_set_other _ _ (by omega)).trans ?_)); exact rfl)))) | exact rd_toStr (F.un _ rfl) (F.un _ rfl) (F.un _ rfl) rfl (bs_u8 (bs_row (by (focus ((repeat (first | assumption | exact Tr.at_set_same _ _ _)); done))) rfl)) | exact rd_neStrV rfl rfl hneq | exact rd_cmp rfl rfl (.inr (.inl ⟨rfl, rfl⟩))), ?_⟩; (repeat (refine ⟨(by first | exact rd_loadN (F.ag _ rfl) rfl (by (focus ((repeat (first | assumption | refine (Tr.at_set_other _ _ (by omega)).trans ?_)); done))) (cellsFrom_box _ 0 rfl rfl) | exact rd_toStr (F.un _ rfl) (F.un _ rfl) (F.un _ rfl) rfl (hcB _ (by (focus ((repeat (refine (Tr.at_set_other _ _ (by omega)).trans ?_)); exact rfl)))) | exact rd_toStr (F.un _ rfl) (F.un _ rfl) (F.un _ rfl) rfl (bs_u8 (bs_row (by (focus ((repeat (first | assumption | exact Tr.at_set_same _ _ _)); done))) rfl)) | exact rd_neStrV rfl rfl hneq | exact rd_cmp rfl rfl (.inr (.inl ⟨rfl, rfl⟩))), ?_⟩)); exact trivial))⟩, ?_⟩ | refine ⟨.inl (by kernel_rfl), ?_⟩)))
    refine y_gen (R := fun H4 n4 => n4 = n2 + 1 + 1 ∧ ∀ m, m < nx → H4.at' m = H.at' m) ⟨rfl, fun m hm => by (focus ((repeat (refine (Tr.at_set_other _ _ (by omega)).trans ?_)); exact o3 m hm))⟩ ?_
    rintro H4 n4 ⟨rfl, o4⟩
    clear hsm hbr hcB eo2 e7 e1 ec
    (repeat (first | refine y_seq ?_ | refine w_region ?_ | refine y_skip ?_ | refine y_condF rfl ?_ | (apply w_move; exact rfl; exact rfl; exact rfl)))
    refine w_call rfl rfl rfl (by kernel_rfl) (Fnc.mono (of_s (hbB _ o4) (by omega)) ?_)
    rintro ⟨_, H5, n5⟩ ⟨s5, r5, rfl, e1, er, e2, e3⟩
    dsimp only at e1 e2 e3 ⊢
    have eo : ∀ m, m < nx → H5.at' m = H.at' m := fun m hm => (e3 m (by omega)).trans (o4 m hm)
    clear e3
    refine y_under fun hund5 => ?_
    obtain ⟨k5, w5, rfl, ek, ew⟩ := e1
    have hone5 : ∀ x y : Nat, allOne (verC k5 w5 x y) = true := fun x y => by simp only [allOne, bs_one ek.bs, bs_one ew.bs]; rfl
    (repeat (first | (refine w_storeN rfl rfl rfl (F.sz _ rfl) (by (focus ((repeat (first | assumption | exact Tr.at_set_same _ _ _)); done))) rfl (by exact Nat.le_of_ble_eq_true rfl) (hone5 _ _) rfl ?_) | (first | refine y_seq ?_ | refine w_region ?_ | refine y_regEnd ?_ | (apply w_move; exact rfl; exact rfl; exact rfl) | (apply w_assign; exact rfl; exact rfl; exact rfl) | (apply w_extract; exact rfl; exact rfl; exact rfl; exact rfl) | (apply w_alloc; exact rfl; exact rfl; exact (F.zl _ rfl)))))
    refine w_call rfl rfl rfl (by kernel_rfl) (Fnc.mono (ofr_s (by (focus ((repeat (refine (Tr.at_set_other _ _ (by omega)).trans ?_)); exact (eo r lr).trans hr))) (by omega)) ?_)
    rintro ⟨_, H6, n6⟩ ⟨s6, rfl, ⟨k6, w6, x6, y6, rfl, f1, f2⟩, f3, f4, f5⟩
    dsimp only at f3 f4 f5 ⊢
    have fo : ∀ m, m < nx → H6.at' m = H.at' m := fun m hm => (f5 m (by omega)).trans (by (focus ((repeat (refine (Tr.at_set_other _ _ (by omega)).trans ?_)); exact eo m hm)))
    have f9 : H6.at' n5 = some (verO (verC k5 w5 ((ofV l).getD zeroV).2.2.1 ((ofV l).getD zeroV).2.2.2)) := (f5 n5 (by omega)).trans (Tr.at_set_same _ _ _)
    have fr : ∀ m, m < n5 → H6.at' m = H5.at' m := fun m hm => (f5 m (by omega)).trans (by (focus ((repeat (refine (Tr.at_set_other _ _ (by omega)).trans ?_)); exact rfl)))
    clear f5
    have hone6 : allOne (verC k6 w6 x6 y6) = true := by simp only [allOne, f1, f2]; rfl
    (repeat (first | (refine w_storeN rfl rfl rfl (F.sz _ rfl) (by (focus ((repeat (first | assumption | exact Tr.at_set_same _ _ _)); done))) rfl (by exact Nat.le_of_ble_eq_true rfl) hone6 rfl ?_) | (first | refine y_seq ?_ | refine w_region ?_ | refine y_regEnd ?_ | (apply w_move; exact rfl; exact rfl; exact rfl) | (apply w_assign; exact rfl; exact rfl; exact rfl) | (apply w_extract; exact rfl; exact rfl; exact rfl; exact rfl) | (apply w_alloc; exact rfl; exact rfl; exact (F.zl _ rfl)) | (apply w_notB; exact rfl; exact rfl; exact rfl))))
    rw [of_eq] at f9 ek ew ⊢
    cases ho : ofR l with
    | none =>
      rw [ho] at f9 ek ew
      (repeat (first | (first | refine y_seq ?_ | refine w_region ?_ | refine y_regEnd ?_ | refine y_condT rfl ?_ | (apply w_move; exact rfl; exact rfl; exact rfl) | (apply w_assign; exact rfl; exact rfl; exact rfl) | (apply w_pickT; exact rfl; exact rfl; exact rfl; exact rfl) | (apply w_fieldAddr; exact rfl; exact rfl; exact rfl; exact (F.fo _ _ rfl rfl)) | refine w_loadB1 rfl rfl rfl (F.ag _ rfl) (by (focus ((repeat (first | assumption | refine (Tr.at_set_other _ _ (by omega)).trans ?_)); done))) (by exact rfl) ?_) | (refine w_eqlS rfl rfl rfl rfl (fun _ => ?_) (fun hq => absurd rfl hq)) | (refine w_lenB rfl rfl (F.un _ rfl) rfl (blk_under ek hund5 fun m hm => by (focus ((repeat (refine (Tr.at_set_other _ _ (by omega)).trans ?_)); exact fr m hm))).bs ?_) | (refine w_call rfl rfl rfl (by kernel_rfl) (Fnc.mono (known_f) ?_); rintro _ rfl; dsimp only)))
      ((apply w_ret Try.func3 (congrArg Array.toList Try.results3)); (focus (repeat (first | exact ResIs.nil | apply ResIs.tmp rfl))))
      rfl
    | some u =>
      rw [ho] at f9 ek ew
      have hu6 := f3 u ho
      have hsame : ∀ (H' : Heap) (nx' : Nat), (∀ m, m < n6 → H'.at' m = H6.at' m) → Fnc Try.prog 10 [verS k5 w5 u.2.2.1 u.2.2.2, verS k6 w6 x6 y6] H' nx' (fun q => q = (.sc (.bool true), H', nx')) := fun H' nx' h => same_s ⟨k5, w5, rfl, (blk_under ek hund5 fun m hm => (h m (by omega)).trans (fr m hm)).bs, (blk_under ew hund5 fun m hm => (h m (by omega)).trans (fr m hm)).bs⟩ (hu6.frame (h r (by omega))).is
      (repeat (first | (first | refine y_seq ?_ | refine w_region ?_ | refine y_regEnd ?_ | refine y_skip ?_ | refine y_condF rfl ?_ | (apply w_move; exact rfl; exact rfl; exact rfl) | (apply w_assign; exact rfl; exact rfl; exact rfl) | (apply w_pickT; exact rfl; exact rfl; exact rfl; exact rfl) | refine w_loadBN rfl rfl rfl (F.ag _ rfl) (by (focus ((repeat (first | assumption | exact Tr.at_set_same _ _ _ | refine (Tr.at_set_other _ _ (by omega)).trans ?_)); done))) (by exact rfl) ?_) | (refine w_eqlS rfl rfl rfl rfl (fun _ => ?_) (fun hq => absurd rfl hq)) | (refine w_call rfl rfl rfl (by kernel_rfl) (Fnc.mono (hsame _ _ (fun m hm => by (focus ((repeat (refine (Tr.at_set_other _ _ (by omega)).trans ?_)); exact rfl)))) ?_); rintro _ rfl; dsimp only) | (refine w_call rfl rfl rfl (by kernel_rfl) (Fnc.mono (known_f) ?_); rintro _ rfl; dsimp only)))
      ((apply w_ret Try.func3 (congrArg Array.toList Try.results3)); (focus (repeat (first | exact ResIs.nil | apply ResIs.tmp rfl))))
      rfl
end Go.Proofs.Ytdpjbpnemjdhfaa
end
section
namespace Go.Sl
open Go Go.RowKit Go.WideShapes Go.ChangeShapes
theorem post_new {H : Type} {enc : TypeId × Value → H} {P : Program} {f : Func} {s : ChangeSpec} {apart fresh handsOn again : Bool} {W W' : World} {args : Array Value} {v : Value} {ds gs : List (DataW H)} {before pa pv : List MemPlace}
    (hW : DataW.Whole enc P f.params.toList s.vars apart W args.toList ds gs before) (hb : Below W.heap.size W W') (hps : before = pa ++ pv)
    (hres : ∀ (b : Nat) (sp : Nat → Bool) (hd : Bool), DataW.TrodAll enc P W' b sp hd f.resultTypes.toList (v.resultList f.resultTypes.size) (s.fn H (ds ++ gs)).results [])
    (hargs : ∀ sp : Nat → Bool, (∀ p ∈ before, sp p.block = true) → DataW.TrodAll enc P W' 0 sp true f.params.toList args.toList (s.fn H (ds ++ gs)).args pa)
    (hvars : ∀ sp : Nat → Bool, (∀ p ∈ before, sp p.block = true) → DataW.TrodVars enc P W' sp s.vars (s.fn H (ds ++ gs)).vars pv)
    (hok : ∀ (j : Nat) (t : TypeId) (r : Value), f.resultTypes[j]? = some t → (v.resultList f.resultTypes.size)[j]? = some r → Value.okWide P W' .any 0 t r) :
    s.post enc P f apart fresh handsOn again W args v W' := by
  have hsp : ∀ p ∈ before, (fun b => decide (b < W.heap.size)) p.block = true := fun p hp => by simpa using hW.lt p hp
  have hmem : ∀ p, p ∈ pa ++ pv ↔ p ∈ before := fun p => by rw [hps]
  refine ⟨ds, gs, before, [], pa, pv, hW, hres _ _ _, hargs _ hsp, hvars _ hsp, World.keptBut_mono (fun p hp => ⟨hp, ?_⟩) (hb.frame (· ∈ before)), fun _ => ?_⟩
  · have := (hmem p).2 hp
    rw [List.mem_append] at this
    exact .inr this
  obtain ⟨_, _, _, _, _, hz, hn⟩ := id hW
  refine ⟨hok, _, _, ([] ++ pa) ++ pv, ⟨[] ++ pa, pv, trodAll_append (hargs _ (fun _ _ => rfl)) (hres _ _ _), hvars _ (fun _ _ => rfl), rfl, fun b off hp => ?_, fun ha => ?_⟩, fun p hp _ => ?_⟩
  · have hin : MemPlace.cell b off ∈ before := (hmem _).1 (by simpa using hp)
    rw [hb.frozen (hW.lt _ hin)]
    exact hz b off hin
  · have := hn ha
    rw [hps] at this
    simpa using this
  · exact (hmem p).1 (by simpa using hp)
end Go.Sl
end
section
namespace Go.Sy
open Go Go.Sl Go.RowKit Go.WideShapes
theorem rowAt_off (p : Program) (fits : TypeId → Bool) (d : Nat) (e : TypeId) (count off n : Nat) (h : rowAt p fits d e count off n = true) : off ≤ count * p.cellsOf e := by
  cases d with
  | zero => simp [rowAt] at h
  | succ d =>
    unfold rowAt at h
    simp only at h
    split at h
    · cases h
    · rename_i hs
      have hdiv := Nat.div_add_mod off (p.cellsOf e)
      rw [Bool.or_eq_true] at h
      rcases h with h | h
      · simp only [Bool.and_eq_true, beq_iff_eq, decide_eq_true_eq] at h
        obtain ⟨⟨h1, h2⟩, _⟩ := h
        have : p.cellsOf e * (off / p.cellsOf e) ≤ p.cellsOf e * count := Nat.mul_le_mul_left _ (by omega)
        rw [Nat.mul_comm count]
        omega
      · rw [Bool.and_eq_true, decide_eq_true_eq] at h
        have hm := Nat.mod_lt off (Nat.pos_of_ne_zero hs)
        have : p.cellsOf e * (off / p.cellsOf e + 1) ≤ p.cellsOf e * count := Nat.mul_le_mul_left _ (by omega)
        rw [Nat.mul_add, Nat.mul_one] at this
        rw [Nat.mul_comm count]
        omega
theorem liesAt_off (p : Program) : ∀ (d : Nat) (e : TypeId) (count off : Nat) (u : TypeId) (n : Nat), liesAt p d e count off u n = true → off ≤ count * p.cellsOf e
  | 0, _, _, _, _, _, h => by simp [liesAt] at h
  | d + 1, e, count, off, u, n, h => by
    unfold liesAt at h
    rw [Bool.or_eq_true] at h
    rcases h with h | h
    · exact rowAt_off p _ _ e count off n h
    · split at h
      · exact liesAt_off p d e count off _ _ h
      · cases h
theorem mapM_range {A : Type} {f : Nat → Option A} : ∀ {n : Nat} {l : List A}, (List.range n).mapM f = some l → l.length = n ∧ ∀ i, i < n → f i = l[i]? := by
  intro n
  induction n with
  | zero => intro l h; simp at h; subst h; exact ⟨rfl, fun i hi => by omega⟩
  | succ n ih =>
    intro l h
    rw [List.range_succ, List.mapM_append] at h
    simp only [Option.bind_eq_bind, Option.bind_eq_some_iff] at h
    obtain ⟨a, ha, b, hb, hl⟩ := h
    obtain ⟨h1, h2⟩ := ih ha
    cases hf : f n with
    | none => simp [hf] at hb
    | some x =>
      simp [hf] at hb
      subst hb
      simp at hl
      subst hl
      refine ⟨by simp [h1], fun i hi => ?_⟩
      rcases Nat.lt_or_ge i n with h | h
      · rw [List.getElem?_append_left (by omega)]; exact h2 i h
      · obtain rfl : i = n := by omega
        rw [hf, List.getElem?_append_right (by omega), h1]
        simp
theorem slice_arg {b0 : Nat} {H : Type} {enc : TypeId × Value → H} {P : Program} {w : World} {t e : TypeId} {sz : Nat} {v : Value} {dd : DataW H} {p : List MemPlace} (ht : P.underlying t = some (.slice e)) (hc : P.cellsOf e = sz) (h0 : 0 < sz)
    (hT : DataW.Trod enc P w 0 (fun _ => true) true t v dd p) (hok : Value.okWide P w .any b0 t v) :
    (v = .slice none 0 0) ∨ ∃ (b o len cap : Nat) (cs : Array Value) (tt : TypeId) (fz : Nat × Nat), v = .slice (some ⟨b, o, none⟩) len cap ∧ w.heap[b]? = some (.cells cs tt fz) ∧ len ≤ cap ∧ cap ≤ maxLen ∧ o + cap * sz ≤ cs.size ∧
      ∀ i, i < len → ∃ us : List Value, us.length = sz ∧ (∀ j, j < sz → cs[o + i * sz + j]? = us[j]?) ∧ ∃ n y, DataW.trod enc P w 0 (fun _ => true) true n e us = some y := by
  obtain ⟨fuel, hT⟩ := hT
  obtain ⟨a0, len0, cap0, rfl⟩ := okWide_slice ht hok
  have hcells : (Value.slice a0 len0 cap0).cells.toList = [.slice a0 len0 cap0] := rfl
  rw [hcells] at hT
  rcases DataW.trod_slice ht hT with ⟨h1, _⟩ | ⟨a, len, cap, elems, rest, n, _, h1, _, _, h3, h4, h5, h6, h7, _⟩
  · left
    simpa using h1
  · right
    simp only [List.cons.injEq, and_true, Value.slice.injEq] at h1
    obtain ⟨rfl, rfl, rfl⟩ := h1
    unfold Value.okWide at hok
    rw [ht] at hok
    simp only at hok
    unfold Cell.okWide at hok
    rw [ht] at hok
    simp only at hok
    unfold Cell.ok at hok
    rw [ht] at hok
    simp only at hok
    obtain ⟨_, _, _, hsp, row, cells, hsh, hli⟩ := hok
    obtain ⟨b, o, sp⟩ := a
    simp only at hsp hsh hli h6 h7
    subst hsp
    unfold World.shape? at hsh
    cases hob : w.heap[b]? with
    | none => rw [hob] at hsh; cases hsh
    | some ob =>
      rw [hob] at hsh
      cases ob with
      | cells cs tt fz =>
        simp only [Option.some.injEq, Prod.mk.injEq] at hsh
        obtain ⟨rfl, rfl⟩ := hsh
        have hoff := liesAt_off P _ _ _ _ _ _ hli
        have hoff2 : o ≤ cs.size := Nat.le_trans hoff (Nat.div_mul_le_self _ _)
        have hcell : ∀ q : Nat, w.cell? ⟨b, q, none⟩ = cs[q]? := fun q => by simp [World.cell?, hob]
        have hget : ∀ (q : Nat) (us : List Value), w.cells? 0 ((⟨b, o, none⟩ : Addr).add (q * P.cellsOf e)) (P.cellsOf e) = some us → us.length = sz ∧ ∀ j, j < sz → cs[o + q * sz + j]? = us[j]? := by
          intro q us hus
          rw [add_plain] at hus
          unfold World.cells? at hus
          rw [if_pos (Nat.zero_le _)] at hus
          obtain ⟨g1, g2⟩ := mapM_range hus
          rw [hc] at g1 g2 hus
          refine ⟨g1, fun j hj => ?_⟩
          have := g2 j hj
          rw [add_plain, hcell] at this
          exact this
        refine ⟨b, o, len0, cap0, cs, tt, fz, rfl, hob, h3, h4, ?_, fun i hi => ?_⟩
        · rcases Nat.eq_zero_or_pos cap0 with hz | hz
          · subst hz; simpa using hoff2
          · have hlast : ∃ us, w.cells? 0 ((⟨b, o, none⟩ : Addr).add ((cap0 - 1) * P.cellsOf e)) (P.cellsOf e) = some us := by
              rcases Nat.lt_or_ge (cap0 - 1) len0 with hl | hl
              · have h8 := h6 (cap0 - 1) hl
                rw [List.getElem?_eq_getElem (by omega)] at h8
                cases hcs : w.cells? 0 ((⟨b, o, none⟩ : Addr).add ((cap0 - 1) * P.cellsOf e)) (P.cellsOf e) with
                | none => rw [hcs] at h8; cases h8
                | some us => exact ⟨us, rfl⟩
              · obtain ⟨h9, h10⟩ := h7 trivial
                have h8 := h10 (cap0 - 1 - len0) (by omega)
                rw [List.getElem?_eq_getElem (by omega), show len0 + (cap0 - 1 - len0) = cap0 - 1 by omega] at h8
                cases hcs : w.cells? 0 ((⟨b, o, none⟩ : Addr).add ((cap0 - 1) * P.cellsOf e)) (P.cellsOf e) with
                | none => rw [hcs] at h8; cases h8
                | some us => exact ⟨us, rfl⟩
            obtain ⟨us, hus⟩ := hlast
            obtain ⟨g1, g2⟩ := hget _ _ hus
            have g3 := g2 (sz - 1) (by omega)
            rw [List.getElem?_eq_getElem (show sz - 1 < us.length by omega)] at g3
            have g4 := (Array.getElem?_eq_some_iff.1 g3).1
            have : cap0 * sz = (cap0 - 1) * sz + sz := by
              conv => lhs; rw [show cap0 = cap0 - 1 + 1 by omega, Nat.add_mul, Nat.one_mul]
            omega
        · have h8 := h6 i hi
          rw [List.getElem?_eq_getElem (by omega)] at h8
          cases hcs : w.cells? 0 ((⟨b, o, none⟩ : Addr).add (i * P.cellsOf e)) (P.cellsOf e) with
          | none => rw [hcs] at h8; cases h8
          | some us =>
            rw [hcs] at h8
            simp only [Option.bind_some] at h8
            obtain ⟨g1, g2⟩ := hget _ _ hcs
            exact ⟨us, g1, g2, n, _, h8⟩
      | _ => cases hsh
def oldZone (w : World) : Zone := ⟨fun j => j < w.heap.size, fun j => j < w.heap.size, fun _ h => h⟩
theorem kept_refl (w : World) : Kept (oldZone w) w w := ⟨rfl, rfl, rfl, Nat.le_refl _, fun _ h => h, fun _ _ => rfl⟩
theorem below_of {w0 w : World} (h : Kept (oldZone w0) w0 w) : Below w0.heap.size w0 w := ⟨h.os, h.tape, h.output, h.size, fun j hj => h.block j hj⟩
def argEnt (sz : Nat) : Value → Ent
  | .slice (some a) _ cap => ⟨a.block, a.off, cap, sz, false⟩
  | _ => ⟨0, 0, 0, sz, true⟩
def ArgRow {A : Type} (w : World) (sz : Nat) (f : A → List Value) (v : Value) (l : List A) : Prop :=
  (v = .slice none 0 0 ∧ l = []) ∨ ∃ (b o len cap : Nat) (cs : Array Value) (tt : TypeId) (fz : Nat × Nat), v = .slice (some ⟨b, o, none⟩) len cap ∧ w.heap[b]? = some (.cells cs tt fz) ∧ len = l.length ∧ len ≤ cap ∧ cap ≤ maxLen ∧ o + cap * sz ≤ cs.size ∧
    ∀ i c, l[i]? = some c → ∀ j, j < sz → cs[o + i * sz + j]? = (f c)[j]?
theorem argRow_of {b0 : Nat} {A : Type} {H : Type} {enc : TypeId × Value → H} {P : Program} {w : World} {t e : TypeId} {sz : Nat} {v : Value} {dd : DataW H} {p : List MemPlace} {f : A → List Value} (ht : P.underlying t = some (.slice e)) (hc : P.cellsOf e = sz) (h0 : 0 < sz)
    (hT : DataW.Trod enc P w 0 (fun _ => true) true t v dd p) (hok : Value.okWide P w .any b0 t v) (hf : ∀ n us y, DataW.trod enc P w 0 (fun _ => true) true n e us = some y → ∃ a, us = f a) : ∃ l : List A, ArgRow w sz f v l := by
  rcases slice_arg ht hc h0 hT hok with h | ⟨b, o, len, cap, cs, tt, fz, h1, h2, h3, h4, h5, h6⟩
  · exact ⟨[], .inl ⟨h, rfl⟩⟩
  · have hex : ∀ i, i < len → ∃ a : A, ∀ j, j < sz → cs[o + i * sz + j]? = (f a)[j]? := by
      intro i hi
      obtain ⟨us, g1, g2, n, y, g3⟩ := h6 i hi
      obtain ⟨a, rfl⟩ := hf n us y g3
      exact ⟨a, g2⟩
    refine ⟨(List.range len).attach.map (fun i => Classical.choose (hex i.1 (List.mem_range.1 i.2))), .inr ⟨b, o, len, cap, cs, tt, fz, h1, h2, by simp, h3, h4, h5, ?_⟩⟩
    intro i c hi j hj
    rw [List.getElem?_map] at hi
    obtain ⟨q, hq, rfl⟩ := Option.map_eq_some_iff.1 hi
    have hq1 : q.1 = i := by
      obtain ⟨hlt, hh⟩ := List.getElem?_eq_some_iff.1 hq
      rw [← hh]
      simp
    have := Classical.choose_spec (hex q.1 (List.mem_range.1 q.2)) j hj
    rw [← hq1]
    exact this
theorem ArgRow.conc {A : Type} {w : World} {sz : Nat} {f : A → List Value} {v : Value} {l : List A} (h : ArgRow w sz f v l) {e : Env} {b : Nat} (he : e b = some (argEnt sz v)) : (SV.slu b 0 l.length).conc e = some v := by
  rcases h with ⟨rfl, rfl⟩ | ⟨b', o, len, cap, cs, tt, fz, rfl, h2, rfl, h3, h4, h5, h6⟩
  · simp [SV.conc, he, argEnt, Ent.at]
  · simp [SV.conc, he, argEnt, Ent.at]
theorem flat_get {A : Type} {f : A → List Value} {sz : Nat} (hf : ∀ a, (f a).length = sz) : ∀ (l : List A) (i j : Nat), j < sz → (l.flatMap f)[i * sz + j]? = (l[i]?).bind (fun c => (f c)[j]?)
  | [], i, j, _ => by simp
  | a :: l, 0, j, hj => by
    rw [List.flatMap_cons, List.getElem?_append_left (by rw [hf]; omega)]
    simp
  | a :: l, i + 1, j, hj => by
    rw [List.flatMap_cons, List.getElem?_append_right (by rw [hf, Nat.add_mul]; omega), hf, show (i + 1) * sz + j - sz = i * sz + j by rw [Nat.add_mul]; omega, flat_get hf l i j hj]
    simp
theorem ArgRow.lies {A : Type} {w : World} {sz : Nat} {f : A → List Value} {v : Value} {l : List A} (h : ArgRow w sz f v l) (hf : ∀ a, (f a).length = sz) (h0 : 0 < sz) (rt : TypeId) (e : Env) : Lies (oldZone w) w e (dat true l.length sz rt (l.flatMap f)) (argEnt sz v) := by
  rcases h with ⟨rfl, rfl⟩ | ⟨b, o, len, cap, cs, tt, fz, rfl, h2, rfl, h3, h4, h5, h6⟩
  · exact .inr ⟨rfl, rfl, true, rt, _, rfl, h0⟩
  · refine .inl ⟨rfl, .cells cs tt fz, ⟨fun _ => lt_of_heap h2, fun h => by cases h⟩, h2, rfl, cs, fz, tt, rfl, h3, h5, h4, (fun h => by cases h), h0, fun i hi s hs => ?_⟩
    have hs' : ((l.flatMap f)[i]?).map SV.sc = some s := hs
    obtain ⟨u, hu, rfl⟩ := Option.map_eq_some_iff.1 hs'
    refine ⟨u, rfl, ?_⟩
    have hdm := Nat.div_add_mod i sz
    have hm := Nat.mod_lt i h0
    have e1 : i = i / sz * sz + i % sz := by rw [Nat.mul_comm]; omega
    rw [e1, flat_get hf l _ _ hm] at hu
    obtain ⟨c, hc, hcu⟩ := Option.bind_eq_some_iff.1 hu
    have := h6 (i / sz) c hc (i % sz) hm
    show cs[o + i]? = some u
    rw [e1, ← Nat.add_assoc, this]
    exact hcu
theorem St.init {w : World} {e : Env} {H : Heap} {nx : Nat} (h1 : ∀ id vo, H.at' id = some vo → vo.ro = true ∧ ∃ x, e id = some x ∧ Lies (oldZone w) w e vo x) (h2 : ∀ i, nx ≤ i → e i = none) : St (oldZone w) w e H nx w :=
  ⟨kept_refl w, fun id vo h => (h1 id vo h).2, fun id id' vo vo' x x' h _ _ _ _ _ _ hr _ => by (rw [(h1 id vo h).1] at hr; cases hr), h2⟩
end Go.Sy
end
section
namespace Go.Proofs.Ytdpjbpnemjdhfaa
open Go Go.Sy Go.ChangeShapes Go.WideShapes Go.ChangeAt Go.RowKit
section
variable {H : Type} {enc : TypeId × Value → H} {P : Program} {w : World} {base : Nat} {sp : Nat → Bool} {held : Bool} {n : Nat} {t : TypeId} {cs : List Value} {y : DataW H × List MemPlace}
theorem trod_int_is {k : IntKind} (hu : P.underlying t = some (.int k)) (h : DataW.trod enc P w base sp held n t cs = some y) : ∃ x, cs = [.int k x] ∧ (Lit.int k x).wf = true := by
  cases n with
  | zero => simp [DataW.trod] at h
  | succ n =>
    unfold DataW.trod at h
    rw [hu] at h
    split at h <;> simp_all
end
theorem own : ownKnob Try.prog.godebug = none := by kernel_rfl
theorem laid : laidOutB Try.prog = true := by kernel_rfl
abbrev bV : UInt8 → List Value := fun c => [.int .u8 (c.toNat : Int)]
theorem trod_u8 {H : Type} {enc : TypeId × Value → H} {w : World} {n : Nat} {us : List Value} {y : DataW H × List MemPlace} (h : DataW.trod enc Try.prog w 0 (fun _ => true) true n 5 us = some y) : ∃ c : UInt8, us = bV c := by
  obtain ⟨x, rfl, hx⟩ := trod_int_is (F.un 5 rfl) h
  have hx : 0 ≤ x ∧ x ≤ 255 := by
    simpa [Lit.wf, IntKind.has, IntKind.min, IntKind.max, show IntKind.u8.signed = false from rfl, show IntKind.u8.bits = 8 from rfl] using hx
  refine ⟨UInt8.ofNat x.toNat, ?_⟩
  have : ((UInt8.ofNat x.toNat).toNat : Int) = x := by
    rw [UInt8.toNat_ofNat']
    omega
  show [Value.int .u8 x] = [Value.int .u8 ((UInt8.ofNat x.toNat).toNat : Int)]
  rw [this]
theorem trod_u64 {H : Type} {enc : TypeId × Value → H} {w : World} {n : Nat} {us : List Value} {y : DataW H × List MemPlace} (h : DataW.trod enc Try.prog w 0 (fun _ => true) true n 23 us = some y) : ∃ c : Nat, us = [.int .u64 (c : Int)] := by
  obtain ⟨x, rfl, hx⟩ := trod_int_is (F.un 23 rfl) h
  have hx : 0 ≤ x := by
    simp only [Lit.wf, IntKind.has, IntKind.min, show IntKind.u64.signed = false from rfl, Bool.and_eq_true, decide_eq_true_eq] at hx
    first | exact hx.1 | (simp at hx; omega)
  exact ⟨x.toNat, by rw [Int.toNat_of_nonneg hx]⟩
theorem uVer : Try.prog.underlying 25 = some (.struct (Try.prog.fieldsOf 25)) := by kernel_rfl
theorem fVer : (Try.prog.fieldsOf 25).toList.map (fun f => (f.type, f.offset)) = [(22, 0), (22, 1), (23, 2), (23, 3)] := by kernel_rfl
theorem okWide_cell {w : World} {b0 : Nat} {v : Value} (h : Cell.okWide Try.prog w .any b0 22 v) : Value.okWide Try.prog w .any b0 22 v := by
  unfold Value.okWide
  rw [F.un 22 rfl]
  exact h
set_option maxRecDepth 100000 in
theorem arg_ver {b0 : Nat} {H : Type} {enc : TypeId × Value → H} {w : World} {v : Value} {d : DataW H} {p : List MemPlace} (h : DataW.Trod enc Try.prog w 0 (fun _ => true) true 25 v d p) (hok : Value.okWide Try.prog w .any b0 25 v) :
    ∃ (k u : Value) (lk lw : List UInt8) (x y : Nat), v = .agg #[k, u, .int .u64 (x : Int), .int .u64 (y : Int)] ∧ ArgRow w 1 bV k lk ∧ ArgRow w 1 bV u lw := by
  have hct : Try.prog.cellTypes Try.prog.depth 25 = some [22, 22, 23, 23] := by kernel_rfl
  have hc : Try.prog.cellsOf 25 = 4 := by kernel_rfl
  have hsl : Try.prog.cellsOf 22 = 1 := by kernel_rfl
  have hu6 : Try.prog.cellsOf 23 = 1 := by kernel_rfl
  unfold Value.okWide at hok
  rw [uVer] at hok
  obtain ⟨cs, rfl, hsz, ts, hts, _, hrow⟩ := hok
  rw [hct] at hts
  cases hts
  rw [hc] at hsz
  obtain ⟨fuel, hT⟩ := h
  have hf := fVer
  have hu := uVer
  generalize Try.prog.fieldsOf 25 = fs at hf hu
  obtain ⟨xs, m, _, _, hl, hlen, hx⟩ := DataW.trod_struct hu hT
  obtain ⟨l⟩ := fs
  obtain ⟨us⟩ := cs
  simp only at hf
  have hl4 : l.length = 4 := by simpa using congrArg List.length hf
  rcases l with _ | ⟨f0, _ | ⟨f1, _ | ⟨f2, _ | ⟨f3, _ | ⟨f4, l⟩⟩⟩⟩⟩
  · simp at hl4
  · simp at hl4
  · simp at hl4
  · simp at hl4
  · simp only [List.map_cons, List.map_nil, List.cons.injEq, Prod.mk.injEq, and_true] at hf
    obtain ⟨⟨a1, a2⟩, ⟨b1, b2⟩, ⟨c1, c2⟩, ⟨d1, d2⟩⟩ := hf
    have hlen4 : xs.length = 4 := by simpa using hlen
    have h0 := hx 0 f0 rfl
    have h1 := hx 1 f1 rfl
    have h2 := hx 2 f2 rfl
    have h3 := hx 3 f3 rfl
    rw [a1, a2, hsl] at h0
    rw [b1, b2, hsl] at h1
    rw [c1, c2, hu6] at h2
    rw [d1, d2, hu6] at h3
    have hus : us.length = 4 := by simpa using hsz
    rcases us with _ | ⟨u0, _ | ⟨u1, _ | ⟨u2, _ | ⟨u3, _ | ⟨u4, us⟩⟩⟩⟩⟩
    · simp at hus
    · simp at hus
    · simp at hus
    · simp at hus
    · obtain ⟨z0, g0⟩ : ∃ y, DataW.trod enc Try.prog w 0 (fun _ => true) true m 22 [u0] = some y := ⟨_, h0.trans (List.getElem?_eq_getElem (by omega))⟩
      obtain ⟨z1, g1⟩ : ∃ y, DataW.trod enc Try.prog w 0 (fun _ => true) true m 22 [u1] = some y := ⟨_, h1.trans (List.getElem?_eq_getElem (by omega))⟩
      obtain ⟨_, g2⟩ : ∃ y, DataW.trod enc Try.prog w 0 (fun _ => true) true m 23 [u2] = some y := ⟨_, h2.trans (List.getElem?_eq_getElem (by omega))⟩
      obtain ⟨_, g3⟩ : ∃ y, DataW.trod enc Try.prog w 0 (fun _ => true) true m 23 [u3] = some y := ⟨_, h3.trans (List.getElem?_eq_getElem (by omega))⟩
      obtain ⟨x, hx2⟩ := trod_u64 g2
      obtain ⟨y, hy3⟩ := trod_u64 g3
      simp only [List.cons.injEq, and_true] at hx2 hy3
      subst hx2 hy3
      have ok0 : Value.okWide Try.prog w .any b0 22 u0 := by
        obtain ⟨u, q1, q2⟩ := hrow 0 u0 rfl
        cases q1
        exact okWide_cell q2
      have ok1 : Value.okWide Try.prog w .any b0 22 u1 := by
        obtain ⟨u, q1, q2⟩ := hrow 1 u1 rfl
        cases q1
        exact okWide_cell q2
      obtain ⟨e0, n0, cc0, rfl⟩ := okWide_slice (F.un 22 rfl) ok0
      obtain ⟨e1, n1, cc1, rfl⟩ := okWide_slice (F.un 22 rfl) ok1
      obtain ⟨lk, hk⟩ := argRow_of (f := bV) (sz := 1) (dd := z0.1) (p := z0.2) (F.un 22 rfl) (by kernel_rfl) (by decide) ⟨m, g0⟩ ok0 (fun n us y h => trod_u8 h)
      obtain ⟨lw, hw⟩ := argRow_of (f := bV) (sz := 1) (dd := z1.1) (p := z1.2) (F.un 22 rfl) (by kernel_rfl) (by decide) ⟨m, g1⟩ ok1 (fun n us y h => trod_u8 h)
      exact ⟨_, _, lk, lw, x, y, rfl, hk, hw⟩
    · simp at hus
  · simp at hl4
end Go.Proofs.Ytdpjbpnemjdhfaa
end
