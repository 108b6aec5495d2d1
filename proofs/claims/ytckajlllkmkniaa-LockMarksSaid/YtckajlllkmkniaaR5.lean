/-
  Texts of the proof, merged: L12 L10 L9 L14 LkV Lkf SyFr L15 SyFs L16 Post SyBr La.
-/
import Derived.WalkKit
import Derived.ProofKit
import Derived.OpenShut
import Derived.Below
import Derived.ChangeSame
import Derived.Carry
import Derived.ChangeArms
import Derived.Test.YtckajlllkmkniaaChecked
import Derived.Test.YtckajlllkmkniaaR4
set_option linter.unusedVariables false
set_option linter.unusedSimpArgs false
section
namespace Go.Proofs.Ytckajlllkmkniaa
open Go Go.Sy Go.Sl Go.RowKit
theorem cells_party : (Value.agg #[Value.slice none 0 0, Value.string ⟨#[]⟩]).cells.toList = [Value.slice none 0 0, Value.string ⟨#[]⟩] := by
  simp [Value.cells]
theorem nil_party {e : Env} {nx : Nat} {v : Value} (h0 : e nx = some ⟨0, 0, 0, 1, true⟩) (h1 : (SV.agg (List.map SV.sc (Value.agg #[Value.slice none 0 0, Value.string ⟨#[]⟩]).cells.toList)).conc e = some v) : (SV.agg [.slu nx 0 0, .sc (.string ⟨#[]⟩)]).conc e = some v := by
  rw [cells_party] at h1
  simpa [SV.conc, SV.concL, h0, Ent.at] using h1
theorem cells_held : (Value.agg #[Value.int .u64 0, Value.slice none 0 0]).cells.toList = [Value.int .u64 0, Value.slice none 0 0] := by
  simp [Value.cells]
theorem nil_held {e : Env} {nx o : Nat} {v : Value} (h0 : e nx = some ⟨0, 0, 0, 1, true⟩) (h1 : (SV.agg (List.take 0 (List.map SV.sc (Value.agg #[Value.int .u64 0, Value.slice none 0 0]).cells.toList) ++ (SV.sc (Value.int .u64 (o : Int))).cells ++ List.drop (0 + 1) (List.map SV.sc (Value.agg #[Value.int .u64 0, Value.slice none 0 0]).cells.toList))).conc e = some v) : (SV.agg [.sc (.int .u64 (o : Int)), .slu nx 0 0]).conc e = some v := by
  rw [cells_held] at h1
  simpa [SV.conc, SV.concL, SV.cells, h0, Ent.at] using h1
theorem chg_of {t a b : Nat} {ml' : MLk} {cl' : Nat} {mp' : MPt} {cp' : Nat} {F1 F2 F1' Fp : Nat → Prop} {H H2 Hf : Heap} {nx n2 nf : Nat} {T' : LT} {v : SV} (hs : Step Fp (All t a b F1 F2) H nx H2 n2) (hf : ∃ F3, Tb t a b ml' cl' mp' cp' F1' F3 Hf ∧ Step (All t a b F1 F2) (All t a b F1' F3) H2 n2 Hf nf) (hT : T' = ltOf ml' mp') : Chg t T' v Fp H nx (v, Hf, nf) := by
  obtain ⟨F3, h3, h4⟩ := hf
  exact ⟨rfl, _, ⟨a, b, _, _, _, _, _, _, h3, hT, fun _ => Iff.rfl⟩, hs.trans h4⟩
theorem Tb.frameA {t a b : Nat} {ml : MLk} {cl : Nat} {mp : MPt} {cp : Nat} {F1 F2 : Nat → Prop} {H H' : Heap} (h : Tb t a b ml cl mp cp F1 F2 H) (hf : ∀ n, All t a b F1 F2 n → H'.at' n = H.at' n) : Tb t a b ml cl mp cp F1 F2 H' := ⟨(hf _ (.inl rfl)).trans h.tab, (hf _ (.inr (.inl rfl))).trans h.locks, (hf _ (.inr (.inr (.inl rfl)))).trans h.parties, h.okl, h.okp, Big.frame PL_frame _ _ _ _ h.bl fun z hz => hf _ (.inr (.inr (.inr (.inl hz)))), Big.frame PP_frame _ _ _ _ h.bp fun z hz => hf _ (.inr (.inr (.inr (.inr hz)))), h.ne, h.d1, h.d2⟩
theorem Tb.all_ltA {t a b : Nat} {ml : MLk} {cl : Nat} {mp : MPt} {cp : Nat} {F1 F2 : Nat → Prop} {H : Heap} {nx : Nat} (h : Tb t a b ml cl mp cp F1 F2 H) (hu : ∀ b vo, H.at' b = some vo → b < nx) : ∀ n, All t a b F1 F2 n → n < nx := by
  obtain ⟨h1, h2, h3, h4, h5⟩ := h.lt hu
  intro n hn
  rcases hn with rfl | rfl | rfl | hn | hn
  · exact h1
  · exact h2
  · exact h3
  · exact h4 _ hn
  · exact h5 _ hn
set_option maxRecDepth 100000 in
set_option maxHeartbeats 0 in
theorem ask_t {t : Nat} {T : LT} {Fp : Nat → Prop} {H : Heap} {nx : Nat} (hT : TabAt t T Fp H) (o : Nat) (k : ByteArray) (hks : (T.keys o).length < 999999) (hln : (T.line k).length < 999999) (hsz : k.size < 4611686018427387904)
    (hr : ∀ h l, mget T.locks k = some (h, l) → T.chase o 1001 h = some (decide (T.chase o (T.parties.length + 1) h = some true))) :
    Fnc Try.prog 29 [.ptr t 0, .sc (.int .u64 (o : Int)), .sc (.string k)] H nx (Chg t (T.ask o k).1 (.sc (.int .i64 (T.ask o k).2)) Fp H nx) := by
  have hT0 := hT
  obtain ⟨a, b, ml, cl, mp, cp, F1, F2, h, rfl, hF⟩ := hT
  have hFp : Fp = All t a b F1 F2 := funext fun n => propext (hF n)
  subst hFp
  have htab := h.tab
  have hloc := h.locks
  have hpar := h.parties
  have hne := h.ne
  refine Fnc.start Try.func29 rfl rfl ?_
  refine y_under fun hund => ?_
  obtain ⟨ut, ua, ub, u1, u2⟩ := h.lt hund
  (repeat (first | (first | refine y_seq ?_ | refine w_region ?_ | refine y_regEnd ?_ | refine y_skip ?_ | refine y_condF rfl ?_ | refine w_move rfl rfl rfl ?_ | refine w_assign rfl rfl rfl ?_) | (refine w_call rfl rfl rfl (by kernel_rfl) (Fnc.mono (none_t htab) ?_); rintro _ rfl; dsimp only)))
  refine w_eqlS rfl rfl rfl rfl ?_ ?_
  all_goals intro h1
  · have hask : (ltOf ml mp).ask o k = (ltOf ml mp, 2) := by unfold LT.ask; rw [if_pos (.inl (by omega))]
    rw [hask]
    (repeat (first | refine y_seq ?_ | refine w_region ?_ | refine y_regEnd ?_ | refine y_condT rfl ?_ | refine w_move rfl rfl rfl ?_ | refine w_assign rfl rfl rfl ?_ | refine w_pickT rfl rfl rfl rfl ?_ | refine w_not rfl ?_))
    ((apply w_ret Try.func29 (congrArg Array.toList Try.results29)); (focus (repeat (first | exact ResIs.nil | apply ResIs.tmp rfl))))
    exact chg_same hT0 _
  by_cases h2 : k.size = 0
  · have hask : (ltOf ml mp).ask o k = (ltOf ml mp, 2) := by unfold LT.ask; rw [if_pos (.inr (.inl h2))]
    have he := empty_of h2
    rw [hask]
    (repeat (first | (first | refine y_seq ?_ | refine w_region ?_ | refine y_regEnd ?_ | refine y_condT rfl ?_ | refine w_move rfl rfl rfl ?_ | refine w_assign rfl rfl rfl ?_ | refine w_pickT rfl rfl rfl rfl ?_ | refine w_pickF rfl rfl rfl rfl ?_ | refine w_not rfl ?_) | refine w_eqStrV rfl rfl rfl rfl he ?_))
    ((apply w_ret Try.func29 (congrArg Array.toList Try.results29)); (focus (repeat (first | exact ResIs.nil | apply ResIs.tmp rfl))))
    exact chg_same hT0 _
  have he := empty_ne h2
  (repeat (first | (first | refine w_move rfl rfl rfl ?_ | refine w_pickF rfl rfl rfl rfl ?_ | refine w_lenStr rfl rfl rfl (F.un _ rfl) ?_) | refine w_eqStrV rfl rfl rfl rfl he ?_))
  refine w_gtrS rfl rfl rfl rfl ?_ ?_
  all_goals intro h3
  · have hask : (ltOf ml mp).ask o k = (ltOf ml mp, 2) := by unfold LT.ask; rw [if_pos (.inr (.inr (by omega)))]
    rw [hask]
    (repeat (first | refine y_seq ?_ | refine w_region ?_ | refine y_regEnd ?_ | refine y_condT rfl ?_ | refine w_assign rfl rfl rfl ?_ | refine w_pickF rfl rfl rfl rfl ?_))
    ((apply w_ret Try.func29 (congrArg Array.toList Try.results29)); (focus (repeat (first | exact ResIs.nil | apply ResIs.tmp rfl))))
    exact chg_same hT0 _
  have hc1 : ¬ (o = 0 ∨ k.size = 0 ∨ 32 < k.size) := by omega
  cases hgp : kget mp o with
  | none =>
    have hkeys : (ltOf ml mp).keys o = [] := by rw [t_keys, hgp]
    have hwt : ¬ ((ltOf ml mp).waits o).size ≠ 0 := by rw [t_waits, hgp]; exact fun q => q rfl
    (repeat (first | (first | refine y_seq ?_ | refine w_region ?_ | refine y_regEnd ?_ | refine y_skip ?_ | refine y_condF rfl ?_ | refine w_move rfl rfl rfl ?_ | refine w_assign rfl rfl rfl ?_ | refine w_pickF rfl rfl rfl rfl ?_ | refine w_nilCheck rfl rfl rfl ?_ | refine w_fieldAddr rfl rfl rfl (F.fo _ _ rfl rfl) ?_ | refine w_not rfl ?_ | refine w_noNil rfl rfl rfl rfl rfl (F.un _ rfl) rfl ?_ | refine w_loadB1 rfl rfl rfl (F.ag _ rfl) (by (focus (skip; first | exact Tr.at_set_same _ _ _ | assumption))) (by exact rfl) ?_) | refine w_lookZ (m := mp) (enc := oE) (val := pVal) rfl rfl rfl rfl (F.un _ rfl) (oK) (by first | exact rfl | (focus (skip; first | exact Tr.at_set_same _ _ _ | assumption))) (hgp) (F.ze _ rfl) ?_))
    cases hgl : kget ml k with
    | none =>
      have hask : (ltOf ml mp).ask o k = (⟨mput (ltOf ml mp).locks k (o, []), mput (ltOf ml mp).parties o ((ltOf ml mp).keys o ++ [k], ⟨#[]⟩)⟩, 0) := by unfold LT.ask; rw [if_neg hc1, if_neg hwt, get_l, hgl]; rfl
      (repeat (first | refine y_nilIn (d := 66) (s := .agg (List.map SV.sc (Value.agg #[Value.slice none 0 0, Value.string ⟨#[]⟩]).cells.toList)) (s' := .agg [.slu _ 0 0, .sc (.string ⟨#[]⟩)]) 1 9 (by exact rfl) rfl (fun e v h0 h1 => nil_party h0 h1) ?_ | (first | refine y_seq ?_ | refine w_region ?_ | refine y_regEnd ?_ | refine y_skip ?_ | refine y_condT rfl ?_ | refine y_condF rfl ?_ | refine w_move rfl rfl rfl ?_ | refine w_assign rfl rfl rfl ?_ | refine w_pickF rfl rfl rfl rfl ?_ | refine w_nilCheck rfl rfl rfl ?_ | refine w_fieldAddr rfl rfl rfl (F.fo _ _ rfl rfl) ?_ | refine w_not rfl ?_ | refine w_isNil rfl rfl rfl rfl rfl (F.un _ rfl) rfl ?_ | refine w_noNil rfl rfl rfl rfl rfl (F.un _ rfl) rfl ?_ | refine w_boxN rfl rfl rfl ?_ | refine w_loadB1 rfl rfl rfl (F.ag _ rfl) (by (focus ((repeat (refine (Tr.at_set_other _ _ (by omega)).trans ?_)); first | exact Tr.at_set_same _ _ _ | assumption))) (by exact rfl) ?_ | refine w_build rfl rfl rfl (F.ze _ rfl) (F.pl _ rfl) rfl ?_) | refine w_lookZ (m := ml) (enc := kE) (val := lVal) rfl rfl rfl rfl (F.un _ rfl) (kK) (by first | exact rfl | (focus (skip; first | exact Tr.at_set_same _ _ _ | assumption))) (hgl) (F.ze _ rfl) ?_))
      refine w_mapUp (m := mp) (enc := oE) (val := pVal) (kk := o) (v := (nx + 1, (([] : List ByteArray), (⟨#[]⟩ : ByteArray)))) rfl rfl rfl (F.un _ rfl) (oK) (by first | exact rfl | (focus ((repeat (refine (Tr.at_set_other _ _ (by omega)).trans ?_)); first | exact Tr.at_set_same _ _ _ | assumption))) rfl ?_
      refine y_gen (R := fun H2 n2 => Tb t a b ml cl (kput mp o (nx + 1, ([], ⟨#[]⟩)) cp) (kclk mp o cp) F1 (fun z => (z = nx + 1 ∨ z = nx) ∨ F2 z) H2 ∧ Step (All t a b F1 F2) (All t a b F1 (fun z => (z = nx + 1 ∨ z = nx) ∨ F2 z)) H nx H2 n2) (h.newParty hund hgp ?_ ?_ ?_ ?_) ?_
      · exact (Tr.at_set_other _ _ (by omega)).trans (Tr.at_set_same _ _ _)
      · exact (Tr.at_set_other _ _ (by omega)).trans ((Tr.at_set_other _ _ (by omega)).trans (Tr.at_set_same _ _ _))
      · exact Tr.at_set_same _ _ _
      · exact fun z hz hb => (Tr.at_set_other _ _ (by omega)).trans ((Tr.at_set_other _ _ (by omega)).trans (Tr.at_set_other _ _ (by omega)))
      rintro H' nx' ⟨h', hstep⟩
      have hgp' : kget (kput mp o (nx + 1, (([] : List ByteArray), (⟨#[]⟩ : ByteArray))) cp) o = some (nx + 1, ([], ⟨#[]⟩)) := kget_put _ _ _ _
      have hput : ∀ y, mput (ltOf ml (kput mp o (nx + 1, ([], ⟨#[]⟩)) cp)).parties o y = mput (ltOf ml mp).parties o y := fun y => by rw [mput_kv_p]; exact mput_mput _ _ _ _
      refine y_under fun hund' => ?_
      obtain ⟨ut', ua', ub', u1', u2'⟩ := h'.lt hund'
      have htab' := h'.tab
      have hloc' := h'.locks
      (repeat (first | refine y_nilIn (d := 82) (s := .agg (List.take 0 (List.map SV.sc (Value.agg #[Value.int .u64 0, Value.slice none 0 0]).cells.toList) ++ (SV.sc (Value.int .u64 (o : Int))).cells ++ List.drop (0 + 1) (List.map SV.sc (Value.agg #[Value.int .u64 0, Value.slice none 0 0]).cells.toList))) (s' := .agg [.sc (.int .u64 (o : Int)), .slu _ 0 0]) 1 23 (by exact rfl) rfl (fun e v h0 h1 => nil_held h0 h1) ?_ | (first | refine y_seq ?_ | refine w_region ?_ | refine y_regEnd ?_ | refine y_condT rfl ?_ | refine w_move rfl rfl rfl ?_ | refine w_nilCheck rfl rfl rfl ?_ | refine w_fieldAddr rfl rfl rfl (F.fo _ _ rfl rfl) ?_ | refine w_isNil rfl rfl rfl rfl rfl (F.un _ rfl) rfl ?_ | refine w_boxN rfl rfl rfl ?_ | refine w_loadB1 rfl rfl rfl (F.ag _ rfl) (by (focus (skip; first | exact Tr.at_set_same _ _ _ | assumption))) (by exact rfl) ?_ | refine w_build rfl rfl rfl (F.ze _ rfl) (F.pl _ rfl) rfl ?_)))
      refine w_mapUp (m := ml) (enc := kE) (val := lVal) (kk := k) (v := (nx' + 1, (o, ([] : List Nat)))) rfl rfl rfl (F.un _ rfl) (kK) (by first | exact rfl | (focus ((repeat (refine (Tr.at_set_other _ _ (by omega)).trans ?_)); first | exact Tr.at_set_same _ _ _ | assumption))) rfl ?_
      refine y_gen (R := fun H2 n2 => Tb t a b (kput ml k (nx' + 1, (o, [])) cl) (kclk ml k cl) (kput mp o (nx + 1, ([], ⟨#[]⟩)) cp) (kclk mp o cp) (fun z => (z = nx' + 1 ∨ z = nx') ∨ F1 z) (fun z => (z = nx + 1 ∨ z = nx) ∨ F2 z) H2 ∧ Step (All t a b F1 (fun z => (z = nx + 1 ∨ z = nx) ∨ F2 z)) (All t a b (fun z => (z = nx' + 1 ∨ z = nx') ∨ F1 z) (fun z => (z = nx + 1 ∨ z = nx) ∨ F2 z)) H' nx' H2 n2) (h'.newLock hund' hgl ?_ ?_ ?_ ?_) ?_
      · exact (Tr.at_set_other _ _ (by omega)).trans (Tr.at_set_same _ _ _)
      · exact (Tr.at_set_other _ _ (by omega)).trans ((Tr.at_set_other _ _ (by omega)).trans (Tr.at_set_same _ _ _))
      · exact Tr.at_set_same _ _ _
      · exact fun z hz hb => (Tr.at_set_other _ _ (by omega)).trans ((Tr.at_set_other _ _ (by omega)).trans (Tr.at_set_other _ _ (by omega)))
      rintro H2 n2 ⟨h2', hstep2⟩
      refine y_under fun hund2 => ?_
      obtain ⟨r2, q1, q2, q3, q4, q5, q6, q7, hturn⟩ := h2'.turnParty hund2 hgp'
      have hlk : (([] : List ByteArray)).length < 999999 := by rw [hkeys] at hks; exact hks
      (repeat (first | (first | refine y_seq ?_ | refine w_region ?_ | refine y_regEnd ?_ | refine w_move rfl rfl rfl ?_ | refine w_assign rfl rfl rfl ?_ | refine w_nilCheck rfl rfl rfl ?_ | refine w_fieldAddr rfl rfl rfl (F.fo _ _ rfl rfl) ?_ | refine w_storeC rfl rfl rfl rfl (F.sz _ rfl) (by first | exact rfl | (focus ((repeat (first | refine (Tr.at_set_other _ _ (by omega)).trans ?_ | refine (Tr.at_del_other _ (by omega)).trans ?_)); first | exact Tr.at_set_same _ _ _ | assumption))) rfl (by exact Nat.le_of_ble_eq_true rfl) rfl ?_ | refine w_loadB1 rfl rfl rfl (F.ag _ rfl) (by (focus (skip; first | exact Tr.at_set_same _ _ _ | assumption))) (by exact rfl) ?_) | refine w_buildSlice rfl rfl (F.un _ rfl) (F.sz _ rfl) rfl (F.ze _ rfl) rfl rfl rfl rfl rfl ?_ | refine w_push (b := 16) (xs := ([] : List ByteArray)) (a := k) rfl rfl rfl rfl (F.un _ rfl) (.inl ⟨_, F.un _ rfl⟩) (F.sz _ rfl) rfl (by kernel_rfl) (by kernel_rfl) (by (focus ((repeat (refine (Tr.at_set_other _ _ (by omega)).trans ?_)); first | exact Tr.at_set_same _ _ _ | assumption))) (by (focus (skip; first | exact Tr.at_set_same _ _ _ | assumption))) (by exact rfl) (recS) (by omega) (by omega) ?_))
      ((apply w_ret Try.func29 (congrArg Array.toList Try.results29)); (focus (repeat (first | exact ResIs.nil | apply ResIs.tmp rfl))))
      have hlen : (([] : List ByteArray)).length + 1 = ((([] : List ByteArray)) ++ [k]).length := by simp
      rw [hask]
      refine chg_of (hstep.trans hstep2) (hturn (r' := n2 + 1) ((([] : List ByteArray)) ++ [k]) ⟨#[]⟩ (Nat.le_trans (Nat.le_succ _) (Nat.le_succ _)) (.inl (Nat.le_succ _)) ?_ ?_ ?_) ?_
      · refine (Tr.at_set_same _ _ _).trans ?_
        rw [← hlen]
        try rfl
      · refine (Tr.at_set_other _ _ (by omega)).trans ((Tr.at_set_same _ _ _).trans ?_)
        show _ = some (dat false ((([] : List ByteArray)) ++ [k]).length 1 9 (((([] : List ByteArray)) ++ [k]).flatMap sV))
        rw [← hlen]
        try rfl
      · exact fun z hz hz1 hz2 => (Tr.at_set_other _ _ (by omega)).trans ((Tr.at_set_other _ _ (by omega)).trans ((Tr.at_del_other _ (by omega)).trans (Tr.at_set_other _ _ (by omega))))
      rw [mput_kv_p, mput_kv_l, hkeys]
      try exact congrArg (LT.mk _) (hput _).symm
    | some y =>
      obtain ⟨ln, ow, l⟩ := y
      obtain ⟨lr, LG, k1, k2, k3, k4, k5, k6, k7, _⟩ := h.lock hgl
      (repeat (first | (first | refine y_seq ?_ | refine w_region ?_ | refine y_regEnd ?_ | refine w_move rfl rfl rfl ?_ | refine w_assign rfl rfl rfl ?_ | refine w_nilCheck rfl rfl rfl ?_ | refine w_fieldAddr rfl rfl rfl (F.fo _ _ rfl rfl) ?_ | refine w_neNil rfl rfl rfl rfl (F.un _ rfl) rfl ?_ | refine w_loadB1 rfl rfl rfl (F.ag _ rfl) (by (focus (skip; first | exact Tr.at_set_same _ _ _ | assumption))) (by exact rfl) ?_) | refine w_lookV (m := ml) (enc := kE) (val := lVal) rfl rfl rfl rfl (F.un _ rfl) (kK) (by first | exact rfl | (focus (skip; first | exact Tr.at_set_same _ _ _ | assumption))) (hgl) ?_))
      have hgl' : mget (ltOf ml mp).locks k = some (ow, l) := by rw [get_l, hgl]; rfl
      have hl9 : l.length < 999999 := by
        have hq := hln
        unfold LT.line at hq
        rw [hgl'] at hq
        exact hq
      refine w_eqlS rfl rfl rfl rfl ?_ ?_
      all_goals intro h5
      · have hask : (ltOf ml mp).ask o k = (ltOf ml mp, 0) := by
          unfold LT.ask
          rw [if_neg hc1, if_neg hwt, hgl']
          simp only
          rw [if_pos (by omega)]
        rw [hask]
        (repeat (first | refine y_seq ?_ | refine w_region ?_ | refine y_regEnd ?_ | refine y_condT rfl ?_ | refine w_assign rfl rfl rfl ?_ | refine w_pickT rfl rfl rfl rfl ?_))
        ((apply w_ret Try.func29 (congrArg Array.toList Try.results29)); (focus (repeat (first | exact ResIs.nil | apply ResIs.tmp rfl))))
        exact chg_same hT0 _
      have hch := hr ow l hgl'
      (repeat (first | refine y_seq ?_ | refine w_region ?_ | refine y_regEnd ?_ | refine y_skip ?_ | refine y_condF rfl ?_ | refine w_move rfl rfl rfl ?_ | refine w_pickT rfl rfl rfl rfl ?_ | refine w_nilCheck rfl rfl rfl ?_ | refine w_fieldAddr rfl rfl rfl (F.fo _ _ rfl rfl) ?_ | refine w_neNil rfl rfl rfl rfl (F.un _ rfl) rfl ?_ | refine w_loadB1 rfl rfl rfl (F.ag _ rfl) (by (focus (skip; first | exact Tr.at_set_same _ _ _ | assumption))) (by exact rfl) ?_))
      refine w_call rfl rfl rfl (by kernel_rfl) (Fnc.mono (ring_t hT0 o ow _ hch) ?_)
      rintro ⟨_, H1, n1⟩ ⟨rfl, hle1, hfr1⟩
      dsimp only at hle1 hfr1 ⊢
      have h1 := h.frameA (H' := H1) fun n hn => hfr1 n (h.all_ltA hund n hn)
      have hstep1 : Step (All t a b F1 F2) (All t a b F1 F2) H nx H1 n1 := ⟨hle1, fun _ q => .inl q, fun n hn _ => hfr1 n hn⟩
      by_cases hd : (ltOf ml mp).chase o ((ltOf ml mp).parties.length + 1) ow = some true
      · have hask : (ltOf ml mp).ask o k = (ltOf ml mp, 10) := by
          unfold LT.ask
          rw [if_neg hc1, if_neg hwt, hgl']
          simp only
          rw [if_neg (by omega), if_pos hd]
        rw [hask, decide_eq_true hd]
        (repeat (first | refine y_seq ?_ | refine w_region ?_ | refine y_regEnd ?_ | refine y_condT rfl ?_ | refine w_assign rfl rfl rfl ?_ | refine w_pickT rfl rfl rfl rfl ?_))
        ((apply w_ret Try.func29 (congrArg Array.toList Try.results29)); (focus (repeat (first | exact ResIs.nil | apply ResIs.tmp rfl))))
        exact ⟨rfl, _, ⟨a, b, _, _, _, _, _, _, h1, rfl, fun _ => Iff.rfl⟩, hstep1⟩
      have hask : (ltOf ml mp).ask o k = (⟨mput (ltOf ml mp).locks k (ow, l ++ [o]), mput (ltOf ml mp).parties o ((ltOf ml mp).keys o, k)⟩, 9) := by
        unfold LT.ask
        rw [if_neg hc1, if_neg hwt, hgl']
        simp only
        rw [if_neg (by omega), if_neg hd]
      rw [decide_eq_false hd]
      clear hr hch hund
      refine y_under fun hund1 => ?_
      have hpar1 := h1.parties
      have htab1 := h1.tab
      (repeat (first | refine y_nilIn (d := 66) (s := .agg (List.map SV.sc (Value.agg #[Value.slice none 0 0, Value.string ⟨#[]⟩]).cells.toList)) (s' := .agg [.slu _ 0 0, .sc (.string ⟨#[]⟩)]) 1 9 (by exact rfl) rfl (fun e v h0 h1 => nil_party h0 h1) ?_ | (first | refine y_seq ?_ | refine w_region ?_ | refine y_regEnd ?_ | refine y_skip ?_ | refine y_condT rfl ?_ | refine y_condF rfl ?_ | refine w_move rfl rfl rfl ?_ | refine w_assign rfl rfl rfl ?_ | refine w_pickT rfl rfl rfl rfl ?_ | refine w_nilCheck rfl rfl rfl ?_ | refine w_fieldAddr rfl rfl rfl (F.fo _ _ rfl rfl) ?_ | refine w_isNil rfl rfl rfl rfl rfl (F.un _ rfl) rfl ?_ | refine w_boxN rfl rfl rfl ?_ | refine w_loadB1 rfl rfl rfl (F.ag _ rfl) (by (focus ((repeat (refine (Tr.at_set_other _ _ (by omega)).trans ?_)); first | exact Tr.at_set_same _ _ _ | assumption))) (by exact rfl) ?_ | refine w_build rfl rfl rfl (F.ze _ rfl) (F.pl _ rfl) rfl ?_)))
      refine w_mapUp (m := mp) (enc := oE) (val := pVal) (kk := o) (v := (n1 + 1, (([] : List ByteArray), (⟨#[]⟩ : ByteArray)))) rfl rfl rfl (F.un _ rfl) (oK) (by first | exact rfl | (focus ((repeat (refine (Tr.at_set_other _ _ (by omega)).trans ?_)); first | exact Tr.at_set_same _ _ _ | assumption))) rfl ?_
      refine y_gen (R := fun H2 n2 => Tb t a b ml cl (kput mp o (n1 + 1, ([], ⟨#[]⟩)) cp) (kclk mp o cp) F1 (fun z => (z = n1 + 1 ∨ z = n1) ∨ F2 z) H2 ∧ Step (All t a b F1 F2) (All t a b F1 (fun z => (z = n1 + 1 ∨ z = n1) ∨ F2 z)) H1 n1 H2 n2) (h1.newParty hund1 hgp ?_ ?_ ?_ ?_) ?_
      · exact (Tr.at_set_other _ _ (by omega)).trans (Tr.at_set_same _ _ _)
      · exact (Tr.at_set_other _ _ (by omega)).trans ((Tr.at_set_other _ _ (by omega)).trans (Tr.at_set_same _ _ _))
      · exact Tr.at_set_same _ _ _
      · exact fun z hz hb => (Tr.at_set_other _ _ (by omega)).trans ((Tr.at_set_other _ _ (by omega)).trans (Tr.at_set_other _ _ (by omega)))
      rintro H2 n2 ⟨h2, hstep2⟩
      clear hpar1 htab1
      have hgp' : kget (kput mp o (n1 + 1, (([] : List ByteArray), (⟨#[]⟩ : ByteArray))) cp) o = some (n1 + 1, ([], ⟨#[]⟩)) := kget_put _ _ _ _
      have hput : ∀ y, mput (ltOf ml (kput mp o (n1 + 1, ([], ⟨#[]⟩)) cp)).parties o y = mput (ltOf ml mp).parties o y := fun y => by rw [mput_kv_p]; exact mput_mput _ _ _ _
      refine y_under fun hund2 => ?_
      obtain ⟨lr', q1, q2, q3, q4, q5, q6, q7, hturnL⟩ := h2.turnLock hund2 hgl
      clear h htab hloc hpar
      (repeat (first | (first | refine y_seq ?_ | refine w_region ?_ | refine y_regEnd ?_ | refine y_skip ?_ | refine y_condF rfl ?_ | refine w_move rfl rfl rfl ?_ | refine w_nilCheck rfl rfl rfl ?_ | refine w_fieldAddr rfl rfl rfl (F.fo _ _ rfl rfl) ?_ | refine w_eqNil rfl rfl rfl rfl (F.un _ rfl) rfl ?_ | refine w_storeC rfl rfl rfl rfl (F.sz _ rfl) (by first | exact rfl | (focus ((repeat (first | refine (Tr.at_set_other _ _ (by omega)).trans ?_ | refine (Tr.at_del_other _ (by omega)).trans ?_)); first | exact Tr.at_set_same _ _ _ | assumption))) rfl (by exact Nat.le_of_ble_eq_true rfl) rfl ?_ | refine w_loadB1 rfl rfl rfl (F.ag _ rfl) (by (focus (skip; first | exact Tr.at_set_same _ _ _ | assumption))) (by exact rfl) ?_) | refine w_buildSlice rfl rfl (F.un _ rfl) (F.sz _ rfl) rfl (F.ze _ rfl) rfl rfl rfl rfl rfl ?_ | refine w_push (b := 8) (xs := l) (a := o) rfl rfl rfl rfl (F.un _ rfl) (.inl ⟨_, F.un _ rfl⟩) (F.sz _ rfl) rfl (by kernel_rfl) (by kernel_rfl) (by (focus ((repeat (refine (Tr.at_set_other _ _ (by omega)).trans ?_)); first | exact Tr.at_set_same _ _ _ | assumption))) (by (focus (skip; first | exact Tr.at_set_same _ _ _ | assumption))) (by exact rfl) (recU) (by omega) (by omega) ?_))
      have hlen : l.length + 1 = (l ++ [o]).length := by simp
      refine y_gen (R := fun Hb nb => ∃ F1', Tb t a b (kput ml k (ln, (ow, l ++ [o])) cl) cl (kput mp o (n1 + 1, ([], ⟨#[]⟩)) cp) (kclk mp o cp) F1' (fun z => (z = n1 + 1 ∨ z = n1) ∨ F2 z) Hb ∧ Step (All t a b F1 (fun z => (z = n1 + 1 ∨ z = n1) ∨ F2 z)) (All t a b F1' (fun z => (z = n1 + 1 ∨ z = n1) ∨ F2 z)) H2 n2 Hb nb) (hturnL (r' := n2 + 1) ow (l ++ [o]) (Nat.le_trans (Nat.le_succ _) (Nat.le_succ _)) (.inl (Nat.le_succ _)) ?_ ?_ ?_) ?_
      · refine (Tr.at_set_same _ _ _).trans ?_
        rw [← hlen]
        try rfl
      · refine (Tr.at_set_other _ _ (by omega)).trans ((Tr.at_set_same _ _ _).trans ?_)
        show _ = some (dat false (l ++ [o]).length 1 23 ((l ++ [o]).flatMap uV))
        rw [← hlen]
        try rfl
      · exact fun z hz hz1 hz2 => (Tr.at_set_other _ _ (by omega)).trans ((Tr.at_set_other _ _ (by omega)).trans ((Tr.at_del_other _ (by omega)).trans (Tr.at_set_other _ _ (by omega))))
      rintro H3 n3 ⟨F1', h3, hstep3⟩
      refine y_under fun hund4 => ?_
      obtain ⟨r4, v1, v2, v3, v4, v5, v6, v7, hturnP⟩ := h3.turnParty hund4 hgp'
      (repeat (first | refine y_seq ?_ | refine w_region ?_ | refine y_regEnd ?_ | refine w_assign rfl rfl rfl ?_ | refine w_storeC rfl rfl rfl rfl (F.sz _ rfl) (by first | exact rfl | (focus (skip; first | exact Tr.at_set_same _ _ _ | assumption))) rfl (by exact Nat.le_of_ble_eq_true rfl) rfl ?_))
      ((apply w_ret Try.func29 (congrArg Array.toList Try.results29)); (focus (repeat (first | exact ResIs.nil | apply ResIs.tmp rfl))))
      rw [hask]
      refine chg_of ((hstep1.trans hstep2).trans hstep3) (hturnP (r' := r4) ([] : List ByteArray) k (Nat.le_refl _) (.inr rfl) ?_ ?_ ?_) ?_
      · exact Tr.at_set_same _ _ _
      · exact (Tr.at_set_other _ _ (by omega)).trans v2
      · exact fun z hz hz1 hz2 => Tr.at_set_other _ _ (by omega)
      rw [mput_kv_p, mput_kv_l, hkeys]
      try exact congrArg (LT.mk _) (hput _).symm
  | some x =>
    obtain ⟨pn, ks, w⟩ := x
    obtain ⟨pr, PG, p1, p2, p3, p4, p5, p6, p7, _⟩ := h.party hgp
    have hkeys : (ltOf ml mp).keys o = ks := by rw [t_keys, hgp]
    (repeat (first | (first | refine y_seq ?_ | refine w_region ?_ | refine y_regEnd ?_ | refine y_skip ?_ | refine y_condF rfl ?_ | refine w_move rfl rfl rfl ?_ | refine w_assign rfl rfl rfl ?_ | refine w_pickF rfl rfl rfl rfl ?_ | refine w_nilCheck rfl rfl rfl ?_ | refine w_fieldAddr rfl rfl rfl (F.fo _ _ rfl rfl) ?_ | refine w_neNil rfl rfl rfl rfl (F.un _ rfl) rfl ?_ | refine w_loadB1 rfl rfl rfl (F.ag _ rfl) (by (focus (skip; first | exact Tr.at_set_same _ _ _ | assumption))) (by exact rfl) ?_) | refine w_lookV (m := mp) (enc := oE) (val := pVal) rfl rfl rfl rfl (F.un _ rfl) (oK) (by first | exact rfl | (focus (skip; first | exact Tr.at_set_same _ _ _ | assumption))) (hgp) ?_))
    by_cases h4 : w.size = 0
    · have hwe : w = ⟨#[]⟩ := (MapKept.bytes_beq w ⟨#[]⟩).1 (empty_of h4)
      subst hwe
      have hnw : ((⟨#[]⟩ : ByteArray) != (⟨#[]⟩ : ByteArray)) = false := rfl
      have hwt : ¬ ((ltOf ml mp).waits o).size ≠ 0 := by rw [t_waits, hgp]; exact fun q => q rfl
      (repeat (first | (first | refine y_seq ?_ | refine w_region ?_ | refine y_regEnd ?_ | refine y_skip ?_ | refine y_condF rfl ?_ | refine w_move rfl rfl rfl ?_ | refine w_pickT rfl rfl rfl rfl ?_ | refine w_nilCheck rfl rfl rfl ?_ | refine w_fieldAddr rfl rfl rfl (F.fo _ _ rfl rfl) ?_ | refine w_loadB1 rfl rfl rfl (F.ag _ rfl) (by (focus (skip; first | exact Tr.at_set_same _ _ _ | assumption))) (by exact rfl) ?_) | refine w_neStrV rfl rfl rfl rfl hnw ?_))
      cases hgl : kget ml k with
      | none =>
        have hask : (ltOf ml mp).ask o k = (⟨mput (ltOf ml mp).locks k (o, []), mput (ltOf ml mp).parties o ((ltOf ml mp).keys o ++ [k], ⟨#[]⟩)⟩, 0) := by unfold LT.ask; rw [if_neg hc1, if_neg hwt, get_l, hgl]; rfl
        (repeat (first | refine y_nilIn (d := 82) (s := .agg (List.take 0 (List.map SV.sc (Value.agg #[Value.int .u64 0, Value.slice none 0 0]).cells.toList) ++ (SV.sc (Value.int .u64 (o : Int))).cells ++ List.drop (0 + 1) (List.map SV.sc (Value.agg #[Value.int .u64 0, Value.slice none 0 0]).cells.toList))) (s' := .agg [.sc (.int .u64 (o : Int)), .slu _ 0 0]) 1 23 (by exact rfl) rfl (fun e v h0 h1 => nil_held h0 h1) ?_ | (first | refine y_seq ?_ | refine w_region ?_ | refine y_regEnd ?_ | refine y_skip ?_ | refine y_condT rfl ?_ | refine y_condF rfl ?_ | refine w_move rfl rfl rfl ?_ | refine w_assign rfl rfl rfl ?_ | refine w_pickF rfl rfl rfl rfl ?_ | refine w_nilCheck rfl rfl rfl ?_ | refine w_fieldAddr rfl rfl rfl (F.fo _ _ rfl rfl) ?_ | refine w_not rfl ?_ | refine w_eqNil rfl rfl rfl rfl (F.un _ rfl) rfl ?_ | refine w_isNil rfl rfl rfl rfl rfl (F.un _ rfl) rfl ?_ | refine w_noNil rfl rfl rfl rfl rfl (F.un _ rfl) rfl ?_ | refine w_boxN rfl rfl rfl ?_ | refine w_loadB1 rfl rfl rfl (F.ag _ rfl) (by (focus (skip; first | exact Tr.at_set_same _ _ _ | assumption))) (by exact rfl) ?_ | refine w_build rfl rfl rfl (F.ze _ rfl) (F.pl _ rfl) rfl ?_) | refine w_lookZ (m := ml) (enc := kE) (val := lVal) rfl rfl rfl rfl (F.un _ rfl) (kK) (by first | exact rfl | (focus (skip; first | exact Tr.at_set_same _ _ _ | assumption))) (hgl) (F.ze _ rfl) ?_))
        have hgp' := hgp
        have hput : ∀ y, mput (ltOf ml mp).parties o y = mput (ltOf ml mp).parties o y := fun _ => rfl
        refine w_mapUp (m := ml) (enc := kE) (val := lVal) (kk := k) (v := (nx + 1, (o, ([] : List Nat)))) rfl rfl rfl (F.un _ rfl) (kK) (by first | exact rfl | (focus ((repeat (refine (Tr.at_set_other _ _ (by omega)).trans ?_)); first | exact Tr.at_set_same _ _ _ | assumption))) rfl ?_
        refine y_gen (R := fun H2 n2 => Tb t a b (kput ml k (nx + 1, (o, [])) cl) (kclk ml k cl) mp cp (fun z => (z = nx + 1 ∨ z = nx) ∨ F1 z) F2 H2 ∧ Step (All t a b F1 F2) (All t a b (fun z => (z = nx + 1 ∨ z = nx) ∨ F1 z) F2) H nx H2 n2) (h.newLock hund hgl ?_ ?_ ?_ ?_) ?_
        · exact (Tr.at_set_other _ _ (by omega)).trans (Tr.at_set_same _ _ _)
        · exact (Tr.at_set_other _ _ (by omega)).trans ((Tr.at_set_other _ _ (by omega)).trans (Tr.at_set_same _ _ _))
        · exact Tr.at_set_same _ _ _
        · exact fun z hz hb => (Tr.at_set_other _ _ (by omega)).trans ((Tr.at_set_other _ _ (by omega)).trans (Tr.at_set_other _ _ (by omega)))
        rintro H2 n2 ⟨h2', hstep2⟩
        refine y_under fun hund2 => ?_
        obtain ⟨r2, q1, q2, q3, q4, q5, q6, q7, hturn⟩ := h2'.turnParty hund2 hgp'
        have hlk : (ks).length < 999999 := by rw [hkeys] at hks; exact hks
        (repeat (first | (first | refine y_seq ?_ | refine w_region ?_ | refine y_regEnd ?_ | refine w_move rfl rfl rfl ?_ | refine w_assign rfl rfl rfl ?_ | refine w_nilCheck rfl rfl rfl ?_ | refine w_fieldAddr rfl rfl rfl (F.fo _ _ rfl rfl) ?_ | refine w_storeC rfl rfl rfl rfl (F.sz _ rfl) (by first | exact rfl | (focus ((repeat (first | refine (Tr.at_set_other _ _ (by omega)).trans ?_ | refine (Tr.at_del_other _ (by omega)).trans ?_)); first | exact Tr.at_set_same _ _ _ | assumption))) rfl (by exact Nat.le_of_ble_eq_true rfl) rfl ?_ | refine w_loadB1 rfl rfl rfl (F.ag _ rfl) (by (focus (skip; first | exact Tr.at_set_same _ _ _ | assumption))) (by exact rfl) ?_) | refine w_buildSlice rfl rfl (F.un _ rfl) (F.sz _ rfl) rfl (F.ze _ rfl) rfl rfl rfl rfl rfl ?_ | refine w_push (b := 16) (xs := ks) (a := k) rfl rfl rfl rfl (F.un _ rfl) (.inl ⟨_, F.un _ rfl⟩) (F.sz _ rfl) rfl (by kernel_rfl) (by kernel_rfl) (by (focus ((repeat (refine (Tr.at_set_other _ _ (by omega)).trans ?_)); first | exact Tr.at_set_same _ _ _ | assumption))) (by (focus (skip; first | exact Tr.at_set_same _ _ _ | assumption))) (by exact rfl) (recS) (by omega) (by omega) ?_))
        ((apply w_ret Try.func29 (congrArg Array.toList Try.results29)); (focus (repeat (first | exact ResIs.nil | apply ResIs.tmp rfl))))
        have hlen : (ks).length + 1 = ((ks) ++ [k]).length := by simp
        rw [hask]
        refine chg_of (hstep2) (hturn (r' := n2 + 1) ((ks) ++ [k]) ⟨#[]⟩ (Nat.le_trans (Nat.le_succ _) (Nat.le_succ _)) (.inl (Nat.le_succ _)) ?_ ?_ ?_) ?_
        · refine (Tr.at_set_same _ _ _).trans ?_
          rw [← hlen]
          try rfl
        · refine (Tr.at_set_other _ _ (by omega)).trans ((Tr.at_set_same _ _ _).trans ?_)
          show _ = some (dat false ((ks) ++ [k]).length 1 9 (((ks) ++ [k]).flatMap sV))
          rw [← hlen]
          try rfl
        · exact fun z hz hz1 hz2 => (Tr.at_set_other _ _ (by omega)).trans ((Tr.at_set_other _ _ (by omega)).trans ((Tr.at_del_other _ (by omega)).trans (Tr.at_set_other _ _ (by omega))))
        rw [mput_kv_p, mput_kv_l, hkeys]
        try exact congrArg (LT.mk _) (hput _).symm
      | some y =>
        obtain ⟨ln, ow, l⟩ := y
        obtain ⟨lr, LG, k1, k2, k3, k4, k5, k6, k7, _⟩ := h.lock hgl
        (repeat (first | (first | refine y_seq ?_ | refine w_region ?_ | refine y_regEnd ?_ | refine w_move rfl rfl rfl ?_ | refine w_assign rfl rfl rfl ?_ | refine w_nilCheck rfl rfl rfl ?_ | refine w_fieldAddr rfl rfl rfl (F.fo _ _ rfl rfl) ?_ | refine w_neNil rfl rfl rfl rfl (F.un _ rfl) rfl ?_ | refine w_loadB1 rfl rfl rfl (F.ag _ rfl) (by (focus (skip; first | exact Tr.at_set_same _ _ _ | assumption))) (by exact rfl) ?_) | refine w_lookV (m := ml) (enc := kE) (val := lVal) rfl rfl rfl rfl (F.un _ rfl) (kK) (by first | exact rfl | (focus (skip; first | exact Tr.at_set_same _ _ _ | assumption))) (hgl) ?_))
        have hgl' : mget (ltOf ml mp).locks k = some (ow, l) := by rw [get_l, hgl]; rfl
        have hl9 : l.length < 999999 := by
          have hq := hln
          unfold LT.line at hq
          rw [hgl'] at hq
          exact hq
        refine w_eqlS rfl rfl rfl rfl ?_ ?_
        all_goals intro h5
        · have hask : (ltOf ml mp).ask o k = (ltOf ml mp, 0) := by
            unfold LT.ask
            rw [if_neg hc1, if_neg hwt, hgl']
            simp only
            rw [if_pos (by omega)]
          rw [hask]
          (repeat (first | refine y_seq ?_ | refine w_region ?_ | refine y_regEnd ?_ | refine y_condT rfl ?_ | refine w_assign rfl rfl rfl ?_ | refine w_pickT rfl rfl rfl rfl ?_))
          ((apply w_ret Try.func29 (congrArg Array.toList Try.results29)); (focus (repeat (first | exact ResIs.nil | apply ResIs.tmp rfl))))
          exact chg_same hT0 _
        have hch := hr ow l hgl'
        (repeat (first | refine y_seq ?_ | refine w_region ?_ | refine y_regEnd ?_ | refine y_skip ?_ | refine y_condF rfl ?_ | refine w_move rfl rfl rfl ?_ | refine w_pickT rfl rfl rfl rfl ?_ | refine w_nilCheck rfl rfl rfl ?_ | refine w_fieldAddr rfl rfl rfl (F.fo _ _ rfl rfl) ?_ | refine w_neNil rfl rfl rfl rfl (F.un _ rfl) rfl ?_ | refine w_loadB1 rfl rfl rfl (F.ag _ rfl) (by (focus (skip; first | exact Tr.at_set_same _ _ _ | assumption))) (by exact rfl) ?_))
        refine w_call rfl rfl rfl (by kernel_rfl) (Fnc.mono (ring_t hT0 o ow _ hch) ?_)
        rintro ⟨_, H1, n1⟩ ⟨rfl, hle1, hfr1⟩
        dsimp only at hle1 hfr1 ⊢
        have h1 := h.frameA (H' := H1) fun n hn => hfr1 n (h.all_ltA hund n hn)
        have hstep1 : Step (All t a b F1 F2) (All t a b F1 F2) H nx H1 n1 := ⟨hle1, fun _ q => .inl q, fun n hn _ => hfr1 n hn⟩
        by_cases hd : (ltOf ml mp).chase o ((ltOf ml mp).parties.length + 1) ow = some true
        · have hask : (ltOf ml mp).ask o k = (ltOf ml mp, 10) := by
            unfold LT.ask
            rw [if_neg hc1, if_neg hwt, hgl']
            simp only
            rw [if_neg (by omega), if_pos hd]
          rw [hask, decide_eq_true hd]
          (repeat (first | refine y_seq ?_ | refine w_region ?_ | refine y_regEnd ?_ | refine y_condT rfl ?_ | refine w_assign rfl rfl rfl ?_ | refine w_pickT rfl rfl rfl rfl ?_))
          ((apply w_ret Try.func29 (congrArg Array.toList Try.results29)); (focus (repeat (first | exact ResIs.nil | apply ResIs.tmp rfl))))
          exact ⟨rfl, _, ⟨a, b, _, _, _, _, _, _, h1, rfl, fun _ => Iff.rfl⟩, hstep1⟩
        have hask : (ltOf ml mp).ask o k = (⟨mput (ltOf ml mp).locks k (ow, l ++ [o]), mput (ltOf ml mp).parties o ((ltOf ml mp).keys o, k)⟩, 9) := by
          unfold LT.ask
          rw [if_neg hc1, if_neg hwt, hgl']
          simp only
          rw [if_neg (by omega), if_neg hd]
        rw [decide_eq_false hd]
        clear hr hch hund
        refine y_under fun hund1 => ?_
        have hgp' := hgp
        have hput : ∀ y, mput (ltOf ml mp).parties o y = mput (ltOf ml mp).parties o y := fun _ => rfl
        obtain ⟨lr', q1, q2, q3, q4, q5, q6, q7, hturnL⟩ := h1.turnLock hund1 hgl
        clear h htab hloc hpar
        (repeat (first | (first | refine y_seq ?_ | refine w_region ?_ | refine y_regEnd ?_ | refine y_skip ?_ | refine y_condF rfl ?_ | refine w_move rfl rfl rfl ?_ | refine w_pickT rfl rfl rfl rfl ?_ | refine w_nilCheck rfl rfl rfl ?_ | refine w_fieldAddr rfl rfl rfl (F.fo _ _ rfl rfl) ?_ | refine w_eqNil rfl rfl rfl rfl (F.un _ rfl) rfl ?_ | refine w_storeC rfl rfl rfl rfl (F.sz _ rfl) (by first | exact rfl | (focus ((repeat (first | refine (Tr.at_set_other _ _ (by omega)).trans ?_ | refine (Tr.at_del_other _ (by omega)).trans ?_)); first | exact Tr.at_set_same _ _ _ | assumption))) rfl (by exact Nat.le_of_ble_eq_true rfl) rfl ?_ | refine w_loadB1 rfl rfl rfl (F.ag _ rfl) (by (focus (skip; first | exact Tr.at_set_same _ _ _ | assumption))) (by exact rfl) ?_) | refine w_buildSlice rfl rfl (F.un _ rfl) (F.sz _ rfl) rfl (F.ze _ rfl) rfl rfl rfl rfl rfl ?_ | refine w_push (b := 8) (xs := l) (a := o) rfl rfl rfl rfl (F.un _ rfl) (.inl ⟨_, F.un _ rfl⟩) (F.sz _ rfl) rfl (by kernel_rfl) (by kernel_rfl) (by (focus ((repeat (refine (Tr.at_set_other _ _ (by omega)).trans ?_)); first | exact Tr.at_set_same _ _ _ | assumption))) (by (focus (skip; first | exact Tr.at_set_same _ _ _ | assumption))) (by exact rfl) (recU) (by omega) (by omega) ?_))
        have hlen : l.length + 1 = (l ++ [o]).length := by simp
        refine y_gen (R := fun Hb nb => ∃ F1', Tb t a b (kput ml k (ln, (ow, l ++ [o])) cl) cl mp cp F1' F2 Hb ∧ Step (All t a b F1 F2) (All t a b F1' F2) H1 n1 Hb nb) (hturnL (r' := n1 + 1) ow (l ++ [o]) (Nat.le_trans (Nat.le_succ _) (Nat.le_succ _)) (.inl (Nat.le_succ _)) ?_ ?_ ?_) ?_
        · refine (Tr.at_set_same _ _ _).trans ?_
          rw [← hlen]
          try rfl
        · refine (Tr.at_set_other _ _ (by omega)).trans ((Tr.at_set_same _ _ _).trans ?_)
          show _ = some (dat false (l ++ [o]).length 1 23 ((l ++ [o]).flatMap uV))
          rw [← hlen]
          try rfl
        · exact fun z hz hz1 hz2 => (Tr.at_set_other _ _ (by omega)).trans ((Tr.at_set_other _ _ (by omega)).trans ((Tr.at_del_other _ (by omega)).trans (Tr.at_set_other _ _ (by omega))))
        rintro H3 n3 ⟨F1', h3, hstep3⟩
        refine y_under fun hund4 => ?_
        obtain ⟨r4, v1, v2, v3, v4, v5, v6, v7, hturnP⟩ := h3.turnParty hund4 hgp'
        (repeat (first | refine y_seq ?_ | refine w_region ?_ | refine y_regEnd ?_ | refine w_assign rfl rfl rfl ?_ | refine w_storeC rfl rfl rfl rfl (F.sz _ rfl) (by first | exact rfl | (focus (skip; first | exact Tr.at_set_same _ _ _ | assumption))) rfl (by exact Nat.le_of_ble_eq_true rfl) rfl ?_))
        ((apply w_ret Try.func29 (congrArg Array.toList Try.results29)); (focus (repeat (first | exact ResIs.nil | apply ResIs.tmp rfl))))
        rw [hask]
        refine chg_of (hstep1.trans hstep3) (hturnP (r' := r4) ks k (Nat.le_refl _) (.inr rfl) ?_ ?_ ?_) ?_
        · exact Tr.at_set_same _ _ _
        · exact (Tr.at_set_other _ _ (by omega)).trans v2
        · exact fun z hz hz1 hz2 => Tr.at_set_other _ _ (by omega)
        rw [mput_kv_p, mput_kv_l, hkeys]
        try exact congrArg (LT.mk _) (hput _).symm
    · have hask : (ltOf ml mp).ask o k = (ltOf ml mp, 7) := by
        unfold LT.ask
        rw [if_neg hc1, t_waits, hgp, if_pos h4]
      have hnw : (w != (⟨#[]⟩ : ByteArray)) = true := by
        rw [show (w != (⟨#[]⟩ : ByteArray)) = !(w == (⟨#[]⟩ : ByteArray)) from rfl, empty_ne h4]; rfl
      rw [hask]
      (repeat (first | (first | refine y_seq ?_ | refine w_region ?_ | refine y_regEnd ?_ | refine y_condT rfl ?_ | refine w_assign rfl rfl rfl ?_ | refine w_pickT rfl rfl rfl rfl ?_) | refine w_neStrV rfl rfl rfl rfl hnw ?_))
      ((apply w_ret Try.func29 (congrArg Array.toList Try.results29)); (focus (repeat (first | exact ResIs.nil | apply ResIs.tmp rfl))))
      exact chg_same hT0 _
end Go.Proofs.Ytckajlllkmkniaa
end
section
namespace Go.Proofs.Ytckajlllkmkniaa
open Go Go.Sy Go.Sl Go.RowKit
abbrev ActT := Int × Nat × ByteArray × Int
abbrev actV : ActT → List Value := fun x => [.int .i64 x.1, .int .u64 (x.2.1 : Int), .string x.2.2.1, .int .i64 x.2.2.2]
theorem recA : RecOf actV 4 := ⟨fun _ => rfl, fun x v hv => by simp [actV] at hv; rcases hv with rfl | rfl | rfl | rfl <;> rfl⟩
abbrev actR (ro : Bool) (a : Array ActT) : VO := arr ro a.size 4 32 actV a
def muchA (a : Array ActT) (m : Int) : Bool := (a.toList.take (m + 1).toNat).any (fun x => decide (300 < x.2.2.1.size)) || decide (m < a.size)
set_option maxRecDepth 100000 in
set_option maxHeartbeats 0 in
theorem much_s {H : Heap} {nx r : Nat} {ro : Bool} (a : Array ActT) (m : Int) (hr : H.at' r = some (actR ro a)) (ha : a.size ≤ 9223372036854775807) : Fnc Try.prog 8 [.slu r 0 a.size, .sc (.int .i64 m)] H nx (fun q => q = (.sc (.bool (muchA a m)), H, nx)) := by
  refine Fnc.start Try.func8 rfl rfl ?_
  (repeat (first | refine y_seq ?_ | refine w_region ?_ | refine y_regEnd ?_ | refine y_block ?_ | refine w_assign rfl rfl rfl ?_))
  refine y_loopT (α := Nat) (fun i => [(0, .slu r 0 a.size), (1, .sc (.int .i64 m)), (5, .sc (.int .i64 (i : Int)))]) (fun i H1 nx1 => H1 = H ∧ nx1 = nx ∧ i ≤ a.size ∧ (a.toList.take i).any (fun x => decide (300 < x.2.2.1.size)) = false) (fun i => a.size - i) 0 ⟨rfl, rfl, Nat.zero_le _, rfl⟩ (SlIn.sub ⟨rfl, rfl, rfl, trivial⟩) ?_
  rintro i H1 nx1 ⟨rfl, rfl, hi, hno⟩ again
  have hend : (¬ i < a.size ∨ m < (i : Int)) → muchA a m = decide (m < (a.size : Int)) := by
    intro h
    unfold muchA
    have : (a.toList.take (m + 1).toNat).any (fun x => decide (300 < x.2.2.1.size)) = false := by
      rw [List.any_eq_false] at hno ⊢
      intro x hx
      apply hno
      rcases h with h | h
      · rw [List.take_of_length_le (by rw [Array.length_toList]; omega)]
        exact List.mem_of_mem_take hx
      · exact (List.take_subset_take_left _ (by omega)) hx
    rw [this]
    rfl
  (repeat (first | refine y_seq ?_ | refine w_region ?_ | refine w_move rfl rfl rfl ?_ | refine w_lenSl rfl rfl rfl (F.un _ rfl) ?_))
  refine w_lssS rfl rfl rfl rfl ?_ ?_
  all_goals intro h1
  · (repeat (refine w_move rfl rfl rfl ?_))
    refine w_leqS rfl rfl rfl rfl ?_ ?_
    all_goals intro h2
    · have hx : i < a.size := by omega
      (repeat (first | (first | refine y_seq ?_ | refine w_region ?_ | refine y_regEnd ?_ | refine y_block ?_ | refine y_skip ?_ | refine y_condT rfl ?_ | refine w_move rfl rfl rfl ?_ | refine w_pickT rfl rfl rfl rfl ?_ | refine w_fieldAddr rfl rfl rfl (F.fo _ _ rfl rfl) ?_ | refine w_lenStr rfl rfl rfl (F.un _ rfl) ?_) | refine w_idxN (q := i) rfl rfl rfl rfl (F.un _ rfl) (F.sz _ rfl) (by (focus (skip; first | exact Tr.at_set_same _ _ _ | assumption))) (by omega) (by first | omega | (simp; done)) (Nat.le_refl _) ?_ | refine w_ldF i 2 rfl rfl rfl (F.ag _ rfl) (recA) (by first | exact rfl | (focus (skip; first | exact Tr.at_set_same _ _ _ | assumption))) (by omega) (by omega) (by omega) rfl ?_))
      refine w_gtrS rfl rfl rfl rfl ?_ ?_
      all_goals intro h3
      · (repeat (first | refine y_seq ?_ | refine w_region ?_ | refine y_regEnd ?_ | refine y_condT rfl ?_ | refine w_assign rfl rfl rfl ?_))
        ((apply w_ret Try.func8 (congrArg Array.toList Try.results8)); (focus (repeat (first | exact ResIs.nil | apply ResIs.tmp rfl))))
        have : muchA a m = true := by
          unfold muchA
          rw [Bool.or_eq_true]
          left
          rw [List.any_eq_true]
          refine ⟨a[i]!, ?_, by simp; omega⟩
          rw [List.mem_take_iff_getElem]
          refine ⟨i, by rw [Array.length_toList]; omega, ?_⟩
          rw [getElem!_pos a i hx]
          simp
        rw [this]
        rfl
      · (repeat (first | refine w_region ?_ | refine y_regEnd ?_ | refine y_inBlock ?_ | refine y_skip ?_ | refine y_condF rfl ?_ | refine w_move rfl rfl rfl ?_ | refine w_assign rfl rfl rfl ?_ | refine w_add rfl rfl rfl rfl (by omega) (by omega) ?_))
        refine again _ _ _ (i + 1) ⟨rfl, rfl, hx, ?_⟩ (by omega) (SlIn.sub (by repeat (first | exact trivial | refine ⟨rfl, ?_⟩)))
        rw [List.take_succ_eq_append_getElem (by rw [Array.length_toList]; exact hx), List.any_append, hno]
        rw [getElem!_pos a i hx] at h3
        simp
        omega
    · (repeat (first | refine y_seq ?_ | refine w_region ?_ | refine y_regEnd ?_ | refine y_exit rfl ?_ | refine y_condF rfl ?_ | refine w_move rfl rfl rfl ?_ | refine w_pickT rfl rfl rfl rfl ?_ | refine w_lenSl rfl rfl rfl (F.un _ rfl) ?_))
      refine w_gtrS rfl rfl rfl rfl ?_ ?_
      all_goals intro h3
      all_goals (repeat (first | refine y_regEnd ?_ | refine w_assign rfl rfl rfl ?_))
      · ((apply w_ret Try.func8 (congrArg Array.toList Try.results8)); (focus (repeat (first | exact ResIs.nil | apply ResIs.tmp rfl))))
        rw [hend (.inr (by omega)), decide_eq_true (by omega)]
        rfl
      · ((apply w_ret Try.func8 (congrArg Array.toList Try.results8)); (focus (repeat (first | exact ResIs.nil | apply ResIs.tmp rfl))))
        rw [hend (.inr (by omega)), decide_eq_false (by omega)]
        rfl
  · (repeat (first | refine y_seq ?_ | refine w_region ?_ | refine y_regEnd ?_ | refine y_exit rfl ?_ | refine y_condF rfl ?_ | refine w_move rfl rfl rfl ?_ | refine w_pickF rfl rfl rfl rfl ?_ | refine w_not rfl ?_ | refine w_lenSl rfl rfl rfl (F.un _ rfl) ?_))
    refine w_gtrS rfl rfl rfl rfl ?_ ?_
    all_goals intro h3
    all_goals (repeat (first | refine y_regEnd ?_ | refine w_assign rfl rfl rfl ?_))
    · ((apply w_ret Try.func8 (congrArg Array.toList Try.results8)); (focus (repeat (first | exact ResIs.nil | apply ResIs.tmp rfl))))
      rw [hend (.inl (by omega)), decide_eq_true (by omega)]
      rfl
    · ((apply w_ret Try.func8 (congrArg Array.toList Try.results8)); (focus (repeat (first | exact ResIs.nil | apply ResIs.tmp rfl))))
      rw [hend (.inl (by omega)), decide_eq_false (by omega)]
      rfl
end Go.Proofs.Ytckajlllkmkniaa
end
section
namespace Go.Proofs.Ytckajlllkmkniaa
open Go Go.Sy Go.Sl Go.RowKit
theorem maps_ (l : List ByteArray) : (l.flatMap sV) = l.map (fun s : ByteArray => Value.string s) := by
  induction l with
  | nil => rfl
  | cons a l ih => rw [List.flatMap_cons, ih]; rfl
theorem mapu_ (l : List Nat) : (l.flatMap uV) = l.map (fun n : Nat => Value.int .u64 (n : Int)) := by
  induction l with
  | nil => rfl
  | cons a l ih => rw [List.flatMap_cons, ih]; rfl
theorem at_s {l : List ByteArray} {i : Nat} (hi : i < l.length) : (l.flatMap sV)[i * 1]? = some (.string l[i]) := by
  rw [maps_, Nat.mul_one, List.getElem?_map, List.getElem?_eq_getElem hi]; rfl
theorem at_u {l : List Nat} {i : Nat} (hi : i < l.length) : (l.flatMap uV)[i * 1]? = some (.int .u64 ((l[i] : Nat) : Int)) := by
  rw [mapu_, Nat.mul_one, List.getElem?_map, List.getElem?_eq_getElem hi]; rfl
theorem take_more {A : Type} {xs ys : List A} {i : Nat} (hx : i < xs.length) (hy : i < ys.length) (h : xs.take i = ys.take i) (e : xs[i] = ys[i]) : xs.take (i + 1) = ys.take (i + 1) := by
  rw [List.take_succ_eq_append_getElem hx, List.take_succ_eq_append_getElem hy, h, e]
theorem num_s {H : Heap} {nx : Nat} (e : Int) : Fnc Try.prog 16 [.sc (.int .i64 e)] H nx (fun q => q = (.sc (.int .i64 e), H, nx)) := by
  refine Fnc.start Try.func16 rfl rfl ?_
  (repeat (first | refine y_seq ?_ | refine w_region ?_ | refine y_regEnd ?_ | refine w_move rfl rfl rfl ?_ | refine w_assign rfl rfl rfl ?_))
  ((apply w_ret Try.func16 (congrArg Array.toList Try.results16)); (focus (repeat (first | exact ResIs.nil | apply ResIs.tmp rfl))))
  rfl
set_option maxRecDepth 100000 in
set_option maxHeartbeats 0 in
theorem texts_s {H : Heap} {nx r1 r2 : Nat} {a1 a2 : Bool} (xs ys : List ByteArray) (h1 : H.at' r1 = some (sR a1 xs)) (h2 : H.at' r2 = some (sR a2 ys)) (hl : xs.length < 2000000) (hl2 : ys.length < 2000000) : Fnc Try.prog 17 [.slu r1 0 xs.length, .slu r2 0 ys.length] H nx (fun q => q = (.sc (.bool (decide (xs = ys))), H, nx)) := by
  refine Fnc.start Try.func17 rfl rfl ?_
  (repeat (first | refine y_seq ?_ | refine w_region ?_ | refine y_regEnd ?_ | refine w_move rfl rfl rfl ?_ | refine w_assign rfl rfl rfl ?_ | refine w_lenSl rfl rfl rfl (F.un _ rfl) ?_))
  refine w_neqS rfl rfl rfl rfl ?_ ?_
  all_goals intro h3
  · (repeat (first | refine y_seq ?_ | refine w_region ?_ | refine y_regEnd ?_ | refine y_condT rfl ?_ | refine w_assign rfl rfl rfl ?_))
    ((apply w_ret Try.func17 (congrArg Array.toList Try.results17)); (focus (repeat (first | exact ResIs.nil | apply ResIs.tmp rfl))))
    rw [decide_eq_false (fun e => h3 (by rw [e]))]
    rfl
  have hle : xs.length = ys.length := by omega
  (repeat (first | refine y_seq ?_ | refine w_region ?_ | refine y_regEnd ?_ | refine y_block ?_ | refine y_skip ?_ | refine y_condF rfl ?_ | refine w_assign rfl rfl rfl ?_))
  refine y_loopT (α := Nat) (fun i => [(0, .slu r1 0 xs.length), (1, .slu r2 0 ys.length), (5, .sc (.int .i64 (i : Int)))]) (fun i H1 nx1 => H1 = H ∧ nx1 = nx ∧ i ≤ xs.length ∧ xs.take i = ys.take i) (fun i => xs.length - i) 0 ⟨rfl, rfl, Nat.zero_le _, rfl⟩ (SlIn.sub ⟨rfl, rfl, rfl, trivial⟩) ?_
  rintro i H1 nx1 ⟨rfl, rfl, hi, heq⟩ again
  (repeat (first | refine y_seq ?_ | refine w_region ?_ | refine w_move rfl rfl rfl ?_ | refine w_lenSl rfl rfl rfl (F.un _ rfl) ?_))
  refine w_lssS rfl rfl rfl rfl ?_ ?_
  all_goals intro h4
  · have hx : i < xs.length := by omega
    have hy : i < ys.length := by omega
    by_cases h5 : xs[i] = ys[i]
    all_goals have h6 : (xs[i] != ys[i]) = !(xs[i] == ys[i]) := rfl
    rotate_left
    all_goals (repeat (first | refine y_seq ?_ | refine y_regEnd ?_ | refine y_block ?_ | refine y_skip ?_ | refine y_condT rfl ?_))
    all_goals refine w_draw (by kernel_rfl) (by kernel_rfl) ?_
    all_goals (repeat (first | (refine dw_move rfl rfl rfl ?_) | refine dw_idxN (q := i) rfl rfl rfl rfl (F.un _ rfl) (F.sz _ rfl) (by (focus (skip; first | exact Tr.at_set_same _ _ _ | assumption))) (by omega) (by first | omega | (simp; done)) (Nat.le_refl _) ?_ | refine dw_loadD1 rfl rfl rfl (F.ag _ rfl) (by (focus (skip; first | exact Tr.at_set_same _ _ _ | assumption))) (at_s hx) (by first | omega | (simp; done)) ?_ | refine dw_loadD1 rfl rfl rfl (F.ag _ rfl) (by (focus (skip; first | exact Tr.at_set_same _ _ _ | assumption))) (at_s hy) (by first | omega | (simp; done)) ?_))
    · have h7 : (xs[i] == ys[i]) = false := by
        cases hq : (xs[i] == ys[i]) with
        | false => rfl
        | true => exact absurd ((MapKept.bytes_beq _ _).1 hq) h5
      rw [h7] at h6
      refine dw_neStrV rfl rfl rfl rfl h6 ?_
      (refine dk_nil ?_); (refine ⟨by kernel_rfl, ?_, ?_⟩); (focus (repeat (first | exact trivial | refine ⟨.inl rfl, ?_⟩)))
      dsimp only [wrL]
      (repeat (first | refine y_seq ?_ | refine w_region ?_ | refine y_regEnd ?_ | refine y_condT rfl ?_ | refine w_assign rfl rfl rfl ?_))
      ((apply w_ret Try.func17 (congrArg Array.toList Try.results17)); (focus (repeat (first | exact ResIs.nil | apply ResIs.tmp rfl))))
      rw [decide_eq_false (fun e => h5 (by subst e; rfl))]
      rfl
    · rw [(MapKept.bytes_beq _ _).2 h5] at h6
      refine dw_neStrV rfl rfl rfl rfl h6 ?_
      (refine dk_nil ?_); (refine ⟨by kernel_rfl, ?_, ?_⟩); (focus (repeat (first | exact trivial | refine ⟨.inl rfl, ?_⟩)))
      dsimp only [wrL]
      (repeat (first | refine w_region ?_ | refine y_regEnd ?_ | refine y_inBlock ?_ | refine y_skip ?_ | refine y_condF rfl ?_ | refine w_move rfl rfl rfl ?_ | refine w_assign rfl rfl rfl ?_ | refine w_add rfl rfl rfl rfl (by omega) (by omega) ?_))
      refine again _ _ _ (i + 1) ⟨rfl, rfl, hx, take_more hx hy heq h5⟩ (by omega) (SlIn.sub (by repeat (first | exact trivial | refine ⟨rfl, ?_⟩)))
  · (repeat (first | refine y_seq ?_ | refine w_region ?_ | refine y_regEnd ?_ | refine y_exit rfl ?_ | refine y_condF rfl ?_ | refine w_assign rfl rfl rfl ?_))
    ((apply w_ret Try.func17 (congrArg Array.toList Try.results17)); (focus (repeat (first | exact ResIs.nil | apply ResIs.tmp rfl))))
    rw [List.take_of_length_le (by omega), List.take_of_length_le (by omega)] at heq
    rw [decide_eq_true heq]
    rfl
set_option maxRecDepth 100000 in
set_option maxHeartbeats 0 in
theorem numbers_s {H : Heap} {nx r1 r2 : Nat} {a1 a2 : Bool} (xs ys : List Nat) (h1 : H.at' r1 = some (uR a1 xs)) (h2 : H.at' r2 = some (uR a2 ys)) (hl : xs.length < 2000000) (hl2 : ys.length < 2000000) : Fnc Try.prog 27 [.slu r1 0 xs.length, .slu r2 0 ys.length] H nx (fun q => q = (.sc (.bool (decide (xs = ys))), H, nx)) := by
  refine Fnc.start Try.func27 rfl rfl ?_
  (repeat (first | refine y_seq ?_ | refine w_region ?_ | refine y_regEnd ?_ | refine w_move rfl rfl rfl ?_ | refine w_assign rfl rfl rfl ?_ | refine w_lenSl rfl rfl rfl (F.un _ rfl) ?_))
  refine w_neqS rfl rfl rfl rfl ?_ ?_
  all_goals intro h3
  · (repeat (first | refine y_seq ?_ | refine w_region ?_ | refine y_regEnd ?_ | refine y_condT rfl ?_ | refine w_assign rfl rfl rfl ?_))
    ((apply w_ret Try.func27 (congrArg Array.toList Try.results27)); (focus (repeat (first | exact ResIs.nil | apply ResIs.tmp rfl))))
    rw [decide_eq_false (fun e => h3 (by rw [e]))]
    rfl
  have hle : xs.length = ys.length := by omega
  (repeat (first | refine y_seq ?_ | refine w_region ?_ | refine y_regEnd ?_ | refine y_block ?_ | refine y_skip ?_ | refine y_condF rfl ?_ | refine w_assign rfl rfl rfl ?_))
  refine y_loopT (α := Nat) (fun i => [(0, .slu r1 0 xs.length), (1, .slu r2 0 ys.length), (5, .sc (.int .i64 (i : Int)))]) (fun i H1 nx1 => H1 = H ∧ nx1 = nx ∧ i ≤ xs.length ∧ xs.take i = ys.take i) (fun i => xs.length - i) 0 ⟨rfl, rfl, Nat.zero_le _, rfl⟩ (SlIn.sub ⟨rfl, rfl, rfl, trivial⟩) ?_
  rintro i H1 nx1 ⟨rfl, rfl, hi, heq⟩ again
  (repeat (first | refine y_seq ?_ | refine w_region ?_ | refine w_move rfl rfl rfl ?_ | refine w_lenSl rfl rfl rfl (F.un _ rfl) ?_))
  refine w_lssS rfl rfl rfl rfl ?_ ?_
  all_goals intro h4
  · have hx : i < xs.length := by omega
    have hy : i < ys.length := by omega
    (repeat (first | refine y_seq ?_ | refine y_regEnd ?_ | refine y_block ?_ | refine y_skip ?_ | refine y_condT rfl ?_))
    refine w_draw (by kernel_rfl) (by kernel_rfl) ?_
    (repeat (first | (refine dw_move rfl rfl rfl ?_) | refine dw_idxN (q := i) rfl rfl rfl rfl (F.un _ rfl) (F.sz _ rfl) (by (focus (skip; first | exact Tr.at_set_same _ _ _ | assumption))) (by omega) (by first | omega | (simp; done)) (Nat.le_refl _) ?_ | refine dw_loadD1 rfl rfl rfl (F.ag _ rfl) (by (focus (skip; first | exact Tr.at_set_same _ _ _ | assumption))) (at_u hx) (by first | omega | (simp; done)) ?_ | refine dw_loadD1 rfl rfl rfl (F.ag _ rfl) (by (focus (skip; first | exact Tr.at_set_same _ _ _ | assumption))) (at_u hy) (by first | omega | (simp; done)) ?_))
    refine dw_neqS rfl rfl rfl rfl ?_ ?_
    all_goals intro h5
    · (refine dk_nil ?_); (refine ⟨by kernel_rfl, ?_, ?_⟩); (focus (repeat (first | exact trivial | refine ⟨.inl rfl, ?_⟩)))
      dsimp only [wrL]
      (repeat (first | refine y_seq ?_ | refine w_region ?_ | refine y_regEnd ?_ | refine y_condT rfl ?_ | refine w_assign rfl rfl rfl ?_))
      ((apply w_ret Try.func27 (congrArg Array.toList Try.results27)); (focus (repeat (first | exact ResIs.nil | apply ResIs.tmp rfl))))
      rw [decide_eq_false (fun e => h5 (by subst e; rfl))]
      rfl
    · (refine dk_nil ?_); (refine ⟨by kernel_rfl, ?_, ?_⟩); (focus (repeat (first | exact trivial | refine ⟨.inl rfl, ?_⟩)))
      dsimp only [wrL]
      (repeat (first | refine w_region ?_ | refine y_regEnd ?_ | refine y_inBlock ?_ | refine y_skip ?_ | refine y_condF rfl ?_ | refine w_move rfl rfl rfl ?_ | refine w_assign rfl rfl rfl ?_ | refine w_add rfl rfl rfl rfl (by omega) (by omega) ?_))
      refine again _ _ _ (i + 1) ⟨rfl, rfl, hx, take_more hx hy heq (by omega)⟩ (by omega) (SlIn.sub (by repeat (first | exact trivial | refine ⟨rfl, ?_⟩)))
  · (repeat (first | refine y_seq ?_ | refine w_region ?_ | refine y_regEnd ?_ | refine y_exit rfl ?_ | refine y_condF rfl ?_ | refine w_assign rfl rfl rfl ?_))
    ((apply w_ret Try.func27 (congrArg Array.toList Try.results27)); (focus (repeat (first | exact ResIs.nil | apply ResIs.tmp rfl))))
    rw [List.take_of_length_le (by omega), List.take_of_length_le (by omega)] at heq
    rw [decide_eq_true heq]
    rfl
end Go.Proofs.Ytckajlllkmkniaa
end
section
namespace Go.Proofs.Ytckajlllkmkniaa
open Go Go.Sy Go.Sl Go.RowKit
def LT.act (T : LT) (x : ActT) : LT × List Nat × Int :=
  if x.1 = 1 then ((T.ask x.2.1 x.2.2.1).1, [], (T.ask x.2.1 x.2.2.1).2) else
  if x.1 = 2 then T.back x.2.1 x.2.2.2 else
  if x.1 = 3 then ((T.back x.2.1 0).1, (T.back x.2.1 0).2.1, 0) else (T, [], 0)
def LT.askOk (T : LT) (o : Nat) (k : ByteArray) : Prop :=
  (T.keys o).length < 999999 ∧ (T.line k).length < 999999 ∧ ∀ h l, mget T.locks k = some (h, l) → T.chase o 1001 h = some (decide (T.chase o (T.parties.length + 1) h = some true))
def ChgD (t : Nat) (T' : LT) (l : List Nat) (e : Int) (Fp : Nat → Prop) (H : Heap) (nx : Nat) : Pst := fun q => ∃ r, q.1 = .tup [.sc (.int .i64 e), .slu r 0 l.length] ∧ q.2.1.at' r = some (uR false l) ∧ nx ≤ r ∧ r < q.2.2 ∧ ∃ F', TabAt t T' F' q.2.1 ∧ ¬ F' r ∧ Step Fp F' H nx q.2.1 q.2.2
def LT.actOk (T : LT) (x : ActT) : Prop := T.askOk x.2.1 x.2.2.1 ∧ T.backOk x.2.1 x.2.2.2 ∧ T.backOk x.2.1 0
set_option maxRecDepth 100000 in
set_option maxHeartbeats 0 in
theorem free_t {t : Nat} {T : LT} {Fp : Nat → Prop} {H : Heap} {nx : Nat} (hT : TabAt t T Fp H) (o : Nat) (hok : T.backOk o 0) : Fnc Try.prog 22 [.ptr t 0, .sc (.int .u64 (o : Int))] H nx (fun q => ∃ r, q.1 = .slu r 0 (T.back o 0).2.1.length ∧ q.2.1.at' r = some (uR false (T.back o 0).2.1) ∧ nx ≤ r ∧ r < q.2.2 ∧ ∃ F', TabAt t (T.back o 0).1 F' q.2.1 ∧ ¬ F' r ∧ Step Fp F' H nx q.2.1 q.2.2) := by
  refine Fnc.start Try.func22 rfl rfl ?_
  (repeat (first | refine y_seq ?_ | refine w_region ?_ | refine y_regEnd ?_ | refine w_move rfl rfl rfl ?_ | refine w_assign rfl rfl rfl ?_))
  refine w_call rfl rfl rfl (by kernel_rfl) (Fnc.mono (back_t hT o 0 hok) ?_)
  rintro ⟨_, H1, n1⟩ ⟨r, rfl, h1, h2, h3, F', h4, h5, h6⟩
  dsimp only at h1 h2 h3 h4 h5 h6 ⊢
  (repeat (first | refine y_seq ?_ | refine w_region ?_ | refine y_regEnd ?_ | refine w_move rfl rfl rfl ?_ | refine w_assign rfl rfl rfl ?_ | refine w_extract rfl rfl rfl rfl ?_))
  ((apply w_ret Try.func22 (congrArg Array.toList Try.results22)); (focus (repeat (first | exact ResIs.nil | apply ResIs.tmp rfl))))
  exact ⟨r, rfl, h1, h2, h3, F', h4, h5, h6⟩
set_option maxRecDepth 100000 in
set_option maxHeartbeats 0 in
theorem do_t {t : Nat} {T : LT} {Fp : Nat → Prop} {H : Heap} {nx : Nat} (hT : TabAt t T Fp H) (x : ActT) (hok : T.actOk x) (hsz : x.2.2.1.size < 4611686018427387904) : Fnc Try.prog 11 [.ptr t 0, .agg ((actV x).map .sc)] H nx (ChgD t (T.act x).1 (T.act x).2.1 (T.act x).2.2 Fp H nx) := by
  obtain ⟨kd, o, k, mk⟩ := x
  obtain ⟨⟨a1, a2, a3⟩, ok2, ok3⟩ := hok
  simp only at a1 a2 a3 ok2 ok3 hsz
  refine Fnc.start Try.func11 rfl rfl ?_
  refine y_under fun hund => ?_
  have hlt := hT.lt hund
  (repeat (first | refine y_seq ?_ | refine w_region ?_ | refine y_regEnd ?_ | refine y_block ?_ | refine w_assign rfl rfl rfl ?_ | refine w_fieldAddr rfl rfl rfl (F.fo _ _ rfl rfl) ?_ | refine w_boxN rfl rfl rfl ?_ | refine w_loadB1 rfl rfl rfl (F.ag _ rfl) (by (focus (skip; first | exact Tr.at_set_same _ _ _ | assumption))) (by exact rfl) ?_))
  have hTn : TabAt t T Fp (H.set nx (newCells 32 [.sc (.int .i64 kd), .sc (.int .u64 (o : Int)), .sc (.string k), .sc (.int .i64 mk)])) := hT.frame fun n hn => Tr.at_set_other _ _ (by have := hlt n hn; omega)
  have hst0 : Step Fp Fp H nx (H.set nx (newCells 32 [.sc (.int .i64 kd), .sc (.int .u64 (o : Int)), .sc (.string k), .sc (.int .i64 mk)])) (nx + 1) := ⟨Nat.le_succ _, fun _ q => .inl q, fun n hn _ => Tr.at_set_other _ _ (by omega)⟩
  refine w_eqlS rfl rfl rfl rfl ?_ ?_
  all_goals intro h1
  · have hact : T.act (kd, o, k, mk) = ((T.ask o k).1, [], (T.ask o k).2) := by unfold LT.act; rw [if_pos h1]
    rw [hact]
    (repeat (first | refine y_seq ?_ | refine w_region ?_ | refine y_regEnd ?_ | refine y_condT rfl ?_ | refine w_move rfl rfl rfl ?_ | refine w_assign rfl rfl rfl ?_ | refine w_fieldAddr rfl rfl rfl (F.fo _ _ rfl rfl) ?_ | refine w_loadB1 rfl rfl rfl (F.ag _ rfl) (by (focus (skip; first | exact Tr.at_set_same _ _ _ | assumption))) (by exact rfl) ?_))
    refine w_call rfl rfl rfl (by kernel_rfl) (Fnc.mono (ask_t hTn o k a1 a2 hsz a3) ?_)
    rintro ⟨_, H1, n1⟩ ⟨rfl, F', h4, h6⟩
    dsimp only at h4 h6 ⊢
    (repeat (first | (first | refine y_regEnd ?_ | refine w_assign rfl rfl rfl ?_) | (refine w_call rfl rfl rfl (by kernel_rfl) (Fnc.mono (num_s _) ?_); rintro _ rfl; dsimp only)))
    refine y_under fun hund1 => ?_
    refine y_nilRow 1 23 (d := 5) (by (focus (skip; first | exact Tr.at_set_same _ _ _ | assumption))) rfl ?_
    have hlt1 := h4.lt hund1
    ((apply w_ret Try.func11 (congrArg Array.toList Try.results11)); (focus (repeat (first | exact ResIs.nil | apply ResIs.tmp rfl))))
    refine ⟨n1, rfl, Tr.at_set_same _ _ _, Nat.le_trans (Nat.le_succ _) h6.1, Nat.lt_succ_self _, F', h4.frame fun n hn => Tr.at_set_other _ _ (by have := hlt1 n hn; omega), fun q => Nat.lt_irrefl _ (hlt1 _ q), hst0.trans (h6.trans ⟨Nat.le_succ _, fun _ q => .inl q, fun n hn _ => Tr.at_set_other _ _ (by omega)⟩)⟩
  (repeat (first | refine y_seq ?_ | refine w_region ?_ | refine y_regEnd ?_ | refine y_condF rfl ?_ | refine w_assign rfl rfl rfl ?_))
  refine w_eqlS rfl rfl rfl rfl ?_ ?_
  all_goals intro h2
  · have hact : T.act (kd, o, k, mk) = T.back o mk := by unfold LT.act; rw [if_neg h1, if_pos h2]
    rw [hact]
    (repeat (first | refine y_seq ?_ | refine w_region ?_ | refine y_regEnd ?_ | refine y_condT rfl ?_ | refine w_move rfl rfl rfl ?_ | refine w_assign rfl rfl rfl ?_ | refine w_fieldAddr rfl rfl rfl (F.fo _ _ rfl rfl) ?_ | refine w_loadB1 rfl rfl rfl (F.ag _ rfl) (by (focus (skip; first | exact Tr.at_set_same _ _ _ | assumption))) (by exact rfl) ?_))
    refine w_call rfl rfl rfl (by kernel_rfl) (Fnc.mono (back_t hTn o mk ok2) ?_)
    rintro ⟨_, H1, n1⟩ ⟨r, rfl, h3, h4, h5, F', h6, h7, h8⟩
    dsimp only at h3 h4 h5 h6 h7 h8 ⊢
    (repeat (first | (first | refine y_seq ?_ | refine w_region ?_ | refine y_regEnd ?_ | refine w_move rfl rfl rfl ?_ | refine w_assign rfl rfl rfl ?_ | refine w_extract rfl rfl rfl rfl ?_) | (refine w_call rfl rfl rfl (by kernel_rfl) (Fnc.mono (num_s _) ?_); rintro _ rfl; dsimp only)))
    ((apply w_ret Try.func11 (congrArg Array.toList Try.results11)); (focus (repeat (first | exact ResIs.nil | apply ResIs.tmp rfl))))
    exact ⟨r, rfl, h3, Nat.le_trans (Nat.le_succ _) h4, h5, F', h6, h7, hst0.trans h8⟩
  (repeat (first | refine y_seq ?_ | refine w_region ?_ | refine y_regEnd ?_ | refine y_condF rfl ?_ | refine w_assign rfl rfl rfl ?_))
  refine w_eqlS rfl rfl rfl rfl ?_ ?_
  all_goals intro h3
  · have hact : T.act (kd, o, k, mk) = ((T.back o 0).1, (T.back o 0).2.1, 0) := by unfold LT.act; rw [if_neg h1, if_neg h2, if_pos h3]
    rw [hact]
    (repeat (first | refine y_seq ?_ | refine w_region ?_ | refine y_regEnd ?_ | refine y_condT rfl ?_ | refine w_move rfl rfl rfl ?_ | refine w_assign rfl rfl rfl ?_ | refine w_fieldAddr rfl rfl rfl (F.fo _ _ rfl rfl) ?_ | refine w_loadB1 rfl rfl rfl (F.ag _ rfl) (by (focus (skip; first | exact Tr.at_set_same _ _ _ | assumption))) (by exact rfl) ?_))
    refine w_call rfl rfl rfl (by kernel_rfl) (Fnc.mono (free_t hTn o ok3) ?_)
    rintro ⟨_, H1, n1⟩ ⟨r, rfl, h3, h4, h5, F', h6, h7, h8⟩
    dsimp only at h3 h4 h5 h6 h7 h8 ⊢
    (repeat (first | refine y_regEnd ?_ | refine w_assign rfl rfl rfl ?_))
    ((apply w_ret Try.func11 (congrArg Array.toList Try.results11)); (focus (repeat (first | exact ResIs.nil | apply ResIs.tmp rfl))))
    exact ⟨r, rfl, h3, Nat.le_trans (Nat.le_succ _) h4, h5, F', h6, h7, hst0.trans h8⟩
  · have hact : T.act (kd, o, k, mk) = (T, [], 0) := by unfold LT.act; rw [if_neg h1, if_neg h2, if_neg h3]
    rw [hact]
    (repeat (first | refine y_seq ?_ | refine w_region ?_ | refine y_regEnd ?_ | refine y_inBlock ?_ | refine y_skip ?_ | refine y_condF rfl ?_ | refine w_assign rfl rfl rfl ?_))
    refine y_nilRow 1 23 (d := 5) (by (focus (skip; first | exact Tr.at_set_same _ _ _ | assumption))) rfl ?_
    ((apply w_ret Try.func11 (congrArg Array.toList Try.results11)); (focus (repeat (first | exact ResIs.nil | apply ResIs.tmp rfl))))
    refine ⟨nx + 1, rfl, Tr.at_set_same _ _ _, Nat.le_succ _, Nat.lt_succ_self _, Fp, hTn.frame fun n hn => Tr.at_set_other _ _ (by have := hlt n hn; omega), fun q => by have := hlt _ q; omega, hst0.trans ⟨Nat.le_succ _, fun _ q => .inl q, fun n hn _ => Tr.at_set_other _ _ (by omega)⟩⟩
end Go.Proofs.Ytckajlllkmkniaa
end
section
namespace Go.Proofs.Ytckajlllkmkniaa
open Go.Sl
theorem length_mput_le {K V : Type} [DecidableEq K] (l : List (K × V)) (k : K) (v : V) : (mput l k v).length ≤ l.length + 1 := by
  induction l with
  | nil => simp [mput]
  | cons x l ih =>
    unfold mput
    split
    · simp
    · simp only [List.length_cons]; omega
theorem length_mdel_has {K V : Type} [DecidableEq K] {l : List (K × V)} {k : K} {v : V} (h : mget l k = some v) : (mdel l k).length + 1 = l.length := by
  induction l with
  | nil => cases h
  | cons x l ih =>
    rw [mget_cons] at h
    unfold mdel
    split
    · simp
    · rename_i hx
      rw [if_neg hx] at h
      simp only [List.length_cons]
      have := ih h
      omega
theorem LT.Fine.mono {T : LT} {N M : Nat} (H : T.Fine N) (h : N ≤ M) : T.Fine M := ⟨H.wf, H.ndL, H.ndP, Nat.le_trans H.szL h, Nat.le_trans H.szP h⟩
theorem LT.Fine.empty : LT.empty.Fine 0 := ⟨LT.WF.empty, List.nodup_nil, List.nodup_nil, Nat.le_refl _, Nat.le_refl _⟩
theorem LT.Fine.ask {T : LT} {N : Nat} (H : T.Fine N) (o : Nat) (k : ByteArray) : (T.ask o k).1.Fine (N + 1) := by
  have hwf := H.wf.ask o k
  have h0 := H.mono (Nat.le_succ N)
  unfold LT.ask at hwf ⊢
  split
  · exact h0
  · split
    · exact h0
    · cases hg : mget T.locks k with
      | none =>
        rename_i h1 h2
        rw [if_neg h1, if_neg h2, hg] at hwf
        have a1 := length_mput_le T.locks k (o, ([] : List Nat))
        have a2 := length_mput_le T.parties o (T.keys o ++ [k], (⟨#[]⟩ : ByteArray))
        have := H.szL
        have := H.szP
        exact ⟨hwf, nodup_mput H.ndL _ _, nodup_mput H.ndP _ _, by simp only; omega, by simp only; omega⟩
      | some x =>
        obtain ⟨h, l⟩ := x
        rename_i h1 h2
        rw [if_neg h1, if_neg h2, hg] at hwf
        simp only at hwf ⊢
        split
        · exact h0
        · rename_i h3
          rw [if_neg h3] at hwf
          split
          · exact h0
          · rename_i h4
            rw [if_neg h4] at hwf
            have a1 := length_mput_le T.locks k (h, l ++ [o])
            have a2 := length_mput_le T.parties o (T.keys o, k)
            have := H.szL
            have := H.szP
            exact ⟨hwf, nodup_mput H.ndL _ _, nodup_mput H.ndP _ _, by simp only; omega, by simp only; omega⟩
theorem LT.Fine.askOk {T : LT} {N : Nat} (H : T.Fine N) (hN : N < 900) (o : Nat) (k : ByteArray) :
    (T.keys o).length < 999999 ∧ (T.line k).length < 999999 ∧ ∀ h l, mget T.locks k = some (h, l) → T.chase o 1001 h = some (decide (T.chase o (T.parties.length + 1) h = some true)) := by
  have h1 := H.wf.keys_le o
  have h2 := H.szL
  have h3 := H.szP
  have h4 := H.wf.line_le k
  refine ⟨by omega, by omega, fun h l _ => ?_⟩
  obtain ⟨b, hb⟩ := H.wf.chase o h
  have h5 := LT.chase_far hb (1001 - (T.parties.length + 1))
  rw [show T.parties.length + 1 + (1001 - (T.parties.length + 1)) = 1001 by omega] at h5
  rw [h5, hb]
  cases b <;> rfl
theorem LT.Fine.popsLaw {N : Nat} (hN : N < 900000) {o : Nat} {w : ByteArray} (hws : w.size = 0) : ∀ (r : Nat) (T : LT) (ks : List ByteArray) (came : List Nat), T.Fine N → mget T.parties o = some (ks, w) → r ≤ ks.length →
    (LT.pops o r T came).1.locks.length + r + came.length = T.locks.length + (LT.pops o r T came).2.length ∧
    (∀ k, k ∉ ks.drop (ks.length - r) → mget (LT.pops o r T came).1.locks k = mget T.locks k) ∧
    (∀ k, k ∈ ks.drop (ks.length - r) → (LT.pops o r T came).1.has k = (T.line k).headD 0)
  | 0, T, ks, came, H, hp, _ => by
    unfold LT.pops
    rw [Nat.sub_zero, List.drop_length]
    exact ⟨by simp, fun _ _ => rfl, fun _ h => by cases h⟩
  | r + 1, T, ks, came, H, hp, hr => by
    obtain ⟨ks', k, rfl⟩ : ∃ ks' k, ks = ks' ++ [k] := by
      refine ⟨ks.dropLast, ks.getLast (by intro h; subst h; simp at hr), ?_⟩
      rw [List.dropLast_concat_getLast]
    obtain ⟨s1, s2, s3⟩ := H.step hN hp hws
    have hlen : (ks' ++ [k]).length = ks'.length + 1 := by simp
    rw [hlen] at hr ⊢
    have hk : T.keys o = ks' ++ [k] := by unfold LT.keys; rw [hp]
    have hlast : (T.keys o).getLast? = some k := by rw [hk]; simp
    obtain ⟨_, p2, p3, _⟩ := H.wf.par o _ w hp
    obtain ⟨l, hg⟩ := p3 k (by simp)
    have hnk : k ∉ ks' := by
      rw [List.nodup_append] at p2
      intro q
      exact p2.2.2 _ q _ (List.mem_singleton.2 rfl) rfl
    have hd : (ks' ++ [k]).drop (ks'.length + 1 - (r + 1)) = ks'.drop (ks'.length - r) ++ [k] := by
      rw [show ks'.length + 1 - (r + 1) = ks'.length - r by omega, List.drop_append_of_le_length (by omega)]
    rw [hd]
    have hpopl : (T.pop o).locks = T.locks := rfl
    have hline : T.line k = l := by unfold LT.line; rw [hg]
    -- what is let go
    have key : ∃ c1, (((T.pop o).letGo k).1.locks.length + 1 + came.length = T.locks.length + c1.length) ∧ (if ((T.pop o).letGo k).2 = 0 then came else came ++ [((T.pop o).letGo k).2]) = c1 ∧ (∀ k', k' ≠ k → mget ((T.pop o).letGo k).1.locks k' = mget T.locks k') ∧ ((T.pop o).letGo k).1.has k = (T.line k).headD 0 := by
      have hgo : mget (T.pop o).locks k = some (o, l) := hg
      rw [hline]
      cases l with
      | nil =>
        have hlg : (T.pop o).letGo k = (⟨mdel (T.pop o).locks k, (T.pop o).parties⟩, 0) := by unfold LT.letGo; rw [hgo]
        rw [hlg]
        refine ⟨came, ?_, if_pos rfl, fun k' hne => ?_, ?_⟩
        · have := length_mdel_has hg
          simp only [hpopl]
          omega
        · simp only [hpopl]
          rw [mget_mdel H.ndL, if_neg (Ne.symm hne)]
        · unfold LT.has
          simp only [hpopl]
          rw [mget_mdel H.ndL, if_pos rfl]
          rfl
      | cons n rest =>
        have hn0 : n ≠ 0 := ((H.wf.own k o _ hg).2.2.2.2 n (List.mem_cons_self ..)).1
        have hlg : (T.pop o).letGo k = (⟨mput (T.pop o).locks k (n, rest), mput (T.pop o).parties n ((T.pop o).keys n ++ [k], ⟨#[]⟩)⟩, n) := by unfold LT.letGo; rw [hgo]
        rw [hlg]
        refine ⟨came ++ [n], ?_, if_neg hn0, fun k' hne => ?_, ?_⟩
        · simp only [hpopl]
          rw [length_mput_has hg, List.length_append, List.length_singleton]
          omega
        · simp only [hpopl]
          rw [mget_mput, if_neg (Ne.symm hne)]
        · unfold LT.has
          simp only [hpopl]
          rw [mget_mput, if_pos rfl]
          rfl
    obtain ⟨c1, q1, q2, q3, q4⟩ := key
    have hpops : LT.pops o (r + 1) T came = LT.pops o r ((T.pop o).letGo k).1 c1 := by
      conv => lhs; unfold LT.pops
      rw [hlast]
      simp only
      rw [q2]
    rw [hpops]
    obtain ⟨i1, i2, i3⟩ := LT.Fine.popsLaw hN hws r _ ks' c1 s2 s3 (by omega)
    have hnd : k ∉ ks'.drop (ks'.length - r) := fun q => hnk (List.mem_of_mem_drop q)
    refine ⟨by omega, fun k' hk' => ?_, fun k' hk' => ?_⟩
    · rw [List.mem_append, List.mem_singleton, not_or] at hk'
      rw [i2 k' hk'.1, q3 k' hk'.2]
    · rw [List.mem_append, List.mem_singleton] at hk'
      rcases hk' with hk' | rfl
      · have hne : k' ≠ k := fun e => hnd (e ▸ hk')
        rw [i3 k' hk']
        unfold LT.line
        rw [q3 k' hne]
      · rw [← q4]
        unfold LT.has
        rw [i2 k' hnd]
theorem LT.Fine.marks {T : LT} {N : Nat} (H : T.Fine N) (hN : N < 900000) (o m : Nat) (ho : o ≠ 0) (hm : m ≤ (T.keys o).length) :
    (T.back o (m : Int)).2.2 = 0 ∧ (T.back o (m : Int)).1.keys o = (T.keys o).take m ∧ ((T.back o (m : Int)).1.locks.length : Int) = (T.locks.length : Int) - (((T.keys o).length : Int) - m) + ((T.back o (m : Int)).2.1.length : Int) ∧
      (∀ k, k ∈ (T.keys o).drop m → (T.back o (m : Int)).1.has k = (T.line k).headD 0) ∧ (T.back o (m : Int)).1.waits o = ⟨#[]⟩ := by
  have hc : ¬ (o = 0 ∨ (m : Int) < 0 ∨ ((T.keys o).length : Int) < m) := by omega
  cases hp : mget T.parties o with
  | none =>
    have hk : T.keys o = [] := by unfold LT.keys; rw [hp]
    have hb : T.back o (m : Int) = (T, [], 0) := by unfold LT.back; rw [if_neg hc, hp]
    rw [hb, hk]
    rw [hk, List.length_nil] at hm
    refine ⟨rfl, by simp [hk], by simp; omega, fun k h => by simp at h, ?_⟩
    unfold LT.waits
    rw [hp]
  | some p =>
    obtain ⟨ks, w⟩ := p
    have hk : T.keys o = ks := by unfold LT.keys; rw [hp]
    have hw : T.waits o = w := by unfold LT.waits; rw [hp]
    obtain ⟨F, w', hw', hp'⟩ := H.leave hp
    have hk1 : (T.leave o).keys o = ks := by unfold LT.keys; rw [hp']
    have hback : T.back o (m : Int) = (if ((LT.pops o (ks.length - m) (T.leave o) []).1.keys o).length = 0 then ⟨(LT.pops o (ks.length - m) (T.leave o) []).1.locks, mdel (LT.pops o (ks.length - m) (T.leave o) []).1.parties o⟩ else (LT.pops o (ks.length - m) (T.leave o) []).1, (LT.pops o (ks.length - m) (T.leave o) []).2, 0) := by
      unfold LT.back
      rw [if_neg hc, hp]
      simp only [hk1, Int.toNat_natCast]
    rw [hk] at hm
    obtain ⟨l1, l2, l3⟩ := LT.Fine.popsLaw hN hw' (ks.length - m) _ ks [] F hp' (by omega)
    obtain ⟨g1, g2⟩ := (LT.Fine.pops hN hw' (ks.length - m) _ ks F hp' (by omega)).2 []
    rw [show ks.length - (ks.length - m) = m by omega] at l2 l3 g2
    -- leaving a line turns no key of its own
    have hleave : (T.leave o).locks.length = T.locks.length ∧ ∀ k ∈ ks, (T.leave o).line k = T.line k := by
      unfold LT.leave
      rw [hw, hk]
      by_cases hws : w.size = 0
      · rw [if_pos hws]
        exact ⟨rfl, fun _ _ => rfl⟩
      · rw [if_neg hws]
        obtain ⟨h, l, hg, hin⟩ := (H.wf.par o ks w hp).2.2.2 hws
        rw [hg]
        refine ⟨length_mput_has hg _, fun k hkm => ?_⟩
        have hne : w ≠ k := by
          rintro rfl
          obtain ⟨l', hl'⟩ := (H.wf.par o ks w hp).2.2.1 w hkm
          rw [hg] at hl'
          have := ((H.wf.own w h l hg).2.2.2.2 o hin).2.1
          simp only [Option.some.injEq, Prod.mk.injEq] at hl'
          exact this hl'.1.symm
        unfold LT.line
        simp only
        rw [mget_mput, if_neg hne]
    rw [hleave.1] at l1
    rw [hback, hk]
    generalize LT.pops o (ks.length - m) (T.leave o) [] = r at l1 l2 l3 g1 g2 ⊢
    obtain ⟨T2, came⟩ := r
    simp only at l1 l2 l3 g1 g2 ⊢
    have hk2 : T2.keys o = ks.take m := by unfold LT.keys; rw [g2]
    have hhas : ∀ k, k ∈ ks.drop m → T2.has k = (T.line k).headD 0 := fun k hkm => by
      rw [l3 k hkm, hleave.2 k (List.mem_of_mem_drop hkm)]
    have hwe : ∀ w : ByteArray, w.size = 0 → w = ⟨#[]⟩ := fun w h => by
      obtain ⟨⟨l⟩⟩ := w
      cases l with
      | nil => rfl
      | cons a l => cases h
    have hlenI : (T2.locks.length : Int) = (T.locks.length : Int) - ((ks.length : Int) - m) + (came.length : Int) := by
      simp only [List.length_nil] at l1
      omega
    split
    · rename_i h0
      rw [hk2] at h0
      have hnone : mget (mdel T2.parties o) o = none := by rw [mget_mdel g1.ndP, if_pos rfl]
      refine ⟨trivial, ?_, hlenI, hhas, ?_⟩
      · unfold LT.keys
        simp only
        rw [hnone]
        exact (List.eq_nil_of_length_eq_zero h0).symm
      · unfold LT.waits
        simp only
        rw [hnone]
    · refine ⟨trivial, hk2, hlenI, hhas, ?_⟩
      unfold LT.waits
      rw [g2]
      exact hwe _ hw'
theorem mget_perm {K V : Type} [DecidableEq K] {l m : List (K × V)} (hn : (m.map (·.1)).Nodup) (hp : l.Perm m) (k : K) : mget l k = mget m k := by
  have hl : (l.map (·.1)).Nodup := (hp.map (·.1)).nodup_iff.2 hn
  cases hg : mget m k with
  | none =>
    apply mget_out
    intro q
    obtain ⟨x, hx, e⟩ := List.mem_map.1 q
    have hx2 := hp.mem_iff.1 hx
    have : k ∈ m.map (·.1) := e ▸ List.mem_map_of_mem hx2
    exact absurd hg (by
      clear hg q hl hp hn hx hx2 x e
      induction m with
      | nil => simp at this
      | cons y m ih =>
        rw [mget_cons]
        split
        · simp
        · rename_i hne
          rw [List.map_cons, List.mem_cons] at this
          rcases this with h | h
          · exact absurd h.symm hne
          · exact ih h)
  | some v =>
    obtain ⟨A, B, rfl, _⟩ := mget_split hg
    have hx : (k, v) ∈ l := hp.mem_iff.2 (by simp)
    clear hg hp hn
    induction l with
    | nil => cases hx
    | cons y l ih =>
      rw [mget_cons]
      rw [List.map_cons, List.nodup_cons] at hl
      rcases List.mem_cons.1 hx with rfl | hx
      · rw [if_pos rfl]
      · have hne : y.1 ≠ k := fun e => hl.1 (by rw [e]; exact List.mem_map_of_mem hx)
        rw [if_neg hne]
        exact ih hl.2 hx
structure LT.Like (T' T : LT) : Prop where
  locks : T'.locks.Perm T.locks
  parties : T'.parties.Perm T.parties
theorem LT.Like.fine {T' T : LT} (h : T'.Like T) {N : Nat} (H : T.Fine N) : T'.Fine N := by
  have e1 := fun k => mget_perm H.ndL h.locks k
  have e2 := fun k => mget_perm H.ndP h.parties k
  refine ⟨⟨fun k o l hg => ?_, fun o ks w hg => ?_, ?_⟩, (h.locks.map (·.1)).nodup_iff.2 H.ndL, (h.parties.map (·.1)).nodup_iff.2 H.ndP, by rw [h.locks.length_eq]; exact H.szL, by rw [h.parties.length_eq]; exact H.szP⟩
  · rw [e1] at hg
    obtain ⟨a1, a2, ⟨ks, w, a3, a4⟩, a5, a6⟩ := H.wf.own k o l hg
    exact ⟨a1, a2, ⟨ks, w, by rw [e2]; exact a3, a4⟩, a5, fun x hx => by
      obtain ⟨b1, b2, ks', b3⟩ := a6 x hx
      exact ⟨b1, b2, ks', by rw [e2]; exact b3⟩⟩
  · rw [e2] at hg
    obtain ⟨a1, a2, a3, a4⟩ := H.wf.par o ks w hg
    exact ⟨a1, a2, fun k hk => by
      obtain ⟨l, hl⟩ := a3 k hk
      exact ⟨l, by rw [e1]; exact hl⟩, fun hw => by
      obtain ⟨h', l, hl, hin⟩ := a4 hw
      exact ⟨h', l, by rw [e1]; exact hl, hin⟩⟩
  · obtain ⟨rank, hr⟩ := H.wf.down
    refine ⟨rank, fun o ks w hg hws => ?_⟩
    rw [e2] at hg
    obtain ⟨h', l, hl, hlt⟩ := hr o ks w hg hws
    exact ⟨h', l, by rw [e1]; exact hl, hlt⟩
theorem LT.Like.keys {T' T : LT} (h : T'.Like T) {N : Nat} (H : T.Fine N) (o : Nat) : T'.keys o = T.keys o := by unfold LT.keys; rw [mget_perm H.ndP h.parties]
theorem LT.Like.line {T' T : LT} (h : T'.Like T) {N : Nat} (H : T.Fine N) (k : ByteArray) : T'.line k = T.line k := by unfold LT.line; rw [mget_perm H.ndL h.locks]
end Go.Proofs.Ytckajlllkmkniaa
end
section
namespace Go.Proofs.Ytckajlllkmkniaa
open Go Go.Sy Go.Sl Go.RowKit
abbrev knA : ByteArray := ⟨#[97]⟩
abbrev knB : ByteArray := ⟨#[98]⟩
abbrev kn0 : ByteArray := ⟨#[]⟩
def kn1 : LT := ⟨[(knA, (1, []))], [(1, ([knA], kn0))]⟩
def kn2 : LT := ⟨[(knA, (1, [])), (knB, (2, []))], [(1, ([knA], kn0)), (2, ([knB], kn0))]⟩
def kn3 : LT := ⟨[(knA, (1, [])), (knB, (2, [1]))], [(1, ([knA], knB)), (2, ([knB], kn0))]⟩
def kn5 : LT := ⟨[(knA, (1, [])), (knB, (1, []))], [(1, ([knA, knB], kn0))]⟩
theorem kn1_is : LT.empty.ask 1 knA = (kn1, 0) := by kernel_rfl
theorem kn2_is : kn1.ask 2 knB = (kn2, 0) := by kernel_rfl
theorem kn3_is : kn2.ask 1 knB = (kn3, 9) := by kernel_rfl
theorem kn4_is : kn3.ask 2 knA = (kn3, 10) := by kernel_rfl
theorem kn5_is : kn3.back 2 0 = (kn5, [1], 0) := by kernel_rfl
theorem kn6_is : kn5.back 1 1 = (kn1, [], 0) := by kernel_rfl
theorem kn1_f : kn1.Fine 1 := by have h := LT.Fine.empty.ask 1 knA; rw [kn1_is] at h; exact h
theorem kn2_f : kn2.Fine 2 := by have h := kn1_f.ask 2 knB; rw [kn2_is] at h; exact h
theorem kn3_f : kn3.Fine 3 := by have h := kn2_f.ask 1 knB; rw [kn3_is] at h; exact h
theorem kn5_f : kn5.Fine 3 := by have h := kn3_f.back (by omega) 2 0; rw [kn5_is] at h; exact h
theorem ask_x {t : Nat} {T T' : LT} {Fp : Nat → Prop} {H : Heap} {nx N : Nat} {e : Int} (hT : TabAt t T Fp H) (hf : T.Fine N) (hN : N < 900) (o : Nat) (k : ByteArray) (hsz : k.size < 4611686018427387904) (he : T.ask o k = (T', e)) :
    Fnc Try.prog 29 [.ptr t 0, .sc (.int .u64 (o : Int)), .sc (.string k)] H nx (Chg t T' (.sc (.int .i64 e)) Fp H nx) := by
  obtain ⟨h1, h2, h3⟩ := hf.askOk hN o k
  have h := ask_t (nx := nx) hT o k h1 h2 hsz h3
  rw [he] at h
  exact h
theorem numbers_e {H : Heap} {nx r1 r2 : Nat} {a1 a2 : Bool} (xs : List Nat) (h1 : H.at' r1 = some (uR a1 xs)) (h2 : H.at' r2 = some (uR a2 xs)) (hl : xs.length < 2000000) : Fnc Try.prog 27 [.slu r1 0 xs.length, .slu r2 0 xs.length] H nx (fun q => q = (.sc (.bool true), H, nx)) := by
  have h := numbers_s (nx := nx) xs xs h1 h2 hl hl
  rw [decide_eq_true rfl] at h
  exact h
theorem texts_e {H : Heap} {nx r1 r2 : Nat} {a1 a2 : Bool} (xs : List ByteArray) (h1 : H.at' r1 = some (sR a1 xs)) (h2 : H.at' r2 = some (sR a2 xs)) (hl : xs.length < 2000000) : Fnc Try.prog 17 [.slu r1 0 xs.length, .slu r2 0 xs.length] H nx (fun q => q = (.sc (.bool true), H, nx)) := by
  have h := texts_s (nx := nx) xs xs h1 h2 hl hl
  rw [decide_eq_true rfl] at h
  exact h
set_option maxRecDepth 100000 in
set_option maxHeartbeats 0 in
theorem known_f {H : Heap} {nx : Nat} : Fnc Try.prog 9 [] H nx (fun q => q.1 = .sc (.bool true) ∧ nx ≤ q.2.2 ∧ ∀ n, n < nx → q.2.1.at' n = H.at' n) := by
  refine Fnc.start Try.func9 rfl rfl ?_
  (repeat (first | (first | refine y_seq ?_ | refine w_region ?_ | refine y_regEnd ?_ | refine y_block ?_ | refine y_inBlock ?_ | refine y_skip ?_ | refine y_label ?_ | refine y_scope ?_ | refine y_inScope ?_ | refine y_exit rfl ?_ | refine y_condT rfl ?_ | refine y_condF rfl ?_ | refine y_goto rfl ?_ | refine w_move rfl rfl rfl ?_ | refine w_assign rfl rfl rfl ?_ | refine w_pickT rfl rfl rfl rfl ?_ | refine w_pickF rfl rfl rfl rfl ?_ | refine w_extract rfl rfl rfl rfl ?_ | refine w_nilCheck rfl rfl rfl ?_ | refine w_nilCheckF rfl rfl rfl ?_ | refine w_nilCheckI rfl rfl rfl ?_ | refine w_fieldAddr rfl rfl rfl (F.fo _ _ rfl rfl) ?_ | refine w_makeFunc rfl rfl rfl rfl ?_ | refine w_not rfl ?_ | refine w_extractV rfl rfl rfl rfl ?_ | refine w_makeMap rfl rfl ?_ | refine w_eqNil rfl rfl rfl rfl (F.un _ rfl) rfl ?_ | refine w_neNil rfl rfl rfl rfl (F.un _ rfl) rfl ?_ | refine w_isNil rfl rfl rfl rfl rfl (F.un _ rfl) rfl ?_ | refine w_noNil rfl rfl rfl rfl rfl (F.un _ rfl) rfl ?_ | refine w_storeC rfl rfl rfl rfl (F.sz _ rfl) (by first | exact rfl | (focus ((repeat (first | refine (Tr.at_set_other _ _ (by omega)).trans ?_ | refine (Tr.at_del_other _ (by omega)).trans ?_)); first | exact Tr.at_set_same _ _ _ | assumption))) rfl (by exact Nat.le_of_ble_eq_true rfl) rfl ?_ | refine w_loadB1 rfl rfl rfl (F.ag _ rfl) rfl rfl ?_ | refine w_loadBN rfl rfl rfl (F.ag _ rfl) rfl rfl ?_ | refine w_alloc rfl rfl (F.zl _ rfl) ?_ | refine w_boxN rfl rfl rfl ?_ | refine w_box rfl rfl rfl rfl ?_ | refine w_store1 rfl rfl rfl (F.sz _ rfl) rfl rfl rfl ?_ | refine w_storeN rfl rfl rfl (F.sz _ rfl) rfl rfl (by decide) rfl rfl ?_ | refine w_loadB1 rfl rfl rfl (F.ag _ rfl) (by (focus ((repeat (first | refine (Tr.at_set_other _ _ (by omega)).trans ?_ | refine (Tr.at_del_other _ (by omega)).trans ?_)); first | exact Tr.at_set_same _ _ _ | assumption))) (by exact rfl) ?_ | refine w_loadBN rfl rfl rfl (F.ag _ rfl) (by (focus ((repeat (first | refine (Tr.at_set_other _ _ (by omega)).trans ?_ | refine (Tr.at_del_other _ (by omega)).trans ?_)); first | exact Tr.at_set_same _ _ _ | assumption))) (by exact rfl) ?_ | refine w_store1 rfl rfl rfl (F.sz _ rfl) (by (focus ((repeat (first | refine (Tr.at_set_other _ _ (by omega)).trans ?_ | refine (Tr.at_del_other _ (by omega)).trans ?_)); first | exact Tr.at_set_same _ _ _ | assumption))) (by exact rfl) (by exact rfl) ?_ | refine w_storeN rfl rfl rfl (F.sz _ rfl) (by (focus ((repeat (first | refine (Tr.at_set_other _ _ (by omega)).trans ?_ | refine (Tr.at_del_other _ (by omega)).trans ?_)); first | exact Tr.at_set_same _ _ _ | assumption))) rfl (by exact Nat.le_of_ble_eq_true rfl) rfl (by exact rfl) ?_ | refine w_lenSl rfl rfl rfl (F.un _ rfl) ?_ | refine w_lenStr rfl rfl rfl (F.un _ rfl) ?_ | refine w_add rfl rfl rfl rfl (by omega) (by omega) ?_ | refine w_sub rfl rfl rfl rfl (by omega) (by omega) ?_ | refine w_mul rfl rfl rfl rfl (by omega) (by omega) ?_ | refine w_notB rfl rfl rfl ?_ | refine w_quo rfl rfl rfl rfl (by omega) (by omega) (by omega) ?_ | refine w_build rfl rfl rfl (F.ze _ rfl) (F.pl _ rfl) rfl ?_ | fail) | (refine w_call rfl rfl rfl (by kernel_rfl) (Fnc.mono (new_t) ?_); rintro _ rfl; dsimp only) | fail))
  refine w_call rfl rfl rfl (by kernel_rfl) (Fnc.mono (ask_x new_at LT.Fine.empty (by omega) 1 knA (by decide) kn1_is) ?_)
  rintro ⟨_, H1, n1⟩ ⟨rfl, F1, a1, a2⟩
  dsimp only at a1 a2 ⊢
  (repeat (first | (first | refine y_seq ?_ | refine w_region ?_ | refine y_regEnd ?_ | refine y_block ?_ | refine y_inBlock ?_ | refine y_skip ?_ | refine y_label ?_ | refine y_scope ?_ | refine y_inScope ?_ | refine y_exit rfl ?_ | refine y_condT rfl ?_ | refine y_condF rfl ?_ | refine y_goto rfl ?_ | refine w_move rfl rfl rfl ?_ | refine w_assign rfl rfl rfl ?_ | refine w_pickT rfl rfl rfl rfl ?_ | refine w_pickF rfl rfl rfl rfl ?_ | refine w_extract rfl rfl rfl rfl ?_ | refine w_nilCheck rfl rfl rfl ?_ | refine w_nilCheckF rfl rfl rfl ?_ | refine w_nilCheckI rfl rfl rfl ?_ | refine w_fieldAddr rfl rfl rfl (F.fo _ _ rfl rfl) ?_ | refine w_makeFunc rfl rfl rfl rfl ?_ | refine w_not rfl ?_ | refine w_extractV rfl rfl rfl rfl ?_ | refine w_makeMap rfl rfl ?_ | refine w_eqNil rfl rfl rfl rfl (F.un _ rfl) rfl ?_ | refine w_neNil rfl rfl rfl rfl (F.un _ rfl) rfl ?_ | refine w_isNil rfl rfl rfl rfl rfl (F.un _ rfl) rfl ?_ | refine w_noNil rfl rfl rfl rfl rfl (F.un _ rfl) rfl ?_ | refine w_storeC rfl rfl rfl rfl (F.sz _ rfl) (by first | exact rfl | (focus ((repeat (first | refine (Tr.at_set_other _ _ (by omega)).trans ?_ | refine (Tr.at_del_other _ (by omega)).trans ?_)); first | exact Tr.at_set_same _ _ _ | assumption))) rfl (by exact Nat.le_of_ble_eq_true rfl) rfl ?_ | refine w_loadB1 rfl rfl rfl (F.ag _ rfl) rfl rfl ?_ | refine w_loadBN rfl rfl rfl (F.ag _ rfl) rfl rfl ?_ | refine w_alloc rfl rfl (F.zl _ rfl) ?_ | refine w_boxN rfl rfl rfl ?_ | refine w_box rfl rfl rfl rfl ?_ | refine w_store1 rfl rfl rfl (F.sz _ rfl) rfl rfl rfl ?_ | refine w_storeN rfl rfl rfl (F.sz _ rfl) rfl rfl (by decide) rfl rfl ?_ | refine w_loadB1 rfl rfl rfl (F.ag _ rfl) (by (focus ((repeat (first | refine (Tr.at_set_other _ _ (by omega)).trans ?_ | refine (Tr.at_del_other _ (by omega)).trans ?_)); first | exact Tr.at_set_same _ _ _ | assumption))) (by exact rfl) ?_ | refine w_loadBN rfl rfl rfl (F.ag _ rfl) (by (focus ((repeat (first | refine (Tr.at_set_other _ _ (by omega)).trans ?_ | refine (Tr.at_del_other _ (by omega)).trans ?_)); first | exact Tr.at_set_same _ _ _ | assumption))) (by exact rfl) ?_ | refine w_store1 rfl rfl rfl (F.sz _ rfl) (by (focus ((repeat (first | refine (Tr.at_set_other _ _ (by omega)).trans ?_ | refine (Tr.at_del_other _ (by omega)).trans ?_)); first | exact Tr.at_set_same _ _ _ | assumption))) (by exact rfl) (by exact rfl) ?_ | refine w_storeN rfl rfl rfl (F.sz _ rfl) (by (focus ((repeat (first | refine (Tr.at_set_other _ _ (by omega)).trans ?_ | refine (Tr.at_del_other _ (by omega)).trans ?_)); first | exact Tr.at_set_same _ _ _ | assumption))) rfl (by exact Nat.le_of_ble_eq_true rfl) rfl (by exact rfl) ?_ | refine w_lenSl rfl rfl rfl (F.un _ rfl) ?_ | refine w_lenStr rfl rfl rfl (F.un _ rfl) ?_ | refine w_add rfl rfl rfl rfl (by omega) (by omega) ?_ | refine w_sub rfl rfl rfl rfl (by omega) (by omega) ?_ | refine w_mul rfl rfl rfl rfl (by omega) (by omega) ?_ | refine w_notB rfl rfl rfl ?_ | refine w_quo rfl rfl rfl rfl (by omega) (by omega) (by omega) ?_ | refine w_build rfl rfl rfl (F.ze _ rfl) (F.pl _ rfl) rfl ?_ | fail) | fail))
  refine w_call rfl rfl rfl (by kernel_rfl) (Fnc.mono (ask_x a1 kn1_f (by omega) 2 knB (by decide) kn2_is) ?_)
  rintro ⟨_, H2, n2⟩ ⟨rfl, F2, b1, b2⟩
  dsimp only at b1 b2 ⊢
  (repeat (first | (first | refine y_seq ?_ | refine w_region ?_ | refine y_regEnd ?_ | refine y_block ?_ | refine y_inBlock ?_ | refine y_skip ?_ | refine y_label ?_ | refine y_scope ?_ | refine y_inScope ?_ | refine y_exit rfl ?_ | refine y_condT rfl ?_ | refine y_condF rfl ?_ | refine y_goto rfl ?_ | refine w_move rfl rfl rfl ?_ | refine w_assign rfl rfl rfl ?_ | refine w_pickT rfl rfl rfl rfl ?_ | refine w_pickF rfl rfl rfl rfl ?_ | refine w_extract rfl rfl rfl rfl ?_ | refine w_nilCheck rfl rfl rfl ?_ | refine w_nilCheckF rfl rfl rfl ?_ | refine w_nilCheckI rfl rfl rfl ?_ | refine w_fieldAddr rfl rfl rfl (F.fo _ _ rfl rfl) ?_ | refine w_makeFunc rfl rfl rfl rfl ?_ | refine w_not rfl ?_ | refine w_extractV rfl rfl rfl rfl ?_ | refine w_makeMap rfl rfl ?_ | refine w_eqNil rfl rfl rfl rfl (F.un _ rfl) rfl ?_ | refine w_neNil rfl rfl rfl rfl (F.un _ rfl) rfl ?_ | refine w_isNil rfl rfl rfl rfl rfl (F.un _ rfl) rfl ?_ | refine w_noNil rfl rfl rfl rfl rfl (F.un _ rfl) rfl ?_ | refine w_storeC rfl rfl rfl rfl (F.sz _ rfl) (by first | exact rfl | (focus ((repeat (first | refine (Tr.at_set_other _ _ (by omega)).trans ?_ | refine (Tr.at_del_other _ (by omega)).trans ?_)); first | exact Tr.at_set_same _ _ _ | assumption))) rfl (by exact Nat.le_of_ble_eq_true rfl) rfl ?_ | refine w_loadB1 rfl rfl rfl (F.ag _ rfl) rfl rfl ?_ | refine w_loadBN rfl rfl rfl (F.ag _ rfl) rfl rfl ?_ | refine w_alloc rfl rfl (F.zl _ rfl) ?_ | refine w_boxN rfl rfl rfl ?_ | refine w_box rfl rfl rfl rfl ?_ | refine w_store1 rfl rfl rfl (F.sz _ rfl) rfl rfl rfl ?_ | refine w_storeN rfl rfl rfl (F.sz _ rfl) rfl rfl (by decide) rfl rfl ?_ | refine w_loadB1 rfl rfl rfl (F.ag _ rfl) (by (focus ((repeat (first | refine (Tr.at_set_other _ _ (by omega)).trans ?_ | refine (Tr.at_del_other _ (by omega)).trans ?_)); first | exact Tr.at_set_same _ _ _ | assumption))) (by exact rfl) ?_ | refine w_loadBN rfl rfl rfl (F.ag _ rfl) (by (focus ((repeat (first | refine (Tr.at_set_other _ _ (by omega)).trans ?_ | refine (Tr.at_del_other _ (by omega)).trans ?_)); first | exact Tr.at_set_same _ _ _ | assumption))) (by exact rfl) ?_ | refine w_store1 rfl rfl rfl (F.sz _ rfl) (by (focus ((repeat (first | refine (Tr.at_set_other _ _ (by omega)).trans ?_ | refine (Tr.at_del_other _ (by omega)).trans ?_)); first | exact Tr.at_set_same _ _ _ | assumption))) (by exact rfl) (by exact rfl) ?_ | refine w_storeN rfl rfl rfl (F.sz _ rfl) (by (focus ((repeat (first | refine (Tr.at_set_other _ _ (by omega)).trans ?_ | refine (Tr.at_del_other _ (by omega)).trans ?_)); first | exact Tr.at_set_same _ _ _ | assumption))) rfl (by exact Nat.le_of_ble_eq_true rfl) rfl (by exact rfl) ?_ | refine w_lenSl rfl rfl rfl (F.un _ rfl) ?_ | refine w_lenStr rfl rfl rfl (F.un _ rfl) ?_ | refine w_add rfl rfl rfl rfl (by omega) (by omega) ?_ | refine w_sub rfl rfl rfl rfl (by omega) (by omega) ?_ | refine w_mul rfl rfl rfl rfl (by omega) (by omega) ?_ | refine w_notB rfl rfl rfl ?_ | refine w_quo rfl rfl rfl rfl (by omega) (by omega) (by omega) ?_ | refine w_build rfl rfl rfl (F.ze _ rfl) (F.pl _ rfl) rfl ?_ | fail) | (refine w_call rfl rfl rfl (by kernel_rfl) (Fnc.mono (mark_t b1 1) ?_); rintro _ rfl; dsimp only) | fail))
  refine w_call rfl rfl rfl (by kernel_rfl) (Fnc.mono (ask_x b1 kn2_f (by omega) 1 knB (by decide) kn3_is) ?_)
  rintro ⟨_, H3, n3⟩ ⟨rfl, F3, c1, c2⟩
  dsimp only at c1 c2 ⊢
  (repeat (first | (first | refine y_seq ?_ | refine w_region ?_ | refine y_regEnd ?_ | refine y_block ?_ | refine y_inBlock ?_ | refine y_skip ?_ | refine y_label ?_ | refine y_scope ?_ | refine y_inScope ?_ | refine y_exit rfl ?_ | refine y_condT rfl ?_ | refine y_condF rfl ?_ | refine y_goto rfl ?_ | refine w_move rfl rfl rfl ?_ | refine w_assign rfl rfl rfl ?_ | refine w_pickT rfl rfl rfl rfl ?_ | refine w_pickF rfl rfl rfl rfl ?_ | refine w_extract rfl rfl rfl rfl ?_ | refine w_nilCheck rfl rfl rfl ?_ | refine w_nilCheckF rfl rfl rfl ?_ | refine w_nilCheckI rfl rfl rfl ?_ | refine w_fieldAddr rfl rfl rfl (F.fo _ _ rfl rfl) ?_ | refine w_makeFunc rfl rfl rfl rfl ?_ | refine w_not rfl ?_ | refine w_extractV rfl rfl rfl rfl ?_ | refine w_makeMap rfl rfl ?_ | refine w_eqNil rfl rfl rfl rfl (F.un _ rfl) rfl ?_ | refine w_neNil rfl rfl rfl rfl (F.un _ rfl) rfl ?_ | refine w_isNil rfl rfl rfl rfl rfl (F.un _ rfl) rfl ?_ | refine w_noNil rfl rfl rfl rfl rfl (F.un _ rfl) rfl ?_ | refine w_storeC rfl rfl rfl rfl (F.sz _ rfl) (by first | exact rfl | (focus ((repeat (first | refine (Tr.at_set_other _ _ (by omega)).trans ?_ | refine (Tr.at_del_other _ (by omega)).trans ?_)); first | exact Tr.at_set_same _ _ _ | assumption))) rfl (by exact Nat.le_of_ble_eq_true rfl) rfl ?_ | refine w_loadB1 rfl rfl rfl (F.ag _ rfl) rfl rfl ?_ | refine w_loadBN rfl rfl rfl (F.ag _ rfl) rfl rfl ?_ | refine w_alloc rfl rfl (F.zl _ rfl) ?_ | refine w_boxN rfl rfl rfl ?_ | refine w_box rfl rfl rfl rfl ?_ | refine w_store1 rfl rfl rfl (F.sz _ rfl) rfl rfl rfl ?_ | refine w_storeN rfl rfl rfl (F.sz _ rfl) rfl rfl (by decide) rfl rfl ?_ | refine w_loadB1 rfl rfl rfl (F.ag _ rfl) (by (focus ((repeat (first | refine (Tr.at_set_other _ _ (by omega)).trans ?_ | refine (Tr.at_del_other _ (by omega)).trans ?_)); first | exact Tr.at_set_same _ _ _ | assumption))) (by exact rfl) ?_ | refine w_loadBN rfl rfl rfl (F.ag _ rfl) (by (focus ((repeat (first | refine (Tr.at_set_other _ _ (by omega)).trans ?_ | refine (Tr.at_del_other _ (by omega)).trans ?_)); first | exact Tr.at_set_same _ _ _ | assumption))) (by exact rfl) ?_ | refine w_store1 rfl rfl rfl (F.sz _ rfl) (by (focus ((repeat (first | refine (Tr.at_set_other _ _ (by omega)).trans ?_ | refine (Tr.at_del_other _ (by omega)).trans ?_)); first | exact Tr.at_set_same _ _ _ | assumption))) (by exact rfl) (by exact rfl) ?_ | refine w_storeN rfl rfl rfl (F.sz _ rfl) (by (focus ((repeat (first | refine (Tr.at_set_other _ _ (by omega)).trans ?_ | refine (Tr.at_del_other _ (by omega)).trans ?_)); first | exact Tr.at_set_same _ _ _ | assumption))) rfl (by exact Nat.le_of_ble_eq_true rfl) rfl (by exact rfl) ?_ | refine w_lenSl rfl rfl rfl (F.un _ rfl) ?_ | refine w_lenStr rfl rfl rfl (F.un _ rfl) ?_ | refine w_add rfl rfl rfl rfl (by omega) (by omega) ?_ | refine w_sub rfl rfl rfl rfl (by omega) (by omega) ?_ | refine w_mul rfl rfl rfl rfl (by omega) (by omega) ?_ | refine w_notB rfl rfl rfl ?_ | refine w_quo rfl rfl rfl rfl (by omega) (by omega) (by omega) ?_ | refine w_build rfl rfl rfl (F.ze _ rfl) (F.pl _ rfl) rfl ?_ | fail) | fail))
  refine w_call rfl rfl rfl (by kernel_rfl) (Fnc.mono (ask_x c1 kn3_f (by omega) 2 knA (by decide) kn4_is) ?_)
  rintro ⟨_, H4, n4⟩ ⟨rfl, F4, d1, d2⟩
  dsimp only at d1 d2 ⊢
  (repeat (first | (first | refine y_seq ?_ | refine w_region ?_ | refine y_regEnd ?_ | refine y_block ?_ | refine y_inBlock ?_ | refine y_skip ?_ | refine y_label ?_ | refine y_scope ?_ | refine y_inScope ?_ | refine y_exit rfl ?_ | refine y_condT rfl ?_ | refine y_condF rfl ?_ | refine y_goto rfl ?_ | refine w_move rfl rfl rfl ?_ | refine w_assign rfl rfl rfl ?_ | refine w_pickT rfl rfl rfl rfl ?_ | refine w_pickF rfl rfl rfl rfl ?_ | refine w_extract rfl rfl rfl rfl ?_ | refine w_nilCheck rfl rfl rfl ?_ | refine w_nilCheckF rfl rfl rfl ?_ | refine w_nilCheckI rfl rfl rfl ?_ | refine w_fieldAddr rfl rfl rfl (F.fo _ _ rfl rfl) ?_ | refine w_makeFunc rfl rfl rfl rfl ?_ | refine w_not rfl ?_ | refine w_extractV rfl rfl rfl rfl ?_ | refine w_makeMap rfl rfl ?_ | refine w_eqNil rfl rfl rfl rfl (F.un _ rfl) rfl ?_ | refine w_neNil rfl rfl rfl rfl (F.un _ rfl) rfl ?_ | refine w_isNil rfl rfl rfl rfl rfl (F.un _ rfl) rfl ?_ | refine w_noNil rfl rfl rfl rfl rfl (F.un _ rfl) rfl ?_ | refine w_storeC rfl rfl rfl rfl (F.sz _ rfl) (by first | exact rfl | (focus ((repeat (first | refine (Tr.at_set_other _ _ (by omega)).trans ?_ | refine (Tr.at_del_other _ (by omega)).trans ?_)); first | exact Tr.at_set_same _ _ _ | assumption))) rfl (by exact Nat.le_of_ble_eq_true rfl) rfl ?_ | refine w_loadB1 rfl rfl rfl (F.ag _ rfl) rfl rfl ?_ | refine w_loadBN rfl rfl rfl (F.ag _ rfl) rfl rfl ?_ | refine w_alloc rfl rfl (F.zl _ rfl) ?_ | refine w_boxN rfl rfl rfl ?_ | refine w_box rfl rfl rfl rfl ?_ | refine w_store1 rfl rfl rfl (F.sz _ rfl) rfl rfl rfl ?_ | refine w_storeN rfl rfl rfl (F.sz _ rfl) rfl rfl (by decide) rfl rfl ?_ | refine w_loadB1 rfl rfl rfl (F.ag _ rfl) (by (focus ((repeat (first | refine (Tr.at_set_other _ _ (by omega)).trans ?_ | refine (Tr.at_del_other _ (by omega)).trans ?_)); first | exact Tr.at_set_same _ _ _ | assumption))) (by exact rfl) ?_ | refine w_loadBN rfl rfl rfl (F.ag _ rfl) (by (focus ((repeat (first | refine (Tr.at_set_other _ _ (by omega)).trans ?_ | refine (Tr.at_del_other _ (by omega)).trans ?_)); first | exact Tr.at_set_same _ _ _ | assumption))) (by exact rfl) ?_ | refine w_store1 rfl rfl rfl (F.sz _ rfl) (by (focus ((repeat (first | refine (Tr.at_set_other _ _ (by omega)).trans ?_ | refine (Tr.at_del_other _ (by omega)).trans ?_)); first | exact Tr.at_set_same _ _ _ | assumption))) (by exact rfl) (by exact rfl) ?_ | refine w_storeN rfl rfl rfl (F.sz _ rfl) (by (focus ((repeat (first | refine (Tr.at_set_other _ _ (by omega)).trans ?_ | refine (Tr.at_del_other _ (by omega)).trans ?_)); first | exact Tr.at_set_same _ _ _ | assumption))) rfl (by exact Nat.le_of_ble_eq_true rfl) rfl (by exact rfl) ?_ | refine w_lenSl rfl rfl rfl (F.un _ rfl) ?_ | refine w_lenStr rfl rfl rfl (F.un _ rfl) ?_ | refine w_add rfl rfl rfl rfl (by omega) (by omega) ?_ | refine w_sub rfl rfl rfl rfl (by omega) (by omega) ?_ | refine w_mul rfl rfl rfl rfl (by omega) (by omega) ?_ | refine w_notB rfl rfl rfl ?_ | refine w_quo rfl rfl rfl rfl (by omega) (by omega) (by omega) ?_ | refine w_build rfl rfl rfl (F.ze _ rfl) (F.pl _ rfl) rfl ?_ | fail) | fail))
  have hfr := free_t (nx := n4) d1 2 ⟨by decide, (kn3_f.backOk (by omega) 2 0).2⟩
  rw [kn5_is] at hfr
  refine w_call rfl rfl rfl (by kernel_rfl) (Fnc.mono hfr ?_)
  rintro ⟨_, H5, n5⟩ ⟨r5, rfl, e1, e2, e3, F5, e4, e5, e6⟩
  dsimp only at e1 e3 e4 e6 ⊢
  clear hfr
  refine y_under fun hund5 => ?_
  have hF5 := e4.lt hund5
  (repeat (first | (first | refine y_seq ?_ | refine w_region ?_ | refine y_regEnd ?_ | refine y_block ?_ | refine y_inBlock ?_ | refine y_skip ?_ | refine y_label ?_ | refine y_scope ?_ | refine y_inScope ?_ | refine y_exit rfl ?_ | refine y_condT rfl ?_ | refine y_condF rfl ?_ | refine y_goto rfl ?_ | refine w_move rfl rfl rfl ?_ | refine w_assign rfl rfl rfl ?_ | refine w_pickT rfl rfl rfl rfl ?_ | refine w_pickF rfl rfl rfl rfl ?_ | refine w_extract rfl rfl rfl rfl ?_ | refine w_nilCheck rfl rfl rfl ?_ | refine w_nilCheckF rfl rfl rfl ?_ | refine w_nilCheckI rfl rfl rfl ?_ | refine w_fieldAddr rfl rfl rfl (F.fo _ _ rfl rfl) ?_ | refine w_makeFunc rfl rfl rfl rfl ?_ | refine w_not rfl ?_ | refine w_extractV rfl rfl rfl rfl ?_ | refine w_makeMap rfl rfl ?_ | refine w_eqNil rfl rfl rfl rfl (F.un _ rfl) rfl ?_ | refine w_neNil rfl rfl rfl rfl (F.un _ rfl) rfl ?_ | refine w_isNil rfl rfl rfl rfl rfl (F.un _ rfl) rfl ?_ | refine w_noNil rfl rfl rfl rfl rfl (F.un _ rfl) rfl ?_ | refine w_storeC rfl rfl rfl rfl (F.sz _ rfl) (by first | exact rfl | (focus ((repeat (first | refine (Tr.at_set_other _ _ (by omega)).trans ?_ | refine (Tr.at_del_other _ (by omega)).trans ?_)); first | exact Tr.at_set_same _ _ _ | assumption))) rfl (by exact Nat.le_of_ble_eq_true rfl) rfl ?_ | refine w_loadB1 rfl rfl rfl (F.ag _ rfl) rfl rfl ?_ | refine w_loadBN rfl rfl rfl (F.ag _ rfl) rfl rfl ?_ | refine w_alloc rfl rfl (F.zl _ rfl) ?_ | refine w_boxN rfl rfl rfl ?_ | refine w_box rfl rfl rfl rfl ?_ | refine w_store1 rfl rfl rfl (F.sz _ rfl) rfl rfl rfl ?_ | refine w_storeN rfl rfl rfl (F.sz _ rfl) rfl rfl (by decide) rfl rfl ?_ | refine w_loadB1 rfl rfl rfl (F.ag _ rfl) (by (focus ((repeat (first | refine (Tr.at_set_other _ _ (by omega)).trans ?_ | refine (Tr.at_del_other _ (by omega)).trans ?_)); first | exact Tr.at_set_same _ _ _ | assumption))) (by exact rfl) ?_ | refine w_loadBN rfl rfl rfl (F.ag _ rfl) (by (focus ((repeat (first | refine (Tr.at_set_other _ _ (by omega)).trans ?_ | refine (Tr.at_del_other _ (by omega)).trans ?_)); first | exact Tr.at_set_same _ _ _ | assumption))) (by exact rfl) ?_ | refine w_store1 rfl rfl rfl (F.sz _ rfl) (by (focus ((repeat (first | refine (Tr.at_set_other _ _ (by omega)).trans ?_ | refine (Tr.at_del_other _ (by omega)).trans ?_)); first | exact Tr.at_set_same _ _ _ | assumption))) (by exact rfl) (by exact rfl) ?_ | refine w_storeN rfl rfl rfl (F.sz _ rfl) (by (focus ((repeat (first | refine (Tr.at_set_other _ _ (by omega)).trans ?_ | refine (Tr.at_del_other _ (by omega)).trans ?_)); first | exact Tr.at_set_same _ _ _ | assumption))) rfl (by exact Nat.le_of_ble_eq_true rfl) rfl (by exact rfl) ?_ | refine w_lenSl rfl rfl rfl (F.un _ rfl) ?_ | refine w_lenStr rfl rfl rfl (F.un _ rfl) ?_ | refine w_add rfl rfl rfl rfl (by omega) (by omega) ?_ | refine w_sub rfl rfl rfl rfl (by omega) (by omega) ?_ | refine w_mul rfl rfl rfl rfl (by omega) (by omega) ?_ | refine w_notB rfl rfl rfl ?_ | refine w_quo rfl rfl rfl rfl (by omega) (by omega) (by omega) ?_ | refine w_build rfl rfl rfl (F.ze _ rfl) (F.pl _ rfl) rfl ?_ | fail) | fail))
  refine w_call rfl rfl rfl (by kernel_rfl) (Fnc.mono (keys_t e4 1 (by decide)) ?_)
  rintro ⟨_, H6, n6⟩ ⟨r6, rfl, f1, f2, f3, f4, f5⟩
  dsimp only at f1 f3 f4 f5 ⊢
  (repeat (first | (first | refine y_seq ?_ | refine w_region ?_ | refine y_regEnd ?_ | refine y_block ?_ | refine y_inBlock ?_ | refine y_skip ?_ | refine y_label ?_ | refine y_scope ?_ | refine y_inScope ?_ | refine y_exit rfl ?_ | refine y_condT rfl ?_ | refine y_condF rfl ?_ | refine y_goto rfl ?_ | refine w_move rfl rfl rfl ?_ | refine w_assign rfl rfl rfl ?_ | refine w_pickT rfl rfl rfl rfl ?_ | refine w_pickF rfl rfl rfl rfl ?_ | refine w_extract rfl rfl rfl rfl ?_ | refine w_nilCheck rfl rfl rfl ?_ | refine w_nilCheckF rfl rfl rfl ?_ | refine w_nilCheckI rfl rfl rfl ?_ | refine w_fieldAddr rfl rfl rfl (F.fo _ _ rfl rfl) ?_ | refine w_makeFunc rfl rfl rfl rfl ?_ | refine w_not rfl ?_ | refine w_extractV rfl rfl rfl rfl ?_ | refine w_makeMap rfl rfl ?_ | refine w_eqNil rfl rfl rfl rfl (F.un _ rfl) rfl ?_ | refine w_neNil rfl rfl rfl rfl (F.un _ rfl) rfl ?_ | refine w_isNil rfl rfl rfl rfl rfl (F.un _ rfl) rfl ?_ | refine w_noNil rfl rfl rfl rfl rfl (F.un _ rfl) rfl ?_ | refine w_storeC rfl rfl rfl rfl (F.sz _ rfl) (by first | exact rfl | (focus ((repeat (first | refine (Tr.at_set_other _ _ (by omega)).trans ?_ | refine (Tr.at_del_other _ (by omega)).trans ?_)); first | exact Tr.at_set_same _ _ _ | assumption))) rfl (by exact Nat.le_of_ble_eq_true rfl) rfl ?_ | refine w_loadB1 rfl rfl rfl (F.ag _ rfl) rfl rfl ?_ | refine w_loadBN rfl rfl rfl (F.ag _ rfl) rfl rfl ?_ | refine w_alloc rfl rfl (F.zl _ rfl) ?_ | refine w_boxN rfl rfl rfl ?_ | refine w_box rfl rfl rfl rfl ?_ | refine w_store1 rfl rfl rfl (F.sz _ rfl) rfl rfl rfl ?_ | refine w_storeN rfl rfl rfl (F.sz _ rfl) rfl rfl (by decide) rfl rfl ?_ | refine w_loadB1 rfl rfl rfl (F.ag _ rfl) (by (focus ((repeat (first | refine (Tr.at_set_other _ _ (by omega)).trans ?_ | refine (Tr.at_del_other _ (by omega)).trans ?_)); first | exact Tr.at_set_same _ _ _ | assumption))) (by exact rfl) ?_ | refine w_loadBN rfl rfl rfl (F.ag _ rfl) (by (focus ((repeat (first | refine (Tr.at_set_other _ _ (by omega)).trans ?_ | refine (Tr.at_del_other _ (by omega)).trans ?_)); first | exact Tr.at_set_same _ _ _ | assumption))) (by exact rfl) ?_ | refine w_store1 rfl rfl rfl (F.sz _ rfl) (by (focus ((repeat (first | refine (Tr.at_set_other _ _ (by omega)).trans ?_ | refine (Tr.at_del_other _ (by omega)).trans ?_)); first | exact Tr.at_set_same _ _ _ | assumption))) (by exact rfl) (by exact rfl) ?_ | refine w_storeN rfl rfl rfl (F.sz _ rfl) (by (focus ((repeat (first | refine (Tr.at_set_other _ _ (by omega)).trans ?_ | refine (Tr.at_del_other _ (by omega)).trans ?_)); first | exact Tr.at_set_same _ _ _ | assumption))) rfl (by exact Nat.le_of_ble_eq_true rfl) rfl (by exact rfl) ?_ | refine w_lenSl rfl rfl rfl (F.un _ rfl) ?_ | refine w_lenStr rfl rfl rfl (F.un _ rfl) ?_ | refine w_add rfl rfl rfl rfl (by omega) (by omega) ?_ | refine w_sub rfl rfl rfl rfl (by omega) (by omega) ?_ | refine w_mul rfl rfl rfl rfl (by omega) (by omega) ?_ | refine w_notB rfl rfl rfl ?_ | refine w_quo rfl rfl rfl rfl (by omega) (by omega) (by omega) ?_ | refine w_build rfl rfl rfl (F.ze _ rfl) (F.pl _ rfl) rfl ?_ | fail) | fail))
  have hba := back_t (nx := n6) (e4.frame fun n hn => f5 n (hF5 n hn)) 1 1 ⟨by decide, (kn5_f.backOk (by omega) 1 1).2⟩
  rw [kn6_is] at hba
  refine w_call rfl rfl rfl (by kernel_rfl) (Fnc.mono hba ?_)
  rintro ⟨_, H7, n7⟩ ⟨r7, rfl, g1, g2, g3, F7, g4, g5, g6⟩
  dsimp only at g1 g3 g4 g6 ⊢
  clear hba
  refine y_under fun hund7 => ?_
  have hF7 := g4.lt hund7
  have hr5 : H7.at' r5 = some (uR false [1]) := (g6.2.2 r5 (by omega) fun h => e5 h).trans ((f5 r5 e3).trans e1)
  have hr6 : H7.at' r6 = some (sR false [knA, knB]) := (g6.2.2 r6 f3 fun h => by have := hF5 _ h; omega).trans f1
  (repeat (first | (first | refine y_seq ?_ | refine w_region ?_ | refine y_regEnd ?_ | refine y_block ?_ | refine y_inBlock ?_ | refine y_skip ?_ | refine y_label ?_ | refine y_scope ?_ | refine y_inScope ?_ | refine y_exit rfl ?_ | refine y_condT rfl ?_ | refine y_condF rfl ?_ | refine y_goto rfl ?_ | refine w_move rfl rfl rfl ?_ | refine w_assign rfl rfl rfl ?_ | refine w_pickT rfl rfl rfl rfl ?_ | refine w_pickF rfl rfl rfl rfl ?_ | refine w_extract rfl rfl rfl rfl ?_ | refine w_nilCheck rfl rfl rfl ?_ | refine w_nilCheckF rfl rfl rfl ?_ | refine w_nilCheckI rfl rfl rfl ?_ | refine w_fieldAddr rfl rfl rfl (F.fo _ _ rfl rfl) ?_ | refine w_makeFunc rfl rfl rfl rfl ?_ | refine w_not rfl ?_ | refine w_extractV rfl rfl rfl rfl ?_ | refine w_makeMap rfl rfl ?_ | refine w_eqNil rfl rfl rfl rfl (F.un _ rfl) rfl ?_ | refine w_neNil rfl rfl rfl rfl (F.un _ rfl) rfl ?_ | refine w_isNil rfl rfl rfl rfl rfl (F.un _ rfl) rfl ?_ | refine w_noNil rfl rfl rfl rfl rfl (F.un _ rfl) rfl ?_ | refine w_storeC rfl rfl rfl rfl (F.sz _ rfl) (by first | exact rfl | (focus ((repeat (first | refine (Tr.at_set_other _ _ (by omega)).trans ?_ | refine (Tr.at_del_other _ (by omega)).trans ?_)); first | exact Tr.at_set_same _ _ _ | assumption))) rfl (by exact Nat.le_of_ble_eq_true rfl) rfl ?_ | refine w_loadB1 rfl rfl rfl (F.ag _ rfl) rfl rfl ?_ | refine w_loadBN rfl rfl rfl (F.ag _ rfl) rfl rfl ?_ | refine w_alloc rfl rfl (F.zl _ rfl) ?_ | refine w_boxN rfl rfl rfl ?_ | refine w_box rfl rfl rfl rfl ?_ | refine w_store1 rfl rfl rfl (F.sz _ rfl) rfl rfl rfl ?_ | refine w_storeN rfl rfl rfl (F.sz _ rfl) rfl rfl (by decide) rfl rfl ?_ | refine w_loadB1 rfl rfl rfl (F.ag _ rfl) (by (focus ((repeat (first | refine (Tr.at_set_other _ _ (by omega)).trans ?_ | refine (Tr.at_del_other _ (by omega)).trans ?_)); first | exact Tr.at_set_same _ _ _ | assumption))) (by exact rfl) ?_ | refine w_loadBN rfl rfl rfl (F.ag _ rfl) (by (focus ((repeat (first | refine (Tr.at_set_other _ _ (by omega)).trans ?_ | refine (Tr.at_del_other _ (by omega)).trans ?_)); first | exact Tr.at_set_same _ _ _ | assumption))) (by exact rfl) ?_ | refine w_store1 rfl rfl rfl (F.sz _ rfl) (by (focus ((repeat (first | refine (Tr.at_set_other _ _ (by omega)).trans ?_ | refine (Tr.at_del_other _ (by omega)).trans ?_)); first | exact Tr.at_set_same _ _ _ | assumption))) (by exact rfl) (by exact rfl) ?_ | refine w_storeN rfl rfl rfl (F.sz _ rfl) (by (focus ((repeat (first | refine (Tr.at_set_other _ _ (by omega)).trans ?_ | refine (Tr.at_del_other _ (by omega)).trans ?_)); first | exact Tr.at_set_same _ _ _ | assumption))) rfl (by exact Nat.le_of_ble_eq_true rfl) rfl (by exact rfl) ?_ | refine w_lenSl rfl rfl rfl (F.un _ rfl) ?_ | refine w_lenStr rfl rfl rfl (F.un _ rfl) ?_ | refine w_add rfl rfl rfl rfl (by omega) (by omega) ?_ | refine w_sub rfl rfl rfl rfl (by omega) (by omega) ?_ | refine w_mul rfl rfl rfl rfl (by omega) (by omega) ?_ | refine w_notB rfl rfl rfl ?_ | refine w_quo rfl rfl rfl rfl (by omega) (by omega) (by omega) ?_ | refine w_build rfl rfl rfl (F.ze _ rfl) (F.pl _ rfl) rfl ?_ | fail) | (refine w_call rfl rfl rfl (by kernel_rfl) (Fnc.mono (num_s _) ?_); rintro _ rfl; dsimp only) | (refine w_eqlS rfl rfl rfl rfl (fun _ => ?_) (fun hq => absurd (by decide) hq)) | refine w_bsl0 rfl rfl (F.un _ rfl) (F.sz _ rfl) rfl (F.ze _ rfl) ?_ | refine w_bsl1 rfl rfl rfl (F.un _ rfl) (F.sz _ rfl) (F.ze _ rfl) rfl ?_ | refine w_bsl2 rfl rfl rfl rfl (F.un _ rfl) (F.sz _ rfl) (F.ze _ rfl) rfl rfl ?_ | refine w_bsl3 rfl rfl rfl rfl rfl (F.un _ rfl) (F.sz _ rfl) (F.ze _ rfl) rfl rfl rfl ?_ | fail))
  (refine w_call rfl rfl rfl (by kernel_rfl) (Fnc.mono (numbers_e (H := H7.set n7 (uR false [1])) [1] (by (focus ((repeat (first | refine (Tr.at_set_other _ _ (by omega)).trans ?_ | refine (Tr.at_del_other _ (by omega)).trans ?_)); exact hr5))) (Tr.at_set_same _ _ _) (by decide)) ?_); rintro _ rfl; dsimp only)
  (repeat (first | (first | refine y_seq ?_ | refine w_region ?_ | refine y_regEnd ?_ | refine y_block ?_ | refine y_inBlock ?_ | refine y_skip ?_ | refine y_label ?_ | refine y_scope ?_ | refine y_inScope ?_ | refine y_exit rfl ?_ | refine y_condT rfl ?_ | refine y_condF rfl ?_ | refine y_goto rfl ?_ | refine w_move rfl rfl rfl ?_ | refine w_assign rfl rfl rfl ?_ | refine w_pickT rfl rfl rfl rfl ?_ | refine w_pickF rfl rfl rfl rfl ?_ | refine w_extract rfl rfl rfl rfl ?_ | refine w_nilCheck rfl rfl rfl ?_ | refine w_nilCheckF rfl rfl rfl ?_ | refine w_nilCheckI rfl rfl rfl ?_ | refine w_fieldAddr rfl rfl rfl (F.fo _ _ rfl rfl) ?_ | refine w_makeFunc rfl rfl rfl rfl ?_ | refine w_not rfl ?_ | refine w_extractV rfl rfl rfl rfl ?_ | refine w_makeMap rfl rfl ?_ | refine w_eqNil rfl rfl rfl rfl (F.un _ rfl) rfl ?_ | refine w_neNil rfl rfl rfl rfl (F.un _ rfl) rfl ?_ | refine w_isNil rfl rfl rfl rfl rfl (F.un _ rfl) rfl ?_ | refine w_noNil rfl rfl rfl rfl rfl (F.un _ rfl) rfl ?_ | refine w_storeC rfl rfl rfl rfl (F.sz _ rfl) (by first | exact rfl | (focus ((repeat (first | refine (Tr.at_set_other _ _ (by omega)).trans ?_ | refine (Tr.at_del_other _ (by omega)).trans ?_)); first | exact Tr.at_set_same _ _ _ | assumption))) rfl (by exact Nat.le_of_ble_eq_true rfl) rfl ?_ | refine w_loadB1 rfl rfl rfl (F.ag _ rfl) rfl rfl ?_ | refine w_loadBN rfl rfl rfl (F.ag _ rfl) rfl rfl ?_ | refine w_alloc rfl rfl (F.zl _ rfl) ?_ | refine w_boxN rfl rfl rfl ?_ | refine w_box rfl rfl rfl rfl ?_ | refine w_store1 rfl rfl rfl (F.sz _ rfl) rfl rfl rfl ?_ | refine w_storeN rfl rfl rfl (F.sz _ rfl) rfl rfl (by decide) rfl rfl ?_ | refine w_loadB1 rfl rfl rfl (F.ag _ rfl) (by (focus ((repeat (first | refine (Tr.at_set_other _ _ (by omega)).trans ?_ | refine (Tr.at_del_other _ (by omega)).trans ?_)); first | exact Tr.at_set_same _ _ _ | assumption))) (by exact rfl) ?_ | refine w_loadBN rfl rfl rfl (F.ag _ rfl) (by (focus ((repeat (first | refine (Tr.at_set_other _ _ (by omega)).trans ?_ | refine (Tr.at_del_other _ (by omega)).trans ?_)); first | exact Tr.at_set_same _ _ _ | assumption))) (by exact rfl) ?_ | refine w_store1 rfl rfl rfl (F.sz _ rfl) (by (focus ((repeat (first | refine (Tr.at_set_other _ _ (by omega)).trans ?_ | refine (Tr.at_del_other _ (by omega)).trans ?_)); first | exact Tr.at_set_same _ _ _ | assumption))) (by exact rfl) (by exact rfl) ?_ | refine w_storeN rfl rfl rfl (F.sz _ rfl) (by (focus ((repeat (first | refine (Tr.at_set_other _ _ (by omega)).trans ?_ | refine (Tr.at_del_other _ (by omega)).trans ?_)); first | exact Tr.at_set_same _ _ _ | assumption))) rfl (by exact Nat.le_of_ble_eq_true rfl) rfl (by exact rfl) ?_ | refine w_lenSl rfl rfl rfl (F.un _ rfl) ?_ | refine w_lenStr rfl rfl rfl (F.un _ rfl) ?_ | refine w_add rfl rfl rfl rfl (by omega) (by omega) ?_ | refine w_sub rfl rfl rfl rfl (by omega) (by omega) ?_ | refine w_mul rfl rfl rfl rfl (by omega) (by omega) ?_ | refine w_notB rfl rfl rfl ?_ | refine w_quo rfl rfl rfl rfl (by omega) (by omega) (by omega) ?_ | refine w_build rfl rfl rfl (F.ze _ rfl) (F.pl _ rfl) rfl ?_ | fail) | refine w_bsl0 rfl rfl (F.un _ rfl) (F.sz _ rfl) rfl (F.ze _ rfl) ?_ | refine w_bsl1 rfl rfl rfl (F.un _ rfl) (F.sz _ rfl) (F.ze _ rfl) rfl ?_ | refine w_bsl2 rfl rfl rfl rfl (F.un _ rfl) (F.sz _ rfl) (F.ze _ rfl) rfl rfl ?_ | refine w_bsl3 rfl rfl rfl rfl rfl (F.un _ rfl) (F.sz _ rfl) (F.ze _ rfl) rfl rfl rfl ?_ | fail))
  (refine w_call rfl rfl rfl (by kernel_rfl) (Fnc.mono (texts_e (H := (H7.set n7 (uR false [1])).set (n7 + 1) (sR false [knA, knB])) [knA, knB] (by (focus ((repeat (first | refine (Tr.at_set_other _ _ (by omega)).trans ?_ | refine (Tr.at_del_other _ (by omega)).trans ?_)); exact hr6))) (Tr.at_set_same _ _ _) (by decide)) ?_); rintro _ rfl; dsimp only)
  (repeat (first | (first | refine y_seq ?_ | refine w_region ?_ | refine y_regEnd ?_ | refine y_block ?_ | refine y_inBlock ?_ | refine y_skip ?_ | refine y_label ?_ | refine y_scope ?_ | refine y_inScope ?_ | refine y_exit rfl ?_ | refine y_condT rfl ?_ | refine y_condF rfl ?_ | refine y_goto rfl ?_ | refine w_move rfl rfl rfl ?_ | refine w_assign rfl rfl rfl ?_ | refine w_pickT rfl rfl rfl rfl ?_ | refine w_pickF rfl rfl rfl rfl ?_ | refine w_extract rfl rfl rfl rfl ?_ | refine w_nilCheck rfl rfl rfl ?_ | refine w_nilCheckF rfl rfl rfl ?_ | refine w_nilCheckI rfl rfl rfl ?_ | refine w_fieldAddr rfl rfl rfl (F.fo _ _ rfl rfl) ?_ | refine w_makeFunc rfl rfl rfl rfl ?_ | refine w_not rfl ?_ | refine w_extractV rfl rfl rfl rfl ?_ | refine w_makeMap rfl rfl ?_ | refine w_eqNil rfl rfl rfl rfl (F.un _ rfl) rfl ?_ | refine w_neNil rfl rfl rfl rfl (F.un _ rfl) rfl ?_ | refine w_isNil rfl rfl rfl rfl rfl (F.un _ rfl) rfl ?_ | refine w_noNil rfl rfl rfl rfl rfl (F.un _ rfl) rfl ?_ | refine w_storeC rfl rfl rfl rfl (F.sz _ rfl) (by first | exact rfl | (focus ((repeat (first | refine (Tr.at_set_other _ _ (by omega)).trans ?_ | refine (Tr.at_del_other _ (by omega)).trans ?_)); first | exact Tr.at_set_same _ _ _ | assumption))) rfl (by exact Nat.le_of_ble_eq_true rfl) rfl ?_ | refine w_loadB1 rfl rfl rfl (F.ag _ rfl) rfl rfl ?_ | refine w_loadBN rfl rfl rfl (F.ag _ rfl) rfl rfl ?_ | refine w_alloc rfl rfl (F.zl _ rfl) ?_ | refine w_boxN rfl rfl rfl ?_ | refine w_box rfl rfl rfl rfl ?_ | refine w_store1 rfl rfl rfl (F.sz _ rfl) rfl rfl rfl ?_ | refine w_storeN rfl rfl rfl (F.sz _ rfl) rfl rfl (by decide) rfl rfl ?_ | refine w_loadB1 rfl rfl rfl (F.ag _ rfl) (by (focus ((repeat (first | refine (Tr.at_set_other _ _ (by omega)).trans ?_ | refine (Tr.at_del_other _ (by omega)).trans ?_)); first | exact Tr.at_set_same _ _ _ | assumption))) (by exact rfl) ?_ | refine w_loadBN rfl rfl rfl (F.ag _ rfl) (by (focus ((repeat (first | refine (Tr.at_set_other _ _ (by omega)).trans ?_ | refine (Tr.at_del_other _ (by omega)).trans ?_)); first | exact Tr.at_set_same _ _ _ | assumption))) (by exact rfl) ?_ | refine w_store1 rfl rfl rfl (F.sz _ rfl) (by (focus ((repeat (first | refine (Tr.at_set_other _ _ (by omega)).trans ?_ | refine (Tr.at_del_other _ (by omega)).trans ?_)); first | exact Tr.at_set_same _ _ _ | assumption))) (by exact rfl) (by exact rfl) ?_ | refine w_storeN rfl rfl rfl (F.sz _ rfl) (by (focus ((repeat (first | refine (Tr.at_set_other _ _ (by omega)).trans ?_ | refine (Tr.at_del_other _ (by omega)).trans ?_)); first | exact Tr.at_set_same _ _ _ | assumption))) rfl (by exact Nat.le_of_ble_eq_true rfl) rfl (by exact rfl) ?_ | refine w_lenSl rfl rfl rfl (F.un _ rfl) ?_ | refine w_lenStr rfl rfl rfl (F.un _ rfl) ?_ | refine w_add rfl rfl rfl rfl (by omega) (by omega) ?_ | refine w_sub rfl rfl rfl rfl (by omega) (by omega) ?_ | refine w_mul rfl rfl rfl rfl (by omega) (by omega) ?_ | refine w_notB rfl rfl rfl ?_ | refine w_quo rfl rfl rfl rfl (by omega) (by omega) (by omega) ?_ | refine w_build rfl rfl rfl (F.ze _ rfl) (F.pl _ rfl) rfl ?_ | fail) | (refine w_eqlS rfl rfl rfl rfl (fun _ => ?_) (fun hq => absurd (by decide) hq)) | fail))
  refine w_call rfl rfl rfl (by kernel_rfl) (Fnc.mono (keys_t (T := kn1) (Fp := F7) (g4.frame fun n hn => by have := hF7 n hn; (focus ((repeat (first | refine (Tr.at_set_other _ _ (by omega)).trans ?_ | refine (Tr.at_del_other _ (by omega)).trans ?_)); exact rfl))) 1 (by decide)) ?_)
  rintro ⟨_, H8, n8⟩ ⟨r8, rfl, i1, i2, i3, i4, i5⟩
  dsimp only at i1 i3 i4 i5 ⊢
  (repeat (first | (first | refine y_seq ?_ | refine w_region ?_ | refine y_regEnd ?_ | refine y_block ?_ | refine y_inBlock ?_ | refine y_skip ?_ | refine y_label ?_ | refine y_scope ?_ | refine y_inScope ?_ | refine y_exit rfl ?_ | refine y_condT rfl ?_ | refine y_condF rfl ?_ | refine y_goto rfl ?_ | refine w_move rfl rfl rfl ?_ | refine w_assign rfl rfl rfl ?_ | refine w_pickT rfl rfl rfl rfl ?_ | refine w_pickF rfl rfl rfl rfl ?_ | refine w_extract rfl rfl rfl rfl ?_ | refine w_nilCheck rfl rfl rfl ?_ | refine w_nilCheckF rfl rfl rfl ?_ | refine w_nilCheckI rfl rfl rfl ?_ | refine w_fieldAddr rfl rfl rfl (F.fo _ _ rfl rfl) ?_ | refine w_makeFunc rfl rfl rfl rfl ?_ | refine w_not rfl ?_ | refine w_extractV rfl rfl rfl rfl ?_ | refine w_makeMap rfl rfl ?_ | refine w_eqNil rfl rfl rfl rfl (F.un _ rfl) rfl ?_ | refine w_neNil rfl rfl rfl rfl (F.un _ rfl) rfl ?_ | refine w_isNil rfl rfl rfl rfl rfl (F.un _ rfl) rfl ?_ | refine w_noNil rfl rfl rfl rfl rfl (F.un _ rfl) rfl ?_ | refine w_storeC rfl rfl rfl rfl (F.sz _ rfl) (by first | exact rfl | (focus ((repeat (first | refine (Tr.at_set_other _ _ (by omega)).trans ?_ | refine (Tr.at_del_other _ (by omega)).trans ?_)); first | exact Tr.at_set_same _ _ _ | assumption))) rfl (by exact Nat.le_of_ble_eq_true rfl) rfl ?_ | refine w_loadB1 rfl rfl rfl (F.ag _ rfl) rfl rfl ?_ | refine w_loadBN rfl rfl rfl (F.ag _ rfl) rfl rfl ?_ | refine w_alloc rfl rfl (F.zl _ rfl) ?_ | refine w_boxN rfl rfl rfl ?_ | refine w_box rfl rfl rfl rfl ?_ | refine w_store1 rfl rfl rfl (F.sz _ rfl) rfl rfl rfl ?_ | refine w_storeN rfl rfl rfl (F.sz _ rfl) rfl rfl (by decide) rfl rfl ?_ | refine w_loadB1 rfl rfl rfl (F.ag _ rfl) (by (focus ((repeat (first | refine (Tr.at_set_other _ _ (by omega)).trans ?_ | refine (Tr.at_del_other _ (by omega)).trans ?_)); first | exact Tr.at_set_same _ _ _ | assumption))) (by exact rfl) ?_ | refine w_loadBN rfl rfl rfl (F.ag _ rfl) (by (focus ((repeat (first | refine (Tr.at_set_other _ _ (by omega)).trans ?_ | refine (Tr.at_del_other _ (by omega)).trans ?_)); first | exact Tr.at_set_same _ _ _ | assumption))) (by exact rfl) ?_ | refine w_store1 rfl rfl rfl (F.sz _ rfl) (by (focus ((repeat (first | refine (Tr.at_set_other _ _ (by omega)).trans ?_ | refine (Tr.at_del_other _ (by omega)).trans ?_)); first | exact Tr.at_set_same _ _ _ | assumption))) (by exact rfl) (by exact rfl) ?_ | refine w_storeN rfl rfl rfl (F.sz _ rfl) (by (focus ((repeat (first | refine (Tr.at_set_other _ _ (by omega)).trans ?_ | refine (Tr.at_del_other _ (by omega)).trans ?_)); first | exact Tr.at_set_same _ _ _ | assumption))) rfl (by exact Nat.le_of_ble_eq_true rfl) rfl (by exact rfl) ?_ | refine w_lenSl rfl rfl rfl (F.un _ rfl) ?_ | refine w_lenStr rfl rfl rfl (F.un _ rfl) ?_ | refine w_add rfl rfl rfl rfl (by omega) (by omega) ?_ | refine w_sub rfl rfl rfl rfl (by omega) (by omega) ?_ | refine w_mul rfl rfl rfl rfl (by omega) (by omega) ?_ | refine w_notB rfl rfl rfl ?_ | refine w_quo rfl rfl rfl rfl (by omega) (by omega) (by omega) ?_ | refine w_build rfl rfl rfl (F.ze _ rfl) (F.pl _ rfl) rfl ?_ | fail) | refine w_bsl0 rfl rfl (F.un _ rfl) (F.sz _ rfl) rfl (F.ze _ rfl) ?_ | refine w_bsl1 rfl rfl rfl (F.un _ rfl) (F.sz _ rfl) (F.ze _ rfl) rfl ?_ | refine w_bsl2 rfl rfl rfl rfl (F.un _ rfl) (F.sz _ rfl) (F.ze _ rfl) rfl rfl ?_ | refine w_bsl3 rfl rfl rfl rfl rfl (F.un _ rfl) (F.sz _ rfl) (F.ze _ rfl) rfl rfl rfl ?_ | fail))
  (refine w_call rfl rfl rfl (by kernel_rfl) (Fnc.mono (texts_e (H := H8.set n8 (sR false [knA])) [knA] (by (focus ((repeat (first | refine (Tr.at_set_other _ _ (by omega)).trans ?_ | refine (Tr.at_del_other _ (by omega)).trans ?_)); exact i1))) (Tr.at_set_same _ _ _) (by decide)) ?_); rintro _ rfl; dsimp only)
  (repeat (first | (first | refine y_seq ?_ | refine w_region ?_ | refine y_regEnd ?_ | refine y_block ?_ | refine y_inBlock ?_ | refine y_skip ?_ | refine y_label ?_ | refine y_scope ?_ | refine y_inScope ?_ | refine y_exit rfl ?_ | refine y_condT rfl ?_ | refine y_condF rfl ?_ | refine y_goto rfl ?_ | refine w_move rfl rfl rfl ?_ | refine w_assign rfl rfl rfl ?_ | refine w_pickT rfl rfl rfl rfl ?_ | refine w_pickF rfl rfl rfl rfl ?_ | refine w_extract rfl rfl rfl rfl ?_ | refine w_nilCheck rfl rfl rfl ?_ | refine w_nilCheckF rfl rfl rfl ?_ | refine w_nilCheckI rfl rfl rfl ?_ | refine w_fieldAddr rfl rfl rfl (F.fo _ _ rfl rfl) ?_ | refine w_makeFunc rfl rfl rfl rfl ?_ | refine w_not rfl ?_ | refine w_extractV rfl rfl rfl rfl ?_ | refine w_makeMap rfl rfl ?_ | refine w_eqNil rfl rfl rfl rfl (F.un _ rfl) rfl ?_ | refine w_neNil rfl rfl rfl rfl (F.un _ rfl) rfl ?_ | refine w_isNil rfl rfl rfl rfl rfl (F.un _ rfl) rfl ?_ | refine w_noNil rfl rfl rfl rfl rfl (F.un _ rfl) rfl ?_ | refine w_storeC rfl rfl rfl rfl (F.sz _ rfl) (by first | exact rfl | (focus ((repeat (first | refine (Tr.at_set_other _ _ (by omega)).trans ?_ | refine (Tr.at_del_other _ (by omega)).trans ?_)); first | exact Tr.at_set_same _ _ _ | assumption))) rfl (by exact Nat.le_of_ble_eq_true rfl) rfl ?_ | refine w_loadB1 rfl rfl rfl (F.ag _ rfl) rfl rfl ?_ | refine w_loadBN rfl rfl rfl (F.ag _ rfl) rfl rfl ?_ | refine w_alloc rfl rfl (F.zl _ rfl) ?_ | refine w_boxN rfl rfl rfl ?_ | refine w_box rfl rfl rfl rfl ?_ | refine w_store1 rfl rfl rfl (F.sz _ rfl) rfl rfl rfl ?_ | refine w_storeN rfl rfl rfl (F.sz _ rfl) rfl rfl (by decide) rfl rfl ?_ | refine w_loadB1 rfl rfl rfl (F.ag _ rfl) (by (focus ((repeat (first | refine (Tr.at_set_other _ _ (by omega)).trans ?_ | refine (Tr.at_del_other _ (by omega)).trans ?_)); first | exact Tr.at_set_same _ _ _ | assumption))) (by exact rfl) ?_ | refine w_loadBN rfl rfl rfl (F.ag _ rfl) (by (focus ((repeat (first | refine (Tr.at_set_other _ _ (by omega)).trans ?_ | refine (Tr.at_del_other _ (by omega)).trans ?_)); first | exact Tr.at_set_same _ _ _ | assumption))) (by exact rfl) ?_ | refine w_store1 rfl rfl rfl (F.sz _ rfl) (by (focus ((repeat (first | refine (Tr.at_set_other _ _ (by omega)).trans ?_ | refine (Tr.at_del_other _ (by omega)).trans ?_)); first | exact Tr.at_set_same _ _ _ | assumption))) (by exact rfl) (by exact rfl) ?_ | refine w_storeN rfl rfl rfl (F.sz _ rfl) (by (focus ((repeat (first | refine (Tr.at_set_other _ _ (by omega)).trans ?_ | refine (Tr.at_del_other _ (by omega)).trans ?_)); first | exact Tr.at_set_same _ _ _ | assumption))) rfl (by exact Nat.le_of_ble_eq_true rfl) rfl (by exact rfl) ?_ | refine w_lenSl rfl rfl rfl (F.un _ rfl) ?_ | refine w_lenStr rfl rfl rfl (F.un _ rfl) ?_ | refine w_add rfl rfl rfl rfl (by omega) (by omega) ?_ | refine w_sub rfl rfl rfl rfl (by omega) (by omega) ?_ | refine w_mul rfl rfl rfl rfl (by omega) (by omega) ?_ | refine w_notB rfl rfl rfl ?_ | refine w_quo rfl rfl rfl rfl (by omega) (by omega) (by omega) ?_ | refine w_build rfl rfl rfl (F.ze _ rfl) (F.pl _ rfl) rfl ?_ | fail) | fail))
  ((first | apply w_end Try.func9 (congrArg Array.toList Try.results9) | apply w_ret Try.func9 (congrArg Array.toList Try.results9)); (focus (repeat (first | exact ResIs.nil | apply ResIs.tmp rfl | apply ResIs.cell rfl (LoadIs.one (F.ag _ rfl) rfl (cell_box rfl)) | apply ResIs.cell rfl (LoadIs.many (F.ag _ rfl) rfl (cellsFrom_box _ 0 rfl rfl))))))
  have s1 := a2.1
  have s2 := b2.1
  have s3 := c2.1
  have s4 := d2.1
  have s5 := e6.1
  have s7 := g6.1
  clear hr5 hr6 hF7 hF5 hund5 hund7
  have k1 : ∀ n, F1 n → nx ≤ n := fun n hn => by
    rcases a2.2.1 n hn with h | h
    · have h : n = nx + 1 + 1 ∨ n = nx ∨ n = nx + 1 := h
      omega
    · omega
  have k2 : ∀ n, F2 n → nx ≤ n := fun n hn => (b2.2.1 n hn).elim (k1 n) fun h => by omega
  have k3 : ∀ n, F3 n → nx ≤ n := fun n hn => (c2.2.1 n hn).elim (k2 n) fun h => by omega
  have k4 : ∀ n, F4 n → nx ≤ n := fun n hn => (d2.2.1 n hn).elim (k3 n) fun h => by omega
  have k5 : ∀ n, F5 n → nx ≤ n := fun n hn => (e6.2.1 n hn).elim (k4 n) fun h => by omega
  refine ⟨rfl, by simp only; omega, fun n hn => ?_⟩
  have m1 : H1.at' n = H.at' n := (a2.2.2 n (by omega) fun h => by
    have h : n = nx + 1 + 1 ∨ n = nx ∨ n = nx + 1 := h
    omega).trans (by (focus ((repeat (first | refine (Tr.at_set_other _ _ (by omega)).trans ?_ | refine (Tr.at_del_other _ (by omega)).trans ?_)); exact rfl)))
  have m2 := (b2.2.2 n (by omega) fun h => by have := k1 n h; omega).trans m1
  have m3 := (c2.2.2 n (by omega) fun h => by have := k2 n h; omega).trans m2
  have m4 := (d2.2.2 n (by omega) fun h => by have := k3 n h; omega).trans m3
  have m5 := (e6.2.2 n (by omega) fun h => by have := k4 n h; omega).trans m4
  have m6 := (f5 n (by omega)).trans m5
  have m7 := (g6.2.2 n (by omega) fun h => by have := k5 n h; omega).trans m6
  have m8 := (i5 n (by omega)).trans (show _ = H.at' n by (focus ((repeat (first | refine (Tr.at_set_other _ _ (by omega)).trans ?_ | refine (Tr.at_del_other _ (by omega)).trans ?_)); exact m7)))
  (focus ((repeat (first | refine (Tr.at_set_other _ _ (by omega)).trans ?_ | refine (Tr.at_del_other _ (by omega)).trans ?_)); exact m8))
end Go.Proofs.Ytckajlllkmkniaa
end
section
namespace Go.Sy
open Go Go.Sl Go.RowKit
section
variable {P : Program}
theorem conc_two {e e1 e2 : Env} (h1 : e.le e1) (h2 : e.le e2) {s : SV} {v0 v : Value} (h : s.conc e = some v0) (h' : s.conc e1 = some v) : s.conc e2 = some v := by
  have := SV.conc_mono h1 s v0 h
  rw [h'] at this
  cases this
  exact SV.conc_mono h2 s _ h
theorem concL_two {e e1 e2 : Env} (h1 : e.le e1) (h2 : e.le e2) {s : List SV} {v0 v : List Value} (h : SV.concL e s = some v0) (h' : SV.concL e1 s = some v) : SV.concL e2 s = some v := by
  have := SV.concL_mono h1 s v0 h
  rw [h'] at this
  cases this
  exact SV.concL_mono h2 s _ h
theorem MRel_two {e e1 e2 : Env} (h1 : e.le e1) (h2 : e.le e2) : ∀ {l : List (Value × SV × Nat)} {m0 m : List MapEntry}, MRel e l m0 → MRel e1 l m → MRel e2 l m
  | [], [], [], _, _ => trivial
  | (_, _, _) :: _, _ :: _, _ :: _, hd0, hd => ⟨hd.1, hd.2.1, conc_two h1 h2 hd0.2.2.1 hd.2.2.1, MRel_two h1 h2 hd0.2.2.2 hd.2.2.2⟩
  | [], _ :: _, _, hd, _ => hd.elim
  | [], _, _ :: _, _, hd => hd.elim
  | _ :: _, [], _, hd, _ => by simp [MRel] at hd
  | _ :: _, _, [], _, hd => by simp [MRel] at hd
theorem DRel_two {e e1 e2 : Env} (h1 : e.le e1) (h2 : e.le e2) {a : ADf} {d0 d : Deferred} (hd0 : DRel e a d0) (hd : DRel e1 a d) : DRel e2 a d := by
  cases a with
  | call f args =>
    obtain ⟨x0, cap0, _, hl0⟩ := hd0
    obtain ⟨x, cap, rfl, hl⟩ := hd
    exact ⟨x, cap, rfl, concL_two h1 h2 hl0 hl⟩
  | taken r =>
    obtain ⟨x0, hx0, _⟩ := hd0
    obtain ⟨x, hx, rfl⟩ := hd
    have := h1 _ _ hx0
    rw [hx] at this
    cases this
    exact ⟨_, h2 _ _ hx0, rfl⟩
theorem DsRel_two {e e1 e2 : Env} (h1 : e.le e1) (h2 : e.le e2) : ∀ {l : List ADf} {m0 m : List Deferred}, DsRel e l m0 → DsRel e1 l m → DsRel e2 l m
  | [], [], [], _, _ => trivial
  | _ :: _, _ :: _, _ :: _, hd0, hd => ⟨DRel_two h1 h2 hd0.1 hd.1, DsRel_two h1 h2 hd0.2 hd.2⟩
  | [], _ :: _, _, hd, _ => hd.elim
  | [], _, _ :: _, _, hd => hd.elim
  | _ :: _, [], _, hd, _ => hd.elim
  | _ :: _, _, [], _, hd => hd.elim
theorem TRel_two {e e1 e2 : Env} (h1 : e.le e1) (h2 : e.le e2) {nt : Nat} {T : Tr SV} {t0 t : Array Value} (hd0 : TRel e nt T t0) (hd : TRel e1 nt T t) : TRel e2 nt T t := by
  refine ⟨hd.1, fun i s hs => ?_⟩
  obtain ⟨v0, a1, _⟩ := hd0.2 i s hs
  obtain ⟨v, b1, b2⟩ := hd.2 i s hs
  exact ⟨v, conc_two h1 h2 a1 b1, b2⟩
theorem ORel_two {e e1 e2 : Env} (h1 : e.le e1) (h2 : e.le e2) {vo : VO} {x : Ent} {o0 o : Obj} (h0 : ORel e vo x o0) (ho : ORel e1 vo x o) : ORel e2 vo x o := by
  cases vo with
  | cells n t c =>
    obtain ⟨_, cs0, fz0, _, _, _, g4⟩ := h0
    obtain ⟨q0, cs, fz, q1, q2, q3, q4⟩ := ho
    refine ⟨q0, cs, fz, q1, q2, q3, fun i hi s hs => ?_⟩
    obtain ⟨v0, a1, _⟩ := g4 i hi s hs
    obtain ⟨v, b1, b2⟩ := q4 i hi s hs
    exact ⟨v, conc_two h1 h2 a1 b1, b2⟩
  | row ro ne sz t c =>
    obtain ⟨_, cs0, fz0, t0, _, _, _, _, _, _, g7⟩ := h0
    obtain ⟨q0, cs, fz, tt, q1, q2, q3, q4, q5, q6, q7⟩ := ho
    refine ⟨q0, cs, fz, tt, q1, q2, q3, q4, q5, q6, fun i hi s hs => ?_⟩
    obtain ⟨v0, a1, _⟩ := g7 i hi s hs
    obtain ⟨v, b1, b2⟩ := q7 i hi s hs
    exact ⟨v, conc_two h1 h2 a1 b1, b2⟩
  | map l clock =>
    obtain ⟨es0, _, g2⟩ := h0
    obtain ⟨es, q1, q2⟩ := ho
    exact ⟨es, q1, MRel_two h1 h2 g2 q2⟩
  | iter m since seen stepped =>
    cases m with
    | none => exact ho
    | some m =>
      obtain ⟨_, y0, g1, _⟩ := h0
      obtain ⟨q0, y, q1, q2⟩ := ho
      have := h1 _ _ g1
      rw [q1] at this
      cases this
      exact ⟨q0, _, h2 _ _ g1, q2⟩
  | siter s pos => exact ho
  | loop st pend fn nt T params assign body dr =>
    obtain ⟨tm0, y0, g1, g2, _⟩ := h0
    obtain ⟨tm, y, q1, q2, q3⟩ := ho
    have := h1 _ _ g1
    rw [q1] at this
    cases this
    exact ⟨tm, _, h2 _ _ g1, TRel_two h1 h2 g2 q2, q3⟩
  | dfd l =>
    cases l with
    | none => exact ho
    | some l =>
      obtain ⟨ds0, _, g2⟩ := h0
      obtain ⟨ds, q1, q2⟩ := ho
      exact ⟨ds, q1, DsRel_two h1 h2 g2 q2⟩
theorem Lies_two {K : Zone} {w0 w : World} {e e1 e2 : Env} (h1 : e.le e1) (h2 : e.le e2) {vo : VO} {x : Ent} (h0 : Lies K w0 e vo x) (ho : Lies K w e1 vo x) : Lies K w e2 vo x := by
  rcases ho with ⟨a0, o, a1, a2, a3⟩ | a
  · rcases h0 with ⟨_, o0, _, _, b3⟩ | ⟨b, _⟩
    · exact .inl ⟨a0, o, a1, a2, ORel_two h1 h2 b3 a3⟩
    · rw [a0] at b; cases b
  · exact .inr a
theorem Lies_dat {K : Zone} {w : World} {e e' : Env} {rr : Bool} {ne sz : Nat} {t : TypeId} {vs : List Value} {x : Ent} (h : Lies K w e (dat rr ne sz t vs) x) : Lies K w e' (dat rr ne sz t vs) x := by
  rcases h with ⟨a0, o, a1, a2, a3⟩ | a
  · obtain ⟨q0, cs, fz, tt, q1, q2, q3, q4, q5, q6, q7⟩ := a3
    refine .inl ⟨a0, o, a1, a2, q0, cs, fz, tt, q1, q2, q3, q4, q5, q6, fun i hi s hs => ?_⟩
    obtain ⟨v, b1, b2⟩ := q7 i hi s hs
    refine ⟨v, ?_, b2⟩
    simp only [Tr.at', Option.map_eq_some_iff] at hs
    obtain ⟨u, _, rfl⟩ := hs
    exact b1
  · exact .inr a
theorem St.next {K : Zone} {w0 w w1 : World} {e e1 : Env} {H H1 : Heap} {nx nx1 r : Nat} {rr : Bool} {ne sz : Nat} {t : TypeId} {vs : List Value} (hS : St K w0 e H nx w) (hle : e.le e1) (hS1 : St K w0 e1 H1 nx1 w1) (hr : H1.at' r = some (dat rr ne sz t vs)) (h1 : nx ≤ r) (hk : ∀ m, m < nx → H1.at' m = H.at' m) :
    ∃ e2, e.le e2 ∧ St K w0 e2 (H.set nx (dat rr ne sz t vs)) (nx + 1) w1 ∧ e2 nx = e1 r := by
  have hbelow : ∀ m x, e m = some x → m < nx := fun m x hx => by
    rcases Nat.lt_or_ge m nx with q | q
    · exact q
    · rw [hS.fresh m q] at hx; cases hx
  have hle2 : e.le (fun m => if m < nx then e1 m else if m = nx then e1 r else none) := fun m x hx => by
    have := hbelow m x hx
    simp only [if_pos this]
    exact hle m x hx
  obtain ⟨xr, hxr, hlr⟩ := hS1.rel r _ hr
  have hget : ∀ m vo, (H.set nx (dat rr ne sz t vs)).at' m = some vo → (m = nx ∧ vo = dat rr ne sz t vs) ∨ (m < nx ∧ H.at' m = some vo) := fun m vo h => by
    rcases Tr.at_set h with ⟨q1, q2⟩ | ⟨q1, q2⟩
    · exact .inl ⟨q1, q2⟩
    · obtain ⟨x, hx, _⟩ := hS.rel m vo q2
      exact .inr ⟨hbelow m x hx, q2⟩
  refine ⟨fun m => if m < nx then e1 m else if m = nx then e1 r else none, hle2, ⟨hS1.below, fun m vo h => ?_, fun m m' vo vo' x x' g g' gx gx' gne gn gn' gro gro' => ?_, fun i hi => ?_⟩, ?_⟩
  · rcases hget m vo h with ⟨rfl, rfl⟩ | ⟨q1, q2⟩
    · refine ⟨xr, ?_, Lies_dat hlr⟩
      simp [hxr]
    · obtain ⟨x0, hx0, hl0⟩ := hS.rel m vo q2
      obtain ⟨x, hx, hl⟩ := hS1.rel m vo ((hk m q1).trans q2)
      have := hle m x0 hx0
      rw [hx] at this
      cases this
      refine ⟨_, ?_, Lies_two hle hle2 hl0 hl⟩
      simp only [if_pos q1]
      exact hx
  · change (if m < nx then e1 m else if m = nx then e1 r else none) = some x at gx
    change (if m' < nx then e1 m' else if m' = nx then e1 r else none) = some x' at gx'
    rcases hget m vo g with ⟨rfl, rfl⟩ | ⟨q1, q2⟩
    · rcases hget m' vo' g' with ⟨rfl, rfl⟩ | ⟨p1, p2⟩
      · exact absurd rfl gne
      · simp only [Nat.lt_irrefl, if_false, if_true] at gx
        simp only [if_pos p1] at gx'
        exact hS1.inj r m' _ vo' x x' hr ((hk m' p1).trans p2) gx gx' (by omega) gn gn' gro gro'
    · rw [if_pos q1] at gx
      rcases hget m' vo' g' with ⟨rfl, rfl⟩ | ⟨p1, p2⟩
      · rw [if_neg (Nat.lt_irrefl _), if_pos rfl] at gx'
        exact hS1.inj m r vo _ x x' ((hk m q1).trans q2) hr gx gx' (by omega) gn gn' gro gro'
      · rw [if_pos p1] at gx'
        exact hS1.inj m m' vo vo' x x' ((hk m q1).trans q2) ((hk m' p1).trans p2) gx gx' gne gn gn' gro gro'
  · show (if i < nx then e1 i else if i = nx then e1 r else none) = none
    rw [if_neg (by omega), if_neg (by omega)]
  · simp
theorem Fnc.next {f : FuncId} {args : List SV} {H : Heap} {nx m : Nat} {rr : Bool} {ne sz : Nat} {t : TypeId} {vs : List Value} (h : Fnc P f args H nx (fun q => ∃ r', q.1 = .slu r' 0 m ∧ q.2.1.at' r' = some (dat rr ne sz t vs) ∧ nx ≤ r' ∧ r' < q.2.2 ∧ nx ≤ q.2.2 ∧ ∀ n, n < nx → q.2.1.at' n = H.at' n)) : Fnc P f args H nx (fun q => q = (.slu nx 0 m, H.set nx (dat rr ne sz t vs), nx + 1)) := by
  have hv : ∀ {e1 e2 : Env} {r : Nat} {v : Value}, e2 nx = e1 r → (SV.slu r 0 m).conc e1 = some v → (SV.slu nx 0 m).conc e2 = some v := fun h1 h2 => by
    simpa [SV.conc, h1] using h2
  unfold Fnc callS at h ⊢
  rcases h with ⟨h1, v, r, h2, ⟨r', q1, q2, q3, q4, q5, q6⟩, h4⟩ | h
  · refine .inl ⟨h1, v, _, h2, rfl, fun K w0 e w hS => ?_⟩
    obtain ⟨e', g1, g2, g3⟩ := h4 K w0 e w hS
    obtain ⟨e2, k1, k2, k3⟩ := hS.next g1 g2 q2 q3 q6
    rw [q1] at g3
    exact ⟨e2, k1, k2, hv k3 g3⟩
  · refine .inr ?_
    split at h
    · refine ⟨fun K w0 e w tmps todo ds kd rof cs hS a2 a3 a4 a5 => ?_⟩
      obtain ⟨r, ⟨r', q1, q2, q3, q4, q5, q6⟩, e', w', v, g1, g2, g3, g4⟩ := Wp.run h K w0 e w tmps todo ds kd rof cs hS a2 a3 a4 a5
      obtain ⟨e2, k1, k2, k3⟩ := hS.next g1 g2 q2 q3 q6
      rw [q1] at g3
      exact ⟨_, rfl, e2, w', v, k1, k2, hv k3 g3, g4⟩
    · exact h.elim
end
end Go.Sy
end
section
namespace Go.Proofs.Ytckajlllkmkniaa
open Go Go.Sy Go.Sl Go.RowKit
theorem kget_mem {K V : Type} [DecidableEq K] {m : List (K × V × Nat)} {c : Nat} (h : KOk m c) {x : K × V × Nat} (hx : x ∈ m) : kget m x.1 = some x.2.1 := by
  have hk := h.keys
  clear h
  induction m with
  | nil => cases hx
  | cons y m ih =>
    rw [List.map_cons, List.nodup_cons] at hk
    rcases List.mem_cons.1 hx with rfl | hm
    · simp [kget]
    · have hne : y.1 ≠ x.1 := fun e => hk.1 (by rw [e]; exact List.mem_map_of_mem hm)
      have : kget (y :: m) x.1 = kget m x.1 := by simp [kget, hne]
      rw [this]
      exact ih hm hk.2
theorem kget_new {K V W : Type} [DecidableEq K] {m : List (K × V × Nat)} {k : K} {done : List (K × W × Nat)} (hm : m.map (·.1) = done.map (·.1)) (hk : k ∉ done.map (·.1)) : kget m k = none := by
  rw [kget_none, hm]
  exact hk
theorem key_one {K V : Type} [DecidableEq K] : ∀ {m : List (K × V × Nat)}, (m.map (·.1)).Nodup → ∀ {x y : K × V × Nat}, x ∈ m → y ∈ m → x.1 = y.1 → x = y
  | [], _, _, _, h, _, _ => by cases h
  | z :: m, hn, x, y, hx, hy, e => by
    rw [List.map_cons, List.nodup_cons] at hn
    rcases List.mem_cons.1 hx with h1 | h1
    · rcases List.mem_cons.1 hy with h2 | h2
      · rw [h1, h2]
      · refine absurd ?_ hn.1
        rw [← h1, e]
        exact List.mem_map_of_mem h2
    · rcases List.mem_cons.1 hy with h2 | h2
      · refine absurd ?_ hn.1
        rw [← h2, ← e]
        exact List.mem_map_of_mem h1
      · exact key_one hn.2 h1 h2 e
theorem fresh_key {K V : Type} [DecidableEq K] {m : List (K × V × Nat)} {c : Nat} (h : KOk m c) {done : List (K × V × Nat)} {x : K × V × Nat} (hx : x ∈ m) (hd : ∀ y ∈ done, y ∈ m) (hn : x ∉ done) : x.1 ∉ done.map (·.1) := by
  intro q
  obtain ⟨y, hy, e⟩ := List.mem_map.1 q
  exact hn (key_one h.keys hx (hd y hy) e.symm ▸ hy)
theorem Tb.newPartyL {t a b : Nat} {ml : MLk} {cl : Nat} {mp : MPt} {cp : Nat} {F1 F2 : Nat → Prop} {H : Heap} {nx : Nat} (h : Tb t a b ml cl mp cp F1 F2 H) (hu : ∀ b vo, H.at' b = some vo → b < nx) {o : Nat} {ks : List ByteArray} {w : ByteArray} (hg : kget mp o = none) {H' : Heap} (e1 : H'.at' (nx + 1) = some (newCells 72 [.slu nx 0 ks.length, .sc (.string w)])) (e2 : H'.at' nx = some (sR false ks)) (hm : H'.at' b = some (pmV (kput mp o (nx + 1, (ks, w)) cp) (kclk mp o cp))) (fr : ∀ z, z < nx → z ≠ b → H'.at' z = H.at' z) :
    Tb t a b ml cl (kput mp o (nx + 1, (ks, w)) cp) (kclk mp o cp) F1 (fun z => (z = nx + 1 ∨ z = nx) ∨ F2 z) H' ∧ Step (All t a b F1 F2) (All t a b F1 (fun z => (z = nx + 1 ∨ z = nx) ∨ F2 z)) H nx H' (nx + 1 + 1) := by
  obtain ⟨ut, ua, ub, u1, u2⟩ := h.lt hu
  have hne := h.ne
  refine ⟨h.addParty hg ⟨nx, e1, e2, by omega, fun z => Iff.rfl⟩ ⟨by omega, by omega, by omega, fun q => by have := u2 _ q; omega, fun q => by have := u1 _ q; omega⟩ ⟨by omega, by omega, by omega, fun q => by have := u2 _ q; omega, fun q => by have := u1 _ q; omega⟩ hm fun z hz => ?_, by omega, fun z hz => ?_, fun z hz hf => fr z hz fun e => hf (.inr (.inr (.inl e)))⟩
  · rcases hz with rfl | rfl | hz | hz
    · exact fr _ ut hne.2.1
    · exact fr _ ua hne.2.2
    · exact fr _ (u2 _ hz) (h.d2 _ hz).2.2
    · exact fr _ (u1 _ hz) (h.d1 _ hz).2.2.1
  · rcases hz with hz | hz | hz | hz | ((hz | hz) | hz)
    · exact .inl (.inl hz)
    · exact .inl (.inr (.inl hz))
    · exact .inl (.inr (.inr (.inl hz)))
    · exact .inl (.inr (.inr (.inr (.inl hz))))
    · exact .inr (by omega)
    · exact .inr (by omega)
    · exact .inl (.inr (.inr (.inr (.inr hz))))
theorem Tb.newLockL {t a b : Nat} {ml : MLk} {cl : Nat} {mp : MPt} {cp : Nat} {F1 F2 : Nat → Prop} {H : Heap} {nx : Nat} (h : Tb t a b ml cl mp cp F1 F2 H) (hu : ∀ b vo, H.at' b = some vo → b < nx) {k : ByteArray} {o : Nat} {l : List Nat} (hg : kget ml k = none) {H' : Heap} (e1 : H'.at' (nx + 1) = some (newCells 75 [.sc (.int .u64 (o : Int)), .slu nx 0 l.length])) (e2 : H'.at' nx = some (uR false l)) (hm : H'.at' a = some (lmV (kput ml k (nx + 1, (o, l)) cl) (kclk ml k cl))) (fr : ∀ z, z < nx → z ≠ a → H'.at' z = H.at' z) :
    Tb t a b (kput ml k (nx + 1, (o, l)) cl) (kclk ml k cl) mp cp (fun z => (z = nx + 1 ∨ z = nx) ∨ F1 z) F2 H' ∧ Step (All t a b F1 F2) (All t a b (fun z => (z = nx + 1 ∨ z = nx) ∨ F1 z) F2) H nx H' (nx + 1 + 1) := by
  obtain ⟨ut, ua, ub, u1, u2⟩ := h.lt hu
  have hne := h.ne
  refine ⟨h.addLock hg ⟨nx, e1, e2, by omega, fun z => Iff.rfl⟩ ⟨by omega, by omega, by omega, fun q => by have := u1 _ q; omega, fun q => by have := u2 _ q; omega⟩ ⟨by omega, by omega, by omega, fun q => by have := u1 _ q; omega, fun q => by have := u2 _ q; omega⟩ hm fun z hz => ?_, by omega, fun z hz => ?_, fun z hz hf => fr z hz fun e => hf (.inr (.inl e))⟩
  · rcases hz with rfl | rfl | hz | hz
    · exact fr _ ut hne.1
    · exact fr _ ub (Ne.symm hne.2.2)
    · exact fr _ (u1 _ hz) (h.d1 _ hz).2.1
    · exact fr _ (u2 _ hz) (h.d2 _ hz).2.1
  · rcases hz with hz | hz | hz | ((hz | hz) | hz) | hz
    · exact .inl (.inl hz)
    · exact .inl (.inr (.inl hz))
    · exact .inl (.inr (.inr (.inl hz)))
    · exact .inr (by omega)
    · exact .inr (by omega)
    · exact .inl (.inr (.inr (.inr (.inl hz))))
    · exact .inl (.inr (.inr (.inr (.inr hz))))
theorem Tb.frame2 {t a b : Nat} {ml : MLk} {cl : Nat} {mp : MPt} {cp : Nat} {F1 F2 : Nat → Prop} {H H' : Heap} (h : Tb t a b ml cl mp cp F1 F2 H) (hf : ∀ n, All t a b F1 F2 n → H'.at' n = H.at' n) : Tb t a b ml cl mp cp F1 F2 H' := ⟨(hf _ (.inl rfl)).trans h.tab, (hf _ (.inr (.inl rfl))).trans h.locks, (hf _ (.inr (.inr (.inl rfl)))).trans h.parties, h.okl, h.okp, Big.frame PL_frame _ _ _ _ h.bl fun z hz => hf _ (.inr (.inr (.inr (.inl hz)))), Big.frame PP_frame _ _ _ _ h.bp fun z hz => hf _ (.inr (.inr (.inr (.inr hz)))), h.ne, h.d1, h.d2⟩
def lOf : ByteArray × (Nat × (Nat × List Nat)) × Nat → ByteArray × (Nat × List Nat) := fun x => (x.1, x.2.1.2)
def pOf : Nat × (Nat × (List ByteArray × ByteArray)) × Nat → Nat × (List ByteArray × ByteArray) := fun x => (x.1, x.2.1.2)
theorem lOf_eq (ml : MLk) (mp : MPt) : (ltOf ml mp).locks = ml.map lOf := by
  show ((ml.map fun x => (x.1, x.2.1)).map fun x => (x.1, x.2.2)) = _
  rw [List.map_map]
  rfl
theorem pOf_eq (ml : MLk) (mp : MPt) : (ltOf ml mp).parties = mp.map pOf := by
  show ((mp.map fun x => (x.1, x.2.1)).map fun x => (x.1, x.2.2)) = _
  rw [List.map_map]
  rfl
set_option maxRecDepth 100000 in
set_option maxHeartbeats 0 in
theorem copy_t {t : Nat} {T : LT} {Fp : Nat → Prop} {H : Heap} {nx : Nat} (hT : TabAt t T Fp H) (hl : ∀ k, (T.line k).length < 2000000) (hk : ∀ o, (T.keys o).length < 2000000) : Fnc Try.prog 14 [.ptr t 0] H nx (fun q => ∃ c T' F', q.1 = .ptr c 0 ∧ TabAt c T' F' q.2.1 ∧ T'.locks.Perm T.locks ∧ T'.parties.Perm T.parties ∧ (∀ n, F' n → nx ≤ n ∧ n < q.2.2) ∧ nx ≤ q.2.2 ∧ ∀ n, n < nx → q.2.1.at' n = H.at' n) := by
  obtain ⟨a, b, ml, cl, mp, cp, F1, F2, h, rfl, hF⟩ := hT
  have hFp : Fp = All t a b F1 F2 := funext fun n => propext (hF n)
  subst hFp
  have htab := h.tab
  have hloc := h.locks
  have hpar := h.parties
  have hne := h.ne
  refine Fnc.start Try.func14 rfl rfl ?_
  refine y_under fun hund => ?_
  obtain ⟨ut, ua, ub, u1, u2⟩ := h.lt hund
  (repeat (first | (first | refine y_seq ?_ | refine w_region ?_ | refine y_regEnd ?_ | refine y_block ?_ | refine y_skip ?_ | refine y_condF rfl ?_ | refine w_move rfl rfl rfl ?_ | refine w_assign rfl rfl rfl ?_ | refine w_nilCheck rfl rfl rfl ?_ | refine w_fieldAddr rfl rfl rfl (F.fo _ _ rfl rfl) ?_ | refine w_loadB1 rfl rfl rfl (F.ag _ rfl) (by (focus ((repeat (refine (Tr.at_set_other _ _ (by omega)).trans ?_)); first | exact Tr.at_set_same _ _ _ | assumption))) (by exact rfl) ?_) | (refine w_call rfl rfl rfl (by kernel_rfl) (Fnc.mono (none_t htab) ?_); rintro _ rfl; dsimp only) | (refine w_call rfl rfl rfl (by kernel_rfl) (Fnc.mono (new_t) ?_); rintro _ rfl; dsimp only) | (refine w_range (b := a) (m := ml) (c := cl) (enc := kE) (val := lVal) rfl rfl rfl (F.un _ rfl) (by (focus ((repeat (refine (Tr.at_set_other _ _ (by omega)).trans ?_)); first | exact Tr.at_set_same _ _ _ | assumption))) ?_)))
  refine y_loopT (α := MLk) (fun _ => [(0, .ptr t 0), (3, .ptr (nx + 1 + 1) 0), (15, .ptr (nx + 1 + 1 + 1) 0)]) (fun done H1 nx1 => (done.Nodup ∧ ∀ x ∈ done, x ∈ ml) ∧ nx + 1 + 1 + 1 + 1 ≤ nx1 ∧ (∀ n, n < nx → H1.at' n = H.at' n) ∧ H1.at' (nx + 1 + 1 + 1) = some (itV a cl done) ∧ ∃ ml' cl' F1', Tb (nx + 1 + 1) nx (nx + 1) ml' cl' [] 0 F1' (fun _ => False) H1 ∧ ml'.map lOf = done.map lOf ∧ ∀ n, F1' n → nx + 1 + 1 + 1 + 1 ≤ n ∧ n < nx1) (fun done => ml.length - done.length) []
    ⟨⟨List.nodup_nil, fun _ h => by cases h⟩, Nat.le_refl _, fun n hn => by (focus ((repeat (refine (Tr.at_set_other _ _ (by omega)).trans ?_)); exact rfl)), by (focus (skip; first | exact Tr.at_set_same _ _ _ | assumption)), [], 0, fun _ => False, ⟨by (focus ((repeat (refine (Tr.at_set_other _ _ (by omega)).trans ?_)); first | exact Tr.at_set_same _ _ _ | assumption)), by (focus ((repeat (refine (Tr.at_set_other _ _ (by omega)).trans ?_)); first | exact Tr.at_set_same _ _ _ | assumption)), by (focus ((repeat (refine (Tr.at_set_other _ _ (by omega)).trans ?_)); first | exact Tr.at_set_same _ _ _ | assumption)), KOk.nil _, KOk.nil _, Big.nil, Big.nil, ⟨by omega, by omega, by omega⟩, fun n h => h.elim, fun n h => h.elim⟩, rfl, fun n h => h.elim⟩ (SlIn.sub (by repeat (first | exact trivial | refine ⟨rfl, ?_⟩))) ?_
  rintro done H1 nx1 ⟨hdn, hnx, hold, hit, ml1, cl1, G1, t1, hml, hG1⟩ again
  have hlen := nodup_le done ml hdn.1 hdn.2
  have hloc1 := (hold a ua).trans hloc
  (repeat (first | refine y_seq ?_ | refine w_region ?_))
  refine w_next (b := a) (m := ml) (c := cl) (enc := kE) (val := lVal) (done := done) rfl rfl rfl ?_ ?_ h.okl hdn ?_ ?_
  · (focus (skip; first | exact Tr.at_set_same _ _ _ | assumption))
  · (focus (skip; first | exact Tr.at_set_same _ _ _ | assumption))
  · intro hp
    have htab1 := (hold t ut).trans htab
    have hpar1 := (hold b ub).trans hpar
    (repeat (first | (first | refine y_seq ?_ | refine w_region ?_ | refine y_regEnd ?_ | refine y_block ?_ | refine y_exit rfl ?_ | refine y_condF rfl ?_ | refine w_move rfl rfl rfl ?_ | refine w_nilCheck rfl rfl rfl ?_ | refine w_fieldAddr rfl rfl rfl (F.fo _ _ rfl rfl) ?_ | refine w_extractV rfl rfl rfl rfl ?_ | refine w_loadB1 rfl rfl rfl (F.ag _ rfl) (by (focus (skip; first | exact Tr.at_set_same _ _ _ | assumption))) (by exact rfl) ?_) | (refine w_range (b := b) (m := mp) (c := cp) (enc := oE) (val := pVal) rfl rfl rfl (F.un _ rfl) (by (focus (skip; first | exact Tr.at_set_same _ _ _ | assumption))) ?_)))
    clear again hdn hlen hloc1 hit htab1 hpar1
    refine y_loopT (α := MPt) (fun _ => [(3, .ptr (nx + 1 + 1) 0), (41, .ptr nx1 0)]) (fun done2 H2 nx2 => (done2.Nodup ∧ ∀ x ∈ done2, x ∈ mp) ∧ nx1 + 1 ≤ nx2 ∧ (∀ n, n < nx → H2.at' n = H.at' n) ∧ H2.at' nx1 = some (itV b cp done2) ∧ ∃ mp' cp' F2', Tb (nx + 1 + 1) nx (nx + 1) ml1 cl1 mp' cp' G1 F2' H2 ∧ mp'.map pOf = done2.map pOf ∧ ∀ n, F2' n → nx1 + 1 ≤ n ∧ n < nx2) (fun done2 => mp.length - done2.length) []
      ⟨⟨List.nodup_nil, fun _ h => by cases h⟩, Nat.le_refl _, fun n hn => (Tr.at_set_other _ _ (by omega)).trans (hold n hn), by (focus (skip; first | exact Tr.at_set_same _ _ _ | assumption)), [], 0, fun _ => False, t1.frame2 (fun n hn => Tr.at_set_other _ _ (by
        rcases hn with q | q | q | q | q
        · omega
        · omega
        · omega
        · have := hG1 n q; omega
        · exact q.elim)), rfl, fun n h => h.elim⟩ (SlIn.sub (by repeat (first | exact trivial | refine ⟨rfl, ?_⟩))) ?_
    clear t1 hold
    rintro done2 H2 nx2 ⟨hdn, hnx2, hold, hit, mp1, cp1, K1, t1, hmp, hK1⟩ again
    have hlen := nodup_le done2 mp hdn.1 hdn.2
    have hpar2 := (hold b ub).trans hpar
    (repeat (first | refine y_seq ?_ | refine w_region ?_))
    refine w_next (b := b) (m := mp) (c := cp) (enc := oE) (val := pVal) (done := done2) rfl rfl rfl ?_ ?_ h.okp hdn ?_ ?_
    · (focus (skip; first | exact Tr.at_set_same _ _ _ | assumption))
    · (focus (skip; first | exact Tr.at_set_same _ _ _ | assumption))
    · intro hp2
      (repeat (first | refine y_seq ?_ | refine w_region ?_ | refine y_regEnd ?_ | refine y_exit rfl ?_ | refine y_condF rfl ?_ | refine w_move rfl rfl rfl ?_ | refine w_assign rfl rfl rfl ?_ | refine w_extractV rfl rfl rfl rfl ?_))
      ((apply w_ret Try.func14 (congrArg Array.toList Try.results14)); (focus (repeat (first | exact ResIs.nil | apply ResIs.tmp rfl))))
      refine ⟨nx + 1 + 1, ltOf ml1 mp1, _, rfl, ⟨nx, nx + 1, _, _, _, _, _, _, t1, rfl, fun _ => Iff.rfl⟩, ?_, ?_, fun n hn => ?_, by simp only; omega, hold⟩
      · rw [lOf_eq, lOf_eq, hml]
        exact hp.map lOf
      · rw [pOf_eq, pOf_eq, hmp]
        exact hp2.map pOf
      · simp only
        rcases hn with q | q | q | q | q
        · omega
        · omega
        · omega
        · have := hG1 n q; omega
        · have := hK1 n q; omega
    · rintro ⟨o, ⟨hn, ks, w⟩, st⟩ hx hnx hdn2
      refine y_under fun hund1 => ?_
      have hlen2 := nodup_le _ mp hdn2.1 hdn2.2
      have hg := kget_mem h.okp hx
      have hll : ks.length < 2000000 := by
        have := hk o
        rw [t_keys, hg] at this
        exact this
      obtain ⟨r, G, g1, g2, g3, _⟩ := h.party hg
      have g1l := hund _ _ g1
      have g2l := hund _ _ g2
      have g1' := (hold _ g1l).trans g1
      have g2' := (hold _ g2l).trans g2
      have ctab := t1.tab
      have cpar := t1.parties
      have hnew : kget mp1 o = none := by
        refine kget_new (done := done2) ?_ (fresh_key h.okp hx hdn.2 hnx)
        have := congrArg (List.map (·.1)) hmp
        rw [List.map_map, List.map_map] at this
        exact this
      (repeat (first | (first | refine y_seq ?_ | refine w_region ?_ | refine y_regEnd ?_ | refine y_block ?_ | refine y_skip ?_ | refine y_condT rfl ?_ | refine w_assign rfl rfl rfl ?_ | refine w_extract rfl rfl rfl rfl ?_) | (refine w_entry (b := b) (m := mp) (c := cp) (enc := oE) (val := pVal) (done := done2) (x := (o, ((hn, (ks, w)), st))) rfl rfl rfl (by (focus (skip; first | exact Tr.at_set_same _ _ _ | assumption))) (by (focus ((repeat (refine (Tr.at_set_other _ _ (by omega)).trans ?_)); first | exact Tr.at_set_same _ _ _ | assumption))) h.okp hx ?_)))
      dsimp only [pVal]
      refine w_draw (by kernel_rfl) (by kernel_rfl) ?_
      (repeat (first | (first | refine dw_move rfl rfl rfl ?_ | refine dw_nilCheck rfl rfl rfl ?_ | refine dw_fieldAddr rfl rfl rfl (F.fo _ _ rfl rfl) ?_ | refine dw_boxN rfl rfl rfl ?_ | refine dw_build rfl rfl rfl (F.ze _ rfl) (F.pl _ rfl) rfl ?_) | refine dw_loadB1 rfl rfl rfl (F.ag _ rfl) (by (focus ((repeat (refine (Tr.at_set_other _ _ (by omega)).trans ?_)); first | exact Tr.at_set_same _ _ _ | assumption))) (by exact rfl) ?_ | refine dk_call rfl rfl rfl (by kernel_rfl) (Fnc.next (clone_s ks (by (focus ((repeat (refine (Tr.at_set_other _ _ (by omega)).trans ?_)); first | exact Tr.at_set_same _ _ _ | assumption))) hll)) ?_ | refine dw_mapUp (m := mp1) (enc := oE) (val := pVal) (kk := o) (v := (nx2 + 1, (ks, w))) rfl rfl rfl (F.un _ rfl) (oK) (by first | exact rfl | (focus ((repeat (refine (Tr.at_set_other _ _ (by omega)).trans ?_)); first | exact Tr.at_set_same _ _ _ | assumption))) rfl ?_))
      (refine dk_nil ?_); (refine ⟨by kernel_rfl, ?_, ?_⟩); (focus (repeat (first | exact trivial | refine ⟨.inl rfl, ?_⟩ | refine ⟨.inr (by (repeat (refine ⟨(by first | exact rd_not rfl | exact rd_cmp rfl rfl (.inr (.inr (.inr (.inr (.inl ⟨rfl, rfl⟩))))) | exact rd_idxN (F.un _ rfl) (F.sz _ rfl) rfl rfl rfl (by omega) (by omega) (by omega) | exact rd_arith rfl rfl (.inl ⟨rfl, (Go.IntWalk.i64_in _ ⟨by omega, by omega⟩).symm⟩) | exact rd_arith rfl rfl (.inr (.inl ⟨rfl, (Go.IntWalk.i64_in _ ⟨by omega, by omega⟩).symm⟩)) | exact rd_fieldAddr (F.fo _ _ rfl rfl) rfl | exact rd_move rfl | exact rd_assign rfl | exact rd_load1 (F.ag _ rfl) rfl rfl (cell_box rfl) | exact rd_loadN (F.ag _ rfl) rfl rfl (cellsFrom_box _ 0 rfl rfl) | exact rd_extract rfl rfl | exact rd_lenSl (F.un _ rfl) rfl | exact rd_lenStr (F.un _ rfl) rfl | exact rd_nilCheck rfl | exact rd_pickT rfl rfl | exact rd_pickF rfl rfl | exact rd_load1 (F.ag _ rfl) rfl (by (focus ((repeat (refine (Tr.at_set_other _ _ (by omega)).trans ?_)); first | exact Tr.at_set_same _ _ _ | assumption))) (cell_box rfl) | exact rd_loadN (F.ag _ rfl) rfl (by (focus (skip; first | exact Tr.at_set_same _ _ _ | assumption))) (cellsFrom_box _ 0 rfl rfl) | exact rd_build rfl (F.ze _ rfl) (F.pl _ rfl) rfl), ?_⟩)); exact trivial), ?_⟩)))
      dsimp only [wrL]
      have t2 := t1.frame2 (H' := H2.set nx1 (itV b cp (done2 ++ [(o, ((hn, (ks, w)), st))]))) fun n hn => Tr.at_set_other _ _ (by
        rcases hn with q | q | q | q | q
        · omega
        · omega
        · omega
        · have := hG1 n q; omega
        · have := hK1 n q; omega)
      have t3 := t2.newPartyL hund1 (ks := ks) (w := w) hnew (H' := _) ((Tr.at_set_other _ _ (by omega)).trans (Tr.at_set_same _ _ _)) ((Tr.at_set_other _ _ (by omega)).trans ((Tr.at_set_other _ _ (by omega)).trans (Tr.at_set_same _ _ _))) (Tr.at_set_same _ _ _) (fun z hz hb => (Tr.at_set_other _ _ (by omega)).trans ((Tr.at_set_other _ _ (by omega)).trans (Tr.at_set_other _ _ (by omega))))
      (repeat (refine y_inBlock ?_))
      refine again _ _ _ (done2 ++ [(o, ((hn, (ks, w)), st))]) ⟨hdn2, by omega, fun n hn => (Tr.at_set_other _ _ (by omega)).trans ((Tr.at_set_other _ _ (by omega)).trans ((Tr.at_set_other _ _ (by omega)).trans ((Tr.at_set_other _ _ (by omega)).trans (hold n hn)))), (Tr.at_set_other _ _ (by omega)).trans ((Tr.at_set_other _ _ (by omega)).trans ((Tr.at_set_other _ _ (by omega)).trans (Tr.at_set_same _ _ _))), _, _, _, t3.1, ?_, fun n q => ?_⟩ ?_ (SlIn.sub (by repeat (first | exact trivial | refine ⟨rfl, ?_⟩)))
      · rw [kput_none hnew, List.map_append, List.map_append, hmp]
        rfl
      · rcases q with (q | q) | q
        · omega
        · omega
        · have := hK1 n q; omega
      · simp only [List.length_append, List.length_singleton] at hlen2 ⊢
        omega
  · rintro ⟨k, ⟨hn, ow, l⟩, st⟩ hx hnx hdn2
    refine y_under fun hund1 => ?_
    have hlen2 := nodup_le _ ml hdn2.1 hdn2.2
    have hg := kget_mem h.okl hx
    have hll : l.length < 2000000 := by
      have := hl k
      rw [t_line, hg] at this
      exact this
    obtain ⟨r, G, g1, g2, g3, _⟩ := h.lock hg
    have g1l := hund _ _ g1
    have g2l := hund _ _ g2
    have g1' := (hold _ g1l).trans g1
    have g2' := (hold _ g2l).trans g2
    have ctab := t1.tab
    have cloc := t1.locks
    have hnew : kget ml1 k = none := by
      refine kget_new (done := done) ?_ (fresh_key h.okl hx hdn.2 hnx)
      have := congrArg (List.map (·.1)) hml
      rw [List.map_map, List.map_map] at this
      exact this
    (repeat (first | (first | refine y_seq ?_ | refine w_region ?_ | refine y_regEnd ?_ | refine y_block ?_ | refine y_skip ?_ | refine y_condT rfl ?_ | refine w_assign rfl rfl rfl ?_ | refine w_extract rfl rfl rfl rfl ?_) | (refine w_entry (b := a) (m := ml) (c := cl) (enc := kE) (val := lVal) (done := done) (x := (k, ((hn, (ow, l)), st))) rfl rfl rfl (by (focus (skip; first | exact Tr.at_set_same _ _ _ | assumption))) (by (focus ((repeat (refine (Tr.at_set_other _ _ (by omega)).trans ?_)); first | exact Tr.at_set_same _ _ _ | assumption))) h.okl hx ?_)))
    dsimp only [lVal]
    refine w_draw (by kernel_rfl) (by kernel_rfl) ?_
    (repeat (first | (first | refine dw_move rfl rfl rfl ?_ | refine dw_nilCheck rfl rfl rfl ?_ | refine dw_fieldAddr rfl rfl rfl (F.fo _ _ rfl rfl) ?_ | refine dw_boxN rfl rfl rfl ?_ | refine dw_build rfl rfl rfl (F.ze _ rfl) (F.pl _ rfl) rfl ?_) | refine dw_loadB1 rfl rfl rfl (F.ag _ rfl) (by (focus ((repeat (refine (Tr.at_set_other _ _ (by omega)).trans ?_)); first | exact Tr.at_set_same _ _ _ | assumption))) (by exact rfl) ?_ | refine dk_call rfl rfl rfl (by kernel_rfl) (Fnc.next (clone_u l (by (focus ((repeat (refine (Tr.at_set_other _ _ (by omega)).trans ?_)); first | exact Tr.at_set_same _ _ _ | assumption))) hll)) ?_ | refine dw_mapUp (m := ml1) (enc := kE) (val := lVal) (kk := k) (v := (nx1 + 1, (ow, l))) rfl rfl rfl (F.un _ rfl) (kK) (by first | exact rfl | (focus ((repeat (refine (Tr.at_set_other _ _ (by omega)).trans ?_)); first | exact Tr.at_set_same _ _ _ | assumption))) rfl ?_))
    (refine dk_nil ?_); (refine ⟨by kernel_rfl, ?_, ?_⟩); (focus (repeat (first | exact trivial | refine ⟨.inl rfl, ?_⟩ | refine ⟨.inr (by (repeat (refine ⟨(by first | exact rd_not rfl | exact rd_cmp rfl rfl (.inr (.inr (.inr (.inr (.inl ⟨rfl, rfl⟩))))) | exact rd_idxN (F.un _ rfl) (F.sz _ rfl) rfl rfl rfl (by omega) (by omega) (by omega) | exact rd_arith rfl rfl (.inl ⟨rfl, (Go.IntWalk.i64_in _ ⟨by omega, by omega⟩).symm⟩) | exact rd_arith rfl rfl (.inr (.inl ⟨rfl, (Go.IntWalk.i64_in _ ⟨by omega, by omega⟩).symm⟩)) | exact rd_fieldAddr (F.fo _ _ rfl rfl) rfl | exact rd_move rfl | exact rd_assign rfl | exact rd_load1 (F.ag _ rfl) rfl rfl (cell_box rfl) | exact rd_loadN (F.ag _ rfl) rfl rfl (cellsFrom_box _ 0 rfl rfl) | exact rd_extract rfl rfl | exact rd_lenSl (F.un _ rfl) rfl | exact rd_lenStr (F.un _ rfl) rfl | exact rd_nilCheck rfl | exact rd_pickT rfl rfl | exact rd_pickF rfl rfl | exact rd_load1 (F.ag _ rfl) rfl (by (focus ((repeat (refine (Tr.at_set_other _ _ (by omega)).trans ?_)); first | exact Tr.at_set_same _ _ _ | assumption))) (cell_box rfl) | exact rd_loadN (F.ag _ rfl) rfl (by (focus (skip; first | exact Tr.at_set_same _ _ _ | assumption))) (cellsFrom_box _ 0 rfl rfl) | exact rd_build rfl (F.ze _ rfl) (F.pl _ rfl) rfl), ?_⟩)); exact trivial), ?_⟩)))
    dsimp only [wrL]
    have t2 := t1.frame2 (H' := H1.set (nx + 1 + 1 + 1) (itV a cl (done ++ [(k, ((hn, (ow, l)), st))]))) fun n hn => Tr.at_set_other _ _ (by
      rcases hn with q | q | q | q | q
      · omega
      · omega
      · omega
      · have := hG1 n q; omega
      · exact q.elim)
    have t3 := t2.newLockL hund1 (o := ow) (l := l) hnew (H' := _) ((Tr.at_set_other _ _ (by omega)).trans (Tr.at_set_same _ _ _)) ((Tr.at_set_other _ _ (by omega)).trans ((Tr.at_set_other _ _ (by omega)).trans (Tr.at_set_same _ _ _))) (Tr.at_set_same _ _ _) (fun z hz hb => (Tr.at_set_other _ _ (by omega)).trans ((Tr.at_set_other _ _ (by omega)).trans (Tr.at_set_other _ _ (by omega))))
    (repeat (refine y_inBlock ?_))
    refine again _ _ _ (done ++ [(k, ((hn, (ow, l)), st))]) ⟨hdn2, by omega, fun n hn => (Tr.at_set_other _ _ (by omega)).trans ((Tr.at_set_other _ _ (by omega)).trans ((Tr.at_set_other _ _ (by omega)).trans ((Tr.at_set_other _ _ (by omega)).trans (hold n hn)))), (Tr.at_set_other _ _ (by omega)).trans ((Tr.at_set_other _ _ (by omega)).trans ((Tr.at_set_other _ _ (by omega)).trans (Tr.at_set_same _ _ _))), _, _, _, t3.1, ?_, fun n q => ?_⟩ ?_ (SlIn.sub (by repeat (first | exact trivial | refine ⟨rfl, ?_⟩)))
    · rw [kput_none hnew, List.map_append, List.map_append, hml]
      rfl
    · rcases q with (q | q) | q
      · omega
      · omega
      · have := hG1 n q; omega
    · simp only [List.length_append, List.length_singleton] at hlen2 ⊢
      omega
end Go.Proofs.Ytckajlllkmkniaa
end
section
namespace Go.Sy
open Go Go.Sl Go.RowKit
section
variable {P : Program} {H : Heap} {T : Tr SV} {nx : Nat}
variable {d : Option Tmp} {ty : TypeId} {pos : String} {af : Array Edge} {gd : Option (Nat × Bool)}
theorem rd_head {t el : TypeId} {x : Operand} {hi : Option Operand} {b n h : Nat} {ro : Bool} {ne sz : Nat} {rt : TypeId} {c : Tr SV} (hu : P.underlying t = some (.slice el)) (hs : sizeT P el = some sz) (hx : evalS T x = some (.slu b 0 n)) (hb : H.at' b = some (.row ro ne sz rt c))
    (hh : BdIs T n hi h) (h2 : h ≤ ne) : ReadDoes P T H ⟨d, .slice t x none hi none, ty, pos, af, gd⟩ (.slu b 0 h) := by
  intro K w0 e nx w ev hS hE
  obtain ⟨y, hy, hv⟩ := conc_slu (hE x _ hx)
  obtain ⟨r1, r2, r3, r4⟩ := (hS.lies hb hy).row
  have hl : natOr T 0 none = some 0 := rfl
  have hbd := run_sliceBounds (P := P) (isS := true) (cap := y.cap - 0) (m := y.cap - 0) (mx := none) (hE.natOr hl) (hE.natOr hh) (.inl ⟨rfl, rfl⟩) (Nat.zero_le _) (by omega) (Nat.le_refl _) (.inr rfl) w
  rw [Option.map_none] at hbd
  refine ⟨.slice (y.at 0) h (y.cap - 0), by simp [SV.conc, hy], ?_⟩
  have hr : (Instr.sliceAt t (ev x) none (hi.map ev) none).run P w = .ok (.slice (y.at 0) h (y.cap - 0)) w := by
    rw [hv]
    rcases hS.lies hb hy with ⟨hxn, ob, _, hw, ho⟩ | ⟨hxn, hcap0, ro2, t2, c2, hrow, _⟩
    · rw [Ent.at_some hxn]
      simp only [Instr.sliceAt, Instr.slice, run_underlying hu, Sem.run_bind, Result.andThen, Sem.run_pure, Option.map_none, hbd, run_sizeT hs]
      by_cases hml : y.cap - 0 = 0
      · rw [if_pos hml]
        simp
      · rw [if_neg hml]
        simp [addr_add]
    · have hxa : y.at 0 = none := by unfold Ent.at; rw [hxn]; rfl
      injection hrow with g0 g1 g2 g3 g4
      have hh0 : h = 0 := by omega
      subst hh0
      simp only [Instr.sliceAt, Instr.slice, run_underlying hu, Sem.run_bind, Result.andThen, Sem.run_pure, Option.map_none, hbd, run_sizeT hs, hxa]
      simp [hcap0]
  simp only [execOp, Sem.run_bind, Option.map_none, hr, Result.andThen, Sem.run_pure]
end
section
variable {P : Program} {nt nx : Nat} {T : Tr SV} {H : Heap} {ops : Array Oper} {i : Nat} {l : List Oper} {ty : TypeId} {pos : String} {af : Array Edge} {gd : Option (Nat × Bool)} {K : DS → Prop} {rs : List Rec} {Hs : List (Heap × Nat)} {stg : Nat}
theorem dw_head {t el : TypeId} {x : Operand} {hi : Option Operand} {b n h : Nat} {rr : Bool} {ne sz : Nat} {rt : TypeId} {c : Tr SV} {dd : Nat} (hw : wantedS (onlyT T (needs ops.toList ⟨some dd, .slice t x none hi none, ty, pos, af, gd⟩)) ops ⟨some dd, .slice t x none hi none, ty, pos, af, gd⟩ = some true) (hd : Nat.blt dd nt = true) (hx : evalS (onlyT T (needs ops.toList ⟨some dd, .slice t x none hi none, ty, pos, af, gd⟩)) x = some (.slu b 0 n)) (hu : P.underlying t = some (.slice el)) (hs : sizeT P el = some sz) (hb : H.at' b = some (.row rr ne sz rt c)) (hh : BdIs (onlyT T (needs ops.toList ⟨some dd, .slice t x none hi none, ty, pos, af, gd⟩)) n hi h) (h2 : h ≤ ne)
    (hk : DrawK P nt ops (i + 1) l ⟨T.set dd (.slu b 0 h), H, nx, ⟨i, ⟨some dd, .slice t x none hi none, ty, pos, af, gd⟩, (onlyT T (needs ops.toList ⟨some dd, .slice t x none hi none, ty, pos, af, gd⟩)), stg, false, true, (.slu b 0 h)⟩ :: rs, Hs, stg⟩ K) : DrawK P nt ops i (⟨some dd, .slice t x none hi none, ty, pos, af, gd⟩ :: l) ⟨T, H, nx, rs, Hs, stg⟩ K :=
  dk_read hw hd (fun _ h => by cases h) (rd_head hu hs hx hb hh h2) hk
end
end Go.Sy
end
section
namespace Go.Proofs.Ytckajlllkmkniaa
open Go Go.Sy Go.Sl Go.RowKit
set_option maxRecDepth 100000 in
set_option maxHeartbeats 0 in
theorem texts_p {H : Heap} {nx r1 r2 : Nat} {a1 a2 : Bool} (xs zs : List ByteArray) (m : Nat) (h1 : H.at' r1 = some (sR a1 xs)) (h2 : H.at' r2 = some (sR a2 zs)) (hl : xs.length < 2000000) (hl2 : zs.length < 2000000) (hm : m ≤ zs.length) : Fnc Try.prog 17 [.slu r1 0 xs.length, .slu r2 0 m] H nx (fun q => q = (.sc (.bool (decide (xs = zs.take m))), H, nx)) := by
  refine Fnc.start Try.func17 rfl rfl ?_
  (repeat (first | refine y_seq ?_ | refine w_region ?_ | refine y_regEnd ?_ | refine w_move rfl rfl rfl ?_ | refine w_assign rfl rfl rfl ?_ | refine w_lenSl rfl rfl rfl (F.un _ rfl) ?_))
  refine w_neqS rfl rfl rfl rfl ?_ ?_
  all_goals intro h3
  · (repeat (first | refine y_seq ?_ | refine w_region ?_ | refine y_regEnd ?_ | refine y_condT rfl ?_ | refine w_assign rfl rfl rfl ?_))
    ((apply w_ret Try.func17 (congrArg Array.toList Try.results17)); (focus (repeat (first | exact ResIs.nil | apply ResIs.tmp rfl))))
    rw [decide_eq_false (fun e => h3 (by rw [e, List.length_take]; omega))]
    rfl
  have hle : xs.length = m := by omega
  (repeat (first | refine y_seq ?_ | refine w_region ?_ | refine y_regEnd ?_ | refine y_block ?_ | refine y_skip ?_ | refine y_condF rfl ?_ | refine w_assign rfl rfl rfl ?_))
  refine y_loopT (α := Nat) (fun i => [(0, .slu r1 0 xs.length), (1, .slu r2 0 m), (5, .sc (.int .i64 (i : Int)))]) (fun i H1 nx1 => H1 = H ∧ nx1 = nx ∧ i ≤ xs.length ∧ xs.take i = zs.take i) (fun i => xs.length - i) 0 ⟨rfl, rfl, Nat.zero_le _, rfl⟩ (SlIn.sub ⟨rfl, rfl, rfl, trivial⟩) ?_
  rintro i H1 nx1 ⟨rfl, rfl, hi, heq⟩ again
  (repeat (first | refine y_seq ?_ | refine w_region ?_ | refine w_move rfl rfl rfl ?_ | refine w_lenSl rfl rfl rfl (F.un _ rfl) ?_))
  refine w_lssS rfl rfl rfl rfl ?_ ?_
  all_goals intro h4
  · have hx : i < xs.length := by omega
    have hy : i < zs.length := by omega
    by_cases h5 : xs[i] = zs[i]
    all_goals have h6 : (xs[i] != zs[i]) = !(xs[i] == zs[i]) := rfl
    rotate_left
    all_goals (repeat (first | refine y_seq ?_ | refine y_regEnd ?_ | refine y_block ?_ | refine y_skip ?_ | refine y_condT rfl ?_))
    all_goals refine w_draw (by kernel_rfl) (by kernel_rfl) ?_
    all_goals (repeat (first | (refine dw_move rfl rfl rfl ?_) | refine dw_idxN (q := i) rfl rfl rfl rfl (F.un _ rfl) (F.sz _ rfl) (by (focus (skip; first | exact Tr.at_set_same _ _ _ | assumption))) (by omega) (by first | omega | (simp; done)) (Nat.le_refl _) ?_ | (refine dw_idxN (q := i) rfl rfl rfl rfl (F.un _ rfl) (F.sz _ rfl) (by (focus (skip; first | exact Tr.at_set_same _ _ _ | assumption))) (by omega) (by omega) hm ?_) | refine dw_loadD1 rfl rfl rfl (F.ag _ rfl) (by (focus (skip; first | exact Tr.at_set_same _ _ _ | assumption))) (at_s hx) (by first | omega | (simp; done)) ?_ | refine dw_loadD1 rfl rfl rfl (F.ag _ rfl) (by (focus (skip; first | exact Tr.at_set_same _ _ _ | assumption))) (at_s hy) (by first | omega | (simp; done)) ?_))
    · have h7 : (xs[i] == zs[i]) = false := by
        cases hq : (xs[i] == zs[i]) with
        | false => rfl
        | true => exact absurd ((MapKept.bytes_beq _ _).1 hq) h5
      rw [h7] at h6
      refine dw_neStrV rfl rfl rfl rfl h6 ?_
      (refine dk_nil ?_); (refine ⟨by kernel_rfl, ?_, ?_⟩); (focus (repeat (first | exact trivial | refine ⟨.inl rfl, ?_⟩)))
      dsimp only [wrL]
      (repeat (first | refine y_seq ?_ | refine w_region ?_ | refine y_regEnd ?_ | refine y_condT rfl ?_ | refine w_assign rfl rfl rfl ?_))
      ((apply w_ret Try.func17 (congrArg Array.toList Try.results17)); (focus (repeat (first | exact ResIs.nil | apply ResIs.tmp rfl))))
      rw [decide_eq_false (fun e => h5 (by subst e; exact List.getElem_take))]
      rfl
    · rw [(MapKept.bytes_beq _ _).2 h5] at h6
      refine dw_neStrV rfl rfl rfl rfl h6 ?_
      (refine dk_nil ?_); (refine ⟨by kernel_rfl, ?_, ?_⟩); (focus (repeat (first | exact trivial | refine ⟨.inl rfl, ?_⟩)))
      dsimp only [wrL]
      (repeat (first | refine w_region ?_ | refine y_regEnd ?_ | refine y_inBlock ?_ | refine y_skip ?_ | refine y_condF rfl ?_ | refine w_move rfl rfl rfl ?_ | refine w_assign rfl rfl rfl ?_ | refine w_add rfl rfl rfl rfl (by omega) (by omega) ?_))
      refine again _ _ _ (i + 1) ⟨rfl, rfl, hx, take_more hx hy heq h5⟩ (by omega) (SlIn.sub (by repeat (first | exact trivial | refine ⟨rfl, ?_⟩)))
  · (repeat (first | refine y_seq ?_ | refine w_region ?_ | refine y_regEnd ?_ | refine y_exit rfl ?_ | refine y_condF rfl ?_ | refine w_assign rfl rfl rfl ?_))
    ((apply w_ret Try.func17 (congrArg Array.toList Try.results17)); (focus (repeat (first | exact ResIs.nil | apply ResIs.tmp rfl))))
    rw [List.take_of_length_le (by omega)] at heq
    rw [show i = m by omega] at heq
    rw [decide_eq_true heq]
    rfl
theorem texts_y {H : Heap} {nx r1 r2 : Nat} {a1 a2 : Bool} (xs zs : List ByteArray) (m : Nat) (h1 : H.at' r1 = some (sR a1 xs)) (h2 : H.at' r2 = some (sR a2 zs)) (hl : xs.length < 2000000) (hl2 : zs.length < 2000000) (hm : m ≤ zs.length) (he : xs = zs.take m) : Fnc Try.prog 17 [.slu r1 0 xs.length, .slu r2 0 m] H nx (fun q => q = (.sc (.bool true), H, nx)) := by
  have := texts_p (nx := nx) xs zs m h1 h2 hl hl2 hm
  rw [decide_eq_true he] at this
  exact this
theorem LT.Fine.act {T : LT} {N : Nat} (H : T.Fine N) (hN : N < 900) (x : ActT) : T.actOk x ∧ (T.act x).1.Fine (N + 1) := by
  have hb := fun o mark => H.backOk (by omega) o mark
  have hb2 := fun o mark => H.back (by omega) o mark
  have h1 := H.wf.keys_le
  have h2 := H.szL
  refine ⟨⟨H.askOk hN _ _, ⟨by have := h1 x.2.1; omega, (hb _ _).2⟩, ⟨by have := h1 x.2.1; omega, (hb _ _).2⟩⟩, ?_⟩
  unfold LT.act
  split
  · exact H.ask _ _
  · split
    · exact (hb2 _ _).mono (Nat.le_succ _)
    · split
      · exact (hb2 _ _).mono (Nat.le_succ _)
      · exact H.mono (Nat.le_succ _)
theorem not_much {a : Array ActT} {m : Nat} (h : muchA a (m : Int) = false) : a.size ≤ m ∧ ∀ x ∈ a.toList, x.2.2.1.size ≤ 300 := by
  unfold muchA at h
  rw [Bool.or_eq_false_iff] at h
  have h1 : a.size ≤ m := by have := of_decide_eq_false h.2; omega
  refine ⟨h1, fun x hx => ?_⟩
  have h2 := h.1
  rw [List.take_of_length_le (by rw [Array.length_toList]; omega), List.any_eq_false] at h2
  have := h2 x hx
  simpa using this
set_option maxRecDepth 100000 in
set_option maxHeartbeats 0 in
theorem marks_s {H : Heap} {nx r : Nat} {ro : Bool} (a : Array ActT) (o : Nat) (mk : Int) (hr : H.at' r = some (actR ro a)) (ha : a.size ≤ 9223372036854775807) : Fnc Try.prog 3 [.slu r 0 a.size, .sc (.int .u64 (o : Int)), .sc (.int .i64 mk)] H nx (fun q => q.1 = .sc (.bool true)) := by
  refine Fnc.start Try.func3 rfl rfl ?_
  refine y_under fun hund => ?_
  have hrl := hund _ _ hr
  (repeat (first | (first | refine y_seq ?_ | refine w_region ?_ | refine y_regEnd ?_ | refine w_move rfl rfl rfl ?_ | refine w_assign rfl rfl rfl ?_) | (refine w_call rfl rfl rfl (by kernel_rfl) (Fnc.mono (much_s a 100 hr ha) ?_); rintro _ rfl; dsimp only)))
  cases hm : muchA a 100 with
  | true =>
    (repeat (first | (first | refine y_seq ?_ | refine w_region ?_ | refine y_regEnd ?_ | refine y_condT rfl ?_ | refine w_assign rfl rfl rfl ?_) | (refine w_call rfl rfl rfl (by kernel_rfl) (Fnc.mono known_f ?_); rintro ⟨_, Hk, nk⟩ ⟨rfl, hk1, hk2⟩; dsimp only at hk1 hk2 ⊢)))
    ((apply w_ret Try.func3 (congrArg Array.toList Try.results3)); (focus (repeat (first | exact ResIs.nil | apply ResIs.tmp rfl))))
    rfl
  | false =>
    obtain ⟨hsz, hks⟩ := not_much (m := 100) hm
    (repeat (first | (first | refine y_seq ?_ | refine w_region ?_ | refine y_regEnd ?_ | refine y_block ?_ | refine y_skip ?_ | refine y_condF rfl ?_ | refine w_move rfl rfl rfl ?_ | refine w_assign rfl rfl rfl ?_ | refine w_eqNil rfl rfl rfl rfl (F.un _ rfl) rfl ?_) | (refine w_call rfl rfl rfl (by kernel_rfl) (Fnc.mono (new_t) ?_); rintro _ rfl; dsimp only)))
    refine y_loopT (α := Nat × LT) (fun x => [(0, .slu r 0 a.size), (1, .sc (.int .u64 (o : Int))), (2, .sc (.int .i64 mk)), (7, .ptr (nx + 1 + 1) 0), (8, .sc (.int .i64 (x.1 : Int)))]) (fun x H1 nx1 => x.1 ≤ a.size ∧ x.2.Fine x.1 ∧ (∃ Fo, TabAt (nx + 1 + 1) x.2 Fo H1 ∧ ∀ n, Fo n → nx ≤ n) ∧ nx ≤ nx1 ∧ ∀ n, n < nx → H1.at' n = H.at' n) (fun x => a.size - x.1) (0, LT.empty) ⟨Nat.zero_le _, LT.Fine.empty, ⟨_, new_at, fun n hn => by omega⟩, by omega, fun n hn => by (focus ((repeat (refine (Tr.at_set_other _ _ (by omega)).trans ?_)); exact rfl))⟩ (SlIn.sub (by repeat (first | exact trivial | refine ⟨rfl, ?_⟩))) ?_
    rintro ⟨i, T⟩ H1 nx1 ⟨hi, hT, ⟨Fo, hF, hFn⟩, hle, hold⟩ again
    simp only at hi hT hF hFn again ⊢
    have hr1 := (hold _ hrl).trans hr
    (repeat (first | refine y_seq ?_ | refine w_region ?_ | refine w_move rfl rfl rfl ?_ | refine w_lenSl rfl rfl rfl (F.un _ rfl) ?_))
    refine w_lssS rfl rfl rfl rfl ?_ ?_
    all_goals intro h1
    · have hi' : i < a.size := by omega
      have hmem : a[i]! ∈ a.toList := by rw [getElem!_pos a i hi']; exact Array.getElem_mem_toList hi'
      have hkx := hks _ hmem
      obtain ⟨hok, hFi⟩ := hT.act (by omega) (a[i]!)
      (repeat (first | (first | refine y_seq ?_ | refine w_region ?_ | refine y_regEnd ?_ | refine y_block ?_ | refine y_skip ?_ | refine y_condT rfl ?_ | refine w_move rfl rfl rfl ?_) | refine w_idxN (q := i) rfl rfl rfl rfl (F.un _ rfl) (F.sz _ rfl) (by (focus (skip; first | exact Tr.at_set_same _ _ _ | assumption))) (by omega) (by first | omega | (simp; done)) (Nat.le_refl _) ?_ | (refine w_ldR rfl rfl rfl (F.ag _ rfl) (recA) (by (focus (skip; first | exact Tr.at_set_same _ _ _ | assumption))) (by omega) (by omega) ?_)))
      refine w_call rfl rfl rfl (by kernel_rfl) (Fnc.mono (do_t hF (a[i]!) hok (by omega)) ?_)
      rintro ⟨_, H2, n2⟩ ⟨r2, rfl, q1, q2, q3, F2, q4, q5, q6⟩
      dsimp only at q1 q2 q3 q4 q5 q6 ⊢
      (repeat (first | refine w_region ?_ | refine y_regEnd ?_ | refine y_inBlock ?_ | refine w_move rfl rfl rfl ?_ | refine w_assign rfl rfl rfl ?_ | refine w_add rfl rfl rfl rfl (by omega) (by omega) ?_))
      refine again _ _ _ (i + 1, (T.act (a[i]!)).1) ⟨hi', hFi, ⟨F2, q4, fun n hn => ?_⟩, Nat.le_trans hle q6.1, fun n hn => (q6.2.2 n (by omega) fun q => ?_).trans (hold n hn)⟩ (by simp only; omega) (SlIn.sub (by repeat (first | exact trivial | refine ⟨rfl, ?_⟩)))
      · rcases q6.2.1 n hn with q | q
        · exact hFn n q
        · omega
      · have := hFn n q; omega
    · clear again
      have hN : i < 900 := by omega
      have hk1 := hT.wf.keys_le
      have hs1 := hT.szL
      have hl1 := hT.wf.line_le
      have hs2 := hT.szP
      refine y_under fun hund1 => ?_
      have hFl := hF.lt hund1
      (repeat (first | refine y_seq ?_ | refine w_region ?_ | refine y_regEnd ?_ | refine y_exit rfl ?_ | refine y_condF rfl ?_ | refine w_move rfl rfl rfl ?_))
      refine w_call rfl rfl rfl (by kernel_rfl) (Fnc.mono (keys_t hF o (by have := hk1 o; omega)) ?_)
      rintro ⟨_, H2, n2⟩ ⟨r1, rfl, q1, q2, q3, q4, q5⟩
      dsimp only at q1 q3 q4 q5 ⊢
      have hF2 : TabAt (nx + 1 + 1) T Fo H2 := hF.frame fun n hn => q5 n (hFl n hn)
      (repeat (first | (first | refine y_seq ?_ | refine w_region ?_ | refine y_regEnd ?_ | refine w_move rfl rfl rfl ?_ | refine w_assign rfl rfl rfl ?_) | (refine w_call rfl rfl rfl (by kernel_rfl) (Fnc.mono (len_t hF2) ?_); rintro _ rfl; dsimp only)))
      refine w_call rfl rfl rfl (by kernel_rfl) (Fnc.mono (copy_t hF2 (fun k => by have := hl1 k; omega) (fun o => by have := hk1 o; omega)) ?_)
      rintro ⟨_, H3, n3⟩ ⟨c, T', F', rfl, p1, p2, p3, p4, p5, p6⟩
      dsimp only at p1 p4 p5 p6 ⊢
      have hF3 : TabAt (nx + 1 + 1) T Fo H3 := hF2.frame fun n hn => p6 n (by have := hFl n hn; omega)
      have hr3 := (p6 r1 q3).trans q1
      have hlike : T'.Like T := ⟨p2, p3⟩
      have hT' := hlike.fine hT
      have hke := hlike.keys hT
      have hli := hlike.line hT
      have hll := p2.length_eq
      have hb := hT'.backOk (by omega : i < 900000) o mk
      have hk3 := hT'.wf.keys_le
      have hs3 := hT'.szL
      (repeat (first | refine y_seq ?_ | refine w_region ?_ | refine y_regEnd ?_ | refine w_move rfl rfl rfl ?_ | refine w_assign rfl rfl rfl ?_))
      refine w_call rfl rfl rfl (by kernel_rfl) (Fnc.mono (back_t p1 o mk ⟨by have := hk3 o; omega, hb.2⟩) ?_)
      rintro ⟨_, H4, n4⟩ ⟨r2, rfl, b1, b2, b3, F4, b4, b5, b6⟩
      dsimp only at b1 b2 b3 b4 b5 b6 ⊢
      have hout : ∀ n, n < n2 → ¬ F' n := fun n hn q => by have := (p4 n q).1; omega
      have hF4 : TabAt (nx + 1 + 1) T Fo H4 := hF3.frame fun n hn => b6.2.2 n (by have := hFl n hn; omega) (hout n (by have := hFl n hn; omega))
      have hr4 := (b6.2.2 r1 (by omega) (hout r1 q3)).trans hr3
      have bad : (o = 0 ∨ mk < 0 ∨ ((T.keys o).length : Int) < mk) → T'.back o mk = (T', [], 2) := fun h => by
        unfold LT.back
        rw [if_pos (by rw [hke]; exact h)]
      clear hF hF2 hF3 hr3 q1 p6 q5 hr1 hold p1 hb hund hund1
      (repeat (first | refine y_seq ?_ | refine w_region ?_ | refine y_regEnd ?_ | refine w_move rfl rfl rfl ?_ | refine w_assign rfl rfl rfl ?_ | refine w_extract rfl rfl rfl rfl ?_))
      refine w_eqlS rfl rfl rfl rfl ?_ ?_
      all_goals intro h2
      · rw [bad (.inl (by omega))] at b1 b4 ⊢
        (repeat (first | (first | refine y_seq ?_ | refine w_region ?_ | refine y_regEnd ?_ | refine y_condT rfl ?_ | refine w_move rfl rfl rfl ?_ | refine w_assign rfl rfl rfl ?_ | refine w_pickT rfl rfl rfl rfl ?_ | refine w_not rfl ?_ | refine w_lenSl rfl rfl rfl (F.un _ rfl) ?_) | (refine w_call rfl rfl rfl (by kernel_rfl) (Fnc.mono (num_s _) ?_); rintro _ rfl; dsimp only) | (refine w_call rfl rfl rfl (by kernel_rfl) (Fnc.mono (len_t b4) ?_); rintro _ rfl; dsimp only) | (refine w_call rfl rfl rfl (by kernel_rfl) (Fnc.mono known_f ?_); rintro ⟨_, Hk, nk⟩ ⟨rfl, hk1, hk2⟩; dsimp only at hk1 hk2 ⊢) | (refine w_eqlS rfl rfl rfl rfl (fun _ => ?_) (fun hq => absurd (by first | rfl | omega) hq))))
        ((apply w_ret Try.func3 (congrArg Array.toList Try.results3)); (focus (repeat (first | exact ResIs.nil | apply ResIs.tmp rfl))))
        rfl
      (repeat (refine w_move rfl rfl rfl ?_))
      refine w_lssS rfl rfl rfl rfl ?_ ?_
      all_goals intro h3
      · rw [bad (.inr (.inl (by omega)))] at b1 b4 ⊢
        (repeat (first | (first | refine y_seq ?_ | refine w_region ?_ | refine y_regEnd ?_ | refine y_condT rfl ?_ | refine w_move rfl rfl rfl ?_ | refine w_assign rfl rfl rfl ?_ | refine w_pickT rfl rfl rfl rfl ?_ | refine w_pickF rfl rfl rfl rfl ?_ | refine w_not rfl ?_ | refine w_lenSl rfl rfl rfl (F.un _ rfl) ?_) | (refine w_call rfl rfl rfl (by kernel_rfl) (Fnc.mono (num_s _) ?_); rintro _ rfl; dsimp only) | (refine w_call rfl rfl rfl (by kernel_rfl) (Fnc.mono (len_t b4) ?_); rintro _ rfl; dsimp only) | (refine w_call rfl rfl rfl (by kernel_rfl) (Fnc.mono known_f ?_); rintro ⟨_, Hk, nk⟩ ⟨rfl, hk1, hk2⟩; dsimp only at hk1 hk2 ⊢) | (refine w_eqlS rfl rfl rfl rfl (fun _ => ?_) (fun hq => absurd (by first | rfl | omega) hq))))
        ((apply w_ret Try.func3 (congrArg Array.toList Try.results3)); (focus (repeat (first | exact ResIs.nil | apply ResIs.tmp rfl))))
        rfl
      (repeat (first | refine w_move rfl rfl rfl ?_ | refine w_pickF rfl rfl rfl rfl ?_ | refine w_lenSl rfl rfl rfl (F.un _ rfl) ?_))
      refine w_gtrS rfl rfl rfl rfl ?_ ?_
      all_goals intro h4
      · rw [bad (.inr (.inr (by omega)))] at b1 b4 ⊢
        (repeat (first | (first | refine y_seq ?_ | refine w_region ?_ | refine y_regEnd ?_ | refine y_condT rfl ?_ | refine w_move rfl rfl rfl ?_ | refine w_assign rfl rfl rfl ?_ | refine w_pickT rfl rfl rfl rfl ?_ | refine w_pickF rfl rfl rfl rfl ?_ | refine w_lenSl rfl rfl rfl (F.un _ rfl) ?_) | (refine w_call rfl rfl rfl (by kernel_rfl) (Fnc.mono (num_s _) ?_); rintro _ rfl; dsimp only) | (refine w_call rfl rfl rfl (by kernel_rfl) (Fnc.mono (len_t b4) ?_); rintro _ rfl; dsimp only) | (refine w_call rfl rfl rfl (by kernel_rfl) (Fnc.mono known_f ?_); rintro ⟨_, Hk, nk⟩ ⟨rfl, hk1, hk2⟩; dsimp only at hk1 hk2 ⊢) | (refine w_eqlS rfl rfl rfl rfl (fun _ => ?_) (fun hq => absurd (by first | rfl | omega) hq))))
        ((apply w_ret Try.func3 (congrArg Array.toList Try.results3)); (focus (repeat (first | exact ResIs.nil | apply ResIs.tmp rfl))))
        rfl
      obtain ⟨m, rfl⟩ : ∃ m : Nat, mk = (m : Int) := ⟨mk.toNat, by omega⟩
      obtain ⟨m1, m2, m3, m4, m5⟩ := hT'.marks (by omega) o m (by omega) (by rw [hke]; omega)
      clear bad
      generalize hB : T'.back o (m : Int) = B at *
      obtain ⟨T2, came, e⟩ := B
      simp only at m1 m2 m3 m4 m5 b1 b4 ⊢
      subst m1
      rw [hke] at m2 m3 m4
      have hmk : m ≤ (T.keys o).length := by omega
      have hko := hk1 o
      have hk2 : (T2.keys o).length < 2000000 := by rw [m2, List.length_take]; omega
      have htx : decide (T2.keys o = (T.keys o).take m) = true := decide_eq_true m2
      (repeat (first | refine y_seq ?_ | refine y_regEnd ?_ | refine y_skip ?_ | refine y_condF rfl ?_ | refine w_pickF rfl rfl rfl rfl ?_))
      have hT2 : T2.Fine i := by
        have := hT'.back (by omega : i < 900000) o (m : Int)
        rw [hB] at this
        exact this
      have hs4 := hT2.szL
      have hb4n : ∀ n, F4 n → n2 ≤ n := fun n hn => by
        rcases b6.2.1 n hn with q | q
        · exact (p4 n q).1
        · omega
      generalize hhad : T.keys o = had at hr4 m2 m3 m4 hmk hko h4 ⊢
      clear hhad htx hB hT' hk3 hs3 hk1
      refine y_under fun hund4 => ?_
      have hF4l := hF4.lt hund4
      have hb4l := b4.lt hund4
      clear hund4
      refine w_draw (by kernel_rfl) (by kernel_rfl) ?_
      (repeat (first | (first | refine dw_move rfl rfl rfl ?_ | refine dw_pickF rfl rfl rfl rfl ?_ | refine dw_lenSl rfl rfl rfl (F.un _ rfl) ?_ | refine dw_add rfl rfl rfl rfl (by omega) (by omega) ?_ | refine dw_sub rfl rfl rfl rfl (by omega) (by omega) ?_ | refine dw_notB rfl rfl rfl ?_) | (refine dk_call rfl rfl rfl (by kernel_rfl) (num_s _) ?_) | (refine dw_neqS rfl rfl rfl rfl (fun hq => absurd (by first | rfl | omega) hq) (fun _ => ?_)) | (refine dk_call rfl rfl rfl (by kernel_rfl) (Fnc.next (keys_t b4 o hk2)) ?_) | (refine dk_call rfl rfl rfl (by kernel_rfl) (texts_y (a1 := false) (a2 := false) (T2.keys o) had m (by (focus (skip; first | exact Tr.at_set_same _ _ _ | assumption))) (by (focus ((repeat (refine (Tr.at_set_other _ _ (by omega)).trans ?_)); first | exact Tr.at_set_same _ _ _ | assumption))) hk2 (by omega) hmk m2) ?_) | (refine dk_call rfl rfl rfl (by kernel_rfl) (len_t (b4.frame fun n hn => by have := hb4l n hn; have := hb4n n hn; (focus ((repeat (refine (Tr.at_set_other _ _ (by omega)).trans ?_)); exact rfl)))) ?_) | (refine dw_head (h := m) rfl rfl rfl (F.un _ rfl) (F.sz _ rfl) (by (focus ((repeat (refine (Tr.at_set_other _ _ (by omega)).trans ?_)); first | exact Tr.at_set_same _ _ _ | assumption))) (bdN rfl rfl) hmk ?_)))
      (refine dk_nil ?_); (refine ⟨by kernel_rfl, ?_, ?_⟩); (focus (repeat (first | exact trivial | refine ⟨.inl rfl, ?_⟩ | refine ⟨.inr (by (repeat (refine ⟨(by first | exact rd_not rfl | exact rd_cmp rfl rfl (.inr (.inr (.inr (.inr (.inl ⟨rfl, rfl⟩))))) | exact rd_idxN (F.un _ rfl) (F.sz _ rfl) rfl rfl rfl (by omega) (by omega) (by omega) | exact rd_arith rfl rfl (.inl ⟨rfl, (Go.IntWalk.i64_in _ ⟨by omega, by omega⟩).symm⟩) | exact rd_arith rfl rfl (.inr (.inl ⟨rfl, (Go.IntWalk.i64_in _ ⟨by omega, by omega⟩).symm⟩)) | exact rd_fieldAddr (F.fo _ _ rfl rfl) rfl | exact rd_move rfl | exact rd_assign rfl | exact rd_load1 (F.ag _ rfl) rfl rfl (cell_box rfl) | exact rd_loadN (F.ag _ rfl) rfl rfl (cellsFrom_box _ 0 rfl rfl) | exact rd_extract rfl rfl | exact rd_lenSl (F.un _ rfl) rfl | exact rd_lenStr (F.un _ rfl) rfl | exact rd_nilCheck rfl | exact rd_pickT rfl rfl | exact rd_pickF rfl rfl | exact rd_load1 (F.ag _ rfl) rfl (by (focus (skip; first | exact Tr.at_set_same _ _ _ | assumption))) (cell_box rfl) | exact rd_loadN (F.ag _ rfl) rfl (by (focus (skip; first | exact Tr.at_set_same _ _ _ | assumption))) (cellsFrom_box _ 0 rfl rfl) | exact rd_build rfl (F.ze _ rfl) (F.pl _ rfl) rfl | exact rd_head (F.un _ rfl) (F.sz _ rfl) rfl (by (focus ((repeat (refine (Tr.at_set_other _ _ (by omega)).trans ?_)); first | exact Tr.at_set_same _ _ _ | assumption))) (bdN rfl rfl) (by omega)), ?_⟩)); exact trivial), ?_⟩ | refine ⟨.inl (by kernel_rfl), ?_⟩)))
      dsimp only [wrL]
      (repeat (first | refine y_seq ?_ | refine w_region ?_ | refine y_regEnd ?_ | refine y_block ?_ | refine y_skip ?_ | refine y_condF rfl ?_ | refine w_move rfl rfl rfl ?_ | refine w_assign rfl rfl rfl ?_))
      refine y_gen (R := fun H5 n5 => TabAt (nx + 1 + 1) T Fo H5 ∧ TabAt c T2 F4 H5 ∧ (∀ n, Fo n → n < n5) ∧ (∀ n, F4 n → n < n5) ∧ H5.at' r1 = some (sR false had) ∧ r1 < n5) ⟨hF4.frame fun n hn => by have := hF4l n hn; have := hFl n hn; (focus ((repeat (refine (Tr.at_set_other _ _ (by omega)).trans ?_)); exact rfl)), b4.frame fun n hn => by have := hb4l n hn; have := hb4n n hn; (focus ((repeat (refine (Tr.at_set_other _ _ (by omega)).trans ?_)); exact rfl)), fun n hn => by have := hF4l n hn; omega, fun n hn => by have := hb4l n hn; omega, by (focus ((repeat (refine (Tr.at_set_other _ _ (by omega)).trans ?_)); first | exact Tr.at_set_same _ _ _ | assumption)), by omega⟩ ?_
      rintro H5 n5 ⟨g1, g2, g3, g4, g5, g6⟩
      clear hF4 b4 hr4 b1 b2 b3 b5 b6 hb4n hout hF4l hb4l
      refine y_loopT (α := Nat) (fun j => [(1, .sc (.int .u64 (o : Int))), (7, .ptr (nx + 1 + 1) 0), (9, .slu r1 0 had.length), (11, .ptr c 0), (14, .sc (.int .i64 (j : Int)))]) (fun j H6 n6 => m ≤ j ∧ j ≤ had.length ∧ TabAt (nx + 1 + 1) T Fo H6 ∧ TabAt c T2 F4 H6 ∧ (∀ n, Fo n → n < n6) ∧ (∀ n, F4 n → n < n6) ∧ H6.at' r1 = some (sR false had) ∧ r1 < n6) (fun j => had.length - j) m ⟨Nat.le_refl _, hmk, g1, g2, g3, g4, g5, g6⟩ (SlIn.sub (by repeat (first | exact trivial | refine ⟨rfl, ?_⟩))) ?_
      clear g1 g2 g3 g4 g5 g6
      rintro j H6 n6 ⟨e1, e2, g1, g2, g3, g4, g5, g6⟩ again
      (repeat (first | refine y_seq ?_ | refine w_region ?_ | refine w_move rfl rfl rfl ?_ | refine w_lenSl rfl rfl rfl (F.un _ rfl) ?_))
      refine w_lssS rfl rfl rfl rfl ?_ ?_
      all_goals intro h5
      · have hj : j < had.length := by omega
        have hr6 := g5
        have hkd : had[j] ∈ had.drop m := by
          rw [List.mem_drop_iff_getElem]
          exact ⟨j - m, by omega, by simp [show m + (j - m) = j by omega]⟩
        have hhas := m4 _ hkd
        rw [hli] at hhas
        have hll2 := hl1 had[j]
        (repeat (first | (first | refine y_seq ?_ | refine w_region ?_ | refine y_regEnd ?_ | refine y_block ?_ | refine y_skip ?_ | refine y_condT rfl ?_ | refine w_move rfl rfl rfl ?_ | refine w_assign rfl rfl rfl ?_) | refine w_idxN (q := j) rfl rfl rfl rfl (F.un _ rfl) (F.sz _ rfl) (by (focus (skip; first | exact Tr.at_set_same _ _ _ | assumption))) (by omega) (by first | omega | (simp; done)) (Nat.le_refl _) ?_ | refine w_loadD1 rfl rfl rfl (F.ag _ rfl) (by (focus (skip; first | exact Tr.at_set_same _ _ _ | assumption))) (at_s hj) (by first | omega | (simp; done)) ?_))
        refine w_call rfl rfl rfl (by kernel_rfl) (Fnc.mono (line_t g1 had[j] (by omega)) ?_)
        rintro ⟨_, H7, n7⟩ ⟨r3, rfl, f1, f2, f3, f4, f5⟩
        dsimp only at f1 f3 f4 f5 ⊢
        have k1 : TabAt (nx + 1 + 1) T Fo H7 := g1.frame fun n hn => f5 n (g3 n hn)
        have k2 : TabAt c T2 F4 H7 := g2.frame fun n hn => f5 n (g4 n hn)
        have k5 : H7.at' r1 = some (sR false had) := (f5 r1 g6).trans hr6
        generalize T.line had[j] = ln at f1 hhas hll2 ⊢
        cases ln with
        | nil =>
          have hh : T2.has had[j] = 0 := hhas
          (repeat (first | (first | refine y_seq ?_ | refine w_region ?_ | refine y_regEnd ?_ | refine y_inBlock ?_ | refine y_skip ?_ | refine y_condF rfl ?_ | refine w_move rfl rfl rfl ?_ | refine w_assign rfl rfl rfl ?_ | refine w_lenSl rfl rfl rfl (F.un _ rfl) ?_ | refine w_add rfl rfl rfl rfl (by omega) (by omega) ?_) | (refine w_gtrS rfl rfl rfl rfl (fun hq => absurd hq (by decide)) (fun _ => ?_)) | refine w_idxN (q := j) rfl rfl rfl rfl (F.un _ rfl) (F.sz _ rfl) (by (focus (skip; first | exact Tr.at_set_same _ _ _ | assumption))) (by omega) (by first | omega | (simp; done)) (Nat.le_refl _) ?_ | refine w_loadD1 rfl rfl rfl (F.ag _ rfl) (by (focus (skip; first | exact Tr.at_set_same _ _ _ | assumption))) (at_s hj) (by first | omega | (simp; done)) ?_ | (refine w_call rfl rfl rfl (by kernel_rfl) (Fnc.mono (has_t k2 had[j]) ?_); rintro _ rfl; dsimp only) | (refine w_neqS rfl rfl rfl rfl (fun hq => absurd (by omega) hq) (fun _ => ?_))))
          refine again _ _ _ (j + 1) ⟨by omega, by omega, k1, k2, fun n hn => by have := g3 n hn; omega, fun n hn => by have := g4 n hn; omega, k5, by omega⟩ (by omega) (SlIn.sub (by repeat (first | exact trivial | refine ⟨rfl, ?_⟩)))
        | cons n rest =>
          have hh : T2.has had[j] = n := hhas
          (repeat (first | refine y_seq ?_ | refine w_region ?_ | refine y_regEnd ?_ | refine w_move rfl rfl rfl ?_ | refine w_assign rfl rfl rfl ?_ | refine w_lenSl rfl rfl rfl (F.un _ rfl) ?_))
          refine w_gtrS rfl rfl rfl rfl (fun _ => ?_) (fun hq => absurd hq (by simp only [List.length_cons]; omega))
          (repeat (first | (first | refine y_seq ?_ | refine w_region ?_ | refine y_regEnd ?_ | refine y_condT rfl ?_ | refine w_move rfl rfl rfl ?_ | refine w_assign rfl rfl rfl ?_) | refine w_idxN (q := 0) rfl rfl rfl rfl (F.un _ rfl) (F.sz _ rfl) (by (focus (skip; first | exact Tr.at_set_same _ _ _ | assumption))) (by omega) (by first | omega | (simp; done)) (Nat.le_refl _) ?_ | refine w_loadD1 rfl rfl rfl (F.ag _ rfl) (by (focus (skip; first | exact Tr.at_set_same _ _ _ | assumption))) (rfl) (by first | omega | (simp; done)) ?_))
          (repeat (first | (first | refine w_region ?_ | refine y_regEnd ?_ | refine y_inBlock ?_ | refine y_skip ?_ | refine y_condF rfl ?_ | refine w_move rfl rfl rfl ?_ | refine w_assign rfl rfl rfl ?_ | refine w_add rfl rfl rfl rfl (by omega) (by omega) ?_) | refine w_idxN (q := j) rfl rfl rfl rfl (F.un _ rfl) (F.sz _ rfl) (by (focus (skip; first | exact Tr.at_set_same _ _ _ | assumption))) (by omega) (by first | omega | (simp; done)) (Nat.le_refl _) ?_ | refine w_loadD1 rfl rfl rfl (F.ag _ rfl) (by (focus (skip; first | exact Tr.at_set_same _ _ _ | assumption))) (at_s hj) (by first | omega | (simp; done)) ?_ | (refine w_call rfl rfl rfl (by kernel_rfl) (Fnc.mono (has_t k2 had[j]) ?_); rintro _ rfl; dsimp only) | (refine w_neqS rfl rfl rfl rfl (fun hq => absurd (by omega) hq) (fun _ => ?_))))
          refine again _ _ _ (j + 1) ⟨by omega, by omega, k1, k2, fun n hn => by have := g3 n hn; omega, fun n hn => by have := g4 n hn; omega, k5, by omega⟩ (by omega) (SlIn.sub (by repeat (first | exact trivial | refine ⟨rfl, ?_⟩)))
      · clear again
        (repeat (first | (first | refine y_seq ?_ | refine w_region ?_ | refine y_regEnd ?_ | refine y_exit rfl ?_ | refine y_condF rfl ?_ | refine w_move rfl rfl rfl ?_ | refine w_assign rfl rfl rfl ?_ | refine w_extract rfl rfl rfl rfl ?_ | refine w_notB rfl rfl rfl ?_) | (refine w_call rfl rfl rfl (by kernel_rfl) (Fnc.mono (waits_t g2 o) ?_); rintro _ rfl; dsimp only)))
        rw [m5, show ((⟨#[]⟩ : ByteArray) != ⟨#[]⟩) = false from rfl]
        (repeat (first | (first | refine y_regEnd ?_ | refine w_assign rfl rfl rfl ?_ | refine w_pickT rfl rfl rfl rfl ?_) | (refine w_call rfl rfl rfl (by kernel_rfl) (Fnc.mono known_f ?_); rintro ⟨_, Hk, nk⟩ ⟨rfl, hk1, hk2⟩; dsimp only at hk1 hk2 ⊢)))
        ((apply w_ret Try.func3 (congrArg Array.toList Try.results3)); (focus (repeat (first | exact ResIs.nil | apply ResIs.tmp rfl))))
        rfl
end Go.Proofs.Ytckajlllkmkniaa
end
section
namespace Go.Sl
open Go Go.RowKit Go.WideShapes Go.ChangeShapes
theorem post_new {H : Type} {enc : TypeId × Value → H} {P : Program} {f : Func} {s : ChangeSpec} {apart fresh handsOn again : Bool} {W W' : World} {args : Array Value} {v : Value} {ds gs : List (DataW H)} {before pa pv : List MemPlace}
    (hW : DataW.Whole enc P f.params.toList s.vars apart W args.toList ds gs before) (hb : Below W.heap.size W W') (hps : before = pa ++ pv)
    (hres : ∀ (b : Nat) (sp : Nat → Bool) (hd : Bool), DataW.TrodAll enc P W' b sp hd f.resultTypes.toList (v.resultList f.resultTypes.size) (s.fn H (ds ++ gs)).results [])
    (hargs : ∀ sp : Nat → Bool, (∀ p ∈ before, sp p.block = true) → DataW.TrodAll enc P W' 0 sp true f.params.toList args.toList (s.fn H (ds ++ gs)).args pa)
    (hvars : ∀ sp : Nat → Bool, (∀ p ∈ before, sp p.block = true) → DataW.TrodVars enc P W' sp s.vars (s.fn H (ds ++ gs)).vars pv)
    (hok : ∀ (j : Nat) (t : TypeId) (r : Value), f.resultTypes[j]? = some t → (v.resultList f.resultTypes.size)[j]? = some r → Value.okWide P W' .any 0 t r) :
    s.post enc P f apart fresh handsOn again W args v W' := by
  have hsp : ∀ p ∈ before, (fun b => decide (b < W.heap.size)) p.block = true := fun p hp => by simpa using hW.lt p hp
  have hmem : ∀ p, p ∈ pa ++ pv ↔ p ∈ before := fun p => by rw [hps]
  refine ⟨ds, gs, before, [], pa, pv, hW, hres _ _ _, hargs _ hsp, hvars _ hsp, World.keptBut_mono (fun p hp => ⟨hp, ?_⟩) (hb.frame (· ∈ before)), fun _ => ?_⟩
  · have := (hmem p).2 hp
    rw [List.mem_append] at this
    exact .inr this
  obtain ⟨_, _, _, _, _, hz, hn⟩ := id hW
  refine ⟨hok, _, _, ([] ++ pa) ++ pv, ⟨[] ++ pa, pv, trodAll_append (hargs _ (fun _ _ => rfl)) (hres _ _ _), hvars _ (fun _ _ => rfl), rfl, fun b off hp => ?_, fun ha => ?_⟩, fun p hp _ => ?_⟩
  · have hin : MemPlace.cell b off ∈ before := (hmem _).1 (by simpa using hp)
    rw [hb.frozen (hW.lt _ hin)]
    exact hz b off hin
  · have := hn ha
    rw [hps] at this
    simpa using this
  · exact (hmem p).1 (by simpa using hp)
end Go.Sl
end
section
namespace Go.Sy
open Go Go.Sl Go.RowKit Go.WideShapes
theorem rowAt_off (p : Program) (fits : TypeId → Bool) (d : Nat) (e : TypeId) (count off n : Nat) (h : rowAt p fits d e count off n = true) : off ≤ count * p.cellsOf e := by
  cases d with
  | zero => simp [rowAt] at h
  | succ d =>
    unfold rowAt at h
    simp only at h
    split at h
    · cases h
    · rename_i hs
      have hdiv := Nat.div_add_mod off (p.cellsOf e)
      rw [Bool.or_eq_true] at h
      rcases h with h | h
      · simp only [Bool.and_eq_true, beq_iff_eq, decide_eq_true_eq] at h
        obtain ⟨⟨h1, h2⟩, _⟩ := h
        have : p.cellsOf e * (off / p.cellsOf e) ≤ p.cellsOf e * count := Nat.mul_le_mul_left _ (by omega)
        rw [Nat.mul_comm count]
        omega
      · rw [Bool.and_eq_true, decide_eq_true_eq] at h
        have hm := Nat.mod_lt off (Nat.pos_of_ne_zero hs)
        have : p.cellsOf e * (off / p.cellsOf e + 1) ≤ p.cellsOf e * count := Nat.mul_le_mul_left _ (by omega)
        rw [Nat.mul_add, Nat.mul_one] at this
        rw [Nat.mul_comm count]
        omega
theorem liesAt_off (p : Program) : ∀ (d : Nat) (e : TypeId) (count off : Nat) (u : TypeId) (n : Nat), liesAt p d e count off u n = true → off ≤ count * p.cellsOf e
  | 0, _, _, _, _, _, h => by simp [liesAt] at h
  | d + 1, e, count, off, u, n, h => by
    unfold liesAt at h
    rw [Bool.or_eq_true] at h
    rcases h with h | h
    · exact rowAt_off p _ _ e count off n h
    · split at h
      · exact liesAt_off p d e count off _ _ h
      · cases h
theorem mapM_range {A : Type} {f : Nat → Option A} : ∀ {n : Nat} {l : List A}, (List.range n).mapM f = some l → l.length = n ∧ ∀ i, i < n → f i = l[i]? := by
  intro n
  induction n with
  | zero => intro l h; simp at h; subst h; exact ⟨rfl, fun i hi => by omega⟩
  | succ n ih =>
    intro l h
    rw [List.range_succ, List.mapM_append] at h
    simp only [Option.bind_eq_bind, Option.bind_eq_some_iff] at h
    obtain ⟨a, ha, b, hb, hl⟩ := h
    obtain ⟨h1, h2⟩ := ih ha
    cases hf : f n with
    | none => simp [hf] at hb
    | some x =>
      simp [hf] at hb
      subst hb
      simp at hl
      subst hl
      refine ⟨by simp [h1], fun i hi => ?_⟩
      rcases Nat.lt_or_ge i n with h | h
      · rw [List.getElem?_append_left (by omega)]; exact h2 i h
      · obtain rfl : i = n := by omega
        rw [hf, List.getElem?_append_right (by omega), h1]
        simp
theorem slice_arg {b0 : Nat} {H : Type} {enc : TypeId × Value → H} {P : Program} {w : World} {t e : TypeId} {sz : Nat} {v : Value} {dd : DataW H} {p : List MemPlace} (ht : P.underlying t = some (.slice e)) (hc : P.cellsOf e = sz) (h0 : 0 < sz)
    (hT : DataW.Trod enc P w 0 (fun _ => true) true t v dd p) (hok : Value.okWide P w .any b0 t v) :
    (v = .slice none 0 0) ∨ ∃ (b o len cap : Nat) (cs : Array Value) (tt : TypeId) (fz : Nat × Nat), v = .slice (some ⟨b, o, none⟩) len cap ∧ w.heap[b]? = some (.cells cs tt fz) ∧ len ≤ cap ∧ cap ≤ maxLen ∧ o + cap * sz ≤ cs.size ∧
      ∀ i, i < len → ∃ us : List Value, us.length = sz ∧ (∀ j, j < sz → cs[o + i * sz + j]? = us[j]?) ∧ ∃ n y, DataW.trod enc P w 0 (fun _ => true) true n e us = some y := by
  obtain ⟨fuel, hT⟩ := hT
  obtain ⟨a0, len0, cap0, rfl⟩ := okWide_slice ht hok
  have hcells : (Value.slice a0 len0 cap0).cells.toList = [.slice a0 len0 cap0] := rfl
  rw [hcells] at hT
  rcases DataW.trod_slice ht hT with ⟨h1, _⟩ | ⟨a, len, cap, elems, rest, n, _, h1, _, _, h3, h4, h5, h6, h7, _⟩
  · left
    simpa using h1
  · right
    simp only [List.cons.injEq, and_true, Value.slice.injEq] at h1
    obtain ⟨rfl, rfl, rfl⟩ := h1
    unfold Value.okWide at hok
    rw [ht] at hok
    simp only at hok
    unfold Cell.okWide at hok
    rw [ht] at hok
    simp only at hok
    unfold Cell.ok at hok
    rw [ht] at hok
    simp only at hok
    obtain ⟨_, _, _, hsp, row, cells, hsh, hli⟩ := hok
    obtain ⟨b, o, sp⟩ := a
    simp only at hsp hsh hli h6 h7
    subst hsp
    unfold World.shape? at hsh
    cases hob : w.heap[b]? with
    | none => rw [hob] at hsh; cases hsh
    | some ob =>
      rw [hob] at hsh
      cases ob with
      | cells cs tt fz =>
        simp only [Option.some.injEq, Prod.mk.injEq] at hsh
        obtain ⟨rfl, rfl⟩ := hsh
        have hoff := liesAt_off P _ _ _ _ _ _ hli
        have hoff2 : o ≤ cs.size := Nat.le_trans hoff (Nat.div_mul_le_self _ _)
        have hcell : ∀ q : Nat, w.cell? ⟨b, q, none⟩ = cs[q]? := fun q => by simp [World.cell?, hob]
        have hget : ∀ (q : Nat) (us : List Value), w.cells? 0 ((⟨b, o, none⟩ : Addr).add (q * P.cellsOf e)) (P.cellsOf e) = some us → us.length = sz ∧ ∀ j, j < sz → cs[o + q * sz + j]? = us[j]? := by
          intro q us hus
          rw [add_plain] at hus
          unfold World.cells? at hus
          rw [if_pos (Nat.zero_le _)] at hus
          obtain ⟨g1, g2⟩ := mapM_range hus
          rw [hc] at g1 g2 hus
          refine ⟨g1, fun j hj => ?_⟩
          have := g2 j hj
          rw [add_plain, hcell] at this
          exact this
        refine ⟨b, o, len0, cap0, cs, tt, fz, rfl, hob, h3, h4, ?_, fun i hi => ?_⟩
        · rcases Nat.eq_zero_or_pos cap0 with hz | hz
          · subst hz; simpa using hoff2
          · have hlast : ∃ us, w.cells? 0 ((⟨b, o, none⟩ : Addr).add ((cap0 - 1) * P.cellsOf e)) (P.cellsOf e) = some us := by
              rcases Nat.lt_or_ge (cap0 - 1) len0 with hl | hl
              · have h8 := h6 (cap0 - 1) hl
                rw [List.getElem?_eq_getElem (by omega)] at h8
                cases hcs : w.cells? 0 ((⟨b, o, none⟩ : Addr).add ((cap0 - 1) * P.cellsOf e)) (P.cellsOf e) with
                | none => rw [hcs] at h8; cases h8
                | some us => exact ⟨us, rfl⟩
              · obtain ⟨h9, h10⟩ := h7 trivial
                have h8 := h10 (cap0 - 1 - len0) (by omega)
                rw [List.getElem?_eq_getElem (by omega), show len0 + (cap0 - 1 - len0) = cap0 - 1 by omega] at h8
                cases hcs : w.cells? 0 ((⟨b, o, none⟩ : Addr).add ((cap0 - 1) * P.cellsOf e)) (P.cellsOf e) with
                | none => rw [hcs] at h8; cases h8
                | some us => exact ⟨us, rfl⟩
            obtain ⟨us, hus⟩ := hlast
            obtain ⟨g1, g2⟩ := hget _ _ hus
            have g3 := g2 (sz - 1) (by omega)
            rw [List.getElem?_eq_getElem (show sz - 1 < us.length by omega)] at g3
            have g4 := (Array.getElem?_eq_some_iff.1 g3).1
            have : cap0 * sz = (cap0 - 1) * sz + sz := by
              conv => lhs; rw [show cap0 = cap0 - 1 + 1 by omega, Nat.add_mul, Nat.one_mul]
            omega
        · have h8 := h6 i hi
          rw [List.getElem?_eq_getElem (by omega)] at h8
          cases hcs : w.cells? 0 ((⟨b, o, none⟩ : Addr).add (i * P.cellsOf e)) (P.cellsOf e) with
          | none => rw [hcs] at h8; cases h8
          | some us =>
            rw [hcs] at h8
            simp only [Option.bind_some] at h8
            obtain ⟨g1, g2⟩ := hget _ _ hcs
            exact ⟨us, g1, g2, n, _, h8⟩
      | _ => cases hsh
def oldZone (w : World) : Zone := ⟨fun j => j < w.heap.size, fun j => j < w.heap.size, fun _ h => h⟩
theorem kept_refl (w : World) : Kept (oldZone w) w w := ⟨rfl, rfl, rfl, Nat.le_refl _, fun _ h => h, fun _ _ => rfl⟩
theorem below_of {w0 w : World} (h : Kept (oldZone w0) w0 w) : Below w0.heap.size w0 w := ⟨h.os, h.tape, h.output, h.size, fun j hj => h.block j hj⟩
def argEnt (sz : Nat) : Value → Ent
  | .slice (some a) _ cap => ⟨a.block, a.off, cap, sz, false⟩
  | _ => ⟨0, 0, 0, sz, true⟩
def ArgRow {A : Type} (w : World) (sz : Nat) (f : A → List Value) (v : Value) (l : List A) : Prop :=
  (v = .slice none 0 0 ∧ l = []) ∨ ∃ (b o len cap : Nat) (cs : Array Value) (tt : TypeId) (fz : Nat × Nat), v = .slice (some ⟨b, o, none⟩) len cap ∧ w.heap[b]? = some (.cells cs tt fz) ∧ len = l.length ∧ len ≤ cap ∧ cap ≤ maxLen ∧ o + cap * sz ≤ cs.size ∧
    ∀ i c, l[i]? = some c → ∀ j, j < sz → cs[o + i * sz + j]? = (f c)[j]?
theorem argRow_of {b0 : Nat} {A : Type} {H : Type} {enc : TypeId × Value → H} {P : Program} {w : World} {t e : TypeId} {sz : Nat} {v : Value} {dd : DataW H} {p : List MemPlace} {f : A → List Value} (ht : P.underlying t = some (.slice e)) (hc : P.cellsOf e = sz) (h0 : 0 < sz)
    (hT : DataW.Trod enc P w 0 (fun _ => true) true t v dd p) (hok : Value.okWide P w .any b0 t v) (hf : ∀ n us y, DataW.trod enc P w 0 (fun _ => true) true n e us = some y → ∃ a, us = f a) : ∃ l : List A, ArgRow w sz f v l := by
  rcases slice_arg ht hc h0 hT hok with h | ⟨b, o, len, cap, cs, tt, fz, h1, h2, h3, h4, h5, h6⟩
  · exact ⟨[], .inl ⟨h, rfl⟩⟩
  · have hex : ∀ i, i < len → ∃ a : A, ∀ j, j < sz → cs[o + i * sz + j]? = (f a)[j]? := by
      intro i hi
      obtain ⟨us, g1, g2, n, y, g3⟩ := h6 i hi
      obtain ⟨a, rfl⟩ := hf n us y g3
      exact ⟨a, g2⟩
    refine ⟨(List.range len).attach.map (fun i => Classical.choose (hex i.1 (List.mem_range.1 i.2))), .inr ⟨b, o, len, cap, cs, tt, fz, h1, h2, by simp, h3, h4, h5, ?_⟩⟩
    intro i c hi j hj
    rw [List.getElem?_map] at hi
    obtain ⟨q, hq, rfl⟩ := Option.map_eq_some_iff.1 hi
    have hq1 : q.1 = i := by
      obtain ⟨hlt, hh⟩ := List.getElem?_eq_some_iff.1 hq
      rw [← hh]
      simp
    have := Classical.choose_spec (hex q.1 (List.mem_range.1 q.2)) j hj
    rw [← hq1]
    exact this
theorem ArgRow.conc {A : Type} {w : World} {sz : Nat} {f : A → List Value} {v : Value} {l : List A} (h : ArgRow w sz f v l) {e : Env} {b : Nat} (he : e b = some (argEnt sz v)) : (SV.slu b 0 l.length).conc e = some v := by
  rcases h with ⟨rfl, rfl⟩ | ⟨b', o, len, cap, cs, tt, fz, rfl, h2, rfl, h3, h4, h5, h6⟩
  · simp [SV.conc, he, argEnt, Ent.at]
  · simp [SV.conc, he, argEnt, Ent.at]
theorem flat_get {A : Type} {f : A → List Value} {sz : Nat} (hf : ∀ a, (f a).length = sz) : ∀ (l : List A) (i j : Nat), j < sz → (l.flatMap f)[i * sz + j]? = (l[i]?).bind (fun c => (f c)[j]?)
  | [], i, j, _ => by simp
  | a :: l, 0, j, hj => by
    rw [List.flatMap_cons, List.getElem?_append_left (by rw [hf]; omega)]
    simp
  | a :: l, i + 1, j, hj => by
    rw [List.flatMap_cons, List.getElem?_append_right (by rw [hf, Nat.add_mul]; omega), hf, show (i + 1) * sz + j - sz = i * sz + j by rw [Nat.add_mul]; omega, flat_get hf l i j hj]
    simp
theorem ArgRow.lies {A : Type} {w : World} {sz : Nat} {f : A → List Value} {v : Value} {l : List A} (h : ArgRow w sz f v l) (hf : ∀ a, (f a).length = sz) (h0 : 0 < sz) (rt : TypeId) (e : Env) : Lies (oldZone w) w e (dat true l.length sz rt (l.flatMap f)) (argEnt sz v) := by
  rcases h with ⟨rfl, rfl⟩ | ⟨b, o, len, cap, cs, tt, fz, rfl, h2, rfl, h3, h4, h5, h6⟩
  · exact .inr ⟨rfl, rfl, true, rt, _, rfl, h0⟩
  · refine .inl ⟨rfl, .cells cs tt fz, ⟨fun _ => lt_of_heap h2, fun h => by cases h⟩, h2, rfl, cs, fz, tt, rfl, h3, h5, h4, (fun h => by cases h), h0, fun i hi s hs => ?_⟩
    have hs' : ((l.flatMap f)[i]?).map SV.sc = some s := hs
    obtain ⟨u, hu, rfl⟩ := Option.map_eq_some_iff.1 hs'
    refine ⟨u, rfl, ?_⟩
    have hdm := Nat.div_add_mod i sz
    have hm := Nat.mod_lt i h0
    have e1 : i = i / sz * sz + i % sz := by rw [Nat.mul_comm]; omega
    rw [e1, flat_get hf l _ _ hm] at hu
    obtain ⟨c, hc, hcu⟩ := Option.bind_eq_some_iff.1 hu
    have := h6 (i / sz) c hc (i % sz) hm
    show cs[o + i]? = some u
    rw [e1, ← Nat.add_assoc, this]
    exact hcu
theorem St.init {w : World} {e : Env} {H : Heap} {nx : Nat} (h1 : ∀ id vo, H.at' id = some vo → vo.ro = true ∧ ∃ x, e id = some x ∧ Lies (oldZone w) w e vo x) (h2 : ∀ i, nx ≤ i → e i = none) : St (oldZone w) w e H nx w :=
  ⟨kept_refl w, fun id vo h => (h1 id vo h).2, fun id id' vo vo' x x' h _ _ _ _ _ _ hr _ => by (rw [(h1 id vo h).1] at hr; cases hr), h2⟩
end Go.Sy
end
section
namespace Go.Proofs.Ytckajlllkmkniaa
open Go Go.Sy Go.ChangeShapes Go.WideShapes Go.ChangeAt Go.RowKit
section
variable {H : Type} {enc : TypeId × Value → H} {P : Program} {w : World} {base : Nat} {sp : Nat → Bool} {held : Bool} {n : Nat} {t : TypeId} {cs : List Value} {y : DataW H × List MemPlace}
theorem trod_int_is {k : IntKind} (hu : P.underlying t = some (.int k)) (h : DataW.trod enc P w base sp held n t cs = some y) : ∃ x, cs = [.int k x] ∧ (Lit.int k x).wf = true := by
  cases n with
  | zero => simp [DataW.trod] at h
  | succ n =>
    unfold DataW.trod at h
    rw [hu] at h
    split at h <;> simp_all
theorem trod_str_is (hu : P.underlying t = some .string) (h : DataW.trod enc P w base sp held n t cs = some y) : ∃ s, cs = [.string s] := by
  cases n with
  | zero => simp [DataW.trod] at h
  | succ n =>
    unfold DataW.trod at h
    rw [hu] at h
    split at h <;> simp_all
theorem trod_nat_is (hu : P.underlying t = some (.int .u64)) (h : DataW.trod enc P w base sp held n t cs = some y) : ∃ x : Nat, cs = [.int .u64 (x : Int)] := by
  obtain ⟨x, hx, hw⟩ := trod_int_is hu h
  have h0 : 0 ≤ x := by
    simp only [Lit.wf, IntKind.has, IntKind.min, show IntKind.u64.signed = false from rfl, Bool.and_eq_true, decide_eq_true_eq] at hw
    first | exact hw.1 | (simp at hw; omega)
  exact ⟨x.toNat, by rw [hx, Int.toNat_of_nonneg h0]⟩
end
theorem uAct : Try.prog.underlying 32 = some (.struct (Try.prog.fieldsOf 32)) := by kernel_rfl
theorem fAct : (Try.prog.fieldsOf 32).toList.map (fun f => (f.type, f.offset)) = [(3, 0), (23, 1), (9, 2), (3, 3)] := by kernel_rfl
theorem trod_act {H : Type} {enc : TypeId × Value → H} {w : World} {base : Nat} {sp : Nat → Bool} {held : Bool} {n : Nat} {us : List Value} {y : DataW H × List MemPlace} (h : DataW.trod enc Try.prog w base sp held n 32 us = some y) : ∃ a : ActT, us = actV a := by
  have hf := fAct
  have hu := uAct
  generalize Try.prog.fieldsOf 32 = fs at hf hu
  obtain ⟨xs, m, _, _, hl, hlen, hx⟩ := DataW.trod_struct hu h
  obtain ⟨l⟩ := fs
  simp only at hf
  have hl4 : l.length = 4 := by simpa using congrArg List.length hf
  rcases l with _ | ⟨f0, _ | ⟨f1, _ | ⟨f2, _ | ⟨f3, _ | ⟨f4, l⟩⟩⟩⟩⟩
  · simp at hl4
  · simp at hl4
  · simp at hl4
  · simp at hl4
  · simp only [List.map_cons, List.map_nil, List.cons.injEq, Prod.mk.injEq, and_true] at hf
    obtain ⟨⟨a1, a2⟩, ⟨b1, b2⟩, ⟨c1, c2⟩, d1, d2⟩ := hf
    have hc : Try.prog.cellsOf 32 = 4 := by kernel_rfl
    have hi : Try.prog.cellsOf 3 = 1 := by kernel_rfl
    have hu64 : Try.prog.cellsOf 23 = 1 := by kernel_rfl
    have hs : Try.prog.cellsOf 9 = 1 := by kernel_rfl
    rw [hc] at hl
    have hlen4 : xs.length = 4 := by simpa using hlen
    have h0 := hx 0 f0 rfl
    have h1 := hx 1 f1 rfl
    have h2 := hx 2 f2 rfl
    have h3 := hx 3 f3 rfl
    rw [a1, a2, hi] at h0
    rw [b1, b2, hu64] at h1
    rw [c1, c2, hs] at h2
    rw [d1, d2, hi] at h3
    have g0 : ∃ y, DataW.trod enc Try.prog w base sp held m 3 ((us.drop 0).take 1) = some y := ⟨_, h0.trans (List.getElem?_eq_getElem (by omega))⟩
    have g1 : ∃ y, DataW.trod enc Try.prog w base sp held m 23 ((us.drop 1).take 1) = some y := ⟨_, h1.trans (List.getElem?_eq_getElem (by omega))⟩
    have g2 : ∃ y, DataW.trod enc Try.prog w base sp held m 9 ((us.drop 2).take 1) = some y := ⟨_, h2.trans (List.getElem?_eq_getElem (by omega))⟩
    have g3 : ∃ y, DataW.trod enc Try.prog w base sp held m 3 ((us.drop 3).take 1) = some y := ⟨_, h3.trans (List.getElem?_eq_getElem (by omega))⟩
    obtain ⟨_, g0⟩ := g0
    obtain ⟨_, g1⟩ := g1
    obtain ⟨_, g2⟩ := g2
    obtain ⟨_, g3⟩ := g3
    obtain ⟨k, hk, _⟩ := trod_int_is (F.un 3 rfl) g0
    obtain ⟨o, ho⟩ := trod_nat_is (F.un 23 rfl) g1
    obtain ⟨s, hst⟩ := trod_str_is (F.un 9 rfl) g2
    obtain ⟨m, hmk, _⟩ := trod_int_is (F.un 3 rfl) g3
    rcases us with _ | ⟨u0, _ | ⟨u1, _ | ⟨u2, _ | ⟨u3, _ | ⟨u4, us⟩⟩⟩⟩⟩
    · simp at hl
    · simp at hl
    · simp at hl
    · simp at hl
    · simp at hk ho hst hmk
      exact ⟨(k, o, s, m), by simp [actV, hk, ho, hst, hmk]⟩
    · simp at hl
  · simp at hl4
set_option maxRecDepth 100000 in
theorem arg_nat {b0 : Nat} {H : Type} {enc : TypeId × Value → H} {w : World} {sp : Nat → Bool} {held : Bool} {v : Value} {d : DataW H} {p : List MemPlace} (h : DataW.Trod enc Try.prog w 0 sp held 23 v d p) (hok : Value.okWide Try.prog w .any b0 23 v) : ∃ k : Nat, v = .int .u64 (k : Int) := by
  obtain ⟨k, rfl⟩ := okWide_int (F.un 23 rfl) hok
  obtain ⟨n, h⟩ := h
  obtain ⟨x, hx⟩ := trod_nat_is (F.un 23 rfl) h
  have : (Value.int .u64 k).cells.toList = [.int .u64 k] := rfl
  rw [this] at hx
  simp at hx
  exact ⟨x, by rw [hx]⟩
theorem own : ownKnob Try.prog.godebug = none := by kernel_rfl
theorem laid : laidOutB Try.prog = true := by kernel_rfl
theorem argRow_le {A : Type} {w : World} {sz : Nat} {f : A → List Value} {v : Value} {l : List A} (h : ArgRow w sz f v l) : l.toArray.size ≤ 9223372036854775807 := by
  rcases h with ⟨_, rfl⟩ | ⟨b, o, len, cap, cs, tt, fz, _, _, h1, h2, h3, _⟩
  · simp
  · have : maxLen = 9223372036854775807 := rfl
    simp only [List.size_toArray]
    omega
end Go.Proofs.Ytckajlllkmkniaa
end
