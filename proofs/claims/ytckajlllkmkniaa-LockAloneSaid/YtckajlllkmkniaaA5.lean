/-
  Texts of the proof, merged: L13 L12 L10 L9 L14 O0 Ou OU8 OU9 OU10 OU11 OU12.
-/
import Derived.Sort.AssemblyPlain
import Derived.Sort.LotD5
import Derived.Test.YtckajlllkmkniaaA4
set_option linter.unusedVariables false
set_option linter.unusedSimpArgs false
section
namespace Go.Proofs.Ytckajlllkmkniaa
open Go Go.Sy Go.Sl Go.RowKit
theorem y_joinT {P : Program} {ro : Option Nat} {fn nt nx : Nat} {T : Tr SV} {it : AIt} {k : List AIt} {dfs : List ADf} {H : Heap} {Q : Pst} {α : Type} (sl : α → List (Nat × SV)) (I : α → Heap → Nat → Prop)
    (body : ∀ k', (∀ T' H' nx' a', I a' H' nx' → (∀ n x, (slT (sl a')).at' n = some x → T'.at' n = some x) → Wp P ro ⟨fn, nt, T', k', dfs, H', nx'⟩ Q) → Wp P ro ⟨fn, nt, T, it :: k', dfs, H, nx⟩ Q)
    (rest : ∀ a H nx, I a H nx → Wp P ro ⟨fn, nt, slT (sl a), k, dfs, H, nx⟩ Q) : Wp P ro ⟨fn, nt, T, it :: k, dfs, H, nx⟩ Q :=
  body k fun T' H' nx' a' ha hs => Wp.less (rest a' H' nx' ha) hs (Tr.le_refl _)
theorem Tb.frame {t a b : Nat} {ml : MLk} {cl : Nat} {mp : MPt} {cp : Nat} {F1 F2 : Nat → Prop} {H H' : Heap} (h : Tb t a b ml cl mp cp F1 F2 H) (hf : ∀ n, All t a b F1 F2 n → H'.at' n = H.at' n) : Tb t a b ml cl mp cp F1 F2 H' := ⟨(hf _ (.inl rfl)).trans h.tab, (hf _ (.inr (.inl rfl))).trans h.locks, (hf _ (.inr (.inr (.inl rfl)))).trans h.parties, h.okl, h.okp, Big.frame PL_frame _ _ _ _ h.bl fun z hz => hf _ (.inr (.inr (.inr (.inl hz)))), Big.frame PP_frame _ _ _ _ h.bp fun z hz => hf _ (.inr (.inr (.inr (.inr hz)))), h.ne, h.d1, h.d2⟩
theorem Tb.all_lt {t a b : Nat} {ml : MLk} {cl : Nat} {mp : MPt} {cp : Nat} {F1 F2 : Nat → Prop} {H : Heap} {nx : Nat} (h : Tb t a b ml cl mp cp F1 F2 H) (hu : ∀ b vo, H.at' b = some vo → b < nx) : ∀ n, All t a b F1 F2 n → n < nx := by
  obtain ⟨h1, h2, h3, h4, h5⟩ := h.lt hu
  intro n hn
  rcases hn with rfl | rfl | rfl | hn | hn
  · exact h1
  · exact h2
  · exact h3
  · exact h4 _ hn
  · exact h5 _ hn
def ChgL (t : Nat) (T' : LT) (l : List Nat) (e : Int) (Fp : Nat → Prop) (H : Heap) (nx : Nat) : Pst := fun q => ∃ r, q.1 = .tup [.slu r 0 l.length, .sc (.int .i64 e)] ∧ q.2.1.at' r = some (uR false l) ∧ nx ≤ r ∧ r < q.2.2 ∧ ∃ F', TabAt t T' F' q.2.1 ∧ ¬ F' r ∧ Step Fp F' H nx q.2.1 q.2.2
def LT.backOk (T : LT) (o : Nat) (mark : Int) : Prop :=
  (T.keys o).length < 999999 ∧ ((T.waits o).size ≠ 0 → ∃ h l, mget T.locks (T.waits o) = some (h, l) ∧ o ∈ l ∧ l.length < 1000000) ∧ (0 ≤ mark → mark ≤ ((T.keys o).length : Int) → LT.popsOk o ((T.keys o).length - mark.toNat) (T.leave o))
theorem get_s {l : List ByteArray} {i : Nat} (hi : i < l.length) : (l.flatMap sV)[i * 1]? = some (.string l[i]) := by
  have : (l.flatMap sV) = l.map (fun s : ByteArray => Value.string s) := by
    clear hi
    induction l with
    | nil => rfl
    | cons a l ih => rw [List.flatMap_cons, ih]; rfl
  rw [this, Nat.mul_one, List.getElem?_map, List.getElem?_eq_getElem hi]; rfl
theorem Step.stay {F F' : Nat → Prop} {H H' : Heap} {nx nx' r : Nat} (h : Step F F' H nx H' nx') (hr : r < nx) (hf : ¬ F r) : H'.at' r = H.at' r ∧ ¬ F' r ∧ r < nx' := by
  refine ⟨h.2.2 r hr hf, fun q => ?_, Nat.lt_of_lt_of_le hr h.1⟩
  rcases h.2.1 r q with q | q
  · exact hf q
  · omega
theorem row_pre (l : List ByteArray) : (l.flatMap sV).take ((l.length - 1) * 1) = l.dropLast.flatMap sV := by
  have hm : ∀ l : List ByteArray, (l.flatMap sV) = l.map (fun s : ByteArray => Value.string s) := by
    intro l
    induction l with
    | nil => rfl
    | cons a l ih => rw [List.flatMap_cons, ih]; rfl
  rw [hm, hm, Nat.mul_one, List.dropLast_eq_take, List.map_take]
theorem bdN {T : Tr SV} {dflt n : Nat} {o : Operand} {k : IntKind} {j : Int} (h : evalS T o = some (.sc (.int k j))) (hj : j = (n : Int)) : BdIs T dflt (some o) n := by
  subst hj
  exact bd_some h (by omega)
set_option maxRecDepth 100000 in
set_option maxHeartbeats 0 in
theorem back_t {t : Nat} {T : LT} {Fp : Nat → Prop} {H : Heap} {nx : Nat} (hT : TabAt t T Fp H) (o : Nat) (mark : Int) (hok : T.backOk o mark) : Fnc Try.prog 15 [.ptr t 0, .sc (.int .u64 (o : Int)), .sc (.int .i64 mark)] H nx (ChgL t (T.back o mark).1 (T.back o mark).2.1 (T.back o mark).2.2 Fp H nx) := by
  obtain ⟨ok1, ok2, ok3⟩ := hok
  have hT0 := hT
  have hT1 := hT
  obtain ⟨a, b, ml, cl, mp, cp, F1, F2, h, rfl, hF⟩ := hT
  have hFp : Fp = All t a b F1 F2 := funext fun n => propext (hF n)
  subst hFp
  have htab := h.tab
  have hpar := h.parties
  have hne := h.ne
  refine Fnc.start Try.func15 rfl rfl ?_
  refine y_under fun hund => ?_
  have hall := h.all_lt hund
  have early : ∀ e : Int, ChgL t (ltOf ml mp) [] e (All t a b F1 F2) H nx (.tup [.slu nx 0 0, .sc (.int .i64 e)], H.set nx (dat false 0 1 23 []), nx + 1) := fun e => by
    refine ⟨nx, rfl, Tr.at_set_same _ _ _, Nat.le_refl _, Nat.lt_succ_self _, _, hT0.frame fun n hn => Tr.at_set_other _ _ ?_, fun q => Nat.lt_irrefl _ (hall _ q), Nat.le_succ _, fun _ q => .inl q, fun n hn _ => Tr.at_set_other _ _ (by omega)⟩
    have := hall _ hn
    omega
  (repeat (first | (first | refine y_seq ?_ | refine w_region ?_ | refine y_regEnd ?_ | refine y_skip ?_ | refine y_condF rfl ?_ | refine w_move rfl rfl rfl ?_ | refine w_assign rfl rfl rfl ?_) | (refine w_call rfl rfl rfl (by kernel_rfl) (Fnc.mono (none_t htab) ?_); rintro _ rfl; dsimp only)))
  refine w_eqlS rfl rfl rfl rfl ?_ ?_
  all_goals intro h1
  · have hb : (ltOf ml mp).back o mark = (ltOf ml mp, [], 2) := by unfold LT.back; rw [if_pos (.inl (by omega))]
    rw [hb]
    (repeat (first | refine y_seq ?_ | refine w_region ?_ | refine y_regEnd ?_ | refine y_condT rfl ?_ | refine w_move rfl rfl rfl ?_ | refine w_assign rfl rfl rfl ?_ | refine w_pickT rfl rfl rfl rfl ?_ | refine w_not rfl ?_))
    refine y_nilRow 1 23 (d := 6) (by (focus ((repeat (refine (Tr.at_set_other _ _ (by omega)).trans ?_)); first | exact Tr.at_set_same _ _ _ | assumption))) rfl ?_
    ((apply w_ret Try.func15 (congrArg Array.toList Try.results15)); (focus (repeat (first | exact ResIs.nil | apply ResIs.tmp rfl))))
    exact early 2
  (repeat (refine w_move rfl rfl rfl ?_))
  refine w_lssS rfl rfl rfl rfl ?_ ?_
  all_goals intro h2
  · have hb : (ltOf ml mp).back o mark = (ltOf ml mp, [], 2) := by unfold LT.back; rw [if_pos (.inr (.inl (by omega)))]
    rw [hb]
    (repeat (first | refine y_seq ?_ | refine w_region ?_ | refine y_regEnd ?_ | refine y_condT rfl ?_ | refine w_move rfl rfl rfl ?_ | refine w_assign rfl rfl rfl ?_ | refine w_pickT rfl rfl rfl rfl ?_ | refine w_pickF rfl rfl rfl rfl ?_ | refine w_not rfl ?_))
    refine y_nilRow 1 23 (d := 6) (by (focus ((repeat (refine (Tr.at_set_other _ _ (by omega)).trans ?_)); first | exact Tr.at_set_same _ _ _ | assumption))) rfl ?_
    ((apply w_ret Try.func15 (congrArg Array.toList Try.results15)); (focus (repeat (first | exact ResIs.nil | apply ResIs.tmp rfl))))
    exact early 2
  (repeat (first | (first | refine w_move rfl rfl rfl ?_ | refine w_pickF rfl rfl rfl rfl ?_) | (refine w_call rfl rfl rfl (by kernel_rfl) (Fnc.mono (mark_t hT0 o) ?_); rintro _ rfl; dsimp only)))
  refine w_gtrS rfl rfl rfl rfl ?_ ?_
  all_goals intro h3
  · have hb : (ltOf ml mp).back o mark = (ltOf ml mp, [], 2) := by unfold LT.back; rw [if_pos (.inr (.inr (by omega)))]
    rw [hb]
    (repeat (first | refine y_seq ?_ | refine w_region ?_ | refine y_regEnd ?_ | refine y_condT rfl ?_ | refine w_assign rfl rfl rfl ?_ | refine w_pickF rfl rfl rfl rfl ?_))
    refine y_nilRow 1 23 (d := 6) (by (focus ((repeat (refine (Tr.at_set_other _ _ (by omega)).trans ?_)); first | exact Tr.at_set_same _ _ _ | assumption))) rfl ?_
    ((apply w_ret Try.func15 (congrArg Array.toList Try.results15)); (focus (repeat (first | exact ResIs.nil | apply ResIs.tmp rfl))))
    exact early 2
  have hc1 : ¬ (o = 0 ∨ mark < 0 ∨ (((ltOf ml mp).keys o).length : Int) < mark) := by omega
  obtain ⟨m, rfl⟩ : ∃ m : Nat, mark = (m : Int) := ⟨mark.toNat, by omega⟩
  rw [Int.toNat_natCast] at ok3
  replace ok3 := ok3 (by omega) (by omega)
  (repeat (first | refine y_seq ?_ | refine w_region ?_ | refine y_regEnd ?_ | refine y_skip ?_ | refine y_condF rfl ?_ | refine w_move rfl rfl rfl ?_ | refine w_pickF rfl rfl rfl rfl ?_ | refine w_nilCheck rfl rfl rfl ?_ | refine w_fieldAddr rfl rfl rfl (F.fo _ _ rfl rfl) ?_ | refine w_loadB1 rfl rfl rfl (F.ag _ rfl) (by (focus (skip; first | exact Tr.at_set_same _ _ _ | assumption))) (by exact rfl) ?_))
  cases hgp : kget mp o with
  | none =>
    have hb : (ltOf ml mp).back o (m : Int) = (ltOf ml mp, [], 0) := by unfold LT.back; rw [if_neg hc1, get_p, hgp]; rfl
    rw [hb]
    (repeat (first | (first | refine y_seq ?_ | refine w_region ?_ | refine y_regEnd ?_ | refine y_condT rfl ?_ | refine w_move rfl rfl rfl ?_ | refine w_assign rfl rfl rfl ?_ | refine w_isNil rfl rfl rfl rfl rfl (F.un _ rfl) rfl ?_) | refine w_lookZ (m := mp) (enc := oE) (val := pVal) rfl rfl rfl rfl (F.un _ rfl) (oK) (by first | exact rfl | (focus (skip; first | exact Tr.at_set_same _ _ _ | assumption))) (hgp) (F.ze _ rfl) ?_))
    refine y_nilRow 1 23 (d := 6) (by (focus ((repeat (refine (Tr.at_set_other _ _ (by omega)).trans ?_)); first | exact Tr.at_set_same _ _ _ | assumption))) rfl ?_
    ((apply w_ret Try.func15 (congrArg Array.toList Try.results15)); (focus (repeat (first | exact ResIs.nil | apply ResIs.tmp rfl))))
    exact early 0
  | some x =>
    obtain ⟨pn, ks, w⟩ := x
    have hkeys : (ltOf ml mp).keys o = ks := by rw [t_keys, hgp]
    have hwts : (ltOf ml mp).waits o = w := by rw [t_waits, hgp]
    have hgpm : mget (ltOf ml mp).parties o = some (ks, w) := by rw [get_p, hgp]; rfl
    rw [hwts] at ok2
    have hmk : m ≤ ks.length := by rw [hkeys] at h3; omega
    obtain ⟨pr, p1, p2, p3, p4, p5, p6, p7, hturn⟩ := h.turnParty hund hgp
    (repeat (first | (first | refine y_seq ?_ | refine w_region ?_ | refine y_regEnd ?_ | refine y_skip ?_ | refine y_condF rfl ?_ | refine w_move rfl rfl rfl ?_ | refine w_assign rfl rfl rfl ?_ | refine w_nilCheck rfl rfl rfl ?_ | refine w_fieldAddr rfl rfl rfl (F.fo _ _ rfl rfl) ?_ | refine w_eqNil rfl rfl rfl rfl (F.un _ rfl) rfl ?_ | refine w_loadB1 rfl rfl rfl (F.ag _ rfl) (by (focus (skip; first | exact Tr.at_set_same _ _ _ | assumption))) (by exact rfl) ?_) | refine w_lookV (m := mp) (enc := oE) (val := pVal) rfl rfl rfl rfl (F.un _ rfl) (oK) (by first | exact rfl | (focus (skip; first | exact Tr.at_set_same _ _ _ | assumption))) (hgp) ?_ | refine w_neStrV rfl rfl rfl rfl (rfl : (w != (⟨#[]⟩ : ByteArray)) = _) ?_))
    refine y_joinT (α := Unit) (fun _ => [(0, .ptr t 0), (1, .sc (.int .u64 (o : Int))), (2, .sc (.int .i64 (m : Int))), (8, .ptr pn 0)]) (fun _ H1 nx1 => ∃ ml' cl' mp' cp' F1' F2' w', Tb t a b ml' cl' mp' cp' F1' F2' H1 ∧ ltOf ml' mp' = (ltOf ml mp).leave o ∧ kget mp' o = some (pn, (ks, w')) ∧ Step (All t a b F1 F2) (All t a b F1' F2') H nx H1 nx1) (fun kk out => ?_) ?_
    · by_cases hw : w.size = 0
      · have he : (w != (⟨#[]⟩ : ByteArray)) = false := by
          rw [show (w != (⟨#[]⟩ : ByteArray)) = !(w == (⟨#[]⟩ : ByteArray)) from rfl, empty_of hw]; rfl
        rw [he]
        (repeat (first | refine y_skip ?_ | refine y_condF rfl ?_))
        refine out _ _ _ () ⟨ml, cl, mp, cp, F1, F2, w, h, by unfold LT.leave; rw [hwts, if_pos hw], hgp, Step.refl⟩ (SlIn.sub (by repeat (first | exact trivial | refine ⟨rfl, ?_⟩)))
      · have he : (w != (⟨#[]⟩ : ByteArray)) = true := by
          rw [show (w != (⟨#[]⟩ : ByteArray)) = !(w == (⟨#[]⟩ : ByteArray)) from rfl, empty_ne hw]; rfl
        rw [he]
        obtain ⟨hh, l, q1, q2, q3⟩ := ok2 hw
        have q1' := q1
        rw [get_l] at q1
        obtain ⟨⟨ln, x⟩, hgl, hx⟩ := Option.map_eq_some_iff.1 q1
        simp only at hx
        subst hx
        obtain ⟨lr, k1, k2, k3, k4, k5, k6, k7, hturnL⟩ := h.turnLock hund hgl
        have hloc := h.locks
        (repeat (first | refine y_seq ?_ | refine y_condT rfl ?_))
        refine w_draw (by kernel_rfl) (by kernel_rfl) ?_
        (repeat (first | (first | refine dw_move rfl rfl rfl ?_ | refine dw_assign rfl rfl rfl ?_ | refine dw_nilCheck rfl rfl rfl ?_ | refine dw_fieldAddr rfl rfl rfl (F.fo _ _ rfl rfl) ?_) | refine dw_loadB1 rfl rfl rfl (F.ag _ rfl) (by (focus (skip; first | exact Tr.at_set_same _ _ _ | assumption))) (by exact rfl) ?_ | refine dw_lookV (m := ml) (enc := kE) (val := lVal) rfl rfl rfl rfl (F.un _ rfl) (kK) (by first | exact rfl | (focus (skip; first | exact Tr.at_set_same _ _ _ | assumption))) (hgl) ?_))
        (refine dk_nil ?_); (refine ⟨by kernel_rfl, ?_, ?_⟩); (focus (repeat (first | exact trivial | refine ⟨.inl rfl, ?_⟩)))
        dsimp only [wrL, lVal]
        have hix : idxU l o = ((l.idxOf o : Nat) : Int) := by unfold idxU; rw [if_pos q2]
        have hi : l.idxOf o < l.length := List.idxOf_lt_length_of_mem q2
        (repeat (first | (first | refine y_seq ?_ | refine w_region ?_ | refine y_regEnd ?_ | refine w_move rfl rfl rfl ?_ | refine w_assign rfl rfl rfl ?_ | refine w_nilCheck rfl rfl rfl ?_ | refine w_fieldAddr rfl rfl rfl (F.fo _ _ rfl rfl) ?_ | refine w_loadB1 rfl rfl rfl (F.ag _ rfl) (by (focus (skip; first | exact Tr.at_set_same _ _ _ | assumption))) (by exact rfl) ?_) | (refine w_call rfl rfl rfl (by kernel_rfl) (Fnc.mono (index_u l o k2 (by omega)) ?_); rintro _ rfl; dsimp only)))
        rw [hix]
        refine w_geqS rfl rfl rfl rfl ?_ ?_
        all_goals intro h5
        rotate_left
        · omega
        (repeat (first | refine w_region ?_ | refine y_regEnd ?_ | refine y_condT rfl ?_ | refine w_move rfl rfl rfl ?_ | refine w_nilCheck rfl rfl rfl ?_ | refine w_fieldAddr rfl rfl rfl (F.fo _ _ rfl rfl) ?_ | refine w_loadB1 rfl rfl rfl (F.ag _ rfl) (by (focus (skip; first | exact Tr.at_set_same _ _ _ | assumption))) (by exact rfl) ?_ | refine w_add rfl rfl rfl rfl (by omega) (by omega) ?_))
        refine w_call rfl rfl rfl (by kernel_rfl) (Fnc.mono (delete_u l (l.idxOf o) k2 (by omega) hi) ?_)
        rintro ⟨_, H5, n5⟩ ⟨rfl, d1, rfl, d2⟩
        dsimp only at d1 d2 ⊢
        have k1' := (d2 ln k3).trans k1
        clear p1 p2 hturn hloc
        (repeat (first | refine w_region ?_ | refine y_regEnd ?_ | refine w_move rfl rfl rfl ?_ | refine w_nilCheck rfl rfl rfl ?_ | refine w_fieldAddr rfl rfl rfl (F.fo _ _ rfl rfl) ?_ | refine w_storeC rfl rfl rfl rfl (F.sz _ rfl) (by first | exact rfl | (focus (skip; first | exact Tr.at_set_same _ _ _ | assumption))) rfl (by exact Nat.le_of_ble_eq_true rfl) rfl ?_))
        refine y_gen (R := fun H2 n2 => ∃ F1', Tb t a b (kput ml w (ln, (hh, l.eraseIdx (l.idxOf o))) cl) cl mp cp F1' F2 H2 ∧ Step (All t a b F1 F2) (All t a b F1' F2) H n5 H2 n2) (hturnL (r' := lr) hh (l.eraseIdx (l.idxOf o)) (Nat.le_refl _) (.inr rfl) ?_ ?_ ?_) ?_
        · exact Tr.at_set_same _ _ _
        · exact (Tr.at_set_other _ _ (by omega)).trans d1
        · exact fun z hz hz1 hz2 => (Tr.at_set_other _ _ (by omega)).trans (d2 z hz2)
        rintro H6 n6 ⟨F1', h6, hst6⟩
        refine y_under fun hund6 => ?_
        obtain ⟨pr6, y1, y2, y3, y4, y5, y6, y7, hturn6⟩ := h6.turnParty hund6 hgp
        (repeat (first | refine y_regEnd ?_ | refine w_storeC rfl rfl rfl rfl (F.sz _ rfl) (by first | exact rfl | (focus (skip; first | exact Tr.at_set_same _ _ _ | assumption))) rfl (by exact Nat.le_of_ble_eq_true rfl) rfl ?_))
        obtain ⟨F2', h7, hst7⟩ := hturn6 (H' := _) (nx' := n6) (r' := pr6) ks ⟨#[]⟩ (Nat.le_refl _) (.inr rfl) (Tr.at_set_same _ _ _) ((Tr.at_set_other _ _ (by omega)).trans y2) (fun z hz hz1 hz2 => Tr.at_set_other _ _ (by omega))
        refine out _ _ _ () ⟨_, _, _, _, _, _, _, h7, ?_, kget_put _ _ _ _, hst6.trans hst7⟩ (SlIn.sub (by repeat (first | exact trivial | refine ⟨rfl, ?_⟩)))
        rw [mput_kv_p, mput_kv_l]
        unfold LT.leave
        rw [hwts, if_neg hw, q1', hkeys]
        simp only
        rw [List.erase_eq_eraseIdx_of_idxOf]
        rfl
    · rintro ⟨⟩ H1 nx1 ⟨ml1, cl1, mp1, cp1, G1, G2, w1, h1t, hlt, hg1, hst1⟩
      clear p1 p2 hturn hpar htab hgp
      have hk1 : ((ltOf ml mp).leave o).keys o = ks := by rw [← hlt, t_keys, hg1]
      have hback : (ltOf ml mp).back o (m : Int) = (if ((LT.pops o (ks.length - m) ((ltOf ml mp).leave o) []).1.keys o).length = 0 then ⟨(LT.pops o (ks.length - m) ((ltOf ml mp).leave o) []).1.locks, mdel (LT.pops o (ks.length - m) ((ltOf ml mp).leave o) []).1.parties o⟩ else (LT.pops o (ks.length - m) ((ltOf ml mp).leave o) []).1, (LT.pops o (ks.length - m) ((ltOf ml mp).leave o) []).2, 0) := by
        unfold LT.back
        rw [if_neg hc1, hgpm]
        simp only [hk1, Int.toNat_natCast]
      rw [hback]
      rw [hkeys] at ok3 ok1
      refine y_under fun hund1' => ?_
      have hund1 := h1t.all_lt hund1'
      (repeat (first | refine y_seq ?_ | refine w_region ?_ | refine y_regEnd ?_ | refine y_block ?_ | refine w_assign rfl rfl rfl ?_))
      refine y_nilRow 1 23 (d := 11) (by (focus (skip; first | exact Tr.at_set_same _ _ _ | assumption))) rfl ?_
      have hfr1 : ∀ z, All t a b G1 G2 z → z ≠ nx1 := fun z hz e => by
        have := hund1 _ hz
        omega
      have hle1 := hst1.1
      refine y_loopT (α := Nat × List Nat × Nat) (fun x => [(0, .ptr t 0), (1, .sc (.int .u64 (o : Int))), (2, .sc (.int .i64 (m : Int))), (8, .ptr pn 0), (11, .slu x.1 0 x.2.1.length)]) (fun x H2 nx2 => ∃ ml' cl' mp' cp' F1' F2' ks' w', Tb t a b ml' cl' mp' cp' F1' F2' H2 ∧ kget mp' o = some (pn, (ks', w')) ∧ Step (All t a b F1 F2) (All t a b F1' F2') H nx H2 nx2 ∧ H2.at' x.1 = some (uR false x.2.1) ∧ nx ≤ x.1 ∧ x.1 < nx2 ∧ ¬ All t a b F1' F2' x.1 ∧ ks'.length = m + x.2.2 ∧ x.2.1.length + x.2.2 ≤ 999999 ∧ LT.popsOk o x.2.2 (ltOf ml' mp') ∧ LT.pops o x.2.2 (ltOf ml' mp') x.2.1 = LT.pops o (ks.length - m) ((ltOf ml mp).leave o) []) (fun x => x.2.2) (nx1, [], ks.length - m) ⟨ml1, cl1, mp1, cp1, G1, G2, ks, w1, h1t.frame fun z hz => Tr.at_set_other _ _ (hfr1 z hz), hg1, ?_, Tr.at_set_same _ _ _, hle1, Nat.lt_succ_self _, fun q => hfr1 _ q rfl, by simp only; omega, by simp only [List.length_nil]; omega, by rw [hlt]; exact ok3, by rw [hlt]⟩ (SlIn.sub (by repeat (first | exact trivial | refine ⟨rfl, ?_⟩))) ?_
      · exact hst1.trans ⟨Nat.le_succ _, fun _ q => .inl q, fun n hn _ => Tr.at_set_other _ _ (by omega)⟩
      rintro ⟨r, came, n⟩ H2 nx2 ⟨ml2, cl2, mp2, cp2, K1, K2, ks2, w2, t1, t2, t3, t4, t5, t6, t7, t8, t9, t10, t11⟩ again
      simp only at t4 t5 t6 t7 t8 t9 t10 t11 ⊢
      clear h1t hg1 hst1 hfr1
      refine y_under fun hund2 => ?_
      have t12 := t1.turnParty hund2 t2
      obtain ⟨pr2, v1, v2, v3, v4, v5, v6, v7, hturn2⟩ := t12
      have hk2 : (ltOf ml2 mp2).keys o = ks2 := by rw [t_keys, t2]
      (repeat (first | refine y_seq ?_ | refine w_region ?_ | refine w_move rfl rfl rfl ?_ | refine w_nilCheck rfl rfl rfl ?_ | refine w_fieldAddr rfl rfl rfl (F.fo _ _ rfl rfl) ?_ | refine w_loadB1 rfl rfl rfl (F.ag _ rfl) (by (focus (skip; first | exact Tr.at_set_same _ _ _ | assumption))) (by exact rfl) ?_ | refine w_lenSl rfl rfl rfl (F.un _ rfl) ?_))
      refine w_gtrS rfl rfl rfl rfl ?_ ?_
      all_goals intro h4
      · obtain ⟨n', rfl⟩ : ∃ n', n = n' + 1 := ⟨n - 1, by omega⟩
        obtain ⟨k, o1, o2, o3, o4, o5⟩ := t10
        have hpops : LT.pops o (n' + 1) (ltOf ml2 mp2) came = LT.pops o n' (((ltOf ml2 mp2).pop o).letGo k).1 (if (((ltOf ml2 mp2).pop o).letGo k).2 = 0 then came else came ++ [(((ltOf ml2 mp2).pop o).letGo k).2]) := by
          conv => lhs; unfold LT.pops
          rw [o1]
        rw [hpops] at t11
        rw [hk2] at o1 o4
        have hi : ks2.length - 1 < ks2.length := by omega
        have hkk : ks2[ks2.length - 1] = k := by
          rw [List.getLast?_eq_getElem?, List.getElem?_eq_getElem hi] at o1
          exact Option.some.inj o1
        (repeat (first | refine y_seq ?_ | refine y_regEnd ?_ | refine y_block ?_ | refine y_skip ?_ | refine y_condT rfl ?_))
        refine w_draw (by kernel_rfl) (by kernel_rfl) ?_
        (repeat (first | (first | refine dw_move rfl rfl rfl ?_ | refine dw_assign rfl rfl rfl ?_ | refine dw_nilCheck rfl rfl rfl ?_ | refine dw_fieldAddr rfl rfl rfl (F.fo _ _ rfl rfl) ?_ | refine dw_lenSl rfl rfl rfl (F.un _ rfl) ?_ | refine dw_sub rfl rfl rfl rfl (by omega) (by omega) ?_) | refine dw_loadB1 rfl rfl rfl (F.ag _ rfl) (by (focus (skip; first | exact Tr.at_set_same _ _ _ | assumption))) (by exact rfl) ?_ | refine dw_idxN (q := ks2.length - 1) rfl rfl rfl rfl (F.un _ rfl) (F.sz _ rfl) (by (focus (skip; first | exact Tr.at_set_same _ _ _ | assumption))) (by omega) (by first | omega | (simp; done)) (Nat.le_refl _) ?_ | refine dw_loadD1 rfl rfl rfl (F.ag _ rfl) (by (focus (skip; first | exact Tr.at_set_same _ _ _ | assumption))) (get_s hi) (by first | omega | (simp; done)) ?_))
        (refine dk_nil ?_); (refine ⟨by kernel_rfl, ?_, ?_⟩); (focus (repeat (first | exact trivial | refine ⟨.inl rfl, ?_⟩)))
        dsimp only [wrL]
        rw [hkk]
        (repeat (refine y_seq ?_))
        refine w_draw (by kernel_rfl) (by kernel_rfl) ?_
        (repeat (first | (first | refine dw_move rfl rfl rfl ?_ | refine dw_nilCheck rfl rfl rfl ?_ | refine dw_fieldAddr rfl rfl rfl (F.fo _ _ rfl rfl) ?_ | refine dw_lenSl rfl rfl rfl (F.un _ rfl) ?_ | refine dw_sub rfl rfl rfl rfl (by omega) (by omega) ?_ | refine dw_storeC rfl rfl rfl rfl (F.sz _ rfl) (by first | exact rfl | (focus (skip; first | exact Tr.at_set_same _ _ _ | assumption))) rfl (by exact Nat.le_of_ble_eq_true rfl) rfl ?_) | refine dw_loadB1 rfl rfl rfl (F.ag _ rfl) (by (focus (skip; first | exact Tr.at_set_same _ _ _ | assumption))) (by exact rfl) ?_ | refine dw_slice (lw := 0) (hg := ks2.length - 1) rfl rfl rfl (F.un _ rfl) (F.sz _ rfl) (by (focus (skip; first | exact Tr.at_set_same _ _ _ | assumption))) bd_none (bdN rfl (by omega)) (by omega) (by omega) (by omega) ?_))
        (refine dk_nil ?_); (refine ⟨by kernel_rfl, ?_, ?_⟩); (focus (repeat (first | exact trivial | refine ⟨.inl rfl, ?_⟩ | refine ⟨.inr (by (repeat (refine ⟨(by first | exact rd_not rfl | exact rd_cmp rfl rfl (.inr (.inr (.inr (.inr (.inl ⟨rfl, rfl⟩))))) | exact rd_idxN (F.un _ rfl) (F.sz _ rfl) rfl rfl rfl (by omega) (by omega) (by omega) | exact rd_arith rfl rfl (.inl ⟨rfl, (Go.IntWalk.i64_in _ ⟨by omega, by omega⟩).symm⟩) | exact rd_arith rfl rfl (.inr (.inl ⟨rfl, (Go.IntWalk.i64_in _ ⟨by omega, by omega⟩).symm⟩)) | exact rd_fieldAddr (F.fo _ _ rfl rfl) rfl | exact rd_move rfl | exact rd_assign rfl | exact rd_load1 (F.ag _ rfl) rfl rfl (cell_box rfl) | exact rd_loadN (F.ag _ rfl) rfl rfl (cellsFrom_box _ 0 rfl rfl) | exact rd_extract rfl rfl | exact rd_lenSl (F.un _ rfl) rfl | exact rd_lenStr (F.un _ rfl) rfl | exact rd_nilCheck rfl | exact rd_pickT rfl rfl | exact rd_pickF rfl rfl), ?_⟩)); exact trivial), ?_⟩ | refine ⟨.inl (by kernel_rfl), ?_⟩)))
        dsimp only [wrL]
        refine y_shrink pr2 (ks2.length - 1) (by (focus ((repeat (refine (Tr.at_set_other _ _ (by omega)).trans ?_)); first | exact Tr.at_set_same _ _ _ | assumption))) (by omega) ?_
        refine y_gen (R := fun H3 n3 => ∃ F2', Tb t a b ml2 cl2 (kput mp2 o (pn, (ks2.dropLast, w2)) cp2) cp2 K1 F2' H3 ∧ Step (All t a b K1 K2) (All t a b K1 F2') H2 nx2 H3 n3) (hturn2 (r' := pr2) ks2.dropLast w2 (Nat.le_refl _) (.inr rfl) ?_ ?_ ?_) ?_
        · refine (Tr.at_set_other _ _ (by omega)).trans ((Tr.at_set_same _ _ _).trans ?_)
          rw [List.length_dropLast]
          rfl
        · refine (Tr.at_set_same _ _ _).trans ?_
          show _ = some (dat false ks2.dropLast.length 1 9 _)
          rw [row_pre, List.length_dropLast]
        · exact fun z hz hz1 hz2 => (Tr.at_set_other _ _ (by omega)).trans (Tr.at_set_other _ _ (by omega))
        rintro H3 nx3 ⟨K3, t13, t14⟩
        have hpop : ltOf ml2 (kput mp2 o (pn, (ks2.dropLast, w2)) cp2) = (ltOf ml2 mp2).pop o := by
          rw [mput_kv_p]
          unfold LT.pop
          rw [hk2, t_waits, t2]
        rw [← hpop] at o2 o3 o4 o5 t11
        clear v1 v2 hturn2
        (repeat (first | refine y_seq ?_ | refine w_region ?_ | refine w_move rfl rfl rfl ?_))
        refine w_call rfl rfl rfl (by kernel_rfl) (Fnc.mono (letGo_b t13 k o2) ?_)
        rintro ⟨_, H4, n4⟩ ⟨rfl, ml4, cl4, mp4, cp4, M1, M2, u1, u2, u3, u4⟩
        dsimp only at u1 u2 u3 u4 ⊢
        obtain ⟨s1, s2, s3⟩ := t14.stay t6 t7
        obtain ⟨s4, s5, s6⟩ := u4.stay s3 s2
        have s7 := s4.trans (s1.trans t4)
        obtain ⟨⟨ks4, w4⟩, hg4⟩ := u3 o pn _ (kget_put _ _ _ _)
        generalize hnx : (LT.letGo (ltOf ml2 (kput mp2 o (pn, (ks2.dropLast, w2)) cp2)) k).2 = nxt at *
        rw [u2] at o3 o4 o5 t11
        have hk4 : (ltOf ml4 mp4).keys o = ks4 := by rw [t_keys, hg4]
        rw [hk4] at o4
        have hst4 := t3.trans (t14.trans u4)
        (repeat (first | refine y_seq ?_ | refine w_region ?_ | refine y_regEnd ?_ | refine w_move rfl rfl rfl ?_ | refine w_assign rfl rfl rfl ?_))
        refine w_neqS rfl rfl rfl rfl ?_ ?_
        all_goals intro h5
        · rw [if_neg (by omega)] at t11
          have hlen : (came ++ [nxt]).length = came.length + 1 := by simp
          refine y_under fun hund4 => ?_
          have hal4 := u1.all_lt hund4
          (repeat (first | (first | refine w_region ?_ | refine y_regEnd ?_ | refine y_inBlock ?_ | refine y_condT rfl ?_ | refine w_move rfl rfl rfl ?_ | refine w_assign rfl rfl rfl ?_) | refine w_buildSlice rfl rfl (F.un _ rfl) (F.sz _ rfl) rfl (F.ze _ rfl) rfl rfl rfl rfl rfl ?_ | refine w_push (b := 8) (xs := came) (a := nxt) rfl rfl rfl rfl (F.un _ rfl) (.inl ⟨_, F.un _ rfl⟩) (F.sz _ rfl) rfl (by kernel_rfl) (by kernel_rfl) (by (focus ((repeat (refine (Tr.at_set_other _ _ (by omega)).trans ?_)); first | exact Tr.at_set_same _ _ _ | assumption))) (by (focus (skip; first | exact Tr.at_set_same _ _ _ | assumption))) (by exact rfl) (recU) (by omega) (by omega) ?_))
          have hfr4 : ∀ z, All t a b M1 M2 z → z < n4 ∧ z ≠ r := fun z hz => ⟨hal4 z hz, fun e => s5 (e ▸ hz)⟩
          refine again _ _ _ (n4 + 1, came ++ [nxt], n') ⟨ml4, cl4, mp4, cp4, M1, M2, ks4, w4, u1.frame fun z hz => ?_, hg4, ⟨Nat.le_trans hst4.1 (Nat.le_trans (Nat.le_succ _) (Nat.le_succ _)), hst4.2.1, fun z hz hf => ?_⟩, ?_, by simp only; have := hst4.1; omega, by simp only; omega, fun q => by have := hal4 _ q; simp only at this; omega, by simp only; omega, by simp only; omega, o5, t11⟩ (by simp only; omega) (SlIn.sub (by repeat (first | exact trivial | refine ⟨rfl, ?_⟩)))
          · have := hfr4 z hz
            exact (Tr.at_set_other _ _ (by omega)).trans ((Tr.at_del_other _ (by omega)).trans (Tr.at_set_other _ _ (by omega)))
          · have := hst4.1
            exact (Tr.at_set_other _ _ (by omega)).trans ((Tr.at_del_other _ (by omega)).trans ((Tr.at_set_other _ _ (by omega)).trans (hst4.2.2 z hz hf)))
          · exact Tr.at_set_same _ _ _
        · rw [if_pos (by omega)] at t11
          (repeat (first | refine y_regEnd ?_ | refine y_inBlock ?_ | refine y_skip ?_ | refine y_condF rfl ?_))
          refine again _ _ _ (r, came, n') ⟨ml4, cl4, mp4, cp4, M1, M2, ks4, w4, u1, hg4, hst4, s7, t5, s6, s5, by simp only; omega, by simp only; omega, o5, t11⟩ (by simp only; omega) (SlIn.sub (by repeat (first | exact trivial | refine ⟨rfl, ?_⟩)))
      · have hn : n = 0 := by omega
        subst hn
        have t11' : (ltOf ml2 mp2, came) = LT.pops o (ks.length - m) ((ltOf ml mp).leave o) [] := t11
        rw [← t11']
        simp only [hk2]
        (repeat (first | refine y_seq ?_ | refine w_region ?_ | refine y_regEnd ?_ | refine y_exit rfl ?_ | refine y_condF rfl ?_ | refine w_move rfl rfl rfl ?_ | refine w_nilCheck rfl rfl rfl ?_ | refine w_fieldAddr rfl rfl rfl (F.fo _ _ rfl rfl) ?_ | refine w_loadB1 rfl rfl rfl (F.ag _ rfl) (by (focus (skip; first | exact Tr.at_set_same _ _ _ | assumption))) (by exact rfl) ?_ | refine w_lenSl rfl rfl rfl (F.un _ rfl) ?_))
        refine w_eqlS rfl rfl rfl rfl ?_ ?_
        all_goals intro h5
        · have hpar2 := t1.parties
          have htab2 := t1.tab
          rw [if_pos (by omega)]
          (repeat (first | (first | refine y_seq ?_ | refine w_region ?_ | refine y_regEnd ?_ | refine y_condT rfl ?_ | refine w_move rfl rfl rfl ?_ | refine w_assign rfl rfl rfl ?_ | refine w_nilCheck rfl rfl rfl ?_ | refine w_fieldAddr rfl rfl rfl (F.fo _ _ rfl rfl) ?_ | refine w_loadB1 rfl rfl rfl (F.ag _ rfl) (by (focus (skip; first | exact Tr.at_set_same _ _ _ | assumption))) (by exact rfl) ?_) | refine w_mapDelN (m := mp2) (enc := oE) (val := pVal) rfl rfl rfl (F.un _ rfl) (oK) (by first | exact rfl | (focus (skip; first | exact Tr.at_set_same _ _ _ | assumption))) ?_))
          ((apply w_ret Try.func15 (congrArg Array.toList Try.results15)); (focus (repeat (first | exact ResIs.nil | apply ResIs.tmp rfl))))
          obtain ⟨pr', PG, g1, g2, g3, g4, g5, g6, g7, _⟩ := t1.party t2
          have hGF : ∀ z, PG z → K2 z := fun z hz => (g7 z).2 (.inr hz)
          have hrb : r ≠ b := fun e => t7 (.inr (.inr (.inl e)))
          have hne2 := t1.ne
          have hsub : ∀ z, All t a b K1 PG z → All t a b K1 K2 z := fun z hz => by
            rcases hz with hz | hz | hz | hz | hz
            · exact .inl hz
            · exact .inr (.inl hz)
            · exact .inr (.inr (.inl hz))
            · exact .inr (.inr (.inr (.inl hz)))
            · exact .inr (.inr (.inr (.inr (hGF z hz))))
          refine ⟨r, rfl, (Tr.at_set_other _ _ (by omega)).trans t4, t5, t6, All t a b K1 PG, ⟨a, b, _, _, _, _, K1, PG, t1.delParty g4 hGF (Tr.at_set_same _ _ _) (fun z hz => Tr.at_set_other _ _ ?_), (mdel_kv_p _ _ _).symm, fun _ => Iff.rfl⟩, fun q => t7 (hsub _ q), t3.trans ⟨Nat.le_refl _, fun z hz => .inl (hsub z hz), fun z hz hf => Tr.at_set_other _ _ ?_⟩⟩
          · rcases hz with rfl | rfl | hz | hz
            · omega
            · omega
            · have := (t1.d2 _ (hGF z hz)).2.2; omega
            · have := (t1.d1 _ hz).2.2.1; omega
          · intro e
            exact hf (.inr (.inr (.inl (by omega))))
        · rw [if_neg (by omega)]
          (repeat (first | refine y_seq ?_ | refine w_region ?_ | refine y_regEnd ?_ | refine y_skip ?_ | refine y_condF rfl ?_ | refine w_move rfl rfl rfl ?_ | refine w_assign rfl rfl rfl ?_))
          ((apply w_ret Try.func15 (congrArg Array.toList Try.results15)); (focus (repeat (first | exact ResIs.nil | apply ResIs.tmp rfl))))
          exact ⟨r, rfl, t4, t5, t6, _, ⟨a, b, _, _, _, _, _, _, t1, rfl, fun _ => Iff.rfl⟩, t7, t3⟩
end Go.Proofs.Ytckajlllkmkniaa
end
section
namespace Go.Proofs.Ytckajlllkmkniaa
open Go Go.Sy Go.Sl Go.RowKit
theorem cells_party : (Value.agg #[Value.slice none 0 0, Value.string ⟨#[]⟩]).cells.toList = [Value.slice none 0 0, Value.string ⟨#[]⟩] := by
  simp [Value.cells]
theorem nil_party {e : Env} {nx : Nat} {v : Value} (h0 : e nx = some ⟨0, 0, 0, 1, true⟩) (h1 : (SV.agg (List.map SV.sc (Value.agg #[Value.slice none 0 0, Value.string ⟨#[]⟩]).cells.toList)).conc e = some v) : (SV.agg [.slu nx 0 0, .sc (.string ⟨#[]⟩)]).conc e = some v := by
  rw [cells_party] at h1
  simpa [SV.conc, SV.concL, h0, Ent.at] using h1
theorem cells_held : (Value.agg #[Value.int .u64 0, Value.slice none 0 0]).cells.toList = [Value.int .u64 0, Value.slice none 0 0] := by
  simp [Value.cells]
theorem nil_held {e : Env} {nx o : Nat} {v : Value} (h0 : e nx = some ⟨0, 0, 0, 1, true⟩) (h1 : (SV.agg (List.take 0 (List.map SV.sc (Value.agg #[Value.int .u64 0, Value.slice none 0 0]).cells.toList) ++ (SV.sc (Value.int .u64 (o : Int))).cells ++ List.drop (0 + 1) (List.map SV.sc (Value.agg #[Value.int .u64 0, Value.slice none 0 0]).cells.toList))).conc e = some v) : (SV.agg [.sc (.int .u64 (o : Int)), .slu nx 0 0]).conc e = some v := by
  rw [cells_held] at h1
  simpa [SV.conc, SV.concL, SV.cells, h0, Ent.at] using h1
theorem chg_of {t a b : Nat} {ml' : MLk} {cl' : Nat} {mp' : MPt} {cp' : Nat} {F1 F2 F1' Fp : Nat → Prop} {H H2 Hf : Heap} {nx n2 nf : Nat} {T' : LT} {v : SV} (hs : Step Fp (All t a b F1 F2) H nx H2 n2) (hf : ∃ F3, Tb t a b ml' cl' mp' cp' F1' F3 Hf ∧ Step (All t a b F1 F2) (All t a b F1' F3) H2 n2 Hf nf) (hT : T' = ltOf ml' mp') : Chg t T' v Fp H nx (v, Hf, nf) := by
  obtain ⟨F3, h3, h4⟩ := hf
  exact ⟨rfl, _, ⟨a, b, _, _, _, _, _, _, h3, hT, fun _ => Iff.rfl⟩, hs.trans h4⟩
theorem Tb.frameA {t a b : Nat} {ml : MLk} {cl : Nat} {mp : MPt} {cp : Nat} {F1 F2 : Nat → Prop} {H H' : Heap} (h : Tb t a b ml cl mp cp F1 F2 H) (hf : ∀ n, All t a b F1 F2 n → H'.at' n = H.at' n) : Tb t a b ml cl mp cp F1 F2 H' := ⟨(hf _ (.inl rfl)).trans h.tab, (hf _ (.inr (.inl rfl))).trans h.locks, (hf _ (.inr (.inr (.inl rfl)))).trans h.parties, h.okl, h.okp, Big.frame PL_frame _ _ _ _ h.bl fun z hz => hf _ (.inr (.inr (.inr (.inl hz)))), Big.frame PP_frame _ _ _ _ h.bp fun z hz => hf _ (.inr (.inr (.inr (.inr hz)))), h.ne, h.d1, h.d2⟩
theorem Tb.all_ltA {t a b : Nat} {ml : MLk} {cl : Nat} {mp : MPt} {cp : Nat} {F1 F2 : Nat → Prop} {H : Heap} {nx : Nat} (h : Tb t a b ml cl mp cp F1 F2 H) (hu : ∀ b vo, H.at' b = some vo → b < nx) : ∀ n, All t a b F1 F2 n → n < nx := by
  obtain ⟨h1, h2, h3, h4, h5⟩ := h.lt hu
  intro n hn
  rcases hn with rfl | rfl | rfl | hn | hn
  · exact h1
  · exact h2
  · exact h3
  · exact h4 _ hn
  · exact h5 _ hn
set_option maxRecDepth 100000 in
set_option maxHeartbeats 0 in
theorem ask_t {t : Nat} {T : LT} {Fp : Nat → Prop} {H : Heap} {nx : Nat} (hT : TabAt t T Fp H) (o : Nat) (k : ByteArray) (hks : (T.keys o).length < 999999) (hln : (T.line k).length < 999999) (hsz : k.size < 4611686018427387904)
    (hr : ∀ h l, mget T.locks k = some (h, l) → T.chase o 1001 h = some (decide (T.chase o (T.parties.length + 1) h = some true))) :
    Fnc Try.prog 29 [.ptr t 0, .sc (.int .u64 (o : Int)), .sc (.string k)] H nx (Chg t (T.ask o k).1 (.sc (.int .i64 (T.ask o k).2)) Fp H nx) := by
  have hT0 := hT
  obtain ⟨a, b, ml, cl, mp, cp, F1, F2, h, rfl, hF⟩ := hT
  have hFp : Fp = All t a b F1 F2 := funext fun n => propext (hF n)
  subst hFp
  have htab := h.tab
  have hloc := h.locks
  have hpar := h.parties
  have hne := h.ne
  refine Fnc.start Try.func29 rfl rfl ?_
  refine y_under fun hund => ?_
  obtain ⟨ut, ua, ub, u1, u2⟩ := h.lt hund
  (repeat (first | (first | refine y_seq ?_ | refine w_region ?_ | refine y_regEnd ?_ | refine y_skip ?_ | refine y_condF rfl ?_ | refine w_move rfl rfl rfl ?_ | refine w_assign rfl rfl rfl ?_) | (refine w_call rfl rfl rfl (by kernel_rfl) (Fnc.mono (none_t htab) ?_); rintro _ rfl; dsimp only)))
  refine w_eqlS rfl rfl rfl rfl ?_ ?_
  all_goals intro h1
  · have hask : (ltOf ml mp).ask o k = (ltOf ml mp, 2) := by unfold LT.ask; rw [if_pos (.inl (by omega))]
    rw [hask]
    (repeat (first | refine y_seq ?_ | refine w_region ?_ | refine y_regEnd ?_ | refine y_condT rfl ?_ | refine w_move rfl rfl rfl ?_ | refine w_assign rfl rfl rfl ?_ | refine w_pickT rfl rfl rfl rfl ?_ | refine w_not rfl ?_))
    ((apply w_ret Try.func29 (congrArg Array.toList Try.results29)); (focus (repeat (first | exact ResIs.nil | apply ResIs.tmp rfl))))
    exact chg_same hT0 _
  by_cases h2 : k.size = 0
  · have hask : (ltOf ml mp).ask o k = (ltOf ml mp, 2) := by unfold LT.ask; rw [if_pos (.inr (.inl h2))]
    have he := empty_of h2
    rw [hask]
    (repeat (first | (first | refine y_seq ?_ | refine w_region ?_ | refine y_regEnd ?_ | refine y_condT rfl ?_ | refine w_move rfl rfl rfl ?_ | refine w_assign rfl rfl rfl ?_ | refine w_pickT rfl rfl rfl rfl ?_ | refine w_pickF rfl rfl rfl rfl ?_ | refine w_not rfl ?_) | refine w_eqStrV rfl rfl rfl rfl he ?_))
    ((apply w_ret Try.func29 (congrArg Array.toList Try.results29)); (focus (repeat (first | exact ResIs.nil | apply ResIs.tmp rfl))))
    exact chg_same hT0 _
  have he := empty_ne h2
  (repeat (first | (first | refine w_move rfl rfl rfl ?_ | refine w_pickF rfl rfl rfl rfl ?_ | refine w_lenStr rfl rfl rfl (F.un _ rfl) ?_) | refine w_eqStrV rfl rfl rfl rfl he ?_))
  refine w_gtrS rfl rfl rfl rfl ?_ ?_
  all_goals intro h3
  · have hask : (ltOf ml mp).ask o k = (ltOf ml mp, 2) := by unfold LT.ask; rw [if_pos (.inr (.inr (by omega)))]
    rw [hask]
    (repeat (first | refine y_seq ?_ | refine w_region ?_ | refine y_regEnd ?_ | refine y_condT rfl ?_ | refine w_assign rfl rfl rfl ?_ | refine w_pickF rfl rfl rfl rfl ?_))
    ((apply w_ret Try.func29 (congrArg Array.toList Try.results29)); (focus (repeat (first | exact ResIs.nil | apply ResIs.tmp rfl))))
    exact chg_same hT0 _
  have hc1 : ¬ (o = 0 ∨ k.size = 0 ∨ 32 < k.size) := by omega
  cases hgp : kget mp o with
  | none =>
    have hkeys : (ltOf ml mp).keys o = [] := by rw [t_keys, hgp]
    have hwt : ¬ ((ltOf ml mp).waits o).size ≠ 0 := by rw [t_waits, hgp]; exact fun q => q rfl
    (repeat (first | (first | refine y_seq ?_ | refine w_region ?_ | refine y_regEnd ?_ | refine y_skip ?_ | refine y_condF rfl ?_ | refine w_move rfl rfl rfl ?_ | refine w_assign rfl rfl rfl ?_ | refine w_pickF rfl rfl rfl rfl ?_ | refine w_nilCheck rfl rfl rfl ?_ | refine w_fieldAddr rfl rfl rfl (F.fo _ _ rfl rfl) ?_ | refine w_not rfl ?_ | refine w_noNil rfl rfl rfl rfl rfl (F.un _ rfl) rfl ?_ | refine w_loadB1 rfl rfl rfl (F.ag _ rfl) (by (focus (skip; first | exact Tr.at_set_same _ _ _ | assumption))) (by exact rfl) ?_) | refine w_lookZ (m := mp) (enc := oE) (val := pVal) rfl rfl rfl rfl (F.un _ rfl) (oK) (by first | exact rfl | (focus (skip; first | exact Tr.at_set_same _ _ _ | assumption))) (hgp) (F.ze _ rfl) ?_))
    cases hgl : kget ml k with
    | none =>
      have hask : (ltOf ml mp).ask o k = (⟨mput (ltOf ml mp).locks k (o, []), mput (ltOf ml mp).parties o ((ltOf ml mp).keys o ++ [k], ⟨#[]⟩)⟩, 0) := by unfold LT.ask; rw [if_neg hc1, if_neg hwt, get_l, hgl]; rfl
      (repeat (first | refine y_nilIn (d := 66) (s := .agg (List.map SV.sc (Value.agg #[Value.slice none 0 0, Value.string ⟨#[]⟩]).cells.toList)) (s' := .agg [.slu _ 0 0, .sc (.string ⟨#[]⟩)]) 1 9 (by exact rfl) rfl (fun e v h0 h1 => nil_party h0 h1) ?_ | (first | refine y_seq ?_ | refine w_region ?_ | refine y_regEnd ?_ | refine y_skip ?_ | refine y_condT rfl ?_ | refine y_condF rfl ?_ | refine w_move rfl rfl rfl ?_ | refine w_assign rfl rfl rfl ?_ | refine w_pickF rfl rfl rfl rfl ?_ | refine w_nilCheck rfl rfl rfl ?_ | refine w_fieldAddr rfl rfl rfl (F.fo _ _ rfl rfl) ?_ | refine w_not rfl ?_ | refine w_isNil rfl rfl rfl rfl rfl (F.un _ rfl) rfl ?_ | refine w_noNil rfl rfl rfl rfl rfl (F.un _ rfl) rfl ?_ | refine w_boxN rfl rfl rfl ?_ | refine w_loadB1 rfl rfl rfl (F.ag _ rfl) (by (focus ((repeat (refine (Tr.at_set_other _ _ (by omega)).trans ?_)); first | exact Tr.at_set_same _ _ _ | assumption))) (by exact rfl) ?_ | refine w_build rfl rfl rfl (F.ze _ rfl) (F.pl _ rfl) rfl ?_) | refine w_lookZ (m := ml) (enc := kE) (val := lVal) rfl rfl rfl rfl (F.un _ rfl) (kK) (by first | exact rfl | (focus (skip; first | exact Tr.at_set_same _ _ _ | assumption))) (hgl) (F.ze _ rfl) ?_))
      refine w_mapUp (m := mp) (enc := oE) (val := pVal) (kk := o) (v := (nx + 1, (([] : List ByteArray), (⟨#[]⟩ : ByteArray)))) rfl rfl rfl (F.un _ rfl) (oK) (by first | exact rfl | (focus ((repeat (refine (Tr.at_set_other _ _ (by omega)).trans ?_)); first | exact Tr.at_set_same _ _ _ | assumption))) rfl ?_
      refine y_gen (R := fun H2 n2 => Tb t a b ml cl (kput mp o (nx + 1, ([], ⟨#[]⟩)) cp) (kclk mp o cp) F1 (fun z => (z = nx + 1 ∨ z = nx) ∨ F2 z) H2 ∧ Step (All t a b F1 F2) (All t a b F1 (fun z => (z = nx + 1 ∨ z = nx) ∨ F2 z)) H nx H2 n2) (h.newParty hund hgp ?_ ?_ ?_ ?_) ?_
      · exact (Tr.at_set_other _ _ (by omega)).trans (Tr.at_set_same _ _ _)
      · exact (Tr.at_set_other _ _ (by omega)).trans ((Tr.at_set_other _ _ (by omega)).trans (Tr.at_set_same _ _ _))
      · exact Tr.at_set_same _ _ _
      · exact fun z hz hb => (Tr.at_set_other _ _ (by omega)).trans ((Tr.at_set_other _ _ (by omega)).trans (Tr.at_set_other _ _ (by omega)))
      rintro H' nx' ⟨h', hstep⟩
      have hgp' : kget (kput mp o (nx + 1, (([] : List ByteArray), (⟨#[]⟩ : ByteArray))) cp) o = some (nx + 1, ([], ⟨#[]⟩)) := kget_put _ _ _ _
      have hput : ∀ y, mput (ltOf ml (kput mp o (nx + 1, ([], ⟨#[]⟩)) cp)).parties o y = mput (ltOf ml mp).parties o y := fun y => by rw [mput_kv_p]; exact mput_mput _ _ _ _
      refine y_under fun hund' => ?_
      obtain ⟨ut', ua', ub', u1', u2'⟩ := h'.lt hund'
      have htab' := h'.tab
      have hloc' := h'.locks
      (repeat (first | refine y_nilIn (d := 82) (s := .agg (List.take 0 (List.map SV.sc (Value.agg #[Value.int .u64 0, Value.slice none 0 0]).cells.toList) ++ (SV.sc (Value.int .u64 (o : Int))).cells ++ List.drop (0 + 1) (List.map SV.sc (Value.agg #[Value.int .u64 0, Value.slice none 0 0]).cells.toList))) (s' := .agg [.sc (.int .u64 (o : Int)), .slu _ 0 0]) 1 23 (by exact rfl) rfl (fun e v h0 h1 => nil_held h0 h1) ?_ | (first | refine y_seq ?_ | refine w_region ?_ | refine y_regEnd ?_ | refine y_condT rfl ?_ | refine w_move rfl rfl rfl ?_ | refine w_nilCheck rfl rfl rfl ?_ | refine w_fieldAddr rfl rfl rfl (F.fo _ _ rfl rfl) ?_ | refine w_isNil rfl rfl rfl rfl rfl (F.un _ rfl) rfl ?_ | refine w_boxN rfl rfl rfl ?_ | refine w_loadB1 rfl rfl rfl (F.ag _ rfl) (by (focus (skip; first | exact Tr.at_set_same _ _ _ | assumption))) (by exact rfl) ?_ | refine w_build rfl rfl rfl (F.ze _ rfl) (F.pl _ rfl) rfl ?_)))
      refine w_mapUp (m := ml) (enc := kE) (val := lVal) (kk := k) (v := (nx' + 1, (o, ([] : List Nat)))) rfl rfl rfl (F.un _ rfl) (kK) (by first | exact rfl | (focus ((repeat (refine (Tr.at_set_other _ _ (by omega)).trans ?_)); first | exact Tr.at_set_same _ _ _ | assumption))) rfl ?_
      refine y_gen (R := fun H2 n2 => Tb t a b (kput ml k (nx' + 1, (o, [])) cl) (kclk ml k cl) (kput mp o (nx + 1, ([], ⟨#[]⟩)) cp) (kclk mp o cp) (fun z => (z = nx' + 1 ∨ z = nx') ∨ F1 z) (fun z => (z = nx + 1 ∨ z = nx) ∨ F2 z) H2 ∧ Step (All t a b F1 (fun z => (z = nx + 1 ∨ z = nx) ∨ F2 z)) (All t a b (fun z => (z = nx' + 1 ∨ z = nx') ∨ F1 z) (fun z => (z = nx + 1 ∨ z = nx) ∨ F2 z)) H' nx' H2 n2) (h'.newLock hund' hgl ?_ ?_ ?_ ?_) ?_
      · exact (Tr.at_set_other _ _ (by omega)).trans (Tr.at_set_same _ _ _)
      · exact (Tr.at_set_other _ _ (by omega)).trans ((Tr.at_set_other _ _ (by omega)).trans (Tr.at_set_same _ _ _))
      · exact Tr.at_set_same _ _ _
      · exact fun z hz hb => (Tr.at_set_other _ _ (by omega)).trans ((Tr.at_set_other _ _ (by omega)).trans (Tr.at_set_other _ _ (by omega)))
      rintro H2 n2 ⟨h2', hstep2⟩
      refine y_under fun hund2 => ?_
      obtain ⟨r2, q1, q2, q3, q4, q5, q6, q7, hturn⟩ := h2'.turnParty hund2 hgp'
      have hlk : (([] : List ByteArray)).length < 999999 := by rw [hkeys] at hks; exact hks
      (repeat (first | (first | refine y_seq ?_ | refine w_region ?_ | refine y_regEnd ?_ | refine w_move rfl rfl rfl ?_ | refine w_assign rfl rfl rfl ?_ | refine w_nilCheck rfl rfl rfl ?_ | refine w_fieldAddr rfl rfl rfl (F.fo _ _ rfl rfl) ?_ | refine w_storeC rfl rfl rfl rfl (F.sz _ rfl) (by first | exact rfl | (focus ((repeat (first | refine (Tr.at_set_other _ _ (by omega)).trans ?_ | refine (Tr.at_del_other _ (by omega)).trans ?_)); first | exact Tr.at_set_same _ _ _ | assumption))) rfl (by exact Nat.le_of_ble_eq_true rfl) rfl ?_ | refine w_loadB1 rfl rfl rfl (F.ag _ rfl) (by (focus (skip; first | exact Tr.at_set_same _ _ _ | assumption))) (by exact rfl) ?_) | refine w_buildSlice rfl rfl (F.un _ rfl) (F.sz _ rfl) rfl (F.ze _ rfl) rfl rfl rfl rfl rfl ?_ | refine w_push (b := 16) (xs := ([] : List ByteArray)) (a := k) rfl rfl rfl rfl (F.un _ rfl) (.inl ⟨_, F.un _ rfl⟩) (F.sz _ rfl) rfl (by kernel_rfl) (by kernel_rfl) (by (focus ((repeat (refine (Tr.at_set_other _ _ (by omega)).trans ?_)); first | exact Tr.at_set_same _ _ _ | assumption))) (by (focus (skip; first | exact Tr.at_set_same _ _ _ | assumption))) (by exact rfl) (recS) (by omega) (by omega) ?_))
      ((apply w_ret Try.func29 (congrArg Array.toList Try.results29)); (focus (repeat (first | exact ResIs.nil | apply ResIs.tmp rfl))))
      have hlen : (([] : List ByteArray)).length + 1 = ((([] : List ByteArray)) ++ [k]).length := by simp
      rw [hask]
      refine chg_of (hstep.trans hstep2) (hturn (r' := n2 + 1) ((([] : List ByteArray)) ++ [k]) ⟨#[]⟩ (Nat.le_trans (Nat.le_succ _) (Nat.le_succ _)) (.inl (Nat.le_succ _)) ?_ ?_ ?_) ?_
      · refine (Tr.at_set_same _ _ _).trans ?_
        rw [← hlen]
        try rfl
      · refine (Tr.at_set_other _ _ (by omega)).trans ((Tr.at_set_same _ _ _).trans ?_)
        show _ = some (dat false ((([] : List ByteArray)) ++ [k]).length 1 9 (((([] : List ByteArray)) ++ [k]).flatMap sV))
        rw [← hlen]
        try rfl
      · exact fun z hz hz1 hz2 => (Tr.at_set_other _ _ (by omega)).trans ((Tr.at_set_other _ _ (by omega)).trans ((Tr.at_del_other _ (by omega)).trans (Tr.at_set_other _ _ (by omega))))
      rw [mput_kv_p, mput_kv_l, hkeys]
      try exact congrArg (LT.mk _) (hput _).symm
    | some y =>
      obtain ⟨ln, ow, l⟩ := y
      obtain ⟨lr, LG, k1, k2, k3, k4, k5, k6, k7, _⟩ := h.lock hgl
      (repeat (first | (first | refine y_seq ?_ | refine w_region ?_ | refine y_regEnd ?_ | refine w_move rfl rfl rfl ?_ | refine w_assign rfl rfl rfl ?_ | refine w_nilCheck rfl rfl rfl ?_ | refine w_fieldAddr rfl rfl rfl (F.fo _ _ rfl rfl) ?_ | refine w_neNil rfl rfl rfl rfl (F.un _ rfl) rfl ?_ | refine w_loadB1 rfl rfl rfl (F.ag _ rfl) (by (focus (skip; first | exact Tr.at_set_same _ _ _ | assumption))) (by exact rfl) ?_) | refine w_lookV (m := ml) (enc := kE) (val := lVal) rfl rfl rfl rfl (F.un _ rfl) (kK) (by first | exact rfl | (focus (skip; first | exact Tr.at_set_same _ _ _ | assumption))) (hgl) ?_))
      have hgl' : mget (ltOf ml mp).locks k = some (ow, l) := by rw [get_l, hgl]; rfl
      have hl9 : l.length < 999999 := by
        have hq := hln
        unfold LT.line at hq
        rw [hgl'] at hq
        exact hq
      refine w_eqlS rfl rfl rfl rfl ?_ ?_
      all_goals intro h5
      · have hask : (ltOf ml mp).ask o k = (ltOf ml mp, 0) := by
          unfold LT.ask
          rw [if_neg hc1, if_neg hwt, hgl']
          simp only
          rw [if_pos (by omega)]
        rw [hask]
        (repeat (first | refine y_seq ?_ | refine w_region ?_ | refine y_regEnd ?_ | refine y_condT rfl ?_ | refine w_assign rfl rfl rfl ?_ | refine w_pickT rfl rfl rfl rfl ?_))
        ((apply w_ret Try.func29 (congrArg Array.toList Try.results29)); (focus (repeat (first | exact ResIs.nil | apply ResIs.tmp rfl))))
        exact chg_same hT0 _
      have hch := hr ow l hgl'
      (repeat (first | refine y_seq ?_ | refine w_region ?_ | refine y_regEnd ?_ | refine y_skip ?_ | refine y_condF rfl ?_ | refine w_move rfl rfl rfl ?_ | refine w_pickT rfl rfl rfl rfl ?_ | refine w_nilCheck rfl rfl rfl ?_ | refine w_fieldAddr rfl rfl rfl (F.fo _ _ rfl rfl) ?_ | refine w_neNil rfl rfl rfl rfl (F.un _ rfl) rfl ?_ | refine w_loadB1 rfl rfl rfl (F.ag _ rfl) (by (focus (skip; first | exact Tr.at_set_same _ _ _ | assumption))) (by exact rfl) ?_))
      refine w_call rfl rfl rfl (by kernel_rfl) (Fnc.mono (ring_t hT0 o ow _ hch) ?_)
      rintro ⟨_, H1, n1⟩ ⟨rfl, hle1, hfr1⟩
      dsimp only at hle1 hfr1 ⊢
      have h1 := h.frameA (H' := H1) fun n hn => hfr1 n (h.all_ltA hund n hn)
      have hstep1 : Step (All t a b F1 F2) (All t a b F1 F2) H nx H1 n1 := ⟨hle1, fun _ q => .inl q, fun n hn _ => hfr1 n hn⟩
      by_cases hd : (ltOf ml mp).chase o ((ltOf ml mp).parties.length + 1) ow = some true
      · have hask : (ltOf ml mp).ask o k = (ltOf ml mp, 10) := by
          unfold LT.ask
          rw [if_neg hc1, if_neg hwt, hgl']
          simp only
          rw [if_neg (by omega), if_pos hd]
        rw [hask, decide_eq_true hd]
        (repeat (first | refine y_seq ?_ | refine w_region ?_ | refine y_regEnd ?_ | refine y_condT rfl ?_ | refine w_assign rfl rfl rfl ?_ | refine w_pickT rfl rfl rfl rfl ?_))
        ((apply w_ret Try.func29 (congrArg Array.toList Try.results29)); (focus (repeat (first | exact ResIs.nil | apply ResIs.tmp rfl))))
        exact ⟨rfl, _, ⟨a, b, _, _, _, _, _, _, h1, rfl, fun _ => Iff.rfl⟩, hstep1⟩
      have hask : (ltOf ml mp).ask o k = (⟨mput (ltOf ml mp).locks k (ow, l ++ [o]), mput (ltOf ml mp).parties o ((ltOf ml mp).keys o, k)⟩, 9) := by
        unfold LT.ask
        rw [if_neg hc1, if_neg hwt, hgl']
        simp only
        rw [if_neg (by omega), if_neg hd]
      rw [decide_eq_false hd]
      clear hr hch hund
      refine y_under fun hund1 => ?_
      have hpar1 := h1.parties
      have htab1 := h1.tab
      (repeat (first | refine y_nilIn (d := 66) (s := .agg (List.map SV.sc (Value.agg #[Value.slice none 0 0, Value.string ⟨#[]⟩]).cells.toList)) (s' := .agg [.slu _ 0 0, .sc (.string ⟨#[]⟩)]) 1 9 (by exact rfl) rfl (fun e v h0 h1 => nil_party h0 h1) ?_ | (first | refine y_seq ?_ | refine w_region ?_ | refine y_regEnd ?_ | refine y_skip ?_ | refine y_condT rfl ?_ | refine y_condF rfl ?_ | refine w_move rfl rfl rfl ?_ | refine w_assign rfl rfl rfl ?_ | refine w_pickT rfl rfl rfl rfl ?_ | refine w_nilCheck rfl rfl rfl ?_ | refine w_fieldAddr rfl rfl rfl (F.fo _ _ rfl rfl) ?_ | refine w_isNil rfl rfl rfl rfl rfl (F.un _ rfl) rfl ?_ | refine w_boxN rfl rfl rfl ?_ | refine w_loadB1 rfl rfl rfl (F.ag _ rfl) (by (focus ((repeat (refine (Tr.at_set_other _ _ (by omega)).trans ?_)); first | exact Tr.at_set_same _ _ _ | assumption))) (by exact rfl) ?_ | refine w_build rfl rfl rfl (F.ze _ rfl) (F.pl _ rfl) rfl ?_)))
      refine w_mapUp (m := mp) (enc := oE) (val := pVal) (kk := o) (v := (n1 + 1, (([] : List ByteArray), (⟨#[]⟩ : ByteArray)))) rfl rfl rfl (F.un _ rfl) (oK) (by first | exact rfl | (focus ((repeat (refine (Tr.at_set_other _ _ (by omega)).trans ?_)); first | exact Tr.at_set_same _ _ _ | assumption))) rfl ?_
      refine y_gen (R := fun H2 n2 => Tb t a b ml cl (kput mp o (n1 + 1, ([], ⟨#[]⟩)) cp) (kclk mp o cp) F1 (fun z => (z = n1 + 1 ∨ z = n1) ∨ F2 z) H2 ∧ Step (All t a b F1 F2) (All t a b F1 (fun z => (z = n1 + 1 ∨ z = n1) ∨ F2 z)) H1 n1 H2 n2) (h1.newParty hund1 hgp ?_ ?_ ?_ ?_) ?_
      · exact (Tr.at_set_other _ _ (by omega)).trans (Tr.at_set_same _ _ _)
      · exact (Tr.at_set_other _ _ (by omega)).trans ((Tr.at_set_other _ _ (by omega)).trans (Tr.at_set_same _ _ _))
      · exact Tr.at_set_same _ _ _
      · exact fun z hz hb => (Tr.at_set_other _ _ (by omega)).trans ((Tr.at_set_other _ _ (by omega)).trans (Tr.at_set_other _ _ (by omega)))
      rintro H2 n2 ⟨h2, hstep2⟩
      clear hpar1 htab1
      have hgp' : kget (kput mp o (n1 + 1, (([] : List ByteArray), (⟨#[]⟩ : ByteArray))) cp) o = some (n1 + 1, ([], ⟨#[]⟩)) := kget_put _ _ _ _
      have hput : ∀ y, mput (ltOf ml (kput mp o (n1 + 1, ([], ⟨#[]⟩)) cp)).parties o y = mput (ltOf ml mp).parties o y := fun y => by rw [mput_kv_p]; exact mput_mput _ _ _ _
      refine y_under fun hund2 => ?_
      obtain ⟨lr', q1, q2, q3, q4, q5, q6, q7, hturnL⟩ := h2.turnLock hund2 hgl
      clear h htab hloc hpar
      (repeat (first | (first | refine y_seq ?_ | refine w_region ?_ | refine y_regEnd ?_ | refine y_skip ?_ | refine y_condF rfl ?_ | refine w_move rfl rfl rfl ?_ | refine w_nilCheck rfl rfl rfl ?_ | refine w_fieldAddr rfl rfl rfl (F.fo _ _ rfl rfl) ?_ | refine w_eqNil rfl rfl rfl rfl (F.un _ rfl) rfl ?_ | refine w_storeC rfl rfl rfl rfl (F.sz _ rfl) (by first | exact rfl | (focus ((repeat (first | refine (Tr.at_set_other _ _ (by omega)).trans ?_ | refine (Tr.at_del_other _ (by omega)).trans ?_)); first | exact Tr.at_set_same _ _ _ | assumption))) rfl (by exact Nat.le_of_ble_eq_true rfl) rfl ?_ | refine w_loadB1 rfl rfl rfl (F.ag _ rfl) (by (focus (skip; first | exact Tr.at_set_same _ _ _ | assumption))) (by exact rfl) ?_) | refine w_buildSlice rfl rfl (F.un _ rfl) (F.sz _ rfl) rfl (F.ze _ rfl) rfl rfl rfl rfl rfl ?_ | refine w_push (b := 8) (xs := l) (a := o) rfl rfl rfl rfl (F.un _ rfl) (.inl ⟨_, F.un _ rfl⟩) (F.sz _ rfl) rfl (by kernel_rfl) (by kernel_rfl) (by (focus ((repeat (refine (Tr.at_set_other _ _ (by omega)).trans ?_)); first | exact Tr.at_set_same _ _ _ | assumption))) (by (focus (skip; first | exact Tr.at_set_same _ _ _ | assumption))) (by exact rfl) (recU) (by omega) (by omega) ?_))
      have hlen : l.length + 1 = (l ++ [o]).length := by simp
      refine y_gen (R := fun Hb nb => ∃ F1', Tb t a b (kput ml k (ln, (ow, l ++ [o])) cl) cl (kput mp o (n1 + 1, ([], ⟨#[]⟩)) cp) (kclk mp o cp) F1' (fun z => (z = n1 + 1 ∨ z = n1) ∨ F2 z) Hb ∧ Step (All t a b F1 (fun z => (z = n1 + 1 ∨ z = n1) ∨ F2 z)) (All t a b F1' (fun z => (z = n1 + 1 ∨ z = n1) ∨ F2 z)) H2 n2 Hb nb) (hturnL (r' := n2 + 1) ow (l ++ [o]) (Nat.le_trans (Nat.le_succ _) (Nat.le_succ _)) (.inl (Nat.le_succ _)) ?_ ?_ ?_) ?_
      · refine (Tr.at_set_same _ _ _).trans ?_
        rw [← hlen]
        try rfl
      · refine (Tr.at_set_other _ _ (by omega)).trans ((Tr.at_set_same _ _ _).trans ?_)
        show _ = some (dat false (l ++ [o]).length 1 23 ((l ++ [o]).flatMap uV))
        rw [← hlen]
        try rfl
      · exact fun z hz hz1 hz2 => (Tr.at_set_other _ _ (by omega)).trans ((Tr.at_set_other _ _ (by omega)).trans ((Tr.at_del_other _ (by omega)).trans (Tr.at_set_other _ _ (by omega))))
      rintro H3 n3 ⟨F1', h3, hstep3⟩
      refine y_under fun hund4 => ?_
      obtain ⟨r4, v1, v2, v3, v4, v5, v6, v7, hturnP⟩ := h3.turnParty hund4 hgp'
      (repeat (first | refine y_seq ?_ | refine w_region ?_ | refine y_regEnd ?_ | refine w_assign rfl rfl rfl ?_ | refine w_storeC rfl rfl rfl rfl (F.sz _ rfl) (by first | exact rfl | (focus (skip; first | exact Tr.at_set_same _ _ _ | assumption))) rfl (by exact Nat.le_of_ble_eq_true rfl) rfl ?_))
      ((apply w_ret Try.func29 (congrArg Array.toList Try.results29)); (focus (repeat (first | exact ResIs.nil | apply ResIs.tmp rfl))))
      rw [hask]
      refine chg_of ((hstep1.trans hstep2).trans hstep3) (hturnP (r' := r4) ([] : List ByteArray) k (Nat.le_refl _) (.inr rfl) ?_ ?_ ?_) ?_
      · exact Tr.at_set_same _ _ _
      · exact (Tr.at_set_other _ _ (by omega)).trans v2
      · exact fun z hz hz1 hz2 => Tr.at_set_other _ _ (by omega)
      rw [mput_kv_p, mput_kv_l, hkeys]
      try exact congrArg (LT.mk _) (hput _).symm
  | some x =>
    obtain ⟨pn, ks, w⟩ := x
    obtain ⟨pr, PG, p1, p2, p3, p4, p5, p6, p7, _⟩ := h.party hgp
    have hkeys : (ltOf ml mp).keys o = ks := by rw [t_keys, hgp]
    (repeat (first | (first | refine y_seq ?_ | refine w_region ?_ | refine y_regEnd ?_ | refine y_skip ?_ | refine y_condF rfl ?_ | refine w_move rfl rfl rfl ?_ | refine w_assign rfl rfl rfl ?_ | refine w_pickF rfl rfl rfl rfl ?_ | refine w_nilCheck rfl rfl rfl ?_ | refine w_fieldAddr rfl rfl rfl (F.fo _ _ rfl rfl) ?_ | refine w_neNil rfl rfl rfl rfl (F.un _ rfl) rfl ?_ | refine w_loadB1 rfl rfl rfl (F.ag _ rfl) (by (focus (skip; first | exact Tr.at_set_same _ _ _ | assumption))) (by exact rfl) ?_) | refine w_lookV (m := mp) (enc := oE) (val := pVal) rfl rfl rfl rfl (F.un _ rfl) (oK) (by first | exact rfl | (focus (skip; first | exact Tr.at_set_same _ _ _ | assumption))) (hgp) ?_))
    by_cases h4 : w.size = 0
    · have hwe : w = ⟨#[]⟩ := (MapKept.bytes_beq w ⟨#[]⟩).1 (empty_of h4)
      subst hwe
      have hnw : ((⟨#[]⟩ : ByteArray) != (⟨#[]⟩ : ByteArray)) = false := rfl
      have hwt : ¬ ((ltOf ml mp).waits o).size ≠ 0 := by rw [t_waits, hgp]; exact fun q => q rfl
      (repeat (first | (first | refine y_seq ?_ | refine w_region ?_ | refine y_regEnd ?_ | refine y_skip ?_ | refine y_condF rfl ?_ | refine w_move rfl rfl rfl ?_ | refine w_pickT rfl rfl rfl rfl ?_ | refine w_nilCheck rfl rfl rfl ?_ | refine w_fieldAddr rfl rfl rfl (F.fo _ _ rfl rfl) ?_ | refine w_loadB1 rfl rfl rfl (F.ag _ rfl) (by (focus (skip; first | exact Tr.at_set_same _ _ _ | assumption))) (by exact rfl) ?_) | refine w_neStrV rfl rfl rfl rfl hnw ?_))
      cases hgl : kget ml k with
      | none =>
        have hask : (ltOf ml mp).ask o k = (⟨mput (ltOf ml mp).locks k (o, []), mput (ltOf ml mp).parties o ((ltOf ml mp).keys o ++ [k], ⟨#[]⟩)⟩, 0) := by unfold LT.ask; rw [if_neg hc1, if_neg hwt, get_l, hgl]; rfl
        (repeat (first | refine y_nilIn (d := 82) (s := .agg (List.take 0 (List.map SV.sc (Value.agg #[Value.int .u64 0, Value.slice none 0 0]).cells.toList) ++ (SV.sc (Value.int .u64 (o : Int))).cells ++ List.drop (0 + 1) (List.map SV.sc (Value.agg #[Value.int .u64 0, Value.slice none 0 0]).cells.toList))) (s' := .agg [.sc (.int .u64 (o : Int)), .slu _ 0 0]) 1 23 (by exact rfl) rfl (fun e v h0 h1 => nil_held h0 h1) ?_ | (first | refine y_seq ?_ | refine w_region ?_ | refine y_regEnd ?_ | refine y_skip ?_ | refine y_condT rfl ?_ | refine y_condF rfl ?_ | refine w_move rfl rfl rfl ?_ | refine w_assign rfl rfl rfl ?_ | refine w_pickF rfl rfl rfl rfl ?_ | refine w_nilCheck rfl rfl rfl ?_ | refine w_fieldAddr rfl rfl rfl (F.fo _ _ rfl rfl) ?_ | refine w_not rfl ?_ | refine w_eqNil rfl rfl rfl rfl (F.un _ rfl) rfl ?_ | refine w_isNil rfl rfl rfl rfl rfl (F.un _ rfl) rfl ?_ | refine w_noNil rfl rfl rfl rfl rfl (F.un _ rfl) rfl ?_ | refine w_boxN rfl rfl rfl ?_ | refine w_loadB1 rfl rfl rfl (F.ag _ rfl) (by (focus (skip; first | exact Tr.at_set_same _ _ _ | assumption))) (by exact rfl) ?_ | refine w_build rfl rfl rfl (F.ze _ rfl) (F.pl _ rfl) rfl ?_) | refine w_lookZ (m := ml) (enc := kE) (val := lVal) rfl rfl rfl rfl (F.un _ rfl) (kK) (by first | exact rfl | (focus (skip; first | exact Tr.at_set_same _ _ _ | assumption))) (hgl) (F.ze _ rfl) ?_))
        have hgp' := hgp
        have hput : ∀ y, mput (ltOf ml mp).parties o y = mput (ltOf ml mp).parties o y := fun _ => rfl
        refine w_mapUp (m := ml) (enc := kE) (val := lVal) (kk := k) (v := (nx + 1, (o, ([] : List Nat)))) rfl rfl rfl (F.un _ rfl) (kK) (by first | exact rfl | (focus ((repeat (refine (Tr.at_set_other _ _ (by omega)).trans ?_)); first | exact Tr.at_set_same _ _ _ | assumption))) rfl ?_
        refine y_gen (R := fun H2 n2 => Tb t a b (kput ml k (nx + 1, (o, [])) cl) (kclk ml k cl) mp cp (fun z => (z = nx + 1 ∨ z = nx) ∨ F1 z) F2 H2 ∧ Step (All t a b F1 F2) (All t a b (fun z => (z = nx + 1 ∨ z = nx) ∨ F1 z) F2) H nx H2 n2) (h.newLock hund hgl ?_ ?_ ?_ ?_) ?_
        · exact (Tr.at_set_other _ _ (by omega)).trans (Tr.at_set_same _ _ _)
        · exact (Tr.at_set_other _ _ (by omega)).trans ((Tr.at_set_other _ _ (by omega)).trans (Tr.at_set_same _ _ _))
        · exact Tr.at_set_same _ _ _
        · exact fun z hz hb => (Tr.at_set_other _ _ (by omega)).trans ((Tr.at_set_other _ _ (by omega)).trans (Tr.at_set_other _ _ (by omega)))
        rintro H2 n2 ⟨h2', hstep2⟩
        refine y_under fun hund2 => ?_
        obtain ⟨r2, q1, q2, q3, q4, q5, q6, q7, hturn⟩ := h2'.turnParty hund2 hgp'
        have hlk : (ks).length < 999999 := by rw [hkeys] at hks; exact hks
        (repeat (first | (first | refine y_seq ?_ | refine w_region ?_ | refine y_regEnd ?_ | refine w_move rfl rfl rfl ?_ | refine w_assign rfl rfl rfl ?_ | refine w_nilCheck rfl rfl rfl ?_ | refine w_fieldAddr rfl rfl rfl (F.fo _ _ rfl rfl) ?_ | refine w_storeC rfl rfl rfl rfl (F.sz _ rfl) (by first | exact rfl | (focus ((repeat (first | refine (Tr.at_set_other _ _ (by omega)).trans ?_ | refine (Tr.at_del_other _ (by omega)).trans ?_)); first | exact Tr.at_set_same _ _ _ | assumption))) rfl (by exact Nat.le_of_ble_eq_true rfl) rfl ?_ | refine w_loadB1 rfl rfl rfl (F.ag _ rfl) (by (focus (skip; first | exact Tr.at_set_same _ _ _ | assumption))) (by exact rfl) ?_) | refine w_buildSlice rfl rfl (F.un _ rfl) (F.sz _ rfl) rfl (F.ze _ rfl) rfl rfl rfl rfl rfl ?_ | refine w_push (b := 16) (xs := ks) (a := k) rfl rfl rfl rfl (F.un _ rfl) (.inl ⟨_, F.un _ rfl⟩) (F.sz _ rfl) rfl (by kernel_rfl) (by kernel_rfl) (by (focus ((repeat (refine (Tr.at_set_other _ _ (by omega)).trans ?_)); first | exact Tr.at_set_same _ _ _ | assumption))) (by (focus (skip; first | exact Tr.at_set_same _ _ _ | assumption))) (by exact rfl) (recS) (by omega) (by omega) ?_))
        ((apply w_ret Try.func29 (congrArg Array.toList Try.results29)); (focus (repeat (first | exact ResIs.nil | apply ResIs.tmp rfl))))
        have hlen : (ks).length + 1 = ((ks) ++ [k]).length := by simp
        rw [hask]
        refine chg_of (hstep2) (hturn (r' := n2 + 1) ((ks) ++ [k]) ⟨#[]⟩ (Nat.le_trans (Nat.le_succ _) (Nat.le_succ _)) (.inl (Nat.le_succ _)) ?_ ?_ ?_) ?_
        · refine (Tr.at_set_same _ _ _).trans ?_
          rw [← hlen]
          try rfl
        · refine (Tr.at_set_other _ _ (by omega)).trans ((Tr.at_set_same _ _ _).trans ?_)
          show _ = some (dat false ((ks) ++ [k]).length 1 9 (((ks) ++ [k]).flatMap sV))
          rw [← hlen]
          try rfl
        · exact fun z hz hz1 hz2 => (Tr.at_set_other _ _ (by omega)).trans ((Tr.at_set_other _ _ (by omega)).trans ((Tr.at_del_other _ (by omega)).trans (Tr.at_set_other _ _ (by omega))))
        rw [mput_kv_p, mput_kv_l, hkeys]
        try exact congrArg (LT.mk _) (hput _).symm
      | some y =>
        obtain ⟨ln, ow, l⟩ := y
        obtain ⟨lr, LG, k1, k2, k3, k4, k5, k6, k7, _⟩ := h.lock hgl
        (repeat (first | (first | refine y_seq ?_ | refine w_region ?_ | refine y_regEnd ?_ | refine w_move rfl rfl rfl ?_ | refine w_assign rfl rfl rfl ?_ | refine w_nilCheck rfl rfl rfl ?_ | refine w_fieldAddr rfl rfl rfl (F.fo _ _ rfl rfl) ?_ | refine w_neNil rfl rfl rfl rfl (F.un _ rfl) rfl ?_ | refine w_loadB1 rfl rfl rfl (F.ag _ rfl) (by (focus (skip; first | exact Tr.at_set_same _ _ _ | assumption))) (by exact rfl) ?_) | refine w_lookV (m := ml) (enc := kE) (val := lVal) rfl rfl rfl rfl (F.un _ rfl) (kK) (by first | exact rfl | (focus (skip; first | exact Tr.at_set_same _ _ _ | assumption))) (hgl) ?_))
        have hgl' : mget (ltOf ml mp).locks k = some (ow, l) := by rw [get_l, hgl]; rfl
        have hl9 : l.length < 999999 := by
          have hq := hln
          unfold LT.line at hq
          rw [hgl'] at hq
          exact hq
        refine w_eqlS rfl rfl rfl rfl ?_ ?_
        all_goals intro h5
        · have hask : (ltOf ml mp).ask o k = (ltOf ml mp, 0) := by
            unfold LT.ask
            rw [if_neg hc1, if_neg hwt, hgl']
            simp only
            rw [if_pos (by omega)]
          rw [hask]
          (repeat (first | refine y_seq ?_ | refine w_region ?_ | refine y_regEnd ?_ | refine y_condT rfl ?_ | refine w_assign rfl rfl rfl ?_ | refine w_pickT rfl rfl rfl rfl ?_))
          ((apply w_ret Try.func29 (congrArg Array.toList Try.results29)); (focus (repeat (first | exact ResIs.nil | apply ResIs.tmp rfl))))
          exact chg_same hT0 _
        have hch := hr ow l hgl'
        (repeat (first | refine y_seq ?_ | refine w_region ?_ | refine y_regEnd ?_ | refine y_skip ?_ | refine y_condF rfl ?_ | refine w_move rfl rfl rfl ?_ | refine w_pickT rfl rfl rfl rfl ?_ | refine w_nilCheck rfl rfl rfl ?_ | refine w_fieldAddr rfl rfl rfl (F.fo _ _ rfl rfl) ?_ | refine w_neNil rfl rfl rfl rfl (F.un _ rfl) rfl ?_ | refine w_loadB1 rfl rfl rfl (F.ag _ rfl) (by (focus (skip; first | exact Tr.at_set_same _ _ _ | assumption))) (by exact rfl) ?_))
        refine w_call rfl rfl rfl (by kernel_rfl) (Fnc.mono (ring_t hT0 o ow _ hch) ?_)
        rintro ⟨_, H1, n1⟩ ⟨rfl, hle1, hfr1⟩
        dsimp only at hle1 hfr1 ⊢
        have h1 := h.frameA (H' := H1) fun n hn => hfr1 n (h.all_ltA hund n hn)
        have hstep1 : Step (All t a b F1 F2) (All t a b F1 F2) H nx H1 n1 := ⟨hle1, fun _ q => .inl q, fun n hn _ => hfr1 n hn⟩
        by_cases hd : (ltOf ml mp).chase o ((ltOf ml mp).parties.length + 1) ow = some true
        · have hask : (ltOf ml mp).ask o k = (ltOf ml mp, 10) := by
            unfold LT.ask
            rw [if_neg hc1, if_neg hwt, hgl']
            simp only
            rw [if_neg (by omega), if_pos hd]
          rw [hask, decide_eq_true hd]
          (repeat (first | refine y_seq ?_ | refine w_region ?_ | refine y_regEnd ?_ | refine y_condT rfl ?_ | refine w_assign rfl rfl rfl ?_ | refine w_pickT rfl rfl rfl rfl ?_))
          ((apply w_ret Try.func29 (congrArg Array.toList Try.results29)); (focus (repeat (first | exact ResIs.nil | apply ResIs.tmp rfl))))
          exact ⟨rfl, _, ⟨a, b, _, _, _, _, _, _, h1, rfl, fun _ => Iff.rfl⟩, hstep1⟩
        have hask : (ltOf ml mp).ask o k = (⟨mput (ltOf ml mp).locks k (ow, l ++ [o]), mput (ltOf ml mp).parties o ((ltOf ml mp).keys o, k)⟩, 9) := by
          unfold LT.ask
          rw [if_neg hc1, if_neg hwt, hgl']
          simp only
          rw [if_neg (by omega), if_neg hd]
        rw [decide_eq_false hd]
        clear hr hch hund
        refine y_under fun hund1 => ?_
        have hgp' := hgp
        have hput : ∀ y, mput (ltOf ml mp).parties o y = mput (ltOf ml mp).parties o y := fun _ => rfl
        obtain ⟨lr', q1, q2, q3, q4, q5, q6, q7, hturnL⟩ := h1.turnLock hund1 hgl
        clear h htab hloc hpar
        (repeat (first | (first | refine y_seq ?_ | refine w_region ?_ | refine y_regEnd ?_ | refine y_skip ?_ | refine y_condF rfl ?_ | refine w_move rfl rfl rfl ?_ | refine w_pickT rfl rfl rfl rfl ?_ | refine w_nilCheck rfl rfl rfl ?_ | refine w_fieldAddr rfl rfl rfl (F.fo _ _ rfl rfl) ?_ | refine w_eqNil rfl rfl rfl rfl (F.un _ rfl) rfl ?_ | refine w_storeC rfl rfl rfl rfl (F.sz _ rfl) (by first | exact rfl | (focus ((repeat (first | refine (Tr.at_set_other _ _ (by omega)).trans ?_ | refine (Tr.at_del_other _ (by omega)).trans ?_)); first | exact Tr.at_set_same _ _ _ | assumption))) rfl (by exact Nat.le_of_ble_eq_true rfl) rfl ?_ | refine w_loadB1 rfl rfl rfl (F.ag _ rfl) (by (focus (skip; first | exact Tr.at_set_same _ _ _ | assumption))) (by exact rfl) ?_) | refine w_buildSlice rfl rfl (F.un _ rfl) (F.sz _ rfl) rfl (F.ze _ rfl) rfl rfl rfl rfl rfl ?_ | refine w_push (b := 8) (xs := l) (a := o) rfl rfl rfl rfl (F.un _ rfl) (.inl ⟨_, F.un _ rfl⟩) (F.sz _ rfl) rfl (by kernel_rfl) (by kernel_rfl) (by (focus ((repeat (refine (Tr.at_set_other _ _ (by omega)).trans ?_)); first | exact Tr.at_set_same _ _ _ | assumption))) (by (focus (skip; first | exact Tr.at_set_same _ _ _ | assumption))) (by exact rfl) (recU) (by omega) (by omega) ?_))
        have hlen : l.length + 1 = (l ++ [o]).length := by simp
        refine y_gen (R := fun Hb nb => ∃ F1', Tb t a b (kput ml k (ln, (ow, l ++ [o])) cl) cl mp cp F1' F2 Hb ∧ Step (All t a b F1 F2) (All t a b F1' F2) H1 n1 Hb nb) (hturnL (r' := n1 + 1) ow (l ++ [o]) (Nat.le_trans (Nat.le_succ _) (Nat.le_succ _)) (.inl (Nat.le_succ _)) ?_ ?_ ?_) ?_
        · refine (Tr.at_set_same _ _ _).trans ?_
          rw [← hlen]
          try rfl
        · refine (Tr.at_set_other _ _ (by omega)).trans ((Tr.at_set_same _ _ _).trans ?_)
          show _ = some (dat false (l ++ [o]).length 1 23 ((l ++ [o]).flatMap uV))
          rw [← hlen]
          try rfl
        · exact fun z hz hz1 hz2 => (Tr.at_set_other _ _ (by omega)).trans ((Tr.at_set_other _ _ (by omega)).trans ((Tr.at_del_other _ (by omega)).trans (Tr.at_set_other _ _ (by omega))))
        rintro H3 n3 ⟨F1', h3, hstep3⟩
        refine y_under fun hund4 => ?_
        obtain ⟨r4, v1, v2, v3, v4, v5, v6, v7, hturnP⟩ := h3.turnParty hund4 hgp'
        (repeat (first | refine y_seq ?_ | refine w_region ?_ | refine y_regEnd ?_ | refine w_assign rfl rfl rfl ?_ | refine w_storeC rfl rfl rfl rfl (F.sz _ rfl) (by first | exact rfl | (focus (skip; first | exact Tr.at_set_same _ _ _ | assumption))) rfl (by exact Nat.le_of_ble_eq_true rfl) rfl ?_))
        ((apply w_ret Try.func29 (congrArg Array.toList Try.results29)); (focus (repeat (first | exact ResIs.nil | apply ResIs.tmp rfl))))
        rw [hask]
        refine chg_of (hstep1.trans hstep3) (hturnP (r' := r4) ks k (Nat.le_refl _) (.inr rfl) ?_ ?_ ?_) ?_
        · exact Tr.at_set_same _ _ _
        · exact (Tr.at_set_other _ _ (by omega)).trans v2
        · exact fun z hz hz1 hz2 => Tr.at_set_other _ _ (by omega)
        rw [mput_kv_p, mput_kv_l, hkeys]
        try exact congrArg (LT.mk _) (hput _).symm
    · have hask : (ltOf ml mp).ask o k = (ltOf ml mp, 7) := by
        unfold LT.ask
        rw [if_neg hc1, t_waits, hgp, if_pos h4]
      have hnw : (w != (⟨#[]⟩ : ByteArray)) = true := by
        rw [show (w != (⟨#[]⟩ : ByteArray)) = !(w == (⟨#[]⟩ : ByteArray)) from rfl, empty_ne h4]; rfl
      rw [hask]
      (repeat (first | (first | refine y_seq ?_ | refine w_region ?_ | refine y_regEnd ?_ | refine y_condT rfl ?_ | refine w_assign rfl rfl rfl ?_ | refine w_pickT rfl rfl rfl rfl ?_) | refine w_neStrV rfl rfl rfl rfl hnw ?_))
      ((apply w_ret Try.func29 (congrArg Array.toList Try.results29)); (focus (repeat (first | exact ResIs.nil | apply ResIs.tmp rfl))))
      exact chg_same hT0 _
end Go.Proofs.Ytckajlllkmkniaa
end
section
namespace Go.Proofs.Ytckajlllkmkniaa
open Go Go.Sy Go.Sl Go.RowKit
abbrev ActT := Int × Nat × ByteArray × Int
abbrev actV : ActT → List Value := fun x => [.int .i64 x.1, .int .u64 (x.2.1 : Int), .string x.2.2.1, .int .i64 x.2.2.2]
theorem recA : RecOf actV 4 := ⟨fun _ => rfl, fun x v hv => by simp [actV] at hv; rcases hv with rfl | rfl | rfl | rfl <;> rfl⟩
abbrev actR (ro : Bool) (a : Array ActT) : VO := arr ro a.size 4 32 actV a
def muchA (a : Array ActT) (m : Int) : Bool := (a.toList.take (m + 1).toNat).any (fun x => decide (300 < x.2.2.1.size)) || decide (m < a.size)
set_option maxRecDepth 100000 in
set_option maxHeartbeats 0 in
theorem much_s {H : Heap} {nx r : Nat} {ro : Bool} (a : Array ActT) (m : Int) (hr : H.at' r = some (actR ro a)) (ha : a.size ≤ 9223372036854775807) : Fnc Try.prog 8 [.slu r 0 a.size, .sc (.int .i64 m)] H nx (fun q => q = (.sc (.bool (muchA a m)), H, nx)) := by
  refine Fnc.start Try.func8 rfl rfl ?_
  (repeat (first | refine y_seq ?_ | refine w_region ?_ | refine y_regEnd ?_ | refine y_block ?_ | refine w_assign rfl rfl rfl ?_))
  refine y_loopT (α := Nat) (fun i => [(0, .slu r 0 a.size), (1, .sc (.int .i64 m)), (5, .sc (.int .i64 (i : Int)))]) (fun i H1 nx1 => H1 = H ∧ nx1 = nx ∧ i ≤ a.size ∧ (a.toList.take i).any (fun x => decide (300 < x.2.2.1.size)) = false) (fun i => a.size - i) 0 ⟨rfl, rfl, Nat.zero_le _, rfl⟩ (SlIn.sub ⟨rfl, rfl, rfl, trivial⟩) ?_
  rintro i H1 nx1 ⟨rfl, rfl, hi, hno⟩ again
  have hend : (¬ i < a.size ∨ m < (i : Int)) → muchA a m = decide (m < (a.size : Int)) := by
    intro h
    unfold muchA
    have : (a.toList.take (m + 1).toNat).any (fun x => decide (300 < x.2.2.1.size)) = false := by
      rw [List.any_eq_false] at hno ⊢
      intro x hx
      apply hno
      rcases h with h | h
      · rw [List.take_of_length_le (by rw [Array.length_toList]; omega)]
        exact List.mem_of_mem_take hx
      · exact (List.take_subset_take_left _ (by omega)) hx
    rw [this]
    rfl
  (repeat (first | refine y_seq ?_ | refine w_region ?_ | refine w_move rfl rfl rfl ?_ | refine w_lenSl rfl rfl rfl (F.un _ rfl) ?_))
  refine w_lssS rfl rfl rfl rfl ?_ ?_
  all_goals intro h1
  · (repeat (refine w_move rfl rfl rfl ?_))
    refine w_leqS rfl rfl rfl rfl ?_ ?_
    all_goals intro h2
    · have hx : i < a.size := by omega
      (repeat (first | (first | refine y_seq ?_ | refine w_region ?_ | refine y_regEnd ?_ | refine y_block ?_ | refine y_skip ?_ | refine y_condT rfl ?_ | refine w_move rfl rfl rfl ?_ | refine w_pickT rfl rfl rfl rfl ?_ | refine w_fieldAddr rfl rfl rfl (F.fo _ _ rfl rfl) ?_ | refine w_lenStr rfl rfl rfl (F.un _ rfl) ?_) | refine w_idxN (q := i) rfl rfl rfl rfl (F.un _ rfl) (F.sz _ rfl) (by (focus (skip; first | exact Tr.at_set_same _ _ _ | assumption))) (by omega) (by first | omega | (simp; done)) (Nat.le_refl _) ?_ | refine w_ldF i 2 rfl rfl rfl (F.ag _ rfl) (recA) (by first | exact rfl | (focus (skip; first | exact Tr.at_set_same _ _ _ | assumption))) (by omega) (by omega) (by omega) rfl ?_))
      refine w_gtrS rfl rfl rfl rfl ?_ ?_
      all_goals intro h3
      · (repeat (first | refine y_seq ?_ | refine w_region ?_ | refine y_regEnd ?_ | refine y_condT rfl ?_ | refine w_assign rfl rfl rfl ?_))
        ((apply w_ret Try.func8 (congrArg Array.toList Try.results8)); (focus (repeat (first | exact ResIs.nil | apply ResIs.tmp rfl))))
        have : muchA a m = true := by
          unfold muchA
          rw [Bool.or_eq_true]
          left
          rw [List.any_eq_true]
          refine ⟨a[i]!, ?_, by simp; omega⟩
          rw [List.mem_take_iff_getElem]
          refine ⟨i, by rw [Array.length_toList]; omega, ?_⟩
          rw [getElem!_pos a i hx]
          simp
        rw [this]
        rfl
      · (repeat (first | refine w_region ?_ | refine y_regEnd ?_ | refine y_inBlock ?_ | refine y_skip ?_ | refine y_condF rfl ?_ | refine w_move rfl rfl rfl ?_ | refine w_assign rfl rfl rfl ?_ | refine w_add rfl rfl rfl rfl (by omega) (by omega) ?_))
        refine again _ _ _ (i + 1) ⟨rfl, rfl, hx, ?_⟩ (by omega) (SlIn.sub (by repeat (first | exact trivial | refine ⟨rfl, ?_⟩)))
        rw [List.take_succ_eq_append_getElem (by rw [Array.length_toList]; exact hx), List.any_append, hno]
        rw [getElem!_pos a i hx] at h3
        simp
        omega
    · (repeat (first | refine y_seq ?_ | refine w_region ?_ | refine y_regEnd ?_ | refine y_exit rfl ?_ | refine y_condF rfl ?_ | refine w_move rfl rfl rfl ?_ | refine w_pickT rfl rfl rfl rfl ?_ | refine w_lenSl rfl rfl rfl (F.un _ rfl) ?_))
      refine w_gtrS rfl rfl rfl rfl ?_ ?_
      all_goals intro h3
      all_goals (repeat (first | refine y_regEnd ?_ | refine w_assign rfl rfl rfl ?_))
      · ((apply w_ret Try.func8 (congrArg Array.toList Try.results8)); (focus (repeat (first | exact ResIs.nil | apply ResIs.tmp rfl))))
        rw [hend (.inr (by omega)), decide_eq_true (by omega)]
        rfl
      · ((apply w_ret Try.func8 (congrArg Array.toList Try.results8)); (focus (repeat (first | exact ResIs.nil | apply ResIs.tmp rfl))))
        rw [hend (.inr (by omega)), decide_eq_false (by omega)]
        rfl
  · (repeat (first | refine y_seq ?_ | refine w_region ?_ | refine y_regEnd ?_ | refine y_exit rfl ?_ | refine y_condF rfl ?_ | refine w_move rfl rfl rfl ?_ | refine w_pickF rfl rfl rfl rfl ?_ | refine w_not rfl ?_ | refine w_lenSl rfl rfl rfl (F.un _ rfl) ?_))
    refine w_gtrS rfl rfl rfl rfl ?_ ?_
    all_goals intro h3
    all_goals (repeat (first | refine y_regEnd ?_ | refine w_assign rfl rfl rfl ?_))
    · ((apply w_ret Try.func8 (congrArg Array.toList Try.results8)); (focus (repeat (first | exact ResIs.nil | apply ResIs.tmp rfl))))
      rw [hend (.inl (by omega)), decide_eq_true (by omega)]
      rfl
    · ((apply w_ret Try.func8 (congrArg Array.toList Try.results8)); (focus (repeat (first | exact ResIs.nil | apply ResIs.tmp rfl))))
      rw [hend (.inl (by omega)), decide_eq_false (by omega)]
      rfl
end Go.Proofs.Ytckajlllkmkniaa
end
section
namespace Go.Proofs.Ytckajlllkmkniaa
open Go Go.Sy Go.Sl Go.RowKit
theorem maps_ (l : List ByteArray) : (l.flatMap sV) = l.map (fun s : ByteArray => Value.string s) := by
  induction l with
  | nil => rfl
  | cons a l ih => rw [List.flatMap_cons, ih]; rfl
theorem mapu_ (l : List Nat) : (l.flatMap uV) = l.map (fun n : Nat => Value.int .u64 (n : Int)) := by
  induction l with
  | nil => rfl
  | cons a l ih => rw [List.flatMap_cons, ih]; rfl
theorem at_s {l : List ByteArray} {i : Nat} (hi : i < l.length) : (l.flatMap sV)[i * 1]? = some (.string l[i]) := by
  rw [maps_, Nat.mul_one, List.getElem?_map, List.getElem?_eq_getElem hi]; rfl
theorem at_u {l : List Nat} {i : Nat} (hi : i < l.length) : (l.flatMap uV)[i * 1]? = some (.int .u64 ((l[i] : Nat) : Int)) := by
  rw [mapu_, Nat.mul_one, List.getElem?_map, List.getElem?_eq_getElem hi]; rfl
theorem take_more {A : Type} {xs ys : List A} {i : Nat} (hx : i < xs.length) (hy : i < ys.length) (h : xs.take i = ys.take i) (e : xs[i] = ys[i]) : xs.take (i + 1) = ys.take (i + 1) := by
  rw [List.take_succ_eq_append_getElem hx, List.take_succ_eq_append_getElem hy, h, e]
theorem num_s {H : Heap} {nx : Nat} (e : Int) : Fnc Try.prog 16 [.sc (.int .i64 e)] H nx (fun q => q = (.sc (.int .i64 e), H, nx)) := by
  refine Fnc.start Try.func16 rfl rfl ?_
  (repeat (first | refine y_seq ?_ | refine w_region ?_ | refine y_regEnd ?_ | refine w_move rfl rfl rfl ?_ | refine w_assign rfl rfl rfl ?_))
  ((apply w_ret Try.func16 (congrArg Array.toList Try.results16)); (focus (repeat (first | exact ResIs.nil | apply ResIs.tmp rfl))))
  rfl
set_option maxRecDepth 100000 in
set_option maxHeartbeats 0 in
theorem texts_s {H : Heap} {nx r1 r2 : Nat} {a1 a2 : Bool} (xs ys : List ByteArray) (h1 : H.at' r1 = some (sR a1 xs)) (h2 : H.at' r2 = some (sR a2 ys)) (hl : xs.length < 2000000) (hl2 : ys.length < 2000000) : Fnc Try.prog 17 [.slu r1 0 xs.length, .slu r2 0 ys.length] H nx (fun q => q = (.sc (.bool (decide (xs = ys))), H, nx)) := by
  refine Fnc.start Try.func17 rfl rfl ?_
  (repeat (first | refine y_seq ?_ | refine w_region ?_ | refine y_regEnd ?_ | refine w_move rfl rfl rfl ?_ | refine w_assign rfl rfl rfl ?_ | refine w_lenSl rfl rfl rfl (F.un _ rfl) ?_))
  refine w_neqS rfl rfl rfl rfl ?_ ?_
  all_goals intro h3
  · (repeat (first | refine y_seq ?_ | refine w_region ?_ | refine y_regEnd ?_ | refine y_condT rfl ?_ | refine w_assign rfl rfl rfl ?_))
    ((apply w_ret Try.func17 (congrArg Array.toList Try.results17)); (focus (repeat (first | exact ResIs.nil | apply ResIs.tmp rfl))))
    rw [decide_eq_false (fun e => h3 (by rw [e]))]
    rfl
  have hle : xs.length = ys.length := by omega
  (repeat (first | refine y_seq ?_ | refine w_region ?_ | refine y_regEnd ?_ | refine y_block ?_ | refine y_skip ?_ | refine y_condF rfl ?_ | refine w_assign rfl rfl rfl ?_))
  refine y_loopT (α := Nat) (fun i => [(0, .slu r1 0 xs.length), (1, .slu r2 0 ys.length), (5, .sc (.int .i64 (i : Int)))]) (fun i H1 nx1 => H1 = H ∧ nx1 = nx ∧ i ≤ xs.length ∧ xs.take i = ys.take i) (fun i => xs.length - i) 0 ⟨rfl, rfl, Nat.zero_le _, rfl⟩ (SlIn.sub ⟨rfl, rfl, rfl, trivial⟩) ?_
  rintro i H1 nx1 ⟨rfl, rfl, hi, heq⟩ again
  (repeat (first | refine y_seq ?_ | refine w_region ?_ | refine w_move rfl rfl rfl ?_ | refine w_lenSl rfl rfl rfl (F.un _ rfl) ?_))
  refine w_lssS rfl rfl rfl rfl ?_ ?_
  all_goals intro h4
  · have hx : i < xs.length := by omega
    have hy : i < ys.length := by omega
    by_cases h5 : xs[i] = ys[i]
    all_goals have h6 : (xs[i] != ys[i]) = !(xs[i] == ys[i]) := rfl
    rotate_left
    all_goals (repeat (first | refine y_seq ?_ | refine y_regEnd ?_ | refine y_block ?_ | refine y_skip ?_ | refine y_condT rfl ?_))
    all_goals refine w_draw (by kernel_rfl) (by kernel_rfl) ?_
    all_goals (repeat (first | (refine dw_move rfl rfl rfl ?_) | refine dw_idxN (q := i) rfl rfl rfl rfl (F.un _ rfl) (F.sz _ rfl) (by (focus (skip; first | exact Tr.at_set_same _ _ _ | assumption))) (by omega) (by first | omega | (simp; done)) (Nat.le_refl _) ?_ | refine dw_loadD1 rfl rfl rfl (F.ag _ rfl) (by (focus (skip; first | exact Tr.at_set_same _ _ _ | assumption))) (at_s hx) (by first | omega | (simp; done)) ?_ | refine dw_loadD1 rfl rfl rfl (F.ag _ rfl) (by (focus (skip; first | exact Tr.at_set_same _ _ _ | assumption))) (at_s hy) (by first | omega | (simp; done)) ?_))
    · have h7 : (xs[i] == ys[i]) = false := by
        cases hq : (xs[i] == ys[i]) with
        | false => rfl
        | true => exact absurd ((MapKept.bytes_beq _ _).1 hq) h5
      rw [h7] at h6
      refine dw_neStrV rfl rfl rfl rfl h6 ?_
      (refine dk_nil ?_); (refine ⟨by kernel_rfl, ?_, ?_⟩); (focus (repeat (first | exact trivial | refine ⟨.inl rfl, ?_⟩)))
      dsimp only [wrL]
      (repeat (first | refine y_seq ?_ | refine w_region ?_ | refine y_regEnd ?_ | refine y_condT rfl ?_ | refine w_assign rfl rfl rfl ?_))
      ((apply w_ret Try.func17 (congrArg Array.toList Try.results17)); (focus (repeat (first | exact ResIs.nil | apply ResIs.tmp rfl))))
      rw [decide_eq_false (fun e => h5 (by subst e; rfl))]
      rfl
    · rw [(MapKept.bytes_beq _ _).2 h5] at h6
      refine dw_neStrV rfl rfl rfl rfl h6 ?_
      (refine dk_nil ?_); (refine ⟨by kernel_rfl, ?_, ?_⟩); (focus (repeat (first | exact trivial | refine ⟨.inl rfl, ?_⟩)))
      dsimp only [wrL]
      (repeat (first | refine w_region ?_ | refine y_regEnd ?_ | refine y_inBlock ?_ | refine y_skip ?_ | refine y_condF rfl ?_ | refine w_move rfl rfl rfl ?_ | refine w_assign rfl rfl rfl ?_ | refine w_add rfl rfl rfl rfl (by omega) (by omega) ?_))
      refine again _ _ _ (i + 1) ⟨rfl, rfl, hx, take_more hx hy heq h5⟩ (by omega) (SlIn.sub (by repeat (first | exact trivial | refine ⟨rfl, ?_⟩)))
  · (repeat (first | refine y_seq ?_ | refine w_region ?_ | refine y_regEnd ?_ | refine y_exit rfl ?_ | refine y_condF rfl ?_ | refine w_assign rfl rfl rfl ?_))
    ((apply w_ret Try.func17 (congrArg Array.toList Try.results17)); (focus (repeat (first | exact ResIs.nil | apply ResIs.tmp rfl))))
    rw [List.take_of_length_le (by omega), List.take_of_length_le (by omega)] at heq
    rw [decide_eq_true heq]
    rfl
set_option maxRecDepth 100000 in
set_option maxHeartbeats 0 in
theorem numbers_s {H : Heap} {nx r1 r2 : Nat} {a1 a2 : Bool} (xs ys : List Nat) (h1 : H.at' r1 = some (uR a1 xs)) (h2 : H.at' r2 = some (uR a2 ys)) (hl : xs.length < 2000000) (hl2 : ys.length < 2000000) : Fnc Try.prog 27 [.slu r1 0 xs.length, .slu r2 0 ys.length] H nx (fun q => q = (.sc (.bool (decide (xs = ys))), H, nx)) := by
  refine Fnc.start Try.func27 rfl rfl ?_
  (repeat (first | refine y_seq ?_ | refine w_region ?_ | refine y_regEnd ?_ | refine w_move rfl rfl rfl ?_ | refine w_assign rfl rfl rfl ?_ | refine w_lenSl rfl rfl rfl (F.un _ rfl) ?_))
  refine w_neqS rfl rfl rfl rfl ?_ ?_
  all_goals intro h3
  · (repeat (first | refine y_seq ?_ | refine w_region ?_ | refine y_regEnd ?_ | refine y_condT rfl ?_ | refine w_assign rfl rfl rfl ?_))
    ((apply w_ret Try.func27 (congrArg Array.toList Try.results27)); (focus (repeat (first | exact ResIs.nil | apply ResIs.tmp rfl))))
    rw [decide_eq_false (fun e => h3 (by rw [e]))]
    rfl
  have hle : xs.length = ys.length := by omega
  (repeat (first | refine y_seq ?_ | refine w_region ?_ | refine y_regEnd ?_ | refine y_block ?_ | refine y_skip ?_ | refine y_condF rfl ?_ | refine w_assign rfl rfl rfl ?_))
  refine y_loopT (α := Nat) (fun i => [(0, .slu r1 0 xs.length), (1, .slu r2 0 ys.length), (5, .sc (.int .i64 (i : Int)))]) (fun i H1 nx1 => H1 = H ∧ nx1 = nx ∧ i ≤ xs.length ∧ xs.take i = ys.take i) (fun i => xs.length - i) 0 ⟨rfl, rfl, Nat.zero_le _, rfl⟩ (SlIn.sub ⟨rfl, rfl, rfl, trivial⟩) ?_
  rintro i H1 nx1 ⟨rfl, rfl, hi, heq⟩ again
  (repeat (first | refine y_seq ?_ | refine w_region ?_ | refine w_move rfl rfl rfl ?_ | refine w_lenSl rfl rfl rfl (F.un _ rfl) ?_))
  refine w_lssS rfl rfl rfl rfl ?_ ?_
  all_goals intro h4
  · have hx : i < xs.length := by omega
    have hy : i < ys.length := by omega
    (repeat (first | refine y_seq ?_ | refine y_regEnd ?_ | refine y_block ?_ | refine y_skip ?_ | refine y_condT rfl ?_))
    refine w_draw (by kernel_rfl) (by kernel_rfl) ?_
    (repeat (first | (refine dw_move rfl rfl rfl ?_) | refine dw_idxN (q := i) rfl rfl rfl rfl (F.un _ rfl) (F.sz _ rfl) (by (focus (skip; first | exact Tr.at_set_same _ _ _ | assumption))) (by omega) (by first | omega | (simp; done)) (Nat.le_refl _) ?_ | refine dw_loadD1 rfl rfl rfl (F.ag _ rfl) (by (focus (skip; first | exact Tr.at_set_same _ _ _ | assumption))) (at_u hx) (by first | omega | (simp; done)) ?_ | refine dw_loadD1 rfl rfl rfl (F.ag _ rfl) (by (focus (skip; first | exact Tr.at_set_same _ _ _ | assumption))) (at_u hy) (by first | omega | (simp; done)) ?_))
    refine dw_neqS rfl rfl rfl rfl ?_ ?_
    all_goals intro h5
    · (refine dk_nil ?_); (refine ⟨by kernel_rfl, ?_, ?_⟩); (focus (repeat (first | exact trivial | refine ⟨.inl rfl, ?_⟩)))
      dsimp only [wrL]
      (repeat (first | refine y_seq ?_ | refine w_region ?_ | refine y_regEnd ?_ | refine y_condT rfl ?_ | refine w_assign rfl rfl rfl ?_))
      ((apply w_ret Try.func27 (congrArg Array.toList Try.results27)); (focus (repeat (first | exact ResIs.nil | apply ResIs.tmp rfl))))
      rw [decide_eq_false (fun e => h5 (by subst e; rfl))]
      rfl
    · (refine dk_nil ?_); (refine ⟨by kernel_rfl, ?_, ?_⟩); (focus (repeat (first | exact trivial | refine ⟨.inl rfl, ?_⟩)))
      dsimp only [wrL]
      (repeat (first | refine w_region ?_ | refine y_regEnd ?_ | refine y_inBlock ?_ | refine y_skip ?_ | refine y_condF rfl ?_ | refine w_move rfl rfl rfl ?_ | refine w_assign rfl rfl rfl ?_ | refine w_add rfl rfl rfl rfl (by omega) (by omega) ?_))
      refine again _ _ _ (i + 1) ⟨rfl, rfl, hx, take_more hx hy heq (by omega)⟩ (by omega) (SlIn.sub (by repeat (first | exact trivial | refine ⟨rfl, ?_⟩)))
  · (repeat (first | refine y_seq ?_ | refine w_region ?_ | refine y_regEnd ?_ | refine y_exit rfl ?_ | refine y_condF rfl ?_ | refine w_assign rfl rfl rfl ?_))
    ((apply w_ret Try.func27 (congrArg Array.toList Try.results27)); (focus (repeat (first | exact ResIs.nil | apply ResIs.tmp rfl))))
    rw [List.take_of_length_le (by omega), List.take_of_length_le (by omega)] at heq
    rw [decide_eq_true heq]
    rfl
end Go.Proofs.Ytckajlllkmkniaa
end
section
namespace Go.Proofs.Ytckajlllkmkniaa
open Go Go.Sy Go.Sl Go.RowKit
def LT.act (T : LT) (x : ActT) : LT × List Nat × Int :=
  if x.1 = 1 then ((T.ask x.2.1 x.2.2.1).1, [], (T.ask x.2.1 x.2.2.1).2) else
  if x.1 = 2 then T.back x.2.1 x.2.2.2 else
  if x.1 = 3 then ((T.back x.2.1 0).1, (T.back x.2.1 0).2.1, 0) else (T, [], 0)
def LT.askOk (T : LT) (o : Nat) (k : ByteArray) : Prop :=
  (T.keys o).length < 999999 ∧ (T.line k).length < 999999 ∧ ∀ h l, mget T.locks k = some (h, l) → T.chase o 1001 h = some (decide (T.chase o (T.parties.length + 1) h = some true))
def ChgD (t : Nat) (T' : LT) (l : List Nat) (e : Int) (Fp : Nat → Prop) (H : Heap) (nx : Nat) : Pst := fun q => ∃ r, q.1 = .tup [.sc (.int .i64 e), .slu r 0 l.length] ∧ q.2.1.at' r = some (uR false l) ∧ nx ≤ r ∧ r < q.2.2 ∧ ∃ F', TabAt t T' F' q.2.1 ∧ ¬ F' r ∧ Step Fp F' H nx q.2.1 q.2.2
def LT.actOk (T : LT) (x : ActT) : Prop := T.askOk x.2.1 x.2.2.1 ∧ T.backOk x.2.1 x.2.2.2 ∧ T.backOk x.2.1 0
set_option maxRecDepth 100000 in
set_option maxHeartbeats 0 in
theorem free_t {t : Nat} {T : LT} {Fp : Nat → Prop} {H : Heap} {nx : Nat} (hT : TabAt t T Fp H) (o : Nat) (hok : T.backOk o 0) : Fnc Try.prog 22 [.ptr t 0, .sc (.int .u64 (o : Int))] H nx (fun q => ∃ r, q.1 = .slu r 0 (T.back o 0).2.1.length ∧ q.2.1.at' r = some (uR false (T.back o 0).2.1) ∧ nx ≤ r ∧ r < q.2.2 ∧ ∃ F', TabAt t (T.back o 0).1 F' q.2.1 ∧ ¬ F' r ∧ Step Fp F' H nx q.2.1 q.2.2) := by
  refine Fnc.start Try.func22 rfl rfl ?_
  (repeat (first | refine y_seq ?_ | refine w_region ?_ | refine y_regEnd ?_ | refine w_move rfl rfl rfl ?_ | refine w_assign rfl rfl rfl ?_))
  refine w_call rfl rfl rfl (by kernel_rfl) (Fnc.mono (back_t hT o 0 hok) ?_)
  rintro ⟨_, H1, n1⟩ ⟨r, rfl, h1, h2, h3, F', h4, h5, h6⟩
  dsimp only at h1 h2 h3 h4 h5 h6 ⊢
  (repeat (first | refine y_seq ?_ | refine w_region ?_ | refine y_regEnd ?_ | refine w_move rfl rfl rfl ?_ | refine w_assign rfl rfl rfl ?_ | refine w_extract rfl rfl rfl rfl ?_))
  ((apply w_ret Try.func22 (congrArg Array.toList Try.results22)); (focus (repeat (first | exact ResIs.nil | apply ResIs.tmp rfl))))
  exact ⟨r, rfl, h1, h2, h3, F', h4, h5, h6⟩
set_option maxRecDepth 100000 in
set_option maxHeartbeats 0 in
theorem do_t {t : Nat} {T : LT} {Fp : Nat → Prop} {H : Heap} {nx : Nat} (hT : TabAt t T Fp H) (x : ActT) (hok : T.actOk x) (hsz : x.2.2.1.size < 4611686018427387904) : Fnc Try.prog 11 [.ptr t 0, .agg ((actV x).map .sc)] H nx (ChgD t (T.act x).1 (T.act x).2.1 (T.act x).2.2 Fp H nx) := by
  obtain ⟨kd, o, k, mk⟩ := x
  obtain ⟨⟨a1, a2, a3⟩, ok2, ok3⟩ := hok
  simp only at a1 a2 a3 ok2 ok3 hsz
  refine Fnc.start Try.func11 rfl rfl ?_
  refine y_under fun hund => ?_
  have hlt := hT.lt hund
  (repeat (first | refine y_seq ?_ | refine w_region ?_ | refine y_regEnd ?_ | refine y_block ?_ | refine w_assign rfl rfl rfl ?_ | refine w_fieldAddr rfl rfl rfl (F.fo _ _ rfl rfl) ?_ | refine w_boxN rfl rfl rfl ?_ | refine w_loadB1 rfl rfl rfl (F.ag _ rfl) (by (focus (skip; first | exact Tr.at_set_same _ _ _ | assumption))) (by exact rfl) ?_))
  have hTn : TabAt t T Fp (H.set nx (newCells 32 [.sc (.int .i64 kd), .sc (.int .u64 (o : Int)), .sc (.string k), .sc (.int .i64 mk)])) := hT.frame fun n hn => Tr.at_set_other _ _ (by have := hlt n hn; omega)
  have hst0 : Step Fp Fp H nx (H.set nx (newCells 32 [.sc (.int .i64 kd), .sc (.int .u64 (o : Int)), .sc (.string k), .sc (.int .i64 mk)])) (nx + 1) := ⟨Nat.le_succ _, fun _ q => .inl q, fun n hn _ => Tr.at_set_other _ _ (by omega)⟩
  refine w_eqlS rfl rfl rfl rfl ?_ ?_
  all_goals intro h1
  · have hact : T.act (kd, o, k, mk) = ((T.ask o k).1, [], (T.ask o k).2) := by unfold LT.act; rw [if_pos h1]
    rw [hact]
    (repeat (first | refine y_seq ?_ | refine w_region ?_ | refine y_regEnd ?_ | refine y_condT rfl ?_ | refine w_move rfl rfl rfl ?_ | refine w_assign rfl rfl rfl ?_ | refine w_fieldAddr rfl rfl rfl (F.fo _ _ rfl rfl) ?_ | refine w_loadB1 rfl rfl rfl (F.ag _ rfl) (by (focus (skip; first | exact Tr.at_set_same _ _ _ | assumption))) (by exact rfl) ?_))
    refine w_call rfl rfl rfl (by kernel_rfl) (Fnc.mono (ask_t hTn o k a1 a2 hsz a3) ?_)
    rintro ⟨_, H1, n1⟩ ⟨rfl, F', h4, h6⟩
    dsimp only at h4 h6 ⊢
    (repeat (first | (first | refine y_regEnd ?_ | refine w_assign rfl rfl rfl ?_) | (refine w_call rfl rfl rfl (by kernel_rfl) (Fnc.mono (num_s _) ?_); rintro _ rfl; dsimp only)))
    refine y_under fun hund1 => ?_
    refine y_nilRow 1 23 (d := 5) (by (focus (skip; first | exact Tr.at_set_same _ _ _ | assumption))) rfl ?_
    have hlt1 := h4.lt hund1
    ((apply w_ret Try.func11 (congrArg Array.toList Try.results11)); (focus (repeat (first | exact ResIs.nil | apply ResIs.tmp rfl))))
    refine ⟨n1, rfl, Tr.at_set_same _ _ _, Nat.le_trans (Nat.le_succ _) h6.1, Nat.lt_succ_self _, F', h4.frame fun n hn => Tr.at_set_other _ _ (by have := hlt1 n hn; omega), fun q => Nat.lt_irrefl _ (hlt1 _ q), hst0.trans (h6.trans ⟨Nat.le_succ _, fun _ q => .inl q, fun n hn _ => Tr.at_set_other _ _ (by omega)⟩)⟩
  (repeat (first | refine y_seq ?_ | refine w_region ?_ | refine y_regEnd ?_ | refine y_condF rfl ?_ | refine w_assign rfl rfl rfl ?_))
  refine w_eqlS rfl rfl rfl rfl ?_ ?_
  all_goals intro h2
  · have hact : T.act (kd, o, k, mk) = T.back o mk := by unfold LT.act; rw [if_neg h1, if_pos h2]
    rw [hact]
    (repeat (first | refine y_seq ?_ | refine w_region ?_ | refine y_regEnd ?_ | refine y_condT rfl ?_ | refine w_move rfl rfl rfl ?_ | refine w_assign rfl rfl rfl ?_ | refine w_fieldAddr rfl rfl rfl (F.fo _ _ rfl rfl) ?_ | refine w_loadB1 rfl rfl rfl (F.ag _ rfl) (by (focus (skip; first | exact Tr.at_set_same _ _ _ | assumption))) (by exact rfl) ?_))
    refine w_call rfl rfl rfl (by kernel_rfl) (Fnc.mono (back_t hTn o mk ok2) ?_)
    rintro ⟨_, H1, n1⟩ ⟨r, rfl, h3, h4, h5, F', h6, h7, h8⟩
    dsimp only at h3 h4 h5 h6 h7 h8 ⊢
    (repeat (first | (first | refine y_seq ?_ | refine w_region ?_ | refine y_regEnd ?_ | refine w_move rfl rfl rfl ?_ | refine w_assign rfl rfl rfl ?_ | refine w_extract rfl rfl rfl rfl ?_) | (refine w_call rfl rfl rfl (by kernel_rfl) (Fnc.mono (num_s _) ?_); rintro _ rfl; dsimp only)))
    ((apply w_ret Try.func11 (congrArg Array.toList Try.results11)); (focus (repeat (first | exact ResIs.nil | apply ResIs.tmp rfl))))
    exact ⟨r, rfl, h3, Nat.le_trans (Nat.le_succ _) h4, h5, F', h6, h7, hst0.trans h8⟩
  (repeat (first | refine y_seq ?_ | refine w_region ?_ | refine y_regEnd ?_ | refine y_condF rfl ?_ | refine w_assign rfl rfl rfl ?_))
  refine w_eqlS rfl rfl rfl rfl ?_ ?_
  all_goals intro h3
  · have hact : T.act (kd, o, k, mk) = ((T.back o 0).1, (T.back o 0).2.1, 0) := by unfold LT.act; rw [if_neg h1, if_neg h2, if_pos h3]
    rw [hact]
    (repeat (first | refine y_seq ?_ | refine w_region ?_ | refine y_regEnd ?_ | refine y_condT rfl ?_ | refine w_move rfl rfl rfl ?_ | refine w_assign rfl rfl rfl ?_ | refine w_fieldAddr rfl rfl rfl (F.fo _ _ rfl rfl) ?_ | refine w_loadB1 rfl rfl rfl (F.ag _ rfl) (by (focus (skip; first | exact Tr.at_set_same _ _ _ | assumption))) (by exact rfl) ?_))
    refine w_call rfl rfl rfl (by kernel_rfl) (Fnc.mono (free_t hTn o ok3) ?_)
    rintro ⟨_, H1, n1⟩ ⟨r, rfl, h3, h4, h5, F', h6, h7, h8⟩
    dsimp only at h3 h4 h5 h6 h7 h8 ⊢
    (repeat (first | refine y_regEnd ?_ | refine w_assign rfl rfl rfl ?_))
    ((apply w_ret Try.func11 (congrArg Array.toList Try.results11)); (focus (repeat (first | exact ResIs.nil | apply ResIs.tmp rfl))))
    exact ⟨r, rfl, h3, Nat.le_trans (Nat.le_succ _) h4, h5, F', h6, h7, hst0.trans h8⟩
  · have hact : T.act (kd, o, k, mk) = (T, [], 0) := by unfold LT.act; rw [if_neg h1, if_neg h2, if_neg h3]
    rw [hact]
    (repeat (first | refine y_seq ?_ | refine w_region ?_ | refine y_regEnd ?_ | refine y_inBlock ?_ | refine y_skip ?_ | refine y_condF rfl ?_ | refine w_assign rfl rfl rfl ?_))
    refine y_nilRow 1 23 (d := 5) (by (focus (skip; first | exact Tr.at_set_same _ _ _ | assumption))) rfl ?_
    ((apply w_ret Try.func11 (congrArg Array.toList Try.results11)); (focus (repeat (first | exact ResIs.nil | apply ResIs.tmp rfl))))
    refine ⟨nx + 1, rfl, Tr.at_set_same _ _ _, Nat.le_succ _, Nat.lt_succ_self _, Fp, hTn.frame fun n hn => Tr.at_set_other _ _ (by have := hlt n hn; omega), fun q => by have := hlt _ q; omega, hst0.trans ⟨Nat.le_succ _, fun _ q => .inl q, fun n hn _ => Tr.at_set_other _ _ (by omega)⟩⟩
end Go.Proofs.Ytckajlllkmkniaa
end
section
namespace Go.Proofs.Ytckajlllkmkniaa
open Go Go.Sy Go.Sl Go.RowKit
section
variable {P : Program} {H : Heap} {T : Tr SV} {nx : Nat}
variable {d : Option Tmp} {ty : TypeId} {pos : String} {af : Array Edge} {gd : Option (Nat × Bool)}
theorem rd_strAt {t : TypeId} {x y : Operand} {s : ByteArray} {k : IntKind} {i : Nat} {v : UInt8} (hx : evalS T x = some (.sc (.string s))) (hy : evalS T y = some (.sc (.int k (i : Int)))) (hu : P.underlying t = some .string) (hv : s[i]? = some v) :
    ReadDoes P T H ⟨d, .index t x y, ty, pos, af, gd⟩ (.sc (.int .u8 v.toNat)) := by
  refine rd_pure fun ev w he => ?_
  have e1 := he x _ hx _ rfl
  have e2 := he y _ hy _ rfl
  simp [execOp, e1, e2, Instr.index, asIntOf, run_underlying hu, hv]
end
section
variable {ro : Option Nat} {fn nt nx i : Nat} {T : Tr SV} {k : List AIt} {dfs : List ADf} {H : Heap} {Q : Pst} {ops : Array Oper} {l : List Oper} {ty : TypeId} {pos : String} {af : Array Edge} {gd : Option (Nat × Bool)} {P : Program}
theorem w_strAt {t : TypeId} {x y : Operand} {s : ByteArray} {kd : IntKind} {j : Nat} {v : UInt8} {dd : Nat} (hw : wantedS T ops ⟨some dd, .index t x y, ty, pos, af, gd⟩ = some true) (hd : Nat.blt dd nt = true) (hx : evalS T x = some (.sc (.string s))) (hy : evalS T y = some (.sc (.int kd (j : Int)))) (hu : P.underlying t = some .string) (hv : s[j]? = some v)
    (h : Wp P ro ⟨fn, nt, T.set dd (.sc (.int .u8 v.toNat)), .inReg ops (i + 1) l :: k, dfs, H, nx⟩ Q) : Wp P ro ⟨fn, nt, T, .inReg ops i (⟨some dd, .index t x y, ty, pos, af, gd⟩ :: l) :: k, dfs, H, nx⟩ Q :=
  y_val hw (.inr (fun _ h => by cases h)) ((rd_strAt hx hy hu hv).does) (by rw [putS_some hd]; exact h)
end
theorem swp_size {A : Type} [Inhabited A] (d : Array A) (i j : Nat) : (Sort.swp d i j).size = d.size := by simp [Sort.swp]
theorem quo_half {x : Int} {m : Nat} (hx : x = (m : Int) - 1) (hm : m < 4611686018427387904) : IntKind.i64.wrap (x.tdiv 2) = (((m - 1) / 2 : Nat) : Int) := by
  subst hx
  rcases Nat.eq_zero_or_pos m with rfl | h
  · decide
  · rw [Int.tdiv_eq_ediv_of_nonneg (by omega), Go.IntWalk.i64_in _ ⟨by omega, by omega⟩]
    omega
def hintI : Sort.Hint → Int
  | .unknown => 0
  | .increasing => 1
  | .decreasing => 2
theorem hintI_dec {h : Sort.Hint} : (hintI h == 2) = decide (h = .decreasing) := by cases h <;> rfl
theorem u64_lt {m : Nat} (h : m < 2 ^ 64) : IntKind.u64.wrap ((m : Nat) : Int) = (m : Int) := by
  rw [Go.IntWalk.u64_in _ ⟨by omega, by omega⟩]
theorem xorU {a b : Nat} (ha : a < 18446744073709551616) (hb : b < 18446744073709551616) : bitsI .xor .u64 (a : Int) (b : Int) = ((a ^^^ b : Nat) : Int) := by
  show IntKind.u64.wrap (((BitVec.ofInt 64 (a : Int) ^^^ BitVec.ofInt 64 (b : Int)).toNat : Nat) : Int) = _
  rw [BitVec.toNat_xor, BitVec.ofInt_natCast, BitVec.ofInt_natCast, BitVec.toNat_ofNat, BitVec.toNat_ofNat, Nat.mod_eq_of_lt ha, Nat.mod_eq_of_lt hb, u64_lt]
  exact Nat.xor_lt_two_pow ha hb
theorem andU {a b : Nat} (ha : a < 18446744073709551616) (hb : b < 18446744073709551616) : bitsI .and .u64 (a : Int) (b : Int) = ((a &&& b : Nat) : Int) := by
  show IntKind.u64.wrap (((BitVec.ofInt 64 (a : Int) &&& BitVec.ofInt 64 (b : Int)).toNat : Nat) : Int) = _
  rw [BitVec.toNat_and, BitVec.ofInt_natCast, BitVec.ofInt_natCast, BitVec.toNat_ofNat, BitVec.toNat_ofNat, Nat.mod_eq_of_lt ha, Nat.mod_eq_of_lt hb, u64_lt]
  exact Nat.and_lt_two_pow _ hb
theorem sh13 (x : Nat) : IntKind.u64.wrap ((x : Int) * 2 ^ (min (Int.toNat 13) IntKind.u64.bits)) = ((x * 8192 % 18446744073709551616 : Nat) : Int) := by
  have : (2 : Int) ^ (min (Int.toNat 13) IntKind.u64.bits) = 8192 := by decide
  rw [this, IntKind.wrap_u64]
  omega
theorem sh17 (x : Nat) : IntKind.u64.wrap ((x : Int) * 2 ^ (min (Int.toNat 17) IntKind.u64.bits)) = ((x * 131072 % 18446744073709551616 : Nat) : Int) := by
  have : (2 : Int) ^ (min (Int.toNat 17) IntKind.u64.bits) = 131072 := by decide
  rw [this, IntKind.wrap_u64]
  omega
theorem sh7 (x : Nat) : Int.fdiv (x : Int) (2 ^ (min (Int.toNat 7) IntKind.u64.bits)) = ((x / 128 : Nat) : Int) := by
  have : (2 : Int) ^ (min (Int.toNat 7) IntKind.u64.bits) = 128 := by decide
  rw [this, Int.fdiv_eq_ediv_of_nonneg _ (by decide)]
  omega
theorem sh8 (x : Nat) : Int.fdiv (x : Int) (2 ^ (min (Int.toNat 8) IntKind.u64.bits)) = ((x / 256 : Nat) : Int) := by
  have : (2 : Int) ^ (min (Int.toNat 8) IntKind.u64.bits) = 256 := by decide
  rw [this, Int.fdiv_eq_ediv_of_nonneg _ (by decide)]
  omega
abbrev xsO (x : Nat) : VO := newCells 107 [.sc (.int .u64 (x : Int))]
set_option maxRecDepth 100000 in
set_option maxHeartbeats 0 in
theorem next_spec (x : Nat) (hx : x < 18446744073709551616) : Ctr Try.prog 72 [.ptr 0 0] [xsO x] (fun c => c = ⟨.sc (.int .u64 (Sort.xorNextN x : Int)), [some (xsO (Sort.xorNextN x))]⟩) := by
  have hA : x ^^^ (x * 8192 % 18446744073709551616) < 18446744073709551616 := Nat.xor_lt_two_pow (n := 64) (by omega) (by omega)
  have eA := xorU (a := x) (b := x * 8192 % 18446744073709551616) hx (by omega)
  have eC : Sort.xorNextN x = Sort.xorNextN x := rfl
  conv at eC => rhs; unfold Sort.xorNextN
  simp only at eC
  generalize x ^^^ (x * 8192 % 18446744073709551616) = A at hA eA eC
  have hB : A ^^^ (A / 128) < 18446744073709551616 := Nat.xor_lt_two_pow (n := 64) (by omega) (by omega)
  have eB := xorU (a := A) (b := A / 128) hA (by omega)
  generalize A ^^^ (A / 128) = B at hB eB eC
  have eD := xorU (a := B) (b := B * 131072 % 18446744073709551616) hB (by omega)
  rw [← eC] at eD
  refine Fnc.start Try.func72 rfl rfl ?_
  (repeat (first | refine y_seq ?_ | refine w_region ?_ | refine y_regEnd ?_ | refine w_assign rfl rfl rfl ?_))
  refine w_draw (by kernel_rfl) (by kernel_rfl) ?_
  (repeat (first | refine dw_move rfl rfl rfl ?_ | refine dw_nilCheck rfl rfl rfl ?_ | refine dw_loadB1 rfl rfl rfl (F.ag _ rfl) rfl rfl ?_ | refine dw_store1 rfl rfl rfl (F.sz _ rfl) rfl rfl rfl ?_ | (refine dw_shlC rfl rfl rfl rfl (by decide) (sh13 x) ?_) | (refine dw_bitC rfl rfl rfl rfl (.inr (.inr (.inl rfl))) eA ?_)))
  (refine dk_nil ?_); (refine ⟨by kernel_rfl, ?_, ?_⟩); (focus (repeat (first | exact trivial | refine ⟨.inl rfl, ?_⟩ | refine ⟨.inr (by (repeat (refine ⟨(by first | exact rd_not rfl | exact rd_cmp rfl rfl (.inr (.inr (.inr (.inr (.inl ⟨rfl, rfl⟩))))) | exact rd_idxN (F.un _ rfl) (F.sz _ rfl) rfl rfl rfl (by omega) (by omega) (by omega) | exact rd_arith rfl rfl (.inl ⟨rfl, (Go.IntWalk.i64_in _ ⟨by omega, by omega⟩).symm⟩) | exact rd_arith rfl rfl (.inr (.inl ⟨rfl, (Go.IntWalk.i64_in _ ⟨by omega, by omega⟩).symm⟩)) | exact rd_fieldAddr (F.fo _ _ rfl rfl) rfl | exact rd_move rfl | exact rd_assign rfl | exact rd_load1 (F.ag _ rfl) rfl rfl (cell_box rfl) | exact rd_loadN (F.ag _ rfl) rfl rfl (cellsFrom_box _ 0 rfl rfl) | exact rd_extract rfl rfl | exact rd_lenSl (F.un _ rfl) rfl | exact rd_lenStr (F.un _ rfl) rfl | exact rd_nilCheck rfl | exact rd_pickT rfl rfl | exact rd_pickF rfl rfl), ?_⟩)); exact trivial), ?_⟩ | refine ⟨.inl (by kernel_rfl), ?_⟩)))
  (repeat (refine y_seq ?_))
  refine w_draw (by kernel_rfl) (by kernel_rfl) ?_
  (repeat (first | refine dw_move rfl rfl rfl ?_ | refine dw_nilCheck rfl rfl rfl ?_ | refine dw_loadB1 rfl rfl rfl (F.ag _ rfl) rfl rfl ?_ | refine dw_store1 rfl rfl rfl (F.sz _ rfl) rfl rfl rfl ?_ | (refine dw_shrC rfl rfl rfl rfl (by decide) (sh7 A) ?_) | (refine dw_bitC rfl rfl rfl rfl (.inr (.inr (.inl rfl))) eB ?_)))
  (refine dk_nil ?_); (refine ⟨by kernel_rfl, ?_, ?_⟩); (focus (repeat (first | exact trivial | refine ⟨.inl rfl, ?_⟩ | refine ⟨.inr (by (repeat (refine ⟨(by first | exact rd_not rfl | exact rd_cmp rfl rfl (.inr (.inr (.inr (.inr (.inl ⟨rfl, rfl⟩))))) | exact rd_idxN (F.un _ rfl) (F.sz _ rfl) rfl rfl rfl (by omega) (by omega) (by omega) | exact rd_arith rfl rfl (.inl ⟨rfl, (Go.IntWalk.i64_in _ ⟨by omega, by omega⟩).symm⟩) | exact rd_arith rfl rfl (.inr (.inl ⟨rfl, (Go.IntWalk.i64_in _ ⟨by omega, by omega⟩).symm⟩)) | exact rd_fieldAddr (F.fo _ _ rfl rfl) rfl | exact rd_move rfl | exact rd_assign rfl | exact rd_load1 (F.ag _ rfl) rfl rfl (cell_box rfl) | exact rd_loadN (F.ag _ rfl) rfl rfl (cellsFrom_box _ 0 rfl rfl) | exact rd_extract rfl rfl | exact rd_lenSl (F.un _ rfl) rfl | exact rd_lenStr (F.un _ rfl) rfl | exact rd_nilCheck rfl | exact rd_pickT rfl rfl | exact rd_pickF rfl rfl), ?_⟩)); exact trivial), ?_⟩ | refine ⟨.inl (by kernel_rfl), ?_⟩)))
  (repeat (refine y_seq ?_))
  refine w_draw (by kernel_rfl) (by kernel_rfl) ?_
  (repeat (first | refine dw_move rfl rfl rfl ?_ | refine dw_nilCheck rfl rfl rfl ?_ | refine dw_loadB1 rfl rfl rfl (F.ag _ rfl) rfl rfl ?_ | refine dw_store1 rfl rfl rfl (F.sz _ rfl) rfl rfl rfl ?_ | (refine dw_shlC rfl rfl rfl rfl (by decide) (sh17 B) ?_) | (refine dw_bitC rfl rfl rfl rfl (.inr (.inr (.inl rfl))) eD ?_)))
  (refine dk_nil ?_); (refine ⟨by kernel_rfl, ?_, ?_⟩); (focus (repeat (first | exact trivial | refine ⟨.inl rfl, ?_⟩ | refine ⟨.inr (by (repeat (refine ⟨(by first | exact rd_not rfl | exact rd_cmp rfl rfl (.inr (.inr (.inr (.inr (.inl ⟨rfl, rfl⟩))))) | exact rd_idxN (F.un _ rfl) (F.sz _ rfl) rfl rfl rfl (by omega) (by omega) (by omega) | exact rd_arith rfl rfl (.inl ⟨rfl, (Go.IntWalk.i64_in _ ⟨by omega, by omega⟩).symm⟩) | exact rd_arith rfl rfl (.inr (.inl ⟨rfl, (Go.IntWalk.i64_in _ ⟨by omega, by omega⟩).symm⟩)) | exact rd_fieldAddr (F.fo _ _ rfl rfl) rfl | exact rd_move rfl | exact rd_assign rfl | exact rd_load1 (F.ag _ rfl) rfl rfl (cell_box rfl) | exact rd_loadN (F.ag _ rfl) rfl rfl (cellsFrom_box _ 0 rfl rfl) | exact rd_extract rfl rfl | exact rd_lenSl (F.un _ rfl) rfl | exact rd_lenStr (F.un _ rfl) rfl | exact rd_nilCheck rfl | exact rd_pickT rfl rfl | exact rd_pickF rfl rfl), ?_⟩)); exact trivial), ?_⟩ | refine ⟨.inl (by kernel_rfl), ?_⟩)))
  (repeat (first | refine y_seq ?_ | refine w_region ?_ | refine y_regEnd ?_ | refine w_move rfl rfl rfl ?_ | refine w_assign rfl rfl rfl ?_ | refine w_nilCheck rfl rfl rfl ?_ | refine w_loadB1 rfl rfl rfl (F.ag _ rfl) rfl rfl ?_))
  ((apply w_ret Try.func72 (congrArg Array.toList Try.results72)); (focus (repeat (first | exact ResIs.nil | apply ResIs.tmp rfl))); refine ⟨_, rfl, Ends.mk [] (ExtOk.of rfl) rfl rfl ?_⟩)
  exact (by repeat (first | exact trivial | refine ⟨at_box rfl, ?_⟩))
def tabOk (s : ByteArray) : Bool := (List.range 256).all fun i => match s[i]? with
  | some v => v.toNat == Sort.bitsLen i
  | none => false
theorem tab_at {s : ByteArray} (h : tabOk s = true) {i : Nat} (hi : i < 256) : s[i]? = some (UInt8.ofNat (Sort.bitsLen i)) := by
  unfold tabOk at h
  rw [List.all_eq_true] at h
  have := h i (List.mem_range.2 hi)
  split at this
  · rename_i v hv
    rw [hv, ← (beq_iff_eq.1 this), UInt8.ofNat_toNat]
  · cases this
theorem bits_div (x : Nat) (h : 256 ≤ x) : Sort.bitsLen x = 8 + Sort.bitsLen (x / 256) := by
  have key : ∀ k, Sort.bitsLen (x / 256) ≤ k ↔ Sort.bitsLen x ≤ k + 8 := fun k => by
    rw [Sort.bitsLen_le_iff, Sort.bitsLen_le_iff, Nat.pow_add, Nat.div_lt_iff_lt_mul (by decide)]
  have h8 : ¬ Sort.bitsLen x ≤ 7 := by
    rw [Sort.bitsLen_le_iff]
    omega
  have h1 := (key (Sort.bitsLen (x / 256))).1 (Nat.le_refl _)
  have h2 := (key (Sort.bitsLen x - 8)).2 (by omega)
  omega
theorem bits16 {x : Nat} (h : x < 65536) : Sort.bitsLen x ≤ 16 := (Sort.bitsLen_le_iff x 16).2 h
theorem u8len {x : Nat} (h : x < 65536) : IntKind.i64.wrap (((UInt8.ofNat (Sort.bitsLen x)).toNat : Nat) : Int) = (Sort.bitsLen x : Int) := by
  have := bits16 h
  rw [UInt8.toNat_ofNat', Nat.mod_eq_of_lt (by omega), Go.IntWalk.i64_in _ ⟨by omega, by omega⟩]
set_option maxRecDepth 100000 in
set_option maxHeartbeats 0 in
theorem len64_spec (x : Nat) (hx : x < 65536) : Ctr Try.prog 69 [.sc (.int .u64 (x : Int))] [] (fun c => c = ⟨.sc (.int .i64 (Sort.bitsLen x : Int)), []⟩) := by
  have h16 := bits16 hx
  refine Fnc.start Try.func69 rfl rfl ?_
  (repeat (first | refine y_seq ?_ | refine w_region ?_ | refine y_regEnd ?_ | refine w_move rfl rfl rfl ?_ | refine w_assign rfl rfl rfl ?_))
  refine w_geqS rfl rfl rfl rfl ?_ ?_
  all_goals intro h1
  · exact absurd h1 (by omega)
  (repeat (first | refine y_seq ?_ | refine w_region ?_ | refine y_regEnd ?_ | refine y_skip ?_ | refine y_condF rfl ?_ | refine w_move rfl rfl rfl ?_))
  refine w_geqS rfl rfl rfl rfl ?_ ?_
  all_goals intro h2
  · exact absurd h2 (by omega)
  (repeat (first | refine y_seq ?_ | refine w_region ?_ | refine y_regEnd ?_ | refine y_skip ?_ | refine y_condF rfl ?_ | refine w_move rfl rfl rfl ?_))
  refine w_geqS rfl rfl rfl rfl ?_ ?_
  all_goals intro h3
  · have h17 := bits16 (x := x / 256) (by omega)
    (repeat (first | (first | refine y_seq ?_ | refine w_region ?_ | refine y_regEnd ?_ | refine y_condT rfl ?_ | refine w_move rfl rfl rfl ?_ | refine w_assign rfl rfl rfl ?_ | refine w_add rfl rfl rfl rfl (by omega) (by omega) ?_) | (refine w_shrC rfl rfl rfl rfl (by decide) (sh8 x) ?_) | refine w_conv rfl rfl rfl (F.un _ rfl) (F.un _ rfl) (show _ = ((x / 256 : Nat) : Int) from Go.IntWalk.u8_in _ ⟨by omega, by omega⟩) ?_ | (refine w_strAt rfl rfl rfl rfl (F.un _ rfl) (tab_at (by kernel_rfl) (show x / 256 < 256 by omega)) ?_) | refine w_conv rfl rfl rfl (F.un _ rfl) (F.un _ rfl) (u8len (x := x / 256) (by omega)) ?_))
    rw [bits_div x (by omega)]
    (apply w_ret Try.func69 (congrArg Array.toList Try.results69); (focus (repeat (first | exact ResIs.nil | apply ResIs.tmp rfl))))
    (refine ⟨_, rfl, Ends.val (ExtOk.of rfl) rfl ?_ ?_⟩)
    · simp
    · trivial
  · (repeat (first | (first | refine y_seq ?_ | refine w_region ?_ | refine y_regEnd ?_ | refine y_skip ?_ | refine y_condF rfl ?_ | refine w_move rfl rfl rfl ?_ | refine w_assign rfl rfl rfl ?_ | refine w_add rfl rfl rfl rfl (by omega) (by omega) ?_) | refine w_conv rfl rfl rfl (F.un _ rfl) (F.un _ rfl) (show _ = (x : Int) from Go.IntWalk.u8_in _ ⟨by omega, by omega⟩) ?_ | (refine w_strAt rfl rfl rfl rfl (F.un _ rfl) (tab_at (by kernel_rfl) (show x < 256 by omega)) ?_) | refine w_conv rfl rfl rfl (F.un _ rfl) (F.un _ rfl) (u8len (x := x) (by omega)) ?_))
    (apply w_ret Try.func69 (congrArg Array.toList Try.results69); (focus (repeat (first | exact ResIs.nil | apply ResIs.tmp rfl))))
    (refine ⟨_, rfl, Ends.val (ExtOk.of rfl) rfl ?_ ?_⟩)
    · simp
    · trivial
theorem len_spec (x : Nat) (hx : x < 65536) : Ctr Try.prog 56 [.sc (.int .u64 (x : Int))] [] (fun c => c = ⟨.sc (.int .i64 (Sort.bitsLen x : Int)), []⟩) := by
  refine Fnc.start Try.func56 rfl rfl ?_
  (repeat (first | (first | refine y_seq ?_ | refine w_region ?_ | refine y_regEnd ?_ | refine y_skip ?_ | refine y_condF rfl ?_ | refine w_move rfl rfl rfl ?_ | refine w_assign rfl rfl rfl ?_) | refine w_callV (len64_spec x hx) [] rfl rfl rfl (by kernel_rfl) rfl (ExtOk.of rfl) rfl trivial ?_))
  (apply w_ret Try.func56 (congrArg Array.toList Try.results56); (focus (repeat (first | exact ResIs.nil | apply ResIs.tmp rfl))))
  (refine ⟨_, rfl, Ends.val (ExtOk.of rfl) rfl ?_ ?_⟩)
  · rfl
  · trivial
theorem pow_in {k : Nat} (h : k ≤ 16) : IntKind.u64.wrap ((1 : Int) * 2 ^ (min (Int.toNat (k : Int)) IntKind.u64.bits)) = ((2 ^ k : Nat) : Int) := by
  have : ∀ k : Fin 17, IntKind.u64.wrap ((1 : Int) * 2 ^ (min (Int.toNat (k.val : Int)) IntKind.u64.bits)) = ((2 ^ k.val : Nat) : Int) := by decide
  exact this ⟨k, by omega⟩
theorem pow2_spec (x : Nat) (hx : x < 65536) : Ctr Try.prog 71 [.sc (.int .i64 (x : Int))] [] (fun c => c = ⟨.sc (.int .u64 ((2 ^ Sort.bitsLen x : Nat) : Int)), []⟩) := by
  refine Fnc.start Try.func71 rfl rfl ?_
  (repeat (first | (first | refine y_seq ?_ | refine w_region ?_ | refine y_regEnd ?_ | refine w_move rfl rfl rfl ?_ | refine w_assign rfl rfl rfl ?_) | refine w_conv rfl rfl rfl (F.un _ rfl) (F.un _ rfl) (show _ = (x : Int) from Go.IntWalk.u64_in _ ⟨by omega, by omega⟩) ?_ | refine w_callV (len_spec x hx) [] rfl rfl rfl (by kernel_rfl) rfl (ExtOk.of rfl) rfl trivial ?_ | (refine w_shlC rfl rfl rfl rfl (by omega) (pow_in (bits16 hx)) ?_)))
  (apply w_ret Try.func71 (congrArg Array.toList Try.results71); (focus (repeat (first | exact ResIs.nil | apply ResIs.tmp rfl))))
  (refine ⟨_, rfl, Ends.val (ExtOk.of rfl) rfl ?_ ?_⟩)
  · rfl
  · trivial
end Go.Proofs.Ytckajlllkmkniaa
end
section
namespace Go.Proofs.Ytckajlllkmkniaa
open Go Go.Sy Go.Sl Go.RowKit
abbrev oUV : Nat → List Value := fun x => [.int .u64 x]
abbrev oUrow (n : Nat) (d : Array Nat) : VO := arr false n 1 23 oUV d
def oUlt (x y : Nat) : Bool := decide ((x : Int) < (y : Int))
set_option maxRecDepth 100000 in
theorem oUnan (a : Nat) : Ctr Try.prog 75 [.sc (.int .u64 a)] [] (fun c => c = ⟨.sc (.bool false), []⟩) := by
  refine Fnc.start Try.func75 rfl rfl ?_
  (repeat (first | (first | refine y_seq ?_ | refine w_region ?_ | refine y_regEnd ?_ | refine w_move rfl rfl rfl ?_ | refine w_assign rfl rfl rfl ?_) | refine w_neq rfl rfl rfl rfl ?_))
  (apply w_ret Try.func75 (congrArg Array.toList Try.results75); (focus (repeat (first | exact ResIs.nil | apply ResIs.tmp rfl))))
  (refine ⟨_, rfl, Ends.val (ExtOk.of rfl) rfl ?_ ?_⟩)
  · simp
  · trivial
set_option maxRecDepth 100000 in
theorem oUless (a b : Nat) : Ctr Try.prog 65 [.sc (.int .u64 a), .sc (.int .u64 b)] [] (fun c => c = ⟨.sc (.bool (oUlt a b)), []⟩) := by
  refine Fnc.start Try.func65 rfl rfl ?_
  (repeat (first | (first | refine y_seq ?_ | refine w_region ?_ | refine y_regEnd ?_ | refine w_move rfl rfl rfl ?_ | refine w_assign rfl rfl rfl ?_ | refine w_pickF rfl rfl rfl rfl ?_ | refine w_not rfl ?_) | refine w_callV (oUnan _) [] rfl rfl rfl (by kernel_rfl) rfl (ExtOk.of rfl) rfl trivial ?_ | refine w_lss rfl rfl rfl rfl ?_))
  (apply w_ret Try.func65 (congrArg Array.toList Try.results65); (focus (repeat (first | exact ResIs.nil | apply ResIs.tmp rfl))))
  (refine ⟨_, rfl, Ends.val (ExtOk.of rfl) rfl ?_ ?_⟩)
  · rfl
  · trivial
set_option maxRecDepth 100000 in
set_option maxHeartbeats 0 in
theorem oUins (n a b : Nat) (d : Array Nat) (hn : n < 4611686018427387904) (hd : d.size = n) (hab : a ≤ b) (hb : b ≤ n) :
    Ctr Try.prog 59 [.slu 0 0 n, .sc (.int .i64 (a : Int)), .sc (.int .i64 (b : Int))] [oUrow n d] (fun c => c = ⟨.tup [], [some (oUrow n (Sort.insertionSort oUlt d a b))]⟩) := by
  refine Fnc.start Try.func59 rfl rfl ?_
  (repeat (first | refine y_seq ?_ | refine w_region ?_ | refine y_regEnd ?_ | refine y_block ?_ | refine w_move rfl rfl rfl ?_ | refine w_assign rfl rfl rfl ?_ | refine w_add rfl rfl rfl rfl (by omega) (by omega) ?_))
  refine y_loopC 1 (fun s : Nat × Array Nat => [(0, .slu 0 0 n), (1, .sc (.int .i64 (a : Int))), (2, .sc (.int .i64 (b : Int))), (6, .sc (.int .i64 (s.1 : Int)))]) (fun s => [some (oUrow n s.2)]) (fun s => s.1 ≤ n + 1 ∧ a < s.1 ∧ s.2.size = n ∧ Sort.insOuter oUlt a b s.1 s.2 = Sort.insertionSort oUlt d a b) (fun s => n + 1 - s.1) (a + 1, d) []
    (fun _ => rfl) ⟨by omega, by omega, hd, rfl⟩ ?_ (fun _ => rfl) (fun _ => rfl) ?_
  · (refine ⟨(ExtOk.of rfl), rfl, (by repeat (first | exact trivial | refine ⟨rfl, ?_⟩)), (by repeat (first | exact trivial | refine ⟨at_dat rfl, ?_⟩))⟩)
  rintro ⟨i, d1⟩ ⟨hi, hai, hd1, ho⟩ ih
  simp only at hi hai hd1 ho ih ⊢
  (repeat (first | refine y_seq ?_ | refine w_region ?_ | refine w_move rfl rfl rfl ?_))
  refine w_lssS rfl rfl rfl rfl ?_ ?_
  all_goals intro h1
  · (repeat (first | refine y_seq ?_ | refine w_region ?_ | refine y_regEnd ?_ | refine y_block ?_ | refine y_skip ?_ | refine y_condT rfl ?_ | refine w_move rfl rfl rfl ?_ | refine w_assign rfl rfl rfl ?_))
    have ho2 : Sort.insOuter oUlt a b (i + 1) (Sort.insInner oUlt a i d1) = Sort.insertionSort oUlt d a b := by
      rw [← ho]
      conv => rhs; rw [Sort.insOuter, if_pos (by omega)]
    refine y_loopC 1 (fun s : Nat × Array Nat => [(0, .slu 0 0 n), (1, .sc (.int .i64 (a : Int))), (2, .sc (.int .i64 (b : Int))), (6, .sc (.int .i64 (i : Int))), (7, .sc (.int .i64 (s.1 : Int)))]) (fun s => [some (oUrow n s.2)]) (fun s => s.1 ≤ i ∧ s.2.size = n ∧ Sort.insInner oUlt a s.1 s.2 = Sort.insInner oUlt a i d1) (fun s => s.1) (i, d1) []
      (fun _ => rfl) ⟨by omega, hd1, rfl⟩ ?_ (fun _ => rfl) (fun _ => rfl) ?_
    · (refine ⟨(ExtOk.of rfl), rfl, (by repeat (first | exact trivial | refine ⟨rfl, ?_⟩)), (by repeat (first | exact trivial | refine ⟨at_dat rfl, ?_⟩))⟩)
    rintro ⟨j, d2⟩ ⟨hj, hd2, hin⟩ ihj
    simp only at hj hd2 hin ihj ⊢
    (repeat (refine y_seq ?_))
    refine w_draw (by kernel_rfl) (by kernel_rfl) ?_
    (repeat (refine dw_move rfl rfl rfl ?_))
    refine dw_gtrS rfl rfl rfl rfl ?_ ?_
    all_goals intro h2
    · obtain ⟨j, rfl⟩ : ∃ j', j = j' + 1 := ⟨j - 1, by omega⟩
      have hls := oUless d2[j + 1]! d2[j]!
      cases h3 : oUlt d2[j + 1]! d2[j]!
      all_goals rw [h3] at hls
      all_goals (repeat (first | refine dw_move rfl rfl rfl ?_ | refine dw_pickT rfl rfl rfl rfl ?_ | refine dw_sub rfl rfl rfl rfl (by omega) (by omega) ?_ | refine dw_idxN (q := j + 1) rfl rfl rfl rfl (F.un _ rfl) (F.sz _ rfl) rfl (by omega) (by omega) (by omega) ?_ | refine dw_idxN (q := j) rfl rfl rfl rfl (F.un _ rfl) (F.sz _ rfl) rfl (by omega) (by omega) (by omega) ?_ | (refine dw_ldS (g := fun x : Nat => .int .u64 x) rfl rfl rfl (F.ag _ rfl) rfl (by omega) (by omega) ?_) | refine dk_call rfl rfl rfl (by kernel_rfl) (Ctr.callV (hls) [] rfl (ExtOk.of rfl) rfl trivial rfl) ?_))
      · (refine dk_nil ?_); (refine ⟨by kernel_rfl, ?_, ?_⟩); (focus (repeat (first | exact trivial | refine ⟨.inl rfl, ?_⟩ | refine ⟨.inr (by (repeat (refine ⟨(by first | exact rd_not rfl | exact rd_cmp rfl rfl (.inr (.inr (.inr (.inr (.inl ⟨rfl, rfl⟩))))) | exact rd_idxN (F.un _ rfl) (F.sz _ rfl) rfl rfl rfl (by omega) (by omega) (by omega) | exact rd_arith rfl rfl (.inl ⟨rfl, (Go.IntWalk.i64_in _ ⟨by omega, by omega⟩).symm⟩) | exact rd_arith rfl rfl (.inr (.inl ⟨rfl, (Go.IntWalk.i64_in _ ⟨by omega, by omega⟩).symm⟩)) | exact rd_fieldAddr (F.fo _ _ rfl rfl) rfl | exact rd_move rfl | exact rd_assign rfl | exact rd_load1 (F.ag _ rfl) rfl rfl (cell_box rfl) | exact rd_loadN (F.ag _ rfl) rfl rfl (cellsFrom_box _ 0 rfl rfl) | exact rd_extract rfl rfl | exact rd_lenSl (F.un _ rfl) rfl | exact rd_lenStr (F.un _ rfl) rfl | exact rd_nilCheck rfl | exact rd_pickT rfl rfl | exact rd_pickF rfl rfl), ?_⟩)); exact trivial), ?_⟩ | refine ⟨.inl (by kernel_rfl), ?_⟩)))
        (repeat (first | refine w_region ?_ | refine y_regEnd ?_ | refine y_inBlock ?_ | refine y_exit rfl ?_ | refine y_condF rfl ?_ | refine w_move rfl rfl rfl ?_ | refine w_assign rfl rfl rfl ?_ | refine w_add rfl rfl rfl rfl (by omega) (by omega) ?_))
        have hin2 : Sort.insInner oUlt a i d1 = d2 := by
          rw [← hin, Sort.insInner, if_neg (by rw [h3]; simp)]
        refine ih _ _ _ (i + 1, d2) [] ⟨by omega, by omega, hd2, by rw [← hin2]; exact ho2⟩ (by simp only; omega) ?_
        (refine ⟨(ExtOk.of rfl), rfl, (by repeat (first | exact trivial | refine ⟨rfl, ?_⟩)), (by repeat (first | exact trivial | refine ⟨at_dat rfl, ?_⟩))⟩)
      · (refine dk_nil ?_); (refine ⟨by kernel_rfl, ?_, ?_⟩); (focus (repeat (first | exact trivial | refine ⟨.inl rfl, ?_⟩ | refine ⟨.inr (by (repeat (refine ⟨(by first | exact rd_not rfl | exact rd_cmp rfl rfl (.inr (.inr (.inr (.inr (.inl ⟨rfl, rfl⟩))))) | exact rd_idxN (F.un _ rfl) (F.sz _ rfl) rfl rfl rfl (by omega) (by omega) (by omega) | exact rd_arith rfl rfl (.inl ⟨rfl, (Go.IntWalk.i64_in _ ⟨by omega, by omega⟩).symm⟩) | exact rd_arith rfl rfl (.inr (.inl ⟨rfl, (Go.IntWalk.i64_in _ ⟨by omega, by omega⟩).symm⟩)) | exact rd_fieldAddr (F.fo _ _ rfl rfl) rfl | exact rd_move rfl | exact rd_assign rfl | exact rd_load1 (F.ag _ rfl) rfl rfl (cell_box rfl) | exact rd_loadN (F.ag _ rfl) rfl rfl (cellsFrom_box _ 0 rfl rfl) | exact rd_extract rfl rfl | exact rd_lenSl (F.un _ rfl) rfl | exact rd_lenStr (F.un _ rfl) rfl | exact rd_nilCheck rfl | exact rd_pickT rfl rfl | exact rd_pickF rfl rfl), ?_⟩)); exact trivial), ?_⟩ | refine ⟨.inl (by kernel_rfl), ?_⟩)))
        (repeat (first | refine y_seq ?_ | refine y_block ?_ | refine y_skip ?_ | refine y_condT rfl ?_))
        refine w_draw (by kernel_rfl) (by kernel_rfl) ?_
        (repeat (first | refine dw_move rfl rfl rfl ?_ | refine dw_sub rfl rfl rfl rfl (by omega) (by omega) ?_ | refine dw_idxN (q := j + 1) rfl rfl rfl rfl (F.un _ rfl) (F.sz _ rfl) rfl (by omega) (by omega) (by omega) ?_ | refine dw_idxN (q := j) rfl rfl rfl rfl (F.un _ rfl) (F.sz _ rfl) rfl (by omega) (by omega) (by omega) ?_ | (refine dw_ldS (g := fun x : Nat => .int .u64 x) rfl rfl rfl (F.ag _ rfl) rfl (by omega) (by omega) ?_) | (refine dw_stS (g := fun x : Nat => .int .u64 x) rfl rfl rfl (fun _ => rfl) (F.sz _ rfl) rfl (by first | omega | (simp only [Array.size_setIfInBounds, swp_size]; omega)) (by first | omega | (simp only [Array.size_setIfInBounds, swp_size]; omega)) ?_)))
        (refine dk_nil ?_); (refine ⟨by kernel_rfl, ?_, ?_⟩); (focus (repeat (first | exact trivial | refine ⟨.inl rfl, ?_⟩ | refine ⟨.inr (by (repeat (refine ⟨(by first | exact rd_not rfl | exact rd_cmp rfl rfl (.inr (.inr (.inr (.inr (.inl ⟨rfl, rfl⟩))))) | exact rd_idxN (F.un _ rfl) (F.sz _ rfl) rfl rfl rfl (by omega) (by omega) (by omega) | exact rd_arith rfl rfl (.inl ⟨rfl, (Go.IntWalk.i64_in _ ⟨by omega, by omega⟩).symm⟩) | exact rd_arith rfl rfl (.inr (.inl ⟨rfl, (Go.IntWalk.i64_in _ ⟨by omega, by omega⟩).symm⟩)) | exact rd_fieldAddr (F.fo _ _ rfl rfl) rfl | exact rd_move rfl | exact rd_assign rfl | exact rd_load1 (F.ag _ rfl) rfl rfl (cell_box rfl) | exact rd_loadN (F.ag _ rfl) rfl rfl (cellsFrom_box _ 0 rfl rfl) | exact rd_extract rfl rfl | exact rd_lenSl (F.un _ rfl) rfl | exact rd_lenStr (F.un _ rfl) rfl | exact rd_nilCheck rfl | exact rd_pickT rfl rfl | exact rd_pickF rfl rfl), ?_⟩)); exact trivial), ?_⟩ | refine ⟨.inl (by kernel_rfl), ?_⟩)))
        (repeat (first | refine w_region ?_ | refine y_regEnd ?_ | refine y_inBlock ?_ | refine w_move rfl rfl rfl ?_ | refine w_assign rfl rfl rfl ?_ | refine w_sub rfl rfl rfl rfl (by omega) (by omega) ?_))
        refine ihj _ _ _ (j, Sort.swp d2 (j + 1) j) [] ⟨by omega, by rw [swp_size]; exact hd2, ?_⟩ (by simp only; omega) ?_
        · rw [← hin]
          conv => rhs; rw [Sort.insInner, if_pos (by simp only [h3, Bool.and_eq_true, decide_eq_true_eq, and_true]; omega)]
        · (refine ⟨(ExtOk.of rfl), rfl, (by repeat (first | exact trivial | refine ⟨rfl, ?_⟩ | refine ⟨sl_eq (by first | omega | (simp only; omega)), ?_⟩)), (by repeat (first | exact trivial | refine ⟨at_dat rfl, ?_⟩))⟩)
    · (repeat (first | refine dw_move rfl rfl rfl ?_ | refine dw_pickF rfl rfl rfl rfl ?_ | refine dk_skip rfl rfl ?_))
      (refine dk_nil ?_); (refine ⟨by kernel_rfl, ?_, ?_⟩); (focus (repeat (first | exact trivial | refine ⟨.inl rfl, ?_⟩)))
      (repeat (first | refine w_region ?_ | refine y_regEnd ?_ | refine y_inBlock ?_ | refine y_exit rfl ?_ | refine y_condF rfl ?_ | refine w_move rfl rfl rfl ?_ | refine w_assign rfl rfl rfl ?_ | refine w_add rfl rfl rfl rfl (by omega) (by omega) ?_))
      have hin2 : Sort.insInner oUlt a i d1 = d2 := by
        rw [← hin]
        cases j with
        | zero => rfl
        | succ j => rw [Sort.insInner, if_neg (by simp only [Bool.and_eq_true, decide_eq_true_eq]; omega)]
      refine ih _ _ _ (i + 1, d2) [] ⟨by omega, by omega, hd2, by rw [← hin2]; exact ho2⟩ (by simp only; omega) ?_
      (refine ⟨(ExtOk.of rfl), rfl, (by repeat (first | exact trivial | refine ⟨rfl, ?_⟩)), (by repeat (first | exact trivial | refine ⟨at_dat rfl, ?_⟩))⟩)
  · (repeat (first | refine y_regEnd ?_ | refine y_exit rfl ?_ | refine y_condF rfl ?_))
    have ho2 : d1 = Sort.insertionSort oUlt d a b := by rw [← ho, Sort.insOuter, if_neg (by omega)]
    (apply w_end Try.func59 (congrArg Array.toList Try.results59); (focus (repeat (exact ResIs.nil))); refine ⟨_, rfl, Ends.mk [] (ExtOk.of rfl) rfl rfl ?_⟩)
    rw [← ho2]
    exact (by repeat (first | exact trivial | refine ⟨at_dat rfl, ?_⟩))
end Go.Proofs.Ytckajlllkmkniaa
end
section
namespace Go.Proofs.Ytckajlllkmkniaa
open Go Go.Sy Go.RowKit
theorem oU_siftDown_size (lt : Nat → Nat → Bool) (hi first root : Nat) (d : Array (Nat)) : (Sort.siftDown lt hi first root d).size = d.size := by
  induction h : hi - root using Nat.strongRecOn generalizing root d with
  | _ m ih =>
    subst h
    unfold Sort.siftDown
    split
    · rfl
    · split
      · split
        · rfl
        · split
          · rw [ih _ (by omega) _ _ rfl, swp_size]
          · rfl
      · split
        · rfl
        · rw [ih _ (by omega) _ _ rfl, swp_size]
theorem oU_sift_stop {lt : Nat → Nat → Bool} {hi first root : Nat} {d : Array (Nat)} (h : hi ≤ 2 * root + 1) : Sort.siftDown lt hi first root d = d := by
  unfold Sort.siftDown
  rw [dif_pos h]
theorem oU_sift_r {lt : Nat → Nat → Bool} {hi first root : Nat} {d : Array (Nat)} (h : 2 * root + 2 < hi) (hl : lt d[first + (2 * root + 1)]! d[first + (2 * root + 2)]! = true) :
    Sort.siftDown lt hi first root d = if lt d[first + root]! d[first + (2 * root + 2)]! = true then Sort.siftDown lt hi first (2 * root + 2) (Sort.swp d (first + root) (first + (2 * root + 2))) else d := by
  conv => lhs; unfold Sort.siftDown
  rw [dif_neg (by omega), if_pos (by simp only [Bool.and_eq_true, decide_eq_true_eq]; exact ⟨by omega, hl⟩)]
  cases lt d[first + root]! d[first + (2 * root + 2)]!
  · simp
  · simp only [Bool.not_true, Bool.false_eq_true, if_false, if_true]
    rw [dif_pos (by omega)]
theorem oU_sift_l {lt : Nat → Nat → Bool} {hi first root : Nat} {d : Array (Nat)} (h : 2 * root + 1 < hi) (hl : hi ≤ 2 * root + 2 ∨ lt d[first + (2 * root + 1)]! d[first + (2 * root + 2)]! = false) :
    Sort.siftDown lt hi first root d = if lt d[first + root]! d[first + (2 * root + 1)]! = true then Sort.siftDown lt hi first (2 * root + 1) (Sort.swp d (first + root) (first + (2 * root + 1))) else d := by
  conv => lhs; unfold Sort.siftDown
  rw [dif_neg (by omega), if_neg (by
    simp only [Bool.and_eq_true, decide_eq_true_eq]
    rintro ⟨h1, h2⟩
    rcases hl with hl | hl
    · omega
    · rw [show first + (2 * root + 2) = first + (2 * root + 1) + 1 by omega, h2] at hl; cases hl)]
  cases lt d[first + root]! d[first + (2 * root + 1)]! <;> simp
set_option maxRecDepth 100000 in
set_option maxHeartbeats 0 in
theorem oU_sift_spec (n lo hi first : Nat) (d : Array (Nat)) (hn : n < 4611686018427387904) (hd : d.size = n) (hf : first + hi ≤ n) (hlo : lo ≤ n) :
    Ctr Try.prog 70 [.slu 0 0 n, .sc (.int .i64 (lo : Int)), .sc (.int .i64 (hi : Int)), .sc (.int .i64 (first : Int))] [oUrow n d] (fun c => c = ⟨.tup [], [some (oUrow n (Sort.siftDown oUlt hi first lo d))]⟩) := by
  refine Fnc.start Try.func70 rfl rfl ?_
  (repeat (first | refine y_seq ?_ | refine w_region ?_ | refine y_regEnd ?_ | refine y_block ?_ | refine w_move rfl rfl rfl ?_ | refine w_assign rfl rfl rfl ?_))
  refine y_loopC 1 (fun s : Nat × Array (Nat) => [(0, .slu 0 0 n), (2, .sc (.int .i64 (hi : Int))), (3, .sc (.int .i64 (first : Int))), (8, .sc (.int .i64 (s.1 : Int)))]) (fun s => [some (oUrow n s.2)]) (fun s => s.1 ≤ n ∧ s.2.size = n ∧ Sort.siftDown oUlt hi first s.1 s.2 = Sort.siftDown oUlt hi first lo d) (fun s => n - s.1) (lo, d) []
    (fun _ => rfl) ⟨hlo, hd, rfl⟩ ?_ (fun _ => rfl) (fun _ => rfl) ?_
  · (refine ⟨(ExtOk.of rfl), rfl, (by repeat (first | exact trivial | refine ⟨rfl, ?_⟩)), (by repeat (first | exact trivial | refine ⟨at_dat rfl, ?_⟩))⟩)
  rintro ⟨r, d1⟩ ⟨hr, hd1, ho⟩ ih
  simp only at hr hd1 ho ih ⊢
  (repeat (first | refine y_seq ?_ | refine w_region ?_ | refine y_regEnd ?_ | refine y_block ?_ | refine w_move rfl rfl rfl ?_ | refine w_assign rfl rfl rfl ?_ | refine w_add rfl rfl rfl rfl (by omega) (by omega) ?_ | refine w_mul rfl rfl rfl rfl (by omega) (by omega) ?_))
  refine w_geqS rfl rfl rfl rfl ?_ ?_
  all_goals intro h1
  · (repeat (first | refine y_regEnd ?_ | refine y_exit rfl ?_ | refine y_condT rfl ?_))
    ((apply w_end Try.func70 (congrArg Array.toList Try.results70)); (focus (repeat (exact ResIs.nil))); refine ⟨_, rfl, Ends.mk [] (ExtOk.of rfl) rfl rfl ?_⟩)
    rw [← ho, oU_sift_stop (by omega)]
    exact (by repeat (first | exact trivial | refine ⟨at_dat rfl, ?_⟩))
  · (repeat (first | refine y_seq ?_ | refine y_regEnd ?_ | refine y_skip ?_ | refine y_condF rfl ?_))
    refine w_draw (by kernel_rfl) (by kernel_rfl) ?_
    (repeat (first | refine dw_move rfl rfl rfl ?_ | refine dw_add rfl rfl rfl rfl (by omega) (by omega) ?_))
    refine dw_lssS rfl rfl rfl rfl ?_ ?_
    all_goals intro h2
    · have hls_h3 := oUless (d1[first + (2 * r + 1)]!) (d1[first + (2 * r + 2)]!)
      cases h3 : oUlt (d1[first + (2 * r + 1)]!) (d1[first + (2 * r + 2)]!)
      all_goals rw [h3] at hls_h3
      rotate_left
      all_goals (repeat (first | refine dw_move rfl rfl rfl ?_ | refine dw_pickT rfl rfl rfl rfl ?_ | refine dw_add rfl rfl rfl rfl (by omega) (by omega) ?_ | (refine dw_ldS (g := fun x : Nat => .int .u64 x) rfl rfl rfl (F.ag _ rfl) rfl (by first | omega | (simp only [Array.size_setIfInBounds, swp_size]; omega)) (by first | omega | (simp only [Array.size_setIfInBounds, swp_size]; omega)) ?_) | refine dw_idxN (q := first + (2 * r + 1)) rfl rfl rfl rfl (F.un _ rfl) (F.sz _ rfl) rfl (by omega) (by omega) (by omega) ?_ | refine dw_idxN (q := first + (2 * r + 2)) rfl rfl rfl rfl (F.un _ rfl) (F.sz _ rfl) rfl (by omega) (by omega) (by omega) ?_ | refine dk_call rfl rfl rfl (by kernel_rfl) (Ctr.callV (hls_h3) [] rfl (ExtOk.of rfl) rfl trivial rfl) ?_))
      · have e := oU_sift_r (lt := oUlt) (hi := hi) (first := first) (root := r) (d := d1) (by omega) (by simpa [oUlt] using h3)
        (refine dk_nil ?_); (refine ⟨by kernel_rfl, ?_, ?_⟩); (focus (repeat (first | exact trivial | refine ⟨.inl rfl, ?_⟩ | refine ⟨.inr (by (repeat (refine ⟨(by first | exact rd_not rfl | exact rd_cmp rfl rfl (.inr (.inr (.inr (.inr (.inl ⟨rfl, rfl⟩))))) | exact rd_idxN (F.un _ rfl) (F.sz _ rfl) rfl rfl rfl (by omega) (by omega) (by omega) | exact rd_arith rfl rfl (.inl ⟨rfl, (Go.IntWalk.i64_in _ ⟨by omega, by omega⟩).symm⟩) | exact rd_arith rfl rfl (.inr (.inl ⟨rfl, (Go.IntWalk.i64_in _ ⟨by omega, by omega⟩).symm⟩)) | exact rd_fieldAddr (F.fo _ _ rfl rfl) rfl | exact rd_move rfl | exact rd_assign rfl | exact rd_load1 (F.ag _ rfl) rfl rfl (cell_box rfl) | exact rd_loadN (F.ag _ rfl) rfl rfl (cellsFrom_box _ 0 rfl rfl) | exact rd_extract rfl rfl | exact rd_lenSl (F.un _ rfl) rfl | exact rd_lenStr (F.un _ rfl) rfl | exact rd_nilCheck rfl | exact rd_pickT rfl rfl | exact rd_pickF rfl rfl), ?_⟩)); exact trivial), ?_⟩ | refine ⟨.inl (by kernel_rfl), ?_⟩)))
        (repeat (first | refine y_seq ?_ | refine w_region ?_ | refine y_regEnd ?_ | refine y_condT rfl ?_ | refine w_move rfl rfl rfl ?_ | refine w_assign rfl rfl rfl ?_ | refine w_add rfl rfl rfl rfl (by omega) (by omega) ?_))
        refine w_draw (by kernel_rfl) (by kernel_rfl) ?_
        have hls_h4 := oUless (d1[first + r]!) (d1[first + (2 * r + 2)]!)
        cases h4 : oUlt (d1[first + r]!) (d1[first + (2 * r + 2)]!)
        all_goals rw [h4] at hls_h4
        rotate_left
        all_goals (repeat (first | refine dw_move rfl rfl rfl ?_ | refine dw_add rfl rfl rfl rfl (by omega) (by omega) ?_ | refine dw_notB rfl rfl rfl ?_ | (refine dw_ldS (g := fun x : Nat => .int .u64 x) rfl rfl rfl (F.ag _ rfl) rfl (by first | omega | (simp only [Array.size_setIfInBounds, swp_size]; omega)) (by first | omega | (simp only [Array.size_setIfInBounds, swp_size]; omega)) ?_) | refine dw_idxN (q := first + r) rfl rfl rfl rfl (F.un _ rfl) (F.sz _ rfl) rfl (by omega) (by omega) (by omega) ?_ | refine dw_idxN (q := first + (2 * r + 2)) rfl rfl rfl rfl (F.un _ rfl) (F.sz _ rfl) rfl (by omega) (by omega) (by omega) ?_ | refine dk_call rfl rfl rfl (by kernel_rfl) (Ctr.callV (hls_h4) [] rfl (ExtOk.of rfl) rfl trivial rfl) ?_))
        · rw [if_pos (by simpa [oUlt] using h4)] at e
          (refine dk_nil ?_); (refine ⟨by kernel_rfl, ?_, ?_⟩); (focus (repeat (first | exact trivial | refine ⟨.inl rfl, ?_⟩ | refine ⟨.inr (by (repeat (refine ⟨(by first | exact rd_not rfl | exact rd_cmp rfl rfl (.inr (.inr (.inr (.inr (.inl ⟨rfl, rfl⟩))))) | exact rd_idxN (F.un _ rfl) (F.sz _ rfl) rfl rfl rfl (by omega) (by omega) (by omega) | exact rd_arith rfl rfl (.inl ⟨rfl, (Go.IntWalk.i64_in _ ⟨by omega, by omega⟩).symm⟩) | exact rd_arith rfl rfl (.inr (.inl ⟨rfl, (Go.IntWalk.i64_in _ ⟨by omega, by omega⟩).symm⟩)) | exact rd_fieldAddr (F.fo _ _ rfl rfl) rfl | exact rd_move rfl | exact rd_assign rfl | exact rd_load1 (F.ag _ rfl) rfl rfl (cell_box rfl) | exact rd_loadN (F.ag _ rfl) rfl rfl (cellsFrom_box _ 0 rfl rfl) | exact rd_extract rfl rfl | exact rd_lenSl (F.un _ rfl) rfl | exact rd_lenStr (F.un _ rfl) rfl | exact rd_nilCheck rfl | exact rd_pickT rfl rfl | exact rd_pickF rfl rfl), ?_⟩)); exact trivial), ?_⟩ | refine ⟨.inl (by kernel_rfl), ?_⟩)))
          (repeat (first | refine y_seq ?_ | refine y_skip ?_ | refine y_condF rfl ?_))
          refine w_draw (by kernel_rfl) (by kernel_rfl) ?_
          (repeat (first | refine dw_move rfl rfl rfl ?_ | refine dw_add rfl rfl rfl rfl (by omega) (by omega) ?_ | (refine dw_ldS (g := fun x : Nat => .int .u64 x) rfl rfl rfl (F.ag _ rfl) rfl (by first | omega | (simp only [Array.size_setIfInBounds, swp_size]; omega)) (by first | omega | (simp only [Array.size_setIfInBounds, swp_size]; omega)) ?_) | (refine dw_stS (g := fun x : Nat => .int .u64 x) rfl rfl rfl (fun _ => rfl) (F.sz _ rfl) rfl (by first | omega | (simp only [Array.size_setIfInBounds, swp_size]; omega)) (by first | omega | (simp only [Array.size_setIfInBounds, swp_size]; omega)) ?_) | refine dw_idxN (q := first + r) rfl rfl rfl rfl (F.un _ rfl) (F.sz _ rfl) rfl (by omega) (by omega) (by omega) ?_ | refine dw_idxN (q := first + (2 * r + 2)) rfl rfl rfl rfl (F.un _ rfl) (F.sz _ rfl) rfl (by omega) (by omega) (by omega) ?_))
          (refine dk_nil ?_); (refine ⟨by kernel_rfl, ?_, ?_⟩); (focus (repeat (first | exact trivial | refine ⟨.inl rfl, ?_⟩ | refine ⟨.inr (by (repeat (refine ⟨(by first | exact rd_not rfl | exact rd_cmp rfl rfl (.inr (.inr (.inr (.inr (.inl ⟨rfl, rfl⟩))))) | exact rd_idxN (F.un _ rfl) (F.sz _ rfl) rfl rfl rfl (by omega) (by omega) (by omega) | exact rd_arith rfl rfl (.inl ⟨rfl, (Go.IntWalk.i64_in _ ⟨by omega, by omega⟩).symm⟩) | exact rd_arith rfl rfl (.inr (.inl ⟨rfl, (Go.IntWalk.i64_in _ ⟨by omega, by omega⟩).symm⟩)) | exact rd_fieldAddr (F.fo _ _ rfl rfl) rfl | exact rd_move rfl | exact rd_assign rfl | exact rd_load1 (F.ag _ rfl) rfl rfl (cell_box rfl) | exact rd_loadN (F.ag _ rfl) rfl rfl (cellsFrom_box _ 0 rfl rfl) | exact rd_extract rfl rfl | exact rd_lenSl (F.un _ rfl) rfl | exact rd_lenStr (F.un _ rfl) rfl | exact rd_nilCheck rfl | exact rd_pickT rfl rfl | exact rd_pickF rfl rfl), ?_⟩)); exact trivial), ?_⟩ | refine ⟨.inl (by kernel_rfl), ?_⟩)))
          (repeat (first | refine w_region ?_ | refine y_regEnd ?_ | refine y_inBlock ?_ | refine w_move rfl rfl rfl ?_ | refine w_assign rfl rfl rfl ?_))
          refine ih _ _ _ (2 * r + 2, Sort.swp d1 (first + r) (first + (2 * r + 2))) [] ⟨by simp only; omega, by rw [swp_size]; exact hd1, by rw [← ho, e]⟩ (by simp only; omega) ?_
          (refine ⟨(ExtOk.of rfl), rfl, (by repeat (first | exact trivial | refine ⟨rfl, ?_⟩)), (by repeat (first | exact trivial | refine ⟨at_dat rfl, ?_⟩))⟩)
        · rw [if_neg (by simpa [oUlt] using h4)] at e
          (refine dk_nil ?_); (refine ⟨by kernel_rfl, ?_, ?_⟩); (focus (repeat (first | exact trivial | refine ⟨.inl rfl, ?_⟩ | refine ⟨.inr (by (repeat (refine ⟨(by first | exact rd_not rfl | exact rd_cmp rfl rfl (.inr (.inr (.inr (.inr (.inl ⟨rfl, rfl⟩))))) | exact rd_idxN (F.un _ rfl) (F.sz _ rfl) rfl rfl rfl (by omega) (by omega) (by omega) | exact rd_arith rfl rfl (.inl ⟨rfl, (Go.IntWalk.i64_in _ ⟨by omega, by omega⟩).symm⟩) | exact rd_arith rfl rfl (.inr (.inl ⟨rfl, (Go.IntWalk.i64_in _ ⟨by omega, by omega⟩).symm⟩)) | exact rd_fieldAddr (F.fo _ _ rfl rfl) rfl | exact rd_move rfl | exact rd_assign rfl | exact rd_load1 (F.ag _ rfl) rfl rfl (cell_box rfl) | exact rd_loadN (F.ag _ rfl) rfl rfl (cellsFrom_box _ 0 rfl rfl) | exact rd_extract rfl rfl | exact rd_lenSl (F.un _ rfl) rfl | exact rd_lenStr (F.un _ rfl) rfl | exact rd_nilCheck rfl | exact rd_pickT rfl rfl | exact rd_pickF rfl rfl), ?_⟩)); exact trivial), ?_⟩ | refine ⟨.inl (by kernel_rfl), ?_⟩)))
          (repeat (refine y_condT rfl ?_))
          ((apply w_ret Try.func70 (congrArg Array.toList Try.results70)); (focus (repeat (exact ResIs.nil))); refine ⟨_, rfl, Ends.mk [] (ExtOk.of rfl) rfl rfl ?_⟩)
          rw [← ho, e]
          exact (by repeat (first | exact trivial | refine ⟨at_dat rfl, ?_⟩))
      · have e := oU_sift_l (lt := oUlt) (hi := hi) (first := first) (root := r) (d := d1) (by omega) (.inr (by simpa [oUlt] using h3))
        (refine dk_nil ?_); (refine ⟨by kernel_rfl, ?_, ?_⟩); (focus (repeat (first | exact trivial | refine ⟨.inl rfl, ?_⟩ | refine ⟨.inr (by (repeat (refine ⟨(by first | exact rd_not rfl | exact rd_cmp rfl rfl (.inr (.inr (.inr (.inr (.inl ⟨rfl, rfl⟩))))) | exact rd_idxN (F.un _ rfl) (F.sz _ rfl) rfl rfl rfl (by omega) (by omega) (by omega) | exact rd_arith rfl rfl (.inl ⟨rfl, (Go.IntWalk.i64_in _ ⟨by omega, by omega⟩).symm⟩) | exact rd_arith rfl rfl (.inr (.inl ⟨rfl, (Go.IntWalk.i64_in _ ⟨by omega, by omega⟩).symm⟩)) | exact rd_fieldAddr (F.fo _ _ rfl rfl) rfl | exact rd_move rfl | exact rd_assign rfl | exact rd_load1 (F.ag _ rfl) rfl rfl (cell_box rfl) | exact rd_loadN (F.ag _ rfl) rfl rfl (cellsFrom_box _ 0 rfl rfl) | exact rd_extract rfl rfl | exact rd_lenSl (F.un _ rfl) rfl | exact rd_lenStr (F.un _ rfl) rfl | exact rd_nilCheck rfl | exact rd_pickT rfl rfl | exact rd_pickF rfl rfl), ?_⟩)); exact trivial), ?_⟩ | refine ⟨.inl (by kernel_rfl), ?_⟩)))
        (repeat (first | refine y_seq ?_ | refine y_skip ?_ | refine y_condF rfl ?_))
        refine w_draw (by kernel_rfl) (by kernel_rfl) ?_
        have hls_h4 := oUless (d1[first + r]!) (d1[first + (2 * r + 1)]!)
        cases h4 : oUlt (d1[first + r]!) (d1[first + (2 * r + 1)]!)
        all_goals rw [h4] at hls_h4
        rotate_left
        all_goals (repeat (first | refine dw_move rfl rfl rfl ?_ | refine dw_add rfl rfl rfl rfl (by omega) (by omega) ?_ | refine dw_notB rfl rfl rfl ?_ | (refine dw_ldS (g := fun x : Nat => .int .u64 x) rfl rfl rfl (F.ag _ rfl) rfl (by first | omega | (simp only [Array.size_setIfInBounds, swp_size]; omega)) (by first | omega | (simp only [Array.size_setIfInBounds, swp_size]; omega)) ?_) | refine dw_idxN (q := first + r) rfl rfl rfl rfl (F.un _ rfl) (F.sz _ rfl) rfl (by omega) (by omega) (by omega) ?_ | refine dw_idxN (q := first + (2 * r + 1)) rfl rfl rfl rfl (F.un _ rfl) (F.sz _ rfl) rfl (by omega) (by omega) (by omega) ?_ | refine dk_call rfl rfl rfl (by kernel_rfl) (Ctr.callV (hls_h4) [] rfl (ExtOk.of rfl) rfl trivial rfl) ?_))
        · rw [if_pos (by simpa [oUlt] using h4)] at e
          (refine dk_nil ?_); (refine ⟨by kernel_rfl, ?_, ?_⟩); (focus (repeat (first | exact trivial | refine ⟨.inl rfl, ?_⟩ | refine ⟨.inr (by (repeat (refine ⟨(by first | exact rd_not rfl | exact rd_cmp rfl rfl (.inr (.inr (.inr (.inr (.inl ⟨rfl, rfl⟩))))) | exact rd_idxN (F.un _ rfl) (F.sz _ rfl) rfl rfl rfl (by omega) (by omega) (by omega) | exact rd_arith rfl rfl (.inl ⟨rfl, (Go.IntWalk.i64_in _ ⟨by omega, by omega⟩).symm⟩) | exact rd_arith rfl rfl (.inr (.inl ⟨rfl, (Go.IntWalk.i64_in _ ⟨by omega, by omega⟩).symm⟩)) | exact rd_fieldAddr (F.fo _ _ rfl rfl) rfl | exact rd_move rfl | exact rd_assign rfl | exact rd_load1 (F.ag _ rfl) rfl rfl (cell_box rfl) | exact rd_loadN (F.ag _ rfl) rfl rfl (cellsFrom_box _ 0 rfl rfl) | exact rd_extract rfl rfl | exact rd_lenSl (F.un _ rfl) rfl | exact rd_lenStr (F.un _ rfl) rfl | exact rd_nilCheck rfl | exact rd_pickT rfl rfl | exact rd_pickF rfl rfl), ?_⟩)); exact trivial), ?_⟩ | refine ⟨.inl (by kernel_rfl), ?_⟩)))
          (repeat (first | refine y_seq ?_ | refine y_skip ?_ | refine y_condF rfl ?_))
          refine w_draw (by kernel_rfl) (by kernel_rfl) ?_
          (repeat (first | refine dw_move rfl rfl rfl ?_ | refine dw_add rfl rfl rfl rfl (by omega) (by omega) ?_ | (refine dw_ldS (g := fun x : Nat => .int .u64 x) rfl rfl rfl (F.ag _ rfl) rfl (by first | omega | (simp only [Array.size_setIfInBounds, swp_size]; omega)) (by first | omega | (simp only [Array.size_setIfInBounds, swp_size]; omega)) ?_) | (refine dw_stS (g := fun x : Nat => .int .u64 x) rfl rfl rfl (fun _ => rfl) (F.sz _ rfl) rfl (by first | omega | (simp only [Array.size_setIfInBounds, swp_size]; omega)) (by first | omega | (simp only [Array.size_setIfInBounds, swp_size]; omega)) ?_) | refine dw_idxN (q := first + r) rfl rfl rfl rfl (F.un _ rfl) (F.sz _ rfl) rfl (by omega) (by omega) (by omega) ?_ | refine dw_idxN (q := first + (2 * r + 1)) rfl rfl rfl rfl (F.un _ rfl) (F.sz _ rfl) rfl (by omega) (by omega) (by omega) ?_))
          (refine dk_nil ?_); (refine ⟨by kernel_rfl, ?_, ?_⟩); (focus (repeat (first | exact trivial | refine ⟨.inl rfl, ?_⟩ | refine ⟨.inr (by (repeat (refine ⟨(by first | exact rd_not rfl | exact rd_cmp rfl rfl (.inr (.inr (.inr (.inr (.inl ⟨rfl, rfl⟩))))) | exact rd_idxN (F.un _ rfl) (F.sz _ rfl) rfl rfl rfl (by omega) (by omega) (by omega) | exact rd_arith rfl rfl (.inl ⟨rfl, (Go.IntWalk.i64_in _ ⟨by omega, by omega⟩).symm⟩) | exact rd_arith rfl rfl (.inr (.inl ⟨rfl, (Go.IntWalk.i64_in _ ⟨by omega, by omega⟩).symm⟩)) | exact rd_fieldAddr (F.fo _ _ rfl rfl) rfl | exact rd_move rfl | exact rd_assign rfl | exact rd_load1 (F.ag _ rfl) rfl rfl (cell_box rfl) | exact rd_loadN (F.ag _ rfl) rfl rfl (cellsFrom_box _ 0 rfl rfl) | exact rd_extract rfl rfl | exact rd_lenSl (F.un _ rfl) rfl | exact rd_lenStr (F.un _ rfl) rfl | exact rd_nilCheck rfl | exact rd_pickT rfl rfl | exact rd_pickF rfl rfl), ?_⟩)); exact trivial), ?_⟩ | refine ⟨.inl (by kernel_rfl), ?_⟩)))
          (repeat (first | refine w_region ?_ | refine y_regEnd ?_ | refine y_inBlock ?_ | refine w_move rfl rfl rfl ?_ | refine w_assign rfl rfl rfl ?_))
          refine ih _ _ _ (2 * r + 1, Sort.swp d1 (first + r) (first + (2 * r + 1))) [] ⟨by simp only; omega, by rw [swp_size]; exact hd1, by rw [← ho, e]⟩ (by simp only; omega) ?_
          (refine ⟨(ExtOk.of rfl), rfl, (by repeat (first | exact trivial | refine ⟨rfl, ?_⟩)), (by repeat (first | exact trivial | refine ⟨at_dat rfl, ?_⟩))⟩)
        · rw [if_neg (by simpa [oUlt] using h4)] at e
          (refine dk_nil ?_); (refine ⟨by kernel_rfl, ?_, ?_⟩); (focus (repeat (first | exact trivial | refine ⟨.inl rfl, ?_⟩ | refine ⟨.inr (by (repeat (refine ⟨(by first | exact rd_not rfl | exact rd_cmp rfl rfl (.inr (.inr (.inr (.inr (.inl ⟨rfl, rfl⟩))))) | exact rd_idxN (F.un _ rfl) (F.sz _ rfl) rfl rfl rfl (by omega) (by omega) (by omega) | exact rd_arith rfl rfl (.inl ⟨rfl, (Go.IntWalk.i64_in _ ⟨by omega, by omega⟩).symm⟩) | exact rd_arith rfl rfl (.inr (.inl ⟨rfl, (Go.IntWalk.i64_in _ ⟨by omega, by omega⟩).symm⟩)) | exact rd_fieldAddr (F.fo _ _ rfl rfl) rfl | exact rd_move rfl | exact rd_assign rfl | exact rd_load1 (F.ag _ rfl) rfl rfl (cell_box rfl) | exact rd_loadN (F.ag _ rfl) rfl rfl (cellsFrom_box _ 0 rfl rfl) | exact rd_extract rfl rfl | exact rd_lenSl (F.un _ rfl) rfl | exact rd_lenStr (F.un _ rfl) rfl | exact rd_nilCheck rfl | exact rd_pickT rfl rfl | exact rd_pickF rfl rfl), ?_⟩)); exact trivial), ?_⟩ | refine ⟨.inl (by kernel_rfl), ?_⟩)))
          (repeat (refine y_condT rfl ?_))
          ((apply w_ret Try.func70 (congrArg Array.toList Try.results70)); (focus (repeat (exact ResIs.nil))); refine ⟨_, rfl, Ends.mk [] (ExtOk.of rfl) rfl rfl ?_⟩)
          rw [← ho, e]
          exact (by repeat (first | exact trivial | refine ⟨at_dat rfl, ?_⟩))
    · have e := oU_sift_l (lt := oUlt) (hi := hi) (first := first) (root := r) (d := d1) (by omega) (.inl (by omega))
      (repeat (first | refine dw_move rfl rfl rfl ?_ | refine dw_pickF rfl rfl rfl rfl ?_ | refine dk_skip rfl rfl ?_))
      (refine dk_nil ?_); (refine ⟨by kernel_rfl, ?_, ?_⟩); (focus (repeat (first | exact trivial | refine ⟨.inl rfl, ?_⟩)))
      (repeat (first | refine y_seq ?_ | refine y_skip ?_ | refine y_condF rfl ?_))
      refine w_draw (by kernel_rfl) (by kernel_rfl) ?_
      have hls_h4 := oUless (d1[first + r]!) (d1[first + (2 * r + 1)]!)
      cases h4 : oUlt (d1[first + r]!) (d1[first + (2 * r + 1)]!)
      all_goals rw [h4] at hls_h4
      rotate_left
      all_goals (repeat (first | refine dw_move rfl rfl rfl ?_ | refine dw_add rfl rfl rfl rfl (by omega) (by omega) ?_ | refine dw_notB rfl rfl rfl ?_ | (refine dw_ldS (g := fun x : Nat => .int .u64 x) rfl rfl rfl (F.ag _ rfl) rfl (by first | omega | (simp only [Array.size_setIfInBounds, swp_size]; omega)) (by first | omega | (simp only [Array.size_setIfInBounds, swp_size]; omega)) ?_) | refine dw_idxN (q := first + r) rfl rfl rfl rfl (F.un _ rfl) (F.sz _ rfl) rfl (by omega) (by omega) (by omega) ?_ | refine dw_idxN (q := first + (2 * r + 1)) rfl rfl rfl rfl (F.un _ rfl) (F.sz _ rfl) rfl (by omega) (by omega) (by omega) ?_ | refine dk_call rfl rfl rfl (by kernel_rfl) (Ctr.callV (hls_h4) [] rfl (ExtOk.of rfl) rfl trivial rfl) ?_))
      · rw [if_pos (by simpa [oUlt] using h4)] at e
        (refine dk_nil ?_); (refine ⟨by kernel_rfl, ?_, ?_⟩); (focus (repeat (first | exact trivial | refine ⟨.inl rfl, ?_⟩ | refine ⟨.inr (by (repeat (refine ⟨(by first | exact rd_not rfl | exact rd_cmp rfl rfl (.inr (.inr (.inr (.inr (.inl ⟨rfl, rfl⟩))))) | exact rd_idxN (F.un _ rfl) (F.sz _ rfl) rfl rfl rfl (by omega) (by omega) (by omega) | exact rd_arith rfl rfl (.inl ⟨rfl, (Go.IntWalk.i64_in _ ⟨by omega, by omega⟩).symm⟩) | exact rd_arith rfl rfl (.inr (.inl ⟨rfl, (Go.IntWalk.i64_in _ ⟨by omega, by omega⟩).symm⟩)) | exact rd_fieldAddr (F.fo _ _ rfl rfl) rfl | exact rd_move rfl | exact rd_assign rfl | exact rd_load1 (F.ag _ rfl) rfl rfl (cell_box rfl) | exact rd_loadN (F.ag _ rfl) rfl rfl (cellsFrom_box _ 0 rfl rfl) | exact rd_extract rfl rfl | exact rd_lenSl (F.un _ rfl) rfl | exact rd_lenStr (F.un _ rfl) rfl | exact rd_nilCheck rfl | exact rd_pickT rfl rfl | exact rd_pickF rfl rfl), ?_⟩)); exact trivial), ?_⟩ | refine ⟨.inl (by kernel_rfl), ?_⟩)))
        (repeat (first | refine y_seq ?_ | refine y_skip ?_ | refine y_condF rfl ?_))
        refine w_draw (by kernel_rfl) (by kernel_rfl) ?_
        (repeat (first | refine dw_move rfl rfl rfl ?_ | refine dw_add rfl rfl rfl rfl (by omega) (by omega) ?_ | (refine dw_ldS (g := fun x : Nat => .int .u64 x) rfl rfl rfl (F.ag _ rfl) rfl (by first | omega | (simp only [Array.size_setIfInBounds, swp_size]; omega)) (by first | omega | (simp only [Array.size_setIfInBounds, swp_size]; omega)) ?_) | (refine dw_stS (g := fun x : Nat => .int .u64 x) rfl rfl rfl (fun _ => rfl) (F.sz _ rfl) rfl (by first | omega | (simp only [Array.size_setIfInBounds, swp_size]; omega)) (by first | omega | (simp only [Array.size_setIfInBounds, swp_size]; omega)) ?_) | refine dw_idxN (q := first + r) rfl rfl rfl rfl (F.un _ rfl) (F.sz _ rfl) rfl (by omega) (by omega) (by omega) ?_ | refine dw_idxN (q := first + (2 * r + 1)) rfl rfl rfl rfl (F.un _ rfl) (F.sz _ rfl) rfl (by omega) (by omega) (by omega) ?_))
        (refine dk_nil ?_); (refine ⟨by kernel_rfl, ?_, ?_⟩); (focus (repeat (first | exact trivial | refine ⟨.inl rfl, ?_⟩ | refine ⟨.inr (by (repeat (refine ⟨(by first | exact rd_not rfl | exact rd_cmp rfl rfl (.inr (.inr (.inr (.inr (.inl ⟨rfl, rfl⟩))))) | exact rd_idxN (F.un _ rfl) (F.sz _ rfl) rfl rfl rfl (by omega) (by omega) (by omega) | exact rd_arith rfl rfl (.inl ⟨rfl, (Go.IntWalk.i64_in _ ⟨by omega, by omega⟩).symm⟩) | exact rd_arith rfl rfl (.inr (.inl ⟨rfl, (Go.IntWalk.i64_in _ ⟨by omega, by omega⟩).symm⟩)) | exact rd_fieldAddr (F.fo _ _ rfl rfl) rfl | exact rd_move rfl | exact rd_assign rfl | exact rd_load1 (F.ag _ rfl) rfl rfl (cell_box rfl) | exact rd_loadN (F.ag _ rfl) rfl rfl (cellsFrom_box _ 0 rfl rfl) | exact rd_extract rfl rfl | exact rd_lenSl (F.un _ rfl) rfl | exact rd_lenStr (F.un _ rfl) rfl | exact rd_nilCheck rfl | exact rd_pickT rfl rfl | exact rd_pickF rfl rfl), ?_⟩)); exact trivial), ?_⟩ | refine ⟨.inl (by kernel_rfl), ?_⟩)))
        (repeat (first | refine w_region ?_ | refine y_regEnd ?_ | refine y_inBlock ?_ | refine w_move rfl rfl rfl ?_ | refine w_assign rfl rfl rfl ?_))
        refine ih _ _ _ (2 * r + 1, Sort.swp d1 (first + r) (first + (2 * r + 1))) [] ⟨by simp only; omega, by rw [swp_size]; exact hd1, by rw [← ho, e]⟩ (by simp only; omega) ?_
        (refine ⟨(ExtOk.of rfl), rfl, (by repeat (first | exact trivial | refine ⟨rfl, ?_⟩)), (by repeat (first | exact trivial | refine ⟨at_dat rfl, ?_⟩))⟩)
      · rw [if_neg (by simpa [oUlt] using h4)] at e
        (refine dk_nil ?_); (refine ⟨by kernel_rfl, ?_, ?_⟩); (focus (repeat (first | exact trivial | refine ⟨.inl rfl, ?_⟩ | refine ⟨.inr (by (repeat (refine ⟨(by first | exact rd_not rfl | exact rd_cmp rfl rfl (.inr (.inr (.inr (.inr (.inl ⟨rfl, rfl⟩))))) | exact rd_idxN (F.un _ rfl) (F.sz _ rfl) rfl rfl rfl (by omega) (by omega) (by omega) | exact rd_arith rfl rfl (.inl ⟨rfl, (Go.IntWalk.i64_in _ ⟨by omega, by omega⟩).symm⟩) | exact rd_arith rfl rfl (.inr (.inl ⟨rfl, (Go.IntWalk.i64_in _ ⟨by omega, by omega⟩).symm⟩)) | exact rd_fieldAddr (F.fo _ _ rfl rfl) rfl | exact rd_move rfl | exact rd_assign rfl | exact rd_load1 (F.ag _ rfl) rfl rfl (cell_box rfl) | exact rd_loadN (F.ag _ rfl) rfl rfl (cellsFrom_box _ 0 rfl rfl) | exact rd_extract rfl rfl | exact rd_lenSl (F.un _ rfl) rfl | exact rd_lenStr (F.un _ rfl) rfl | exact rd_nilCheck rfl | exact rd_pickT rfl rfl | exact rd_pickF rfl rfl), ?_⟩)); exact trivial), ?_⟩ | refine ⟨.inl (by kernel_rfl), ?_⟩)))
        (repeat (refine y_condT rfl ?_))
        ((apply w_ret Try.func70 (congrArg Array.toList Try.results70)); (focus (repeat (exact ResIs.nil))); refine ⟨_, rfl, Ends.mk [] (ExtOk.of rfl) rfl rfl ?_⟩)
        rw [← ho, e]
        exact (by repeat (first | exact trivial | refine ⟨at_dat rfl, ?_⟩))
end Go.Proofs.Ytckajlllkmkniaa
end
section
namespace Go.Proofs.Ytckajlllkmkniaa
open Go Go.Sy Go.RowKit
set_option maxRecDepth 100000 in
set_option maxHeartbeats 0 in
theorem oU_heap_spec (n a b : Nat) (d : Array (Nat)) (hn : n < 4611686018427387904) (hd : d.size = n) (hab : a ≤ b) (hb : b ≤ n) :
    Ctr Try.prog 60 [.slu 0 0 n, .sc (.int .i64 (a : Int)), .sc (.int .i64 (b : Int))] [oUrow n d] (fun c => c = ⟨.tup [], [some (oUrow n (Sort.heapSort oUlt d a b))]⟩) := by
  refine Fnc.start Try.func60 rfl rfl ?_
  (repeat (first | refine y_seq ?_ | refine w_region ?_ | refine y_regEnd ?_ | refine w_move rfl rfl rfl ?_ | refine w_assign rfl rfl rfl ?_ | refine w_sub rfl rfl rfl rfl (by omega) (by omega) ?_))
  refine w_quoC rfl rfl rfl rfl (by decide) (show _ = (((b - a - 1) / 2 : Nat) : Int) from quo_half (m := b - a) (by omega) (by omega)) ?_
  (repeat (first | refine y_regEnd ?_ | refine y_block ?_ | refine w_assign rfl rfl rfl ?_))
  refine y_loopC 1 (fun s : Nat × Array (Nat) => [(0, .slu 0 0 n), (6, .sc (.int .i64 (a : Int))), (7, .sc (.int .i64 0)), (8, .sc (.int .i64 ((b - a : Nat) : Int))), (9, .sc (.int .i64 ((s.1 : Int) - 1)))]) (fun s => [some (oUrow n s.2)]) (fun s => s.1 ≤ (b - a - 1) / 2 + 1 ∧ s.2.size = n ∧ Sort.heapBuild oUlt (b - a) a s.1 s.2 = Sort.heapBuild oUlt (b - a) a ((b - a - 1) / 2 + 1) d) (fun s => s.1) ((b - a - 1) / 2 + 1, d) []
    (fun _ => rfl) ⟨Nat.le_refl _, hd, rfl⟩ ?_ (fun _ => rfl) (fun _ => rfl) ?_
  · (refine ⟨(ExtOk.of rfl), rfl, (by repeat (first | exact trivial | refine ⟨rfl, ?_⟩ | refine ⟨sl_eq (by first | omega | (simp only; omega)), ?_⟩)), (by repeat (first | exact trivial | refine ⟨at_dat rfl, ?_⟩))⟩)
  rintro ⟨k, d1⟩ ⟨hk, hd1, ho⟩ ih
  simp only at hk hd1 ho ih ⊢
  (repeat (first | refine y_seq ?_ | refine w_region ?_ | refine w_move rfl rfl rfl ?_))
  refine w_geqS rfl rfl rfl rfl ?_ ?_
  all_goals intro h1
  · obtain ⟨k, rfl⟩ : ∃ k', k = k' + 1 := ⟨k - 1, by omega⟩
    have ek : ((k + 1 : Nat) : Int) - 1 = (k : Int) := by omega
    rw [ek]
    (repeat (first | (first | refine y_seq ?_ | refine w_region ?_ | refine y_regEnd ?_ | refine y_block ?_ | refine y_inBlock ?_ | refine y_skip ?_ | refine y_condT rfl ?_ | refine w_move rfl rfl rfl ?_ | refine w_assign rfl rfl rfl ?_ | refine w_sub rfl rfl rfl rfl (by omega) (by omega) ?_) | refine w_callFn rfl rfl rfl (by kernel_rfl) (Ctr.callD (oU_sift_spec n k (b - a) a d1 hn hd1 (by omega) (by omega)) [0] rfl (ExtOk.of rfl) rfl (by repeat (first | exact trivial | refine ⟨at_dat rfl, ?_⟩)) rfl (by repeat (first | exact trivial | refine ⟨closed_dat, ?_⟩)) (fun _ => rfl) rfl rfl) ?_))
    refine ih _ _ _ (k, Sort.siftDown oUlt (b - a) a k d1) [] ⟨by simp only; omega, by rw [oU_siftDown_size]; exact hd1, by rw [← ho]; rfl⟩ (by simp only; omega) ?_
    (refine ⟨(ExtOk.of rfl), rfl, (by repeat (first | exact trivial | refine ⟨rfl, ?_⟩)), (by repeat (first | exact trivial | refine ⟨at_dat rfl, ?_⟩))⟩)
  · obtain rfl : k = 0 := by omega
    have ho1 : d1 = Sort.heapBuild oUlt (b - a) a ((b - a - 1) / 2 + 1) d := ho
    (repeat (first | refine y_seq ?_ | refine w_region ?_ | refine y_regEnd ?_ | refine y_block ?_ | refine y_exit rfl ?_ | refine y_condF rfl ?_ | refine w_move rfl rfl rfl ?_ | refine w_assign rfl rfl rfl ?_ | refine w_sub rfl rfl rfl rfl (by omega) (by omega) ?_))
    refine y_loopC 1 (fun s : Nat × Array (Nat) => [(0, .slu 0 0 n), (6, .sc (.int .i64 (a : Int))), (7, .sc (.int .i64 0)), (10, .sc (.int .i64 ((s.1 : Int) - 1)))]) (fun s => [some (oUrow n s.2)]) (fun s => s.1 ≤ b - a ∧ s.2.size = n ∧ Sort.heapPop oUlt a s.1 s.2 = Sort.heapSort oUlt d a b) (fun s => s.1) (b - a, d1) []
      (fun _ => rfl) ⟨Nat.le_refl _, hd1, by rw [ho1]; rfl⟩ ?_ (fun _ => rfl) (fun _ => rfl) ?_
    · (refine ⟨(ExtOk.of rfl), rfl, (by repeat (first | exact trivial | refine ⟨rfl, ?_⟩)), (by repeat (first | exact trivial | refine ⟨at_dat rfl, ?_⟩))⟩)
    rintro ⟨m, d2⟩ ⟨hm, hd2, hp⟩ ihm
    simp only at hm hd2 hp ihm ⊢
    (repeat (first | refine y_seq ?_ | refine w_region ?_ | refine w_move rfl rfl rfl ?_))
    refine w_geqS rfl rfl rfl rfl ?_ ?_
    all_goals intro h2
    · obtain ⟨m, rfl⟩ : ∃ m', m = m' + 1 := ⟨m - 1, by omega⟩
      have em : ((m + 1 : Nat) : Int) - 1 = (m : Int) := by omega
      rw [em]
      (repeat (first | refine y_seq ?_ | refine y_regEnd ?_ | refine y_block ?_ | refine y_skip ?_ | refine y_condT rfl ?_))
      refine w_draw (by kernel_rfl) (by kernel_rfl) ?_
      (repeat (first | refine dw_move rfl rfl rfl ?_ | refine dw_add rfl rfl rfl rfl (by omega) (by omega) ?_ | (refine dw_ldS (g := fun x : Nat => .int .u64 x) rfl rfl rfl (F.ag _ rfl) rfl (by first | omega | (simp only [Array.size_setIfInBounds, swp_size]; omega)) (by first | omega | (simp only [Array.size_setIfInBounds, swp_size]; omega)) ?_) | (refine dw_stS (g := fun x : Nat => .int .u64 x) rfl rfl rfl (fun _ => rfl) (F.sz _ rfl) rfl (by first | omega | (simp only [Array.size_setIfInBounds, swp_size]; omega)) (by first | omega | (simp only [Array.size_setIfInBounds, swp_size]; omega)) ?_) | refine dw_idxN (q := a) rfl rfl rfl rfl (F.un _ rfl) (F.sz _ rfl) rfl (by omega) (by omega) (by omega) ?_ | refine dw_idxN (q := a + m) rfl rfl rfl rfl (F.un _ rfl) (F.sz _ rfl) rfl (by omega) (by omega) (by omega) ?_))
      (refine dk_nil ?_); (refine ⟨by kernel_rfl, ?_, ?_⟩); (focus (repeat (first | exact trivial | refine ⟨.inl rfl, ?_⟩ | refine ⟨.inr (by (repeat (refine ⟨(by first | exact rd_not rfl | exact rd_cmp rfl rfl (.inr (.inr (.inr (.inr (.inl ⟨rfl, rfl⟩))))) | exact rd_idxN (F.un _ rfl) (F.sz _ rfl) rfl rfl rfl (by omega) (by omega) (by omega) | exact rd_arith rfl rfl (.inl ⟨rfl, (Go.IntWalk.i64_in _ ⟨by omega, by omega⟩).symm⟩) | exact rd_arith rfl rfl (.inr (.inl ⟨rfl, (Go.IntWalk.i64_in _ ⟨by omega, by omega⟩).symm⟩)) | exact rd_fieldAddr (F.fo _ _ rfl rfl) rfl | exact rd_move rfl | exact rd_assign rfl | exact rd_load1 (F.ag _ rfl) rfl rfl (cell_box rfl) | exact rd_loadN (F.ag _ rfl) rfl rfl (cellsFrom_box _ 0 rfl rfl) | exact rd_extract rfl rfl | exact rd_lenSl (F.un _ rfl) rfl | exact rd_lenStr (F.un _ rfl) rfl | exact rd_nilCheck rfl | exact rd_pickT rfl rfl | exact rd_pickF rfl rfl), ?_⟩)); exact trivial), ?_⟩ | refine ⟨.inl (by kernel_rfl), ?_⟩)))
      (repeat (first | (first | refine w_region ?_ | refine y_regEnd ?_ | refine y_inBlock ?_ | refine w_move rfl rfl rfl ?_ | refine w_assign rfl rfl rfl ?_ | refine w_sub rfl rfl rfl rfl (by omega) (by omega) ?_) | refine w_callFn rfl rfl rfl (by kernel_rfl) (Ctr.callD (oU_sift_spec n 0 m a (Sort.swp d2 a (a + m)) hn (by rw [swp_size]; exact hd2) (by omega) (by omega)) [0] rfl (ExtOk.of rfl) rfl (by repeat (first | exact trivial | refine ⟨at_dat rfl, ?_⟩)) rfl (by repeat (first | exact trivial | refine ⟨closed_dat, ?_⟩)) (fun _ => rfl) rfl rfl) ?_))
      refine ihm _ _ _ (m, Sort.siftDown oUlt m a 0 (Sort.swp d2 a (a + m))) [] ⟨by simp only; omega, by rw [oU_siftDown_size, swp_size]; exact hd2, by rw [← hp]; rfl⟩ (by simp only; omega) ?_
      (refine ⟨(ExtOk.of rfl), rfl, (by repeat (first | exact trivial | refine ⟨rfl, ?_⟩)), (by repeat (first | exact trivial | refine ⟨at_dat rfl, ?_⟩))⟩)
    · obtain rfl : m = 0 := by omega
      (repeat (first | refine y_regEnd ?_ | refine y_exit rfl ?_ | refine y_condF rfl ?_))
      ((apply w_end Try.func60 (congrArg Array.toList Try.results60)); (focus (repeat (exact ResIs.nil))); refine ⟨_, rfl, Ends.mk [] (ExtOk.of rfl) rfl rfl ?_⟩)
      rw [← hp]
      exact (by repeat (first | exact trivial | refine ⟨at_dat rfl, ?_⟩))
end Go.Proofs.Ytckajlllkmkniaa
end
section
namespace Go.Proofs.Ytckajlllkmkniaa
open Go Go.Sy Go.RowKit
set_option maxRecDepth 100000 in
set_option maxHeartbeats 0 in
theorem oU_rev_spec (n a b : Nat) (d : Array (Nat)) (hn : n < 4611686018427387904) (hd : d.size = n) (hab : a < b) (hb : b ≤ n) :
    Ctr Try.prog 63 [.slu 0 0 n, .sc (.int .i64 (a : Int)), .sc (.int .i64 (b : Int))] [oUrow n d] (fun c => c = ⟨.tup [], [some (oUrow n (Sort.reverseRange d a b))]⟩) := by
  refine Fnc.start Try.func63 rfl rfl ?_
  (repeat (first | refine y_seq ?_ | refine w_region ?_ | refine y_regEnd ?_ | refine y_block ?_ | refine w_move rfl rfl rfl ?_ | refine w_assign rfl rfl rfl ?_ | refine w_sub rfl rfl rfl rfl (by omega) (by omega) ?_))
  refine y_loopC 1 (fun s : (Nat × Nat) × Array (Nat) => [(0, .slu 0 0 n), (6, .sc (.int .i64 (s.1.1 : Int))), (7, .sc (.int .i64 (s.1.2 : Int)))]) (fun s => [some (oUrow n s.2)]) (fun s => s.1.1 ≤ n ∧ s.1.2 < n ∧ s.1.1 ≤ s.1.2 + 1 ∧ s.2.size = n ∧ Sort.reverseLoop s.1.1 s.1.2 s.2 = Sort.reverseRange d a b) (fun s => s.1.2 + 1 - s.1.1) ((a, b - 1), d) []
    (fun _ => rfl) ⟨by simp only; omega, by simp only; omega, by simp only; omega, hd, rfl⟩ ?_ (fun _ => rfl) (fun _ => rfl) ?_
  · (refine ⟨(ExtOk.of rfl), rfl, (by repeat (first | exact trivial | refine ⟨rfl, ?_⟩ | refine ⟨sl_eq (by first | omega | (simp only; omega)), ?_⟩)), (by repeat (first | exact trivial | refine ⟨at_dat rfl, ?_⟩))⟩)
  rintro ⟨⟨i, j⟩, d1⟩ ⟨hi, hj, hij, hd1, ho⟩ ih
  simp only at hi hj hij hd1 ho ih ⊢
  (repeat (first | refine y_seq ?_ | refine w_region ?_ | refine w_move rfl rfl rfl ?_))
  refine w_lssS rfl rfl rfl rfl ?_ ?_
  all_goals intro h1
  · (repeat (first | refine y_seq ?_ | refine y_regEnd ?_ | refine y_block ?_ | refine y_skip ?_ | refine y_condT rfl ?_))
    refine w_draw (by kernel_rfl) (by kernel_rfl) ?_
    (repeat (first | refine dw_move rfl rfl rfl ?_ | (refine dw_ldS (g := fun x : Nat => .int .u64 x) rfl rfl rfl (F.ag _ rfl) rfl (by first | omega | (simp only [Array.size_setIfInBounds, swp_size]; omega)) (by first | omega | (simp only [Array.size_setIfInBounds, swp_size]; omega)) ?_) | (refine dw_stS (g := fun x : Nat => .int .u64 x) rfl rfl rfl (fun _ => rfl) (F.sz _ rfl) rfl (by first | omega | (simp only [Array.size_setIfInBounds, swp_size]; omega)) (by first | omega | (simp only [Array.size_setIfInBounds, swp_size]; omega)) ?_) | refine dw_idxN (q := i) rfl rfl rfl rfl (F.un _ rfl) (F.sz _ rfl) rfl (by omega) (by omega) (by omega) ?_ | refine dw_idxN (q := j) rfl rfl rfl rfl (F.un _ rfl) (F.sz _ rfl) rfl (by omega) (by omega) (by omega) ?_))
    (refine dk_nil ?_); (refine ⟨by kernel_rfl, ?_, ?_⟩); (focus (repeat (first | exact trivial | refine ⟨.inl rfl, ?_⟩ | refine ⟨.inr (by (repeat (refine ⟨(by first | exact rd_not rfl | exact rd_cmp rfl rfl (.inr (.inr (.inr (.inr (.inl ⟨rfl, rfl⟩))))) | exact rd_idxN (F.un _ rfl) (F.sz _ rfl) rfl rfl rfl (by omega) (by omega) (by omega) | exact rd_arith rfl rfl (.inl ⟨rfl, (Go.IntWalk.i64_in _ ⟨by omega, by omega⟩).symm⟩) | exact rd_arith rfl rfl (.inr (.inl ⟨rfl, (Go.IntWalk.i64_in _ ⟨by omega, by omega⟩).symm⟩)) | exact rd_fieldAddr (F.fo _ _ rfl rfl) rfl | exact rd_move rfl | exact rd_assign rfl | exact rd_load1 (F.ag _ rfl) rfl rfl (cell_box rfl) | exact rd_loadN (F.ag _ rfl) rfl rfl (cellsFrom_box _ 0 rfl rfl) | exact rd_extract rfl rfl | exact rd_lenSl (F.un _ rfl) rfl | exact rd_lenStr (F.un _ rfl) rfl | exact rd_nilCheck rfl | exact rd_pickT rfl rfl | exact rd_pickF rfl rfl), ?_⟩)); exact trivial), ?_⟩ | refine ⟨.inl (by kernel_rfl), ?_⟩)))
    (repeat (first | refine y_seq ?_ | refine w_region ?_ | refine y_regEnd ?_ | refine y_inBlock ?_ | refine w_move rfl rfl rfl ?_ | refine w_assign rfl rfl rfl ?_ | refine w_add rfl rfl rfl rfl (by omega) (by omega) ?_ | refine w_sub rfl rfl rfl rfl (by omega) (by omega) ?_))
    refine ih _ _ _ ((i + 1, j - 1), Sort.swp d1 i j) [] ⟨by simp only; omega, by simp only; omega, by simp only; omega, by rw [swp_size]; exact hd1, ?_⟩ (by simp only; omega) ?_
    · rw [← ho]
      conv => rhs; rw [Sort.reverseLoop, if_pos (by omega)]
    · (refine ⟨(ExtOk.of rfl), rfl, (by repeat (first | exact trivial | refine ⟨rfl, ?_⟩ | refine ⟨sl_eq (by first | omega | (simp only; omega)), ?_⟩)), (by repeat (first | exact trivial | refine ⟨at_dat rfl, ?_⟩))⟩)
  · (repeat (first | refine y_regEnd ?_ | refine y_exit rfl ?_ | refine y_condF rfl ?_))
    ((apply w_end Try.func63 (congrArg Array.toList Try.results63)); (focus (repeat (exact ResIs.nil))); refine ⟨_, rfl, Ends.mk [] (ExtOk.of rfl) rfl rfl ?_⟩)
    rw [← ho, Sort.reverseLoop, if_neg (by omega)]
    exact (by repeat (first | exact trivial | refine ⟨at_dat rfl, ?_⟩))
abbrev oU_cntB (k : Nat) : VO := newCells 3 [.sc (.int .i64 (k : Int))]
set_option maxRecDepth 100000 in
set_option maxHeartbeats 0 in
theorem oU_order2_spec (n a b k : Nat) (d : Array (Nat)) (hn : n < 4611686018427387904) (hd : d.size = n) (ha : a < n) (hb : b < n) (hk : k < 1000) :
    Ctr Try.prog 76 [.slu 0 0 n, .sc (.int .i64 (a : Int)), .sc (.int .i64 (b : Int)), .ptr 1 0] [oUrow n d, oU_cntB k] (fun c => c = ⟨.tup [.sc (.int .i64 ((Sort.order2 oUlt d a b k).1 : Int)), .sc (.int .i64 ((Sort.order2 oUlt d a b k).2.1 : Int))], [some (oUrow n d), some (oU_cntB (Sort.order2 oUlt d a b k).2.2)]⟩) := by
  refine Fnc.start Try.func76 rfl rfl ?_
  (repeat (first | refine y_seq ?_ | refine w_region ?_ | refine y_regEnd ?_ | refine w_assign rfl rfl rfl ?_))
  refine w_draw (by kernel_rfl) (by kernel_rfl) ?_
  have hls_h1 := oUless (d[b]!) (d[a]!)
  cases h1 : oUlt (d[b]!) (d[a]!)
  all_goals rw [h1] at hls_h1
  rotate_left
  all_goals (repeat (first | refine dw_move rfl rfl rfl ?_ | (refine dw_ldS (g := fun x : Nat => .int .u64 x) rfl rfl rfl (F.ag _ rfl) rfl (by first | omega | (simp only [Array.size_setIfInBounds, swp_size]; omega)) (by first | omega | (simp only [Array.size_setIfInBounds, swp_size]; omega)) ?_) | refine dw_idxN (q := a) rfl rfl rfl rfl (F.un _ rfl) (F.sz _ rfl) rfl (by omega) (by omega) (by omega) ?_ | refine dw_idxN (q := b) rfl rfl rfl rfl (F.un _ rfl) (F.sz _ rfl) rfl (by omega) (by omega) (by omega) ?_ | refine dk_call rfl rfl rfl (by kernel_rfl) (Ctr.callV (hls_h1) [] rfl (ExtOk.of rfl) rfl trivial rfl) ?_))
  · skip
    (refine dk_nil ?_); (refine ⟨by kernel_rfl, ?_, ?_⟩); (focus (repeat (first | exact trivial | refine ⟨.inl rfl, ?_⟩ | refine ⟨.inr (by (repeat (refine ⟨(by first | exact rd_not rfl | exact rd_cmp rfl rfl (.inr (.inr (.inr (.inr (.inl ⟨rfl, rfl⟩))))) | exact rd_idxN (F.un _ rfl) (F.sz _ rfl) rfl rfl rfl (by omega) (by omega) (by omega) | exact rd_arith rfl rfl (.inl ⟨rfl, (Go.IntWalk.i64_in _ ⟨by omega, by omega⟩).symm⟩) | exact rd_arith rfl rfl (.inr (.inl ⟨rfl, (Go.IntWalk.i64_in _ ⟨by omega, by omega⟩).symm⟩)) | exact rd_fieldAddr (F.fo _ _ rfl rfl) rfl | exact rd_move rfl | exact rd_assign rfl | exact rd_load1 (F.ag _ rfl) rfl rfl (cell_box rfl) | exact rd_loadN (F.ag _ rfl) rfl rfl (cellsFrom_box _ 0 rfl rfl) | exact rd_extract rfl rfl | exact rd_lenSl (F.un _ rfl) rfl | exact rd_lenStr (F.un _ rfl) rfl | exact rd_nilCheck rfl | exact rd_pickT rfl rfl | exact rd_pickF rfl rfl), ?_⟩)); exact trivial), ?_⟩ | refine ⟨.inl (by kernel_rfl), ?_⟩)))
    (repeat (first | refine y_seq ?_ | refine w_region ?_ | refine y_regEnd ?_ | refine y_condT rfl ?_ | refine w_move rfl rfl rfl ?_ | refine w_assign rfl rfl rfl ?_ | refine w_nilCheck rfl rfl rfl ?_ | refine w_loadB1 rfl rfl rfl (F.ag _ rfl) rfl rfl ?_ | refine w_store1 rfl rfl rfl (F.sz _ rfl) rfl rfl rfl ?_ | refine w_add rfl rfl rfl rfl (by omega) (by omega) ?_))
    rw [show Sort.order2 oUlt d a b k = (b, a, k + 1) by rw [Sort.order2, if_pos (by simpa [oUlt] using h1)]]
    ((apply w_ret Try.func76 (congrArg Array.toList Try.results76)); (focus (repeat (first | exact ResIs.nil | apply ResIs.tmp rfl))); refine ⟨_, rfl, Ends.mk [] (ExtOk.of rfl) rfl rfl ?_⟩)
    exact (by repeat (first | exact trivial | refine ⟨at_dat rfl, ?_⟩ | refine ⟨at_box rfl, ?_⟩))
  · skip
    (refine dk_nil ?_); (refine ⟨by kernel_rfl, ?_, ?_⟩); (focus (repeat (first | exact trivial | refine ⟨.inl rfl, ?_⟩ | refine ⟨.inr (by (repeat (refine ⟨(by first | exact rd_not rfl | exact rd_cmp rfl rfl (.inr (.inr (.inr (.inr (.inl ⟨rfl, rfl⟩))))) | exact rd_idxN (F.un _ rfl) (F.sz _ rfl) rfl rfl rfl (by omega) (by omega) (by omega) | exact rd_arith rfl rfl (.inl ⟨rfl, (Go.IntWalk.i64_in _ ⟨by omega, by omega⟩).symm⟩) | exact rd_arith rfl rfl (.inr (.inl ⟨rfl, (Go.IntWalk.i64_in _ ⟨by omega, by omega⟩).symm⟩)) | exact rd_fieldAddr (F.fo _ _ rfl rfl) rfl | exact rd_move rfl | exact rd_assign rfl | exact rd_load1 (F.ag _ rfl) rfl rfl (cell_box rfl) | exact rd_loadN (F.ag _ rfl) rfl rfl (cellsFrom_box _ 0 rfl rfl) | exact rd_extract rfl rfl | exact rd_lenSl (F.un _ rfl) rfl | exact rd_lenStr (F.un _ rfl) rfl | exact rd_nilCheck rfl | exact rd_pickT rfl rfl | exact rd_pickF rfl rfl), ?_⟩)); exact trivial), ?_⟩ | refine ⟨.inl (by kernel_rfl), ?_⟩)))
    (repeat (first | refine y_seq ?_ | refine w_region ?_ | refine y_regEnd ?_ | refine y_skip ?_ | refine y_condF rfl ?_ | refine w_move rfl rfl rfl ?_ | refine w_assign rfl rfl rfl ?_))
    rw [show Sort.order2 oUlt d a b k = (a, b, k) by rw [Sort.order2, if_neg (by simpa [oUlt] using h1)]]
    ((apply w_ret Try.func76 (congrArg Array.toList Try.results76)); (focus (repeat (first | exact ResIs.nil | apply ResIs.tmp rfl))); refine ⟨_, rfl, Ends.mk [] (ExtOk.of rfl) rfl rfl ?_⟩)
    exact (by repeat (first | exact trivial | refine ⟨at_dat rfl, ?_⟩ | refine ⟨at_box rfl, ?_⟩))
theorem oU_order2_lt {lt : Nat → Nat → Bool} {d : Array (Nat)} {a b k n : Nat} (ha : a < n) (hb : b < n) : (Sort.order2 lt d a b k).1 < n ∧ (Sort.order2 lt d a b k).2.1 < n ∧ (Sort.order2 lt d a b k).2.2 ≤ k + 1 := by
  unfold Sort.order2
  split
  · exact ⟨hb, ha, Nat.le_refl _⟩
  · exact ⟨ha, hb, Nat.le_succ _⟩
set_option maxRecDepth 100000 in
set_option maxHeartbeats 0 in
theorem oU_median_spec (n a b c k : Nat) (d : Array (Nat)) (hn : n < 4611686018427387904) (hd : d.size = n) (ha : a < n) (hb : b < n) (hc : c < n) (hk : k < 900) :
    Ctr Try.prog 74 [.slu 0 0 n, .sc (.int .i64 (a : Int)), .sc (.int .i64 (b : Int)), .sc (.int .i64 (c : Int)), .ptr 1 0] [oUrow n d, oU_cntB k] (fun r => r = ⟨.sc (.int .i64 ((Sort.median oUlt d a b c k).1 : Int)), [some (oUrow n d), some (oU_cntB (Sort.median oUlt d a b c k).2)]⟩) := by
  obtain ⟨q1, q2, q3⟩ := oU_order2_lt (lt := oUlt) (d := d) (k := k) ha hb
  have e1 := oU_order2_spec n a b k d hn hd ha hb (by omega)
  unfold Sort.median
  generalize Sort.order2 oUlt d a b k = r1 at q1 q2 q3 e1 ⊢
  obtain ⟨a1, b1, k1⟩ := r1
  obtain ⟨p1, p2, p3⟩ := oU_order2_lt (lt := oUlt) (d := d) (k := k1) q2 hc
  have e2 := oU_order2_spec n b1 c k1 d hn hd q2 hc (by simp only at q3; omega)
  simp only at q1 q2 q3 p1 p2 p3 e1 e2 ⊢
  generalize Sort.order2 oUlt d b1 c k1 = r2 at p1 p2 p3 e2 ⊢
  obtain ⟨b2, c2, k2⟩ := r2
  obtain ⟨o1, o2, o3⟩ := oU_order2_lt (lt := oUlt) (d := d) (k := k2) q1 p1
  have e3 := oU_order2_spec n a1 b2 k2 d hn hd q1 p1 (by simp only at p3; omega)
  simp only at p1 p2 p3 o1 o2 o3 e2 e3 ⊢
  generalize Sort.order2 oUlt d a1 b2 k2 = r3 at o1 o2 o3 e3 ⊢
  obtain ⟨a3, b3, k3⟩ := r3
  simp only at o1 o2 o3 e3 ⊢
  refine Fnc.start Try.func74 rfl rfl ?_
  (repeat (first | (first | refine y_seq ?_ | refine w_region ?_ | refine y_regEnd ?_ | refine w_move rfl rfl rfl ?_ | refine w_assign rfl rfl rfl ?_ | refine w_extract rfl rfl rfl rfl ?_) | refine w_callFn rfl rfl rfl (by kernel_rfl) (Ctr.callD (e1) [0, 1] rfl (ExtOk.of rfl) rfl (by repeat (first | exact trivial | refine ⟨at_dat rfl, ?_⟩ | refine ⟨at_box rfl, ?_⟩)) rfl (by repeat (first | exact trivial | refine ⟨closed_dat, ?_⟩ | refine ⟨closed_box (fun _ => rfl), ?_⟩)) (fun _ => rfl) rfl rfl) ?_ | refine w_callFn rfl rfl rfl (by kernel_rfl) (Ctr.callD (e2) [0, 1] rfl (ExtOk.of rfl) rfl (by repeat (first | exact trivial | refine ⟨at_dat rfl, ?_⟩ | refine ⟨at_box rfl, ?_⟩)) rfl (by repeat (first | exact trivial | refine ⟨closed_dat, ?_⟩ | refine ⟨closed_box (fun _ => rfl), ?_⟩)) (fun _ => rfl) rfl rfl) ?_ | refine w_callFn rfl rfl rfl (by kernel_rfl) (Ctr.callD (e3) [0, 1] rfl (ExtOk.of rfl) rfl (by repeat (first | exact trivial | refine ⟨at_dat rfl, ?_⟩ | refine ⟨at_box rfl, ?_⟩)) rfl (by repeat (first | exact trivial | refine ⟨closed_dat, ?_⟩ | refine ⟨closed_box (fun _ => rfl), ?_⟩)) (fun _ => rfl) rfl rfl) ?_))
  ((apply w_ret Try.func74 (congrArg Array.toList Try.results74)); (focus (repeat (first | exact ResIs.nil | apply ResIs.tmp rfl))); refine ⟨_, rfl, Ends.mk [] (ExtOk.of rfl) rfl rfl ?_⟩)
  exact (by repeat (first | exact trivial | refine ⟨at_dat rfl, ?_⟩ | refine ⟨at_box rfl, ?_⟩))
theorem oU_median_lt {lt : Nat → Nat → Bool} {d : Array (Nat)} {a b c k n : Nat} (ha : a < n) (hb : b < n) (hc : c < n) : (Sort.median lt d a b c k).1 < n ∧ (Sort.median lt d a b c k).2 ≤ k + 3 := by
  obtain ⟨q1, q2, q3⟩ := oU_order2_lt (lt := lt) (d := d) (k := k) ha hb
  obtain ⟨p1, p2, p3⟩ := oU_order2_lt (lt := lt) (d := d) (k := (Sort.order2 lt d a b k).2.2) q2 hc
  obtain ⟨o1, o2, o3⟩ := oU_order2_lt (lt := lt) (d := d) (k := (Sort.order2 lt d (Sort.order2 lt d a b k).2.1 c (Sort.order2 lt d a b k).2.2).2.2) q1 p1
  exact ⟨o2, by simp only [Sort.median]; omega⟩
set_option maxRecDepth 100000 in
set_option maxHeartbeats 0 in
theorem oU_medAdj_spec (n a k : Nat) (d : Array (Nat)) (hn : n < 4611686018427387904) (hd : d.size = n) (ha : a + 1 < n) (h1 : 1 ≤ a) (hk : k < 900) :
    Ctr Try.prog 73 [.slu 0 0 n, .sc (.int .i64 (a : Int)), .ptr 1 0] [oUrow n d, oU_cntB k] (fun r => r = ⟨.sc (.int .i64 ((Sort.medianAdjacent oUlt d a k).1 : Int)), [some (oUrow n d), some (oU_cntB (Sort.medianAdjacent oUlt d a k).2)]⟩) := by
  obtain ⟨a, rfl⟩ : ∃ a', a = a' + 1 := ⟨a - 1, by omega⟩
  have e := oU_median_spec n a (a + 1) (a + 1 + 1) k d hn hd (by omega) (by omega) (by omega) hk
  have e0 : ((a : Nat) : Int) = ((a + 1 : Nat) : Int) - 1 := by omega
  rw [e0] at e
  refine Fnc.start Try.func73 rfl rfl ?_
  (repeat (first | (first | refine y_seq ?_ | refine w_region ?_ | refine y_regEnd ?_ | refine w_move rfl rfl rfl ?_ | refine w_assign rfl rfl rfl ?_ | refine w_add rfl rfl rfl rfl (by omega) (by omega) ?_ | refine w_sub rfl rfl rfl rfl (by omega) (by omega) ?_) | refine w_callFn rfl rfl rfl (by kernel_rfl) (Ctr.callD (e) [0, 1] rfl (ExtOk.of rfl) rfl (by repeat (first | exact trivial | refine ⟨at_dat rfl, ?_⟩ | refine ⟨at_box rfl, ?_⟩)) rfl (by repeat (first | exact trivial | refine ⟨closed_dat, ?_⟩ | refine ⟨closed_box (fun _ => rfl), ?_⟩)) (fun _ => rfl) rfl rfl) ?_))
  ((apply w_ret Try.func73 (congrArg Array.toList Try.results73)); (focus (repeat (first | exact ResIs.nil | apply ResIs.tmp rfl))); refine ⟨_, rfl, Ends.mk [] (ExtOk.of rfl) rfl rfl ?_⟩)
  exact (by repeat (first | exact trivial | refine ⟨at_dat rfl, ?_⟩ | refine ⟨at_box rfl, ?_⟩))
end Go.Proofs.Ytckajlllkmkniaa
end
section
namespace Go.Proofs.Ytckajlllkmkniaa
open Go Go.Sy Go.RowKit
set_option maxRecDepth 100000 in
set_option maxHeartbeats 0 in
theorem oU_piv_spec (n a b : Nat) (d : Array (Nat)) (hn : n < 4611686018427387904) (hd : d.size = n) (hab : a < b) (hb : b ≤ n) :
    Ctr Try.prog 62 [.slu 0 0 n, .sc (.int .i64 (a : Int)), .sc (.int .i64 (b : Int))] [oUrow n d] (fun r => r = ⟨.tup [.sc (.int .i64 ((Sort.choosePivot oUlt d a b).1 : Int)), .sc (.int .i64 (hintI (Sort.choosePivot oUlt d a b).2))], [some (oUrow n d)]⟩) := by
  have e1 : ((a : Int) + ((b : Int) - (a : Int)) / 4 * 1) = ((a + (b - a) / 4 * 1 : Nat) : Int) := by omega
  have e2 : ((a : Int) + ((b : Int) - (a : Int)) / 4 * 2) = ((a + (b - a) / 4 * 2 : Nat) : Int) := by omega
  have e3 : ((a : Int) + ((b : Int) - (a : Int)) / 4 * 3) = ((a + (b - a) / 4 * 3 : Nat) : Int) := by omega
  refine Fnc.start Try.func62 rfl rfl ?_
  (repeat (first | refine y_seq ?_ | refine w_region ?_ | refine y_regEnd ?_ | refine w_move rfl rfl rfl ?_ | refine w_assign rfl rfl rfl ?_ | refine w_alloc rfl rfl (F.zl _ rfl) ?_ | refine w_add rfl rfl rfl rfl (by omega) (by omega) ?_ | refine w_sub rfl rfl rfl rfl (by omega) (by omega) ?_ | refine w_mul rfl rfl rfl rfl (by omega) (by omega) ?_ | refine w_quo rfl rfl rfl rfl (by omega) (by omega) (by omega) ?_))
  rw [e1, e2, e3]
  have fin : ∀ (T : Tr SV) (H : Heap) (nx : Nat) (p k : Nat), True := fun _ _ _ _ _ => trivial
  refine w_geqS rfl rfl rfl rfl ?_ ?_
  all_goals intro h1
  · (repeat (first | refine y_seq ?_ | refine w_region ?_ | refine y_regEnd ?_ | refine y_condT rfl ?_ | refine w_move rfl rfl rfl ?_))
    refine w_geqS rfl rfl rfl rfl ?_ ?_
    all_goals intro h2
    · have m1 := oU_medAdj_spec n (a + (b - a) / 4 * 1) 0 d hn hd (by omega) (by omega) (by omega)
      have l1 : (Sort.medianAdjacent oUlt d (a + (b - a) / 4 * 1) 0).1 < n ∧ (Sort.medianAdjacent oUlt d (a + (b - a) / 4 * 1) 0).2 ≤ 0 + 3 := oU_median_lt (by omega) (by omega) (by omega)
      have ec : Sort.choosePivot oUlt d a b = Sort.choosePivot oUlt d a b := rfl
      conv at ec => rhs; unfold Sort.choosePivot
      simp only [show b - a ≥ 8 by omega, show b - a ≥ 50 by omega, if_true] at ec
      generalize Sort.medianAdjacent oUlt d (a + (b - a) / 4 * 1) 0 = r1 at m1 l1 ec
      have m2 := oU_medAdj_spec n (a + (b - a) / 4 * 2) r1.2 d hn hd (by omega) (by omega) (by omega)
      have l2 : (Sort.medianAdjacent oUlt d (a + (b - a) / 4 * 2) r1.2).1 < n ∧ (Sort.medianAdjacent oUlt d (a + (b - a) / 4 * 2) r1.2).2 ≤ r1.2 + 3 := oU_median_lt (by omega) (by omega) (by omega)
      generalize Sort.medianAdjacent oUlt d (a + (b - a) / 4 * 2) r1.2 = r2 at m2 l2 ec
      have m3 := oU_medAdj_spec n (a + (b - a) / 4 * 3) r2.2 d hn hd (by omega) (by omega) (by omega)
      have l3 : (Sort.medianAdjacent oUlt d (a + (b - a) / 4 * 3) r2.2).1 < n ∧ (Sort.medianAdjacent oUlt d (a + (b - a) / 4 * 3) r2.2).2 ≤ r2.2 + 3 := oU_median_lt (by omega) (by omega) (by omega)
      generalize Sort.medianAdjacent oUlt d (a + (b - a) / 4 * 3) r2.2 = r3 at m3 l3 ec
      have m4 := oU_median_spec n r1.1 r2.1 r3.1 r3.2 d hn hd l1.1 l2.1 l3.1 (by omega)
      generalize Sort.median oUlt d r1.1 r2.1 r3.1 r3.2 = r4 at m4 ec
      rw [ec]
      obtain ⟨p, k⟩ := r4
      (repeat (first | (first | refine y_seq ?_ | refine w_region ?_ | refine y_regEnd ?_ | refine y_block ?_ | refine y_condT rfl ?_ | refine w_move rfl rfl rfl ?_ | refine w_assign rfl rfl rfl ?_ | refine w_loadB1 rfl rfl rfl (F.ag _ rfl) rfl rfl ?_) | refine w_callFn rfl rfl rfl (by kernel_rfl) (Ctr.callD (m1) [0, 1] rfl (ExtOk.of rfl) rfl (by repeat (first | exact trivial | refine ⟨at_dat rfl, ?_⟩ | refine ⟨at_box rfl, ?_⟩)) rfl (by repeat (first | exact trivial | refine ⟨closed_dat, ?_⟩ | refine ⟨closed_box (fun _ => rfl), ?_⟩)) (fun _ => rfl) rfl rfl) ?_ | refine w_callFn rfl rfl rfl (by kernel_rfl) (Ctr.callD (m2) [0, 1] rfl (ExtOk.of rfl) rfl (by repeat (first | exact trivial | refine ⟨at_dat rfl, ?_⟩ | refine ⟨at_box rfl, ?_⟩)) rfl (by repeat (first | exact trivial | refine ⟨closed_dat, ?_⟩ | refine ⟨closed_box (fun _ => rfl), ?_⟩)) (fun _ => rfl) rfl rfl) ?_ | refine w_callFn rfl rfl rfl (by kernel_rfl) (Ctr.callD (m3) [0, 1] rfl (ExtOk.of rfl) rfl (by repeat (first | exact trivial | refine ⟨at_dat rfl, ?_⟩ | refine ⟨at_box rfl, ?_⟩)) rfl (by repeat (first | exact trivial | refine ⟨closed_dat, ?_⟩ | refine ⟨closed_box (fun _ => rfl), ?_⟩)) (fun _ => rfl) rfl rfl) ?_ | refine w_callFn rfl rfl rfl (by kernel_rfl) (Ctr.callD (m4) [0, 1] rfl (ExtOk.of rfl) rfl (by repeat (first | exact trivial | refine ⟨at_dat rfl, ?_⟩ | refine ⟨at_box rfl, ?_⟩)) rfl (by repeat (first | exact trivial | refine ⟨closed_dat, ?_⟩ | refine ⟨closed_box (fun _ => rfl), ?_⟩)) (fun _ => rfl) rfl rfl) ?_))
      refine w_eqlS rfl rfl rfl rfl ?_ ?_
      all_goals intro h3
      · (repeat (first | refine y_seq ?_ | refine w_region ?_ | refine y_regEnd ?_ | refine y_condT rfl ?_ | refine w_move rfl rfl rfl ?_ | refine w_assign rfl rfl rfl ?_))
        rw [if_pos (show (p, k).2 = 0 by simp only; omega)]
        ((apply w_ret Try.func62 (congrArg Array.toList Try.results62)); (focus (repeat (first | exact ResIs.nil | apply ResIs.tmp rfl))); refine ⟨_, rfl, Ends.mk [] (ExtOk.of rfl) rfl rfl ?_⟩)
        exact (by repeat (first | exact trivial | refine ⟨at_dat rfl, ?_⟩))
      · (repeat (first | refine y_seq ?_ | refine w_region ?_ | refine y_regEnd ?_ | refine y_condF rfl ?_ | refine w_assign rfl rfl rfl ?_))
        refine w_eqlS rfl rfl rfl rfl ?_ ?_
        all_goals intro h4
        · (repeat (first | refine y_seq ?_ | refine w_region ?_ | refine y_regEnd ?_ | refine y_condT rfl ?_ | refine w_move rfl rfl rfl ?_ | refine w_assign rfl rfl rfl ?_))
          rw [if_neg (show ¬ (p, k).2 = 0 by simp only; omega), if_pos (show (p, k).2 = 12 by simp only; omega)]
          ((apply w_ret Try.func62 (congrArg Array.toList Try.results62)); (focus (repeat (first | exact ResIs.nil | apply ResIs.tmp rfl))); refine ⟨_, rfl, Ends.mk [] (ExtOk.of rfl) rfl rfl ?_⟩)
          exact (by repeat (first | exact trivial | refine ⟨at_dat rfl, ?_⟩))
        · (repeat (first | refine y_seq ?_ | refine w_region ?_ | refine y_regEnd ?_ | refine y_condF rfl ?_ | refine w_move rfl rfl rfl ?_ | refine w_assign rfl rfl rfl ?_))
          rw [if_neg (show ¬ (p, k).2 = 0 by simp only; omega), if_neg (show ¬ (p, k).2 = 12 by simp only; omega)]
          ((apply w_ret Try.func62 (congrArg Array.toList Try.results62)); (focus (repeat (first | exact ResIs.nil | apply ResIs.tmp rfl))); refine ⟨_, rfl, Ends.mk [] (ExtOk.of rfl) rfl rfl ?_⟩)
          exact (by repeat (first | exact trivial | refine ⟨at_dat rfl, ?_⟩))
    · have ec : Sort.choosePivot oUlt d a b = Sort.choosePivot oUlt d a b := rfl
      conv at ec => rhs; unfold Sort.choosePivot
      simp only [show b - a ≥ 8 by omega, show ¬ (b - a ≥ 50) by omega, if_true, if_false] at ec
      have m4 := oU_median_spec n (a + (b - a) / 4 * 1) (a + (b - a) / 4 * 2) (a + (b - a) / 4 * 3) 0 d hn hd (by omega) (by omega) (by omega) (by omega)
      generalize Sort.median oUlt d (a + (b - a) / 4 * 1) (a + (b - a) / 4 * 2) (a + (b - a) / 4 * 3) 0 = r4 at m4 ec
      rw [ec]
      obtain ⟨p, k⟩ := r4
      (repeat (first | (first | refine y_seq ?_ | refine w_region ?_ | refine y_regEnd ?_ | refine y_block ?_ | refine y_skip ?_ | refine y_condF rfl ?_ | refine w_move rfl rfl rfl ?_ | refine w_assign rfl rfl rfl ?_ | refine w_loadB1 rfl rfl rfl (F.ag _ rfl) rfl rfl ?_) | refine w_callFn rfl rfl rfl (by kernel_rfl) (Ctr.callD (m4) [0, 1] rfl (ExtOk.of rfl) rfl (by repeat (first | exact trivial | refine ⟨at_dat rfl, ?_⟩ | refine ⟨at_box rfl, ?_⟩)) rfl (by repeat (first | exact trivial | refine ⟨closed_dat, ?_⟩ | refine ⟨closed_box (fun _ => rfl), ?_⟩)) (fun _ => rfl) rfl rfl) ?_))
      refine w_eqlS rfl rfl rfl rfl ?_ ?_
      all_goals intro h3
      · (repeat (first | refine y_seq ?_ | refine w_region ?_ | refine y_regEnd ?_ | refine y_condT rfl ?_ | refine w_move rfl rfl rfl ?_ | refine w_assign rfl rfl rfl ?_))
        rw [if_pos (show (p, k).2 = 0 by simp only; omega)]
        ((apply w_ret Try.func62 (congrArg Array.toList Try.results62)); (focus (repeat (first | exact ResIs.nil | apply ResIs.tmp rfl))); refine ⟨_, rfl, Ends.mk [] (ExtOk.of rfl) rfl rfl ?_⟩)
        exact (by repeat (first | exact trivial | refine ⟨at_dat rfl, ?_⟩))
      · (repeat (first | refine y_seq ?_ | refine w_region ?_ | refine y_regEnd ?_ | refine y_condF rfl ?_ | refine w_assign rfl rfl rfl ?_))
        refine w_eqlS rfl rfl rfl rfl ?_ ?_
        all_goals intro h4
        · (repeat (first | refine y_seq ?_ | refine w_region ?_ | refine y_regEnd ?_ | refine y_condT rfl ?_ | refine w_move rfl rfl rfl ?_ | refine w_assign rfl rfl rfl ?_))
          rw [if_neg (show ¬ (p, k).2 = 0 by simp only; omega), if_pos (show (p, k).2 = 12 by simp only; omega)]
          ((apply w_ret Try.func62 (congrArg Array.toList Try.results62)); (focus (repeat (first | exact ResIs.nil | apply ResIs.tmp rfl))); refine ⟨_, rfl, Ends.mk [] (ExtOk.of rfl) rfl rfl ?_⟩)
          exact (by repeat (first | exact trivial | refine ⟨at_dat rfl, ?_⟩))
        · (repeat (first | refine y_seq ?_ | refine w_region ?_ | refine y_regEnd ?_ | refine y_condF rfl ?_ | refine w_move rfl rfl rfl ?_ | refine w_assign rfl rfl rfl ?_))
          rw [if_neg (show ¬ (p, k).2 = 0 by simp only; omega), if_neg (show ¬ (p, k).2 = 12 by simp only; omega)]
          ((apply w_ret Try.func62 (congrArg Array.toList Try.results62)); (focus (repeat (first | exact ResIs.nil | apply ResIs.tmp rfl))); refine ⟨_, rfl, Ends.mk [] (ExtOk.of rfl) rfl rfl ?_⟩)
          exact (by repeat (first | exact trivial | refine ⟨at_dat rfl, ?_⟩))
  · have ec : Sort.choosePivot oUlt d a b = (a + (b - a) / 4 * 2, .increasing) := by
      unfold Sort.choosePivot
      simp only [show ¬ (b - a ≥ 8) by omega, if_false, if_true]
    rw [ec]
    (repeat (first | (first | refine y_seq ?_ | refine w_region ?_ | refine y_regEnd ?_ | refine y_block ?_ | refine y_skip ?_ | refine y_condT rfl ?_ | refine y_condF rfl ?_ | refine w_move rfl rfl rfl ?_ | refine w_assign rfl rfl rfl ?_ | refine w_loadB1 rfl rfl rfl (F.ag _ rfl) rfl rfl ?_) | refine w_eql rfl rfl rfl rfl ?_))
    ((apply w_ret Try.func62 (congrArg Array.toList Try.results62)); (focus (repeat (first | exact ResIs.nil | apply ResIs.tmp rfl))); refine ⟨_, rfl, Ends.mk [] (ExtOk.of rfl) rfl rfl ?_⟩)
    exact (by repeat (first | exact trivial | refine ⟨at_dat rfl, ?_⟩))
end Go.Proofs.Ytckajlllkmkniaa
end
section
namespace Go.Proofs.Ytckajlllkmkniaa
open Go Go.Sy Go.RowKit
theorem oU_scanUp_go {p : Nat → Bool} {d : Array (Nat)} {i j : Nat} (h : i ≤ j) (hp : p d[i]! = true) : Sort.scanUp p d j i = Sort.scanUp p d j (i + 1) := by
  conv => lhs; rw [Sort.scanUp, if_pos (by simp [h, hp])]
theorem oU_scanUp_stop {p : Nat → Bool} {d : Array (Nat)} {i j : Nat} (h : j < i ∨ p d[i]! = false) : Sort.scanUp p d j i = i := by
  rw [Sort.scanUp, if_neg]
  simp only [Bool.and_eq_true, decide_eq_true_eq]
  rintro ⟨h1, h2⟩
  rcases h with h | h
  · omega
  · rw [h] at h2; cases h2
theorem oU_scanDown_go {p : Nat → Bool} {d : Array (Nat)} {i j : Nat} (h : i ≤ j + 1) (hp : p d[j + 1]! = true) : Sort.scanDown p d i (j + 1) = Sort.scanDown p d i j := by
  conv => lhs; rw [Sort.scanDown, if_pos (by simp [h, hp])]
theorem oU_scanDown_stop {p : Nat → Bool} {d : Array (Nat)} {i j : Nat} (h : j < i ∨ p d[j]! = false) : Sort.scanDown p d i j = j := by
  cases j with
  | zero => rfl
  | succ j =>
    rw [Sort.scanDown, if_neg]
    simp only [Bool.and_eq_true, decide_eq_true_eq]
    rintro ⟨h1, h2⟩
    rcases h with h | h
    · omega
    · rw [h] at h2; cases h2
theorem oU_partEq_step {lt : Nat → Nat → Bool} {d : Array (Nat)} {a i j i2 j2 : Nat} (hi : Sort.scanUp (fun x => !lt d[a]! x) d j i = i2) (hj : Sort.scanDown (fun x => lt d[a]! x) d i2 j = j2) (h1 : i ≤ i2) (h2 : j2 ≤ j) :
    Sort.partEqLoop lt a i j d = if j2 < i2 then (i2, d) else Sort.partEqLoop lt a (i2 + 1) (j2 - 1) (Sort.swp d i2 j2) := by
  conv => lhs; unfold Sort.partEqLoop
  simp only [hi, hj]
  split
  · rfl
  · rw [dif_pos (by omega)]
set_option maxRecDepth 100000 in
set_option maxHeartbeats 0 in
theorem oU_partEq_spec (n a b pv : Nat) (d : Array (Nat)) (hn : n < 4611686018427387904) (hd : d.size = n) (hap : a ≤ pv) (hpb : pv < b) (hb : b ≤ n) :
    Ctr Try.prog 66 [.slu 0 0 n, .sc (.int .i64 (a : Int)), .sc (.int .i64 (b : Int)), .sc (.int .i64 (pv : Int))] [oUrow n d] (fun c => c = ⟨.sc (.int .i64 ((Sort.partitionEqual oUlt d a b pv).1 : Int)), [some (oUrow n (Sort.partitionEqual oUlt d a b pv).2)]⟩) := by
  refine Fnc.start Try.func66 rfl rfl ?_
  (repeat (first | refine y_seq ?_ | refine w_region ?_ | refine y_regEnd ?_ | refine w_assign rfl rfl rfl ?_))
  refine w_draw (by kernel_rfl) (by kernel_rfl) ?_
  (repeat (first | refine dw_move rfl rfl rfl ?_ | (refine dw_ldS (g := fun x : Nat => .int .u64 x) rfl rfl rfl (F.ag _ rfl) rfl (by first | omega | (simp only [Array.size_setIfInBounds, swp_size]; omega)) (by first | omega | (simp only [Array.size_setIfInBounds, swp_size]; omega)) ?_) | (refine dw_stS (g := fun x : Nat => .int .u64 x) rfl rfl rfl (fun _ => rfl) (F.sz _ rfl) rfl (by first | omega | (simp only [Array.size_setIfInBounds, swp_size]; omega)) (by first | omega | (simp only [Array.size_setIfInBounds, swp_size]; omega)) ?_) | refine dw_idxN (q := a) rfl rfl rfl rfl (F.un _ rfl) (F.sz _ rfl) rfl (by omega) (by omega) (by omega) ?_ | refine dw_idxN (q := pv) rfl rfl rfl rfl (F.un _ rfl) (F.sz _ rfl) rfl (by omega) (by omega) (by omega) ?_))
  (refine dk_nil ?_); (refine ⟨by kernel_rfl, ?_, ?_⟩); (focus (repeat (first | exact trivial | refine ⟨.inl rfl, ?_⟩ | refine ⟨.inr (by (repeat (refine ⟨(by first | exact rd_not rfl | exact rd_cmp rfl rfl (.inr (.inr (.inr (.inr (.inl ⟨rfl, rfl⟩))))) | exact rd_idxN (F.un _ rfl) (F.sz _ rfl) rfl rfl rfl (by omega) (by omega) (by omega) | exact rd_arith rfl rfl (.inl ⟨rfl, (Go.IntWalk.i64_in _ ⟨by omega, by omega⟩).symm⟩) | exact rd_arith rfl rfl (.inr (.inl ⟨rfl, (Go.IntWalk.i64_in _ ⟨by omega, by omega⟩).symm⟩)) | exact rd_fieldAddr (F.fo _ _ rfl rfl) rfl | exact rd_move rfl | exact rd_assign rfl | exact rd_load1 (F.ag _ rfl) rfl rfl (cell_box rfl) | exact rd_loadN (F.ag _ rfl) rfl rfl (cellsFrom_box _ 0 rfl rfl) | exact rd_extract rfl rfl | exact rd_lenSl (F.un _ rfl) rfl | exact rd_lenStr (F.un _ rfl) rfl | exact rd_nilCheck rfl | exact rd_pickT rfl rfl | exact rd_pickF rfl rfl), ?_⟩)); exact trivial), ?_⟩ | refine ⟨.inl (by kernel_rfl), ?_⟩)))
  (repeat (first | refine y_seq ?_ | refine w_region ?_ | refine y_regEnd ?_ | refine y_block ?_ | refine w_move rfl rfl rfl ?_ | refine w_assign rfl rfl rfl ?_ | refine w_add rfl rfl rfl rfl (by omega) (by omega) ?_ | refine w_sub rfl rfl rfl rfl (by omega) (by omega) ?_))
  refine y_loopC 1 (fun s : (Nat × Nat) × Array (Nat) => [(0, .slu 0 0 n), (1, .sc (.int .i64 (a : Int))), (9, .sc (.int .i64 (s.1.1 : Int))), (10, .sc (.int .i64 (s.1.2 : Int)))]) (fun s => [some (oUrow n s.2)]) (fun s => a < s.1.1 ∧ s.1.1 ≤ n ∧ s.1.2 < n ∧ s.2.size = n ∧ Sort.partEqLoop oUlt a s.1.1 s.1.2 s.2 = Sort.partitionEqual oUlt d a b pv) (fun s => s.1.2 + 1 - s.1.1) ((a + 1, b - 1), Sort.swp d a pv) []
    (fun _ => rfl) ⟨by simp only; omega, by simp only; omega, by simp only; omega, by rw [swp_size]; exact hd, rfl⟩ ?_ (fun _ => rfl) (fun _ => rfl) ?_
  · (refine ⟨(ExtOk.of rfl), rfl, (by repeat (first | exact trivial | refine ⟨rfl, ?_⟩ | refine ⟨sl_eq (by first | omega | (simp only; omega)), ?_⟩)), (by repeat (first | exact trivial | refine ⟨at_dat rfl, ?_⟩))⟩)
  rintro ⟨⟨i, j⟩, d1⟩ ⟨hai, hi, hj, hd1, ho⟩ ih
  simp only at hai hi hj hd1 ho ih ⊢
  (repeat (first | refine y_seq ?_ | refine y_block ?_))
  refine y_loopE 1 (fun x : Nat => [(0, .slu 0 0 n), (1, .sc (.int .i64 (a : Int))), (9, .sc (.int .i64 (x : Int))), (10, .sc (.int .i64 (j : Int)))]) (fun _ => [some (oUrow n d1)]) (fun x => i ≤ x ∧ x ≤ n ∧ Sort.scanUp (fun y => !oUlt d1[a]! y) d1 j x = Sort.scanUp (fun y => !oUlt d1[a]! y) d1 j i) (fun x => n - x) i []
    1 (fun x : Nat => [(0, .slu 0 0 n), (1, .sc (.int .i64 (a : Int))), (9, .sc (.int .i64 (x : Int))), (10, .sc (.int .i64 (j : Int)))]) (fun _ => [some (oUrow n d1)]) (fun x => i ≤ x ∧ x ≤ n ∧ Sort.scanUp (fun y => !oUlt d1[a]! y) d1 j i = x)
    (fun _ => rfl) (fun _ => rfl) ⟨Nat.le_refl _, hi, rfl⟩ ?_ (fun _ => rfl) (fun _ => rfl) ?_ ?_
  · (refine ⟨(ExtOk.of rfl), rfl, (by repeat (first | exact trivial | refine ⟨rfl, ?_⟩)), (by repeat (first | exact trivial | refine ⟨at_dat rfl, ?_⟩))⟩)
  · rintro i1 ⟨hii, hi1, hu⟩ ihu out
    (repeat (refine y_seq ?_))
    refine w_draw (by kernel_rfl) (by kernel_rfl) ?_
    (repeat (refine dw_move rfl rfl rfl ?_))
    refine dw_leqS rfl rfl rfl rfl ?_ ?_
    all_goals intro h1
    · have hls_h2 := oUless (d1[a]!) (d1[i1]!)
      cases h2 : oUlt (d1[a]!) (d1[i1]!)
      all_goals rw [h2] at hls_h2
      rotate_left
      all_goals (repeat (first | refine dw_move rfl rfl rfl ?_ | refine dw_pickT rfl rfl rfl rfl ?_ | refine dw_notB rfl rfl rfl ?_ | (refine dw_ldS (g := fun x : Nat => .int .u64 x) rfl rfl rfl (F.ag _ rfl) rfl (by first | omega | (simp only [Array.size_setIfInBounds, swp_size]; omega)) (by first | omega | (simp only [Array.size_setIfInBounds, swp_size]; omega)) ?_) | refine dw_idxN (q := a) rfl rfl rfl rfl (F.un _ rfl) (F.sz _ rfl) rfl (by omega) (by omega) (by omega) ?_ | refine dw_idxN (q := i1) rfl rfl rfl rfl (F.un _ rfl) (F.sz _ rfl) rfl (by omega) (by omega) (by omega) ?_ | refine dk_call rfl rfl rfl (by kernel_rfl) (Ctr.callV (hls_h2) [] rfl (ExtOk.of rfl) rfl trivial rfl) ?_))
      · skip
        (refine dk_nil ?_); (refine ⟨by kernel_rfl, ?_, ?_⟩); (focus (repeat (first | exact trivial | refine ⟨.inl rfl, ?_⟩ | refine ⟨.inr (by (repeat (refine ⟨(by first | exact rd_not rfl | exact rd_cmp rfl rfl (.inr (.inr (.inr (.inr (.inl ⟨rfl, rfl⟩))))) | exact rd_idxN (F.un _ rfl) (F.sz _ rfl) rfl rfl rfl (by omega) (by omega) (by omega) | exact rd_arith rfl rfl (.inl ⟨rfl, (Go.IntWalk.i64_in _ ⟨by omega, by omega⟩).symm⟩) | exact rd_arith rfl rfl (.inr (.inl ⟨rfl, (Go.IntWalk.i64_in _ ⟨by omega, by omega⟩).symm⟩)) | exact rd_fieldAddr (F.fo _ _ rfl rfl) rfl | exact rd_move rfl | exact rd_assign rfl | exact rd_load1 (F.ag _ rfl) rfl rfl (cell_box rfl) | exact rd_loadN (F.ag _ rfl) rfl rfl (cellsFrom_box _ 0 rfl rfl) | exact rd_extract rfl rfl | exact rd_lenSl (F.un _ rfl) rfl | exact rd_lenStr (F.un _ rfl) rfl | exact rd_nilCheck rfl | exact rd_pickT rfl rfl | exact rd_pickF rfl rfl), ?_⟩)); exact trivial), ?_⟩ | refine ⟨.inl (by kernel_rfl), ?_⟩)))
        (repeat (first | (refine out _ _ _ i1 [] ⟨hii, hi1, by rw [← hu]; exact oU_scanUp_stop (.inr (by simpa [oUlt] using h2))⟩ ?_; (refine ⟨(ExtOk.of rfl), rfl, (by repeat (first | exact trivial | refine ⟨rfl, ?_⟩)), (by repeat (first | exact trivial | refine ⟨at_dat rfl, ?_⟩))⟩)) | (first | refine y_exit rfl ?_ | refine y_condF rfl ?_)))
      · skip
        (refine dk_nil ?_); (refine ⟨by kernel_rfl, ?_, ?_⟩); (focus (repeat (first | exact trivial | refine ⟨.inl rfl, ?_⟩ | refine ⟨.inr (by (repeat (refine ⟨(by first | exact rd_not rfl | exact rd_cmp rfl rfl (.inr (.inr (.inr (.inr (.inl ⟨rfl, rfl⟩))))) | exact rd_idxN (F.un _ rfl) (F.sz _ rfl) rfl rfl rfl (by omega) (by omega) (by omega) | exact rd_arith rfl rfl (.inl ⟨rfl, (Go.IntWalk.i64_in _ ⟨by omega, by omega⟩).symm⟩) | exact rd_arith rfl rfl (.inr (.inl ⟨rfl, (Go.IntWalk.i64_in _ ⟨by omega, by omega⟩).symm⟩)) | exact rd_fieldAddr (F.fo _ _ rfl rfl) rfl | exact rd_move rfl | exact rd_assign rfl | exact rd_load1 (F.ag _ rfl) rfl rfl (cell_box rfl) | exact rd_loadN (F.ag _ rfl) rfl rfl (cellsFrom_box _ 0 rfl rfl) | exact rd_extract rfl rfl | exact rd_lenSl (F.un _ rfl) rfl | exact rd_lenStr (F.un _ rfl) rfl | exact rd_nilCheck rfl | exact rd_pickT rfl rfl | exact rd_pickF rfl rfl), ?_⟩)); exact trivial), ?_⟩ | refine ⟨.inl (by kernel_rfl), ?_⟩)))
        (repeat (first | refine w_region ?_ | refine y_regEnd ?_ | refine y_block ?_ | refine y_inBlock ?_ | refine y_skip ?_ | refine y_condT rfl ?_ | refine w_move rfl rfl rfl ?_ | refine w_assign rfl rfl rfl ?_ | refine w_add rfl rfl rfl rfl (by omega) (by omega) ?_))
        refine ihu _ _ _ (i1 + 1) [] ⟨by omega, by omega, ?_⟩ (by omega) ?_
        · rw [← hu]
          exact (oU_scanUp_go (by omega) (by simpa [oUlt] using h2)).symm
        · (refine ⟨(ExtOk.of rfl), rfl, (by repeat (first | exact trivial | refine ⟨rfl, ?_⟩)), (by repeat (first | exact trivial | refine ⟨at_dat rfl, ?_⟩))⟩)
    · (repeat (first | refine dw_move rfl rfl rfl ?_ | refine dw_pickF rfl rfl rfl rfl ?_ | refine dk_skip rfl rfl ?_))
      (refine dk_nil ?_); (refine ⟨by kernel_rfl, ?_, ?_⟩); (focus (repeat (first | exact trivial | refine ⟨.inl rfl, ?_⟩)))
      (repeat (first | (refine out _ _ _ i1 [] ⟨hii, hi1, by rw [← hu]; exact oU_scanUp_stop (.inl (by omega))⟩ ?_; (refine ⟨(ExtOk.of rfl), rfl, (by repeat (first | exact trivial | refine ⟨rfl, ?_⟩)), (by repeat (first | exact trivial | refine ⟨at_dat rfl, ?_⟩))⟩)) | (first | refine y_exit rfl ?_ | refine y_condF rfl ?_)))
  rintro i2 ⟨hii, hi2, hu⟩
  (repeat (first | refine y_seq ?_ | refine y_block ?_))
  refine y_loopE 1 (fun x : Nat => [(0, .slu 0 0 n), (1, .sc (.int .i64 (a : Int))), (9, .sc (.int .i64 (i2 : Int))), (10, .sc (.int .i64 (x : Int)))]) (fun _ => [some (oUrow n d1)]) (fun x => x ≤ j ∧ Sort.scanDown (fun y => oUlt d1[a]! y) d1 i2 x = Sort.scanDown (fun y => oUlt d1[a]! y) d1 i2 j) (fun x => x) j []
    1 (fun x : Nat => [(0, .slu 0 0 n), (1, .sc (.int .i64 (a : Int))), (9, .sc (.int .i64 (i2 : Int))), (10, .sc (.int .i64 (x : Int)))]) (fun _ => [some (oUrow n d1)]) (fun x => x ≤ j ∧ Sort.scanDown (fun y => oUlt d1[a]! y) d1 i2 j = x)
    (fun _ => rfl) (fun _ => rfl) ⟨Nat.le_refl _, rfl⟩ ?_ (fun _ => rfl) (fun _ => rfl) ?_ ?_
  · (refine ⟨(ExtOk.of rfl), rfl, (by repeat (first | exact trivial | refine ⟨rfl, ?_⟩)), (by repeat (first | exact trivial | refine ⟨at_dat rfl, ?_⟩))⟩)
  · rintro j1 ⟨hjj, hv⟩ ihv out
    (repeat (refine y_seq ?_))
    refine w_draw (by kernel_rfl) (by kernel_rfl) ?_
    (repeat (refine dw_move rfl rfl rfl ?_))
    refine dw_leqS rfl rfl rfl rfl ?_ ?_
    all_goals intro h1
    · have hls_h2 := oUless (d1[a]!) (d1[j1]!)
      cases h2 : oUlt (d1[a]!) (d1[j1]!)
      all_goals rw [h2] at hls_h2
      rotate_left
      all_goals (repeat (first | refine dw_move rfl rfl rfl ?_ | refine dw_pickT rfl rfl rfl rfl ?_ | (refine dw_ldS (g := fun x : Nat => .int .u64 x) rfl rfl rfl (F.ag _ rfl) rfl (by first | omega | (simp only [Array.size_setIfInBounds, swp_size]; omega)) (by first | omega | (simp only [Array.size_setIfInBounds, swp_size]; omega)) ?_) | refine dw_idxN (q := a) rfl rfl rfl rfl (F.un _ rfl) (F.sz _ rfl) rfl (by omega) (by omega) (by omega) ?_ | refine dw_idxN (q := j1) rfl rfl rfl rfl (F.un _ rfl) (F.sz _ rfl) rfl (by omega) (by omega) (by omega) ?_ | refine dk_call rfl rfl rfl (by kernel_rfl) (Ctr.callV (hls_h2) [] rfl (ExtOk.of rfl) rfl trivial rfl) ?_))
      · skip
        (refine dk_nil ?_); (refine ⟨by kernel_rfl, ?_, ?_⟩); (focus (repeat (first | exact trivial | refine ⟨.inl rfl, ?_⟩ | refine ⟨.inr (by (repeat (refine ⟨(by first | exact rd_not rfl | exact rd_cmp rfl rfl (.inr (.inr (.inr (.inr (.inl ⟨rfl, rfl⟩))))) | exact rd_idxN (F.un _ rfl) (F.sz _ rfl) rfl rfl rfl (by omega) (by omega) (by omega) | exact rd_arith rfl rfl (.inl ⟨rfl, (Go.IntWalk.i64_in _ ⟨by omega, by omega⟩).symm⟩) | exact rd_arith rfl rfl (.inr (.inl ⟨rfl, (Go.IntWalk.i64_in _ ⟨by omega, by omega⟩).symm⟩)) | exact rd_fieldAddr (F.fo _ _ rfl rfl) rfl | exact rd_move rfl | exact rd_assign rfl | exact rd_load1 (F.ag _ rfl) rfl rfl (cell_box rfl) | exact rd_loadN (F.ag _ rfl) rfl rfl (cellsFrom_box _ 0 rfl rfl) | exact rd_extract rfl rfl | exact rd_lenSl (F.un _ rfl) rfl | exact rd_lenStr (F.un _ rfl) rfl | exact rd_nilCheck rfl | exact rd_pickT rfl rfl | exact rd_pickF rfl rfl), ?_⟩)); exact trivial), ?_⟩ | refine ⟨.inl (by kernel_rfl), ?_⟩)))
        (repeat (first | refine w_region ?_ | refine y_regEnd ?_ | refine y_block ?_ | refine y_inBlock ?_ | refine y_skip ?_ | refine y_condT rfl ?_ | refine w_move rfl rfl rfl ?_ | refine w_assign rfl rfl rfl ?_ | refine w_sub rfl rfl rfl rfl (by omega) (by omega) ?_))
        obtain ⟨j1, rfl⟩ : ∃ j', j1 = j' + 1 := ⟨j1 - 1, by omega⟩
        refine ihv _ _ _ j1 [] ⟨by omega, ?_⟩ (by omega) ?_
        · rw [← hv]
          exact (oU_scanDown_go (by omega) (by simpa [oUlt] using h2)).symm
        · (refine ⟨(ExtOk.of rfl), rfl, (by repeat (first | exact trivial | refine ⟨rfl, ?_⟩ | refine ⟨sl_eq (by first | omega | (simp only; omega)), ?_⟩)), (by repeat (first | exact trivial | refine ⟨at_dat rfl, ?_⟩))⟩)
      · skip
        (refine dk_nil ?_); (refine ⟨by kernel_rfl, ?_, ?_⟩); (focus (repeat (first | exact trivial | refine ⟨.inl rfl, ?_⟩ | refine ⟨.inr (by (repeat (refine ⟨(by first | exact rd_not rfl | exact rd_cmp rfl rfl (.inr (.inr (.inr (.inr (.inl ⟨rfl, rfl⟩))))) | exact rd_idxN (F.un _ rfl) (F.sz _ rfl) rfl rfl rfl (by omega) (by omega) (by omega) | exact rd_arith rfl rfl (.inl ⟨rfl, (Go.IntWalk.i64_in _ ⟨by omega, by omega⟩).symm⟩) | exact rd_arith rfl rfl (.inr (.inl ⟨rfl, (Go.IntWalk.i64_in _ ⟨by omega, by omega⟩).symm⟩)) | exact rd_fieldAddr (F.fo _ _ rfl rfl) rfl | exact rd_move rfl | exact rd_assign rfl | exact rd_load1 (F.ag _ rfl) rfl rfl (cell_box rfl) | exact rd_loadN (F.ag _ rfl) rfl rfl (cellsFrom_box _ 0 rfl rfl) | exact rd_extract rfl rfl | exact rd_lenSl (F.un _ rfl) rfl | exact rd_lenStr (F.un _ rfl) rfl | exact rd_nilCheck rfl | exact rd_pickT rfl rfl | exact rd_pickF rfl rfl), ?_⟩)); exact trivial), ?_⟩ | refine ⟨.inl (by kernel_rfl), ?_⟩)))
        (repeat (first | (refine out _ _ _ j1 [] ⟨hjj, by rw [← hv]; exact oU_scanDown_stop (.inr (by simpa [oUlt] using h2))⟩ ?_; (refine ⟨(ExtOk.of rfl), rfl, (by repeat (first | exact trivial | refine ⟨rfl, ?_⟩)), (by repeat (first | exact trivial | refine ⟨at_dat rfl, ?_⟩))⟩)) | (first | refine y_exit rfl ?_ | refine y_condF rfl ?_)))
    · (repeat (first | refine dw_move rfl rfl rfl ?_ | refine dw_pickF rfl rfl rfl rfl ?_ | refine dk_skip rfl rfl ?_))
      (refine dk_nil ?_); (refine ⟨by kernel_rfl, ?_, ?_⟩); (focus (repeat (first | exact trivial | refine ⟨.inl rfl, ?_⟩)))
      (repeat (first | (refine out _ _ _ j1 [] ⟨hjj, by rw [← hv]; exact oU_scanDown_stop (.inl (by omega))⟩ ?_; (refine ⟨(ExtOk.of rfl), rfl, (by repeat (first | exact trivial | refine ⟨rfl, ?_⟩)), (by repeat (first | exact trivial | refine ⟨at_dat rfl, ?_⟩))⟩)) | (first | refine y_exit rfl ?_ | refine y_condF rfl ?_)))
  rintro j2 ⟨hjj, hv⟩
  have e := oU_partEq_step hu hv hii hjj
  (repeat (first | refine y_seq ?_ | refine w_region ?_ | refine w_move rfl rfl rfl ?_))
  refine w_gtrS rfl rfl rfl rfl ?_ ?_
  all_goals intro h3
  · rw [ho, if_pos (by omega)] at e
    (repeat (first | refine y_seq ?_ | refine w_region ?_ | refine y_regEnd ?_ | refine y_exit rfl ?_ | refine y_condT rfl ?_ | refine w_move rfl rfl rfl ?_ | refine w_assign rfl rfl rfl ?_))
    rw [e]
    ((apply w_ret Try.func66 (congrArg Array.toList Try.results66)); (focus (repeat (first | exact ResIs.nil | apply ResIs.tmp rfl))); refine ⟨_, rfl, Ends.mk [] (ExtOk.of rfl) rfl rfl ?_⟩)
    exact (by repeat (first | exact trivial | refine ⟨at_dat rfl, ?_⟩))
  · rw [ho, if_neg (by omega)] at e
    (repeat (first | refine y_seq ?_ | refine y_regEnd ?_ | refine y_skip ?_ | refine y_condF rfl ?_))
    refine w_draw (by kernel_rfl) (by kernel_rfl) ?_
    (repeat (first | refine dw_move rfl rfl rfl ?_ | (refine dw_ldS (g := fun x : Nat => .int .u64 x) rfl rfl rfl (F.ag _ rfl) rfl (by first | omega | (simp only [Array.size_setIfInBounds, swp_size]; omega)) (by first | omega | (simp only [Array.size_setIfInBounds, swp_size]; omega)) ?_) | (refine dw_stS (g := fun x : Nat => .int .u64 x) rfl rfl rfl (fun _ => rfl) (F.sz _ rfl) rfl (by first | omega | (simp only [Array.size_setIfInBounds, swp_size]; omega)) (by first | omega | (simp only [Array.size_setIfInBounds, swp_size]; omega)) ?_) | refine dw_idxN (q := i2) rfl rfl rfl rfl (F.un _ rfl) (F.sz _ rfl) rfl (by omega) (by omega) (by omega) ?_ | refine dw_idxN (q := j2) rfl rfl rfl rfl (F.un _ rfl) (F.sz _ rfl) rfl (by omega) (by omega) (by omega) ?_))
    (refine dk_nil ?_); (refine ⟨by kernel_rfl, ?_, ?_⟩); (focus (repeat (first | exact trivial | refine ⟨.inl rfl, ?_⟩ | refine ⟨.inr (by (repeat (refine ⟨(by first | exact rd_not rfl | exact rd_cmp rfl rfl (.inr (.inr (.inr (.inr (.inl ⟨rfl, rfl⟩))))) | exact rd_idxN (F.un _ rfl) (F.sz _ rfl) rfl rfl rfl (by omega) (by omega) (by omega) | exact rd_arith rfl rfl (.inl ⟨rfl, (Go.IntWalk.i64_in _ ⟨by omega, by omega⟩).symm⟩) | exact rd_arith rfl rfl (.inr (.inl ⟨rfl, (Go.IntWalk.i64_in _ ⟨by omega, by omega⟩).symm⟩)) | exact rd_fieldAddr (F.fo _ _ rfl rfl) rfl | exact rd_move rfl | exact rd_assign rfl | exact rd_load1 (F.ag _ rfl) rfl rfl (cell_box rfl) | exact rd_loadN (F.ag _ rfl) rfl rfl (cellsFrom_box _ 0 rfl rfl) | exact rd_extract rfl rfl | exact rd_lenSl (F.un _ rfl) rfl | exact rd_lenStr (F.un _ rfl) rfl | exact rd_nilCheck rfl | exact rd_pickT rfl rfl | exact rd_pickF rfl rfl), ?_⟩)); exact trivial), ?_⟩ | refine ⟨.inl (by kernel_rfl), ?_⟩)))
    (repeat (first | refine y_seq ?_ | refine w_region ?_ | refine y_regEnd ?_ | refine y_inBlock ?_ | refine w_move rfl rfl rfl ?_ | refine w_assign rfl rfl rfl ?_ | refine w_add rfl rfl rfl rfl (by omega) (by omega) ?_ | refine w_sub rfl rfl rfl rfl (by omega) (by omega) ?_))
    refine ih _ _ _ ((i2 + 1, j2 - 1), Sort.swp d1 i2 j2) [] ⟨by simp only; omega, by simp only; omega, by simp only; omega, by rw [swp_size]; exact hd1, e.symm⟩ (by simp only; omega) ?_
    (refine ⟨(ExtOk.of rfl), rfl, (by repeat (first | exact trivial | refine ⟨rfl, ?_⟩ | refine ⟨sl_eq (by first | omega | (simp only; omega)), ?_⟩)), (by repeat (first | exact trivial | refine ⟨at_dat rfl, ?_⟩))⟩)
end Go.Proofs.Ytckajlllkmkniaa
end
