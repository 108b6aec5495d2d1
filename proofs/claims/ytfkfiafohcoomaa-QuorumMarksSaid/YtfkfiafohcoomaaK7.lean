/-
  Texts of the proof, merged: Q31 Q32 Q33 Q34.
-/
import Derived.Test.YtfkfiafohcoomaaK6
set_option linter.unusedVariables false
set_option linter.unusedSimpArgs false
section
namespace Go.Proofs.Ytfkfiafohcoomaa
open Go Go.Sy Go.Sl Go.RowKit
structure RelM (m : MkL) (ps : Array (Int × Int)) (is : Array Bool) : Prop where
  hps : ps.size = 5
  his : is.size = 5
  rng : ∀ x ∈ keysM m, 1 ≤ x ∧ x ≤ 5
  get : ∀ n : Nat, n < 5 → kget m ((n : Int) + 1) = if is[n]! then some ps[n]! else none
  zero : ∀ n : Nat, n < 5 → is[n]! = false → ps[n]! = (0, 0)
theorem get_set {A : Type} [Inhabited A] {d : Array A} {q n : Nat} {v : A} (hq : q < d.size) (hn : n < d.size) : (d.setIfInBounds q v)[n]! = if n = q then v else d[n]! := by
  rw [getElem!_pos _ n (by rw [Array.size_setIfInBounds]; exact hn)]
  by_cases h : n = q
  · subst h
    rw [Array.getElem_setIfInBounds_self, if_pos rfl]
  · rw [Array.getElem_setIfInBounds_ne (by omega) (by omega), if_neg h, getElem!_pos d n hn]
theorem isOf_get {a : Array Int} (h : ∀ j, j < a.size → 1 ≤ a[j]! ∧ a[j]! ≤ 5) : ∀ i, i ≤ a.size → ∀ n : Nat, n < 5 → ((isOf a i)[n]! = true ↔ ∃ j, j < i ∧ a[j]! = (n : Int) + 1)
  | 0, _, n, hn => by
    constructor
    · intro hh
      exfalso
      rcases n with _ | _ | _ | _ | _ | n <;> first | (cases hh; done) | omega
    · rintro ⟨j, hj, _⟩; omega
  | i + 1, hi, n, hn => by
    have ih := isOf_get h i (by omega) n hn
    have hr := h i (by omega)
    rw [isOf, get_set (by rw [isOf_size]; omega) (by rw [isOf_size]; exact hn)]
    by_cases e : n = (a[i]! - 1).toNat
    · rw [if_pos e]
      exact ⟨fun _ => ⟨i, by omega, by omega⟩, fun _ => rfl⟩
    · rw [if_neg e, ih]
      constructor
      · rintro ⟨j, hj, hv⟩; exact ⟨j, by omega, hv⟩
      · rintro ⟨j, hj, hv⟩
        rcases Nat.lt_or_ge j i with h1 | h1
        · exact ⟨j, h1, hv⟩
        · exfalso
          have : j = i := by omega
          subst this
          omega
theorem newM_val {a : Array Int} {i : Nat} {k : Int} {p : Int × Int} (h : kget (newM a i) k = some p) : p = (0, 0) := by
  unfold kget at h
  rw [Option.map_eq_some_iff] at h
  obtain ⟨x, hx, rfl⟩ := h
  have := List.mem_of_find?_eq_some hx
  simp only [newM, List.mem_map] at this
  obtain ⟨j, _, rfl⟩ := this
  rfl
theorem rel_new {a : Array Int} (h : ∀ j, j < a.size → okAt a j) : RelM (newM a a.size) ps0 (isOf a a.size) := by
  refine ⟨rfl, isOf_size _ _, fun x hx => ?_, fun n hn => ?_, fun n hn _ => ?_⟩
  · simp only [newM, keysM, List.map_map, List.mem_map, List.mem_range, Function.comp_apply] at hx
    obtain ⟨j, hj, rfl⟩ := hx
    exact (h j hj).1
  · have hi := isOf_get (fun j hj => (h j hj).1) a.size (Nat.le_refl _) n hn
    have hz : ps0[n]! = (0, 0) := by rcases n with _ | _ | _ | _ | _ | n <;> first | rfl | omega
    cases hb : (isOf a a.size)[n]! with
    | true =>
      rw [if_pos rfl, hz]
      obtain ⟨j, hj, hv⟩ := hi.1 hb
      cases hg : kget (newM a a.size) ((n : Int) + 1) with
      | none => exact absurd hv (newM_get.1 hg j hj)
      | some p => rw [newM_val hg]
    | false =>
      rw [if_neg (by decide)]
      refine newM_get.2 fun j hj hv => ?_
      rw [hi.2 ⟨j, hj, hv⟩] at hb
      cases hb
  · rcases n with _ | _ | _ | _ | _ | n <;> first | rfl | omega
theorem kget_kput (m : MkL) (k : Int) (v : Int × Int) (c : Nat) (k' : Int) : kget (kput m k v c) k' = if k = k' then some v else kget m k' := by
  induction m with
  | nil =>
    by_cases h : k = k' <;> simp [kget, kput, h]
  | cons y m ih =>
    unfold kput
    by_cases h : y.1 = k
    · rw [if_pos h]
      by_cases h2 : k = k'
      · subst h2; simp [kget]
      · have : ¬ y.1 = k' := by rw [h]; exact h2
        simp [kget, h2, this]
    · rw [if_neg h]
      by_cases h2 : y.1 = k'
      · have : ¬ k = k' := fun e => h (by rw [h2, e])
        simp [kget, h2, this]
      · have e1 : kget (y :: kput m k v c) k' = kget (kput m k v c) k' := by simp [kget, h2]
        have e2 : kget (y :: m) k' = kget m k' := by simp [kget, h2]
        rw [e1, ih, e2]
theorem rel_tell {m : MkL} {ps : Array (Int × Int)} {is : Array Bool} (h : RelM m ps is) (c : Nat) (k : Int) (p : Int × Int) : (tellR m c k p).2 = (rtellR ps is k p).2 ∧ RelM (tellR m c k p).1 (rtellR ps is k p).1 is := by
  by_cases hk : k < 1 ∨ 5 < k
  · have hg : kget m k = none := kget_none.2 fun hm => by have := h.rng k hm; omega
    rw [show tellR m c k p = (m, false, 2) by unfold tellR; rw [hg], show rtellR ps is k p = (ps, false, 2) by unfold rtellR; rw [if_pos hk]]
    exact ⟨rfl, h⟩
  · obtain ⟨q, rfl⟩ : ∃ q : Nat, k = (q : Int) + 1 := ⟨(k - 1).toNat, by omega⟩
    have hq5 : q < 5 := by omega
    have hgq := h.get q hq5
    have hr : rtellR ps is ((q : Int) + 1) p = if is[q]! then (if uptoP p ps[q]! then (ps, false, 0) else (ps.setIfInBounds q p, true, 0)) else (ps, false, 2) := by
      unfold rtellR
      rw [if_neg (by omega), show ((q : Int) + 1 - 1).toNat = q by omega]
    rw [hr]
    cases hb : is[q]! with
    | false =>
      rw [hb, if_neg (by decide)] at hgq
      rw [show tellR m c ((q : Int) + 1) p = (m, false, 2) by unfold tellR; rw [hgq]]
      exact ⟨rfl, h⟩
    | true =>
      rw [hb, if_pos rfl] at hgq
      rw [if_pos rfl]
      have hl := less_not ps[q]! p
      cases hu : uptoP p ps[q]! with
      | true =>
        rw [hu] at hl
        rw [show tellR m c ((q : Int) + 1) p = (m, false, 0) by unfold tellR; rw [hgq]; simp only [hl]; rfl]
        exact ⟨rfl, h⟩
      | false =>
        rw [hu] at hl
        rw [show tellR m c ((q : Int) + 1) p = (kput m ((q : Int) + 1) p c, true, 0) by unfold tellR; rw [hgq]; simp only [hl]; rfl]
        refine ⟨rfl, ?_, h.his, fun x hx => ?_, fun n hn => ?_, fun n hn hi => ?_⟩
        · show (ps.setIfInBounds q p).size = 5
          rw [Array.size_setIfInBounds]; exact h.hps
        · rcases mem_kput.1 hx with rfl | hx
          · omega
          · exact h.rng x hx
        · show kget (kput m ((q : Int) + 1) p c) ((n : Int) + 1) = if is[n]! then some (ps.setIfInBounds q p)[n]! else none
          rw [kget_kput, get_set (by rw [h.hps]; exact hq5) (by rw [h.hps]; exact hn)]
          by_cases e : n = q
          · subst e; rw [if_pos rfl, if_pos rfl, hb]; rfl
          · rw [if_neg (by omega), if_neg e]; exact h.get n hn
        · show (ps.setIfInBounds q p)[n]! = (0, 0)
          rw [get_set (by rw [h.hps]; exact hq5) (by rw [h.hps]; exact hn), if_neg (fun e => by subst e; rw [hb] at hi; cases hi)]
          exact h.zero n hn hi
theorem memb_mem (is : Array Bool) : ∀ (i : Nat) (x : Int), x ∈ membR is i ↔ ∃ n : Nat, n < i ∧ is[n]! = true ∧ x = (n : Int) + 1
  | 0, x => by simp [membR]
  | i + 1, x => by
    have ih := memb_mem is i x
    unfold membR
    cases hb : is[i]! with
    | true =>
      rw [if_pos rfl, List.mem_append, ih, List.mem_singleton]
      constructor
      · rintro (⟨n, h1, h2, h3⟩ | h)
        · exact ⟨n, by omega, h2, h3⟩
        · exact ⟨i, by omega, hb, h⟩
      · rintro ⟨n, h1, h2, h3⟩
        rcases Nat.lt_or_ge n i with h | h
        · exact .inl ⟨n, h, h2, h3⟩
        · obtain rfl : n = i := by omega
          exact .inr h3
    | false =>
      rw [if_neg (by decide), ih]
      constructor
      · rintro ⟨n, h1, h2, h3⟩; exact ⟨n, by omega, h2, h3⟩
      · rintro ⟨n, h1, h2, h3⟩
        rcases Nat.lt_or_ge n i with h | h
        · exact ⟨n, h, h2, h3⟩
        · obtain rfl : n = i := by omega
          rw [hb] at h2; cases h2
theorem memb_rising (is : Array Bool) : ∀ i, (membR is i).Pairwise (· < ·)
  | 0 => List.Pairwise.nil
  | i + 1 => by
    unfold membR
    split
    · rw [List.pairwise_append]
      refine ⟨memb_rising is i, List.pairwise_singleton _ _, fun a ha b hb => ?_⟩
      obtain ⟨n, h1, _, rfl⟩ := (memb_mem is i a).1 ha
      rw [List.mem_singleton] at hb
      omega
    · exact memb_rising is i
theorem rel_mem {m : MkL} {ps : Array (Int × Int)} {is : Array Bool} (h : RelM m ps is) (x : Int) : x ∈ membR is 5 ↔ x ∈ keysM m := by
  rw [memb_mem]
  constructor
  · rintro ⟨n, hn, hb, rfl⟩
    have := h.get n hn
    rw [hb, if_pos rfl] at this
    refine Classical.byContradiction fun hc => ?_
    rw [kget_none.2 hc] at this
    cases this
  · intro hx
    have hr := h.rng x hx
    obtain ⟨n, rfl⟩ : ∃ n : Nat, x = (n : Int) + 1 := ⟨(x - 1).toNat, by omega⟩
    refine ⟨n, by omega, ?_, rfl⟩
    have := h.get n (by omega)
    cases hb : is[n]! with
    | true => rfl
    | false => rw [hb, if_neg (by decide)] at this; exact absurd hx (kget_none.1 this)
theorem rel_members {m : MkL} {ps : Array (Int × Int)} {is : Array Bool} (h : RelM m ps is) {l : List Int} (h1 : l.Pairwise (· < ·)) (h2 : ∀ x, x ∈ l ↔ x ∈ keysM m) : l = membR is 5 :=
  rising_unique h1 (memb_rising is 5) fun x => (h2 x).trans (rel_mem h x).symm
theorem kget_mem {m : MkL} {c : Nat} (hok : KOk m c) {x : Int × (Int × Int) × Nat} (hx : x ∈ m) : kget m x.1 = some x.2.1 := by
  have hk := hok.keys
  clear hok
  induction m with
  | nil => cases hx
  | cons y m ih =>
    rw [List.map_cons, List.nodup_cons] at hk
    rcases List.mem_cons.1 hx with rfl | hx
    · simp [kget]
    · have : ¬ y.1 = x.1 := fun e => hk.1 (by rw [e]; exact List.mem_map.2 ⟨x, hx, rfl⟩)
      have e1 : kget (y :: m) x.1 = kget m x.1 := by simp [kget, this]
      rw [e1]
      exact ih hx hk.2
theorem places_memb {m : MkL} {ps : Array (Int × Int)} {is : Array Bool} (h : RelM m ps is) : ∀ i, i ≤ 5 → placesR ps is i = (membR is i).map fun k => (kget m k).getD (0, 0)
  | 0, _ => rfl
  | i + 1, hi => by
    have ih := places_memb h i (by omega)
    unfold placesR membR
    cases hb : is[i]! with
    | true =>
      have := h.get i (by omega)
      rw [hb, if_pos rfl] at this
      rw [if_pos rfl, if_pos rfl, List.map_append, ← ih, List.map_singleton, this]
      rfl
    | false => rw [if_neg (by decide), if_neg (by decide)]; exact ih
theorem rel_places {m : MkL} {c : Nat} {ps : Array (Int × Int)} {is : Array Bool} (h : RelM m ps is) (hok : KOk m c) : (placesR ps is 5).Perm (plcs m) := by
  have e1 : plcs m = (keysM m).map fun k => (kget m k).getD (0, 0) := by
    rw [keysM, List.map_map]
    refine List.map_congr_left fun x hx => ?_
    simp only [Function.comp_apply, kget_mem hok hx, Option.getD_some]
  rw [e1, places_memb h 5 (Nat.le_refl _)]
  refine List.Perm.map _ ((List.perm_ext_iff_of_nodup ?_ hok.keys).2 (rel_mem h))
  exact (memb_rising is 5).imp fun {a b} h e => by omega
theorem rel_length {m : MkL} {c : Nat} {ps : Array (Int × Int)} {is : Array Bool} (h : RelM m ps is) (hok : KOk m c) : m.length ≤ 5 := by
  have h1 := (rel_places h hok).length_eq
  have h2 := placesR_len ps is 5
  rw [List.length_map] at h1
  omega
theorem rel_have {m : MkL} {c : Nat} {ps : Array (Int × Int)} {is : Array Bool} (h : RelM m ps is) (hok : KOk m c) (k : Int) (p : Int × Int) : mhaveR m k p = (decide (k < 1) || decide ((haveP (placesR ps is 5) p : Int) ≥ k)) := by
  unfold mhaveR
  by_cases hk : k < 1
  · simp [hk]
  · rw [if_neg hk, haveP_perm (rel_places h hok)]
    obtain ⟨q, rfl⟩ : ∃ q : Nat, k = (q : Int) := ⟨k.toNat, by omega⟩
    by_cases hq : q ≤ (plcs m).length
    · obtain ⟨h1, h2⟩ := least_yes (l := plcs m) (k := q) (by omega) hq
      have := h2 p
      rw [h1, less_not]
      cases hu : uptoP p (leastQ (q : Int) (plcs m)).1 with
      | true => rw [hu] at this; have := this.2 rfl; simp; omega
      | false =>
        rw [hu] at this
        have : ¬ q ≤ haveP (plcs m) p := fun hh => by have := this.1 hh; cases this
        simp; omega
    · have hn : (leastQ (q : Int) (plcs m)).2 = false := by unfold leastQ; rw [if_pos (.inr (by omega))]
      have := haveP_le (plcs m) p
      rw [hn]
      simp; omega
end Go.Proofs.Ytfkfiafohcoomaa
end
section
namespace Go.Proofs.Ytfkfiafohcoomaa
open Go Go.Sy Go.Sl Go.RowKit
abbrev kR (l : List Int) (d : Array Int) : VO := arr false l.length 1 3 collK_f d
set_option maxRecDepth 100000 in
set_option maxHeartbeats 0 in
theorem lmembers_spec (m : MkL) (c : Nat) (ps : Array (Int × Int)) (is : Array Bool) (hok : KOk m c) (hR : RelM m ps is) : Ctr Try.prog 38 [.ptr 0 0, .ptr 2 0] [mkB, marksV m c, rfV ps is]
    (fun cz => cz = ⟨.sc (.bool true), [some mkB, some (marksV m c), some (rfV ps is)]⟩) := by
  have hln := rel_length hR hok
  have hm := members_spec m c hok (by omega)
  have hr := members_r ps is hR.hps hR.his
  have hml := membR_len is 5
  refine Ctr.at 3 rfl ?_
  refine Fnc.start Try.func38 rfl rfl ?_
  (repeat (first | refine y_seq ?_ | refine w_region ?_ | refine y_regEnd ?_ | refine w_move rfl rfl rfl ?_ | refine w_assign rfl rfl rfl ?_))
  (refine w_call rfl rfl rfl (by kernel_rfl) (Ctr.callX (hm) [0, 1] rfl (ExtOk.of rfl) rfl (by repeat (first | exact trivial | refine ⟨at_box rfl, ?_⟩ | refine ⟨at_map (fun _ => rfl) rfl, ?_⟩)) ?_); rintro _ ⟨l, ⟨hl1, hl2⟩, rfl⟩; refine ⟨_, 1, [0, 1, 3], [some _, some _, some _], rfl, (by repeat (first | exact trivial | refine ⟨ren_dat _ _ _ _ _ _, ?_⟩ | refine ⟨ren_map (fun _ => rfl), ?_⟩ | refine ⟨ren_boxT rfl, ?_⟩)), rfl, rfl, ?_⟩; dsimp only [wrL])
  obtain rfl := rel_members hR hl1 hl2
  (repeat (refine w_move rfl rfl rfl ?_))
  (refine w_call rfl rfl rfl (by kernel_rfl) (Ctr.callX (hr) [2] rfl (ExtOk.of rfl) rfl (by repeat (first | exact trivial | refine ⟨at_scs rfl, ?_⟩)) ?_); rintro _ rfl; refine ⟨_, 1, [2, 4], [some _, some _], rfl, (by repeat (first | exact trivial | refine ⟨ren_scs, ?_⟩ | refine ⟨ren_dat _ _ _ _ _ _, ?_⟩)), rfl, rfl, ?_⟩; dsimp only [wrL])
  generalize membR is 5 = l at hml hl1 hl2 ⊢
  (repeat (first | refine y_seq ?_ | refine w_region ?_ | refine y_regEnd ?_ | refine w_move rfl rfl rfl ?_ | refine w_assign rfl rfl rfl ?_ | refine w_lenSl rfl rfl rfl (F.un _ rfl) ?_))
  refine w_neqS rfl rfl rfl rfl ?_ ?_
  all_goals intro h1
  · exact absurd rfl h1
  (repeat (first | refine y_seq ?_ | refine w_region ?_ | refine y_regEnd ?_ | refine y_block ?_ | refine y_skip ?_ | refine y_condF rfl ?_ | refine w_assign rfl rfl rfl ?_))
  refine y_loopC 5 (fun s : Nat × Array Int => [(5, .slu 3 0 l.length), (6, .slu 4 0 l.length), (7, .sc (.int .i64 (s.1 : Int)))]) (fun s => [some mkB, some (marksV m c), some (rfV ps is), some (kR l s.2), some (kR l l.toArray)]) (fun s => s.1 ≤ l.length ∧ s.2.size = l.length ∧ ∀ j, s.1 ≤ j → j < l.length → s.2[j]! = l.toArray[j]!) (fun s => l.length - s.1) (0, l.toArray) [3, 4]
    (fun _ => rfl) ⟨Nat.zero_le _, by simp, fun _ _ _ => rfl⟩ ?_ (fun _ => rfl) (fun _ => rfl) ?_
  · (exact ⟨(ExtOk.of rfl), rfl, (by repeat (first | exact trivial | refine ⟨rfl, ?_⟩)), (by repeat (first | exact trivial | refine ⟨at_dat rfl, ?_⟩ | refine ⟨at_box rfl, ?_⟩ | refine ⟨at_map (fun _ => rfl) rfl, ?_⟩ | refine ⟨at_scs rfl, ?_⟩))⟩)
  rintro ⟨i, d⟩ ⟨hi, hd, he⟩ ih
  simp only at hi hd he ih ⊢
  (repeat (first | refine y_seq ?_ | refine w_region ?_ | refine w_move rfl rfl rfl ?_ | refine w_lenSl rfl rfl rfl (F.un _ rfl) ?_))
  refine w_lssS rfl rfl rfl rfl ?_ ?_
  all_goals intro h2
  · have hei := he i (Nat.le_refl _) (by omega)
    have hls : l.toArray.size = l.length := by simp
    (repeat (first | refine y_seq ?_ | refine y_regEnd ?_ | refine y_block ?_ | refine y_skip ?_ | refine y_condT rfl ?_))
    refine w_draw (by kernel_rfl) (by kernel_rfl) ?_
    (repeat (first | (refine dw_move rfl rfl rfl ?_) | refine dw_idxN (q := i) rfl rfl rfl rfl (F.un _ rfl) (F.sz _ rfl) rfl (by omega) (by omega) (by omega) ?_ | (refine dw_ldS (g := fun x => Value.int .i64 x) rfl rfl rfl (F.ag _ rfl) rfl (by omega) (by omega) ?_)))
    refine dw_neqS rfl rfl rfl rfl ?_ ?_
    all_goals intro h3
    · exact absurd hei h3
    (refine dk_nil ?_); (refine ⟨by kernel_rfl, ?_, ?_⟩); (focus (repeat (first | exact trivial | refine ⟨.inl rfl, ?_⟩)))
    (repeat (first | (first | refine w_region ?_ | refine y_regEnd ?_ | refine y_inBlock ?_ | refine y_skip ?_ | refine y_condF rfl ?_ | refine w_move rfl rfl rfl ?_ | refine w_assign rfl rfl rfl ?_ | refine w_add rfl rfl rfl rfl (by omega) (by omega) ?_) | refine w_idxN (q := i) rfl rfl rfl rfl (F.un _ rfl) (F.sz _ rfl) rfl (by omega) (by omega) (by omega) ?_ | (refine w_stS (g := fun x => Value.int .i64 x) (v := 99) rfl rfl rfl (fun _ => rfl) (F.sz _ rfl) rfl (by omega) (by omega) ?_)))
    refine ih _ _ _ (i + 1, d.setIfInBounds i 99) [3, 4] ⟨by simp only; omega, by simp only [Array.size_setIfInBounds]; exact hd, fun j h1 h2 => ?_⟩ (by simp only; omega) ?_
    · simp only at h1
      rw [get_set (by omega) (by omega), if_neg (by omega)]
      exact he j (by omega) h2
    · (exact ⟨(ExtOk.of rfl), rfl, (by repeat (first | exact trivial | refine ⟨rfl, ?_⟩)), (by repeat (first | exact trivial | refine ⟨at_dat rfl, ?_⟩ | refine ⟨at_box rfl, ?_⟩ | refine ⟨at_map (fun _ => rfl) rfl, ?_⟩ | refine ⟨at_scs rfl, ?_⟩))⟩)
  · (repeat (first | refine y_seq ?_ | refine w_region ?_ | refine y_regEnd ?_ | refine y_exit rfl ?_ | refine y_condF rfl ?_ | refine w_assign rfl rfl rfl ?_))
    ((apply w_ret Try.func38 (congrArg Array.toList Try.results38)); (focus (repeat (first | exact ResIs.nil | apply ResIs.tmp rfl))); refine ⟨_, rfl, Ends.mk [] (ExtOk.of rfl) rfl rfl ?_⟩)
    exact (by repeat (first | exact trivial | refine ⟨at_box rfl, ?_⟩ | refine ⟨at_map (fun _ => rfl) rfl, ?_⟩ | refine ⟨at_scs rfl, ?_⟩))
end Go.Proofs.Ytfkfiafohcoomaa
end
section
namespace Go.Proofs.Ytfkfiafohcoomaa
open Go Go.Sy Go.Sl Go.RowKit
theorem rel_of {m : MkL} {ps : Array (Int × Int)} {is : Array Bool} (h : RelM m ps is) (k : Int) : ofR m k = if 1 ≤ k ∧ k ≤ 5 then (ps[(k - 1).toNat]!, is[(k - 1).toNat]!) else ((0, 0), false) := by
  unfold ofR
  by_cases hk : 1 ≤ k ∧ k ≤ 5
  · obtain ⟨q, rfl⟩ : ∃ q : Nat, k = (q : Int) + 1 := ⟨(k - 1).toNat, by omega⟩
    rw [if_pos hk, show ((q : Int) + 1 - 1).toNat = q by omega, h.get q (by omega)]
    cases hb : is[q]! with
    | true => rfl
    | false => rw [h.zero q (by omega) hb]; rfl
  · rw [if_neg hk, kget_none.2 fun hm => hk (h.rng k hm)]
theorem rd_ldG1v {P : Program} {T : Tr SV} {H : Heap} {d0 : Option Tmp} {ty : TypeId} {pos : String} {af : Array Edge} {gd : Option (Nat × Bool)} {A : Type} [Inhabited A] {g : A → Value} {t rt : TypeId} {x : Operand} {b o q l0 : Nat} {d : Array A} {cs : List SV} {pre post : List Value} {v : Value} (hv : g d[q]! = v) (hx : evalS T x = some (.ptr b o)) (ha : aggSize P t = some none) (hg : ∀ a, (g a).oneCell' = true) (hb : H.at' b = some (newCells rt cs))
    (hcs : cs = (pre ++ d.toList.flatMap (fun a => [g a]) ++ post).map .sc) (hl : pre.length = l0) (ho : o = l0 + q * 1) (hi : q < d.size) : ReadDoes P T H ⟨d0, .load t x, ty, pos, af, gd⟩ (.sc v) := hv ▸ rd_ldG1 hx ha hg hb hcs hl ho hi
section
variable {ro : Option Nat} {fn nt nx i : Nat} {T : Tr SV} {k : List AIt} {dfs : List ADf} {H : Heap} {Q : Pst} {ops : Array Oper} {l : List Oper} {ty : TypeId} {pos : String} {af : Array Edge} {gd : Option (Nat × Bool)} {P : Program}
theorem w_samePl {x y : Operand} {yt : TypeId} {a : Int × Int} {dd : Nat} (hw : wantedS T ops ⟨some dd, .binOp .neq 25 x y yt, ty, pos, af, gd⟩ = some true) (hd : Nat.blt dd nt = true) (hx : evalS T x = some (plS a)) (hy : evalS T y = some (plS a))
    (h : Wp Try.prog ro ⟨fn, nt, T.set dd (.sc (.bool false)), .inReg ops (i + 1) l :: k, dfs, H, nx⟩ Q) : Wp Try.prog ro ⟨fn, nt, T, .inReg ops i (⟨some dd, .binOp .neq 25 x y yt, ty, pos, af, gd⟩ :: l) :: k, dfs, H, nx⟩ Q :=
  w_neqPl hw hd hx hy (by rw [sameSelf]; exact h)
theorem w_sameB {t : TypeId} {x y : Operand} {yt : TypeId} {a : Bool} {dd : Nat} (hw : wantedS T ops ⟨some dd, .binOp .neq t x y yt, ty, pos, af, gd⟩ = some true) (hd : Nat.blt dd nt = true) (hx : evalS T x = some (.sc (.bool a))) (hy : evalS T y = some (.sc (.bool a))) (hu : P.underlying t = some .bool)
    (h : Wp P ro ⟨fn, nt, T.set dd (.sc (.bool false)), .inReg ops (i + 1) l :: k, dfs, H, nx⟩ Q) : Wp P ro ⟨fn, nt, T, .inReg ops i (⟨some dd, .binOp .neq t x y yt, ty, pos, af, gd⟩ :: l) :: k, dfs, H, nx⟩ Q :=
  y_val hw (.inr (fun _ h => by cases h)) ((rd_neqB hx hy hu).does) (by rw [putS_some hd, boolSelf]; exact h)
end
set_option maxRecDepth 100000 in
set_option maxHeartbeats 0 in
theorem looks_spec (m : MkL) (c : Nat) (ps : Array (Int × Int)) (is : Array Bool) (p : Int × Int) (hok : KOk m c) (hR : RelM m ps is) : Ctr Try.prog 23 [.ptr 0 0, .ptr 2 0, plS p] [mkB, marksV m c, rfV ps is]
    (fun cz => cz = ⟨.sc (.bool true), [some mkB, some (marksV m c), some (rfV ps is)]⟩) := by
  have hln := rel_length hR hok
  have hps := hR.hps
  have his := hR.his
  have hpl := places_r ps is hps his
  have hplen := placesR_len ps is 5
  have hlm := lmembers_spec m c ps is hok hR
  refine Ctr.at 3 rfl ?_
  refine Fnc.start Try.func23 rfl rfl ?_
  (repeat (first | refine y_seq ?_ | refine w_region ?_ | refine y_regEnd ?_ | refine w_move rfl rfl rfl ?_ | refine w_assign rfl rfl rfl ?_ | refine w_boxN rfl rfl rfl ?_))
  (refine w_call rfl rfl rfl (by kernel_rfl) (Ctr.callX (hpl) [2] rfl (ExtOk.of rfl) rfl (by repeat (first | exact trivial | refine ⟨at_scs rfl, ?_⟩)) ?_); rintro _ rfl; refine ⟨_, 1, [2, 4], [some _, some _], rfl, (by repeat (first | exact trivial | refine ⟨ren_scs, ?_⟩ | refine ⟨ren_dat _ _ _ _ _ _, ?_⟩)), rfl, rfl, ?_⟩; dsimp only [wrL])
  (repeat (first | refine y_seq ?_ | refine w_region ?_ | refine y_regEnd ?_ | refine y_block ?_ | refine w_assign rfl rfl rfl ?_))
  refine y_loopC 5 (fun n : Nat => [(0, .ptr 0 0), (1, .ptr 2 0), (5, .ptr 3 0), (7, .slu 4 0 (placesR ps is 5).length), (8, .sc (.int .i64 ((n : Int) - 1)))]) (fun _ => [some mkB, some (marksV m c), some (rfV ps is), some (newCells 25 [.sc (.int .u64 p.1), .sc (.int .u64 p.2)]), some (plR false (placesR ps is 5))]) (fun n => n ≤ 9) (fun n => 9 - n) 0 [3, 4]
    (fun _ => rfl) (Nat.zero_le _) ?_ (fun _ => rfl) (fun _ => rfl) ?_
  · (exact ⟨(ExtOk.of rfl), rfl, (by repeat (first | exact trivial | refine ⟨rfl, ?_⟩)), (by repeat (first | exact trivial | refine ⟨at_dat rfl, ?_⟩ | refine ⟨at_box rfl, ?_⟩ | refine ⟨at_map (fun _ => rfl) rfl, ?_⟩ | refine ⟨at_scs rfl, ?_⟩))⟩)
  intro n hn ih
  (repeat (first | refine y_seq ?_ | refine w_region ?_ | refine w_move rfl rfl rfl ?_))
  refine w_lssS rfl rfl rfl rfl ?_ ?_
  all_goals intro h1
  · generalize hk : (n : Int) - 1 = k at h1 ⊢
    have hof := of_spec m c k
    have hml := mleast_spec m c k hok (by omega)
    have hrl := rleast_spec false k (placesR ps is 5) (by omega)
    rw [leastQ_perm k (rel_places hR hok).symm, least_same] at hml
    have hmh := mhave_spec m c k p hok (by omega)
    rw [rel_have hR hok] at hmh
    have hrh := have_spec false (placesR ps is 5) p (by omega)
    rw [rel_of hR] at hof
    generalize leastR k (placesR ps is 5) = lr at hml hrl
    obtain ⟨lp, lis⟩ := lr
    simp only at hml hrl
    by_cases hk5 : 1 ≤ k ∧ k ≤ 5
    · rw [if_pos hk5] at hof
      obtain ⟨q, rfl⟩ : ∃ q : Nat, k = (q : Int) + 1 := ⟨(k - 1).toNat, by omega⟩
      rw [show ((q : Int) + 1 - 1).toNat = q by omega] at hof
      rw [show decide ((q : Int) + 1 < 1) = false from decide_eq_false (by omega)] at hmh
      (repeat (first | refine y_seq ?_ | refine w_region ?_ | refine y_regEnd ?_ | refine y_block ?_ | refine y_skip ?_ | refine y_condT rfl ?_ | refine w_move rfl rfl rfl ?_))
      cases hb : is[q]!
      all_goals rw [hb] at hof
      · rw [hR.zero q (by omega) hb] at hof
        (refine w_call rfl rfl rfl (by kernel_rfl) (Ctr.callX (hof) [0, 1] rfl (ExtOk.of rfl) rfl (by repeat (first | exact trivial | refine ⟨at_box rfl, ?_⟩ | refine ⟨at_map (fun _ => rfl) rfl, ?_⟩)) ?_); rintro _ rfl; refine ⟨_, 0, [0, 1], [some _, some _], rfl, (by repeat (first | exact trivial | refine ⟨ren_map (fun _ => rfl), ?_⟩ | refine ⟨ren_boxT rfl, ?_⟩)), rfl, rfl, ?_⟩; dsimp only [wrL])
        (repeat (first | refine y_seq ?_ | refine y_regEnd ?_ | refine w_move rfl rfl rfl ?_ | refine w_assign rfl rfl rfl ?_ | refine w_extract rfl rfl rfl rfl ?_ | refine w_storeC rfl rfl rfl rfl (F.sz _ rfl) (by first | exact rfl | (focus (skip; first | exact Tr.at_set_same _ _ _ | assumption))) rfl (by exact Nat.le_of_ble_eq_true rfl) rfl ?_ | refine w_alloc rfl rfl (F.zl _ rfl) ?_))
        refine w_draw (by kernel_rfl) (by kernel_rfl) ?_
        (repeat (first | refine dw_move rfl rfl rfl ?_ | refine dw_build rfl rfl rfl (F.ze _ rfl) (F.pl _ rfl) rfl ?_))
        refine dw_geqS rfl rfl rfl rfl ?_ ?_
        all_goals intro h2
        case refine_2 => exact absurd h2 (by omega)
        (repeat (refine dw_move rfl rfl rfl ?_))
        refine dw_leqS rfl rfl rfl rfl ?_ ?_
        all_goals intro h3
        case refine_2 => exact absurd h3 (by omega)
        (repeat (first | (first | refine dw_move rfl rfl rfl ?_ | refine dw_assign rfl rfl rfl ?_ | refine dw_pickT rfl rfl rfl rfl ?_ | refine dw_nilCheck rfl rfl rfl ?_ | refine dw_fieldAddr rfl rfl rfl (F.fo _ _ rfl rfl) ?_ | refine dw_alloc rfl rfl (F.zl _ rfl) ?_ | refine dw_storeN rfl rfl rfl (F.sz _ rfl) rfl rfl (by decide) rfl rfl ?_ | refine dw_sub rfl rfl rfl rfl (by omega) (by omega) ?_) | refine dw_idxA (q := q) rfl rfl rfl rfl (F.un _ rfl) (F.sz _ rfl) (by omega) (by omega) ?_ | (refine dw_ldG1 (g := fun b => Value.bool b) (l0 := 10) (d := is) (q) (psV ps) [] rfl rfl rfl (F.ag _ rfl) (fun _ => rfl) rfl (cs_is ps is) (psV_len hps) (by omega) (by omega) ?_)))
        rw [hb]
        (refine dk_nil ?_); (refine ⟨by kernel_rfl, ?_, ?_⟩)
        · (repeat (first | exact trivial | refine ⟨.inl rfl, ?_⟩ | refine ⟨.inr (by (repeat (refine ⟨(by first | exact rd_build rfl (F.ze _ rfl) (F.pl _ rfl) rfl | exact rd_ldG1v (v := .bool (is[q]!)) rfl (q := q) (g := fun b => Value.bool b) (d := is) (pre := psV ps) (post := []) (l0 := 10) rfl (F.ag _ rfl) (fun _ => rfl) rfl (cs_is ps is) (psV_len hps) (by omega) (by omega) | exact rd_ldG1v (congrArg Value.bool hb) (q := q) (g := fun b => Value.bool b) (d := is) (pre := psV ps) (post := []) (l0 := 10) rfl (F.ag _ rfl) (fun _ => rfl) rfl (cs_is ps is) (psV_len hps) (by omega) (by omega) | exact rd_idxA (q := q) rfl rfl (F.un _ rfl) (F.sz _ rfl) (by omega) (by omega) | exact rd_cmp rfl rfl (.inr (.inr (.inr (.inr (.inr ⟨rfl, (decide_eq_true (by omega)).symm⟩))))) | exact rd_cmp rfl rfl (.inr (.inr (.inr (.inl ⟨rfl, (decide_eq_true (by omega)).symm⟩)))) | exact rd_cmp rfl rfl (.inr (.inr (.inr (.inr (.inr ⟨rfl, (decide_eq_false (by omega)).symm⟩))))) | exact rd_cmp rfl rfl (.inr (.inr (.inr (.inl ⟨rfl, (decide_eq_false (by omega)).symm⟩)))) | exact rd_not rfl | exact rd_cmp rfl rfl (.inr (.inr (.inr (.inr (.inl ⟨rfl, rfl⟩))))) | exact rd_idxN (F.un _ rfl) (F.sz _ rfl) rfl rfl rfl (by omega) (by omega) (by omega) | exact rd_arith rfl rfl (.inl ⟨rfl, (Go.IntWalk.i64_in _ ⟨by omega, by omega⟩).symm⟩) | exact rd_arith rfl rfl (.inr (.inl ⟨rfl, (Go.IntWalk.i64_in _ ⟨by omega, by omega⟩).symm⟩)) | exact rd_fieldAddr (F.fo _ _ rfl rfl) rfl | exact rd_move rfl | exact rd_assign rfl | exact rd_load1 (F.ag _ rfl) rfl rfl (cell_box rfl) | exact rd_loadN (F.ag _ rfl) rfl rfl (cellsFrom_box _ 0 rfl rfl) | exact rd_extract rfl rfl | exact rd_lenSl (F.un _ rfl) rfl | exact rd_lenStr (F.un _ rfl) rfl | exact rd_nilCheck rfl | exact rd_pickT rfl rfl | exact rd_pickF rfl rfl), ?_⟩)); exact trivial), ?_⟩))
        (repeat (first | refine y_seq ?_ | refine w_region ?_ | refine y_regEnd ?_ | refine y_skip ?_ | refine y_condF rfl ?_ | refine w_move rfl rfl rfl ?_))
        (refine w_call rfl rfl rfl (by kernel_rfl) (Ctr.callX (hml) [0, 1] rfl (ExtOk.of rfl) rfl (by repeat (first | exact trivial | refine ⟨at_box rfl, ?_⟩ | refine ⟨at_map (fun _ => rfl) rfl, ?_⟩)) ?_); rintro _ rfl; refine ⟨_, 0, [0, 1], [some _, some _], rfl, (by repeat (first | exact trivial | refine ⟨ren_map (fun _ => rfl), ?_⟩ | refine ⟨ren_boxT rfl, ?_⟩)), rfl, rfl, ?_⟩; dsimp only [wrL])
        (repeat (first | refine y_seq ?_ | refine w_region ?_ | refine y_regEnd ?_ | refine w_move rfl rfl rfl ?_ | refine w_assign rfl rfl rfl ?_ | refine w_extract rfl rfl rfl rfl ?_ | refine w_storeC rfl rfl rfl rfl (F.sz _ rfl) (by first | exact rfl | (focus (skip; first | exact Tr.at_set_same _ _ _ | assumption))) rfl (by exact Nat.le_of_ble_eq_true rfl) rfl ?_ | refine w_alloc rfl rfl (F.zl _ rfl) ?_))
        (refine w_call rfl rfl rfl (by kernel_rfl) (Ctr.callX (hrl) [4] rfl (ExtOk.of rfl) rfl (by repeat (first | exact trivial | refine ⟨at_dat rfl, ?_⟩)) ?_); rintro _ rfl; refine ⟨_, 0, [4], [some _], rfl, (by repeat (first | exact trivial | refine ⟨ren_dat _ _ _ _ _ _, ?_⟩)), rfl, rfl, ?_⟩; dsimp only [wrL])
        (repeat (first | (first | refine y_seq ?_ | refine w_region ?_ | refine y_regEnd ?_ | refine w_move rfl rfl rfl ?_ | refine w_assign rfl rfl rfl ?_ | refine w_pickF rfl rfl rfl rfl ?_ | refine w_extract rfl rfl rfl rfl ?_ | refine w_storeC rfl rfl rfl rfl (F.sz _ rfl) (by first | exact rfl | (focus (skip; first | exact Tr.at_set_same _ _ _ | assumption))) rfl (by exact Nat.le_of_ble_eq_true rfl) rfl ?_ | refine w_loadBN rfl rfl rfl (F.ag _ rfl) rfl rfl ?_ | refine w_alloc rfl rfl (F.zl _ rfl) ?_) | (refine w_samePl rfl rfl rfl rfl ?_) | (refine w_sameB rfl rfl rfl rfl (F.un _ rfl) ?_)))
        (refine w_call rfl rfl rfl (by kernel_rfl) (Ctr.callX (hmh) [0, 1] rfl (ExtOk.of rfl) rfl (by repeat (first | exact trivial | refine ⟨at_box rfl, ?_⟩ | refine ⟨at_map (fun _ => rfl) rfl, ?_⟩)) ?_); rintro _ rfl; refine ⟨_, 0, [0, 1], [some _, some _], rfl, (by repeat (first | exact trivial | refine ⟨ren_map (fun _ => rfl), ?_⟩ | refine ⟨ren_boxT rfl, ?_⟩)), rfl, rfl, ?_⟩; dsimp only [wrL])
        (repeat (refine w_move rfl rfl rfl ?_))
        refine w_lssS rfl rfl rfl rfl ?_ ?_
        all_goals intro h9
        case refine_1 => exact absurd h9 (by omega)
        (repeat (first | (first | refine w_region ?_ | refine y_regEnd ?_ | refine y_inBlock ?_ | refine y_skip ?_ | refine y_condF rfl ?_ | refine w_move rfl rfl rfl ?_ | refine w_assign rfl rfl rfl ?_ | refine w_pickF rfl rfl rfl rfl ?_ | refine w_loadBN rfl rfl rfl (F.ag _ rfl) rfl rfl ?_ | refine w_add rfl rfl rfl rfl (by omega) (by omega) ?_) | refine w_callV (hrh) [4] rfl rfl rfl (by kernel_rfl) rfl (ExtOk.of rfl) rfl (by repeat (first | exact trivial | refine ⟨at_dat rfl, ?_⟩)) ?_ | refine w_geq rfl rfl rfl rfl ?_ | (refine w_sameB rfl rfl rfl rfl (F.un _ rfl) ?_)))
        refine ih _ _ _ (n + 1) [3, 4] (by omega) (by omega) ?_
        (exact ⟨(ExtOk.of rfl), rfl, (by repeat (first | exact trivial | refine ⟨rfl, ?_⟩ | refine ⟨sl_eq (by first | omega | (simp only; omega)), ?_⟩)), (by repeat (first | exact trivial | refine ⟨at_dat rfl, ?_⟩ | refine ⟨at_box rfl, ?_⟩ | refine ⟨at_map (fun _ => rfl) rfl, ?_⟩ | refine ⟨at_scs rfl, ?_⟩))⟩)
      · (refine w_call rfl rfl rfl (by kernel_rfl) (Ctr.callX (hof) [0, 1] rfl (ExtOk.of rfl) rfl (by repeat (first | exact trivial | refine ⟨at_box rfl, ?_⟩ | refine ⟨at_map (fun _ => rfl) rfl, ?_⟩)) ?_); rintro _ rfl; refine ⟨_, 0, [0, 1], [some _, some _], rfl, (by repeat (first | exact trivial | refine ⟨ren_map (fun _ => rfl), ?_⟩ | refine ⟨ren_boxT rfl, ?_⟩)), rfl, rfl, ?_⟩; dsimp only [wrL])
        (repeat (first | refine y_seq ?_ | refine y_regEnd ?_ | refine w_move rfl rfl rfl ?_ | refine w_assign rfl rfl rfl ?_ | refine w_extract rfl rfl rfl rfl ?_ | refine w_storeC rfl rfl rfl rfl (F.sz _ rfl) (by first | exact rfl | (focus (skip; first | exact Tr.at_set_same _ _ _ | assumption))) rfl (by exact Nat.le_of_ble_eq_true rfl) rfl ?_ | refine w_alloc rfl rfl (F.zl _ rfl) ?_))
        refine w_draw (by kernel_rfl) (by kernel_rfl) ?_
        (repeat (first | refine dw_move rfl rfl rfl ?_ | refine dw_build rfl rfl rfl (F.ze _ rfl) (F.pl _ rfl) rfl ?_))
        refine dw_geqS rfl rfl rfl rfl ?_ ?_
        all_goals intro h2
        case refine_2 => exact absurd h2 (by omega)
        (repeat (refine dw_move rfl rfl rfl ?_))
        refine dw_leqS rfl rfl rfl rfl ?_ ?_
        all_goals intro h3
        case refine_2 => exact absurd h3 (by omega)
        (repeat (first | (first | refine dw_move rfl rfl rfl ?_ | refine dw_assign rfl rfl rfl ?_ | refine dw_pickT rfl rfl rfl rfl ?_ | refine dw_nilCheck rfl rfl rfl ?_ | refine dw_fieldAddr rfl rfl rfl (F.fo _ _ rfl rfl) ?_ | refine dw_alloc rfl rfl (F.zl _ rfl) ?_ | refine dw_storeN rfl rfl rfl (F.sz _ rfl) rfl rfl (by decide) rfl rfl ?_ | refine dw_sub rfl rfl rfl rfl (by omega) (by omega) ?_) | refine dw_idxA (q := q) rfl rfl rfl rfl (F.un _ rfl) (F.sz _ rfl) (by omega) (by omega) ?_ | (refine dw_ldG1 (g := fun b => Value.bool b) (l0 := 10) (d := is) (q) (psV ps) [] rfl rfl rfl (F.ag _ rfl) (fun _ => rfl) rfl (cs_is ps is) (psV_len hps) (by omega) (by omega) ?_)))
        rw [hb]
        (refine dk_nil ?_); (refine ⟨by kernel_rfl, ?_, ?_⟩)
        · (repeat (first | exact trivial | refine ⟨.inl rfl, ?_⟩ | refine ⟨.inr (by (repeat (refine ⟨(by first | exact rd_build rfl (F.ze _ rfl) (F.pl _ rfl) rfl | exact rd_ldG1v (v := .bool (is[q]!)) rfl (q := q) (g := fun b => Value.bool b) (d := is) (pre := psV ps) (post := []) (l0 := 10) rfl (F.ag _ rfl) (fun _ => rfl) rfl (cs_is ps is) (psV_len hps) (by omega) (by omega) | exact rd_ldG1v (congrArg Value.bool hb) (q := q) (g := fun b => Value.bool b) (d := is) (pre := psV ps) (post := []) (l0 := 10) rfl (F.ag _ rfl) (fun _ => rfl) rfl (cs_is ps is) (psV_len hps) (by omega) (by omega) | exact rd_idxA (q := q) rfl rfl (F.un _ rfl) (F.sz _ rfl) (by omega) (by omega) | exact rd_cmp rfl rfl (.inr (.inr (.inr (.inr (.inr ⟨rfl, (decide_eq_true (by omega)).symm⟩))))) | exact rd_cmp rfl rfl (.inr (.inr (.inr (.inl ⟨rfl, (decide_eq_true (by omega)).symm⟩)))) | exact rd_cmp rfl rfl (.inr (.inr (.inr (.inr (.inr ⟨rfl, (decide_eq_false (by omega)).symm⟩))))) | exact rd_cmp rfl rfl (.inr (.inr (.inr (.inl ⟨rfl, (decide_eq_false (by omega)).symm⟩)))) | exact rd_not rfl | exact rd_cmp rfl rfl (.inr (.inr (.inr (.inr (.inl ⟨rfl, rfl⟩))))) | exact rd_idxN (F.un _ rfl) (F.sz _ rfl) rfl rfl rfl (by omega) (by omega) (by omega) | exact rd_arith rfl rfl (.inl ⟨rfl, (Go.IntWalk.i64_in _ ⟨by omega, by omega⟩).symm⟩) | exact rd_arith rfl rfl (.inr (.inl ⟨rfl, (Go.IntWalk.i64_in _ ⟨by omega, by omega⟩).symm⟩)) | exact rd_fieldAddr (F.fo _ _ rfl rfl) rfl | exact rd_move rfl | exact rd_assign rfl | exact rd_load1 (F.ag _ rfl) rfl rfl (cell_box rfl) | exact rd_loadN (F.ag _ rfl) rfl rfl (cellsFrom_box _ 0 rfl rfl) | exact rd_extract rfl rfl | exact rd_lenSl (F.un _ rfl) rfl | exact rd_lenStr (F.un _ rfl) rfl | exact rd_nilCheck rfl | exact rd_pickT rfl rfl | exact rd_pickF rfl rfl), ?_⟩)); exact trivial), ?_⟩))
        (repeat (first | (first | refine y_seq ?_ | refine w_region ?_ | refine y_regEnd ?_ | refine y_condT rfl ?_ | refine w_move rfl rfl rfl ?_ | refine w_nilCheck rfl rfl rfl ?_ | refine w_fieldAddr rfl rfl rfl (F.fo _ _ rfl rfl) ?_ | refine w_storeC rfl rfl rfl rfl (F.sz _ rfl) (by first | exact rfl | (focus (skip; first | exact Tr.at_set_same _ _ _ | assumption))) rfl (by exact Nat.le_of_ble_eq_true rfl) rfl ?_ | refine w_sub rfl rfl rfl rfl (by omega) (by omega) ?_) | refine w_idxA (q := q) rfl rfl rfl rfl (F.un _ rfl) (F.sz _ rfl) (by omega) (by omega) ?_ | (refine w_ldG (f := plV) (l0 := 0) (d := ps) (q) [] (isV is) rfl rfl rfl (F.ag _ rfl) recP rfl rfl rfl (by omega) (by omega) ?_)))
        (refine w_call rfl rfl rfl (by kernel_rfl) (Ctr.callX (hml) [0, 1] rfl (ExtOk.of rfl) rfl (by repeat (first | exact trivial | refine ⟨at_box rfl, ?_⟩ | refine ⟨at_map (fun _ => rfl) rfl, ?_⟩)) ?_); rintro _ rfl; refine ⟨_, 0, [0, 1], [some _, some _], rfl, (by repeat (first | exact trivial | refine ⟨ren_map (fun _ => rfl), ?_⟩ | refine ⟨ren_boxT rfl, ?_⟩)), rfl, rfl, ?_⟩; dsimp only [wrL])
        (repeat (first | refine y_seq ?_ | refine w_region ?_ | refine y_regEnd ?_ | refine w_move rfl rfl rfl ?_ | refine w_assign rfl rfl rfl ?_ | refine w_extract rfl rfl rfl rfl ?_ | refine w_storeC rfl rfl rfl rfl (F.sz _ rfl) (by first | exact rfl | (focus (skip; first | exact Tr.at_set_same _ _ _ | assumption))) rfl (by exact Nat.le_of_ble_eq_true rfl) rfl ?_ | refine w_alloc rfl rfl (F.zl _ rfl) ?_))
        (refine w_call rfl rfl rfl (by kernel_rfl) (Ctr.callX (hrl) [4] rfl (ExtOk.of rfl) rfl (by repeat (first | exact trivial | refine ⟨at_dat rfl, ?_⟩)) ?_); rintro _ rfl; refine ⟨_, 0, [4], [some _], rfl, (by repeat (first | exact trivial | refine ⟨ren_dat _ _ _ _ _ _, ?_⟩)), rfl, rfl, ?_⟩; dsimp only [wrL])
        (repeat (first | (first | refine y_seq ?_ | refine w_region ?_ | refine y_regEnd ?_ | refine w_move rfl rfl rfl ?_ | refine w_assign rfl rfl rfl ?_ | refine w_pickF rfl rfl rfl rfl ?_ | refine w_extract rfl rfl rfl rfl ?_ | refine w_storeC rfl rfl rfl rfl (F.sz _ rfl) (by first | exact rfl | (focus (skip; first | exact Tr.at_set_same _ _ _ | assumption))) rfl (by exact Nat.le_of_ble_eq_true rfl) rfl ?_ | refine w_loadBN rfl rfl rfl (F.ag _ rfl) rfl rfl ?_ | refine w_alloc rfl rfl (F.zl _ rfl) ?_) | (refine w_samePl rfl rfl rfl rfl ?_) | (refine w_sameB rfl rfl rfl rfl (F.un _ rfl) ?_)))
        (refine w_call rfl rfl rfl (by kernel_rfl) (Ctr.callX (hmh) [0, 1] rfl (ExtOk.of rfl) rfl (by repeat (first | exact trivial | refine ⟨at_box rfl, ?_⟩ | refine ⟨at_map (fun _ => rfl) rfl, ?_⟩)) ?_); rintro _ rfl; refine ⟨_, 0, [0, 1], [some _, some _], rfl, (by repeat (first | exact trivial | refine ⟨ren_map (fun _ => rfl), ?_⟩ | refine ⟨ren_boxT rfl, ?_⟩)), rfl, rfl, ?_⟩; dsimp only [wrL])
        (repeat (refine w_move rfl rfl rfl ?_))
        refine w_lssS rfl rfl rfl rfl ?_ ?_
        all_goals intro h9
        case refine_1 => exact absurd h9 (by omega)
        (repeat (first | (first | refine w_region ?_ | refine y_regEnd ?_ | refine y_inBlock ?_ | refine y_skip ?_ | refine y_condF rfl ?_ | refine w_move rfl rfl rfl ?_ | refine w_assign rfl rfl rfl ?_ | refine w_pickF rfl rfl rfl rfl ?_ | refine w_loadBN rfl rfl rfl (F.ag _ rfl) rfl rfl ?_ | refine w_add rfl rfl rfl rfl (by omega) (by omega) ?_) | refine w_callV (hrh) [4] rfl rfl rfl (by kernel_rfl) rfl (ExtOk.of rfl) rfl (by repeat (first | exact trivial | refine ⟨at_dat rfl, ?_⟩)) ?_ | refine w_geq rfl rfl rfl rfl ?_ | (refine w_sameB rfl rfl rfl rfl (F.un _ rfl) ?_)))
        refine ih _ _ _ (n + 1) [3, 4] (by omega) (by omega) ?_
        (exact ⟨(ExtOk.of rfl), rfl, (by repeat (first | exact trivial | refine ⟨rfl, ?_⟩ | refine ⟨sl_eq (by first | omega | (simp only; omega)), ?_⟩)), (by repeat (first | exact trivial | refine ⟨at_dat rfl, ?_⟩ | refine ⟨at_box rfl, ?_⟩ | refine ⟨at_map (fun _ => rfl) rfl, ?_⟩ | refine ⟨at_scs rfl, ?_⟩))⟩)
    · rw [if_neg hk5] at hof
      have q := 0
      (repeat (first | refine y_seq ?_ | refine w_region ?_ | refine y_regEnd ?_ | refine y_block ?_ | refine y_skip ?_ | refine y_condT rfl ?_ | refine w_move rfl rfl rfl ?_))
      (refine w_call rfl rfl rfl (by kernel_rfl) (Ctr.callX (hof) [0, 1] rfl (ExtOk.of rfl) rfl (by repeat (first | exact trivial | refine ⟨at_box rfl, ?_⟩ | refine ⟨at_map (fun _ => rfl) rfl, ?_⟩)) ?_); rintro _ rfl; refine ⟨_, 0, [0, 1], [some _, some _], rfl, (by repeat (first | exact trivial | refine ⟨ren_map (fun _ => rfl), ?_⟩ | refine ⟨ren_boxT rfl, ?_⟩)), rfl, rfl, ?_⟩; dsimp only [wrL])
      (repeat (first | refine y_seq ?_ | refine y_regEnd ?_ | refine w_move rfl rfl rfl ?_ | refine w_assign rfl rfl rfl ?_ | refine w_extract rfl rfl rfl rfl ?_ | refine w_storeC rfl rfl rfl rfl (F.sz _ rfl) (by first | exact rfl | (focus (skip; first | exact Tr.at_set_same _ _ _ | assumption))) rfl (by exact Nat.le_of_ble_eq_true rfl) rfl ?_ | refine w_alloc rfl rfl (F.zl _ rfl) ?_))
      by_cases hk1 : k < 1
      · rw [show decide (k < 1) = true from decide_eq_true hk1] at hmh
        refine w_draw (by kernel_rfl) (by kernel_rfl) ?_
        (repeat (first | refine dw_move rfl rfl rfl ?_ | refine dw_build rfl rfl rfl (F.ze _ rfl) (F.pl _ rfl) rfl ?_))
        refine dw_geqS rfl rfl rfl rfl ?_ ?_
        all_goals intro h2
        case refine_1 => exact absurd h2 (by omega)
        (repeat (first | refine dw_move rfl rfl rfl ?_ | refine dw_assign rfl rfl rfl ?_ | refine dw_pickF rfl rfl rfl rfl ?_ | refine dw_alloc rfl rfl (F.zl _ rfl) ?_ | refine dw_storeN rfl rfl rfl (F.sz _ rfl) rfl rfl (by decide) rfl rfl ?_ | refine dk_skip rfl rfl ?_))
        (refine dk_nil ?_); (refine ⟨by kernel_rfl, ?_, ?_⟩)
        · (repeat (first | exact trivial | refine ⟨.inl rfl, ?_⟩ | refine ⟨.inr (by (repeat (refine ⟨(by first | exact rd_build rfl (F.ze _ rfl) (F.pl _ rfl) rfl | exact rd_cmp rfl rfl (.inr (.inr (.inr (.inr (.inr ⟨rfl, (decide_eq_true (by omega)).symm⟩))))) | exact rd_cmp rfl rfl (.inr (.inr (.inr (.inl ⟨rfl, (decide_eq_true (by omega)).symm⟩)))) | exact rd_cmp rfl rfl (.inr (.inr (.inr (.inr (.inr ⟨rfl, (decide_eq_false (by omega)).symm⟩))))) | exact rd_cmp rfl rfl (.inr (.inr (.inr (.inl ⟨rfl, (decide_eq_false (by omega)).symm⟩)))) | exact rd_not rfl | exact rd_cmp rfl rfl (.inr (.inr (.inr (.inr (.inl ⟨rfl, rfl⟩))))) | exact rd_idxN (F.un _ rfl) (F.sz _ rfl) rfl rfl rfl (by omega) (by omega) (by omega) | exact rd_arith rfl rfl (.inl ⟨rfl, (Go.IntWalk.i64_in _ ⟨by omega, by omega⟩).symm⟩) | exact rd_arith rfl rfl (.inr (.inl ⟨rfl, (Go.IntWalk.i64_in _ ⟨by omega, by omega⟩).symm⟩)) | exact rd_fieldAddr (F.fo _ _ rfl rfl) rfl | exact rd_move rfl | exact rd_assign rfl | exact rd_load1 (F.ag _ rfl) rfl rfl (cell_box rfl) | exact rd_loadN (F.ag _ rfl) rfl rfl (cellsFrom_box _ 0 rfl rfl) | exact rd_extract rfl rfl | exact rd_lenSl (F.un _ rfl) rfl | exact rd_lenStr (F.un _ rfl) rfl | exact rd_nilCheck rfl | exact rd_pickT rfl rfl | exact rd_pickF rfl rfl), ?_⟩)); exact trivial), ?_⟩))
        (repeat (first | refine y_seq ?_ | refine w_region ?_ | refine y_regEnd ?_ | refine y_skip ?_ | refine y_condF rfl ?_ | refine w_move rfl rfl rfl ?_))
        (refine w_call rfl rfl rfl (by kernel_rfl) (Ctr.callX (hml) [0, 1] rfl (ExtOk.of rfl) rfl (by repeat (first | exact trivial | refine ⟨at_box rfl, ?_⟩ | refine ⟨at_map (fun _ => rfl) rfl, ?_⟩)) ?_); rintro _ rfl; refine ⟨_, 0, [0, 1], [some _, some _], rfl, (by repeat (first | exact trivial | refine ⟨ren_map (fun _ => rfl), ?_⟩ | refine ⟨ren_boxT rfl, ?_⟩)), rfl, rfl, ?_⟩; dsimp only [wrL])
        (repeat (first | refine y_seq ?_ | refine w_region ?_ | refine y_regEnd ?_ | refine w_move rfl rfl rfl ?_ | refine w_assign rfl rfl rfl ?_ | refine w_extract rfl rfl rfl rfl ?_ | refine w_storeC rfl rfl rfl rfl (F.sz _ rfl) (by first | exact rfl | (focus (skip; first | exact Tr.at_set_same _ _ _ | assumption))) rfl (by exact Nat.le_of_ble_eq_true rfl) rfl ?_ | refine w_alloc rfl rfl (F.zl _ rfl) ?_))
        (refine w_call rfl rfl rfl (by kernel_rfl) (Ctr.callX (hrl) [4] rfl (ExtOk.of rfl) rfl (by repeat (first | exact trivial | refine ⟨at_dat rfl, ?_⟩)) ?_); rintro _ rfl; refine ⟨_, 0, [4], [some _], rfl, (by repeat (first | exact trivial | refine ⟨ren_dat _ _ _ _ _ _, ?_⟩)), rfl, rfl, ?_⟩; dsimp only [wrL])
        (repeat (first | (first | refine y_seq ?_ | refine w_region ?_ | refine y_regEnd ?_ | refine w_move rfl rfl rfl ?_ | refine w_assign rfl rfl rfl ?_ | refine w_pickF rfl rfl rfl rfl ?_ | refine w_extract rfl rfl rfl rfl ?_ | refine w_storeC rfl rfl rfl rfl (F.sz _ rfl) (by first | exact rfl | (focus (skip; first | exact Tr.at_set_same _ _ _ | assumption))) rfl (by exact Nat.le_of_ble_eq_true rfl) rfl ?_ | refine w_loadBN rfl rfl rfl (F.ag _ rfl) rfl rfl ?_ | refine w_alloc rfl rfl (F.zl _ rfl) ?_) | (refine w_samePl rfl rfl rfl rfl ?_) | (refine w_sameB rfl rfl rfl rfl (F.un _ rfl) ?_)))
        (refine w_call rfl rfl rfl (by kernel_rfl) (Ctr.callX (hmh) [0, 1] rfl (ExtOk.of rfl) rfl (by repeat (first | exact trivial | refine ⟨at_box rfl, ?_⟩ | refine ⟨at_map (fun _ => rfl) rfl, ?_⟩)) ?_); rintro _ rfl; refine ⟨_, 0, [0, 1], [some _, some _], rfl, (by repeat (first | exact trivial | refine ⟨ren_map (fun _ => rfl), ?_⟩ | refine ⟨ren_boxT rfl, ?_⟩)), rfl, rfl, ?_⟩; dsimp only [wrL])
        (repeat (refine w_move rfl rfl rfl ?_))
        refine w_lssS rfl rfl rfl rfl ?_ ?_
        all_goals intro h9
        case refine_2 => exact absurd h9 (by omega)
        (repeat (first | (first | refine w_region ?_ | refine y_regEnd ?_ | refine y_inBlock ?_ | refine y_skip ?_ | refine y_condF rfl ?_ | refine w_move rfl rfl rfl ?_ | refine w_assign rfl rfl rfl ?_ | refine w_pickT rfl rfl rfl rfl ?_ | refine w_pickF rfl rfl rfl rfl ?_ | refine w_not rfl ?_ | refine w_add rfl rfl rfl rfl (by omega) (by omega) ?_) | (refine w_sameB rfl rfl rfl rfl (F.un _ rfl) ?_)))
        refine ih _ _ _ (n + 1) [3, 4] (by omega) (by omega) ?_
        (exact ⟨(ExtOk.of rfl), rfl, (by repeat (first | exact trivial | refine ⟨rfl, ?_⟩ | refine ⟨sl_eq (by first | omega | (simp only; omega)), ?_⟩)), (by repeat (first | exact trivial | refine ⟨at_dat rfl, ?_⟩ | refine ⟨at_box rfl, ?_⟩ | refine ⟨at_map (fun _ => rfl) rfl, ?_⟩ | refine ⟨at_scs rfl, ?_⟩))⟩)
      · rw [show decide (k < 1) = false from decide_eq_false hk1] at hmh
        refine w_draw (by kernel_rfl) (by kernel_rfl) ?_
        (repeat (first | refine dw_move rfl rfl rfl ?_ | refine dw_build rfl rfl rfl (F.ze _ rfl) (F.pl _ rfl) rfl ?_))
        refine dw_geqS rfl rfl rfl rfl ?_ ?_
        all_goals intro h2
        case refine_2 => exact absurd h2 (by omega)
        (repeat (refine dw_move rfl rfl rfl ?_))
        refine dw_leqS rfl rfl rfl rfl ?_ ?_
        all_goals intro h3
        case refine_1 => exact absurd h3 (by omega)
        (repeat (first | refine dw_move rfl rfl rfl ?_ | refine dw_assign rfl rfl rfl ?_ | refine dw_pickT rfl rfl rfl rfl ?_ | refine dw_pickF rfl rfl rfl rfl ?_ | refine dw_alloc rfl rfl (F.zl _ rfl) ?_ | refine dw_storeN rfl rfl rfl (F.sz _ rfl) rfl rfl (by decide) rfl rfl ?_ | refine dk_skip rfl rfl ?_))
        (refine dk_nil ?_); (refine ⟨by kernel_rfl, ?_, ?_⟩)
        · (repeat (first | exact trivial | refine ⟨.inl rfl, ?_⟩ | refine ⟨.inr (by (repeat (refine ⟨(by first | exact rd_build rfl (F.ze _ rfl) (F.pl _ rfl) rfl | exact rd_cmp rfl rfl (.inr (.inr (.inr (.inr (.inr ⟨rfl, (decide_eq_true (by omega)).symm⟩))))) | exact rd_cmp rfl rfl (.inr (.inr (.inr (.inl ⟨rfl, (decide_eq_true (by omega)).symm⟩)))) | exact rd_cmp rfl rfl (.inr (.inr (.inr (.inr (.inr ⟨rfl, (decide_eq_false (by omega)).symm⟩))))) | exact rd_cmp rfl rfl (.inr (.inr (.inr (.inl ⟨rfl, (decide_eq_false (by omega)).symm⟩)))) | exact rd_not rfl | exact rd_cmp rfl rfl (.inr (.inr (.inr (.inr (.inl ⟨rfl, rfl⟩))))) | exact rd_idxN (F.un _ rfl) (F.sz _ rfl) rfl rfl rfl (by omega) (by omega) (by omega) | exact rd_arith rfl rfl (.inl ⟨rfl, (Go.IntWalk.i64_in _ ⟨by omega, by omega⟩).symm⟩) | exact rd_arith rfl rfl (.inr (.inl ⟨rfl, (Go.IntWalk.i64_in _ ⟨by omega, by omega⟩).symm⟩)) | exact rd_fieldAddr (F.fo _ _ rfl rfl) rfl | exact rd_move rfl | exact rd_assign rfl | exact rd_load1 (F.ag _ rfl) rfl rfl (cell_box rfl) | exact rd_loadN (F.ag _ rfl) rfl rfl (cellsFrom_box _ 0 rfl rfl) | exact rd_extract rfl rfl | exact rd_lenSl (F.un _ rfl) rfl | exact rd_lenStr (F.un _ rfl) rfl | exact rd_nilCheck rfl | exact rd_pickT rfl rfl | exact rd_pickF rfl rfl), ?_⟩)); exact trivial), ?_⟩))
        (repeat (first | refine y_seq ?_ | refine w_region ?_ | refine y_regEnd ?_ | refine y_skip ?_ | refine y_condF rfl ?_ | refine w_move rfl rfl rfl ?_))
        (refine w_call rfl rfl rfl (by kernel_rfl) (Ctr.callX (hml) [0, 1] rfl (ExtOk.of rfl) rfl (by repeat (first | exact trivial | refine ⟨at_box rfl, ?_⟩ | refine ⟨at_map (fun _ => rfl) rfl, ?_⟩)) ?_); rintro _ rfl; refine ⟨_, 0, [0, 1], [some _, some _], rfl, (by repeat (first | exact trivial | refine ⟨ren_map (fun _ => rfl), ?_⟩ | refine ⟨ren_boxT rfl, ?_⟩)), rfl, rfl, ?_⟩; dsimp only [wrL])
        (repeat (first | refine y_seq ?_ | refine w_region ?_ | refine y_regEnd ?_ | refine w_move rfl rfl rfl ?_ | refine w_assign rfl rfl rfl ?_ | refine w_extract rfl rfl rfl rfl ?_ | refine w_storeC rfl rfl rfl rfl (F.sz _ rfl) (by first | exact rfl | (focus (skip; first | exact Tr.at_set_same _ _ _ | assumption))) rfl (by exact Nat.le_of_ble_eq_true rfl) rfl ?_ | refine w_alloc rfl rfl (F.zl _ rfl) ?_))
        (refine w_call rfl rfl rfl (by kernel_rfl) (Ctr.callX (hrl) [4] rfl (ExtOk.of rfl) rfl (by repeat (first | exact trivial | refine ⟨at_dat rfl, ?_⟩)) ?_); rintro _ rfl; refine ⟨_, 0, [4], [some _], rfl, (by repeat (first | exact trivial | refine ⟨ren_dat _ _ _ _ _ _, ?_⟩)), rfl, rfl, ?_⟩; dsimp only [wrL])
        (repeat (first | (first | refine y_seq ?_ | refine w_region ?_ | refine y_regEnd ?_ | refine w_move rfl rfl rfl ?_ | refine w_assign rfl rfl rfl ?_ | refine w_pickF rfl rfl rfl rfl ?_ | refine w_extract rfl rfl rfl rfl ?_ | refine w_storeC rfl rfl rfl rfl (F.sz _ rfl) (by first | exact rfl | (focus (skip; first | exact Tr.at_set_same _ _ _ | assumption))) rfl (by exact Nat.le_of_ble_eq_true rfl) rfl ?_ | refine w_loadBN rfl rfl rfl (F.ag _ rfl) rfl rfl ?_ | refine w_alloc rfl rfl (F.zl _ rfl) ?_) | (refine w_samePl rfl rfl rfl rfl ?_) | (refine w_sameB rfl rfl rfl rfl (F.un _ rfl) ?_)))
        (refine w_call rfl rfl rfl (by kernel_rfl) (Ctr.callX (hmh) [0, 1] rfl (ExtOk.of rfl) rfl (by repeat (first | exact trivial | refine ⟨at_box rfl, ?_⟩ | refine ⟨at_map (fun _ => rfl) rfl, ?_⟩)) ?_); rintro _ rfl; refine ⟨_, 0, [0, 1], [some _, some _], rfl, (by repeat (first | exact trivial | refine ⟨ren_map (fun _ => rfl), ?_⟩ | refine ⟨ren_boxT rfl, ?_⟩)), rfl, rfl, ?_⟩; dsimp only [wrL])
        (repeat (refine w_move rfl rfl rfl ?_))
        refine w_lssS rfl rfl rfl rfl ?_ ?_
        all_goals intro h9
        case refine_1 => exact absurd h9 (by omega)
        (repeat (first | (first | refine w_region ?_ | refine y_regEnd ?_ | refine y_inBlock ?_ | refine y_skip ?_ | refine y_condF rfl ?_ | refine w_move rfl rfl rfl ?_ | refine w_assign rfl rfl rfl ?_ | refine w_pickF rfl rfl rfl rfl ?_ | refine w_loadBN rfl rfl rfl (F.ag _ rfl) rfl rfl ?_ | refine w_add rfl rfl rfl rfl (by omega) (by omega) ?_) | refine w_callV (hrh) [4] rfl rfl rfl (by kernel_rfl) rfl (ExtOk.of rfl) rfl (by repeat (first | exact trivial | refine ⟨at_dat rfl, ?_⟩)) ?_ | refine w_geq rfl rfl rfl rfl ?_ | (refine w_sameB rfl rfl rfl rfl (F.un _ rfl) ?_)))
        refine ih _ _ _ (n + 1) [3, 4] (by omega) (by omega) ?_
        (exact ⟨(ExtOk.of rfl), rfl, (by repeat (first | exact trivial | refine ⟨rfl, ?_⟩ | refine ⟨sl_eq (by first | omega | (simp only; omega)), ?_⟩)), (by repeat (first | exact trivial | refine ⟨at_dat rfl, ?_⟩ | refine ⟨at_box rfl, ?_⟩ | refine ⟨at_map (fun _ => rfl) rfl, ?_⟩ | refine ⟨at_scs rfl, ?_⟩))⟩)
  · (repeat (first | (first | refine y_seq ?_ | refine w_region ?_ | refine y_regEnd ?_ | refine y_exit rfl ?_ | refine y_condF rfl ?_ | refine w_move rfl rfl rfl ?_ | refine w_assign rfl rfl rfl ?_ | refine w_pickT rfl rfl rfl rfl ?_) | refine w_callV (hlm) [0, 1, 2] rfl rfl rfl (by kernel_rfl) rfl (ExtOk.of rfl) rfl (by repeat (first | exact trivial | refine ⟨at_box rfl, ?_⟩ | refine ⟨at_map (fun _ => rfl) rfl, ?_⟩ | refine ⟨at_scs rfl, ?_⟩)) ?_))
    ((apply w_ret Try.func23 (congrArg Array.toList Try.results23)); (focus (repeat (first | exact ResIs.nil | apply ResIs.tmp rfl))); refine ⟨_, rfl, Ends.mk [] (ExtOk.of rfl) rfl rfl ?_⟩)
    exact (by repeat (first | exact trivial | refine ⟨at_box rfl, ?_⟩ | refine ⟨at_map (fun _ => rfl) rfl, ?_⟩ | refine ⟨at_scs rfl, ?_⟩))
end Go.Proofs.Ytfkfiafohcoomaa
end
section
namespace Go.Proofs.Ytfkfiafohcoomaa
open Go Go.Sy Go.Sl Go.RowKit
set_option maxRecDepth 100000 in
set_option maxHeartbeats 0 in
theorem marks_spec (ro ro2 : Bool) (a : Array Int) (t : Array Td) (p : Int × Int) : Ctr Try.prog 6 [.slu 0 0 a.size, .slu 1 0 t.size, plS p] [inR ro a, tdR ro2 t] (fun cz => cz = ⟨.sc (.bool true), [some (inR ro a), some (tdR ro2 t)]⟩) := by
  refine Ctr.at 2 rfl ?_
  refine Fnc.start Try.func6 rfl rfl ?_
  (repeat (first | refine y_seq ?_ | refine w_region ?_ | refine y_regEnd ?_ | refine w_move rfl rfl rfl ?_ | refine w_assign rfl rfl rfl ?_ | refine w_boxN rfl rfl rfl ?_ | refine w_lenSl rfl rfl rfl (F.un _ rfl) ?_))
  refine w_gtrS rfl rfl rfl rfl ?_ ?_
  all_goals intro h1
  · (repeat (first | (first | refine y_seq ?_ | refine w_region ?_ | refine y_regEnd ?_ | refine y_condT rfl ?_ | refine w_move rfl rfl rfl ?_ | refine w_assign rfl rfl rfl ?_ | refine w_pickT rfl rfl rfl rfl ?_ | refine w_not rfl ?_) | (refine w_sure known_sure rfl rfl (by kernel_rfl) ?_)))
    ((apply w_ret Try.func6 (congrArg Array.toList Try.results6)); (focus (repeat (first | exact ResIs.nil | apply ResIs.tmp rfl))); refine ⟨_, rfl, Ends.mk [] (ExtOk.of rfl) rfl rfl ?_⟩)
    exact (by repeat (first | exact trivial | refine ⟨at_dat rfl, ?_⟩))
  (repeat (first | refine w_move rfl rfl rfl ?_ | refine w_lenSl rfl rfl rfl (F.un _ rfl) ?_))
  refine w_gtrS rfl rfl rfl rfl ?_ ?_
  all_goals intro h2
  · (repeat (first | (first | refine y_seq ?_ | refine w_region ?_ | refine y_regEnd ?_ | refine y_condT rfl ?_ | refine w_assign rfl rfl rfl ?_ | refine w_pickF rfl rfl rfl rfl ?_) | (refine w_sure known_sure rfl rfl (by kernel_rfl) ?_)))
    ((apply w_ret Try.func6 (congrArg Array.toList Try.results6)); (focus (repeat (first | exact ResIs.nil | apply ResIs.tmp rfl))); refine ⟨_, rfl, Ends.mk [] (ExtOk.of rfl) rfl rfl ?_⟩)
    exact (by repeat (first | exact trivial | refine ⟨at_dat rfl, ?_⟩))
  have hm := may_spec ro a (by omega)
  have hn := new_spec ro a (by omega)
  cases hb : mayB a
  all_goals rw [hb] at hm hn
  · rw [if_neg (by decide)] at hn
    (repeat (first | refine y_seq ?_ | refine w_region ?_ | refine y_regEnd ?_ | refine y_skip ?_ | refine y_condF rfl ?_ | refine w_move rfl rfl rfl ?_ | refine w_pickF rfl rfl rfl rfl ?_))
    (refine w_call rfl rfl rfl (by kernel_rfl) (Ctr.callX (hn) [0] rfl (ExtOk.of rfl) rfl (by repeat (first | exact trivial | refine ⟨at_dat rfl, ?_⟩)) ?_); rintro _ rfl; refine ⟨_, 0, [0], [some _], rfl, (by repeat (first | exact trivial | refine ⟨ren_dat _ _ _ _ _ _, ?_⟩)), rfl, rfl, ?_⟩; dsimp only [wrL])
    (repeat (first | (first | refine y_seq ?_ | refine w_region ?_ | refine y_regEnd ?_ | refine y_condT rfl ?_ | refine w_move rfl rfl rfl ?_ | refine w_assign rfl rfl rfl ?_ | refine w_pickT rfl rfl rfl rfl ?_ | refine w_extract rfl rfl rfl rfl ?_ | refine w_isNil rfl rfl rfl rfl rfl (F.un _ rfl) rfl ?_ | refine w_notB rfl rfl rfl ?_) | refine w_callV (hm) [0] rfl rfl rfl (by kernel_rfl) rfl (ExtOk.of rfl) rfl (by repeat (first | exact trivial | refine ⟨at_dat rfl, ?_⟩)) ?_ | refine w_callV (num_spec 2) [] rfl rfl rfl (by kernel_rfl) rfl (ExtOk.of rfl) rfl trivial ?_ | refine w_eql rfl rfl rfl rfl ?_ | (refine w_sure known_sure rfl rfl (by kernel_rfl) ?_)))
    ((apply w_ret Try.func6 (congrArg Array.toList Try.results6)); (focus (repeat (first | exact ResIs.nil | apply ResIs.tmp rfl))); refine ⟨_, rfl, Ends.mk [] (ExtOk.of rfl) rfl rfl ?_⟩)
    exact (by repeat (first | exact trivial | refine ⟨at_dat rfl, ?_⟩))
  rw [if_pos rfl] at hn
  have hd0 : ∀ j, j < a.size → okAt a j := of_decide_eq_true hb
  have hrn := rnew_spec ro a (by omega) (fun j hj => (hd0 j hj).1)
  have hR0 := rel_new hd0
  have hok0 : KOk (newM a a.size) a.size := newM_ok (fun j hj => (hd0 j hj).2)
  have hlk0 := fun p => looks_spec (newM a a.size) a.size ps0 (isOf a a.size) p hok0 hR0
  have hcp := copy_spec (newM a a.size) a.size
  generalize newM a a.size = m0 at hn hR0 hok0 hlk0 hcp
  generalize isOf a a.size = is at hrn hR0 hlk0
  have hlk0p := hlk0 p
  (repeat (first | refine y_seq ?_ | refine w_region ?_ | refine y_regEnd ?_ | refine y_skip ?_ | refine y_condF rfl ?_ | refine w_move rfl rfl rfl ?_ | refine w_pickF rfl rfl rfl rfl ?_))
  (refine w_call rfl rfl rfl (by kernel_rfl) (Ctr.callX (hn) [0] rfl (ExtOk.of rfl) rfl (by repeat (first | exact trivial | refine ⟨at_dat rfl, ?_⟩)) ?_); rintro _ rfl; refine ⟨_, 2, [0, 3, 4], [some _, some _, some _], rfl, (by repeat (first | exact trivial | refine ⟨ren_dat _ _ _ _ _ _, ?_⟩ | refine ⟨ren_map (fun _ => rfl), ?_⟩ | refine ⟨ren_boxT rfl, ?_⟩)), rfl, rfl, ?_⟩; dsimp only [wrL])
  (repeat (first | (first | refine y_seq ?_ | refine w_region ?_ | refine y_regEnd ?_ | refine y_skip ?_ | refine y_condF rfl ?_ | refine w_move rfl rfl rfl ?_ | refine w_assign rfl rfl rfl ?_ | refine w_extract rfl rfl rfl rfl ?_ | refine w_notB rfl rfl rfl ?_) | refine w_callV (hm) [0] rfl rfl rfl (by kernel_rfl) rfl (ExtOk.of rfl) rfl (by repeat (first | exact trivial | refine ⟨at_dat rfl, ?_⟩)) ?_))
  (refine w_call rfl rfl rfl (by kernel_rfl) (Ctr.callX (hrn) [0] rfl (ExtOk.of rfl) rfl (by repeat (first | exact trivial | refine ⟨at_dat rfl, ?_⟩)) ?_); rintro _ rfl; refine ⟨_, 1, [0, 5], [some _, some _], rfl, (by repeat (first | exact trivial | refine ⟨ren_scs, ?_⟩ | refine ⟨ren_dat _ _ _ _ _ _, ?_⟩)), rfl, rfl, ?_⟩; dsimp only [wrL])
  (repeat (first | (first | refine y_seq ?_ | refine w_region ?_ | refine y_regEnd ?_ | refine w_move rfl rfl rfl ?_ | refine w_assign rfl rfl rfl ?_ | refine w_eqNil rfl rfl rfl rfl (F.un _ rfl) rfl ?_) | refine w_callV (num_spec 0) [] rfl rfl rfl (by kernel_rfl) rfl (ExtOk.of rfl) rfl trivial ?_))
  refine w_neqS rfl rfl rfl rfl ?_ ?_
  all_goals intro h3
  · exact absurd rfl h3
  (repeat (first | (first | refine y_seq ?_ | refine w_region ?_ | refine y_regEnd ?_ | refine y_skip ?_ | refine y_condF rfl ?_ | refine w_move rfl rfl rfl ?_ | refine w_pickF rfl rfl rfl rfl ?_ | refine w_loadBN rfl rfl rfl (F.ag _ rfl) rfl rfl ?_ | refine w_notB rfl rfl rfl ?_) | refine w_callV (hlk0p) [3, 4, 5] rfl rfl rfl (by kernel_rfl) rfl (ExtOk.of rfl) rfl (by repeat (first | exact trivial | refine ⟨at_box rfl, ?_⟩ | refine ⟨at_map (fun _ => rfl) rfl, ?_⟩ | refine ⟨at_scs rfl, ?_⟩)) ?_))
  (refine w_call rfl rfl rfl (by kernel_rfl) (Ctr.callX (hcp) [3, 4] rfl (ExtOk.of rfl) rfl (by repeat (first | exact trivial | refine ⟨at_box rfl, ?_⟩ | refine ⟨at_map (fun _ => rfl) rfl, ?_⟩)) ?_); rintro _ rfl; refine ⟨_, 2, [3, 4, 6, 7], [some _, some _, some _, some _], rfl, (by repeat (first | exact trivial | refine ⟨ren_map (fun _ => rfl), ?_⟩ | refine ⟨ren_boxT rfl, ?_⟩)), rfl, rfl, ?_⟩; dsimp only [wrL])
  (repeat (first | refine y_seq ?_ | refine w_region ?_ | refine y_regEnd ?_ | refine y_block ?_ | refine w_assign rfl rfl rfl ?_))
  refine y_loopC 8 (fun x : Nat × MkL × Array (Int × Int) => [(0, .slu 0 0 a.size), (1, .slu 1 0 t.size), (5, .ptr 2 0), (7, .ptr 3 0), (9, .ptr 5 0), (10, .ptr 6 0), (11, .sc (.int .i64 (x.1 : Int)))])
    (fun x => [some (inR ro a), some (tdR ro2 t), some (newCells 25 [.sc (.int .u64 p.1), .sc (.int .u64 p.2)]), some (newCells 65 [.mp 4]), some (marksV x.2.1 a.size), some (rfV x.2.2 is), some (newCells 65 [.mp 7]), some (marksV m0 a.size)])
    (fun x => x.1 ≤ t.size ∧ KOk x.2.1 a.size ∧ RelM x.2.1 x.2.2 is) (fun x => t.size - x.1) (0, m0, ps0) [2, 3, 4, 5, 6, 7]
    (fun _ => rfl) ⟨Nat.zero_le _, hok0, hR0⟩ ?_ (fun _ => rfl) (fun _ => rfl) ?_
  · (exact ⟨(ExtOk.of rfl), rfl, (by repeat (first | exact trivial | refine ⟨rfl, ?_⟩)), (by repeat (first | exact trivial | refine ⟨at_dat rfl, ?_⟩ | refine ⟨at_box rfl, ?_⟩ | refine ⟨at_map (fun _ => rfl) rfl, ?_⟩ | refine ⟨at_scs rfl, ?_⟩))⟩)
  rintro ⟨i, m, ps⟩ ⟨hi, hok, hR⟩ ih
  simp only at hi hok hR ih ⊢
  have hps := hR.hps
  have his := hR.his
  (repeat (first | refine y_seq ?_ | refine w_region ?_ | refine w_move rfl rfl rfl ?_ | refine w_lenSl rfl rfl rfl (F.un _ rfl) ?_))
  refine w_lssS rfl rfl rfl rfl ?_ ?_
  all_goals intro h4
  · have htl := tell_spec m a.size t[i]!.1 t[i]!.2
    have hrt := rtell_spec ps is hps his t[i]!.1 t[i]!.2
    obtain ⟨hok', _, _⟩ := tell_facts m a.size t[i]!.1 t[i]!.2 hok
    obtain ⟨heq, hR'⟩ := rel_tell hR a.size t[i]!.1 t[i]!.2
    generalize tellR m a.size t[i]!.1 t[i]!.2 = r at htl hok' heq hR'
    generalize rtellR ps is t[i]!.1 t[i]!.2 = r2 at hrt heq hR'
    obtain ⟨m', tb, te⟩ := r
    obtain ⟨ps', tb', te'⟩ := r2
    simp only [Prod.mk.injEq] at htl hrt hok' heq hR'
    obtain ⟨rfl, rfl⟩ := heq
    have hlk := looks_spec m' a.size ps' is t[i]!.2 hok' hR'
    (repeat (first | refine y_seq ?_ | refine y_regEnd ?_ | refine y_block ?_ | refine y_skip ?_ | refine y_condT rfl ?_))
    refine w_draw (by kernel_rfl) (by kernel_rfl) ?_
    (repeat (first | (first | refine dw_move rfl rfl rfl ?_ | refine dw_assign rfl rfl rfl ?_ | refine dw_extract rfl rfl rfl rfl ?_ | refine dw_fieldAddr rfl rfl rfl (F.fo _ _ rfl rfl) ?_) | refine dw_idxN (q := i) rfl rfl rfl rfl (F.un _ rfl) (F.sz _ rfl) rfl (by omega) (by omega) (by omega) ?_ | refine dw_ldF i 0 rfl rfl rfl (F.ag _ rfl) (recT) (by first | exact rfl | (focus (skip; first | exact Tr.at_set_same _ _ _ | assumption))) (by omega) (by omega) (by omega) rfl ?_ | refine dw_ldFN i 1 rfl rfl rfl (F.ag _ rfl) (recT) (by first | exact rfl | (focus (skip; first | exact Tr.at_set_same _ _ _ | assumption))) (by omega) (by omega) (by omega) rfl rfl (by omega) ?_ | refine dk_call rfl rfl rfl (by kernel_rfl) (Ctr.callY (htl) [3, 4] [3, 4] 0 [some _, some _] rfl (ExtOk.of rfl) rfl (by repeat (first | exact trivial | refine ⟨at_box rfl, ?_⟩ | refine ⟨at_map (fun _ => rfl) rfl, ?_⟩)) rfl (by repeat (first | exact trivial | refine ⟨ren_map (fun _ => rfl), ?_⟩ | refine ⟨ren_boxT rfl, ?_⟩)) rfl rfl rfl rfl) ?_))
    (refine dk_nil ?_); (refine ⟨by kernel_rfl, ?_, ?_⟩); (focus (repeat (first | exact trivial | refine ⟨.inl rfl, ?_⟩ | refine ⟨.inr (by (repeat (refine ⟨(by first | exact rd_not rfl | exact rd_cmp rfl rfl (.inr (.inr (.inr (.inr (.inl ⟨rfl, rfl⟩))))) | exact rd_idxN (F.un _ rfl) (F.sz _ rfl) rfl rfl rfl (by omega) (by omega) (by omega) | exact rd_arith rfl rfl (.inl ⟨rfl, (Go.IntWalk.i64_in _ ⟨by omega, by omega⟩).symm⟩) | exact rd_arith rfl rfl (.inr (.inl ⟨rfl, (Go.IntWalk.i64_in _ ⟨by omega, by omega⟩).symm⟩)) | exact rd_fieldAddr (F.fo _ _ rfl rfl) rfl | exact rd_move rfl | exact rd_assign rfl | exact rd_load1 (F.ag _ rfl) rfl rfl (cell_box rfl) | exact rd_loadN (F.ag _ rfl) rfl rfl (cellsFrom_box _ 0 rfl rfl) | exact rd_extract rfl rfl | exact rd_lenSl (F.un _ rfl) rfl | exact rd_lenStr (F.un _ rfl) rfl | exact rd_nilCheck rfl | exact rd_pickT rfl rfl | exact rd_pickF rfl rfl), ?_⟩)); exact trivial), ?_⟩ | refine ⟨.inl (by kernel_rfl), ?_⟩)))
    dsimp only [wrL]
    (repeat (refine y_seq ?_))
    refine w_draw (by kernel_rfl) (by kernel_rfl) ?_
    (repeat (first | (first | refine dw_move rfl rfl rfl ?_ | refine dw_assign rfl rfl rfl ?_ | refine dw_extract rfl rfl rfl rfl ?_ | refine dw_fieldAddr rfl rfl rfl (F.fo _ _ rfl rfl) ?_) | refine dw_idxN (q := i) rfl rfl rfl rfl (F.un _ rfl) (F.sz _ rfl) rfl (by omega) (by omega) (by omega) ?_ | refine dw_ldF i 0 rfl rfl rfl (F.ag _ rfl) (recT) (by first | exact rfl | (focus (skip; first | exact Tr.at_set_same _ _ _ | assumption))) (by omega) (by omega) (by omega) rfl ?_ | refine dw_ldFN i 1 rfl rfl rfl (F.ag _ rfl) (recT) (by first | exact rfl | (focus (skip; first | exact Tr.at_set_same _ _ _ | assumption))) (by omega) (by omega) (by omega) rfl rfl (by omega) ?_ | refine dk_call rfl rfl rfl (by kernel_rfl) (Ctr.callY (hrt) [5] [5] 0 [some _] rfl (ExtOk.of rfl) rfl (by repeat (first | exact trivial | refine ⟨at_scs rfl, ?_⟩)) rfl (by repeat (first | exact trivial | refine ⟨ren_scs, ?_⟩)) rfl rfl rfl rfl) ?_))
    (refine dk_nil ?_); (refine ⟨by kernel_rfl, ?_, ?_⟩); (focus (repeat (first | exact trivial | refine ⟨.inl rfl, ?_⟩ | refine ⟨.inr (by (repeat (refine ⟨(by first | exact rd_not rfl | exact rd_cmp rfl rfl (.inr (.inr (.inr (.inr (.inl ⟨rfl, rfl⟩))))) | exact rd_idxN (F.un _ rfl) (F.sz _ rfl) rfl rfl rfl (by omega) (by omega) (by omega) | exact rd_arith rfl rfl (.inl ⟨rfl, (Go.IntWalk.i64_in _ ⟨by omega, by omega⟩).symm⟩) | exact rd_arith rfl rfl (.inr (.inl ⟨rfl, (Go.IntWalk.i64_in _ ⟨by omega, by omega⟩).symm⟩)) | exact rd_fieldAddr (F.fo _ _ rfl rfl) rfl | exact rd_move rfl | exact rd_assign rfl | exact rd_load1 (F.ag _ rfl) rfl rfl (cell_box rfl) | exact rd_loadN (F.ag _ rfl) rfl rfl (cellsFrom_box _ 0 rfl rfl) | exact rd_extract rfl rfl | exact rd_lenSl (F.un _ rfl) rfl | exact rd_lenStr (F.un _ rfl) rfl | exact rd_nilCheck rfl | exact rd_pickT rfl rfl | exact rd_pickF rfl rfl), ?_⟩)); exact trivial), ?_⟩ | refine ⟨.inl (by kernel_rfl), ?_⟩)))
    dsimp only [wrL]
    (repeat (first | (first | refine y_seq ?_ | refine w_region ?_ | refine w_move rfl rfl rfl ?_) | (refine w_sameB rfl rfl rfl rfl (F.un _ rfl) ?_) | refine w_callV (num_spec te) [] rfl rfl rfl (by kernel_rfl) rfl (ExtOk.of rfl) rfl trivial ?_))
    refine w_neqS rfl rfl rfl rfl ?_ ?_
    all_goals intro h5
    · exact absurd rfl h5
    (repeat (first | (first | refine w_region ?_ | refine y_regEnd ?_ | refine y_inBlock ?_ | refine y_skip ?_ | refine y_condF rfl ?_ | refine w_move rfl rfl rfl ?_ | refine w_assign rfl rfl rfl ?_ | refine w_pickF rfl rfl rfl rfl ?_ | refine w_fieldAddr rfl rfl rfl (F.fo _ _ rfl rfl) ?_ | refine w_add rfl rfl rfl rfl (by omega) (by omega) ?_ | refine w_notB rfl rfl rfl ?_) | refine w_idxN (q := i) rfl rfl rfl rfl (F.un _ rfl) (F.sz _ rfl) rfl (by omega) (by omega) (by omega) ?_ | refine w_ldFN i 1 rfl rfl rfl (F.ag _ rfl) (recT) (by first | exact rfl | (focus (skip; first | exact Tr.at_set_same _ _ _ | assumption))) (by omega) (by omega) (by omega) rfl rfl (by omega) ?_ | refine w_callV (hlk) [3, 4, 5] rfl rfl rfl (by kernel_rfl) rfl (ExtOk.of rfl) rfl (by repeat (first | exact trivial | refine ⟨at_box rfl, ?_⟩ | refine ⟨at_map (fun _ => rfl) rfl, ?_⟩ | refine ⟨at_scs rfl, ?_⟩)) ?_))
    refine ih _ _ _ (i + 1, m', ps') [2, 3, 4, 5, 6, 7] ⟨by simp only; omega, hok', hR'⟩ (by simp only; omega) ?_
    (exact ⟨(ExtOk.of rfl), rfl, (by repeat (first | exact trivial | refine ⟨rfl, ?_⟩)), (by repeat (first | exact trivial | refine ⟨at_dat rfl, ?_⟩ | refine ⟨at_box rfl, ?_⟩ | refine ⟨at_map (fun _ => rfl) rfl, ?_⟩ | refine ⟨at_scs rfl, ?_⟩))⟩)
  · have hlk := looks_spec m a.size ps is p hok hR
    (repeat (first | refine y_seq ?_ | refine y_regEnd ?_ | refine y_exit rfl ?_ | refine y_condF rfl ?_))
    refine w_draw (by kernel_rfl) (by kernel_rfl) ?_
    (repeat (first | (first | refine dw_move rfl rfl rfl ?_ | refine dw_assign rfl rfl rfl ?_ | refine dw_pickT rfl rfl rfl rfl ?_ | refine dw_loadBN rfl rfl rfl (F.ag _ rfl) rfl rfl ?_ | refine dw_neNil rfl rfl rfl rfl (F.un _ rfl) rfl ?_) | refine dk_call rfl rfl rfl (by kernel_rfl) (Ctr.callY (hrn) [0] [0, 8] 1 [some _, some _] rfl (ExtOk.of rfl) rfl (by repeat (first | exact trivial | refine ⟨at_dat rfl, ?_⟩)) rfl (by repeat (first | exact trivial | refine ⟨ren_scs, ?_⟩ | refine ⟨ren_dat _ _ _ _ _ _, ?_⟩)) rfl rfl rfl rfl) ?_ | refine dk_call rfl rfl rfl (by kernel_rfl) (Ctr.callV (hlk0p) [6, 7, 8] rfl (ExtOk.of rfl) rfl (by repeat (first | exact trivial | refine ⟨at_box rfl, ?_⟩ | refine ⟨at_map (fun _ => rfl) rfl, ?_⟩ | refine ⟨at_scs rfl, ?_⟩)) rfl) ?_ | refine dk_call rfl rfl rfl (by kernel_rfl) (Ctr.callV (hlk) [3, 4, 5] rfl (ExtOk.of rfl) rfl (by repeat (first | exact trivial | refine ⟨at_box rfl, ?_⟩ | refine ⟨at_map (fun _ => rfl) rfl, ?_⟩ | refine ⟨at_scs rfl, ?_⟩)) rfl) ?_ | (refine dw_sure known_sure rfl rfl (by kernel_rfl) ?_)))
    (refine dk_nil ?_); (refine ⟨by kernel_rfl, ?_, ?_⟩)
    · (repeat (first | exact trivial | refine ⟨.inl rfl, ?_⟩ | refine ⟨.inr (by (repeat (refine ⟨(by first | exact rd_neNil rfl rfl (F.un _ rfl) rfl | exact rd_not rfl | exact rd_cmp rfl rfl (.inr (.inr (.inr (.inr (.inl ⟨rfl, rfl⟩))))) | exact rd_idxN (F.un _ rfl) (F.sz _ rfl) rfl rfl rfl (by omega) (by omega) (by omega) | exact rd_arith rfl rfl (.inl ⟨rfl, (Go.IntWalk.i64_in _ ⟨by omega, by omega⟩).symm⟩) | exact rd_arith rfl rfl (.inr (.inl ⟨rfl, (Go.IntWalk.i64_in _ ⟨by omega, by omega⟩).symm⟩)) | exact rd_fieldAddr (F.fo _ _ rfl rfl) rfl | exact rd_move rfl | exact rd_assign rfl | exact rd_load1 (F.ag _ rfl) rfl rfl (cell_box rfl) | exact rd_loadN (F.ag _ rfl) rfl rfl (cellsFrom_box _ 0 rfl rfl) | exact rd_extract rfl rfl | exact rd_lenSl (F.un _ rfl) rfl | exact rd_lenStr (F.un _ rfl) rfl | exact rd_nilCheck rfl | exact rd_pickT rfl rfl | exact rd_pickF rfl rfl), ?_⟩)); exact trivial), ?_⟩))
    dsimp only [wrL]
    ((apply w_ret Try.func6 (congrArg Array.toList Try.results6)); (focus (repeat (first | exact ResIs.nil | apply ResIs.tmp rfl))); refine ⟨_, rfl, Ends.mk [] (ExtOk.of rfl) rfl rfl ?_⟩)
    exact (by repeat (first | exact trivial | refine ⟨at_dat rfl, ?_⟩))
end Go.Proofs.Ytfkfiafohcoomaa
end
