/-
  PROVED: 'Rows.HeapBytesSaid': understudylaw11.HeapBytes returns true whatever its arguments are, and they read as they did. No condition.
-/
import Derived.Test.YtdpjbpnemjdhfaaV6
import Derived.Test.YtdpjbpnemjdhfaaRows
namespace Go.Proofs.Ytdpjbpnemjdhfaa
open Go Go.Sy Go.ChangeShapes Go.WideShapes Go.ChangeAt Go.RowKit
namespace heapBytes
set_option linter.unusedVariables false
abbrev rowB (l : List UInt8) : VO := dat true l.length 1 5 (byV l)
theorem lies_row {W : World} {v : Value} {l : List UInt8} (h : ArgRow W 1 bV v l) (e : Env) : Lies (oldZone W) W e (rowB l) (argEnt 1 v) := by
  have := h.lies (fun _ => rfl) (by decide) 5 e
  rwa [show l.flatMap bV = byV l from by_flat l] at this
set_option maxRecDepth 100000 in
theorem lifted (os : Os) (started : os.Started) (H : Type) (enc : TypeId × Value → H) :
    ReturnsInHanded {} Try.checked os 3 .any (Rows.heapBytesSpec.pre6 enc Try.prog Try.f3 Rows.heapBytesRow.domain false) (Rows.heapBytesSpec.post enc Try.prog Try.f3 false true false false) := by
  refine returnsInHanded_of_change (C := Try.checked) own started (by kernel_rfl) Try.func3
    (ChangeSpec.witness6 (enc := enc) (C := Try.checked) false ⟨#[], #[.agg #[.slice none 0 0, .slice none 0 0, .int .u64 0, .int .u64 0], .slice none 0 0], []⟩ 8 (by kernel_rfl) (by kernel_rfl) (by kernel_rfl) (by kernel_rfl)) ?_
  intro W base args ds gs before hval0 hW hcnd _
  have hval : ∀ (j : Nat) t v, Try.f3.params[j]? = some t → args[j]? = some v → Value.okWide Try.prog W .any base t v := hval0
  have hW' := hW
  obtain ⟨p, q, hA0, hV, rfl, hfz, hnd⟩ := hW
  have hA : DataW.TrodAll enc Try.prog W 0 (fun _ => true) true Try.f3.params.toList args.toList ds p := hA0
  rw [Try.params3] at hA hval
  obtain ⟨v0, v1, d0, d1, p0, p1, rfl, rfl, rfl, h0, h1⟩ := trodAll_two hA
  obtain ⟨rfl, rfl⟩ := trodVars_none hV
  clear hA0 hval0
  have hbef : p0 ++ p1 ++ ([] : List MemPlace) = p0 ++ p1 ++ [] := by simp
  have hlt : ∀ x ∈ p0 ++ p1, x.block < W.heap.size := fun x hx => hW'.lt x (by rw [hbef]; simpa using hx)
  obtain ⟨k, u, lk, lw, x, y, rfl, hk, hu⟩ := arg_ver h0 (hval 0 _ _ rfl rfl)
  obtain ⟨l, hl⟩ := argRow_of (f := bV) (sz := 1) (F.un 22 rfl) (by kernel_rfl) (by decide) h1 (hval 1 _ _ rfl rfl) (fun n us y h => trod_u8 h)
  have hS : St (oldZone W) W (fun i => if i = 0 then some (argEnt 1 k) else if i = 1 then some (argEnt 1 u) else if i = 2 then some (argEnt 1 v1) else none) (heapO [some (rowB lk), some (rowB lw), some (rowB l)]) 3 W := by
    refine St.init (fun id vo hv => ?_) (fun i hi => by rw [if_neg (by omega), if_neg (by omega), if_neg (by omega)])
    rcases id with _ | _ | _ | id
    · simp [heapO, Tr.at'] at hv
      subst hv
      exact ⟨rfl, _, rfl, lies_row hk _⟩
    · simp [heapO, Tr.at'] at hv
      subst hv
      exact ⟨rfl, _, rfl, lies_row hu _⟩
    · simp [heapO, Tr.at'] at hv
      subst hv
      exact ⟨rfl, _, rfl, lies_row hl _⟩
    · simp [heapO, Tr.at'] at hv
  have hF := heapBytes_s (H := heapO [some (rowB lk), some (rowB lw), some (rowB l)]) (nx := 3) (r := 2) (ro := true) (v := (lk, lw, x, y)) (l := l) ⟨.slu 0 0 lk.length, .slu 1 0 lw.length, rfl, bs_row rfl rfl, bs_row rfl rfl⟩ rfl
  have hargs : SV.concL (fun i => if i = 0 then some (argEnt 1 k) else if i = 1 then some (argEnt 1 u) else if i = 2 then some (argEnt 1 v1) else none) [verS (.slu 0 0 lk.length) (.slu 1 0 lw.length) x y, .slu 2 0 l.length] = some [.agg #[k, u, .int .u64 (x : Int), .int .u64 (y : Int)], v1] := by
    refine concL_cons_mk ?_ (concL_cons_mk (hl.conc rfl) rfl)
    have e : SV.concL (fun i => if i = 0 then some (argEnt 1 k) else if i = 1 then some (argEnt 1 u) else if i = 2 then some (argEnt 1 v1) else none) (verC (.slu 0 0 lk.length) (.slu 1 0 lw.length) x y) = some [k, u, .int .u64 (x : Int), .int .u64 (y : Int)] := concL_cons_mk (hk.conc rfl) (concL_cons_mk (hu.conc rfl) rfl)
    show (SV.concL _ (verC (.slu 0 0 lk.length) (.slu 1 0 lw.length) x y)).map _ = _
    rw [e]
    rfl
  refine (Fnc.calls hF hS hargs).mono fun x W' ⟨r, hr, e', v, _, hS', hv, hx⟩ => ?_
  rw [hr] at hv
  obtain rfl : Value.bool true = v := by simpa [SV.conc] using hv
  subst hx
  have hg := below_of hS'.below
  have hstay : ∀ {t : TypeId} {v : Value} {d : DataW H} {ps : List MemPlace} (sp : Nat → Bool), Try.prog.readableRec t = true → t < Try.prog.types.size → DataW.Trod enc Try.prog W 0 (fun _ => true) true t v d ps → (∀ x ∈ ps, x ∈ p0 ++ p1) → (∀ x ∈ p0 ++ p1, sp x.block = true) → DataW.Trod enc Try.prog W' 0 sp true t v d ps :=
    fun sp hr hrow h hin hsp => WideElems.Trod_stays laid hr hrow h (fun x hx => hg.same (hlt x (hin x hx))) (fun x hx => hsp x (hin x hx))
  exact ⟨_, rfl, Go.Sl.post_new (pa := p0 ++ p1) (pv := []) hW' hg hbef (fun _ _ _ => (trodAll_cons_mk (shut_bool Try.underlying4 _) trodAll_mk0))
    (fun sp hsp => by
      have hsp' : ∀ x ∈ p0 ++ p1, sp x.block = true := fun x hx => hsp x (by rw [hbef]; simpa using hx)
      rw [Try.params3]
      exact trodAll_mk2 (hstay sp (by kernel_rfl) (of_decide_eq_true (by kernel_rfl)) h0 (fun x hx => by simp [hx]) hsp') (hstay sp (by kernel_rfl) (of_decide_eq_true (by kernel_rfl)) h1 (fun x hx => by simp [hx]) hsp'))
    (fun _ _ => rfl)
    (ok_one (by kernel_rfl) rfl (okWide_bool_mk Try.underlying4 _))⟩

theorem over : Rows.heapBytesRow.holds Try.pinned (OpenSpec.ofChange Rows.heapBytesSpec) :=
  OpenClaim.holds_of_wide 3 Try.f3 rfl rfl rfl rfl rfl rfl rfl ⟨rfl, rfl, rfl, rfl, rfl⟩ rfl rfl rfl rfl rfl (by kernel_rfl) Try.func3 (by kernel_rfl)
    (of_decide_eq_true (by kernel_rfl)) (by unfold Func.isWrapper; first | (rw [if_pos (by decide +kernel)]; kernel_rfl) | (rw [if_neg (by decide +kernel)]; exact ⟨rfl, rfl⟩))
    (fun os started H enc _ => lifted os started H enc)

/-- ████ THE STATEMENT ████ -/
theorem proved : Rows.HeapBytesSaid :=
  over
#print axioms proved
end heapBytes
end Go.Proofs.Ytdpjbpnemjdhfaa
