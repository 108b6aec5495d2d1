/-
  PROVED: 'Rows.LockAloneSaid': understudylaw13.LockAlone returns true whatever its arguments are, and they read as they did. No condition.
-/
import Derived.Test.YtckajlllkmkniaaA7
import Derived.Test.YtckajlllkmkniaaChecked
import Derived.Test.YtckajlllkmkniaaRows
import Derived.WalkKit
import Derived.ProofKit
import Derived.OpenShut
namespace Go.Proofs.Ytckajlllkmkniaa
open Go Go.Sy Go.ChangeShapes Go.WideShapes Go.ChangeAt Go.RowKit
namespace lockAlone
set_option linter.unusedVariables false
set_option maxRecDepth 100000 in
theorem lifted (os : Os) (started : os.Started) (H : Type) (enc : TypeId × Value → H) :
    ReturnsInHanded {} Try.checked os 5 .any (Rows.lockAloneSpec.pre6 enc Try.prog Try.f5 Rows.lockAloneRow.domain false) (Rows.lockAloneSpec.post enc Try.prog Try.f5 false true false false) := by
  refine returnsInHanded_of_change (C := Try.checked) own started (by kernel_rfl) Try.func5
    (ChangeSpec.witness6 (enc := enc) (C := Try.checked) false ⟨#[], #[.slice none 0 0], []⟩ 8 (by kernel_rfl) (by kernel_rfl) (by kernel_rfl) (by kernel_rfl)) ?_
  intro W base args ds gs before hval0 hW hcnd _
  have hval : ∀ (j : Nat) t v, Try.f5.params[j]? = some t → args[j]? = some v → Value.okWide Try.prog W .any base t v := hval0
  have hW' := hW
  obtain ⟨p, q, hA0, hV, rfl, hfz, hnd⟩ := hW
  have hA : DataW.TrodAll enc Try.prog W 0 (fun _ => true) true Try.f5.params.toList args.toList ds p := hA0
  rw [Try.params5] at hA hval
  obtain ⟨v0, d0, rfl, rfl, h0⟩ := trodAll_one hA
  obtain ⟨rfl, rfl⟩ := trodVars_none hV
  clear hA0 hval0
  have hbef : p ++ ([] : List MemPlace) = p ++ [] := by simp
  have hlt : ∀ x ∈ p, x.block < W.heap.size := fun x hx => hW'.lt x (by rw [hbef]; simpa using hx)
  obtain ⟨l0, hl0⟩ := argRow_of (f := actV) (sz := 4) (F.un 22 rfl) (by kernel_rfl) (by decide) h0 (hval 0 _ _ rfl rfl) (fun n us y h => trod_act h)
  have hS : St (oldZone W) W (fun i => if i = 0 then some (argEnt 4 v0) else none) (heapO [some (actR true l0.toArray)]) 1 W := by
    refine St.init (fun id vo hv => ?_) (fun i hi => by rw [if_neg (by omega)])
    rcases id with _ | id
    · simp [heapO, Tr.at'] at hv
      subst hv
      exact ⟨rfl, _, rfl, hl0.lies (fun _ => rfl) (by decide) _ _⟩
    · simp [heapO, Tr.at'] at hv
  have hF := alone_s (H := heapO [some (actR true l0.toArray)]) (nx := 1) (r := 0) (ro := true) l0.toArray rfl (argRow_le hl0)
  have hargs : SV.concL (fun i => if i = 0 then some (argEnt 4 v0) else none) [.slu 0 0 l0.toArray.size] = some [v0] :=
    concL_cons_mk (hl0.conc rfl) rfl
  refine (Fnc.calls hF hS hargs).mono fun x W' ⟨r, hr, e', v, _, hS', hv, hx⟩ => ?_
  rw [hr] at hv
  obtain rfl : Value.bool true = v := by simpa [SV.conc] using hv
  subst hx
  have hg := below_of hS'.below
  have hstay : ∀ {t : TypeId} {v : Value} {d : DataW H} {ps : List MemPlace} (sp : Nat → Bool), Try.prog.readableRec t = true → t < Try.prog.types.size → DataW.Trod enc Try.prog W 0 (fun _ => true) true t v d ps → (∀ x ∈ ps, x ∈ p) → (∀ x ∈ p, sp x.block = true) → DataW.Trod enc Try.prog W' 0 sp true t v d ps :=
    fun sp hr hrow h hin hsp => WideElems.Trod_stays laid hr hrow h (fun x hx => hg.same (hlt x (hin x hx))) (fun x hx => hsp x (hin x hx))
  exact ⟨_, rfl, Go.Sl.post_new (pa := p) (pv := []) hW' hg hbef (fun _ _ _ => (trodAll_cons_mk (shut_bool Try.underlying4 _) trodAll_mk0))
    (fun sp hsp => by
      have hsp' : ∀ x ∈ p, sp x.block = true := fun x hx => hsp x (by rw [hbef]; simpa using hx)
      rw [Try.params5]
      exact trodAll_mk1 (hstay sp (by kernel_rfl) (of_decide_eq_true (by kernel_rfl)) h0 (fun x hx => by simp [hx]) hsp'))
    (fun _ _ => rfl)
    (ok_one (by kernel_rfl) rfl (okWide_bool_mk Try.underlying4 _))⟩

theorem over : Rows.lockAloneRow.holds Try.pinned (OpenSpec.ofChange Rows.lockAloneSpec) :=
  OpenClaim.holds_of_wide 5 Try.f5 rfl rfl rfl rfl rfl rfl rfl ⟨rfl, rfl, rfl, rfl, rfl⟩ rfl rfl rfl rfl rfl (by kernel_rfl) Try.func5 (by kernel_rfl)
    (of_decide_eq_true (by kernel_rfl)) (by unfold Func.isWrapper; first | (rw [if_pos (by decide +kernel)]; kernel_rfl) | (rw [if_neg (by decide +kernel)]; exact ⟨rfl, rfl⟩))
    (fun os started H enc _ => lifted os started H enc)

/-- ████ THE STATEMENT ████ -/
theorem proved : Rows.LockAloneSaid :=
  over
#print axioms proved
end lockAlone
end Go.Proofs.Ytckajlllkmkniaa
