/-
  PROVED: 'Rows.DiskBackSaid': understudylaw03.DiskBack returns true whatever its arguments are, and they read as they did. No condition.
-/
import Derived.Test.YtbmekelkddllkaaB9
import Derived.Test.YtbmekelkddllkaaRows
import Derived.SizedLaws
set_option maxRecDepth 100000
set_option maxHeartbeats 0
namespace Go.Proofs.Ytbmekelkddllkaa
open Go Go.Sy Go.ChangeShapes Go.WideShapes Go.ChangeAt Go.RowKit
namespace diskBack
set_option linter.unusedVariables false
theorem lifted(os:Os)(started:os.Started)(H:Type)(enc:TypeId×Value→H) :
 ReturnsInHanded {} Try.checked os 4 .any (Rows.diskBackSpec.pre6 enc Try.prog Try.f4 Rows.diskBackRow.domain false) (Rows.diskBackSpec.post enc Try.prog Try.f4 false true false false):=by
 refine returnsInHanded_of_change_sized (C:=Try.checked) own started (by kernel_rfl) Try.func4
  (ChangeSpec.witness6 (enc:=enc) (C:=Try.checked) false ⟨#[],#[.slice none 0 0,.slice none 0 0,.string ⟨#[]⟩,.int .i64 0],[]⟩ 8 (by kernel_rfl) (by kernel_rfl) (by kernel_rfl) (by kernel_rfl)) ?_
 intro W base args ds gs before hval0 hW hcnd hsz0 _
 have hval: ∀ (j:Nat) t v,Try.f4.params[j]? =some t→args[j]? =some v→Value.okWide Try.prog W .any base t v:=hval0
 have hW':=hW
 obtain⟨p,q,hA0,hV,rfl,hfz,hnd⟩:=hW
 have hA:DataW.TrodAll enc Try.prog W 0 (fun _=>true) true Try.f4.params.toList args.toList ds p:=hA0
 have hsz:(DataW.weightsEach Try.prog (Try.f4.params.toList ++ Rows.diskBackSpec.plain.varTypes Try.prog) (ds ++ gs)).all (·≤reachBytes)=true:=hsz0
 rw [Try.params4] at hA hval hsz
 obtain⟨v0,v1,v2,v3,d0,d1,d2,d3,p0,p1,p2,p3,rfl,rfl,rfl,h0,h1,h2,h3⟩:=trodAll_four hA
 obtain⟨rfl,rfl⟩:=trodVars_none hV
 clear hA0 hval0 hsz0
 have hbef:p0 ++ p1 ++ p2 ++ p3 ++ ([]:List MemPlace)=p0 ++ (p1 ++ (p2 ++ p3)) ++ []:=by simp
 have hlt: ∀ x∈p0 ++ (p1 ++ (p2 ++ p3)),x.block<W.heap.size:=fun x hx=>hW'.lt x (by rw [hbef];simpa using hx)
 obtain⟨L,hL⟩:=pc (f:=fun a:StA W=>stU a.1) (sz:=6) (F.un 22 rfl) (by kernel_rfl) (by decide) h0 (hval 0 _ _ rfl rfl) (fun n us y h=>sL h)
 obtain⟨pk,hpk⟩:=pc (f:=iVi) (sz:=1) (F.un 33 rfl) (by kernel_rfl) (by decide) h1 (hval 1 _ _ rfl rfl) (fun n us y h=>(fg (F.un 3 rfl) h).imp fun _ hx=>hx.1)
 obtain⟨s,rfl,rfl⟩:=x3 h2 (hval 2 _ _ rfl rfl)
 have hname:=sized_string hsz (j:=2) rfl rfl
 obtain⟨k,rfl⟩:=okWide_int (F.un 3 rfl) (hval 3 _ _ rfl rfl)
 have hS:=xj (pv:=v1) (pk:=pk) hL hpk
 obtain⟨pv,hpv,hpc⟩:=uK (v0:=v0) L hpk
 have hF:=y5 (H:=oM L pk) (nx:=2+L.length) (r:=0) (ro:=true) (ls:=fh 0 L) pv pk s k rfl (vB L pk) (by rw [dV];exact mi hL) (uG L) hpv (mi hpk) (by(have h1:reachBytes=140737488351232:=rfl);(have h2:s.data.toList.length=s.size:=(by simp));omega)
 rw [dV] at hF
 have hargs:SV.aM (xP v0 v1 L) [.slu 0 0 L.length,pv,.sc (.string s),.sc (.int .i64 k)]=some [v0,v1,.string s,.int .i64 k]:=
  bo (hL.conc rfl) (bo hpc (bo rfl (bo rfl rfl)))
 refine(Fnc.calls hF hS hargs).mono fun x W' ⟨r,hr,e',v,_,hS',hv,hx⟩=>?_
 rw [hr] at hv
 obtain rfl:Value.bool true=v:=by simpa [SV.conc] using hv
 subst hx
 have hg:=we hS'.below
 have hstay: ∀ {t:TypeId} {v:Value} {d:DataW H} {ps:List MemPlace} (sp:Nat→Bool),Try.prog.readableRec t=true→t<Try.prog.types.size→DataW.Trod enc Try.prog W 0 (fun _=>true) true t v d ps→(∀ x∈ps,x∈p0 ++ (p1 ++ (p2 ++ p3)))→(∀ x∈p0 ++ (p1 ++ (p2 ++ p3)),sp x.block=true)→DataW.Trod enc Try.prog W' 0 sp true t v d ps:=
  fun sp hr hrow h hin hsp=>WideElems.Trod_stays laid hr hrow h (fun x hx=>hg.same (hlt x (hin x hx))) (fun x hx=>hsp x (hin x hx))
 exact⟨_,rfl,Go.Sl.post_new (pa:=p0 ++ (p1 ++ (p2 ++ p3))) (pv:= []) hW' hg hbef (fun _ _ _=>(trodAll_cons_mk (shut_bool Try.underlying4 _) trodAll_mk0))
  (fun sp hsp=>by
    have hsp': ∀ x∈p0 ++ (p1 ++ (p2 ++ p3)),sp x.block=true:=fun x hx=>hsp x (by rw [hbef];simpa using hx)
    rw [Try.params4]
    exact trodAll_mk4 (hstay sp (by kernel_rfl) (of_decide_eq_true (by kernel_rfl)) h0 (fun x hx=>by simp [hx]) hsp') (hstay sp (by kernel_rfl) (of_decide_eq_true (by kernel_rfl)) h1 (fun x hx=>by simp [hx]) hsp') (hstay sp (by kernel_rfl) (of_decide_eq_true (by kernel_rfl)) h2 (fun x hx=>by simp [hx]) hsp') (hstay sp (by kernel_rfl) (of_decide_eq_true (by kernel_rfl)) h3 (fun x hx=>by simp [hx]) hsp'))
  (fun _ _=>rfl)
  (ok_one (by kernel_rfl) rfl (okWide_bool_mk Try.underlying4 _))⟩
theorem over:Rows.diskBackRow.holds Try.pinned (OpenSpec.ofChange Rows.diskBackSpec):=
 OpenClaim.holds_of_wide 4 Try.f4 rfl rfl rfl rfl rfl rfl rfl ⟨rfl,rfl,rfl,rfl,rfl⟩ rfl rfl rfl rfl rfl (by kernel_rfl) Try.func4 (by kernel_rfl)
  (of_decide_eq_true (by kernel_rfl)) (by unfold Func.isWrapper;first|(rw [if_pos (by decide +kernel)];kernel_rfl)|(rw [if_neg (by decide +kernel)];exact⟨rfl,rfl⟩))
  (fun os started H enc _=>lifted os started H enc)
theorem proved:Rows.DiskBackSaid:=
 over
#print axioms proved
end diskBack
end Go.Proofs.Ytbmekelkddllkaa
