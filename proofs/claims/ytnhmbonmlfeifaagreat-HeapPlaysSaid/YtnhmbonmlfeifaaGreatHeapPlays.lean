/-
  PROVED: 'Rows.HeapPlaysSaid': understudylaw11.HeapPlays returns true whatever its arguments are, and they read as they did. No condition.
-/
import Derived.Test.YtnhmbonmlfeifaaGreatV9
import Derived.Test.YtnhmbonmlfeifaaGreatRows
set_option maxRecDepth 100000
set_option maxHeartbeats 0
namespace Go.Proofs.YtnhmbonmlfeifaaGreat
open Go Go.Sy Go.ChangeShapes Go.WideShapes Go.ChangeAt Go.RowKit
namespace heapPlays
set_option linter.unusedVariables false
theorem lifted(os:Os)(started:os.Started)(H:Type)(enc:TypeId×Value→H) :
 ReturnsInHanded {} Tryz.checked os 4 .any (Rows.heapPlaysSpec.pre6 enc Tryz.prog Tryz.f4 Rows.heapPlaysRow.domain false) (Rows.heapPlaysSpec.post enc Tryz.prog Tryz.f4 false true false false):=by
 refine returnsInHanded_of_change (C:=Tryz.checked) own started (by kernel_rfl) Tryz.func4
  (ChangeSpec.witness6 (enc:=enc) (C:=Tryz.checked) false ⟨#[],#[.slice none 0 0],[]⟩ 8 (by kernel_rfl) (by kernel_rfl) (by kernel_rfl) (by kernel_rfl)) ?_
 intro W base args ds gs before hval0 hW hcnd _
 have hval: ∀ (j:Nat) t v,Tryz.f4.params[j]? =some t→args[j]? =some v→Value.okWide Tryz.prog W .any base t v:=hval0
 have hW':=hW
 obtain⟨p,q,hA0,hV,rfl,hfz,hnd⟩:=hW
 have hA:DataW.TrodAll enc Tryz.prog W 0 (fun _=>true) true Tryz.f4.params.toList args.toList ds p:=hA0
 rw [Tryz.params4] at hA hval
 obtain⟨v0,d0,rfl,rfl,h0⟩:=trodAll_one hA
 obtain⟨rfl,rfl⟩:=trodVars_none hV
 clear hA0 hval0
 have hbef:p ++ ([]:List MemPlace)=p ++ []:=by simp
 have hlt: ∀ x∈p,x.block<W.heap.size:=fun x hx=>hW'.lt x (by rw [hbef];simpa using hx)
 obtain⟨L,hL⟩:=z6 (f:=fun a:AcA W=>actU a.1) (sz:=10) (F.un 22 rfl) (by kernel_rfl) (by decide) h0 (hval 0 _ _ rfl rfl) (fun n us y h=>Ar h)
 have hS:=C7 ([]:List (XtA W)) L hL
 have hF:=ud (H:=lq ([]:List (XtA W)) L) (nx:=1+0+2*L.length) (r:=0) (ro:=true) (ls:=jW 1 0 L) rfl (by rw [iF];exact pT hL) (Ed [] L)
 rw [iF] at hF
 have hargs:SV.aJ (zH ([]:List (XtA W)) L v0) [.slu 0 0 L.length]=some [v0]:=b7 (hL.conc rfl) rfl
 refine(Fnc.calls hF hS hargs).mono fun x W' ⟨r,hr,e',v,_,hS',hv,hx⟩=>?_
 rw [hr] at hv
 obtain rfl:Value.bool true=v:=by simpa [SV.conc] using hv
 subst hx
 have hg:=BD hS'.below
 have hstay: ∀ {t:TypeId} {v:Value} {d:DataW H} {ps:List MemPlace} (sp:Nat→Bool),Tryz.prog.readableRec t=true→t<Tryz.prog.types.size→DataW.Trod enc Tryz.prog W 0 (fun _=>true) true t v d ps→(∀ x∈ps,x∈p)→(∀ x∈p,sp x.block=true)→DataW.Trod enc Tryz.prog W' 0 sp true t v d ps:=
  fun sp hr hrow h hin hsp=>WideElems.Trod_stays laidH hr hrow h (fun x hx=>hg.same (hlt x (hin x hx))) (fun x hx=>hsp x (hin x hx))
 exact⟨_,rfl,Go.Sl.post_new (pa:=p) (pv:= []) hW' hg hbef (fun _ _ _=>(trodAll_cons_mk (shut_bool Tryz.underlying4 _) trodAll_mk0))
  (fun sp hsp=>by
    have hsp': ∀ x∈p,sp x.block=true:=fun x hx=>hsp x (by rw [hbef];simpa using hx)
    rw [Tryz.params4]
    exact trodAll_mk1 (hstay sp (by kernel_rfl) (Jp (by kernel_rfl)) h0 (fun x hx=>by simp [hx]) hsp'))
  (fun _ _=>rfl)
  (ok_one (by kernel_rfl) rfl (okWide_bool_mk Tryz.underlying4 _))⟩
theorem over:Rows.heapPlaysRow.holds Tryz.pinned (OpenSpec.ofChange Rows.heapPlaysSpec):=
 OpenClaim.holds_of_wide 4 Tryz.f4 rfl rfl rfl rfl rfl rfl rfl ⟨rfl,rfl,rfl,rfl,rfl⟩ rfl rfl rfl rfl rfl (by kernel_rfl) Tryz.func4 (by kernel_rfl)
  (Jp (by kernel_rfl)) (by unfold Func.isWrapper;first|(rw [Je (by decide +kernel)];kernel_rfl)|(rw [Jd (by decide +kernel)];exact⟨rfl,rfl⟩))
  (fun os started H enc _=>lifted os started H enc)
theorem proved:Rows.HeapPlaysSaid:=
 over
#print axioms proved
end heapPlays
end Go.Proofs.YtnhmbonmlfeifaaGreat
