/-
  PROVED: 'Rows.HeapTellsSaid': understudylaw11.HeapTells returns true whatever its arguments are, and they read as they did. No condition.
-/
import Derived.Test.YtnhmbonmlfeifaaGreatT9
import Derived.Test.YtnhmbonmlfeifaaGreatRows
set_option maxRecDepth 100000
set_option maxHeartbeats 0
namespace Go.Proofs.YtnhmbonmlfeifaaGreat
open Go Go.Sy Go.ChangeShapes Go.WideShapes Go.ChangeAt Go.RowKit
namespace heapTells
set_option linter.unusedVariables false
theorem lifted(os:Os)(started:os.Started)(H:Type)(enc:TypeId×Value→H) :
 ReturnsInHanded {} Tryz.checked os 6 .any (Rows.heapTellsSpec.pre6 enc Tryz.prog Tryz.f6 Rows.heapTellsRow.domain false) (Rows.heapTellsSpec.post enc Tryz.prog Tryz.f6 false true false false):=by
 refine returnsInHanded_of_change (C:=Tryz.checked) own started (by kernel_rfl) Tryz.func6
  (ChangeSpec.witness6 (enc:=enc) (C:=Tryz.checked) false ⟨#[],#[.slice none 0 0,.int .i64 0],[]⟩ 8 (by kernel_rfl) (by kernel_rfl) (by kernel_rfl) (by kernel_rfl)) ?_
 intro W base args ds gs before hval0 hW hcnd _
 have hval: ∀ (j:Nat) t v,Tryz.f6.params[j]? =some t→args[j]? =some v→Value.okWide Tryz.prog W .any base t v:=hval0
 have hW':=hW
 obtain⟨p,q,hA0,hV,rfl,hfz,hnd⟩:=hW
 have hA:DataW.TrodAll enc Tryz.prog W 0 (fun _=>true) true Tryz.f6.params.toList args.toList ds p:=hA0
 rw [Tryz.params6] at hA hval
 obtain⟨v0,v1,d0,d1,p0,p1,rfl,rfl,rfl,h0,h1⟩:=trodAll_two hA
 obtain⟨rfl,rfl⟩:=trodVars_none hV
 clear hA0 hval0
 have hbef:p0 ++ p1 ++ ([]:List MemPlace)=p0 ++ p1 ++ []:=by simp
 have hlt: ∀ x∈p0 ++ p1,x.block<W.heap.size:=fun x hx=>hW'.lt x (by rw [hbef];simpa using hx)
 obtain⟨L,hL⟩:=AI (f:=fun a:AcA W=>actU a.1) (sz:=10) (F.un 22 rfl) (by kernel_rfl) (by decide) h0 (hval 0 _ _ rfl rfl) (fun n us y h=>A2 h)
 have hvk:=hval 1 _ _ rfl rfl
 obtain⟨k,rfl⟩:=okWide_int (F.un 3 rfl) hvk
 have hk : -9223372036854775808≤k∧k≤9223372036854775807:=by
  simpa [Value.okWide,Cell.okWide,Cell.ok,F.un 3 rfl,IntKind.has,IntKind.min,IntKind.max,show IntKind.i64.signed=true from rfl,show IntKind.i64.bits=64 from rfl] using hvk
 have hS:=DK ([]:List (XtA W)) L hL
 have hF:=uJ (H:=lN ([]:List (XtA W)) L) (nx:=1+0+2*L.length) (r:=0) (ro:=true) (ls:=kw 1 0 L) (k:=k) rfl (by rw [iT];exact qu hL) (EV [] L) hk
 rw [iT] at hF
 have hargs:SV.aK (Ak ([]:List (XtA W)) L v0) [.slu 0 0 L.length,.sc (.int .i64 k)]=some [v0,.int .i64 k]:=bS (hL.conc rfl) (bS rfl rfl)
 refine(Fnc.calls hF hS hargs).mono fun x W' ⟨r,hr,e',v,_,hS',hv,hx⟩=>?_
 rw [hr] at hv
 obtain rfl:Value.bool true=v:=by simpa [SV.conc] using hv
 subst hx
 have hg:=Ch hS'.below
 have hstay: ∀ {t:TypeId} {v:Value} {d:DataW H} {ps:List MemPlace} (sp:Nat→Bool),Tryz.prog.readableRec t=true→t<Tryz.prog.types.size→DataW.Trod enc Tryz.prog W 0 (fun _=>true) true t v d ps→(∀ x∈ps,x∈p0 ++ p1)→(∀ x∈p0 ++ p1,sp x.block=true)→DataW.Trod enc Tryz.prog W' 0 sp true t v d ps:=
  fun sp hr hrow h hin hsp=>WideElems.Trod_stays laidH hr hrow h (fun x hx=>hg.same (hlt x (hin x hx))) (fun x hx=>hsp x (hin x hx))
 exact⟨_,rfl,Go.Sl.post_new (pa:=p0 ++ p1) (pv:= []) hW' hg hbef (fun _ _ _=>(trodAll_cons_mk (shut_bool Tryz.underlying4 _) trodAll_mk0))
  (fun sp hsp=>by
    have hsp': ∀ x∈p0 ++ p1,sp x.block=true:=fun x hx=>hsp x (by rw [hbef];simpa using hx)
    rw [Tryz.params6]
    exact trodAll_mk2 (hstay sp (by kernel_rfl) (J7 (by kernel_rfl)) h0 (fun x hx=>by simp [hx]) hsp') (hstay sp (by kernel_rfl) (J7 (by kernel_rfl)) h1 (fun x hx=>by simp [hx]) hsp'))
  (fun _ _=>rfl)
  (ok_one (by kernel_rfl) rfl (okWide_bool_mk Tryz.underlying4 _))⟩
theorem over:Rows.heapTellsRow.holds Tryz.pinned (OpenSpec.ofChange Rows.heapTellsSpec):=
 OpenClaim.holds_of_wide 6 Tryz.f6 rfl rfl rfl rfl rfl rfl rfl ⟨rfl,rfl,rfl,rfl,rfl⟩ rfl rfl rfl rfl rfl (by kernel_rfl) Tryz.func6 (by kernel_rfl)
  (J7 (by kernel_rfl)) (by unfold Func.isWrapper;first|(rw [JW (by decide +kernel)];kernel_rfl)|(rw [JV (by decide +kernel)];exact⟨rfl,rfl⟩))
  (fun os started H enc _=>lifted os started H enc)
theorem proved:Rows.HeapTellsSaid:=
 over
#print axioms proved
end heapTells
end Go.Proofs.YtnhmbonmlfeifaaGreat
