/-
  PROVED: 'Rows.DiskRoomsSaid': understudylaw03.DiskRooms returns true whatever its arguments are, and they read as they did. No condition.
-/
import Derived.Test.YtbmekelkddllkaaG9
import Derived.Test.YtbmekelkddllkaaRows
import Derived.SizedLaws
set_option maxRecDepth 100000
set_option maxHeartbeats 0
namespace Go.Proofs.Ytbmekelkddllkaa
open Go Go.Sy Go.ChangeShapes Go.WideShapes Go.ChangeAt Go.RowKit
namespace diskRooms
set_option linter.unusedVariables false
theorem lifted(os:Os)(started:os.Started)(H:Type)(enc:TypeId×Value→H) :
 ReturnsInHanded {} Try.checked os 3 .any (Rows.diskRoomsSpec.pre6 enc Try.prog Try.f3 Rows.diskRoomsRow.domain false) (Rows.diskRoomsSpec.post enc Try.prog Try.f3 false true false false):=by
 refine returnsInHanded_of_change_sized (C:=Try.checked) own started (by kernel_rfl) Try.func3
  (ChangeSpec.witness6 (enc:=enc) (C:=Try.checked) false ⟨#[],#[.int .i64 0,.slice none 0 0],[]⟩ 8 (by kernel_rfl) (by kernel_rfl) (by kernel_rfl) (by kernel_rfl)) ?_
 intro W base args ds gs before hval0 hW hcnd hsz0 _
 have hval: ∀ (j:Nat) t v,Try.f3.params[j]? =some t→args[j]? =some v→Value.okWide Try.prog W .any base t v:=hval0
 have hW':=hW
 obtain⟨p,q,hA0,hV,rfl,hfz,hnd⟩:=hW
 have hA:DataW.TrodAll enc Try.prog W 0 (fun _=>true) true Try.f3.params.toList args.toList ds p:=hA0
 have hsz:(DataW.weightsEach Try.prog (Try.f3.params.toList ++ Rows.diskRoomsSpec.plain.varTypes Try.prog) (ds ++ gs)).all (·≤reachBytes)=true:=hsz0
 rw [Try.params3] at hA hval hsz
 obtain⟨v0,v1,d0,d1,p0,p1,rfl,rfl,rfl,h0,h1⟩:=trodAll_two hA
 obtain⟨rfl,rfl⟩:=trodVars_none hV
 clear hA0 hval0 hsz0
 have hbef:p0 ++ p1 ++ ([]:List MemPlace)=p0 ++ p1 ++ []:=by simp
 have hlt: ∀ x∈p0 ++ p1,x.block<W.heap.size:=fun x hx=>hW'.lt x (by rw [hbef];simpa using hx)
 obtain⟨k,rfl⟩:=okWide_int (F.un 3 rfl) (hval 0 _ _ rfl rfl)
 obtain⟨L,hL⟩:=uE (f:=fun a:StA W=>stU a.1) (sz:=6) (F.un 22 rfl) (by kernel_rfl) (by decide) h1 (hval 1 _ _ rfl rfl) (fun n us y h=>sI h)
 have hS:=xj (pv:= .slice none 0 0) (pk:= []) hL (.inl ⟨rfl,rfl⟩)
 have hF:=xt (H:=pZ L []) (nx:=2+L.length) (r:=0) (ro:=true) (ls:=eX 0 L) k rfl (vz L []) (by rw [dV];exact sa hL) (uA L)
 rw [dV] at hF
 have hargs:SV.aM (yf v1 (.slice none 0 0) L) [.sc (.int .i64 k),.slu 0 0 L.length]=some [.int .i64 k,v1]:=
  bw rfl (bw (hL.conc rfl) rfl)
 refine(Fnc.calls hF hS hargs).mono fun x W' ⟨r,hr,e',v,_,hS',hv,hx⟩=>?_
 rw [hr] at hv
 obtain rfl:Value.bool true=v:=by simpa [SV.conc] using hv
 subst hx
 have hg:=v5 hS'.below
 have hstay: ∀ {t:TypeId} {v:Value} {d:DataW H} {ps:List MemPlace} (sp:Nat→Bool),Try.prog.readableRec t=true→t<Try.prog.types.size→DataW.Trod enc Try.prog W 0 (fun _=>true) true t v d ps→(∀ x∈ps,x∈p0 ++ p1)→(∀ x∈p0 ++ p1,sp x.block=true)→DataW.Trod enc Try.prog W' 0 sp true t v d ps:=
  fun sp hr hrow h hin hsp=>WideElems.Trod_stays laid hr hrow h (fun x hx=>hg.same (hlt x (hin x hx))) (fun x hx=>hsp x (hin x hx))
 exact⟨_,rfl,Go.Sl.post_new (pa:=p0 ++ p1) (pv:= []) hW' hg hbef (fun _ _ _=>(trodAll_cons_mk (shut_bool Try.underlying4 _) trodAll_mk0))
  (fun sp hsp=>by
    have hsp': ∀ x∈p0 ++ p1,sp x.block=true:=fun x hx=>hsp x (by rw [hbef];simpa using hx)
    rw [Try.params3]
    exact trodAll_mk2 (hstay sp (by kernel_rfl) (of_decide_eq_true (by kernel_rfl)) h0 (fun x hx=>by simp [hx]) hsp') (hstay sp (by kernel_rfl) (of_decide_eq_true (by kernel_rfl)) h1 (fun x hx=>by simp [hx]) hsp'))
  (fun _ _=>rfl)
  (ok_one (by kernel_rfl) rfl (okWide_bool_mk Try.underlying4 _))⟩
theorem over:Rows.diskRoomsRow.holds Try.pinned (OpenSpec.ofChange Rows.diskRoomsSpec):=
 OpenClaim.holds_of_wide 3 Try.f3 rfl rfl rfl rfl rfl rfl rfl ⟨rfl,rfl,rfl,rfl,rfl⟩ rfl rfl rfl rfl rfl (by kernel_rfl) Try.func3 (by kernel_rfl)
  (of_decide_eq_true (by kernel_rfl)) (by unfold Func.isWrapper;first|(rw [if_pos (by decide +kernel)];kernel_rfl)|(rw [if_neg (by decide +kernel)];exact⟨rfl,rfl⟩))
  (fun os started H enc _=>lifted os started H enc)
theorem proved:Rows.DiskRoomsSaid:=
 over
#print axioms proved
end diskRooms
end Go.Proofs.Ytbmekelkddllkaa
