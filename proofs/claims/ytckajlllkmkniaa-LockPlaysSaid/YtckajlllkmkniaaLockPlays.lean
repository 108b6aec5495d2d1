/-
  PROVED: 'Rows.LockPlaysSaid': understudylaw13.LockPlays returns true whatever its arguments are, and they read as they did. No condition.
-/
import Derived.Test.YtckajlllkmkniaaY9
import Derived.Test.YtckajlllkmkniaaChecked
import Derived.Test.YtckajlllkmkniaaRows
import Derived.WalkKit
import Derived.ProofKit
import Derived.OpenShut
set_option maxRecDepth 100000
set_option maxHeartbeats 0
namespace Go.Proofs.Ytckajlllkmkniaa
open Go Go.Sy Go.ChangeShapes Go.WideShapes Go.ChangeAt Go.RowKit
namespace lockPlays
set_option linter.unusedVariables false
theorem lifted(os:Os)(started:os.Started)(H:Type)(enc:TypeId×Value→H) :
 ReturnsInHanded {} Try.checked os 6 .any (Rows.lockPlaysSpec.pre6 enc Try.prog Try.f6 Rows.lockPlaysRow.domain false) (Rows.lockPlaysSpec.post enc Try.prog Try.f6 false true false false):=by
 refine returnsInHanded_of_change (C:=Try.checked) own started (by kernel_rfl) Try.func6
  (ChangeSpec.witness6 (enc:=enc) (C:=Try.checked) false ⟨#[],#[.slice none 0 0,.int .i64 0],[]⟩ 8 (by kernel_rfl) (by kernel_rfl) (by kernel_rfl) (by kernel_rfl)) ?_
 intro W base args ds gs before hval0 hW hcnd _
 have hval: ∀ (j:Nat) t v,Try.f6.params[j]? =some t→args[j]? =some v→Value.okWide Try.prog W .any base t v:=hval0
 have hW':=hW
 obtain⟨p,q,hA0,hV,rfl,hfz,hnd⟩:=hW
 have hA:DataW.TrodAll enc Try.prog W 0 (fun _=>true) true Try.f6.params.toList args.toList ds p:=hA0
 rw [Try.params6] at hA hval
 obtain⟨v0,v1,d0,d1,p0,p1,rfl,rfl,rfl,h0,h1⟩:=trodAll_two hA
 obtain⟨rfl,rfl⟩:=trodVars_none hV
 clear hA0 hval0
 have hbef:p0 ++ p1 ++ ([]:List MemPlace)=p0 ++ p1 ++ []:=by simp
 have hlt: ∀ x∈p0 ++ p1,x.block<W.heap.size:=fun x hx=>hW'.lt x (by rw [hbef];simpa using hx)
 obtain⟨l0,hl0⟩:=uK (f:=w9) (sz:=4) (F.un 22 rfl) (by kernel_rfl) (by decide) h0 (hval 0 _ _ rfl rfl) (fun n us y h=>vi h)
 have hvk1:=hval 1 _ _ rfl rfl
 obtain⟨k1,rfl⟩:=okWide_int (F.un 3 rfl) hvk1
 have hk1 : -9223372036854775808≤k1∧k1≤9223372036854775807:=by
  simpa [Value.okWide,Cell.okWide,Cell.ok,F.un 3 rfl,IntKind.has,IntKind.min,IntKind.max,show IntKind.i64.signed=true from rfl,show IntKind.i64.bits=64 from rfl] using hvk1
 have hS:St (jF W) W (fun i=>if i=0 then some (lZ 4 v0) else none) (kR [some (actR true l0.toArray)]) 1 W:=by
  refine St.init (fun id vo hv=>?_) (fun i hi=>by rw [if_neg (by omega)])
  rcases id with _|id
  ·simp [kR,Tr.at'] at hv
   subst hv
   exact⟨rfl,_,rfl,hl0.lies (fun _=>rfl) (by decide) _ _⟩
  ·simp [kR,Tr.at'] at hv
 have hF:=xG (H:=kR [some (actR true l0.toArray)]) (nx:=1) (r:=0) (ro:=true) l0.toArray k1 rfl (uL hl0)
 have hargs:SV.ba (fun i=>if i=0 then some (lZ 4 v0) else none) [.slu 0 0 l0.toArray.size,.sc (.int .i64 k1)]=some [v0,.int .i64 k1]:=
  bV (hl0.conc rfl) (bV rfl rfl)
 refine(Fnc.calls hF hS hargs).mono fun x W' ⟨r,hr,e',v,_,hS',hv,hx⟩=>?_
 rw [hr] at hv
 obtain rfl:Value.bool true=v:=by simpa [SV.conc] using hv
 subst hx
 have hg:=wt hS'.below
 have hstay: ∀ {t:TypeId} {v:Value} {d:DataW H} {ps:List MemPlace} (sp:Nat→Bool),Try.prog.readableRec t=true→t<Try.prog.types.size→DataW.Trod enc Try.prog W 0 (fun _=>true) true t v d ps→(∀ x∈ps,x∈p0 ++ p1)→(∀ x∈p0 ++ p1,sp x.block=true)→DataW.Trod enc Try.prog W' 0 sp true t v d ps:=
  fun sp hr hrow h hin hsp=>WideElems.Trod_stays laid hr hrow h (fun x hx=>hg.same (hlt x (hin x hx))) (fun x hx=>hsp x (hin x hx))
 exact⟨_,rfl,Go.Sl.post_new (pa:=p0 ++ p1) (pv:= []) hW' hg hbef (fun _ _ _=>(trodAll_cons_mk (shut_bool Try.underlying4 _) trodAll_mk0))
  (fun sp hsp=>by
    have hsp': ∀ x∈p0 ++ p1,sp x.block=true:=fun x hx=>hsp x (by rw [hbef];simpa using hx)
    rw [Try.params6]
    exact trodAll_mk2 (hstay sp (by kernel_rfl) (of_decide_eq_true (by kernel_rfl)) h0 (fun x hx=>by simp [hx]) hsp') (hstay sp (by kernel_rfl) (of_decide_eq_true (by kernel_rfl)) h1 (fun x hx=>by simp [hx]) hsp'))
  (fun _ _=>rfl)
  (ok_one (by kernel_rfl) rfl (okWide_bool_mk Try.underlying4 _))⟩
theorem over:Rows.lockPlaysRow.holds Try.pinned (OpenSpec.ofChange Rows.lockPlaysSpec):=
 OpenClaim.holds_of_wide 6 Try.f6 rfl rfl rfl rfl rfl rfl rfl ⟨rfl,rfl,rfl,rfl,rfl⟩ rfl rfl rfl rfl rfl (by kernel_rfl) Try.func6 (by kernel_rfl)
  (of_decide_eq_true (by kernel_rfl)) (by unfold Func.isWrapper;first|(rw [if_pos (by decide +kernel)];kernel_rfl)|(rw [if_neg (by decide +kernel)];exact⟨rfl,rfl⟩))
  (fun os started H enc _=>lifted os started H enc)
theorem proved:Rows.LockPlaysSaid:=
 over
#print axioms proved
end lockPlays
end Go.Proofs.Ytckajlllkmkniaa
