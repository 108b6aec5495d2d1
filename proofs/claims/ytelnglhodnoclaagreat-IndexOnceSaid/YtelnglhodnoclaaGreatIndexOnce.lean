/-
  PROVED: 'Rows.IndexOnceSaid': understudylaw12.IndexOnce returns true whatever its arguments are, and they read as they did. No condition.
-/
import Derived.Test.YtelnglhodnoclaaGreatB8
import Derived.Test.YtelnglhodnoclaaGreatChecked
import Derived.Test.YtelnglhodnoclaaGreatRows
set_option maxRecDepth 100000
set_option maxHeartbeats 0
namespace Go.Proofs.YtelnglhodnoclaaGreat
open Go Go.Sy Go.ChangeShapes Go.WideShapes Go.ChangeAt Go.RowKit
namespace indexOnce
set_option linter.unusedVariables false
abbrev iVo:Int→List Value:=fun n=> [.int .i64 n]
theorem B4{W:World}{v:Value}{l:List a7}(h:ArgRow W 3 fB v l)(e:Env):Lies (iH W) W e (enR true l) (jD 3 v):=h.lies (fun _=>rfl) (by decide) 25 e
theorem B3{W:World}{v:Value}{l:List Int}(h:ArgRow W 1 iVo v l)(e:Env):Lies (iH W) W e (DC true l) (jD 1 v):=h.lies (fun _=>rfl) (by decide) 3 e
theorem lifted(os:Os)(started:os.Started)(H:Type)(enc:TypeId×Value→H) :
 ReturnsInHanded {} Tryz.checked os 5 .any (Rows.indexOnceSpec.pre6 enc Tryz.prog Tryz.f5 Rows.indexOnceRow.domain false) (Rows.indexOnceSpec.post enc Tryz.prog Tryz.f5 false true false false):=by
 refine returnsInHanded_of_change (C:=Tryz.checked) ownE started (by kernel_rfl) Tryz.func5
  (ChangeSpec.witness6 (enc:=enc) (C:=Tryz.checked) false ⟨#[],#[.slice none 0 0,.slice none 0 0],[]⟩ 8 (by kernel_rfl) (by kernel_rfl) (by kernel_rfl) (by kernel_rfl)) ?_
 intro W base args ds gs before hval0 hW hcnd _
 have hval: ∀ (j:Nat) t v,Tryz.f5.params[j]? =some t→args[j]? =some v→Value.okWide Tryz.prog W .any base t v:=hval0
 have hW':=hW
 obtain⟨p,q,hA0,hV,rfl,hfz,hnd⟩:=hW
 have hA:DataW.TrodAll enc Tryz.prog W 0 (fun _=>true) true Tryz.f5.params.toList args.toList ds p:=hA0
 rw [Tryz.params5] at hA hval
 obtain⟨v0,v1,d0,d1,p0,p1,rfl,rfl,rfl,h0,h1⟩:=trodAll_two hA
 obtain⟨rfl,rfl⟩:=trodVars_none hV
 clear hA0 hval0
 have hbef:p0 ++ p1 ++ ([]:List MemPlace)=p0 ++ p1 ++ []:=by simp
 have hlt: ∀ x∈p0 ++ p1,x.block<W.heap.size:=fun x hx=>hW'.lt x (by rw [hbef];simpa using hx)
 obtain⟨l,hl⟩:=rP (f:=fB) (sz:=3) (F.un 56 rfl) (by kernel_rfl) (by decide) h0 (hval 0 _ _ rfl rfl) (fun n us y h=>yW h)
 obtain⟨ord,hord⟩:=rP (f:=iVo) (sz:=1) (F.un 61 rfl) (by kernel_rfl) (by decide) h1 (hval 1 _ _ rfl rfl) (fun n us y h=>(jH (F.un 3 rfl) h).imp fun _ hx=>hx.1)
 have hS:St (iH W) W (fun i=>if i=0 then some (jD 3 v0) else if i=1 then some (jD 1 v1) else none) (l4 [some (enR true l),some (DC true ord)]) 2 W:=by
  refine St.init (fun id vo hv=>?_) (fun i hi=>by rw [Ey (by omega),Ey (by omega)])
  rcases id with _|_|id
  ·simp [l4,Tr.at'] at hv
   subst hv
   exact⟨rfl,_,rfl,B4 hl _⟩
  ·simp [l4,Tr.at'] at hv
   subst hv
   exact⟨rfl,_,rfl,B3 hord _⟩
  ·simp [l4,Tr.at'] at hv
 have hF:=zB (H:=l4 [some (enR true l),some (DC true ord)]) (nx:=2) (r:=0) (q:=1) (ro:=true) (ro2:=true) (l:=l) (ord:=ord) rfl rfl
 have hargs:SV.aC (fun i=>if i=0 then some (jD 3 v0) else if i=1 then some (jD 1 v1) else none) [.slu 0 0 l.length,.slu 1 0 ord.length]=some [v0,v1]:=bJ (hl.conc rfl) (bJ (hord.conc rfl) rfl)
 refine(Fnc.calls hF hS hargs).mono fun x W' ⟨r,hr,e',v,_,hS',hv,hx⟩=>?_
 rw [hr.1] at hv
 obtain rfl:Value.bool true=v:=by simpa [SV.conc] using hv
 subst hx
 have hg:=Ah hS'.below
 have hstay: ∀ {t:TypeId} {v:Value} {d:DataW H} {ps:List MemPlace} (sp:Nat→Bool),Tryz.prog.readableRec t=true→t<Tryz.prog.types.size→DataW.Trod enc Tryz.prog W 0 (fun _=>true) true t v d ps→(∀ x∈ps,x∈p0 ++ p1)→(∀ x∈p0 ++ p1,sp x.block=true)→DataW.Trod enc Tryz.prog W' 0 sp true t v d ps:=
  fun sp hr hrow h hin hsp=>WideElems.Trod_stays laidE hr hrow h (fun x hx=>hg.same (hlt x (hin x hx))) (fun x hx=>hsp x (hin x hx))
 exact⟨_,rfl,Go.Sl.post_new (pa:=p0 ++ p1) (pv:= []) hW' hg hbef (fun _ _ _=>(trodAll_cons_mk (shut_bool Tryz.underlying4 _) trodAll_mk0))
  (fun sp hsp=>by
    have hsp': ∀ x∈p0 ++ p1,sp x.block=true:=fun x hx=>hsp x (by rw [hbef];simpa using hx)
    rw [Tryz.params5]
    exact trodAll_mk2 (hstay sp (by kernel_rfl) (EK (by kernel_rfl)) h0 (fun x hx=>by simp [hx]) hsp') (hstay sp (by kernel_rfl) (EK (by kernel_rfl)) h1 (fun x hx=>by simp [hx]) hsp'))
  (fun _ _=>rfl)
  (ok_one (by kernel_rfl) rfl (okWide_bool_mk Tryz.underlying4 _))⟩
theorem over:Rows.indexOnceRow.holds Tryz.pinned (OpenSpec.ofChange Rows.indexOnceSpec):=
 OpenClaim.holds_of_wide 5 Tryz.f5 rfl rfl rfl rfl rfl rfl rfl ⟨rfl,rfl,rfl,rfl,rfl⟩ rfl rfl rfl rfl rfl (by kernel_rfl) Tryz.func5 (by kernel_rfl)
  (EK (by kernel_rfl)) (by unfold Func.isWrapper;first|(rw [Ez (by decide +kernel)];kernel_rfl)|(rw [Ey (by decide +kernel)];exact⟨rfl,rfl⟩))
  (fun os started H enc _=>lifted os started H enc)
theorem proved:Rows.IndexOnceSaid:=
 over
#print axioms proved
end indexOnce
end Go.Proofs.YtelnglhodnoclaaGreat
