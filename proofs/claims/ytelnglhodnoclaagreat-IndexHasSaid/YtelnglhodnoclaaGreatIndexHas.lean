/-
  PROVED: 'Rows.IndexHasSaid': understudylaw12.IndexHas returns true whatever its arguments are, and they read as they did. No condition.
-/
import Derived.Test.YtelnglhodnoclaaGreatA9
import Derived.Test.YtelnglhodnoclaaGreatChecked
import Derived.Test.YtelnglhodnoclaaGreatRows
set_option maxRecDepth 100000
set_option maxHeartbeats 0
namespace Go.Proofs.YtelnglhodnoclaaGreat
open Go Go.Sy Go.ChangeShapes Go.WideShapes Go.ChangeAt Go.RowKit
namespace indexHas
set_option linter.unusedVariables false
theorem vN{A:Type}{w:World}{sz:Nat}{f:A→List Value}{v:Value}{l:List A}(h:ArgRow w sz f v l):l.length≤9223372036854775807:=by
 rcases h with ⟨_,rfl⟩|⟨b,o,len,cap,cs,tt,fz,_,_,h1,h2,h3,_⟩
 ·simp
 ·have:maxLen=9223372036854775807:=rfl
  omega
abbrev rowT(l:List StB):VO:=stR true (l.map (·.1))
theorem zV{W:World}{v:Value}{l:List StB}(h:ArgRow W 8 stB v l)(e:Env):Lies (jP W) W e (rowT l) (nF 8 v):=by
 have:=h.lies (fun _=>rfl) (by decide) 46 e
 unfold rowT stR
 rw [EU,List.flatMap_map]
 exact this
theorem lifted(os:Os)(started:os.Started)(H:Type)(enc:TypeId×Value→H) :
 ReturnsInHanded {} Tryz.checked os 4 .any (Rows.indexHasSpec.pre6 enc Tryz.prog Tryz.f4 Rows.indexHasRow.domain false) (Rows.indexHasSpec.post enc Tryz.prog Tryz.f4 false true false false):=by
 refine returnsInHanded_of_change (C:=Tryz.checked) ownE started (by kernel_rfl) Tryz.func4
  (ChangeSpec.witness6 (enc:=enc) (C:=Tryz.checked) false ⟨#[],#[.slice none 0 0],[]⟩ 8 (by kernel_rfl) (by kernel_rfl) (by kernel_rfl) (by kernel_rfl)) ?_
 intro W base args ds gs before hval0 hW hcnd _
 have hval: ∀ (j:Nat) t v,Tryz.f4.params[j]? =some t→args[j]? =some v→Value.okWide Tryz.prog W .any base t v:=hval0
 have hW':=hW
 obtain⟨p,q,hA0,hV,rfl,hfz,hnd⟩:=hW
 have hA:DataW.TrodAll enc Tryz.prog W 0 (fun _=>true) true Tryz.f4.params.toList args.toList ds p:=hA0
 rw [Tryz.params4] at hA hval
 obtain⟨v0,d0,rfl,rfl,h0⟩:=trodAll_one hA
 obtain⟨rfl,rfl⟩:=trodVars_none hV
 clear hA0 hval0
 have hbef:p ++ ([]:List MemPlace)=p ++ []:=by simp
 have hlt: ∀ x∈p,x.block<W.heap.size:=fun x hx=>hW'.lt x (by rw [hbef];simpa using hx)
 obtain⟨l,hl⟩:=yH (f:=stB) (sz:=8) (F.un 40 rfl) (by kernel_rfl) (by decide) h0 (hval 0 _ _ rfl rfl) (fun n us y h=>wx h)
 have hS:St (jP W) W (fun i=>if i=0 then some (nF 8 v0) else none) (nl [some (rowT l)]) 1 W:=by
  refine St.init (fun id vo hv=>?_) (fun i hi=>by rw [EP (by omega)])
  rcases id with _|id
  ·simp [nl,Tr.at'] at hv
   subst hv
   exact⟨rfl,_,rfl,zV hl _⟩
  ·simp [nl,Tr.at'] at hv
 have hF:=Cs (H:=nl [some (rowT l)]) (nx:=1) (r:=0) (ro:=true) (l:=l.map (·.1)) rfl (by rw [EU];exact vN hl) (fun s hs=>by obtain⟨a,_,rfl⟩:=Gc.1 hs;exact a.2)
 rw [EU] at hF
 have hargs:SV.aD (fun i=>if i=0 then some (nF 8 v0) else none) [.slu 0 0 l.length]=some [v0]:=bP (hl.conc rfl) rfl
 refine(Fnc.calls hF hS hargs).mono fun x W' ⟨r,hr,e',v,_,hS',hv,hx⟩=>?_
 rw [hr.1] at hv
 obtain rfl:Value.bool true=v:=by simpa [SV.conc] using hv
 subst hx
 have hg:=At hS'.below
 have hstay: ∀ {t:TypeId} {v:Value} {d:DataW H} {ps:List MemPlace} (sp:Nat→Bool),Tryz.prog.readableRec t=true→t<Tryz.prog.types.size→DataW.Trod enc Tryz.prog W 0 (fun _=>true) true t v d ps→(∀ x∈ps,x∈p)→(∀ x∈p,sp x.block=true)→DataW.Trod enc Tryz.prog W' 0 sp true t v d ps:=
  fun sp hr hrow h hin hsp=>WideElems.Trod_stays laidE hr hrow h (fun x hx=>hg.same (hlt x (hin x hx))) (fun x hx=>hsp x (hin x hx))
 exact⟨_,rfl,Go.Sl.post_new (pa:=p) (pv:= []) hW' hg hbef (fun _ _ _=>(trodAll_cons_mk (shut_bool Tryz.underlying4 _) trodAll_mk0))
  (fun sp hsp=>by
    have hsp': ∀ x∈p,sp x.block=true:=fun x hx=>hsp x (by rw [hbef];simpa using hx)
    rw [Tryz.params4]
    exact trodAll_mk1 (hstay sp (by kernel_rfl) (E1 (by kernel_rfl)) h0 (fun x hx=>by simp [hx]) hsp'))
  (fun _ _=>rfl)
  (ok_one (by kernel_rfl) rfl (okWide_bool_mk Tryz.underlying4 _))⟩
theorem over:Rows.indexHasRow.holds Tryz.pinned (OpenSpec.ofChange Rows.indexHasSpec):=
 OpenClaim.holds_of_wide 4 Tryz.f4 rfl rfl rfl rfl rfl rfl rfl ⟨rfl,rfl,rfl,rfl,rfl⟩ rfl rfl rfl rfl rfl (by kernel_rfl) Tryz.func4 (by kernel_rfl)
  (E1 (by kernel_rfl)) (by unfold Func.isWrapper;first|(rw [EQ (by decide +kernel)];kernel_rfl)|(rw [EP (by decide +kernel)];exact⟨rfl,rfl⟩))
  (fun os started H enc _=>lifted os started H enc)
theorem proved:Rows.IndexHasSaid:=
 over
#print axioms proved
end indexHas
end Go.Proofs.YtelnglhodnoclaaGreat
