/-
  PROVED: 'Rows.IndexEntriesSaid': understudylaw12.IndexEntries returns true whatever its arguments are, and they read as they did. No condition.
-/
import Derived.Test.YtjjgjjlgchidlaaGreatE8
import Derived.Test.YtjjgjjlgchidlaaGreatChecked
import Derived.Test.YtjjgjjlgchidlaaGreatRows
set_option maxRecDepth 100000
set_option maxHeartbeats 0
namespace Go.Proofs.YtjjgjjlgchidlaaGreat
open Go Go.Sy Go.ChangeShapes Go.WideShapes Go.ChangeAt Go.RowKit
namespace indexEntries
set_option linter.unusedVariables false
abbrev yC(l:List UInt8):VO:=dat true l.length 1 5 (byV l)
theorem xU(l:List UInt8):l.flatMap bV=byV l:=by
 induction l with
 | nil=>rfl
 | cons a l ih=>rw [List.flatMap_cons,ih];rfl
theorem vF{W:World}{v:Value}{l:List UInt8}(h:ArgRow W 1 bV v l)(e:Env):Lies (iN W) W e (yC l) (lH 1 v):=by
 have:=h.lies (fun _=>rfl) (by decide) 5 e
 rwa [show l.flatMap bV=byV l from xU l] at this
theorem lifted(os:Os)(started:os.Started)(H:Type)(enc:TypeId×Value→H) :
 ReturnsInHanded {} Tryz.checked os 3 .any (Rows.indexEntriesSpec.pre6 enc Tryz.prog Tryz.f3 Rows.indexEntriesRow.domain false) (Rows.indexEntriesSpec.post enc Tryz.prog Tryz.f3 false true false false):=by
 refine returnsInHanded_of_change (C:=Tryz.checked) ownE started (by kernel_rfl) Tryz.func3
  (ChangeSpec.witness6 (enc:=enc) (C:=Tryz.checked) false ⟨#[],#[.agg #[.string ⟨#[]⟩,.int .i64 0,.int .i64 0],.agg #[.string ⟨#[]⟩,.int .i64 0,.int .i64 0],.slice none 0 0],[]⟩ 8 (by kernel_rfl) (by kernel_rfl) (by kernel_rfl) (by kernel_rfl)) ?_
 intro W base args ds gs before hval0 hW hcnd _
 have hval: ∀ (j:Nat) t v,Tryz.f3.params[j]? =some t→args[j]? =some v→Value.okWide Tryz.prog W .any base t v:=hval0
 have hW':=hW
 obtain⟨p,q,hA0,hV,rfl,hfz,hnd⟩:=hW
 have hA:DataW.TrodAll enc Tryz.prog W 0 (fun _=>true) true Tryz.f3.params.toList args.toList ds p:=hA0
 rw [Tryz.params3] at hA hval
 obtain⟨v0,v1,v2,d0,d1,d2,p0,p1,p2,rfl,rfl,rfl,h0,h1,h2⟩:=trodAll_three hA
 obtain⟨rfl,rfl⟩:=trodVars_none hV
 clear hA0 hval0
 have hbef:p0 ++ p1 ++ p2 ++ ([]:List MemPlace)=p0 ++ (p1 ++ p2) ++ []:=by simp
 have hlt: ∀ x∈p0 ++ (p1 ++ p2),x.block<W.heap.size:=fun x hx=>hW'.lt x (by rw [hbef];simpa using hx)
 obtain⟨a,rfl⟩:=ur h0 (hval 0 _ _ rfl rfl)
 obtain⟨b,rfl⟩:=ur h1 (hval 1 _ _ rfl rfl)
 obtain⟨l,hl⟩:=ut (f:=bV) (sz:=1) (F.un 26 rfl) (by kernel_rfl) (by decide) h2 (hval 2 _ _ rfl rfl) (fun n us y h=>wT h)
 have hS:St (iN W) W (fun i=>if i=0 then some (lH 1 v2) else none) (pE [some (yC l)]) 1 W:=by
  refine St.init (fun id vo hv=>?_) (fun i hi=>by rw [if_neg (by omega)])
  rcases id with _|id
  ·simp [pE,Tr.at'] at hv
   subst hv
   exact⟨rfl,_,rfl,vF hl _⟩
  ·simp [pE,Tr.at'] at hv
 have hF:=pG (H:=pE [some (yC l)]) (nx:=1) (r:=0) (ro:=true) (a:=a) (b:=b) (c:=l) (by show some (yC l)=some (u8R true (byV l));unfold yC u8R;rw [fk])
 have hargs:SV.aQ (fun i=>if i=0 then some (lH 1 v2) else none) [eO a,eO b,.slu 0 0 l.length]=some [.agg #[.string a.1,.int .i64 a.2.1,.int .i64 a.2.2],.agg #[.string b.1,.int .i64 b.2.1,.int .i64 b.2.2],v2]:=
  bQ rfl (bQ rfl (bQ (hl.conc rfl) rfl))
 refine(Fnc.calls hF hS hargs).mono fun x W' ⟨r,hr,e',v,_,hS',hv,hx⟩=>?_
 rw [hr.1] at hv
 obtain rfl:Value.bool true=v:=by simpa [SV.conc] using hv
 subst hx
 have hg:=vY hS'.below
 have hstay: ∀ {t:TypeId} {v:Value} {d:DataW H} {ps:List MemPlace} (sp:Nat→Bool),Tryz.prog.readableRec t=true→t<Tryz.prog.types.size→DataW.Trod enc Tryz.prog W 0 (fun _=>true) true t v d ps→(∀ x∈ps,x∈p0 ++ (p1 ++ p2))→(∀ x∈p0 ++ (p1 ++ p2),sp x.block=true)→DataW.Trod enc Tryz.prog W' 0 sp true t v d ps:=
  fun sp hr hrow h hin hsp=>WideElems.Trod_stays laidE hr hrow h (fun x hx=>hg.same (hlt x (hin x hx))) (fun x hx=>hsp x (hin x hx))
 exact⟨_,rfl,Go.Sl.post_new (pa:=p0 ++ (p1 ++ p2)) (pv:= []) hW' hg hbef (fun _ _ _=>(trodAll_cons_mk (shut_bool Tryz.underlying4 _) trodAll_mk0))
  (fun sp hsp=>by
    have hsp': ∀ x∈p0 ++ (p1 ++ p2),sp x.block=true:=fun x hx=>hsp x (by rw [hbef];simpa using hx)
    rw [Tryz.params3]
    exact trodAll_mk3 (hstay sp (by kernel_rfl) (of_decide_eq_true (by kernel_rfl)) h0 (fun x hx=>by simp [hx]) hsp') (hstay sp (by kernel_rfl) (of_decide_eq_true (by kernel_rfl)) h1 (fun x hx=>by simp [hx]) hsp') (hstay sp (by kernel_rfl) (of_decide_eq_true (by kernel_rfl)) h2 (fun x hx=>by simp [hx]) hsp'))
  (fun _ _=>rfl)
  (ok_one (by kernel_rfl) rfl (okWide_bool_mk Tryz.underlying4 _))⟩
theorem over:Rows.indexEntriesRow.holds Tryz.pinned (OpenSpec.ofChange Rows.indexEntriesSpec):=
 OpenClaim.holds_of_wide 3 Tryz.f3 rfl rfl rfl rfl rfl rfl rfl ⟨rfl,rfl,rfl,rfl,rfl⟩ rfl rfl rfl rfl rfl (by kernel_rfl) Tryz.func3 (by kernel_rfl)
  (of_decide_eq_true (by kernel_rfl)) (by unfold Func.isWrapper;first|(rw [if_pos (by decide +kernel)];kernel_rfl)|(rw [if_neg (by decide +kernel)];exact⟨rfl,rfl⟩))
  (fun os started H enc _=>lifted os started H enc)
theorem proved:Rows.IndexEntriesSaid:=
 over
#print axioms proved
end indexEntries
end Go.Proofs.YtjjgjjlgchidlaaGreat
