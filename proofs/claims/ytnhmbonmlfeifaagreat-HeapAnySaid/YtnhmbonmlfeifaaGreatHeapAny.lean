/-
  PROVED: 'Rows.HeapAnySaid': understudylaw11.HeapAny returns true whatever its arguments are, and they read as they did. No condition.
-/
import Derived.Test.YtnhmbonmlfeifaaGreatY9
import Derived.Test.YtnhmbonmlfeifaaGreatRows
set_option maxRecDepth 100000
set_option maxHeartbeats 0
namespace Go.Proofs.YtnhmbonmlfeifaaGreat
open Go Go.Sy Go.ChangeShapes Go.WideShapes Go.ChangeAt Go.RowKit
namespace heapAny
set_option linter.unusedVariables false
theorem ext{w:World}{v:Value}{l:List UInt8}(h:BytesV w v l): ∃ x:XtA w,(∀ {H:au} {m:Nat},H.at' m=some (Ht x.1.2)→BsIs H (sOf v l m) (byV l))∧(∀ {e:Env} {m:Nat},e m=some (gR 1 x.1.1)→(sOf v l m).conc e=some v):=by
 by_cases hp:l= []
 ·refine⟨⟨(.slice none 0 0,[]),.inl ⟨rfl,rfl⟩⟩,fun {H m} _=>?_,fun {e m} _=>?_⟩
  ·unfold sOf
   rw [Kb hp]
   rcases h with ⟨a,c,rfl,_⟩|⟨h1,_⟩
   ·subst hp
    exact⟨fun v hv=>by simp at hv,.inl ⟨rfl,a,c,rfl⟩⟩
   ·exact absurd hp h1
  ·unfold sOf
   rw [Kb hp]
   rfl
 ·rcases h with ⟨_,_,_,h2⟩|⟨h1,h2⟩
  ·exact absurd h2 hp
  ·exact⟨⟨(v,l),h2⟩,fun {H m} hm=>zh (.inr ⟨h1,h2⟩) (hm.trans (by unfold BB;rw [Ka hp])),fun {e m} hm=>qE (.inr ⟨h1,h2⟩) hm⟩
theorem uj{H:Type}{enc:TypeId×Value→H}{P:Program}{w:World}{base:Nat}{spare:Nat→Bool}{held:Bool}{t0 t1 t2 t3 t4 t5:TypeId}{args:Array Value}{ds:List (DataW H)}{ps:List MemPlace}(h:DataW.TrodAll enc P w base spare held [t0,t1,t2,t3,t4,t5] args.toList ds ps) :
 ∃ v0 v1 v2 v3 v4 v5 d0 d1 d2 d3 d4 d5 p0 p1 p2 p3 p4 p5,args = #[v0,v1,v2,v3,v4,v5]∧ds= [d0,d1,d2,d3,d4,d5]∧ps=p0 ++ p1 ++ p2 ++ p3 ++ p4 ++ p5∧DataW.Trod enc P w base spare held t0 v0 d0 p0∧DataW.Trod enc P w base spare held t1 v1 d1 p1∧DataW.Trod enc P w base spare held t2 v2 d2 p2∧DataW.Trod enc P w base spare held t3 v3 d3 p3∧DataW.Trod enc P w base spare held t4 v4 d4 p4∧DataW.Trod enc P w base spare held t5 v5 d5 p5:=by
 obtain⟨v0,r0,d0,e0,p0,q0,hargs,rfl,rfl,h0,k0⟩:=trodAll_cons h
 obtain⟨v1,r1,d1,e1,p1,q1,rfl,rfl,rfl,h1,k1⟩:=trodAll_cons k0
 obtain⟨v2,r2,d2,e2,p2,q2,rfl,rfl,rfl,h2,k2⟩:=trodAll_cons k1
 obtain⟨v3,r3,d3,e3,p3,q3,rfl,rfl,rfl,h3,k3⟩:=trodAll_cons k2
 obtain⟨v4,r4,d4,e4,p4,q4,rfl,rfl,rfl,h4,k4⟩:=trodAll_cons k3
 obtain⟨v5,r5,d5,e5,p5,q5,rfl,rfl,rfl,h5,k5⟩:=trodAll_cons k4
 obtain⟨rfl,rfl,rfl⟩:=trodAll_nil k5
 exact⟨v0,v1,v2,v3,v4,v5,d0,d1,d2,d3,d4,d5,p0,p1,p2,p3,p4,p5,by cases args;simp_all,rfl,by simp,h0,h1,h2,h3,h4,h5⟩
theorem uk{H:Type}{enc:TypeId×Value→H}{P:Program}{w:World}{base:Nat}{spare:Nat→Bool}{held:Bool}{t0 t1 t2 t3 t4 t5:TypeId}{v0 v1 v2 v3 v4 v5:Value}{d0 d1 d2 d3 d4 d5:DataW H}{p0 p1 p2 p3 p4 p5:List MemPlace}(h0:DataW.Trod enc P w base spare held t0 v0 d0 p0)(h1:DataW.Trod enc P w base spare held t1 v1 d1 p1)(h2:DataW.Trod enc P w base spare held t2 v2 d2 p2)(h3:DataW.Trod enc P w base spare held t3 v3 d3 p3)(h4:DataW.Trod enc P w base spare held t4 v4 d4 p4)(h5:DataW.Trod enc P w base spare held t5 v5 d5 p5):DataW.TrodAll enc P w base spare held [t0,t1,t2,t3,t4,t5] [v0,v1,v2,v3,v4,v5] [d0,d1,d2,d3,d4,d5] (p0 ++ (p1 ++ (p2 ++ (p3 ++ (p4 ++ p5))))):=
 ⟨p0,_,h0,⟨p1,_,h1,⟨p2,_,h2,trodAll_mk3 h3 h4 h5,rfl⟩,rfl⟩,rfl⟩
theorem lifted(os:Os)(started:os.Started)(H:Type)(enc:TypeId×Value→H) :
 ReturnsInHanded {} Tryz.checked os 5 .any (Rows.heapAnySpec.pre6 enc Tryz.prog Tryz.f5 Rows.heapAnyRow.domain false) (Rows.heapAnySpec.post enc Tryz.prog Tryz.f5 false true false false):=by
 refine returnsInHanded_of_change (C:=Tryz.checked) own started (by kernel_rfl) Tryz.func5
  (ChangeSpec.witness6 (enc:=enc) (C:=Tryz.checked) false ⟨#[],#[.slice none 0 0,.int .i64 0,.int .i64 0,.slice none 0 0,.agg #[.int .i64 0,.int .i64 0],.agg #[.slice none 0 0,.slice none 0 0,.int .u64 0,.int .u64 0]],[]⟩ 8 (by kernel_rfl) (by kernel_rfl) (by kernel_rfl) (by kernel_rfl)) ?_
 intro W base args ds gs before hval0 hW hcnd _
 have hval: ∀ (j:Nat) t v,Tryz.f5.params[j]? =some t→args[j]? =some v→Value.okWide Tryz.prog W .any base t v:=hval0
 have hW':=hW
 obtain⟨p,q,hA0,hV,rfl,hfz,hnd⟩:=hW
 have hA:DataW.TrodAll enc Tryz.prog W 0 (fun _=>true) true Tryz.f5.params.toList args.toList ds p:=hA0
 rw [Tryz.params5] at hA hval
 obtain⟨v0,v1,v2,v3,v4,v5,d0,d1,d2,d3,d4,d5,p0,p1,p2,p3,p4,p5,rfl,rfl,rfl,h0,h1,h2,h3,h4,h5⟩:=uj hA
 obtain⟨rfl,rfl⟩:=trodVars_none hV
 clear hA0 hval0
 have hbef:p0 ++ p1 ++ p2 ++ p3 ++ p4 ++ p5 ++ ([]:List MemPlace)=p0 ++ (p1 ++ (p2 ++ (p3 ++ (p4 ++ p5)))) ++ []:=by simp
 have hlt: ∀ x∈p0 ++ (p1 ++ (p2 ++ (p3 ++ (p4 ++ p5)))),x.block<W.heap.size:=fun x hx=>hW'.lt x (by rw [hbef];simpa using hx)
 obtain⟨L,hL⟩:=A2 (f:=fun a:AcA W=>actU a.1) (sz:=10) (F.un 22 rfl) (by kernel_rfl) (by decide) h0 (hval 0 _ _ rfl rfl) (fun n us y h=>Bm h)
 have hvk:=hval 1 _ _ rfl rfl
 obtain⟨k,rfl⟩:=okWide_int (F.un 3 rfl) hvk
 have hk : -9223372036854775808≤k∧k≤9223372036854775807:=by
  simpa [Value.okWide,Cell.okWide,Cell.ok,F.un 3 rfl,IntKind.has,IntKind.min,IntKind.max,show IntKind.i64.signed=true from rfl,show IntKind.i64.bits=64 from rfl] using hvk
 obtain⟨off,rfl⟩:=okWide_int (F.un 3 rfl) (hval 2 _ _ rfl rfl)
 obtain⟨ba,bn,bc,rfl⟩:=okWide_slice (F.un 35 rfl) (hval 3 _ _ rfl rfl)
 obtain⟨bl,hb⟩: ∃ l,BytesV W (.slice ba bn bc) l:=by
  obtain⟨f3,g3⟩:=h3
  exact rL g3
 obtain⟨c4,rfl,-⟩:=okWide_struct uTid (hval 4 _ _ rfl rfl)
 obtain⟨t0,t1,hc4⟩: ∃ a b:Int,c4.toList= [.int .i64 a,.int .i64 b]:=by
  obtain⟨f4,g4⟩:=h4
  exact vD g4
 obtain rfl:c4 = #[.int .i64 t0,.int .i64 t1]:=by cases c4;simp_all
 obtain⟨c5,rfl,-⟩:=okWide_struct uVer (hval 5 _ _ rfl rfl)
 obtain⟨vk,vw,lk,lw,x5,y5,hc5,hvk5,hvw5⟩: ∃ (k u:Value) (lk lw:List UInt8) (x y:Nat),c5.toList= [k,u,.int .u64 (x:Int),.int .u64 (y:Int)]∧BytesV W k lk∧BytesV W u lw:=by
  obtain⟨f5,g5⟩:=h5
  exact vC g5
 obtain rfl:c5 = #[vk,vw,.int .u64 (x5:Int),.int .u64 (y5:Int)]:=by cases c5;simp_all
 obtain⟨xb,hb1,hb2⟩:=ext hb
 obtain⟨xk,hk1,hk2⟩:=ext hvk5
 obtain⟨xw,hw1,hw2⟩:=ext hvw5
 have hS:=D6 ([xb,xk,xw]:List (XtA W)) L hL
 have hF:=Ax (H:=lL ([xb,xk,xw]:List (XtA W)) L) (nx:=1+([xb,xk,xw]:List (XtA W)).length+2*L.length) (r:=0) (ro:=true) (ls:=kC (1+([xb,xk,xw]:List (XtA W)).length) 0 L) (n:=k) (off:=off) (t0:=t0) (t1:=t1) (bl:=bl) (v:=(lk,lw,x5,y5)) (sb:=sOf (.slice ba bn bc) bl (1+0)) (s:=im (sOf vk lk (1+1)) (sOf vw lw (1+2)) x5 y5) rfl (by rw [iW];exact qm hL) (Gc ([xb,xk,xw]:List (XtA W)) L) hk (hb1 (rh ([xb,xk,xw]:List (XtA W)) L (i:=0) rfl)) hb.len ⟨_,_,rfl,hk1 (rh ([xb,xk,xw]:List (XtA W)) L (i:=1) rfl),hw1 (rh ([xb,xk,xw]:List (XtA W)) L (i:=2) rfl)⟩ ⟨hvk5.len,hvw5.len⟩
 rw [iW] at hF
 have hver:SV.aJ (x8 ([xb,xk,xw]:List (XtA W)) L v0) [sOf vk lk (1+1),sOf vw lw (1+2),.sc (.int .u64 (x5:Int)),.sc (.int .u64 (y5:Int))]=some [vk,vw,.int .u64 (x5:Int),.int .u64 (y5:Int)]:=bi (hk2 (wS ([xb,xk,xw]:List (XtA W)) L (i:=1) rfl)) (bi (hw2 (wS ([xb,xk,xw]:List (XtA W)) L (i:=2) rfl)) (bi rfl (bi rfl rfl)))
 have hver2:(im (sOf vk lk (1+1)) (sOf vw lw (1+2)) x5 y5).conc (x8 ([xb,xk,xw]:List (XtA W)) L v0)=some (.agg #[vk,vw,.int .u64 (x5:Int),.int .u64 (y5:Int)]):=by
  show(SV.agg [sOf vk lk (1+1),sOf vw lw (1+2),.sc (.int .u64 (x5:Int)),.sc (.int .u64 (y5:Int))]).conc _=_
  simp only [SV.conc,hver]
  rfl
 have hargs:SV.aJ (x8 ([xb,xk,xw]:List (XtA W)) L v0) [.slu 0 0 L.length,.sc (.int .i64 k),.sc (.int .i64 off),sOf (.slice ba bn bc) bl (1+0),.agg [.sc (.int .i64 t0),.sc (.int .i64 t1)],im (sOf vk lk (1+1)) (sOf vw lw (1+2)) x5 y5]=some [v0,.int .i64 k,.int .i64 off,.slice ba bn bc,.agg #[.int .i64 t0,.int .i64 t1],.agg #[vk,vw,.int .u64 (x5:Int),.int .u64 (y5:Int)]]:=bi (hL.conc rfl) (bi rfl (bi rfl (bi (hb2 (wS ([xb,xk,xw]:List (XtA W)) L (i:=0) rfl)) (bi rfl (bi hver2 rfl)))))
 refine(Fnc.calls hF hS hargs).mono fun x W' ⟨r,hr,e',v,_,hS',hv,hx⟩=>?_
 rw [hr] at hv
 obtain rfl:Value.bool true=v:=by simpa [SV.conc] using hv
 subst hx
 have hg:=CC hS'.below
 have hstay: ∀ {t:TypeId} {v:Value} {d:DataW H} {ps:List MemPlace} (sp:Nat→Bool),Tryz.prog.readableRec t=true→t<Tryz.prog.types.size→DataW.Trod enc Tryz.prog W 0 (fun _=>true) true t v d ps→(∀ x∈ps,x∈p0 ++ (p1 ++ (p2 ++ (p3 ++ (p4 ++ p5)))))→(∀ x∈p0 ++ (p1 ++ (p2 ++ (p3 ++ (p4 ++ p5)))),sp x.block=true)→DataW.Trod enc Tryz.prog W' 0 sp true t v d ps:=
  fun sp hr hrow h hin hsp=>WideElems.Trod_stays laidH hr hrow h (fun x hx=>hg.same (hlt x (hin x hx))) (fun x hx=>hsp x (hin x hx))
 exact⟨_,rfl,Go.Sl.post_new (pa:=p0 ++ (p1 ++ (p2 ++ (p3 ++ (p4 ++ p5))))) (pv:= []) hW' hg hbef (fun _ _ _=>(trodAll_cons_mk (shut_bool Tryz.underlying4 _) trodAll_mk0))
  (fun sp hsp=>by
    have hsp': ∀ x∈p0 ++ (p1 ++ (p2 ++ (p3 ++ (p4 ++ p5)))),sp x.block=true:=fun x hx=>hsp x (by rw [hbef];simpa using hx)
    rw [Tryz.params5]
    exact uk (hstay sp (by kernel_rfl) (Km (by kernel_rfl)) h0 (fun x hx=>by simp [hx]) hsp') (hstay sp (by kernel_rfl) (Km (by kernel_rfl)) h1 (fun x hx=>by simp [hx]) hsp') (hstay sp (by kernel_rfl) (Km (by kernel_rfl)) h2 (fun x hx=>by simp [hx]) hsp') (hstay sp (by kernel_rfl) (Km (by kernel_rfl)) h3 (fun x hx=>by simp [hx]) hsp') (hstay sp (by kernel_rfl) (Km (by kernel_rfl)) h4 (fun x hx=>by simp [hx]) hsp') (hstay sp (by kernel_rfl) (Km (by kernel_rfl)) h5 (fun x hx=>by simp [hx]) hsp'))
  (fun _ _=>rfl)
  (ok_one (by kernel_rfl) rfl (okWide_bool_mk Tryz.underlying4 _))⟩
theorem over:Rows.heapAnyRow.holds Tryz.pinned (OpenSpec.ofChange Rows.heapAnySpec):=
 OpenClaim.holds_of_wide 5 Tryz.f5 rfl rfl rfl rfl rfl rfl rfl ⟨rfl,rfl,rfl,rfl,rfl⟩ rfl rfl rfl rfl rfl (by kernel_rfl) Tryz.func5 (by kernel_rfl)
  (Km (by kernel_rfl)) (by unfold Func.isWrapper;first|(rw [Kb (by decide +kernel)];kernel_rfl)|(rw [Ka (by decide +kernel)];exact⟨rfl,rfl⟩))
  (fun os started H enc _=>lifted os started H enc)
theorem proved:Rows.HeapAnySaid:=
 over
#print axioms proved
end heapAny
end Go.Proofs.YtnhmbonmlfeifaaGreat
