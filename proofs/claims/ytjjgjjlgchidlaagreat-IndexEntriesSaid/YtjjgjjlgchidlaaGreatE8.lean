import Derived.WalkKit
import Derived.ProofKit
import Derived.OpenShut
import Derived.Below
import Derived.ChangeSame
import Derived.Carry
import Derived.ChangeArms
import Derived.Test.YtjjgjjlgchidlaaGreatE7
set_option linter.unusedVariables false
set_option linter.unusedSimpArgs false
set_option maxRecDepth 100000
set_option maxHeartbeats 0
section
namespace Go.Proofs.YtjjgjjlgchidlaaGreat
open Go Go.Sy Go.Sl Go.RowKit
section
variable {H:aJ} {T:Tr SV} {d:Option Tmp} {ty:TypeId} {pos:String} {af:Array Edge} {gd:Option (Nat×Bool)}
theorem vk{x y:Operand}{yt:TypeId}{a b:Int×Int}{r:Bool}(hr:decide (a=b)=r)(hx:am T x=some (.agg [.sc (.int .i64 a.1),.sc (.int .i64 a.2)]))(hy:am T y=some (.agg [.sc (.int .i64 b.1),.sc (.int .i64 b.2)])):ReadDoes Tryz.prog T H ⟨d,.binOp .eql 23 x y yt,ty,pos,af,gd⟩ (.sc (.bool r)):=by
 subst hr
 intro K w0 e nx w ev hS hE
 refine⟨_,rfl,?_⟩
 have e1:ev x = .agg #[.int .i64 a.1,.int .i64 a.2]:=by simpa [SV.conc,SV.aQ] using (hE x _ hx).symm
 have e2:ev y = .agg #[.int .i64 b.1,.int .i64 b.2]:=by simpa [SV.conc,SV.aQ] using (hE y _ hy).symm
 have h:=fun w=>qa 9998 a b w
 simp [execOp,e1,e2,run_eqGuard_agg (P:=Tryz.prog) w .eql 23 x y _ _ (by kernel_rfl),run_eql_struct,h]
end
section
variable {ro:Option Nat} {fn nt nx i:Nat} {T:Tr SV} {k:List AIt} {dfs:List ADf} {H:aJ} {Q:Pst} {ops:Array Oper} {l:List Oper} {ty:TypeId} {pos:String} {af:Array Edge} {gd:Option (Nat×Bool)}
theorem sr{x y:Operand}{yt:TypeId}{a b:Int×Int}{r:Bool}{dd:Nat}(hw:ar T ops ⟨some dd,.binOp .eql 23 x y yt,ty,pos,af,gd⟩=some true)(hd:Nat.blt dd nt=true)(hr:decide (a=b)=r)(hx:am T x=some (.agg [.sc (.int .i64 a.1),.sc (.int .i64 a.2)]))(hy:am T y=some (.agg [.sc (.int .i64 b.1),.sc (.int .i64 b.2)]))
 (h:Wp Tryz.prog ro ⟨fn,nt,T.set dd (.sc (.bool r)),.inReg ops (i+1) l :: k,dfs,H,nx⟩ Q):Wp Tryz.prog ro ⟨fn,nt,T,.inReg ops i (⟨some dd,.binOp .eql 23 x y yt,ty,pos,af,gd⟩ :: l) :: k,dfs,H,nx⟩ Q:=
 bK hw (.inr (fun _ h=>by cases h)) ((vk hr hx hy).does) (by rw [aC hd];exact h)
end
theorem mO(a:Int){H:aJ}{nx:Nat}:Fnc Tryz.prog 15 [.sc (.int .i64 a)] H nx (fun q=>q=(.sc (.int .i64 a),H,nx)):=Ctr.callV (vA a) [] rfl (ExtOk.of rfl) rfl trivial rfl
theorem iR{H:aJ}{nx:Nat}:Fnc Tryz.prog 7 [] H nx (fun q=>q.1 = .sc (.bool true)∧nx≤q.2.2∧ ∀ m,m<nx→NoPut H m→q.2.1.at' m=H.at' m):=by
 refine Fnc.start Tryz.func7 rfl rfl ?_
 (repeat(first|refine aq ?_|refine ae ?_|refine ac ?_|(apply ai;exact rfl;exact rfl;exact rfl)))
 refine aL rfl rfl rfl (by kernel_rfl) (Fnc.mono xL ?_)
 rintro⟨_,H1,n1⟩ ⟨rfl,g1,g2,f1⟩
 have t0:=mst0
 dsimp only at g1 g2 f1 ⊢
 generalize pz zeroM 2=M0 at g1 t0
 (repeat(first|(refine aL rfl rfl rfl (by kernel_rfl) (Fnc.mono (jP _ _ _) ?_);rintro _ rfl;dsimp only)|(refine gA rfl rfl rfl Tryz.underlying42 rfl ?_)|refine aq ?_|refine ae ?_|refine ac ?_|(apply aj;exact rfl;exact rfl;exact rfl)|(apply ai;exact rfl;exact rfl;exact rfl)))
 refine aL rfl rfl rfl (by kernel_rfl) (Fnc.mono (pD (k:=1) (e:=eB1) (x:=lp1) (sn:=0) g1 t0.len (t0.small (zn (by kernel_rfl))) (by kernel_rfl) (t0.home yT eB1) slot0 (by rw [t0.leaf];exact xI) len1 (by decide) (by decide) (by decide)) ?_)
 clear g1
 rintro⟨_,H2,n2⟩ ⟨rfl,g1,h2,h3⟩
 dsimp only at g1 h2 h3 ⊢
 have f2: ∀ m,m<nx→NoPut H m→H2.at' m=H.at' m:=fun m hm hp=>(h3 m (by omega) (by omega) (hp.same (f1 m hm hp) _)).trans (f1 m hm hp)
 have t1:=t0.set (y:=lp1) len1
 have hn2:nx<n2:=by omega
 clear h2 h3 f1
 (repeat(first|(refine aL rfl rfl rfl (by kernel_rfl) (Fnc.mono (jP _ _ _) ?_);rintro _ rfl;dsimp only)|(refine gA rfl rfl rfl Tryz.underlying42 rfl ?_)|(apply aj;exact rfl;exact rfl;exact rfl)))
 refine aL rfl rfl rfl (by kernel_rfl) (Fnc.mono (pD (k:=1) (e:=eA0) (x:=lp2) (sn:=1) g1 t1.len (t1.small (zn (by kernel_rfl))) (by kernel_rfl) (t1.home yS eA0) slot1 (by rw [t1.leaf];exact xH) len2 (by decide) (by decide) (by decide)) ?_)
 clear g1
 rintro⟨_,H3,n3⟩ ⟨rfl,g1,h2,h3⟩
 dsimp only at g1 h2 h3 ⊢
 have f3: ∀ m,m<nx→NoPut H m→H3.at' m=H.at' m:=fun m hm hp=>(h3 m (by omega) (by omega) (hp.same (f2 m hm hp) _)).trans (f2 m hm hp)
 have t2:=t1.set (y:=lp2) len2
 have hn3:nx<n3:=by omega
 clear h2 h3 f2
 (repeat(first|(refine aL rfl rfl rfl (by kernel_rfl) (Fnc.mono (jP _ _ _) ?_);rintro _ rfl;dsimp only)|(refine gA rfl rfl rfl Tryz.underlying42 rfl ?_)|(apply aj;exact rfl;exact rfl;exact rfl)))
 refine aL rfl rfl rfl (by kernel_rfl) (Fnc.mono (pD (k:=1) (e:=eB9) (x:=lp3) (sn:=2) g1 t2.len (t2.small (zn (by kernel_rfl))) (by kernel_rfl) (t2.home yR eB9) slot2 (by rw [t2.leaf];exact xG) len3 (by decide) (by decide) (by decide)) ?_)
 clear g1
 rintro⟨_,H4,n4⟩ ⟨rfl,g1,h2,h3⟩
 dsimp only at g1 h2 h3 ⊢
 have f4: ∀ m,m<nx→NoPut H m→H4.at' m=H.at' m:=fun m hm hp=>(h3 m (by omega) (by omega) (hp.same (f3 m hm hp) _)).trans (f3 m hm hp)
 have t3:=t2.set (y:=lp3) len3
 have hn4:nx<n4:=by omega
 clear h2 h3 f3
 (repeat(first|(refine gA rfl rfl rfl Tryz.underlying42 rfl ?_)|refine aq ?_|refine ae ?_|refine ac ?_|(apply aj;exact rfl;exact rfl;exact rfl)|(apply ai;exact rfl;exact rfl;exact rfl)))
 refine cn fun hund4=>?_
 refine aL rfl rfl rfl (by kernel_rfl) (Fnc.mono (yZ (l:= [eB9,eB1]) ⟨#[98]⟩ (by kernel_rfl) g1 t3.len (t3.small (zn (by kernel_rfl))) ((t3.ent qt _).trans (by kernel_rfl)) (by decide)) ?_)
 rintro⟨_,H5,n5⟩ ⟨p1,p2,s,rfl,(⟨h,_⟩|⟨rt,_,rfl,r2,r3,r4⟩)⟩
 ·cases h
 dsimp only at p1 p2 r3 r4 ⊢
 have f5: ∀ m,m<nx→NoPut H m→H5.at' m=H.at' m:=fun m hm hp=>(p2 m (by omega)).trans (f4 m hm hp)
 replace g1:=g1.frame hund4 p2
 clear p2 f4 hund4
 (repeat(first|(refine aL rfl rfl rfl (by kernel_rfl) (Fnc.mono (jP _ _ _) ?_);rintro _ rfl;dsimp only)|(refine gA rfl rfl rfl Tryz.underlying42 rfl ?_)|refine aq ?_|refine ae ?_|refine ac ?_|(apply aj;exact rfl;exact rfl;exact rfl)|(apply ai;exact rfl;exact rfl;exact rfl)|(apply aD;exact rfl;exact rfl;exact rfl;exact rfl)))
 refine cn fun hund5=>?_
 refine aL rfl rfl rfl (by kernel_rfl) (Fnc.mono (xJ (k:=1) (e:=eA0) g1 t3.len (t3.small (zn (by kernel_rfl))) (by kernel_rfl) (t3.home qt eA0) yy) ?_)
 rintro⟨_,H6,n6⟩ ⟨rfl,p2,p3⟩
 dsimp only at p2 p3 ⊢
 have f6: ∀ m,m<nx→NoPut H m→H6.at' m=H.at' m:=fun m hm hp=>(p3 m (by omega)).trans (f5 m hm hp)
 replace g1:=g1.frame hund5 p3
 replace r4:=(p3 rt r3).trans r4
 have k6:rt<n6:=by omega
 have m6:nx<n6:=by omega
 clear p3 f5 hund5
 (repeat(first|(refine aL rfl rfl rfl (by kernel_rfl) (Fnc.mono (jP _ _ _) ?_);rintro _ rfl;dsimp only)|(refine gA rfl rfl rfl Tryz.underlying42 rfl ?_)|(apply aj;exact rfl;exact rfl;exact rfl)))
 refine cn fun hund6=>?_
 refine aL rfl rfl rfl (by kernel_rfl) (Fnc.mono (qH (k:=1) (e:=eC0) g1 t3.len (t3.small (zn (by kernel_rfl))) (by kernel_rfl) (t3.home qt eC0) yx) ?_)
 rintro⟨_,H7,n7⟩ ⟨rfl,p4,p5⟩
 dsimp only at p4 p5 ⊢
 have f7: ∀ m,m<nx→NoPut H m→H7.at' m=H.at' m:=fun m hm hp=>(p5 m (by omega)).trans (f6 m hm hp)
 replace g1:=g1.frame hund6 p5
 replace r4:=(p5 rt k6).trans r4
 have k7:rt<n7:=by omega
 clear p5 f6 hund6
 (repeat(first|(refine gA rfl rfl rfl Tryz.underlying42 rfl ?_)|refine aq ?_|refine ae ?_|refine ac ?_|(apply aj;exact rfl;exact rfl;exact rfl)|(apply ai;exact rfl;exact rfl;exact rfl)))
 have he:t5 (lN (lN (lN M0 1 lp1) 1 lp2) 1 lp3) (inR ⟨#[97]⟩ ⟨#[98]⟩)=some [eA0]:=(t3.ent qt _).trans (by kernel_rfl)
 refine aL rfl rfl rfl (by kernel_rfl) (Fnc.mono (xg ⟨#[97]⟩ ⟨#[98]⟩ g1 t3.len (t3.small (zn (by kernel_rfl)))) ?_)
 rintro⟨_,H8,n8⟩ ⟨p6,p7,(⟨hn,rfl⟩|⟨l,s,hn,rfl,w⟩)⟩
 ·rw [he] at hn;cases hn
 rw [he] at hn
 cases hn
 dsimp only at p6 p7 w ⊢
 have f8: ∀ m,m<nx→NoPut H m→H8.at' m=H.at' m:=fun m hm hp=>(p7 m (by omega)).trans (f7 m hm hp)
 replace r4:=(p7 rt k7).trans r4
 clear p7 f7
 (repeat(first|(refine aL rfl rfl rfl (by kernel_rfl) (Fnc.mono (jP _ _ _) ?_);rintro _ rfl;dsimp only)|(refine aL rfl rfl rfl (by kernel_rfl) (Fnc.mono (mO _) ?_);rintro _ rfl;dsimp only)|(refine eQ rfl rfl rfl rfl (fun _=>?_) (fun hq=>absurd rfl hq))|(refine fm (q:=0) rfl rfl rfl rfl (F.un _ rfl) (F.sz _ rfl) r4 rfl (by decide) (zD _) ?_)|(refine fm (q:=1) rfl rfl rfl rfl (F.un _ rfl) (F.sz _ rfl) r4 rfl (by decide) (zD _) ?_)|(refine fS (us:= [.int .i64 39,.int .i64 9]) rfl rfl rfl (F.ag _ rfl) r4 rfl rfl (by decide) ?_)|(refine fS (us:= [.int .i64 40,.int .i64 1]) rfl rfl rfl (F.ag _ rfl) r4 rfl rfl (by decide) ?_)|((apply sr (r:=true) (a:=(39,9)) (b:=(39,9));exact rfl;exact rfl;(focus(decide));exact rfl;exact rfl))|((apply sr (r:=true) (a:=(40,1)) (b:=(40,1));exact rfl;exact rfl;(focus(decide));exact rfl;exact rfl))|refine aq ?_|refine ae ?_|refine ac ?_|(apply aj;exact rfl;exact rfl;exact rfl)|(apply ai;exact rfl;exact rfl;exact rfl)|(apply aX;exact rfl;exact rfl;exact rfl;exact rfl)|(apply aD;exact rfl;exact rfl;exact rfl;exact rfl)|(apply a6;exact rfl;exact rfl;exact rfl;exact(F.un _ rfl))|(apply bn;exact rfl;exact rfl;exact rfl;exact rfl;(focus(omega));(focus(omega)))|(apply bc;exact rfl;exact rfl;exact rfl;exact(F.ze _ rfl);exact(F.pl _ rfl);exact rfl)|(apply bE;exact rfl;exact rfl;exact(F.un _ rfl);exact(F.sz _ rfl);exact rfl;exact(F.ze _ rfl);exact rfl;exact rfl;exact rfl;exact rfl;exact rfl)))
 trace_state
 refine aL rfl rfl rfl (by kernel_rfl) (Fnc.mono (yB (l1:= [eA0]) (l2:= [eA0]) (lo1:=n7) (hi1:=n8) (lo2:=n8) (hi2:=n8+1) (w.frame (zD _) fun m h1 h2 _=>(by(repeat(refine(Tr.aa _ _ (by omega)).trans ?_));exact rfl)) (.inr ⟨n8,by simp,rfl,zD _,Nat.lt_succ_self _,Eq.trans (b:=some (fQ false 1 3 25 ((iV eA0).map .sc))) (by(repeat(exact Tr.ab _ _ _));done) (congrArg some (cR _ _ _ _ (iV eA0)))⟩) (by decide) (by decide)) ?_)
 rintro _ rfl
 dsimp only
 (repeat(first|refine ac ?_|(apply ai;exact rfl;exact rfl;exact rfl)|(apply aX;exact rfl;exact rfl;exact rfl;exact rfl)))
 ((apply bf Tryz.func7 (congrArg Array.toList Tryz.results7));(focus(repeat(first|exact ResIs.nil|apply ResIs.tmp rfl))))
 exact⟨rfl,by first|omega|(dsimp only;omega),fun m hm hp=>by(focus((repeat(refine(Tr.aa _ _ (by omega)).trans ?_));exact f8 m hm hp))⟩
abbrev l7(l:List UInt8):SV:= .tup [eO ((ofL l).getD ei),.sc (.bool (ofL l).isSome)]
theorem po(l:List UInt8):Free (l7 l):=Free.two (lB _) (Free.sc _)
theorem iL{l:List UInt8}(h:ofL l=none):l7 l = .tup [eO ei,.sc (.bool false)]:=by simp only [l7,h];rfl
theorem k9{l:List UInt8}{e:cO}(h:ofL l=some e):l7 l = .tup [eO e,.sc (.bool true)]:=by simp only [l7,h];rfl
theorem tE(e:cO){H:aJ}{nx:Nat}:Fnc Tryz.prog 12 [eO e] H nx (fun q=>q=(.sc (.bool (kF e)),H,nx)):=Ctr.callV (tD e) [] rfl (ExtOk.of rfl) rfl trivial rfl
theorem xE(a b:cO){H:aJ}{nx:Nat}:Fnc Tryz.prog 14 [eO a,eO b] H nx (fun q=>q=(.sc (.bool (eI a b)),H,nx)):=Ctr.callV (rK a b) [] rfl (ExtOk.of rfl) rfl trivial rfl
theorem w6{H:aJ}{nx r eo:Nat}{ro:Bool}{w l:List UInt8}(hr:H.at' r=some (u8R ro (byV w)))(he:eo+l.length=w.length)(hl:w.drop eo=l)(h9:l.length≤9000):Fnc Tryz.prog 10 [.slu r eo l.length] H nx (fun q=>q=(l7 l,H,nx)):=by
 refine Fnc.dp (po _) ?_
 refine Fnc.start Tryz.func10 rfl rfl ?_
 refine cn fun hund=>?_
 have hlt:=hund _ _ hr
 (repeat(first|refine aq ?_|refine ae ?_|refine ac ?_|(apply aj;exact rfl;exact rfl;exact rfl)|(apply ai;exact rfl;exact rfl;exact rfl)|(apply aP;exact rfl;exact rfl;exact(F.zl _ rfl))|(apply a6;exact rfl;exact rfl;exact rfl;exact(F.un _ rfl))))
 refine bR rfl rfl rfl rfl (fun h1=>?_) (fun h1=>?_)
 ·(repeat(first|refine aq ?_|refine ae ?_|refine ac ?_|refine ax rfl ?_|(apply ai;exact rfl;exact rfl;exact rfl)|refine aM rfl rfl rfl rfl (F.sz _ rfl) (by(repeat(exact Tr.ab _ _ _));done) rfl (by exact zn rfl) rfl ?_|(apply bc;exact rfl;exact rfl;exact rfl;exact(F.ze _ rfl);exact(F.pl _ rfl);exact rfl)))
  ((apply bf Tryz.func10 (congrArg Array.toList Tryz.results10));(focus(repeat(first|exact ResIs.nil|apply ResIs.tmp rfl|apply ResIs.cell rfl (LoadIs.many (F.ag _ rfl) (by(repeat(exact Tr.ab _ _ _));done) (aw _ 0 rfl rfl))))))
  exact⟨(iL (nW (by omega))).symm,zM _,fun m hm=>by(focus((repeat(refine(Tr.aa _ _ (by omega)).trans ?_));exact rfl))⟩
 (repeat(first|refine aq ?_|refine ac ?_|refine aH ?_|refine au rfl ?_))
 rcases l with _|⟨b0,_|⟨b1,_|⟨b2,rr⟩⟩⟩
 ·simp at h1
 ·simp at h1
 ·simp at h1
 have hll:(b0 :: b1 :: b2 :: rr).length=rr.length+3:=rfl
 rw [hll] at he h1 ⊢
 have hr1: ∀ vo,(H.set nx vo).at' r=some (u8R ro (byV w)):=fun vo=>(Tr.aa _ _ (by omega)).trans hr
 have hwl:(byV w).length=rr.length+3+eo:=by rw [fk];omega
 have hw0:w[eo]? =some b0:=by rw [← Nat.add_zero eo,←List.getElem?_drop,hl];rfl
 have hw1:w[eo+1]? =some b1:=by rw [← List.getElem?_drop,hl];rfl
 have hv0:(byV w)[eo]? =some (.int .u8 (b0.toNat:Int)):=by rw [List.getElem?_map,hw0];rfl
 have hv1:(byV w)[eo+1]? =some (.int .u8 (b1.toNat:Int)):=by rw [List.getElem?_map,hw1];rfl
 have hd2:w.drop (eo+2)=b2 :: rr:=by rw [← List.drop_drop,hl];rfl
 have hbs: ∀ vo,BsIs (H.set nx vo) (.slu r (eo+2) (rr.length+3-2)) (u8L ⟨(b2 :: rr).toArray⟩):=fun vo=>by
  have:=nq (l:=b2 :: rr) (eo:=eo+2) (hr1 vo) (by simp only [zG];omega) hd2
  exact this
 (apply cY;(focus(kernel_rfl));(focus(kernel_rfl)))
 (repeat(first|((apply bl;exact rfl;exact rfl;exact(fun _ h=>by cases h);exact(eU (F.un _ rfl) (F.sz _ rfl) rfl rfl (hr1 _) (by omega) (by omega) (by omega))))|((apply ju (v:= .int .u8 (b0.toNat:Int));exact rfl;exact rfl;exact rfl;exact(F.ag _ rfl);exact(hr1 _);(focus(rw [show(eo+(0:Int).toNat)*1=eo by simp];exact hv0));(focus(rw [hwl];simp))))|((apply ju (v:= .int .u8 (b1.toNat:Int));exact rfl;exact rfl;exact rfl;exact(F.ag _ rfl);exact(hr1 _);(focus(rw [show(eo+(1:Int).toNat)*1=eo+1 by simp];exact hv1));(focus(rw [hwl];simp;omega))))|(apply ua;exact rfl;exact rfl;exact rfl;exact(F.un _ rfl);exact(F.un _ rfl);exact(kX _))|(apply bl;exact rfl;exact rfl;exact(fun _ h=>by cases h);exact(fY (l:=2) (h:=rr.length+3) (F.un _ rfl) (F.sz _ rfl) rfl (hr1 _) rfl rfl (by omega) (by omega) (by omega)))|((apply ij;exact rfl;exact rfl;exact rfl;exact(F.un _ rfl);exact(F.un _ rfl);exact(F.un _ rfl);exact(hbs _)))|(apply bD;exact rfl;exact rfl;exact rfl)|(apply dF;exact rfl;exact rfl;exact(F.zl _ rfl))|(apply cQ;exact rfl;exact rfl;exact rfl;exact(F.ze _ rfl);exact(F.pl _ rfl);exact rfl)|refine oE rfl rfl rfl rfl (F.sz _ rfl) (by(repeat(exact Tr.ab _ _ _));done) rfl (by exact zn rfl) rfl ?_))
 have hbsG: ∀ H':aJ,H'.at' r=H.at' r→BsIs H' (.slu r (eo+2) (rr.length+3-2)) (u8L ⟨(b2 :: rr).toArray⟩):=fun H' h=>nq (l:=b2 :: rr) (eo:=eo+2) (h.trans hr) (by simp only [zG];omega) hd2
 (refine bZ ?_);(refine⟨by kernel_rfl,?_,?_⟩);(focus(repeat(first|exact trivial|refine⟨.inl (bJ rfl),?_⟩|refine⟨.inr ⟨0,by kernel_rfl,AllH.all (fun _=>(by first|exact bC rfl|exact d5 rfl (F.ze _ rfl) (F.pl _ rfl) rfl)) _⟩,?_⟩|refine⟨.inr ⟨0,by kernel_rfl,(by(refine⟨(by first|exact fY (l:=2) (h:=rr.length+3) (F.un _ rfl) (F.sz _ rfl) rfl (by(repeat(refine(Tr.aa _ _ (by omega)).trans ?_));exact hr) rfl rfl (by omega) (by omega) (by omega)|exact eT (F.un _ rfl) (F.un _ rfl) (F.un _ rfl) rfl (hbsG _ (by(repeat(refine(Tr.aa _ _ (by omega)).trans ?_));exact rfl))|exact eU (F.un _ rfl) (F.sz _ rfl) rfl rfl (by(repeat(refine(Tr.aa _ _ (by omega)).trans ?_));exact hr) (by omega) (by omega) (by omega)|exact aZ (v:= .sc (.int .u8 (b0.toNat:Int))) (F.ag _ rfl) rfl (by(repeat(refine(Tr.aa _ _ (by omega)).trans ?_));exact hr) (d8 (by rw [hwl];simp) (by first|exact hv0|(rw [show(eo+(0:Int).toNat)*1=eo by simp];exact hv0)))|exact aZ (v:= .sc (.int .u8 (b1.toNat:Int))) (F.ag _ rfl) rfl (by(repeat(refine(Tr.aa _ _ (by omega)).trans ?_));exact hr) (d8 (by rw [hwl];simp;omega) (by(rw [show(eo+(1:Int).toNat)*1=eo+1 by simp];exact hv1)))|exact jK (F.un _ rfl) (F.un _ rfl) rfl (kX _)),?_⟩;(repeat(refine⟨(by first|exact fY (l:=2) (h:=rr.length+3) (F.un _ rfl) (F.sz _ rfl) rfl (by(repeat(refine(Tr.aa _ _ (by omega)).trans ?_));exact hr) rfl rfl (by omega) (by omega) (by omega)|exact eT (F.un _ rfl) (F.un _ rfl) (F.un _ rfl) rfl (hbsG _ (by(repeat(refine(Tr.aa _ _ (by omega)).trans ?_));exact rfl))|exact eU (F.un _ rfl) (F.sz _ rfl) rfl rfl (by(repeat(refine(Tr.aa _ _ (by omega)).trans ?_));exact hr) (by omega) (by omega) (by omega)|exact aZ (v:= .sc (.int .u8 (b0.toNat:Int))) (F.ag _ rfl) rfl (by(repeat(refine(Tr.aa _ _ (by omega)).trans ?_));exact hr) (d8 (by rw [hwl];simp) (by first|exact hv0|(rw [show(eo+(0:Int).toNat)*1=eo by simp];exact hv0)))|exact aZ (v:= .sc (.int .u8 (b1.toNat:Int))) (F.ag _ rfl) rfl (by(repeat(refine(Tr.aa _ _ (by omega)).trans ?_));exact hr) (d8 (by rw [hwl];simp;omega) (by(rw [show(eo+(1:Int).toNat)*1=eo+1 by simp];exact hv1)))|exact jK (F.un _ rfl) (F.un _ rfl) rfl (kX _)),?_⟩));exact trivial))⟩,?_⟩)))
 cases hm2:kF (ux b0 b1 b2 rr)with
 | false=>
   (repeat(first|refine aq ?_|refine ae ?_|refine ac ?_|refine ax rfl ?_|(apply ai;exact rfl;exact rfl;exact rfl)|refine aM rfl rfl rfl rfl (F.sz _ rfl) (by(repeat(first|exact Tr.ab _ _ _|refine(Tr.aa _ _ (by omega)).trans ?_));done) rfl (by exact zn rfl) rfl ?_|refine ay rfl rfl rfl (F.ag _ rfl) (by(repeat(exact Tr.ab _ _ _));done) (by exact rfl) ?_|(apply bh;exact rfl;exact rfl;exact rfl)|(apply bc;exact rfl;exact rfl;exact rfl;exact(F.ze _ rfl);exact(F.pl _ rfl);exact rfl)|(refine aL rfl rfl rfl (by kernel_rfl) (Fnc.mono (tE (ux b0 b1 b2 rr)) ?_);rintro _ rfl;dsimp only;rw [hm2])))
   ((apply bf Tryz.func10 (congrArg Array.toList Tryz.results10));(focus(repeat(first|exact ResIs.nil|apply ResIs.tmp rfl|apply ResIs.cell rfl (LoadIs.many (F.ag _ rfl) (by(repeat(exact Tr.ab _ _ _));done) (aw _ 0 rfl rfl))))))
   exact⟨(iL (to hm2)).symm,by dsimp only;omega,fun m hm=>by(focus((repeat(refine(Tr.aa _ _ (by omega)).trans ?_));exact rfl))⟩
 | true=>
   (repeat(first|refine aq ?_|refine ae ?_|refine ac ?_|refine aH ?_|refine au rfl ?_|(apply ai;exact rfl;exact rfl;exact rfl)|refine aM rfl rfl rfl rfl (F.sz _ rfl) (by(repeat(first|exact Tr.ab _ _ _|refine(Tr.aa _ _ (by omega)).trans ?_));done) rfl (by exact zn rfl) rfl ?_|refine ay rfl rfl rfl (F.ag _ rfl) (by(repeat(exact Tr.ab _ _ _));done) (by exact rfl) ?_|(apply bh;exact rfl;exact rfl;exact rfl)|(refine aL rfl rfl rfl (by kernel_rfl) (Fnc.mono (tE (ux b0 b1 b2 rr)) ?_);rintro _ rfl;dsimp only;rw [hm2])))
   ((apply bf Tryz.func10 (congrArg Array.toList Tryz.results10));(focus(repeat(first|exact ResIs.nil|apply ResIs.tmp rfl|apply ResIs.cell rfl (LoadIs.many (F.ag _ rfl) (by(repeat(exact Tr.ab _ _ _));done) (aw _ 0 rfl rfl))))))
   exact⟨(k9 (tn hm2)).symm,by dsimp only;omega,fun m hm=>by(focus((repeat(refine(Tr.aa _ _ (by omega)).trans ?_));exact rfl))⟩
theorem vU{H:aJ}{nx:Nat}(e:cO)(hm:kF e=false):Fnc Tryz.prog 8 [eO e] H nx (fun q=>q=(.tup [dl,.sc (.int .i64 2)],H,nx)):=by
 refine Fnc.dp (Free.two (Free.sc _) (Free.sc _)) ?_
 refine Fnc.start Tryz.func8 rfl rfl ?_
 have hmf:=fun(H:aJ) (nx:Nat)=>nZ e (H:=H) (nx:=nx)
 rw [hm] at hmf
 (repeat(first|(refine aL rfl rfl rfl (by kernel_rfl) (Fnc.mono (hmf _ _) ?_);rintro _ rfl;dsimp only)|refine aq ?_|refine ae ?_|refine ac ?_|refine ax rfl ?_|(apply ai;exact rfl;exact rfl;exact rfl)|(apply bj;exact rfl;exact rfl;exact rfl)|refine ay rfl rfl rfl (F.ag _ rfl) (by(repeat(exact Tr.ab _ _ _));done) (by exact rfl) ?_|(apply bh;exact rfl;exact rfl;exact rfl)))
 ((apply bf Tryz.func8 (congrArg Array.toList Tryz.results8));(focus(repeat(first|exact ResIs.nil|apply ResIs.tmp rfl))))
 exact⟨rfl,zM _,fun m hm=>by(focus((repeat(refine(Tr.aa _ _ (by omega)).trans ?_));exact rfl))⟩
theorem rm{H:aJ}{nx:Nat}(e:cO)(hm:kF e=true):Fnc Tryz.prog 16 [eO e] H nx (fun q=> ∃ r,q.1 = .slu r 0 (cy e).length∧q.2.1.at' r=some (u8R false (byV (cy e)))∧nx≤r∧r<q.2.2∧ ∀ m,m<nx→q.2.1.at' m=H.at' m):=by
 obtain⟨⟨h1,h2⟩,h3,h4,h5,h6⟩:=mQ.1 hm
 have w1:IntKind.u8.wrap e.2.1=((UInt8.ofNat e.2.1.toNat).toNat:Int):=by rw [← qY,Int.toNat_of_nonneg (by omega)]
 have w2:IntKind.u8.wrap e.2.2=((UInt8.ofNat e.2.2.toNat).toNat:Int):=by rw [← qY,Int.toNat_of_nonneg (by omega)]
 refine Fnc.start Tryz.func16 rfl rfl ?_
 (repeat(first|(refine eR rfl rfl rfl (F.un _ rfl) (F.un _ rfl) w1 ?_)|(refine eR rfl rfl rfl (F.un _ rfl) (F.un _ rfl) w2 ?_)|((apply lV;exact rfl;exact rfl;exact(F.un _ rfl);exact(F.un _ rfl);exact(F.un _ rfl);exact rfl;(focus(omega))))|refine aq ?_|refine ae ?_|refine ac ?_|(apply ai;exact rfl;exact rfl;exact rfl)|(apply ap;exact rfl;exact rfl;exact rfl;exact(F.fo _ _ rfl rfl))|(apply bj;exact rfl;exact rfl;exact rfl)|refine an rfl rfl rfl (F.ag _ rfl) (by(repeat(first|exact Tr.ab _ _ _|refine(Tr.aa _ _ (by omega)).trans ?_));done) (by exact rfl) ?_|(apply bE;exact rfl;exact rfl;exact(F.un _ rfl);exact(F.sz _ rfl);exact rfl;exact(F.ze _ rfl);exact rfl;exact rfl;exact rfl;exact rfl;exact rfl)))
 have hrow:fQ false (2+e.1.size) 1 5 ((byV [UInt8.ofNat e.2.1.toNat,UInt8.ofNat e.2.2.toNat]).map .sc ++ (u8L e.1).map .sc)=u8R false (byV (cy e)):=by
  have e1:(byV (cy e)).length=2+e.1.size:=by rw [fk,ip];omega
  show _=dat false (byV (cy e)).length 1 _ _
  rw [e1]
  exact cR _ _ _ _ (byV (cy e))
 refine yl (b:=1) (m:=e.1.size) (n:=2) (r:=nx+1) (ws:=(byV [UInt8.ofNat e.2.1.toNat,UInt8.ofNat e.2.2.toNat]).map .sc) (cs:=(u8L e.1).map .sc) rfl rfl rfl rfl (F.un _ rfl) (.inl ⟨_,F.un _ rfl⟩) (F.sz _ rfl) rfl (by kernel_rfl) (by kernel_rfl) (by(repeat(first|exact Tr.ab _ _ _|refine(Tr.aa _ _ (by omega)).trans ?_));done) rfl (SlOf.cells (SlOf.row (Eq.trans (b:=some (dat false e.1.size 1 5 (u8L e.1))) (by(repeat(exact Tr.ab _ _ _));done) (congrArg some (cR _ _ _ _ _).symm)) (by rw [List.length_map,wS,Nat.mul_one]))) (fO (xu _)) (by omega) (by omega) (by omega) ?_
 rw [hrow]
 (repeat(first|refine ac ?_|(apply ai;exact rfl;exact rfl;exact rfl)))
 ((apply bf Tryz.func16 (congrArg Array.toList Tryz.results16));(focus(repeat(first|exact ResIs.nil|apply ResIs.tmp rfl))))
 have hle:=ip e
 exact⟨nx+1+1+1,by rw [hle,show e.1.size+2=2+e.1.size from Nat.add_comm _ _];rfl,by(focus((repeat(exact Tr.ab _ _ _));done)),by omega,Nat.lt_succ_self _,fun m hm=>by(focus((repeat(first|refine(Tr.aa _ _ (by omega)).trans ?_|refine(Tr.ah _ (by omega)).trans ?_));exact rfl))⟩
section
variable {P:Program} {H:aJ} {T:Tr SV} {d:Option Tmp} {ty:TypeId} {pos:String} {af:Array Edge} {gd:Option (Nat×Bool)}
theorem w8{t:TypeId}{x y:Operand}{yt:TypeId}{a b:Bool}(hx:am T x=some (.sc (.bool a)))(hy:am T y=some (.sc (.bool b)))(hu:P.underlying t=some .bool):ReadDoes P T H ⟨d,.binOp .neq t x y yt,ty,pos,af,gd⟩ (.sc (.bool (!(a == b)))):=by
 refine cS fun ev w he=>?_
 have e1:=he x _ hx _ rfl
 have e2:=he y _ hy _ rfl
 have hg:(eqGuard .neq t x y (.bool a) (.bool b)).run P w = .ok () w:=rfl
 simp only [execOp,e1,e2,Sem.run_bind,hg,run_neq_bool w t a b hu,Result.andThen_ok,Sem.run_pure]
end
theorem vV(a:Bool):(!(a == a))=false:=by cases a <;> rfl
section
variable {P:Program} {H:aJ} {T:Tr SV} {d:Option Tmp} {ty:TypeId} {pos:String} {af:Array Edge} {gd:Option (Nat×Bool)}
theorem d4{t:TypeId}{x y:Operand}{yt:TypeId}{a:Bool}(hx:am T x=some (.sc (.bool a)))(hy:am T y=some (.sc (.bool a)))(hu:P.underlying t=some .bool):ReadDoes P T H ⟨d,.binOp .neq t x y yt,ty,pos,af,gd⟩ (.sc (.bool false)):=by
 have h:=w8 (d:=d) (ty:=ty) (pos:=pos) (af:=af) (gd:=gd) (yt:=yt) (H:=H) hx hy hu
 rwa [vV] at h
end
theorem pZ{H:aJ}{m:Nat}{ro:Bool}{l:List Value}(h:H.at' m=some (u8R ro l)):NoPut H m:=fun c ws h2=>by
 rw [h] at h2
 unfold u8R dat at h2
 injection h2 with h2
 injection h2 with _ _ h2
 exact absurd h2 (by decide)
theorem l8{H:aJ}{nx:Nat}(e:cO)(hm:kF e=true):Fnc Tryz.prog 16 [eO e] H nx (fun q=>q=(.slu nx 0 (cy e).length,H.set nx (u8R false (byV (cy e))),nx+1)):=
 Fnc.next ((rm e hm).mono fun q ⟨r,h1,h2,h3,h4,h5⟩=>⟨r,h1,h2,h3,h4,by omega,h5⟩)
theorem pG{H:aJ}{nx r:Nat}{ro:Bool}{a b:cO}{c:List UInt8}(hr:H.at' r=some (u8R ro (byV c))):Fnc Tryz.prog 3 [eO a,eO b,.slu r 0 c.length] H nx (fun q=>q.1 = .sc (.bool true)∧nx≤q.2.2∧ ∀ m,m<nx→NoPut H m→q.2.1.at' m=H.at' m):=by
 refine Fnc.start Tryz.func3 rfl rfl ?_
 refine cn fun hund=>?_
 have hlt:=hund _ _ hr
 (repeat(first|refine aq ?_|refine ae ?_|refine ac ?_|(apply ai;exact rfl;exact rfl;exact rfl)|(apply ap;exact rfl;exact rfl;exact rfl;exact(F.fo _ _ rfl rfl))|(apply bj;exact rfl;exact rfl;exact rfl)|refine an rfl rfl rfl (F.ag _ rfl) (by(repeat(first|exact Tr.ab _ _ _|refine(Tr.aa _ _ (by omega)).trans ?_));done) (by exact rfl) ?_|(apply be;exact rfl;exact rfl;exact rfl;exact(F.un _ rfl))))
 refine e9 rfl rfl rfl rfl (fun c1=>?_) (fun c1=>?_)
 ·(repeat(first|refine aq ?_|refine ae ?_|refine ac ?_|refine ax rfl ?_|(apply aj;exact rfl;exact rfl;exact rfl)|(apply aX;exact rfl;exact rfl;exact rfl;exact rfl)|(apply bT;exact rfl)))
  refine aL rfl rfl rfl (by kernel_rfl) (Fnc.mono iR ?_)
  rintro⟨_,Hk,nk⟩ ⟨rfl,z1,z2⟩
  dsimp only at z1 z2 ⊢
  (repeat(first|refine ac ?_|(apply ai;exact rfl;exact rfl;exact rfl)))
  ((apply bf Tryz.func3 (congrArg Array.toList Tryz.results3));(focus(repeat(first|exact ResIs.nil|apply ResIs.tmp rfl))))
  exact⟨rfl,by first|omega|(dsimp only;omega),fun m hm hp=>(z2 m (by omega) (hp.same (by(repeat(refine(Tr.aa _ _ (by omega)).trans ?_));exact rfl))).trans (by(repeat(refine(Tr.aa _ _ (by omega)).trans ?_));exact rfl)⟩
 (repeat(first|(apply aj;exact rfl;exact rfl;exact rfl)|(apply ap;exact rfl;exact rfl;exact rfl;exact(F.fo _ _ rfl rfl))|refine an rfl rfl rfl (F.ag _ rfl) (by(repeat(exact Tr.ab _ _ _));done) (by exact rfl) ?_|(apply be;exact rfl;exact rfl;exact rfl;exact(F.un _ rfl))))
 refine e9 rfl rfl rfl rfl (fun c2=>?_) (fun c2=>?_)
 ·(repeat(first|refine aq ?_|refine ae ?_|refine ac ?_|refine ax rfl ?_|(apply aj;exact rfl;exact rfl;exact rfl)|(apply aX;exact rfl;exact rfl;exact rfl;exact rfl)|(apply aO;exact rfl;exact rfl;exact rfl;exact rfl)|(apply bT;exact rfl)))
  refine aL rfl rfl rfl (by kernel_rfl) (Fnc.mono iR ?_)
  rintro⟨_,Hk,nk⟩ ⟨rfl,z1,z2⟩
  dsimp only at z1 z2 ⊢
  (repeat(first|refine ac ?_|(apply ai;exact rfl;exact rfl;exact rfl)))
  ((apply bf Tryz.func3 (congrArg Array.toList Tryz.results3));(focus(repeat(first|exact ResIs.nil|apply ResIs.tmp rfl))))
  exact⟨rfl,by first|omega|(dsimp only;omega),fun m hm hp=>(z2 m (by omega) (hp.same (by(repeat(refine(Tr.aa _ _ (by omega)).trans ?_));exact rfl))).trans (by(repeat(refine(Tr.aa _ _ (by omega)).trans ?_));exact rfl)⟩
 (repeat(first|(apply aj;exact rfl;exact rfl;exact rfl)|(apply aO;exact rfl;exact rfl;exact rfl;exact rfl)|(apply a6;exact rfl;exact rfl;exact rfl;exact(F.un _ rfl))))
 refine e9 rfl rfl rfl rfl (fun c3=>?_) (fun c3=>?_)
 ·(repeat(first|refine aq ?_|refine ae ?_|refine ac ?_|refine ax rfl ?_|(apply aO;exact rfl;exact rfl;exact rfl;exact rfl)))
  refine aL rfl rfl rfl (by kernel_rfl) (Fnc.mono iR ?_)
  rintro⟨_,Hk,nk⟩ ⟨rfl,z1,z2⟩
  dsimp only at z1 z2 ⊢
  (repeat(first|refine ac ?_|(apply ai;exact rfl;exact rfl;exact rfl)))
  ((apply bf Tryz.func3 (congrArg Array.toList Tryz.results3));(focus(repeat(first|exact ResIs.nil|apply ResIs.tmp rfl))))
  exact⟨rfl,by first|omega|(dsimp only;omega),fun m hm hp=>(z2 m (by omega) (hp.same (by(repeat(refine(Tr.aa _ _ (by omega)).trans ?_));exact rfl))).trans (by(repeat(refine(Tr.aa _ _ (by omega)).trans ?_));exact rfl)⟩
 (repeat(first|refine aq ?_|refine ae ?_|refine ac ?_|refine aH ?_|refine au rfl ?_|(apply aO;exact rfl;exact rfl;exact rfl;exact rfl)|refine ay rfl rfl rfl (F.ag _ rfl) (by(repeat(first|exact Tr.ab _ _ _|refine(Tr.aa _ _ (by omega)).trans ?_));done) (by exact rfl) ?_))
 obtain⟨z,er,ok,hof,hofr,hk⟩: ∃ (z:cO) (er:Int) (ok:Bool),(∀ (H:aJ) (nx:Nat),H.at' r=some (u8R ro (byV c))→Fnc Tryz.prog 9 [.slu r 0 c.length] H nx (fun q=>q=(.tup [eO z,.sc (.int .i64 er)],H,nx)))∧(∀ (H:aJ) (nx:Nat),H.at' r=some (u8R ro (byV c))→Fnc Tryz.prog 10 [.slu r 0 c.length] H nx (fun q=>q=(.tup [eO z,.sc (.bool ok)],H,nx)))∧((er=0∧ok=true)∨(er=13∧ok=false)):=by
  have hof:=fun(H:aJ) (nx:Nat) (h:H.at' r=some (u8R ro (byV c)))=>of_u (nx:=nx) (eo:=0) (l:=c) h (Nat.zero_add _) rfl (by omega)
  have hofr:=fun(H:aJ) (nx:Nat) (h:H.at' r=some (u8R ro (byV c)))=>w6 (nx:=nx) (eo:=0) (l:=c) h (Nat.zero_add _) rfl (by omega)
  cases ho:ofL c with
  | none=>rw [eZ ho] at hof;rw [iL ho] at hofr;exact⟨_,_,_,hof,hofr,.inr ⟨rfl,rfl⟩⟩
  | some e=>rw [hJ ho] at hof;rw [k9 ho] at hofr;exact⟨_,_,_,hof,hofr,.inl ⟨rfl,rfl⟩⟩
 have hzz:gu z z=true:=decide_eq_true rfl
 have hma:=fun(H:aJ) (nx:Nat)=>nZ a (H:=H) (nx:=nx)
 have hmr:=fun(H:aJ) (nx:Nat)=>tE a (H:=H) (nx:=nx)
 have hls:=fun(H:aJ) (nx:Nat)=>wp a b (H:=H) (nx:=nx)
 have hlr:=fun(H:aJ) (nx:Nat)=>xE a b (H:=H) (nx:=nx)
 cases hm:kF a with
 | false=>
   rw [hm] at hma hmr
   (repeat(first|(refine aL rfl rfl rfl (by kernel_rfl) (Fnc.mono (vU a hm) ?_);rintro _ rfl;dsimp only)|refine aq ?_|refine ae ?_|refine ac ?_|(apply aj;exact rfl;exact rfl;exact rfl)|(apply ai;exact rfl;exact rfl;exact rfl)|(apply aD;exact rfl;exact rfl;exact rfl;exact rfl)))
   refine aL rfl rfl rfl (by kernel_rfl) (Fnc.mono (hof _ _ (by(repeat(refine(Tr.aa _ _ (by omega)).trans ?_));exact hr)) ?_)
   rintro _ rfl
   dsimp only
   (repeat(first|refine aq ?_|refine ae ?_|refine ac ?_|(apply aj;exact rfl;exact rfl;exact rfl)|(apply ai;exact rfl;exact rfl;exact rfl)|(apply aD;exact rfl;exact rfl;exact rfl;exact rfl)|refine aM rfl rfl rfl rfl (F.sz _ rfl) (by(repeat(exact Tr.ab _ _ _));done) rfl (by exact zn rfl) rfl ?_|(apply aP;exact rfl;exact rfl;exact(F.zl _ rfl))))
   refine aL rfl rfl rfl (by kernel_rfl) (Fnc.mono (hofr _ _ (by(repeat(refine(Tr.aa _ _ (by omega)).trans ?_));exact hr)) ?_)
   rintro _ rfl
   dsimp only
   rcases hk with ⟨rfl,rfl⟩|⟨rfl,rfl⟩
   ·clear hof hofr
    (repeat(first|refine aq ?_|refine ac ?_|(apply aj;exact rfl;exact rfl;exact rfl)|(apply ai;exact rfl;exact rfl;exact rfl)|(apply aD;exact rfl;exact rfl;exact rfl;exact rfl)|refine aM rfl rfl rfl rfl (F.sz _ rfl) (by(repeat(exact Tr.ab _ _ _));done) rfl (by exact zn rfl) rfl ?_|(apply aP;exact rfl;exact rfl;exact(F.zl _ rfl))))
    (apply cY;(focus(kernel_rfl));(focus(kernel_rfl)))
    (repeat(first|((apply b9;exact rfl;exact rfl;exact rfl;(focus(kernel_rfl));exact(hma _ _)))|((apply b9;exact rfl;exact rfl;exact rfl;(focus(kernel_rfl));exact(hmr _ _)))|((apply b9;exact rfl;exact rfl;exact rfl;(focus(kernel_rfl));exact(hls _ _)))|((apply b9;exact rfl;exact rfl;exact rfl;(focus(kernel_rfl));exact(hlr _ _)))|((apply b9;exact rfl;exact rfl;exact rfl;(focus(kernel_rfl));exact(mO _)))|((apply bl;exact rfl;exact rfl;exact(fun _ h=>by cases h);exact(d4 rfl rfl Tryz.underlying4)))|((apply bl;exact rfl;exact rfl;exact(fun _ h=>by cases h);exact(di (a:=z) (b:=z) hzz rfl rfl)))|(refine gP rfl rfl rfl rfl (fun _=>?_) (fun hq=>absurd rfl hq))|refine bI rfl rfl rfl (F.ag _ rfl) (by(repeat(first|exact Tr.ab _ _ _|refine(Tr.aa _ _ (by omega)).trans ?_));done) (by exact rfl) ?_|(apply bD;exact rfl;exact rfl;exact rfl)|(apply cp;exact rfl;exact rfl;exact rfl;exact rfl)|(apply dS;exact rfl;exact rfl;exact rfl)|(apply cZ;exact rfl;exact rfl)))
    (refine bZ ?_);(refine⟨by kernel_rfl,?_,?_⟩);(focus(repeat(first|exact trivial|refine⟨.inl (bJ rfl),?_⟩|refine⟨.inl (eX rfl),?_⟩|refine⟨.inr ⟨0,by kernel_rfl,AllH.all (fun _=>(by first|exact bC rfl|exact fq rfl|exact cC rfl rfl)) _⟩,?_⟩|refine⟨.inr ⟨0,by kernel_rfl,(by(refine⟨(by first|exact bg (F.ag _ rfl) rfl (by(repeat(first|exact Tr.ab _ _ _|refine(Tr.aa _ _ (by omega)).trans ?_));done) (aw _ 0 rfl rfl)|exact d4 rfl rfl Tryz.underlying4|exact di (a:=z) (b:=z) hzz rfl rfl|exact cH rfl rfl (.inl ⟨rfl,rfl⟩)),?_⟩;(repeat(refine⟨(by first|exact bg (F.ag _ rfl) rfl (by(repeat(first|exact Tr.ab _ _ _|refine(Tr.aa _ _ (by omega)).trans ?_));done) (aw _ 0 rfl rfl)|exact d4 rfl rfl Tryz.underlying4|exact di (a:=z) (b:=z) hzz rfl rfl|exact cH rfl rfl (.inl ⟨rfl,rfl⟩)),?_⟩));exact trivial))⟩,?_⟩)))
    (repeat(first|(refine aL rfl rfl rfl (by kernel_rfl) (Fnc.mono (hmr _ _) ?_);rintro _ rfl;dsimp only)|(refine aL rfl rfl rfl (by kernel_rfl) (Fnc.mono (mO _) ?_);rintro _ rfl;dsimp only)|((apply dB;exact rfl;exact rfl;exact rfl;exact(F.un _ rfl)))|(refine eQ rfl rfl rfl rfl (fun _=>?_) (fun hq=>absurd rfl hq))|refine aq ?_|refine ae ?_|refine ac ?_|refine aH ?_|refine ax rfl ?_|refine au rfl ?_|(apply aj;exact rfl;exact rfl;exact rfl)|(apply aX;exact rfl;exact rfl;exact rfl;exact rfl)|refine ay rfl rfl rfl (F.ag _ rfl) (by(repeat(first|exact Tr.ab _ _ _|refine(Tr.aa _ _ (by omega)).trans ?_));done) (by exact rfl) ?_|(apply bh;exact rfl;exact rfl;exact rfl)))
    refine aL rfl rfl rfl (by kernel_rfl) (Fnc.mono iR ?_)
    rintro⟨_,Hk,nk⟩ ⟨rfl,z1,z2⟩
    dsimp only at z1 z2 ⊢
    (repeat(first|refine ac ?_|(apply ai;exact rfl;exact rfl;exact rfl)|(apply aX;exact rfl;exact rfl;exact rfl;exact rfl)))
    ((apply bf Tryz.func3 (congrArg Array.toList Tryz.results3));(focus(repeat(first|exact ResIs.nil|apply ResIs.tmp rfl))))
    exact⟨rfl,by first|omega|(dsimp only;omega),fun m hm hp=>(z2 m (by omega) (hp.same (by(repeat(refine(Tr.aa _ _ (by omega)).trans ?_));exact rfl))).trans (by(repeat(refine(Tr.aa _ _ (by omega)).trans ?_));exact rfl)⟩
   ·clear hof hofr
    (repeat(first|refine aq ?_|refine ac ?_|(apply aj;exact rfl;exact rfl;exact rfl)|(apply ai;exact rfl;exact rfl;exact rfl)|(apply aD;exact rfl;exact rfl;exact rfl;exact rfl)|refine aM rfl rfl rfl rfl (F.sz _ rfl) (by(repeat(exact Tr.ab _ _ _));done) rfl (by exact zn rfl) rfl ?_|(apply aP;exact rfl;exact rfl;exact(F.zl _ rfl))))
    (apply cY;(focus(kernel_rfl));(focus(kernel_rfl)))
    (repeat(first|((apply b9;exact rfl;exact rfl;exact rfl;(focus(kernel_rfl));exact(hma _ _)))|((apply b9;exact rfl;exact rfl;exact rfl;(focus(kernel_rfl));exact(hmr _ _)))|((apply b9;exact rfl;exact rfl;exact rfl;(focus(kernel_rfl));exact(hls _ _)))|((apply b9;exact rfl;exact rfl;exact rfl;(focus(kernel_rfl));exact(hlr _ _)))|((apply b9;exact rfl;exact rfl;exact rfl;(focus(kernel_rfl));exact(mO _)))|((apply bl;exact rfl;exact rfl;exact(fun _ h=>by cases h);exact(d4 rfl rfl Tryz.underlying4)))|((apply bl;exact rfl;exact rfl;exact(fun _ h=>by cases h);exact(di (a:=z) (b:=z) hzz rfl rfl)))|(refine gP rfl rfl rfl rfl (fun hq=>absurd hq (by decide)) (fun _=>?_))|(refine t8 rfl rfl rfl rfl (fun hq=>absurd rfl hq) (fun _=>?_))|refine bI rfl rfl rfl (F.ag _ rfl) (by(repeat(first|exact Tr.ab _ _ _|refine(Tr.aa _ _ (by omega)).trans ?_));done) (by exact rfl) ?_|(apply bD;exact rfl;exact rfl;exact rfl)|(apply bP;exact rfl;exact rfl;exact rfl;exact rfl)|(apply cp;exact rfl;exact rfl;exact rfl;exact rfl)|(apply dS;exact rfl;exact rfl;exact rfl)))
    (refine bZ ?_);(refine⟨by kernel_rfl,?_,?_⟩);(focus(repeat(first|exact trivial|refine⟨.inl (bJ rfl),?_⟩|refine⟨.inr ⟨0,by kernel_rfl,AllH.all (fun _=>(by first|exact bC rfl|exact fq rfl|exact ci rfl rfl|exact cC rfl rfl)) _⟩,?_⟩|refine⟨.inr ⟨0,by kernel_rfl,(by(refine⟨(by first|exact bg (F.ag _ rfl) rfl (by(repeat(first|exact Tr.ab _ _ _|refine(Tr.aa _ _ (by omega)).trans ?_));done) (aw _ 0 rfl rfl)|exact d4 rfl rfl Tryz.underlying4|exact di (a:=z) (b:=z) hzz rfl rfl|exact cH rfl rfl (.inl ⟨rfl,rfl⟩)|exact cH rfl rfl (.inr (.inl ⟨rfl,rfl⟩))),?_⟩;(repeat(refine⟨(by first|exact bg (F.ag _ rfl) rfl (by(repeat(first|exact Tr.ab _ _ _|refine(Tr.aa _ _ (by omega)).trans ?_));done) (aw _ 0 rfl rfl)|exact d4 rfl rfl Tryz.underlying4|exact di (a:=z) (b:=z) hzz rfl rfl|exact cH rfl rfl (.inl ⟨rfl,rfl⟩)|exact cH rfl rfl (.inr (.inl ⟨rfl,rfl⟩))),?_⟩));exact trivial))⟩,?_⟩)))
    (repeat(first|(refine aL rfl rfl rfl (by kernel_rfl) (Fnc.mono (hmr _ _) ?_);rintro _ rfl;dsimp only)|(refine aL rfl rfl rfl (by kernel_rfl) (Fnc.mono (mO _) ?_);rintro _ rfl;dsimp only)|((apply dB;exact rfl;exact rfl;exact rfl;exact(F.un _ rfl)))|(refine eQ rfl rfl rfl rfl (fun _=>?_) (fun hq=>absurd rfl hq))|refine aq ?_|refine ae ?_|refine ac ?_|refine aH ?_|refine ax rfl ?_|refine au rfl ?_|(apply aj;exact rfl;exact rfl;exact rfl)|(apply aX;exact rfl;exact rfl;exact rfl;exact rfl)|refine ay rfl rfl rfl (F.ag _ rfl) (by(repeat(first|exact Tr.ab _ _ _|refine(Tr.aa _ _ (by omega)).trans ?_));done) (by exact rfl) ?_|(apply bh;exact rfl;exact rfl;exact rfl)))
    refine aL rfl rfl rfl (by kernel_rfl) (Fnc.mono iR ?_)
    rintro⟨_,Hk,nk⟩ ⟨rfl,z1,z2⟩
    dsimp only at z1 z2 ⊢
    (repeat(first|refine ac ?_|(apply ai;exact rfl;exact rfl;exact rfl)|(apply aX;exact rfl;exact rfl;exact rfl;exact rfl)))
    ((apply bf Tryz.func3 (congrArg Array.toList Tryz.results3));(focus(repeat(first|exact ResIs.nil|apply ResIs.tmp rfl))))
    exact⟨rfl,by first|omega|(dsimp only;omega),fun m hm hp=>(z2 m (by omega) (hp.same (by(repeat(refine(Tr.aa _ _ (by omega)).trans ?_));exact rfl))).trans (by(repeat(refine(Tr.aa _ _ (by omega)).trans ?_));exact rfl)⟩
 | true=>
   refine aL rfl rfl rfl (by kernel_rfl) (Fnc.mono (uk a hm) ?_)
   rintro⟨_,H1,n1⟩ ⟨rx,rfl,a1,a2,a3,a4⟩
   dsimp only at a1 a2 a3 a4 ⊢
   have b0:H1.at' nx=some (az 25 ((iV a).map .sc)):=(a4 _ (by omega)).trans (by(repeat(first|exact Tr.ab _ _ _|refine(Tr.aa _ _ (by omega)).trans ?_));done)
   have b1:H1.at' (nx+1)=some (az 25 ((iV b).map .sc)):=(a4 _ (by omega)).trans (by(repeat(exact Tr.ab _ _ _));done)
   have bo: ∀ m,m<nx→H1.at' m=H.at' m:=fun m hm=>(a4 m (by omega)).trans (by(repeat(refine(Tr.aa _ _ (by omega)).trans ?_));exact rfl)
   have hr1:=(bo r hlt).trans hr
   have hbb:((⟨(cy a).toArray⟩:ByteArray) == ⟨(cy a).toArray⟩)=true:=(MapKept.bytes_beq _ _).2 rfl
   clear a4
   rw [hm] at hma hmr
   (repeat(first|refine aq ?_|refine ae ?_|refine ac ?_|(apply aj;exact rfl;exact rfl;exact rfl)|(apply ai;exact rfl;exact rfl;exact rfl)|(apply aD;exact rfl;exact rfl;exact rfl;exact rfl)))
   refine aL rfl rfl rfl (by kernel_rfl) (Fnc.mono (hof _ _ (by exact hr1)) ?_)
   rintro _ rfl
   dsimp only
   (repeat(first|refine aq ?_|refine ae ?_|refine ac ?_|(apply aj;exact rfl;exact rfl;exact rfl)|(apply ai;exact rfl;exact rfl;exact rfl)|(apply aD;exact rfl;exact rfl;exact rfl;exact rfl)|refine aM rfl rfl rfl rfl (F.sz _ rfl) (by(repeat(first|assumption|exact Tr.ab _ _ _));done) rfl (by exact zn rfl) rfl ?_|(apply aP;exact rfl;exact rfl;exact(F.zl _ rfl))))
   refine aL rfl rfl rfl (by kernel_rfl) (Fnc.mono (hofr _ _ (by(repeat(refine(Tr.aa _ _ (by omega)).trans ?_));exact hr1)) ?_)
   rintro _ rfl
   dsimp only
   rcases hk with ⟨rfl,rfl⟩|⟨rfl,rfl⟩
   ·clear hof hofr
    (repeat(first|refine aq ?_|refine ac ?_|(apply aj;exact rfl;exact rfl;exact rfl)|(apply ai;exact rfl;exact rfl;exact rfl)|(apply aD;exact rfl;exact rfl;exact rfl;exact rfl)|refine aM rfl rfl rfl rfl (F.sz _ rfl) (by(repeat(first|assumption|exact Tr.ab _ _ _));done) rfl (by exact zn rfl) rfl ?_|(apply aP;exact rfl;exact rfl;exact(F.zl _ rfl))))
    (apply cY;(focus(kernel_rfl));(focus(kernel_rfl)))
    (repeat(first|((apply b9;exact rfl;exact rfl;exact rfl;(focus(kernel_rfl));exact(hma _ _)))|((apply b9;exact rfl;exact rfl;exact rfl;(focus(kernel_rfl));exact(hmr _ _)))|((apply b9;exact rfl;exact rfl;exact rfl;(focus(kernel_rfl));exact(hls _ _)))|((apply b9;exact rfl;exact rfl;exact rfl;(focus(kernel_rfl));exact(hlr _ _)))|((apply b9;exact rfl;exact rfl;exact rfl;(focus(kernel_rfl));exact(mO _)))|((apply bl;exact rfl;exact rfl;exact(fun _ h=>by cases h);exact(d4 rfl rfl Tryz.underlying4)))|((apply bl;exact rfl;exact rfl;exact(fun _ h=>by cases h);exact(di (a:=z) (b:=z) hzz rfl rfl)))|(refine gP rfl rfl rfl rfl (fun _=>?_) (fun hq=>absurd rfl hq))|refine bI rfl rfl rfl (F.ag _ rfl) (by(repeat(first|assumption|exact Tr.ab _ _ _|refine(Tr.aa _ _ (by omega)).trans ?_));done) (by exact rfl) ?_|(apply bD;exact rfl;exact rfl;exact rfl)|(apply cp;exact rfl;exact rfl;exact rfl;exact rfl)|(apply dS;exact rfl;exact rfl;exact rfl)|(apply cZ;exact rfl;exact rfl)))
    (refine bZ ?_);(refine⟨by kernel_rfl,?_,?_⟩);(focus(repeat(first|exact trivial|refine⟨.inl (bJ rfl),?_⟩|refine⟨.inl (eX rfl),?_⟩|refine⟨.inr ⟨0,by kernel_rfl,AllH.all (fun _=>(by first|exact bC rfl|exact fq rfl|exact cC rfl rfl)) _⟩,?_⟩|refine⟨.inr ⟨0,by kernel_rfl,(by(refine⟨(by first|exact bg (F.ag _ rfl) rfl (by(repeat(first|assumption|exact Tr.ab _ _ _|refine(Tr.aa _ _ (by omega)).trans ?_));done) (aw _ 0 rfl rfl)|exact d4 rfl rfl Tryz.underlying4|exact di (a:=z) (b:=z) hzz rfl rfl|exact cH rfl rfl (.inl ⟨rfl,rfl⟩)),?_⟩;(repeat(refine⟨(by first|exact bg (F.ag _ rfl) rfl (by(repeat(first|assumption|exact Tr.ab _ _ _|refine(Tr.aa _ _ (by omega)).trans ?_));done) (aw _ 0 rfl rfl)|exact d4 rfl rfl Tryz.underlying4|exact di (a:=z) (b:=z) hzz rfl rfl|exact cH rfl rfl (.inl ⟨rfl,rfl⟩)),?_⟩));exact trivial))⟩,?_⟩)))
    (repeat(first|(refine aL rfl rfl rfl (by kernel_rfl) (Fnc.mono (hmr _ _) ?_);rintro _ rfl;dsimp only)|refine aq ?_|refine ae ?_|refine ac ?_|refine aH ?_|refine au rfl ?_|refine ay rfl rfl rfl (F.ag _ rfl) (by(repeat(first|assumption|refine(Tr.aa _ _ (by omega)).trans ?_));done) (by exact rfl) ?_|(apply bh;exact rfl;exact rfl;exact rfl)))
    refine ph 12 (by kernel_rfl) (by kernel_rfl) (by kernel_rfl) rfl ?_
    (repeat(first|((apply b9;exact rfl;exact rfl;exact rfl;(focus(kernel_rfl));exact(l8 a hm)))|((apply b9;exact rfl;exact rfl;exact rfl;(focus(kernel_rfl));exact(mO _)))|(refine ij (b:=⟨(cy a).toArray⟩) rfl rfl rfl (F.un _ rfl) (F.un _ rfl) (F.un _ rfl) (jl (l:=cy a) (ro:=false) (by(repeat(refine(Tr.aa _ _ (by omega)).trans ?_));exact a1)) ?_)|((apply ij (b:=⟨(cy a).toArray⟩);exact rfl;exact rfl;exact rfl;exact(F.un _ rfl);exact(F.un _ rfl);exact(F.un _ rfl);exact(jl (l:=cy a) (ro:=false) (Tr.ab _ _ _))))|(refine oH (r:=true) rfl rfl rfl rfl hbb ?_)|(refine gP rfl rfl rfl rfl (fun _=>?_) (fun hq=>absurd rfl hq))|refine bI rfl rfl rfl (F.ag _ rfl) (by(repeat(first|assumption|refine(Tr.aa _ _ (by omega)).trans ?_));done) (by exact rfl) ?_|(apply bD;exact rfl;exact rfl;exact rfl)|(apply bP;exact rfl;exact rfl;exact rfl;exact rfl)))
    refine bZ ?_
    refine sA rfl rfl rfl (by kernel_rfl) iR (.sc (.bool true),H1,n1) ?_ ?_
    ·rintro⟨_,Hk,nk⟩ ⟨rfl,z1,z2⟩
     dsimp only at z1 z2 ⊢
     have zx:Hk.at' rx=some (u8R false (byV (cy a))):=(z2 rx (by omega) (pZ (by(repeat(refine(Tr.aa _ _ (by omega)).trans ?_));exact a1))).trans (by(repeat(refine(Tr.aa _ _ (by omega)).trans ?_));exact a1)
     (repeat(first|(apply bY;exact rfl;exact rfl;exact rfl)|(apply bP;exact rfl;exact rfl;exact rfl;exact rfl)))
     refine bZ ⟨by kernel_rfl,rfl,?_,?_⟩
     ·(repeat(first|exact trivial|refine⟨.inl rfl,?_⟩|refine⟨.inr (by(repeat(refine⟨(by first|exact bC rfl|exact ch rfl|exact ci rfl rfl|exact eT (F.un _ rfl) (F.un _ rfl) (F.un _ rfl) rfl (jl (l:=cy a) (ro:=false) (by first|(focus((repeat(refine(Tr.aa _ _ (by omega)).trans ?_));exact a1))|exact zx))|exact fD rfl rfl hbb),?_⟩));exact trivial),?_⟩|refine⟨.inl (by kernel_rfl),?_⟩))
     dsimp only
     ((apply bf Tryz.func3 (congrArg Array.toList Tryz.results3));(focus(repeat(first|exact ResIs.nil|apply ResIs.tmp rfl))))
     exact⟨rfl,by first|omega|(dsimp only;omega),fun m hm hp=>(z2 m (by omega) (hp.same (by(repeat(refine(Tr.aa _ _ (by omega)).trans ?_));exact bo m hm))).trans (by(repeat(refine(Tr.aa _ _ (by omega)).trans ?_));exact bo m hm)⟩
    ·(repeat(first|(apply bY;exact rfl;exact rfl;exact rfl)|(apply bP;exact rfl;exact rfl;exact rfl;exact rfl)))
     refine bZ ⟨by kernel_rfl,rfl,?_⟩
     (repeat(first|exact trivial|refine⟨.inl rfl,?_⟩|refine⟨.inr (by(repeat(refine⟨(by first|exact bC rfl|exact ch rfl|exact ci rfl rfl|exact bg (F.ag _ rfl) rfl (by(repeat(first|assumption|refine(Tr.aa _ _ (by omega)).trans ?_));done) (aw _ 0 rfl rfl)|exact eT (F.un _ rfl) (F.un _ rfl) (F.un _ rfl) rfl (jl (l:=cy a) (ro:=false) (by(repeat(refine(Tr.aa _ _ (by omega)).trans ?_));exact a1))|exact fD rfl rfl hbb),?_⟩));exact trivial),?_⟩|refine⟨.inl (by kernel_rfl),?_⟩))
   ·clear hof hofr
    (repeat(first|refine aq ?_|refine ac ?_|(apply aj;exact rfl;exact rfl;exact rfl)|(apply ai;exact rfl;exact rfl;exact rfl)|(apply aD;exact rfl;exact rfl;exact rfl;exact rfl)|refine aM rfl rfl rfl rfl (F.sz _ rfl) (by(repeat(first|assumption|exact Tr.ab _ _ _));done) rfl (by exact zn rfl) rfl ?_|(apply aP;exact rfl;exact rfl;exact(F.zl _ rfl))))
    (apply cY;(focus(kernel_rfl));(focus(kernel_rfl)))
    (repeat(first|((apply b9;exact rfl;exact rfl;exact rfl;(focus(kernel_rfl));exact(hma _ _)))|((apply b9;exact rfl;exact rfl;exact rfl;(focus(kernel_rfl));exact(hmr _ _)))|((apply b9;exact rfl;exact rfl;exact rfl;(focus(kernel_rfl));exact(hls _ _)))|((apply b9;exact rfl;exact rfl;exact rfl;(focus(kernel_rfl));exact(hlr _ _)))|((apply b9;exact rfl;exact rfl;exact rfl;(focus(kernel_rfl));exact(mO _)))|((apply bl;exact rfl;exact rfl;exact(fun _ h=>by cases h);exact(d4 rfl rfl Tryz.underlying4)))|((apply bl;exact rfl;exact rfl;exact(fun _ h=>by cases h);exact(di (a:=z) (b:=z) hzz rfl rfl)))|(refine gP rfl rfl rfl rfl (fun hq=>absurd hq (by decide)) (fun _=>?_))|(refine t8 rfl rfl rfl rfl (fun hq=>absurd rfl hq) (fun _=>?_))|refine bI rfl rfl rfl (F.ag _ rfl) (by(repeat(first|assumption|exact Tr.ab _ _ _|refine(Tr.aa _ _ (by omega)).trans ?_));done) (by exact rfl) ?_|(apply bD;exact rfl;exact rfl;exact rfl)|(apply bP;exact rfl;exact rfl;exact rfl;exact rfl)|(apply cp;exact rfl;exact rfl;exact rfl;exact rfl)|(apply dS;exact rfl;exact rfl;exact rfl)))
    (refine bZ ?_);(refine⟨by kernel_rfl,?_,?_⟩);(focus(repeat(first|exact trivial|refine⟨.inl (bJ rfl),?_⟩|refine⟨.inr ⟨0,by kernel_rfl,AllH.all (fun _=>(by first|exact bC rfl|exact fq rfl|exact ci rfl rfl|exact cC rfl rfl)) _⟩,?_⟩|refine⟨.inr ⟨0,by kernel_rfl,(by(refine⟨(by first|exact bg (F.ag _ rfl) rfl (by(repeat(first|assumption|exact Tr.ab _ _ _|refine(Tr.aa _ _ (by omega)).trans ?_));done) (aw _ 0 rfl rfl)|exact d4 rfl rfl Tryz.underlying4|exact di (a:=z) (b:=z) hzz rfl rfl|exact cH rfl rfl (.inl ⟨rfl,rfl⟩)|exact cH rfl rfl (.inr (.inl ⟨rfl,rfl⟩))),?_⟩;(repeat(refine⟨(by first|exact bg (F.ag _ rfl) rfl (by(repeat(first|assumption|exact Tr.ab _ _ _|refine(Tr.aa _ _ (by omega)).trans ?_));done) (aw _ 0 rfl rfl)|exact d4 rfl rfl Tryz.underlying4|exact di (a:=z) (b:=z) hzz rfl rfl|exact cH rfl rfl (.inl ⟨rfl,rfl⟩)|exact cH rfl rfl (.inr (.inl ⟨rfl,rfl⟩))),?_⟩));exact trivial))⟩,?_⟩)))
    (repeat(first|(refine aL rfl rfl rfl (by kernel_rfl) (Fnc.mono (hmr _ _) ?_);rintro _ rfl;dsimp only)|refine aq ?_|refine ae ?_|refine ac ?_|refine aH ?_|refine au rfl ?_|refine ay rfl rfl rfl (F.ag _ rfl) (by(repeat(first|assumption|refine(Tr.aa _ _ (by omega)).trans ?_));done) (by exact rfl) ?_|(apply bh;exact rfl;exact rfl;exact rfl)))
    refine ph 12 (by kernel_rfl) (by kernel_rfl) (by kernel_rfl) rfl ?_
    (repeat(first|((apply b9;exact rfl;exact rfl;exact rfl;(focus(kernel_rfl));exact(l8 a hm)))|((apply b9;exact rfl;exact rfl;exact rfl;(focus(kernel_rfl));exact(mO _)))|(refine ij (b:=⟨(cy a).toArray⟩) rfl rfl rfl (F.un _ rfl) (F.un _ rfl) (F.un _ rfl) (jl (l:=cy a) (ro:=false) (by(repeat(refine(Tr.aa _ _ (by omega)).trans ?_));exact a1)) ?_)|((apply ij (b:=⟨(cy a).toArray⟩);exact rfl;exact rfl;exact rfl;exact(F.un _ rfl);exact(F.un _ rfl);exact(F.un _ rfl);exact(jl (l:=cy a) (ro:=false) (Tr.ab _ _ _))))|(refine oH (r:=true) rfl rfl rfl rfl hbb ?_)|(refine gP rfl rfl rfl rfl (fun _=>?_) (fun hq=>absurd rfl hq))|refine bI rfl rfl rfl (F.ag _ rfl) (by(repeat(first|assumption|refine(Tr.aa _ _ (by omega)).trans ?_));done) (by exact rfl) ?_|(apply bD;exact rfl;exact rfl;exact rfl)|(apply bP;exact rfl;exact rfl;exact rfl;exact rfl)))
    refine bZ ?_
    refine sA rfl rfl rfl (by kernel_rfl) iR (.sc (.bool true),H1,n1) ?_ ?_
    ·rintro⟨_,Hk,nk⟩ ⟨rfl,z1,z2⟩
     dsimp only at z1 z2 ⊢
     have zx:Hk.at' rx=some (u8R false (byV (cy a))):=(z2 rx (by omega) (pZ (by(repeat(refine(Tr.aa _ _ (by omega)).trans ?_));exact a1))).trans (by(repeat(refine(Tr.aa _ _ (by omega)).trans ?_));exact a1)
     (repeat(first|(apply bY;exact rfl;exact rfl;exact rfl)|(apply bP;exact rfl;exact rfl;exact rfl;exact rfl)))
     refine bZ ⟨by kernel_rfl,rfl,?_,?_⟩
     ·(repeat(first|exact trivial|refine⟨.inl rfl,?_⟩|refine⟨.inr (by(repeat(refine⟨(by first|exact bC rfl|exact ch rfl|exact ci rfl rfl|exact eT (F.un _ rfl) (F.un _ rfl) (F.un _ rfl) rfl (jl (l:=cy a) (ro:=false) (by first|(focus((repeat(refine(Tr.aa _ _ (by omega)).trans ?_));exact a1))|exact zx))|exact fD rfl rfl hbb),?_⟩));exact trivial),?_⟩|refine⟨.inl (by kernel_rfl),?_⟩))
     dsimp only
     ((apply bf Tryz.func3 (congrArg Array.toList Tryz.results3));(focus(repeat(first|exact ResIs.nil|apply ResIs.tmp rfl))))
     exact⟨rfl,by first|omega|(dsimp only;omega),fun m hm hp=>(z2 m (by omega) (hp.same (by(repeat(refine(Tr.aa _ _ (by omega)).trans ?_));exact bo m hm))).trans (by(repeat(refine(Tr.aa _ _ (by omega)).trans ?_));exact bo m hm)⟩
    ·(repeat(first|(apply bY;exact rfl;exact rfl;exact rfl)|(apply bP;exact rfl;exact rfl;exact rfl;exact rfl)))
     refine bZ ⟨by kernel_rfl,rfl,?_⟩
     (repeat(first|exact trivial|refine⟨.inl rfl,?_⟩|refine⟨.inr (by(repeat(refine⟨(by first|exact bC rfl|exact ch rfl|exact ci rfl rfl|exact bg (F.ag _ rfl) rfl (by(repeat(first|assumption|refine(Tr.aa _ _ (by omega)).trans ?_));done) (aw _ 0 rfl rfl)|exact eT (F.un _ rfl) (F.un _ rfl) (F.un _ rfl) rfl (jl (l:=cy a) (ro:=false) (by(repeat(refine(Tr.aa _ _ (by omega)).trans ?_));exact a1))|exact fD rfl rfl hbb),?_⟩));exact trivial),?_⟩|refine⟨.inl (by kernel_rfl),?_⟩))
end Go.Proofs.YtjjgjjlgchidlaaGreat
end
section
namespace Go.Sl
open Go Go.RowKit Go.WideShapes Go.ChangeShapes
theorem post_new{H:Type}{enc:TypeId×Value→H}{P:Program}{f:Func}{s:ChangeSpec}{apart fresh handsOn again:Bool}{W W':World}{args:Array Value}{v:Value}{ds gs:List (DataW H)}{before pa pv:List MemPlace}
 (hW:DataW.Whole enc P f.params.toList s.vars apart W args.toList ds gs before) (hb:Below W.heap.size W W') (hps:before=pa ++ pv)
 (hres: ∀ (b:Nat) (sp:Nat→Bool) (hd:Bool),DataW.TrodAll enc P W' b sp hd f.resultTypes.toList (v.resultList f.resultTypes.size) (s.fn H (ds ++ gs)).results [])
 (hargs: ∀ sp:Nat→Bool,(∀ p∈before,sp p.block=true)→DataW.TrodAll enc P W' 0 sp true f.params.toList args.toList (s.fn H (ds ++ gs)).args pa)
 (hvars: ∀ sp:Nat→Bool,(∀ p∈before,sp p.block=true)→DataW.TrodVars enc P W' sp s.vars (s.fn H (ds ++ gs)).vars pv)
 (hok: ∀ (j:Nat) (t:TypeId) (r:Value),f.resultTypes[j]? =some t→(v.resultList f.resultTypes.size)[j]? =some r→Value.okWide P W' .any 0 t r) :
 s.post enc P f apart fresh handsOn again W args v W':=by
 have hsp: ∀ p∈before,(fun b=>decide (b<W.heap.size)) p.block=true:=fun p hp=>by simpa using hW.lt p hp
 have hmem: ∀ p,p∈pa ++ pv↔p∈before:=fun p=>by rw [hps]
 refine⟨ds,gs,before,[],pa,pv,hW,hres _ _ _,hargs _ hsp,hvars _ hsp,World.keptBut_mono (fun p hp=>⟨hp,?_⟩) (hb.frame (·∈before)),fun _=>?_⟩
 ·have:=(hmem p).2 hp
  rw [List.mem_append] at this
  exact .inr this
 obtain⟨_,_,_,_,_,hz,hn⟩:=id hW
 refine⟨hok,_,_,([] ++ pa) ++ pv,⟨[] ++ pa,pv,trodAll_append (hargs _ (fun _ _=>rfl)) (hres _ _ _),hvars _ (fun _ _=>rfl),rfl,fun b off hp=>?_,fun ha=>?_⟩,fun p hp _=>?_⟩
 ·have hin:MemPlace.cell b off∈before:=(hmem _).1 (by simpa using hp)
  rw [hb.frozen (hW.lt _ hin)]
  exact hz b off hin
 ·have:=hn ha
  rw [hps] at this
  simpa using this
 ·exact(hmem p).1 (by simpa using hp)
end Go.Sl
end
section
namespace Go.Sy
open Go Go.Sl Go.RowKit Go.WideShapes
theorem sN(p:Program)(fits:TypeId→Bool)(d:Nat)(e:TypeId)(count off n:Nat)(h:rowAt p fits d e count off n=true):off≤count*p.cellsOf e:=by
 cases d with
 | zero=>simp [rowAt] at h
 | succ d=>
   unfold rowAt at h
   simp only at h
   split at h
   ·cases h
   ·rename_i hs
    have hdiv:=Nat.div_add_mod off (p.cellsOf e)
    rw [Bool.or_eq_true] at h
    rcases h with h|h
    ·simp only [zC,beq_iff_eq,decide_eq_true_eq] at h
     obtain⟨⟨h1,h2⟩,_⟩:=h
     have:p.cellsOf e*(off / p.cellsOf e)≤p.cellsOf e*count:=Nat.mul_le_mul_left _ (by omega)
     rw [Nat.mul_comm count]
     omega
    ·rw [zC,decide_eq_true_eq] at h
     have hm:=Nat.mod_lt off (Nat.pos_of_ne_zero hs)
     have:p.cellsOf e*(off / p.cellsOf e+1)≤p.cellsOf e*count:=Nat.mul_le_mul_left _ (by omega)
     rw [Nat.mul_add,Nat.mul_one] at this
     rw [Nat.mul_comm count]
     omega
theorem ma(p:Program): ∀ (d:Nat) (e:TypeId) (count off:Nat) (u:TypeId) (n:Nat),liesAt p d e count off u n=true→off≤count*p.cellsOf e
 | 0,_,_,_,_,_,h=>by simp [liesAt] at h
 | d+1,e,count,off,u,n,h=>by
   unfold liesAt at h
   rw [Bool.or_eq_true] at h
   rcases h with h|h
   ·exact sN p _ _ e count off n h
   ·split at h
    ·exact ma p d e count off _ _ h
    ·cases h
theorem rH{A:Type}{f:Nat→Option A}: ∀ {n:Nat} {l:List A},(List.range n).mapM f=some l→l.length=n∧ ∀ i,i<n→f i=l[i]? :=by
 intro n
 induction n with
 | zero=>intro l h;simp at h;subst h;exact⟨rfl,fun i hi=>by omega⟩
 | succ n ih=>
   intro l h
   rw [List.range_succ,List.mapM_append] at h
   simp only [Option.bind_eq_bind,Option.bind_eq_some_iff] at h
   obtain⟨a,ha,b,hb,hl⟩:=h
   obtain⟨h1,h2⟩:=ih ha
   cases hf:f n with
   | none=>simp [hf] at hb
   | some x=>
     simp [hf] at hb
     subst hb
     simp at hl
     subst hl
     refine⟨by simp [h1],fun i hi=>?_⟩
     rcases Nat.lt_or_ge i n with h|h
     ·rw [zA (by omega)];exact h2 i h
     ·obtain rfl:i=n:=by omega
      rw [hf,List.getElem?_append_right (by omega),h1]
      simp
theorem sK{b0:Nat}{H:Type}{enc:TypeId×Value→H}{P:Program}{w:World}{t e:TypeId}{sz:Nat}{v:Value}{dd:DataW H}{p:List MemPlace}(ht:P.underlying t=some (.slice e))(hc:P.cellsOf e=sz)(h0:0<sz)
 (hT:DataW.Trod enc P w 0 (fun _=>true) true t v dd p) (hok:Value.okWide P w .any b0 t v) :
 (v = .slice none 0 0)∨ ∃ (b o len cap:Nat) (cs:Array Value) (tt:TypeId) (fz:Nat×Nat),v = .slice (some ⟨b,o,none⟩) len cap∧w.heap[b]? =some (.cells cs tt fz)∧len≤cap∧cap≤maxLen∧o+cap*sz≤cs.size ∧
   ∀ i,i<len→ ∃ us:List Value,us.length=sz∧(∀ j,j<sz→cs[o+i*sz+j]? =us[j]?)∧ ∃ n y,DataW.trod enc P w 0 (fun _=>true) true n e us=some y:=by
 obtain⟨fuel,hT⟩:=hT
 obtain⟨a0,len0,cap0,rfl⟩:=okWide_slice ht hok
 have hcells:(Value.slice a0 len0 cap0).cells.toList= [.slice a0 len0 cap0]:=rfl
 rw [hcells] at hT
 rcases DataW.trod_slice ht hT with ⟨h1,_⟩|⟨a,len,cap,elems,rest,n,_,h1,_,_,h3,h4,h5,h6,h7,_⟩
 ·left
  simpa using h1
 ·right
  simp only [List.cons.injEq,and_true,Value.slice.injEq] at h1
  obtain⟨rfl,rfl,rfl⟩:=h1
  unfold Value.okWide at hok
  rw [ht] at hok
  simp only at hok
  unfold Cell.okWide at hok
  rw [ht] at hok
  simp only at hok
  unfold Cell.ok at hok
  rw [ht] at hok
  simp only at hok
  obtain⟨_,_,_,hsp,row,cells,hsh,hli⟩:=hok
  obtain⟨b,o,sp⟩:=a
  simp only at hsp hsh hli h6 h7
  subst hsp
  unfold World.shape? at hsh
  cases hob:w.heap[b]? with
  | none=>rw [hob] at hsh;cases hsh
  | some ob=>
    rw [hob] at hsh
    cases ob with
    | cells cs tt fz=>
      simp only [zh,zq] at hsh
      obtain⟨rfl,rfl⟩:=hsh
      have hoff:=ma P _ _ _ _ _ _ hli
      have hoff2:o≤cs.size:=zL hoff (Nat.div_mul_le_self _ _)
      have hcell: ∀ q:Nat,w.cell? ⟨b,q,none⟩=cs[q]? :=fun q=>by simp [World.cell?,hob]
      have hget: ∀ (q:Nat) (us:List Value),w.cells? 0 ((⟨b,o,none⟩:Addr).add (q*P.cellsOf e)) (P.cellsOf e)=some us→us.length=sz∧ ∀ j,j<sz→cs[o+q*sz+j]? =us[j]? :=by
       intro q us hus
       rw [add_plain] at hus
       unfold World.cells? at hus
       rw [if_pos (zE _)] at hus
       obtain⟨g1,g2⟩:=rH hus
       rw [hc] at g1 g2 hus
       refine⟨g1,fun j hj=>?_⟩
       have:=g2 j hj
       rw [add_plain,hcell] at this
       exact this
      refine⟨b,o,len0,cap0,cs,tt,fz,rfl,hob,h3,h4,?_,fun i hi=>?_⟩
      ·rcases Nat.eq_zero_or_pos cap0 with hz|hz
       ·subst hz;simpa using hoff2
       ·have hlast: ∃ us,w.cells? 0 ((⟨b,o,none⟩:Addr).add ((cap0-1)*P.cellsOf e)) (P.cellsOf e)=some us:=by
         rcases Nat.lt_or_ge (cap0-1) len0 with hl|hl
         ·have h8:=h6 (cap0-1) hl
          rw [zk (by omega)] at h8
          cases hcs:w.cells? 0 ((⟨b,o,none⟩:Addr).add ((cap0-1)*P.cellsOf e)) (P.cellsOf e)with
          | none=>rw [hcs] at h8;cases h8
          | some us=>exact⟨us,rfl⟩
         ·obtain⟨h9,h10⟩:=h7 trivial
          have h8:=h10 (cap0-1-len0) (by omega)
          rw [zk (by omega),show len0+(cap0-1-len0)=cap0-1 by omega] at h8
          cases hcs:w.cells? 0 ((⟨b,o,none⟩:Addr).add ((cap0-1)*P.cellsOf e)) (P.cellsOf e)with
          | none=>rw [hcs] at h8;cases h8
          | some us=>exact⟨us,rfl⟩
        obtain⟨us,hus⟩:=hlast
        obtain⟨g1,g2⟩:=hget _ _ hus
        have g3:=g2 (sz-1) (by omega)
        rw [zk (show sz-1<us.length by omega)] at g3
        have g4:=(zt.1 g3).1
        have:cap0*sz=(cap0-1)*sz+sz:=by
         conv=>lhs;rw [show cap0=cap0-1+1 by omega,Nat.add_mul,Nat.one_mul]
        omega
      ·have h8:=h6 i hi
       rw [zk (by omega)] at h8
       cases hcs:w.cells? 0 ((⟨b,o,none⟩:Addr).add (i*P.cellsOf e)) (P.cellsOf e)with
       | none=>rw [hcs] at h8;cases h8
       | some us=>
         rw [hcs] at h8
         simp only [zK] at h8
         obtain⟨g1,g2⟩:=hget _ _ hcs
         exact⟨us,g1,g2,n,_,h8⟩
    | _=>cases hsh
def iN(w:World):Zone:=⟨fun j=>j<w.heap.size,fun j=>j<w.heap.size,fun _ h=>h⟩
theorem tM(w:World):Kept (iN w) w w:=⟨rfl,rfl,rfl,zD _,fun _ h=>h,fun _ _=>rfl⟩
theorem vY{w0 w:World}(h:Kept (iN w0) w0 w):Below w0.heap.size w0 w:=⟨h.os,h.tape,h.output,h.size,fun j hj=>h.block j hj⟩
def lH(sz:Nat):Value→Ent
 | .slice (some a) _ cap=>⟨a.block,a.off,cap,sz,false⟩
 | _=>⟨0,0,0,sz,true⟩
def ArgRow{A:Type}(w:World)(sz:Nat)(f:A→List Value)(v:Value)(l:List A):Prop:=
 (v = .slice none 0 0∧l= [])∨ ∃ (b o len cap:Nat) (cs:Array Value) (tt:TypeId) (fz:Nat×Nat),v = .slice (some ⟨b,o,none⟩) len cap∧w.heap[b]? =some (.cells cs tt fz)∧len=l.length∧len≤cap∧cap≤maxLen∧o+cap*sz≤cs.size ∧
   ∀ i c,l[i]? =some c→ ∀ j,j<sz→cs[o+i*sz+j]? =(f c)[j]?
theorem ut{b0:Nat}{A:Type}{H:Type}{enc:TypeId×Value→H}{P:Program}{w:World}{t e:TypeId}{sz:Nat}{v:Value}{dd:DataW H}{p:List MemPlace}{f:A→List Value}(ht:P.underlying t=some (.slice e))(hc:P.cellsOf e=sz)(h0:0<sz)
 (hT:DataW.Trod enc P w 0 (fun _=>true) true t v dd p) (hok:Value.okWide P w .any b0 t v) (hf: ∀ n us y,DataW.trod enc P w 0 (fun _=>true) true n e us=some y→ ∃ a,us=f a): ∃ l:List A,ArgRow w sz f v l:=by
 rcases sK ht hc h0 hT hok with h|⟨b,o,len,cap,cs,tt,fz,h1,h2,h3,h4,h5,h6⟩
 ·exact⟨[],.inl ⟨h,rfl⟩⟩
 ·have hex: ∀ i,i<len→ ∃ a:A,∀ j,j<sz→cs[o+i*sz+j]? =(f a)[j]? :=by
   intro i hi
   obtain⟨us,g1,g2,n,y,g3⟩:=h6 i hi
   obtain⟨a,rfl⟩:=hf n us y g3
   exact⟨a,g2⟩
  refine⟨(List.range len).attach.map (fun i=>Classical.choose (hex i.1 (List.mem_range.1 i.2))),.inr ⟨b,o,len,cap,cs,tt,fz,h1,h2,by simp,h3,h4,h5,?_⟩⟩
  intro i c hi j hj
  rw [List.getElem?_map] at hi
  obtain⟨q,hq,rfl⟩:=zr.1 hi
  have hq1:q.1=i:=by
   obtain⟨hlt,hh⟩:=zm.1 hq
   rw [← hh]
   simp
  have:=Classical.choose_spec (hex q.1 (List.mem_range.1 q.2)) j hj
  rw [← hq1]
  exact this
theorem ArgRow.conc{A:Type}{w:World}{sz:Nat}{f:A→List Value}{v:Value}{l:List A}(h:ArgRow w sz f v l){e:Env}{b:Nat}(he:e b=some (lH sz v)):(SV.slu b 0 l.length).conc e=some v:=by
 rcases h with ⟨rfl,rfl⟩|⟨b',o,len,cap,cs,tt,fz,rfl,h2,rfl,h3,h4,h5,h6⟩
 ·simp [SV.conc,he,lH,Ent.at]
 ·simp [SV.conc,he,lH,Ent.at]
theorem qC{A:Type}{f:A→List Value}{sz:Nat}(hf: ∀ a,(f a).length=sz): ∀ (l:List A) (i j:Nat),j<sz→(l.flatMap f)[i*sz+j]? =(l[i]?).bind (fun c=>(f c)[j]?)
 | [],i,j,_=>by simp
 | a :: l,0,j,hj=>by
   rw [List.flatMap_cons,zA (by rw [hf];omega)]
   simp
 | a :: l,i+1,j,hj=>by
   rw [List.flatMap_cons,List.getElem?_append_right (by rw [hf,Nat.add_mul];omega),hf,show(i+1)*sz+j-sz=i*sz+j by rw [Nat.add_mul];omega,qC hf l i j hj]
   simp
theorem ArgRow.lies{A:Type}{w:World}{sz:Nat}{f:A→List Value}{v:Value}{l:List A}(h:ArgRow w sz f v l)(hf: ∀ a,(f a).length=sz)(h0:0<sz)(rt:TypeId)(e:Env):Lies (iN w) w e (dat true l.length sz rt (l.flatMap f)) (lH sz v):=by
 rcases h with ⟨rfl,rfl⟩|⟨b,o,len,cap,cs,tt,fz,rfl,h2,rfl,h3,h4,h5,h6⟩
 ·exact .inr ⟨rfl,rfl,true,rt,_,rfl,h0⟩
 ·refine .inl ⟨rfl,.cells cs tt fz,⟨fun _=>e6 h2,fun h=>by cases h⟩,h2,rfl,cs,fz,tt,rfl,h3,h5,h4,(fun h=>by cases h),h0,fun i hi s hs=>?_⟩
  have hs':((l.flatMap f)[i]?).map SV.sc=some s:=hs
  obtain⟨u,hu,rfl⟩:=zr.1 hs'
  refine⟨u,rfl,?_⟩
  have hdm:=Nat.div_add_mod i sz
  have hm:=Nat.mod_lt i h0
  have e1:i=i / sz*sz+i % sz:=by rw [Nat.mul_comm];omega
  rw [e1,qC hf l _ _ hm] at hu
  obtain⟨c,hc,hcu⟩:=Option.bind_eq_some_iff.1 hu
  have:=h6 (i / sz) c hc (i % sz) hm
  show cs[o+i]? =some u
  rw [e1,←Nat.add_assoc,this]
  exact hcu
theorem St.init{w:World}{e:Env}{H:aJ}{nx:Nat}(h1: ∀ id vo,H.at' id=some vo→vo.ro=true∧ ∃ x,e id=some x∧Lies (iN w) w e vo x)(h2: ∀ i,nx≤i→e i=none):St (iN w) w e H nx w:=
 ⟨tM w,fun id vo h=>(h1 id vo h).2,fun id id' vo vo' x x' h _ _ _ _ _ _ hr _=>by(rw [(h1 id vo h).1] at hr;cases hr),h2⟩
end Go.Sy
end
section
namespace Go.Proofs.YtjjgjjlgchidlaaGreat
open Go Go.Sy Go.ChangeShapes Go.WideShapes Go.ChangeAt Go.RowKit
theorem pA{A:Type}{l:List A}(h:l.length=2): ∃ a b,l= [a,b]:=by
 rcases l with _|⟨a,_|⟨b,_|⟨c,l⟩⟩⟩
 ·simp at h
 ·simp at h
 ·exact⟨a,b,rfl⟩
 ·simp at h
theorem tJ{A:Type}{l:List A}(h:l.length=3): ∃ a b c,l= [a,b,c]:=by
 rcases l with _|⟨a,_|⟨b,_|⟨c,_|⟨d,l⟩⟩⟩⟩
 ·simp at h
 ·simp at h
 ·simp at h
 ·exact⟨a,b,c,rfl⟩
 ·simp at h
section
variable {H:Type} {enc:TypeId×Value→H} {P:Program} {w:World} {base:Nat} {sp:Nat→Bool} {held:Bool} {n:Nat} {t:TypeId} {cs:List Value} {y:DataW H×List MemPlace}
theorem iJ{k:IntKind}(hu:P.underlying t=some (.int k))(h:DataW.trod enc P w base sp held n t cs=some y): ∃ x,cs= [.int k x]∧(Lit.int k x).wf=true:=by
 cases n with
 | zero=>simp [DataW.trod] at h
 | succ n=>
   unfold DataW.trod at h
   rw [hu] at h
   split at h <;> simp_all
theorem pj(hu:P.underlying t=some .string)(h:DataW.trod enc P w base sp held n t cs=some y): ∃ s,cs= [.string s]:=by
 cases n with
 | zero=>simp [DataW.trod] at h
 | succ n=>
   unfold DataW.trod at h
   rw [hu] at h
   split at h <;> simp_all
end
theorem ownE:ownKnob Tryz.prog.godebug=none:=by kernel_rfl
theorem laidE:laidOutB Tryz.prog=true:=by kernel_rfl
abbrev bV:UInt8→List Value:=fun c=> [.int .u8 (c.toNat:Int)]
theorem wT{H:Type}{enc:TypeId×Value→H}{w:World}{n:Nat}{us:List Value}{y:DataW H×List MemPlace}(h:DataW.trod enc Tryz.prog w 0 (fun _=>true) true n 5 us=some y): ∃ c:UInt8,us=bV c:=by
 obtain⟨x,rfl,hx⟩:=iJ (F.un 5 rfl) h
 have hx:0≤x∧x≤255:=by
  simpa [Lit.wf,IntKind.has,IntKind.min,IntKind.max,show IntKind.u8.signed=false from rfl,show IntKind.u8.bits=8 from rfl] using hx
 refine⟨UInt8.ofNat x.toNat,?_⟩
 have:((UInt8.ofNat x.toNat).toNat:Int)=x:=by
  rw [UInt8.toNat_ofNat']
  omega
 show [Value.int .u8 x]= [Value.int .u8 ((UInt8.ofNat x.toNat).toNat:Int)]
 rw [this]
theorem uTid:Tryz.prog.underlying 23=some (.struct (Tryz.prog.fieldsOf 23)):=by kernel_rfl
theorem fTid:(Tryz.prog.fieldsOf 23).toList.map (fun f=>(f.type,f.offset))= [(3,0),(3,1)]:=by kernel_rfl
theorem cInt:Tryz.prog.cellsOf 3=1:=by kernel_rfl
theorem cTid:Tryz.prog.cellsOf 23=2:=by kernel_rfl
theorem cStr:Tryz.prog.cellsOf 9=1:=by kernel_rfl
theorem cEnt:Tryz.prog.cellsOf 25=3:=by kernel_rfl
theorem uEnt:Tryz.prog.underlying 25=some (.struct (Tryz.prog.fieldsOf 25)):=by kernel_rfl
theorem fEnt:(Tryz.prog.fieldsOf 25).toList.map (fun f=>(f.type,f.offset))= [(9,0),(23,1)]:=by kernel_rfl
section
variable {H:Type} {enc:TypeId×Value→H} {w:World} {n:Nat} {us:List Value} {y:DataW H×List MemPlace}
theorem uM(h:DataW.trod enc Tryz.prog w 0 (fun _=>true) true n 23 us=some y): ∃ a b:Int,us= [.int .i64 a,.int .i64 b]:=by
 have hf:=fTid
 have hu:=uTid
 generalize Tryz.prog.fieldsOf 23=fs at hf hu
 obtain⟨xs,m,_,_,hl,hlen,hx⟩:=DataW.trod_struct hu h
 rw [cTid] at hl
 obtain⟨l⟩:=fs
 simp only at hf
 have hl2:l.length=2:=by simpa using congrArg List.length hf
 obtain⟨f0,f1,rfl⟩:=pA hl2
 simp only [zF,List.map_nil,List.cons.injEq,zq,and_true] at hf
 obtain⟨⟨a1,a2⟩,⟨b1,b2⟩⟩:=hf
 have hlen2:xs.length=2:=by simpa using hlen
 obtain⟨u0,u1,rfl⟩:=pA hl
 have h0:=hx 0 f0 rfl
 have h1:=hx 1 f1 rfl
 rw [a1,a2,cInt] at h0
 rw [b1,b2,cInt] at h1
 obtain⟨_,g0⟩: ∃ y,DataW.trod enc Tryz.prog w 0 (fun _=>true) true m 3 [u0]=some y:=⟨_,h0.trans (zk (by omega))⟩
 obtain⟨_,g1⟩: ∃ y,DataW.trod enc Tryz.prog w 0 (fun _=>true) true m 3 [u1]=some y:=⟨_,h1.trans (zk (by omega))⟩
 obtain⟨a,ha,_⟩:=iJ (F.un 3 rfl) g0
 obtain⟨b,hb,_⟩:=iJ (F.un 3 rfl) g1
 simp only [List.cons.injEq,and_true] at ha hb
 exact⟨a,b,by rw [ha,hb]⟩
theorem uN(h:DataW.trod enc Tryz.prog w 0 (fun _=>true) true n 25 us=some y): ∃ e:cO,us= [.string e.1,.int .i64 e.2.1,.int .i64 e.2.2]:=by
 have hf:=fEnt
 have hu:=uEnt
 generalize Tryz.prog.fieldsOf 25=fs at hf hu
 obtain⟨xs,m,_,_,hl,hlen,hx⟩:=DataW.trod_struct hu h
 rw [cEnt] at hl
 obtain⟨l⟩:=fs
 simp only at hf
 have hl2:l.length=2:=by simpa using congrArg List.length hf
 obtain⟨f0,f1,rfl⟩:=pA hl2
 simp only [zF,List.map_nil,List.cons.injEq,zq,and_true] at hf
 obtain⟨⟨a1,a2⟩,⟨b1,b2⟩⟩:=hf
 have hlen2:xs.length=2:=by simpa using hlen
 obtain⟨u0,u1,u2,rfl⟩:=tJ hl
 have h0:=hx 0 f0 rfl
 have h1:=hx 1 f1 rfl
 rw [a1,a2,cStr] at h0
 rw [b1,b2,cTid] at h1
 obtain⟨_,g0⟩: ∃ y,DataW.trod enc Tryz.prog w 0 (fun _=>true) true m 9 [u0]=some y:=⟨_,h0.trans (zk (by omega))⟩
 obtain⟨_,g1⟩: ∃ y,DataW.trod enc Tryz.prog w 0 (fun _=>true) true m 23 [u1,u2]=some y:=⟨_,h1.trans (zk (by omega))⟩
 obtain⟨s,hs⟩:=pj (F.un 9 rfl) g0
 obtain⟨a,b,hab⟩:=uM g1
 simp only [List.cons.injEq,and_true] at hs hab
 obtain⟨rfl,rfl⟩:=hab
 subst hs
 exact⟨(s,a,b),rfl⟩
end
theorem ur{b0:Nat}{H:Type}{enc:TypeId×Value→H}{w:World}{v:Value}{d:DataW H}{p:List MemPlace}(h:DataW.Trod enc Tryz.prog w 0 (fun _=>true) true 25 v d p)(hok:Value.okWide Tryz.prog w .any b0 25 v): ∃ e:cO,v = .agg #[.string e.1,.int .i64 e.2.1,.int .i64 e.2.2]:=by
 unfold Value.okWide at hok
 rw [uEnt] at hok
 obtain⟨cs,rfl,_⟩:=hok
 obtain⟨n,h⟩:=h
 obtain⟨e,he⟩:=uN h
 refine⟨e,?_⟩
 obtain⟨us⟩:=cs
 have he:us=_:=he
 rw [he]
end Go.Proofs.YtjjgjjlgchidlaaGreat
end
