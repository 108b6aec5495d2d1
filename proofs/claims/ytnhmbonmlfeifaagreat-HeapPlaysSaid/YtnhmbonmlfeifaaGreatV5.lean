import Derived.Laws.StructEq
import Derived.Test.YtnhmbonmlfeifaaGreatV4
set_option linter.unusedVariables false
set_option linter.unusedSimpArgs false
set_option maxRecDepth 100000
set_option maxHeartbeats 0
section
namespace Go.Proofs.YtnhmbonmlfeifaaGreat
open Go Go.Sy Go.Sl Go.RowKit
section
variable {H:au}{s:SV}{v:fY}{a:Nat}{a0 a1:Int}{b bc:Nat}{left:Int}{n nx:Nat}{puts:Int}{r slot t to:Nat}{ok:Nat→Prop}{it l mem p p' x0:List UInt8}
abbrev ez(a b:Int):VO:=aq 40 [.sc (.int .i64 a),.sc (.int .i64 b)]
abbrev bsO(s:SV):VO:=aq 35 [s]
theorem GV(hbc:H.at' bc=some (bsO s))(hs:BsIs H s (byV it))(hp:p.length=1024)(ht:H.at' t=some (ez a0 a1))(hto:H.at' to=some (pgO x0))(hx0:x0.length=1024)(hne:t≠to)(hit:it.length≤1000)
 (hroom:it.length≤eY p) (hins:nf p it=(p',slot,0)) (hp':p'.length=1024):Fnc Tryz.prog 33 [.sc (.int .i64 (n:Int)),.agg (pgS p),.ptr bc 0,.ptr t 0,.ptr to 0] H nx
 (fun q=>q.1 = .tup [.sc (.bool true),.sc (.int .i64 0)]∧q.2.1.at' t=some (ez n slot)∧q.2.1.at' to=some (pgO p')∧nx≤q.2.2∧ ∀ m,m<nx→m≠t→m≠to→q.2.1.at' m=H.at' m):=by
 refine JH Tryz.func33 rfl rfl ?_
 refine aW fun hund=>?_
 have l1:=hund _ _ hbc
 have l2:=hund _ _ ht
 have l3:=hund _ _ hto
 have hs1:BsIs (H.set nx (pgO p)) s (byV it):=hs.frame fun b vo hb=>(aa _ _ (by have:=hund b vo hb;omega)).trans hb
 have hbc1:(H.set nx (pgO p)).at' bc=some (bsO s):=by repeat(first|assumption|refine ab (by omega) ?_)
 have ht1:(H.set nx (pgO p)).at' t=some (ez a0 a1):=by repeat(first|assumption|refine ab (by omega) ?_)
 have hto1:(H.set nx (pgO p)).at' to=some (pgO x0):=by repeat(first|assumption|refine ab (by omega) ?_)
 have hb1:(H.set nx (pgO p)).at' nx=some (pgO p):=ah _ _ _
 have ho1: ∀ m,m<nx→(H.set nx (pgO p)).at' m=H.at' m:=fun m hm=>by(repeat(refine ab (by omega) ?_));rfl
 repeat apply aj;rfl
 generalize H.set nx (pgO p)=H1 at hs1 hbc1 ht1 hto1 hb1 ho1 ⊢
 have hbl:=bN it
 (apply bg;(focus(kernel_rfl));(focus(kernel_rfl)))
 repeat first|refine cg rfl rfl rfl (F.ag _ rfl) hb1 (be hp) ?_|apply bW;rfl;rfl;rfl;(focus(kernel_rfl));exact(z8 hp)|refine bk (an (F.ag _ rfl) rfl hbc1 (aD rfl)) rfl rfl rfl ?_|apply bI;rfl;rfl;exact(fun _ h=>by cases h);exact(fv (F.un _ rfl) rfl hs1)|refine cJ rfl rfl rfl rfl (fun hq=>absurd hq (by omega)) (fun _=>?_)
 refine aA ⟨by kernel_rfl,?_,?_⟩;(focus(repeat(first|exact JR|apply kp;rfl|refine fT 0 rfl (by kernel_rfl) (by(repeat(refine⟨(by first|exact an (F.ag _ rfl) rfl (by assumption) (aD rfl)|exact aV (F.ag _ rfl) rfl hb1 (bm hp)|exact fv (F.un _ rfl) rfl hs1),?_⟩));exact JR) ?_|apply mv;kernel_rfl)))
 have hi1:=qB (nx:=nx+1) hp hs1 (by omega)
 rw [hins] at hi1
 repeat first|apply bq hp;rfl;assumption|apply bC hp' ai;rfl;(focus((repeat(exact ac));done))|refine aY rfl rfl ce ?_|apply aj;rfl|apply aG;rfl;assumption;rfl|apply bY;rfl;kernel_rfl;exact hi1|apply dH;rfl;rfl
 have hb2:((H1.set (nx+1) (pgO zeroP)).set (nx+1) (pgO p')).at' (nx+1)=some (pgO p'):=ah _ _ _
 have ht2:((H1.set (nx+1) (pgO zeroP)).set (nx+1) (pgO p')).at' t=some (ez a0 a1):=by repeat(first|assumption|refine ab (by omega) ?_)
 have hto2:((H1.set (nx+1) (pgO zeroP)).set (nx+1) (pgO p')).at' to=some (pgO x0):=by repeat(first|assumption|refine ab (by omega) ?_)
 have ho2: ∀ m,m<nx→((H1.set (nx+1) (pgO zeroP)).set (nx+1) (pgO p')).at' m=H.at' m:=fun m hm=>(aa _ _ (by omega)).trans ((aa _ _ (by omega)).trans (ho1 m hm))
 generalize (H1.set (nx+1) (pgO zeroP)).set (nx+1) (pgO p')=H2 at hb2 ht2 hto2 ho2 ⊢
 (apply bg;(focus(kernel_rfl));(focus(kernel_rfl)))
 repeat first|refine cg rfl rfl rfl (F.ag _ rfl) hb2 (be hp') ?_|refine bU rfl rfl rfl (F.sz _ rfl) ht2 rfl (by exact Hz rfl) rfl rfl ?_|apply bU;rfl;rfl;rfl;exact(F.sz _ rfl);exact((aa _ _ (Ne.symm hne)).trans hto2);exact(be hp');(focus(rw [be hx0];exact HS _));exact(iv _);exact(kU _ _ hx0 hp')|apply aU;rfl
 refine aA ⟨by kernel_rfl,?_,?_⟩;(focus(repeat(first|exact JR|apply kp;rfl|apply gu;rfl;kernel_rfl|refine fT 0 rfl (by kernel_rfl) (by(repeat(refine⟨(by(exact aV (F.ag _ rfl) rfl (by repeat(first|assumption|refine ab (by omega) ?_)) (bm hp'))),?_⟩));exact JR) ?_)))
 repeat apply aj;rfl
 (apply bP Tryz.func33 Tryz.results33;rfl)
 refine⟨rfl,(aa _ _ hne).trans (ah _ _ _),ah _ _ _,by dsimp only;omega,fun m h1 h2 h3=>(aa _ _ h3).trans ((aa _ _ h2).trans (ho2 m h1))⟩
abbrev insF(bc t to:Nat):SV:= .fn (.func 33) [] [.ptr bc 0,.ptr t 0,.ptr to 0]
theorem Bo(hb:H.at' b=some (cX mem left puts))(hm:mem.length=131072)(hbc:H.at' bc=some (bsO s))(hs:BsIs H s (byV it))(hp:p.length=1024)(ht:H.at' t=some (ez a0 a1))(hto:H.at' to=some (pgO x0))(hx0:x0.length=1024)(hne:t≠to)(hit:it.length≤1000)
 (hread:aX (az mem 32)=(p,0)) (hroom:it.length≤eY p) (hins:nf p it=(p',slot,0)) (hp':p'.length=1024):Fnc Tryz.prog 26 [tv b,insF bc t to] H nx
 (fun q=>q.1 = .sc (.int .i64 0)∧q.2.1.at' t=some (ez 32 slot)∧q.2.1.at' to=some (pgO p')∧nx≤q.2.2∧ ∀ m,m<nx→m≠t→m≠to→q.2.1.at' m=H.at' m):=by
 refine JH Tryz.func26 rfl rfl ?_
 refine aW fun hund=>?_
 have l1:=hund _ _ hbc
 have l2:=hund _ _ ht
 have l3:=hund _ _ hto
 have hrd:=rN (nx:=nx) (n:=32) hb hm (by decide)
 rw [hread] at hrd
 repeat apply aj;rfl
 refine nw ?_
 repeat first|apply bC hp ai;rfl;(focus((repeat(exact ac));done))|refine aY rfl rfl ce ?_|apply aj;rfl|apply o9;rfl;decide|apply bY;rfl;kernel_rfl;exact hrd|apply dH;rfl;rfl
 have h0: ∀ m,m<nx→((H.set nx (pgO zeroP)).set nx (pgO p)).at' m=H.at' m:=fun m hm=>(aa _ _ (by omega)).trans (aa _ _ (by omega))
 have hb6:((H.set nx (pgO zeroP)).set nx (pgO p)).at' nx=some (pgO p):=ah _ _ _
 generalize (H.set nx (pgO zeroP)).set nx (pgO p)=H1 at h0 hb6 ⊢
 repeat apply bq hp;rfl;assumption
 refine jm rfl rfl rfl rfl (by kernel_rfl) (JG (GV (n:=32) ((h0 _ l1).trans hbc) (hs.frame fun b' vo hb'=>(h0 _ (hund _ _ hb')).trans hb') hp ((h0 _ l2).trans ht) ((h0 _ l3).trans hto) hx0 hne hit hroom hins hp') ?_)
 rintro⟨_,H2,n2⟩ ⟨rfl,g1,g2,g3,g4⟩
 dsimp only at g1 g2 g3 g4 ⊢
 repeat apply aj;rfl
 (apply bP Tryz.func26 Tryz.results26;rfl)
 exact⟨rfl,g1,g2,by dsimp only;omega,fun m h1 h2 h3=>(g4 m (by omega) h2 h3).trans (h0 m h1)⟩
theorem pM:Fnc Tryz.prog 31 [.ptr a 0,.ptr b 0] H nx (fun q=>q=(.tup [],H,nx)):=by
 refine JH Tryz.func31 rfl rfl ?_
 repeat first|apply aj;rfl|apply jl;rfl;rfl|refine cc (ju rfl Tryz.underlying20) rfl rfl rfl ?_
 (apply B0 Tryz.func31 Tryz.results31;rfl)
 rfl
theorem pJ(hb:H.at' b=some (cX mem left puts))(hm:mem.length=131072)(hv:VerIs H s v)(hmay:iS v=true)(hp:p.length=1024)(hleft:left≠0)(hl2 : -1000000000≤left∧left≤1000000000)(hputs : -1000000000≤puts∧puts≤1000000000)
 (hread:aX (az mem 32)=(p,0)) (hroom:(aR v).length≤eY p) (hins:nf p (aR v)=(p',slot,0)) (hp':p'.length=1024):Fnc Tryz.prog 11 [tv b,s] H nx
 (fun q=>q.1 = .tup [.agg [.sc (.int .i64 32),.sc (.int .i64 (slot:Int))],.sc (.int .i64 0)]∧q.2.1.at' b=some (cX (gH mem 32 p') (left-1) (puts+1))∧nx≤q.2.2∧ ∀ m,m<nx→m≠b→q.2.1.at' m=H.at' m):=by
 have hv0:=hv
 obtain⟨k,w,rfl,hk,hw⟩:=hv
 have hbl:=ef v
 have hmd:=Jp hmay
 refine JH Tryz.func11 rfl rfl ?_
 refine aW fun hund=>?_
 have lb:=hund _ _ hb
 repeat first|apply aj;rfl|apply lg;rfl;rfl;rfl;(focus(kernel_rfl))
 have hvb:((H.set nx (fm (ew k w v.2.2.1 v.2.2.2))).set (nx+1) (ez 0 0)).set (nx+1+1) (fp 0)=((H.set nx (fm (ew k w v.2.2.1 v.2.2.2))).set (nx+1) (ez 0 0)).set (nx+1+1) (fp 0):=rfl
 have a3:(((H.set nx (fm (ew k w v.2.2.1 v.2.2.2))).set (nx+1) (ez 0 0)).set (nx+1+1) (fp 0)).at' nx=some (fm (ew k w v.2.2.1 v.2.2.2)):=by repeat(first|exact ac|refine ab (by omega) ?_)
 have a4:(((H.set nx (fm (ew k w v.2.2.1 v.2.2.2))).set (nx+1) (ez 0 0)).set (nx+1+1) (fp 0)).at' (nx+1)=some (ez 0 0):=by repeat(first|exact ac|refine ab (by omega) ?_)
 have a5:(((H.set nx (fm (ew k w v.2.2.1 v.2.2.2))).set (nx+1) (ez 0 0)).set (nx+1+1) (fp 0)).at' (nx+1+1)=some (fp 0):=by repeat(exact ac)
 have ao: ∀ m,m<nx→(((H.set nx (fm (ew k w v.2.2.1 v.2.2.2))).set (nx+1) (ez 0 0)).set (nx+1+1) (fp 0)).at' m=H.at' m:=fun m hm=>by(repeat(refine ab (by omega) ?_));rfl
 generalize ((H.set nx (fm (ew k w v.2.2.1 v.2.2.2))).set (nx+1) (ez 0 0)).set (nx+1+1) (fp 0)=H1 at a3 a4 a5 ao ⊢
 clear hvb
 repeat first|apply aj;rfl|apply aG;rfl;assumption;rfl|refine cc (e8 rfl rfl Tryz.underlying75 rfl) rfl rfl rfl ?_
 refine aL rfl rfl rfl (by kernel_rfl) (JG (zR (hv0.frame fun b' vo hb'=>(ao _ (hund _ _ hb')).trans hb') hmay) ?_)
 rintro⟨_,H2,n2⟩ ⟨r,rfl,b1,b2,b3,b4⟩
 dsimp only at b1 b3 b4 ⊢
 have b5:=(b4 _ (show nx+1+1<nx+1+1+1 by omega)).trans a5
 have b6:=(b4 _ (show nx+1<nx+1+1+1 by omega)).trans a4
 have bo: ∀ m,m<nx→H2.at' m=H.at' m:=fun m hm=>(b4 m (by omega)).trans (ao m hm)
 clear a3 a4 a5 ao b4
 repeat first|refine aY rfl rfl ce ?_|apply aj;rfl|apply aG;rfl;(focus((repeat(first|assumption|exact ac|refine ab (by omega) ?_));done));rfl|apply dH;rfl;rfl
 refine aW fun hund3=>?_
 refine aL rfl rfl rfl (by kernel_rfl) (JG (Bo (t:=nx+1) (to:=n2+1) (bc:=n2) (by(repeat(refine ab (by omega) ?_));exact(bo b lb).trans hb) hm (by repeat(first|exact ac|refine ab (by omega) ?_)) (jc (by(repeat(refine ab (by omega) ?_));exact b1)) hp (by repeat(first|assumption|refine ab (by omega) ?_)) (by repeat(exact ac)) ai (by omega) (by omega) hread hroom hins hp') ?_)
 rintro⟨_,H4,n4⟩ ⟨rfl,c1,c2,c3,c4⟩
 dsimp only at c1 c2 c3 c4 ⊢
 have c5:H4.at' (nx+1+1)=some (fp 0):=(c4 _ (by omega) (by omega) (by omega)).trans (by repeat(first|exact ac|refine ab (by omega) ?_))
 have cb:H4.at' b=some (cX mem left puts):=(c4 _ (by omega) (by omega) (by omega)).trans (by(repeat(refine ab (by omega) ?_));exact(bo b lb).trans hb)
 have co: ∀ m,m<nx→H4.at' m=H.at' m:=fun m hm=>(c4 _ (by omega) (by omega) (by omega)).trans (by(repeat(refine ab (by omega) ?_));exact bo m hm)
 clear c4 b1 b5 b6 bo hund3
 repeat first|apply bq hp';rfl;(focus((repeat(first|assumption|refine ab (by omega) ?_));done))|apply aj;rfl|apply aG;rfl;(focus((repeat(first|assumption|exact ac|refine ab (by omega) ?_));done));rfl|apply ii;rfl;decide|apply dH;rfl;rfl
 refine lE 141 rfl rfl rfl rfl (by kernel_rfl) (JG (uS (n:=32) (by repeat(first|assumption|refine ab (by omega) ?_)) hm (by decide) hp' hleft hl2 hputs) ?_)
 rintro⟨_,H5,n5⟩ ⟨rfl,d1,d2,d3⟩
 dsimp only at d1 d2 d3 ⊢
 have d4:H5.at' (nx+1)=some (ez 32 slot):=(d3 _ (by omega) (by omega)).trans (by repeat(first|assumption|refine ab (by omega) ?_))
 have d5:H5.at' (nx+1+1)=some (fp 0):=(d3 _ (by omega) (by omega)).trans (by repeat(exact ac))
 have dold: ∀ m,m<nx→m≠b→H5.at' m=H.at' m:=fun m hm hmb=>(d3 _ (by omega) hmb).trans (by(repeat(refine ab (by omega) ?_));exact co m hm)
 clear c1 c2 c5 cb co d3
 repeat first|apply aj;rfl|apply aG;rfl;(focus((repeat(first|assumption|exact ac|refine ab (by omega) ?_));done));rfl|apply dH;rfl;rfl
 refine eg Tryz.func11 (congrArg Array.toList Tryz.results11) (by kernel_rfl) (JG pM ?_)
 rintro _ rfl
 refine⟨_,(by(repeat(first|exact JI|apply JJ rfl (JM (F.ag _ rfl) (by repeat(first|exact ac|refine ab (by omega) ?_)) (aD rfl))|apply JJ rfl (JL (F.ag _ rfl) (by repeat(first|exact ac|refine ab (by omega) ?_)) (am _ 0 rfl rfl))))),?_⟩
 dsimp only
 exact⟨rfl,by(repeat(refine ab (by omega) ?_));exact d1,by omega,fun m h1 h2=>by(repeat(refine ab (by omega) ?_));exact dold m h1 h2⟩
theorem uc(hp:p.length=1024)(hr:bl p=true)(hn:n<ae p)(hs:ar p n≠0):Fnc Tryz.prog 44 [.agg (pgS p),.sc (.int .i64 (n:Int))] H nx (fun q=> ∃ r,q.1 = .tup [.slu r 0 (aS p n).length,.sc (.int .i64 0)]∧q.2.1.at' r=some (u8R false (byV (aS p n)))∧nx≤r∧r<q.2.2∧ ∀ m,m<nx→q.2.1.at' m=H.at' m):=by
 have hb:=cQ hr hn hs
 have hil:=dz hp hb.2.2.2
 have hbl:=bN (aS p n)
 have hfd:cn p n=(ay p n,ar p n,0):=by unfold cn;rw [Jd (by omega),Jd hs]
 refine JH Tryz.func44 rfl rfl ?_
 have hb1:(H.set nx (pgO p)).at' nx=some (pgO p):=ah _ _ _
 have hrs:=fun nx'=>gi (nx:=nx') hb1 hp
 rw [hr] at hrs
 have hfs: ∀ nx',Fnc Tryz.prog 89 [.ptr nx 0,.sc (.int .i64 (n:Int))] (H.set nx (pgO p)) nx' (fun q=>q=(.tup [.sc (.int .i64 (ay p n:Int)),.sc (.int .i64 (ar p n:Int)),.sc (.int .i64 0)],H.set nx (pgO p),nx')):=fun nx'=>by
  have:=vT (nx:=nx') (n:=n) hb1 (fA hp hr)
  rw [hfd] at this
  exact this
 repeat first|apply aj;rfl|apply aK;rfl;omega;omega|apply bY;rfl;kernel_rfl;exact hrs _|apply kM;rfl;omega|apply bY;rfl;kernel_rfl;exact hfs _|apply dH;rfl;rfl|apply kL (lw:=ay p n) (hg:=ay p n+ar p n);rfl;rfl;rfl;exact(F.un _ rfl);exact(F.sz _ rfl);rfl;rfl;(focus(omega));(focus(omega));(focus(omega));exact(show ay p n+ar p n-ay p n=ar p n by omega);rfl;exact(Jf _)|apply bB;rfl;rfl;exact(F.un _ rfl);exact(F.sz _ rfl);rfl;exact(F.ze _ rfl);rfl;rfl;rfl;rfl;rfl
 refine aL rfl rfl rfl (by kernel_rfl) (JG (sA (bs:= [byV (aS p n)]) (ls:= [.sl nx (ay p n) (ar p n) (1024-ay p n)]) (ah _ _ _) (LsIs.cons (mT (b:=nx) (p:=p) (o:=ay p n) (m:=ar p n) ((aa _ _ (Nat.ne_of_lt (Nat.lt_succ_self _))).trans hb1) (by omega)) (LsIs.nil _)) (by show(byV (aS p n) ++ []).length≤_;rw [Jr];omega) (Hz rfl)) ?_)
 rintro _ rfl
 dsimp only
 have hfl: [byV (aS p n)].flatten=byV (aS p n):=Jr _
 rw [hfl,bN]
 repeat apply aj;rfl
 (apply bP Tryz.func44 Tryz.results44;rfl)
 exact⟨nx+1+1,rfl,ah _ _ _,by omega,Nat.lt_succ_self _,fun m hm=>by(repeat(refine ab (by omega) ?_));rfl⟩
theorem DB{k:Nat}(h1:32≤n)(h2:n<128):Fnc Tryz.prog 42 [.agg [.sc (.int .i64 (n:Int)),.sc (.int .i64 (k:Int))]] H nx (fun q=>q=(.sc (.bool true),H,nx)):=by
 refine Fnc.bu (Free.sc _) ?_
 refine JH Tryz.func42 rfl rfl ?_
 repeat first|apply aj;rfl|apply aG;rfl;(focus((repeat(exact ac));done));rfl|apply o9;rfl;omega
 (apply bP Tryz.func42 Tryz.results42;rfl)
 exact⟨rfl,Jb _,fun m hm=>aa _ _ (by omega)⟩
theorem sK:Fnc Tryz.prog 41 [.ptr a 0,.ptr b 0] H nx (fun q=>q=(.tup [],H,nx)):=by
 refine JH Tryz.func41 rfl rfl ?_
 repeat first|apply aj;rfl|apply jl;rfl;rfl|refine cc (ju rfl Tryz.underlying20) rfl rfl rfl ?_
 (apply B0 Tryz.func41 Tryz.results41;rfl)
 rfl
theorem DU{k:Nat}(hb:H.at' b=some (cX mem left puts))(hm:mem.length=131072)(hp:p.length=1024)(h1:32≤n)(h2:n<128)(hread:aX (az mem n)=(p,0))(hr:bl p=true)(hn:k<ae p)(hs:ar p k≠0)(hof:ofV (aS p k)=some v):Fnc Tryz.prog 15 [tv b,.agg [.sc (.int .i64 (n:Int)),.sc (.int .i64 (k:Int))]] H nx
 (fun q=> ∃ s' r,q.1 = .tup [s',.sc (.int .i64 0)]∧VerAt q.2.1 s' r v∧nx≤r∧nx≤q.2.2∧ ∀ m,m<nx→q.2.1.at' m=H.at' m):=by
 refine JH Tryz.func15 rfl rfl ?_
 refine aW fun hund=>?_
 have lb:=hund _ _ hb
 have hil:(aS p k).length≤1024:=by unfold aS;rw [Jh,Jk];omega
 repeat first|apply aj;rfl|apply aG;rfl;(focus((repeat(first|exact ac|refine ab (by omega) ?_));done));rfl|apply lg;rfl;rfl;rfl;(focus(kernel_rfl))|refine cc (e8 rfl rfl Tryz.underlying75 rfl) rfl rfl rfl ?_|apply bY;rfl;kernel_rfl;exact DB (k:=k) h1 h2
 have hrd:=fun(H':au) (nx':Nat) (h:H'.at' b=some (cX mem left puts))=>rN (nx:=nx') (n:=n) h hm h2
 rw [hread] at hrd
 refine aL rfl rfl rfl (by kernel_rfl) (JG (hrd _ _ (by(repeat(refine ab (by omega) ?_));exact hb)) ?_)
 rintro _ rfl
 dsimp only
 repeat first|apply bC hp ai;rfl;(focus((repeat(exact ac));done))|refine aY rfl rfl ce ?_|apply aj;rfl|apply aG;rfl;(focus((repeat(first|exact ac|refine ab (by omega) ?_));done));rfl|apply dH;rfl;rfl|apply bq hp;rfl;(focus((repeat(first|exact ac|refine ab (by omega) ?_));done))
 refine aL rfl rfl rfl (by kernel_rfl) (JG (uc hp hr hn hs) ?_)
 rintro⟨_,H2,n2⟩ ⟨r,rfl,a1,a2,a3,a4⟩
 dsimp only at a1 a3 a4 ⊢
 have b4:H2.at' (nx+1)=some (fm (ew dy dy 0 0)):=(a4 _ (by omega)).trans (by repeat(first|exact ac|refine ab (by omega) ?_))
 have b5:H2.at' (nx+1+1)=some (fp 0):=(a4 _ (by omega)).trans (by repeat(exact ac))
 have bo: ∀ m,m<nx→H2.at' m=H.at' m:=fun m hm=>(a4 _ (by omega)).trans (by(repeat(refine ab (by omega) ?_));rfl)
 clear a4 hrd
 repeat first|apply aj;rfl|apply aG;rfl;(focus((repeat(first|assumption|exact ac));done));rfl|apply dH;rfl;rfl
 refine aL rfl rfl rfl (by kernel_rfl) (JG (of_s (jc (by(repeat(refine ab (by omega) ?_));exact a1)) (by omega)) ?_)
 rintro⟨_,H3,n3⟩ ⟨s',r',rfl,c1,cr,c2,c3⟩
 rw [hof] at c1 ⊢
 obtain⟨k0,w0,rfl,gk,gw⟩:=c1
 dsimp only at gk gw c2 c3 ⊢
 have hone: ∀ x y:Nat,bh (ew k0 w0 x y)=true:=fun x y=>by simp only [bh,cC gk.bs,cC gw.bs];rfl
 have d4:H3.at' (nx+1)=some (fm (ew dy dy 0 0)):=(c3 _ (by omega)).trans (by repeat(first|assumption|refine ab (by omega) ?_))
 have d5:=(c3 (nx+1+1) (by omega)).trans (ah _ _ _)
 have dold: ∀ m,m<nx→H3.at' m=H.at' m:=fun m hm=>(c3 _ (by omega)).trans (by(repeat(refine ab (by omega) ?_));exact bo m hm)
 clear c3 b4 b5 bo a1
 repeat first|apply aj;rfl|apply aG;rfl;(focus((repeat(first|assumption|refine ab (by omega) ?_));done));rfl|refine dm rfl rfl rfl (F.sz _ rfl) (by assumption) rfl (by exact Hz rfl) (hone _ _) rfl ?_
 refine eg Tryz.func15 (congrArg Array.toList Tryz.results15) (by kernel_rfl) (JG sK ?_)
 rintro _ rfl
 refine⟨_,(by(repeat(first|exact JI|apply JJ rfl (JM (F.ag _ rfl) (by repeat(first|exact ac|refine ab (by omega) ?_)) (aD rfl))|apply JJ rfl (JL (F.ag _ rfl) (by repeat(first|exact ac|refine ab (by omega) ?_)) (am _ 0 rfl rfl))))),?_⟩
 dsimp only
 exact⟨_,r',rfl,⟨k0,w0,rfl,gk.frame (by(repeat(refine ab (by omega) ?_));rfl),gw.frame (by(repeat(refine ab (by omega) ?_));rfl)⟩,by omega,by omega,fun m hm=>by(repeat(refine ab (by omega) ?_));exact dold m hm⟩
theorem sB(hp:p.length=1024)(hr:bl p=true)(hn:ae p≤n∨ar p n=0):Fnc Tryz.prog 44 [.agg (pgS p),.sc (.int .i64 (n:Int))] H nx (fun q=>q.1 = .tup [dy,.sc (.int .i64 6)]∧nx≤q.2.2∧ ∀ m,m<nx→q.2.1.at' m=H.at' m):=by
 have hfd:cn p n=(0,0,6):=by unfold cn;split;rfl;rw [Je (by omega)]
 refine JH Tryz.func44 rfl rfl ?_
 have hb1:(H.set nx (pgO p)).at' nx=some (pgO p):=ah _ _ _
 have hrs:=fun nx'=>gi (nx:=nx') hb1 hp
 rw [hr] at hrs
 have hfs: ∀ nx',Fnc Tryz.prog 89 [.ptr nx 0,.sc (.int .i64 (n:Int))] (H.set nx (pgO p)) nx' (fun q=>q=(.tup [.sc (.int .i64 0),.sc (.int .i64 0),.sc (.int .i64 6)],H.set nx (pgO p),nx')):=fun nx'=>by
  have:=vT (nx:=nx') (n:=n) hb1 (fA hp hr)
  rw [hfd] at this
  exact this
 repeat first|apply aj;rfl|apply bY;rfl;kernel_rfl;exact hrs _|apply kM;rfl;omega|apply bY;rfl;kernel_rfl;exact hfs _|apply ii;rfl;decide
 (apply bP Tryz.func44 Tryz.results44;rfl)
 exact⟨rfl,by dsimp only;omega,fun m hm=>by(repeat(refine ab (by omega) ?_));rfl⟩
def mu(n k:Int):Bool:=decide (32≤n∧n<128∧0≤k)
theorem zf{n k:Int}:Fnc Tryz.prog 42 [.agg [.sc (.int .i64 n),.sc (.int .i64 k)]] H nx (fun q=>q=(.sc (.bool (mu n k)),H,nx)):=by
 refine Fnc.bu (Free.sc _) ?_
 refine JH Tryz.func42 rfl rfl ?_
 repeat first|apply aj;rfl|apply aG;rfl;(focus((repeat(exact ac));done));rfl
 refine er rfl rfl rfl rfl (fun h1=>?_) (fun h1=>?_)
 ·repeat first|apply aj;rfl|apply aG;rfl;(focus((repeat(exact ac));done));rfl
  refine bi rfl rfl rfl rfl (fun h2=>?_) (fun h2=>?_)
  ·repeat first|apply aj;rfl|apply aG;rfl;(focus((repeat(exact ac));done));rfl
   refine er rfl rfl rfl rfl (fun h3=>?_) (fun h3=>?_)
   ·repeat apply aj;rfl
    (apply bP Tryz.func42 Tryz.results42;rfl)
    exact⟨by unfold mu;rw [Jw (by omega)];rfl,Jb _,fun m hm=>aa _ _ (by omega)⟩
   ·repeat apply aj;rfl
    (apply bP Tryz.func42 Tryz.results42;rfl)
    exact⟨by unfold mu;rw [Jx (by omega)];rfl,Jb _,fun m hm=>aa _ _ (by omega)⟩
  ·repeat apply aj;rfl
   (apply bP Tryz.func42 Tryz.results42;rfl)
   exact⟨by unfold mu;rw [Jx (by omega)];rfl,Jb _,fun m hm=>aa _ _ (by omega)⟩
 ·repeat apply aj;rfl
  (apply bP Tryz.func42 Tryz.results42;rfl)
  exact⟨by unfold mu;rw [Jx (by omega)];rfl,Jb _,fun m hm=>aa _ _ (by omega)⟩
def pc(pf:Nat→List UInt8)(n k:Int):fY×Nat:=
 if mu n k=false then(iH,2) else
 if(aX (pf n.toNat)).2≠0 then(iH,(aX (pf n.toNat)).2) else
 if(cn (aX (pf n.toNat)).1 k.toNat).2.2≠0 then(iH,6) else
 ((ofV (aS (aX (pf n.toNat)).1 k.toNat)).getD iH,A2 (ofV (aS (aX (pf n.toNat)).1 k.toNat)))
theorem numZ{o:Nat}(h:o+2≤1024):gB zeroP o=0:=by
 unfold gB zeroP
 rw [List.drop_replicate,List.take_replicate,show min 2 (1024-o)=2 by omega]
 rfl
theorem x7(k:UInt8):ae (fy k)=0:=by
 have hl:(zeroP.set 12 k).length=1024:=by rw [List.length_set,ai]
 unfold fy
 exact(cO (by rw [hl];decide) (by decide)).trans ((jE (q:=zeroP) fun i h1 h2=>by rw [List.getElem?_set_ne (by omega)]).trans (numZ (by decide)))
theorem Hg(k:UInt8):aE (fy k)=1024:=by
 have hl:(zeroP.set 12 k).length=1024:=by rw [List.length_set,ai]
 unfold fy
 exact eN (by rw [hl];decide) (by decide)
theorem okI(k:UInt8):Okp (fy k):=by
 have h1:=x7 k
 have h2:=Hg k
 exact⟨fL k,by omega,by omega,fun h=>by omega,fun j hj=>by omega,fun i j _ hj=>by omega⟩
theorem Gr(k:UInt8):bl (fy k)=true:=(bw (fL k)).2 (okI k)
theorem cN{q:List UInt8}(h:aX p=(q,0))(hp:p.length=1024):q.length=1024∧bl q=true∧ ∀ j,j<ae q→ar q j≠0→(ofV (aS q j)).isSome=true:=by
 unfold aX at h
 split at h
 ·have h:=(Prod.mk.inj h).1
  subst h
  refine⟨fL 4,Gr 4,fun j hj=>?_⟩
  have h1:=x7 4
  omega
 ·split at h
  ·cases(Prod.mk.inj h).2
  ·rename_i hr
   split at h
   ·cases(Prod.mk.inj h).2
   ·rename_i hb
    have h:=(Prod.mk.inj h).1
    subst h
    refine⟨hp,?_,fun j hj hz=>?_⟩
    ·cases hq:bl p with
     | true=>rfl
     | false=>exact absurd (.inl hq) hr
    ·cases ho:ofV (aS p j)with
     | some v=>rfl
     | none=>
       refine absurd ?_ hb
       unfold xg
       rw [List.any_eq_true]
       exact⟨j,Jz.2 hj,by rw [Jw hz,ho];rfl⟩
theorem lM:(aX p).2=0∨aX p=(zeroP,13):=by
 unfold aX
 split
 ·exact .inl rfl
 ·split
  ·exact .inr rfl
  ·split
   ·exact .inr rfl
   ·exact .inl rfl
theorem get_g{n k:Int}(hb:H.at' b=some (cX mem left puts))(hm:mem.length=131072):Fnc Tryz.prog 15 [tv b,.agg [.sc (.int .i64 n),.sc (.int .i64 k)]] H nx
 (fun q=> ∃ s' r,q.1 = .tup [s',.sc (.int .i64 ((pc (az mem) n k).2:Int))]∧VerAt q.2.1 s' r (pc (az mem) n k).1∧nx≤r∧nx≤q.2.2∧ ∀ m,m<nx→q.2.1.at' m=H.at' m):=by
 refine JH Tryz.func15 rfl rfl ?_
 refine aW fun hund=>?_
 have lb:=hund _ _ hb
 repeat first|apply aj;rfl|apply aG;rfl;(focus((repeat(first|exact ac|refine ab (by omega) ?_));done));rfl|apply lg;rfl;rfl;rfl;(focus(kernel_rfl))|refine cc (e8 rfl rfl Tryz.underlying75 rfl) rfl rfl rfl ?_
 cases hmay:mu n k with
 | false=>
   have hg:pc (az mem) n k=(iH,2):=by unfold pc;rw [Je hmay]
   rw [hg]
   have hmy:=fun(H:au) nx=>zf (H:=H) (nx:=nx) (n:=n) (k:=k)
   rw [hmay] at hmy
   repeat first|apply aj;rfl|apply aG;rfl;(focus((repeat(first|exact ac|refine ab (by omega) ?_));done));rfl|apply bY;rfl;kernel_rfl;exact hmy _ _
   refine eg Tryz.func15 (congrArg Array.toList Tryz.results15) (by kernel_rfl) (JG sK ?_)
   rintro _ rfl
   refine⟨_,(by(repeat(first|exact JI|apply JJ rfl (JM (F.ag _ rfl) (by repeat(first|exact ac|refine ab (by omega) ?_)) (aD rfl))|apply JJ rfl (JL (F.ag _ rfl) (by repeat(first|exact ac|refine ab (by omega) ?_)) (am _ 0 rfl rfl))))),?_⟩
   dsimp only
   exact⟨_,nx,rfl,f8 _ nx,HS _,by omega,fun m hm=>by(repeat(refine ab (by omega) ?_));rfl⟩
 | true=>
   have hmd:32≤n∧n<128∧0≤k:=Jp hmay
   obtain⟨N,rfl⟩: ∃ N:Nat,n=(N:Int):=⟨n.toNat,by omega⟩
   obtain⟨K,rfl⟩: ∃ K:Nat,k=(K:Int):=⟨k.toNat,by omega⟩
   have hmy:=fun(H:au) nx=>zf (H:=H) (nx:=nx) (n:=(N:Int)) (k:=(K:Int))
   rw [hmay] at hmy
   have hg:pc (az mem) (N:Int) (K:Int)=if(aX (az mem N)).2≠0 then(iH,(aX (az mem N)).2) else if(cn (aX (az mem N)).1 K).2.2≠0 then(iH,6) else
    ((ofV (aS (aX (az mem N)).1 K)).getD iH,A2 (ofV (aS (aX (az mem N)).1 K))):=by unfold pc;rw [Jd (by rw [hmay];decide),Jv,Jv]
   rw [hg]
   clear hg
   have hpl:=dx hm (n:=N) (by omega)
   repeat first|apply aj;rfl|apply aG;rfl;(focus((repeat(first|exact ac|refine ab (by omega) ?_));done));rfl|apply bY;rfl;kernel_rfl;exact hmy _ _
   have hrd:=fun(H':au) (nx':Nat) (h:H'.at' b=some (cX mem left puts))=>rN (nx:=nx') (n:=N) h hm (by omega)
   refine aL rfl rfl rfl (by kernel_rfl) (JG (hrd _ _ (by(repeat(refine ab (by omega) ?_));exact hb)) ?_)
   rintro _ rfl
   dsimp only
   clear hrd hmy
   rcases lM (p:=az mem N)with he|he
   ·obtain⟨p,hp⟩: ∃ p,aX (az mem N)=(p,0):=⟨_,Prod.ext rfl he⟩
    rw [hp,Jd (fun h=>h rfl)]
    obtain⟨hpp,hr,hof⟩:=cN hp hpl
    by_cases hK:ae p≤K∨ar p K=0
    ·have hfd:cn p K=(0,0,6):=by unfold cn;split;rfl;rw [Je (by omega)]
     dsimp only
     rw [hfd,Je (by decide)]
     repeat first|apply bC hpp ai;rfl;(focus((repeat(exact ac));done))|refine aY rfl rfl ce ?_|apply aj;rfl|apply aG;rfl;(focus((repeat(first|exact ac|refine ab (by omega) ?_));done));rfl|apply dH;rfl;rfl|apply bq hpp;rfl;(focus((repeat(first|exact ac|refine ab (by omega) ?_));done))
     refine aL rfl rfl rfl (by kernel_rfl) (JG (sB hpp hr hK) ?_)
     rintro⟨_,H2,n2⟩ ⟨rfl,a3,a4⟩
     dsimp only at a3 a4 ⊢
     have b4:H2.at' (nx+1)=some (fm (ew dy dy 0 0)):=(a4 _ (by omega)).trans (by repeat(first|exact ac|refine ab (by omega) ?_))
     have b5:H2.at' (nx+1+1)=some (fp 0):=(a4 _ (by omega)).trans (by repeat(exact ac))
     have bo: ∀ m,m<nx→H2.at' m=H.at' m:=fun m hm=>(a4 _ (by omega)).trans (by(repeat(refine ab (by omega) ?_));rfl)
     clear a4
     repeat first|apply aj;rfl|apply aG;rfl;(focus((repeat(first|assumption|exact ac));done));rfl|apply ii;rfl;decide
     (refine cL (R:=fun H8 n8=>H8.at' (nx+1)=some (fm (ew dy dy 0 0))∧H8.at' (nx+1+1)=some (fp 6)∧nx≤n8∧ ∀ m,m<nx→H8.at' m=H.at' m) ⟨by repeat(first|assumption|refine ab (by omega) ?_),by repeat(exact ac),by omega,fun m hm=>by(repeat(refine ab (by omega) ?_));exact bo m hm⟩ ?_;rintro H8 n8 ⟨e1,e2,e3,e4⟩;(apply bg;(focus(kernel_rfl));(focus(kernel_rfl)));(repeat(first|apply dA;rfl;assumption;rfl|refine dQ rfl rfl rfl (F.sz _ rfl) (by repeat(first|assumption|refine ab (by omega) ?_)) (by rfl) (by rfl) ?_|refine bU rfl rfl rfl (F.sz _ rfl) (by assumption) rfl (by exact Hz rfl) rfl (by rfl) ?_|apply aU;rfl));refine aA ⟨by kernel_rfl,?_,?_⟩;(focus(repeat(first|exact JR|apply kp;rfl|apply gu;rfl;kernel_rfl|refine fT 0 rfl (by kernel_rfl) (by(repeat(refine⟨(by(exact an (F.ag _ rfl) rfl (by repeat(first|assumption|exact ac|refine ab (by omega) ?_)) (aD rfl))),?_⟩));exact JR) ?_)));skip;refine eg Tryz.func15 (congrArg Array.toList Tryz.results15) (by kernel_rfl) (JG sK ?_);rintro _ rfl;refine⟨_,(by(repeat(first|exact JI|apply JJ rfl (JM (F.ag _ rfl) (by repeat(first|exact ac|refine ab (by omega) ?_)) (aD rfl))|apply JJ rfl (JL (F.ag _ rfl) (by repeat(first|exact ac|refine ab (by omega) ?_)) (am _ 0 rfl rfl))))),?_⟩;dsimp only;exact⟨_,nx,rfl,f8 _ nx,HS _,by omega,fun m hm=>by(repeat(refine ab (by omega) ?_));exact e4 m hm⟩)
    ·have hs:ar p K≠0:=fun h=>hK (.inr h)
     have hn:K<ae p:=by omega
     have hfd:cn p K=(ay p K,ar p K,0):=by unfold cn;rw [Jd (by omega),Jd hs]
     dsimp only
     rw [hfd,Jd (fun h=>h rfl)]
     have hil:(aS p K).length≤1024:=by unfold aS;rw [Jh,Jk];omega
     repeat first|apply bC hpp ai;rfl;(focus((repeat(exact ac));done))|refine aY rfl rfl ce ?_|apply aj;rfl|apply aG;rfl;(focus((repeat(first|exact ac|refine ab (by omega) ?_));done));rfl|apply dH;rfl;rfl|apply bq hpp;rfl;(focus((repeat(first|exact ac|refine ab (by omega) ?_));done))
     refine aL rfl rfl rfl (by kernel_rfl) (JG (uc hpp hr hn hs) ?_)
     rintro⟨_,H2,n2⟩ ⟨r,rfl,a1,a2,a3,a4⟩
     dsimp only at a1 a3 a4 ⊢
     have b4:H2.at' (nx+1)=some (fm (ew dy dy 0 0)):=(a4 _ (by omega)).trans (by repeat(first|exact ac|refine ab (by omega) ?_))
     have b5:H2.at' (nx+1+1)=some (fp 0):=(a4 _ (by omega)).trans (by repeat(exact ac))
     have bo: ∀ m,m<nx→H2.at' m=H.at' m:=fun m hm=>(a4 _ (by omega)).trans (by(repeat(refine ab (by omega) ?_));rfl)
     clear a4
     repeat first|apply aj;rfl|apply aG;rfl;(focus((repeat(first|assumption|exact ac));done));rfl|apply dH;rfl;rfl
     refine aL rfl rfl rfl (by kernel_rfl) (JG (of_s (jc (by(repeat(refine ab (by omega) ?_));exact a1)) (by omega)) ?_)
     rintro⟨_,H3,n3⟩ ⟨s',r',rfl,c1,cr,c2,c3⟩
     generalize (ofV (aS p K)).getD iH=v at c1 ⊢
     generalize A2 (ofV (aS p K))=eo
     obtain⟨k0,w0,rfl,gk,gw⟩:=c1
     dsimp only at gk gw c2 c3 ⊢
     have hone: ∀ x y:Nat,bh (ew k0 w0 x y)=true:=fun x y=>by simp only [bh,cC gk.bs,cC gw.bs];rfl
     have d4:H3.at' (nx+1)=some (fm (ew dy dy 0 0)):=(c3 _ (by omega)).trans (by repeat(first|assumption|refine ab (by omega) ?_))
     have d5:=(c3 (nx+1+1) (by omega)).trans (ah _ _ _)
     have dold: ∀ m,m<nx→H3.at' m=H.at' m:=fun m hm=>(c3 _ (by omega)).trans (by(repeat(refine ab (by omega) ?_));exact bo m hm)
     clear c3 b4 b5 bo a1
     repeat first|apply aj;rfl|apply aG;rfl;(focus((repeat(first|assumption|refine ab (by omega) ?_));done));rfl|refine dm rfl rfl rfl (F.sz _ rfl) (by assumption) rfl (by exact Hz rfl) (hone _ _) rfl ?_
     refine eg Tryz.func15 (congrArg Array.toList Tryz.results15) (by kernel_rfl) (JG sK ?_)
     rintro _ rfl
     refine⟨_,(by(repeat(first|exact JI|apply JJ rfl (JM (F.ag _ rfl) (by repeat(first|exact ac|refine ab (by omega) ?_)) (aD rfl))|apply JJ rfl (JL (F.ag _ rfl) (by repeat(first|exact ac|refine ab (by omega) ?_)) (am _ 0 rfl rfl))))),?_⟩
     dsimp only
     exact⟨_,r',rfl,⟨k0,w0,rfl,gk.frame (by(repeat(refine ab (by omega) ?_));rfl),gw.frame (by(repeat(refine ab (by omega) ?_));rfl)⟩,by omega,by omega,fun m hm=>by(repeat(refine ab (by omega) ?_));exact dold m hm⟩
   ·rw [he,Je (by decide)]
    repeat first|apply bC ai ai;rfl;(focus((repeat(exact ac));done))|refine aY rfl rfl ce ?_|apply aj;rfl|apply aG;rfl;(focus((repeat(first|exact ac|refine ab (by omega) ?_));done));rfl|apply ii;rfl;decide
    (refine cL (R:=fun H8 n8=>H8.at' (nx+1)=some (fm (ew dy dy 0 0))∧H8.at' (nx+1+1)=some (fp 13)∧nx≤n8∧ ∀ m,m<nx→H8.at' m=H.at' m) ⟨by repeat(first|exact ac|refine ab (by omega) ?_),by repeat(exact ac),by omega,fun m hm=>by(repeat(refine ab (by omega) ?_));rfl⟩ ?_;rintro H8 n8 ⟨e1,e2,e3,e4⟩;(apply bg;(focus(kernel_rfl));(focus(kernel_rfl)));(repeat(first|apply dA;rfl;assumption;rfl|refine dQ rfl rfl rfl (F.sz _ rfl) (by repeat(first|assumption|refine ab (by omega) ?_)) (by rfl) (by rfl) ?_|refine bU rfl rfl rfl (F.sz _ rfl) (by assumption) rfl (by exact Hz rfl) rfl (by rfl) ?_|apply aU;rfl));refine aA ⟨by kernel_rfl,?_,?_⟩;(focus(repeat(first|exact JR|apply kp;rfl|apply gu;rfl;kernel_rfl|refine fT 0 rfl (by kernel_rfl) (by(repeat(refine⟨(by(exact an (F.ag _ rfl) rfl (by repeat(first|assumption|exact ac|refine ab (by omega) ?_)) (aD rfl))),?_⟩));exact JR) ?_)));skip;refine eg Tryz.func15 (congrArg Array.toList Tryz.results15) (by kernel_rfl) (JG sK ?_);rintro _ rfl;refine⟨_,(by(repeat(first|exact JI|apply JJ rfl (JM (F.ag _ rfl) (by repeat(first|exact ac|refine ab (by omega) ?_)) (aD rfl))|apply JJ rfl (JL (F.ag _ rfl) (by repeat(first|exact ac|refine ab (by omega) ?_)) (am _ 0 rfl rfl))))),?_⟩;dsimp only;exact⟨_,nx,rfl,f8 _ nx,HS _,by omega,fun m hm=>by(repeat(refine ab (by omega) ?_));exact e4 m hm⟩)
theorem Cy(hm:mem.length=131072){g:FuncId}{caps:List SV}(hme:bS Tryz.prog g=true)(I:Nat→au→Nat→Prop)(J:Int→au→Nat→Prop)
 (hI: ∀ n H nx,I n H nx→H.at' b=some (cX mem left puts))
 (hgrow: ∀ n H nx H' nx',I n H nx→nx≤nx'→(∀ m,m<nx→H'.at' m=H.at' m)→I n H' nx')
 (hround: ∀ n p H1 n1,32≤n→n<128→I n H1 n1→aX (az mem n)=(p,0)→Fnc Tryz.prog g ([.sc (.int .i64 (n:Int)),.agg (pgS p)] ++ caps) H1 n1 (fun q=>(q.1 = .tup [.sc (.bool false),.sc (.int .i64 0)]∧I (n+1) q.2.1 q.2.2)∨ ∃ (d:Bool) (e:Int),(d=true∨e≠0)∧q.1 = .tup [.sc (.bool d),.sc (.int .i64 e)]∧J e q.2.1 q.2.2))
 (hbad: ∀ n H1 n1,32≤n→n<128→I n H1 n1→aX (az mem n)=(zeroP,13)→J 13 H1 n1)
 (h0:I 32 H nx):Fnc Tryz.prog 26 [tv b,.fn (.func g) [] caps] H nx
 (fun q=>(q.1 = .sc (.int .i64 0)∧I 128 q.2.1 q.2.2)∨ ∃ e:Int,q.1 = .sc (.int .i64 e)∧J e q.2.1 q.2.2):=by
 refine JH Tryz.func26 rfl rfl ?_
 repeat apply aj;rfl
 refine bv (α:=Nat) (fun n=> [(0,tv b),(1,.fn (.func g) [] caps),(5,.sc (.int .i64 (n:Int)))])
  (fun n H1 n1=>32≤n∧n≤128∧I n H1 n1) (fun n=>128-n) 32
  ⟨HS _,by decide,h0⟩ (JN (JQ rfl)) ?_
 rintro n H1 n1 ⟨h1,h2,h3⟩ ih
 repeat apply aj;rfl
 refine bi rfl rfl rfl rfl (fun h4=>?_) (fun h4=>?_)
 ·have hn:n<128:=by omega
  have hpl:=dx hm (n:=n) hn
  repeat apply aj;rfl
  refine aL rfl rfl rfl (by kernel_rfl) (JG (rN (n:=n) (hI _ _ _ h3) hm hn) ?_)
  rintro _ rfl
  dsimp only
  rcases lM (p:=az mem n)with he|he
  ·obtain⟨p,hp⟩: ∃ p,aX (az mem n)=(p,0):=⟨_,Prod.ext rfl he⟩
   obtain⟨hpp,_,_⟩:=cN hp hpl
   rw [hp]
   repeat first|apply bC hpp ai;rfl;(focus((repeat(exact ac));done))|refine aY rfl rfl ce ?_|apply aj;rfl|apply dH;rfl;rfl|apply bq hpp;rfl;(focus((repeat(exact ac));done))
   refine jm rfl rfl rfl rfl hme (JG (hround n p _ _ h1 hn (hgrow _ _ _ _ _ h3 (Jb _) fun m hm=>(aa _ _ (by omega)).trans (aa _ _ (by omega))) hp) ?_)
   rintro⟨_,H2,n2⟩ (⟨rfl,g2⟩|⟨d,e,g1,rfl,g2⟩)
   ·dsimp only at g2 ⊢
    repeat first|apply aj;rfl|apply aK;rfl;omega;omega|apply dH;rfl;rfl
    exact ih _ _ _ (n+1) ⟨by omega,by omega,g2⟩ (by omega) (JN (JQ rfl))
   ·dsimp only at g2 ⊢
    cases d with
    | true=>
      repeat apply aj;rfl
      (apply bP Tryz.func26 Tryz.results26;rfl)
      exact .inr ⟨e,rfl,g2⟩
    | false=>
      have g1:e≠0:=by rcases g1 with h|h;cases h;exact h
      repeat first|apply aj;rfl|refine lD rfl rfl rfl rfl (fun _=>?_) (fun hq=>absurd hq g1)
      (apply bP Tryz.func26 Tryz.results26;rfl)
      exact .inr ⟨e,rfl,g2⟩
  ·rw [he]
   repeat first|apply bC ai ai;rfl;(focus((repeat(exact ac));done))|refine aY rfl rfl ce ?_|apply aj;rfl|apply ii;rfl;decide
   (apply bP Tryz.func26 Tryz.results26;rfl)
   exact .inr ⟨13,rfl,hbad n _ _ h1 hn (hgrow _ _ _ _ _ h3 (Jb _) fun m hm=>(aa _ _ (by omega)).trans (aa _ _ (by omega))) he⟩
 ·obtain rfl:n=128:=by omega
  repeat apply aj;rfl
  (apply bP Tryz.func26 Tryz.results26;rfl)
  exact .inl ⟨rfl,h3⟩
def gh(p it:List UInt8):List UInt8:=if eY p<it.length then(iP p).1 else p
def hY(p it:List UInt8):List UInt8×Nat×Nat:=nf (gh p it) it
theorem lP(p:List UInt8)(hp:p.length=1024):(iP p).1.length=1024:=by
 unfold iP
 split
 ·rename_i h
  exact(rY ((bw hp).1 h)).len
 ·exact ai
theorem oc(hp:p.length=1024):(gh p it).length=1024:=by
 unfold gh
 split
 ·exact lP p hp
 ·exact hp
theorem qC(hp:p.length=1024):(nf p it).1.length=1024:=by
 unfold nf
 split
 ·exact ai
 ·rename_i hr
  split
  ·exact ai
  ·rename_i h1
   split
   ·exact ai
   ·rename_i h2
    have hr:bl p=true:=by cases h:bl p with|true=>rfl|false=>exact absurd h hr
    have h1:1≤it.length∧it.length≤1000:=by omega
    exact(laid ((bw hp).1 hr) h1.2 (by omega) h1.1).len
theorem GW(hbc:H.at' bc=some (bsO s))(hs:BsIs H s (byV it))(hp:p.length=1024)(ht:H.at' t=some (ez a0 a1))(hto:H.at' to=some (pgO x0))(hx0:x0.length=1024)(hne:t≠to)(hit:it.length≤1000):Fnc Tryz.prog 33 [.sc (.int .i64 (n:Int)),.agg (pgS p),.ptr bc 0,.ptr t 0,.ptr to 0] H nx
 (fun q=>nx≤q.2.2∧(∀ m,m<nx→m≠t→m≠to→q.2.1.at' m=H.at' m)∧((hY p it).2.2=0→q.1 = .tup [.sc (.bool true),.sc (.int .i64 0)]∧q.2.1.at' t=some (ez n (hY p it).2.1)∧q.2.1.at' to=some (pgO (hY p it).1)) ∧
   ((hY p it).2.2≠0→q.1 = .tup [.sc (.bool false),.sc (.int .i64 0)]∧q.2.1.at' t=some (ez a0 a1)∧q.2.1.at' to=some (pgO x0))):=by
 refine JH Tryz.func33 rfl rfl ?_
 refine aW fun hund=>?_
 have l1:=hund _ _ hbc
 have l2:=hund _ _ ht
 have l3:=hund _ _ hto
 have hs1:BsIs (H.set nx (pgO p)) s (byV it):=hs.frame fun b vo hb=>(aa _ _ (by have:=hund b vo hb;omega)).trans hb
 have hbc1:(H.set nx (pgO p)).at' bc=some (bsO s):=by repeat(first|assumption|refine ab (by omega) ?_)
 have ht1:(H.set nx (pgO p)).at' t=some (ez a0 a1):=by repeat(first|assumption|refine ab (by omega) ?_)
 have hto1:(H.set nx (pgO p)).at' to=some (pgO x0):=by repeat(first|assumption|refine ab (by omega) ?_)
 have hb1:(H.set nx (pgO p)).at' nx=some (pgO p):=ah _ _ _
 have ho1: ∀ m,m<nx→(H.set nx (pgO p)).at' m=H.at' m:=fun m hm=>by(repeat(refine ab (by omega) ?_));rfl
 repeat apply aj;rfl
 generalize H.set nx (pgO p)=H1 at hs1 hbc1 ht1 hto1 hb1 ho1 ⊢
 have hbl:=bN it
 have hrl:=oc (it:=it) hp
 have hpk:=lP p hp
 unfold hY
 have hio:eY p<it.length∧gh p it=(iP p).1∨it.length≤eY p∧gh p it=p:=by unfold gh;split;exact .inl ⟨by assumption,rfl⟩;exact .inr ⟨by omega,rfl⟩
 generalize gh p it=pr at hrl hio ⊢
 rcases hio with ⟨hlt,rfl⟩|⟨hge,rfl⟩
 ·(apply bg;(focus(kernel_rfl));(focus(kernel_rfl)))
  repeat first|refine cg rfl rfl rfl (F.ag _ rfl) hb1 (be hp) ?_|apply bW;rfl;rfl;rfl;(focus(kernel_rfl));exact(z8 hp)|refine bk (an (F.ag _ rfl) rfl hbc1 (aD rfl)) rfl rfl rfl ?_|apply bI;rfl;rfl;exact(fun _ h=>by cases h);exact(fv (F.un _ rfl) rfl hs1)|refine cJ rfl rfl rfl rfl (fun _=>?_) (fun hq=>absurd hq (by omega))
  refine aA ⟨by kernel_rfl,?_,?_⟩;(focus(repeat(first|exact JR|apply kp;rfl|refine fT 0 rfl (by kernel_rfl) (by(repeat(refine⟨(by first|exact an (F.ag _ rfl) rfl (by assumption) (aD rfl)|exact aV (F.ag _ rfl) rfl hb1 (bm hp)|exact fv (F.un _ rfl) rfl hs1),?_⟩));exact JR) ?_|apply mv;kernel_rfl)))
  repeat first|apply bq hp;rfl;assumption|apply aj;rfl|apply bY;rfl;kernel_rfl;exact Cc hp|apply bC hpk hp;rfl;assumption
  (refine cL (R:=fun H2 n2=>n2=nx+1∧H2.at' nx=some (pgO (iP p).1)∧H2.at' bc=some (bsO s)∧BsIs H2 s (byV it)∧H2.at' t=some (ez a0 a1)∧H2.at' to=some (pgO x0)∧ ∀ m,m<nx→H2.at' m=H.at' m) ⟨rfl,by repeat(exact ac),by repeat(first|assumption|refine ab (by omega) ?_),hs.frame (fun b vo hb=>by have h9:=hund b vo hb;(focus((repeat(refine ab (by omega) ?_));exact(ho1 b h9).trans hb))),by repeat(first|assumption|refine ab (by omega) ?_),by repeat(first|assumption|refine ab (by omega) ?_),fun m hm=>by(repeat(refine ab (by omega) ?_));exact ho1 m hm⟩ ?_;rintro H2 n2 ⟨rfl,c1,c2,c3,c4,c5,c6⟩;have hi1:=qB (nx:=nx+1) hrl c3 (by omega);generalize hq:nf (iP p).1 it=q at hi1 ⊢;have hpl:q.1.length=1024:=hq ▸ qC hrl;obtain⟨p',slot,err⟩:=q;dsimp only at hpl ⊢;rcases Nat.eq_zero_or_pos err with he|he)
  ·(subst he;(repeat(first|apply bq hrl;rfl;assumption|apply bC hpl ai;rfl;(focus((repeat(exact ac));done))|refine aY rfl rfl ce ?_|apply aj;rfl|apply aG;rfl;assumption;rfl|apply bY;rfl;kernel_rfl;exact hi1|apply dH;rfl;rfl));refine cL (R:=fun H3 n3=>n3=nx+1+1∧H3.at' (nx+1)=some (pgO p')∧H3.at' t=some (ez a0 a1)∧H3.at' to=some (pgO x0)∧ ∀ m,m<nx→H3.at' m=H.at' m) ⟨rfl,by repeat(exact ac),by repeat(first|assumption|refine ab (by omega) ?_),by repeat(first|assumption|refine ab (by omega) ?_),fun m hm=>by(repeat(refine ab (by omega) ?_));exact c6 m hm⟩ ?_;rintro H3 n3 ⟨rfl,d1,d2,d3,d4⟩;(apply bg;(focus(kernel_rfl));(focus(kernel_rfl)));(repeat(first|refine cg rfl rfl rfl (F.ag _ rfl) d1 (be hpl) ?_|refine bU rfl rfl rfl (F.sz _ rfl) d2 rfl (by exact Hz rfl) rfl rfl ?_|apply bU;rfl;rfl;rfl;exact(F.sz _ rfl);exact((aa _ _ (Ne.symm hne)).trans d3);exact(be hpl);(focus(rw [be hx0];exact HS _));exact(iv _);exact(kU _ _ hx0 hpl)|apply aU;rfl));refine aA ⟨by kernel_rfl,?_,?_⟩;(focus(repeat(first|exact JR|apply kp;rfl|apply gu;rfl;kernel_rfl|refine fT 0 rfl (by kernel_rfl) (by(repeat(refine⟨(by(exact aV (F.ag _ rfl) rfl (by repeat(first|assumption|refine ab (by omega) ?_)) (bm hpl))),?_⟩));exact JR) ?_)));(repeat(apply aj;rfl));(apply bP Tryz.func33 Tryz.results33;rfl);exact⟨by first|omega|(dsimp only;omega),fun m h1 h2 h3=>(aa _ _ h3).trans ((aa _ _ h2).trans (d4 m h1)),fun _=>⟨rfl,(aa _ _ hne).trans (ah _ _ _),ah _ _ _⟩,fun h=>absurd rfl h⟩)
  ·((repeat(first|apply bq hrl;rfl;assumption|apply bC hpl ai;rfl;(focus((repeat(exact ac));done))|refine aY rfl rfl ce ?_|apply aj;rfl|apply aG;rfl;assumption;rfl|apply bY;rfl;kernel_rfl;exact hi1|refine lD rfl rfl rfl rfl (fun _=>?_) (fun hq=>absurd hq (by dsimp only;omega))));(apply bP Tryz.func33 Tryz.results33;rfl);exact⟨by first|omega|(dsimp only;omega),fun m h1 h2 h3=>by(repeat(refine ab (by omega) ?_));exact c6 m h1,fun h=>absurd h (Nat.ne_of_gt he),fun _=>⟨rfl,by repeat(first|assumption|refine ab (by omega) ?_),by repeat(first|assumption|refine ab (by omega) ?_)⟩⟩)
 ·(apply bg;(focus(kernel_rfl));(focus(kernel_rfl)))
  repeat first|refine cg rfl rfl rfl (F.ag _ rfl) hb1 (be hp) ?_|apply bW;rfl;rfl;rfl;(focus(kernel_rfl));exact(z8 hp)|refine bk (an (F.ag _ rfl) rfl hbc1 (aD rfl)) rfl rfl rfl ?_|apply bI;rfl;rfl;exact(fun _ h=>by cases h);exact(fv (F.un _ rfl) rfl hs1)|refine cJ rfl rfl rfl rfl (fun hq=>absurd hq (by omega)) (fun _=>?_)
  refine aA ⟨by kernel_rfl,?_,?_⟩;(focus(repeat(first|exact JR|apply kp;rfl|refine fT 0 rfl (by kernel_rfl) (by(repeat(refine⟨(by first|exact an (F.ag _ rfl) rfl (by assumption) (aD rfl)|exact aV (F.ag _ rfl) rfl hb1 (bm hp)|exact fv (F.un _ rfl) rfl hs1),?_⟩));exact JR) ?_|apply mv;kernel_rfl)))
  repeat apply aj;rfl
  (refine cL (R:=fun H2 n2=>n2=nx+1∧H2.at' nx=some (pgO pr)∧H2.at' bc=some (bsO s)∧BsIs H2 s (byV it)∧H2.at' t=some (ez a0 a1)∧H2.at' to=some (pgO x0)∧ ∀ m,m<nx→H2.at' m=H.at' m) ⟨rfl,by assumption,by assumption,hs.frame (fun b vo hb=>by have h9:=hund b vo hb;(focus(skip;exact(ho1 b h9).trans hb))),by assumption,by assumption,fun m hm=>by exact ho1 m hm⟩ ?_;rintro H2 n2 ⟨rfl,c1,c2,c3,c4,c5,c6⟩;have hi1:=qB (nx:=nx+1) hrl c3 (by omega);generalize hq:nf pr it=q at hi1 ⊢;have hpl:q.1.length=1024:=hq ▸ qC hrl;obtain⟨p',slot,err⟩:=q;dsimp only at hpl ⊢;rcases Nat.eq_zero_or_pos err with he|he)
  ·(subst he;(repeat(first|apply bq hrl;rfl;assumption|apply bC hpl ai;rfl;(focus((repeat(exact ac));done))|refine aY rfl rfl ce ?_|apply aj;rfl|apply aG;rfl;assumption;rfl|apply bY;rfl;kernel_rfl;exact hi1|apply dH;rfl;rfl));refine cL (R:=fun H3 n3=>n3=nx+1+1∧H3.at' (nx+1)=some (pgO p')∧H3.at' t=some (ez a0 a1)∧H3.at' to=some (pgO x0)∧ ∀ m,m<nx→H3.at' m=H.at' m) ⟨rfl,by repeat(exact ac),by repeat(first|assumption|refine ab (by omega) ?_),by repeat(first|assumption|refine ab (by omega) ?_),fun m hm=>by(repeat(refine ab (by omega) ?_));exact c6 m hm⟩ ?_;rintro H3 n3 ⟨rfl,d1,d2,d3,d4⟩;(apply bg;(focus(kernel_rfl));(focus(kernel_rfl)));(repeat(first|refine cg rfl rfl rfl (F.ag _ rfl) d1 (be hpl) ?_|refine bU rfl rfl rfl (F.sz _ rfl) d2 rfl (by exact Hz rfl) rfl rfl ?_|apply bU;rfl;rfl;rfl;exact(F.sz _ rfl);exact((aa _ _ (Ne.symm hne)).trans d3);exact(be hpl);(focus(rw [be hx0];exact HS _));exact(iv _);exact(kU _ _ hx0 hpl)|apply aU;rfl));refine aA ⟨by kernel_rfl,?_,?_⟩;(focus(repeat(first|exact JR|apply kp;rfl|apply gu;rfl;kernel_rfl|refine fT 0 rfl (by kernel_rfl) (by(repeat(refine⟨(by(exact aV (F.ag _ rfl) rfl (by repeat(first|assumption|refine ab (by omega) ?_)) (bm hpl))),?_⟩));exact JR) ?_)));(repeat(apply aj;rfl));(apply bP Tryz.func33 Tryz.results33;rfl);exact⟨by first|omega|(dsimp only;omega),fun m h1 h2 h3=>(aa _ _ h3).trans ((aa _ _ h2).trans (d4 m h1)),fun _=>⟨rfl,(aa _ _ hne).trans (ah _ _ _),ah _ _ _⟩,fun h=>absurd rfl h⟩)
  ·((repeat(first|apply bq hrl;rfl;assumption|apply bC hpl ai;rfl;(focus((repeat(exact ac));done))|refine aY rfl rfl ce ?_|apply aj;rfl|apply aG;rfl;assumption;rfl|apply bY;rfl;kernel_rfl;exact hi1|refine lD rfl rfl rfl rfl (fun _=>?_) (fun hq=>absurd hq (by dsimp only;omega))));(apply bP Tryz.func33 Tryz.results33;rfl);exact⟨by first|omega|(dsimp only;omega),fun m h1 h2 h3=>by(repeat(refine ab (by omega) ?_));exact c6 m h1,fun h=>absurd h (Nat.ne_of_gt he),fun _=>⟨rfl,by repeat(first|assumption|refine ab (by omega) ?_),by repeat(first|assumption|refine ab (by omega) ?_)⟩⟩)
def cu(pf:Nat→List UInt8)(it:List UInt8):Nat→Nat→Nat×Nat×Nat×List UInt8
 | 0,_=>(5,0,0,zeroP)
 | k+1,n=>
   if(aX (pf n)).2≠0 then(13,0,0,zeroP)
   else if(hY (aX (pf n)).1 it).2.2≠0 then cu pf it k (n+1)
   else(0,n,(hY (aX (pf n)).1 it).2.1,(hY (aX (pf n)).1 it).1)
theorem mI(pf:Nat→List UInt8)(it:List UInt8): ∀ k n,(cu pf it k n).1=0→n≤(cu pf it k n).2.1∧(cu pf it k n).2.1<n+k
 | 0,n,h=>by cases h
 | k+1,n,h=>by
   unfold cu at h ⊢
   split
   ·rename_i h1
    rw [Je h1] at h
    cases h
   ·rename_i h1
    rw [Jd h1] at h
    split
    ·rename_i h2
     rw [Je h2] at h
     have:=mI pf it k (n+1) h
     omega
    ·dsimp only;omega
theorem sF(pf:Nat→List UInt8)(it:List UInt8)(hpf: ∀ n,n<128→(pf n).length=1024): ∀ k n,n+k≤128→(cu pf it k n).2.2.2.length=1024
 | 0,n,_=>ai
 | k+1,n,hn=>by
   unfold cu
   split
   ·exact ai
   ·rename_i h1
    have h1:(aX (pf n)).2=0:=Decidable.not_not.1 h1
    split
    ·exact sF pf it hpf k (n+1) (by omega)
    ·have hr:=cN (p:=pf n) (q:=(aX (pf n)).1) (Prod.ext rfl h1) (hpf n (by omega))
     exact qC (oc hr.1)
theorem uU{x:List UInt8}(hb:H.at' b=some (cX mem 0 puts))(hm:mem.length=131072)(hn:n<128)(hx:x.length=1024):Fnc Tryz.prog 141 [.ptr b 0,.sc (.int .i64 (n:Int)),.agg (pgS x)] H nx
 (fun q=>q=(.sc (.int .i64 8),H,nx)):=by
 refine Fnc.bu (Free.sc _) ?_
 refine JH Tryz.func141 rfl rfl ?_
 refine aW fun hund=>?_
 have hlt:=hund _ _ hb
 have hb1:(H.set nx (pgO x)).at' b=some (cX mem 0 puts):=(aa _ _ (by omega)).trans hb
 have hold: ∀ m,m<nx→(H.set nx (pgO x)).at' m=H.at' m:=fun m hm=>aa _ _ (by omega)
 repeat apply aj;rfl
 generalize H.set nx (pgO x)=H1 at hb1 hold ⊢
 repeat first|refine cV rfl rfl rfl (F.ag _ rfl) hb1 (uX hm _ _) ?_|apply aj;rfl|apply kM;rfl;omega|apply dH;rfl;rfl
 (apply bP Tryz.func141 Tryz.results141;rfl)
 exact⟨rfl,Jb _,hold⟩
def lB(pf:Nat→List UInt8)(v:fY)(dead:Bool):(Nat×Nat×Nat)×Option (Nat×List UInt8):=
 if iS v=false then((0,0,2),none)
 else if(cu pf (aR v) 96 32).1≠0 then((0,0,(cu pf (aR v) 96 32).1),none)
 else if dead=true then((0,0,8),none)
 else(((cu pf (aR v) 96 32).2.1,(cu pf (aR v) 96 32).2.2.1,0),some ((cu pf (aR v) 96 32).2.1,(cu pf (aR v) 96 32).2.2.2))
def putO(mem:List UInt8)(left puts:Int):Option (Nat×List UInt8)→VO
 | none=>cX mem left puts
 | some (n,x)=>cX (gH mem n x) (left-1) (puts+1)
theorem Bd(hb:H.at' b=some (cX mem left puts))(hm:mem.length=131072)(hv:VerIs H s v)(hl2 : -1000000000≤left∧left≤1000000000)(hputs : -1000000000≤puts∧puts≤1000000000):Fnc Tryz.prog 11 [tv b,s] H nx
 (fun q=>q.1 = .tup [.agg [.sc (.int .i64 ((lB (az mem) v (decide (left=0))).1.1:Int)),.sc (.int .i64 ((lB (az mem) v (decide (left=0))).1.2.1:Int))],.sc (.int .i64 ((lB (az mem) v (decide (left=0))).1.2.2:Int))]
   ∧ q.2.1.at' b=some (putO mem left puts (lB (az mem) v (decide (left=0))).2)∧nx≤q.2.2∧ ∀ m,m<nx→m≠b→q.2.1.at' m=H.at' m):=by
 have hv0:=hv
 obtain⟨k,w,rfl,hk,hw⟩:=hv
 have hbl:=ef v
 refine JH Tryz.func11 rfl rfl ?_
 refine aW fun hund=>?_
 have lb:=hund _ _ hb
 repeat first|apply aj;rfl|apply lg;rfl;rfl;rfl;(focus(kernel_rfl))
 have a4:(((H.set nx (fm (ew k w v.2.2.1 v.2.2.2))).set (nx+1) (ez 0 0)).set (nx+1+1) (fp 0)).at' (nx+1)=some (ez 0 0):=by repeat(first|exact ac|refine ab (by omega) ?_)
 have a5:(((H.set nx (fm (ew k w v.2.2.1 v.2.2.2))).set (nx+1) (ez 0 0)).set (nx+1+1) (fp 0)).at' (nx+1+1)=some (fp 0):=by repeat(exact ac)
 have a3:(((H.set nx (fm (ew k w v.2.2.1 v.2.2.2))).set (nx+1) (ez 0 0)).set (nx+1+1) (fp 0)).at' nx=some (fm (ew k w v.2.2.1 v.2.2.2)):=by repeat(first|exact ac|refine ab (by omega) ?_)
 have ao: ∀ m,m<nx→(((H.set nx (fm (ew k w v.2.2.1 v.2.2.2))).set (nx+1) (ez 0 0)).set (nx+1+1) (fp 0)).at' m=H.at' m:=fun m hm=>by(repeat(refine ab (by omega) ?_));rfl
 generalize ((H.set nx (fm (ew k w v.2.2.1 v.2.2.2))).set (nx+1) (ez 0 0)).set (nx+1+1) (fp 0)=H1 at a3 a4 a5 ao ⊢
 repeat first|apply aj;rfl|apply aG;rfl;assumption;rfl|refine cc (e8 rfl rfl Tryz.underlying75 rfl) rfl rfl rfl ?_
 cases hmay:iS v with
 | false=>
   have hM:lB (az mem) v (decide (left=0))=((0,0,2),none):=by unfold lB;rw [Je hmay]
   rw [hM]
   refine aL rfl rfl rfl (by kernel_rfl) (JG (BA (hv0.frame fun b' vo hb'=>(ao _ (hund _ _ hb')).trans hb') hmay) ?_)
   rintro _ rfl
   dsimp only
   repeat first|apply aj;rfl|apply aG;rfl;(focus((repeat(first|assumption|exact ac|refine ab (by omega) ?_));done));rfl|refine Gb (cW (F.sz _ rfl) rfl rfl rfl (by repeat(first|assumption|exact ac)) (by rfl) (by exact Hz rfl) (by rfl)) rfl rfl ?_|apply ii;rfl;decide
   (refine cL (R:=fun H8 n8=>(∃ a0 a1:Int,H8.at' (nx+1)=some (ez a0 a1))∧H8.at' (nx+1+1)=some (fp 2)∧H8.at' b=some (cX mem left puts)∧nx≤n8∧ ∀ m,m<nx→H8.at' m=H.at' m) ⟨⟨_,_,by repeat(first|assumption|refine ab (by omega) ?_)⟩,by repeat(exact ac),by(repeat(refine ab (by omega) ?_));exact(ao b lb).trans hb,by omega,fun m hm=>by(repeat(refine ab (by omega) ?_));exact ao m hm⟩ ?_;rintro H8 n8 ⟨⟨a0,a1,e1⟩,e2,e5,e3,e4⟩;(apply bg;(focus(kernel_rfl));(focus(kernel_rfl)));(repeat(first|apply dA;rfl;assumption;rfl|refine dQ rfl rfl rfl (F.sz _ rfl) (by repeat(first|assumption|refine ab (by omega) ?_)) (by rfl) (by rfl) ?_|refine bU rfl rfl rfl (F.sz _ rfl) (by assumption) rfl (by exact Hz rfl) rfl (by rfl) ?_|apply aU;rfl));refine aA ⟨by kernel_rfl,?_,?_⟩;(focus(repeat(first|exact JR|apply kp;rfl|apply gu;rfl;kernel_rfl|refine fT 0 rfl (by kernel_rfl) (by(repeat(refine⟨(by(exact an (F.ag _ rfl) rfl (by repeat(first|assumption|exact ac|refine ab (by omega) ?_)) (aD rfl))),?_⟩));exact JR) ?_)));skip;refine eg Tryz.func11 (congrArg Array.toList Tryz.results11) (by kernel_rfl) (JG pM ?_);rintro _ rfl;refine⟨_,(by(repeat(first|exact JI|apply JJ rfl (JM (F.ag _ rfl) (by repeat(first|exact ac|refine ab (by omega) ?_)) (aD rfl))|apply JJ rfl (JL (F.ag _ rfl) (by repeat(first|exact ac|refine ab (by omega) ?_)) (am _ 0 rfl rfl))))),?_⟩;dsimp only;exact⟨rfl,by(repeat(refine ab (by omega) ?_));exact e5,by omega,fun m hm _=>by(repeat(refine ab (by omega) ?_));exact e4 m hm⟩)
 | true=>
   have hmd:=Jp hmay
   have hM:lB (az mem) v (decide (left=0))=if(cu (az mem) (aR v) 96 32).1≠0 then((0,0,(cu (az mem) (aR v) 96 32).1),none) else if decide (left=0)=true then((0,0,8),none)
    else(((cu (az mem) (aR v) 96 32).2.1,(cu (az mem) (aR v) 96 32).2.2.1,0),some ((cu (az mem) (aR v) 96 32).2.1,(cu (az mem) (aR v) 96 32).2.2.2)):=by unfold lB;rw [Jd (by rw [hmay];decide)]
   rw [hM]
   refine aL rfl rfl rfl (by kernel_rfl) (JG (zR (hv0.frame fun b' vo hb'=>(ao _ (hund _ _ hb')).trans hb') hmay) ?_)
   rintro⟨_,H2,n2⟩ ⟨r,rfl,b1,b2,b3,b4⟩
   dsimp only at b1 b3 b4 ⊢
   have b5:=(b4 _ (show nx+1+1<nx+1+1+1 by omega)).trans a5
   have b6:=(b4 _ (show nx+1<nx+1+1+1 by omega)).trans a4
   have bo: ∀ m,m<nx→H2.at' m=H.at' m:=fun m hm=>(b4 m (by omega)).trans (ao m hm)
   clear a3 a4 a5 ao b4
   repeat first|refine aY rfl rfl ce ?_|apply aj;rfl|apply aG;rfl;(focus((repeat(first|assumption|exact ac|refine ab (by omega) ?_));done));rfl|apply dH;rfl;rfl
   refine aW fun hund3=>?_
   have hI0: ∀ k,cu (az mem) (aR v) k 128=cu (az mem) (aR v) k 128:=fun _=>rfl
   refine aL rfl rfl rfl (by kernel_rfl) (JG (Cy (b:=b) (left:=left) (puts:=puts) hm (g:=33) (caps:= [.ptr n2 0,.ptr (nx+1) 0,.ptr (n2+1) 0]) (by kernel_rfl)
    (fun n H1 n1=>H1.at' b=some (cX mem left puts)∧H1.at' n2=some (bsO (.slu r 0 (aR v).length))∧H1.at' r=some (u8R false (byV (aR v)))∧H1.at' (nx+1)=some (ez 0 0)∧H1.at' (n2+1)=some (pgO zeroP)∧H1.at' (nx+1+1)=some (fp 0)∧n2+1+1≤n1∧(∀ m,m<nx→H1.at' m=H.at' m)∧32≤n∧n≤128∧cu (az mem) (aR v) (128-n) n=cu (az mem) (aR v) 96 32)
    (fun e H1 n1=>H1.at' b=some (cX mem left puts)∧H1.at' (nx+1+1)=some (fp 0)∧n2+1+1≤n1∧(∀ m,m<nx→H1.at' m=H.at' m) ∧
      ((e=0∧(cu (az mem) (aR v) 96 32).1=0∧H1.at' (nx+1)=some (ez (cu (az mem) (aR v) 96 32).2.1 (cu (az mem) (aR v) 96 32).2.2.1)∧H1.at' (n2+1)=some (pgO (cu (az mem) (aR v) 96 32).2.2.2)) ∨
       (e=13∧(cu (az mem) (aR v) 96 32).1=13∧H1.at' (nx+1)=some (ez 0 0))))
    (fun n H1 n1 h=>h.1) ?_ ?_ ?_ ?_) ?_)
   ·rintro n H3 n3 H4 n4 ⟨i1,i2,i3,i4,i5,i6,i7,i8,i9,i10,i11⟩ hle hs
    exact⟨(hs _ (by omega)).trans i1,(hs _ (by omega)).trans i2,(hs _ (by omega)).trans i3,(hs _ (by omega)).trans i4,(hs _ (by omega)).trans i5,(hs _ (by omega)).trans i6,by omega,fun m hm=>(hs _ (by omega)).trans (i8 m hm),i9,i10,i11⟩
   ·rintro n p H3 n3 h32 h128 ⟨i1,i2,i3,i4,i5,i6,i7,i8,i9,i10,i11⟩ hrd
    obtain⟨hpp,_,_⟩:=cN hrd (dx hm h128)
    refine JG (GW (bc:=n2) (t:=nx+1) (to:=n2+1) (s:= .slu r 0 (aR v).length) (it:=aR v) (x0:=zeroP) i2 (jc i3) hpp i4 i5 ai (by omega) (by omega)) ?_
    rintro⟨_,H4,n4⟩ ⟨g1,g2,g3,g4⟩
    dsimp only at g1 g2 g3 g4 ⊢
    have hgo:cu (az mem) (aR v) (128-n) n=if(hY p (aR v)).2.2≠0 then cu (az mem) (aR v) (128-(n+1)) (n+1) else(0,n,(hY p (aR v)).2.1,(hY p (aR v)).1):=by
     rw [show 128-n=(128-(n+1))+1 by omega]
     show(if _ then _ else _)=_
     rw [hrd,Jd (fun h=>h rfl)]
    by_cases he:(hY p (aR v)).2.2=0
    ·obtain⟨g5,g6,g7⟩:=g3 he
     rw [Jd (fun h=>h he),i11] at hgo
     exact .inr ⟨true,0,.inl rfl,g5,(g2 _ (by omega) (by omega) (by omega)).trans i1,(g2 _ (by omega) (by omega) (by omega)).trans i6,by omega,fun m hm=>(g2 _ (by omega) (by omega) (by omega)).trans (i8 m hm),.inl ⟨rfl,by rw [hgo],by rw [hgo];exact g6,by rw [hgo];exact g7⟩⟩
    ·obtain⟨g5,g6,g7⟩:=g4 he
     rw [Je he,i11] at hgo
     exact .inl ⟨g5,(g2 _ (by omega) (by omega) (by omega)).trans i1,(g2 _ (by omega) (by omega) (by omega)).trans i2,(g2 _ (by omega) (by omega) (by omega)).trans i3,g6,g7,(g2 _ (by omega) (by omega) (by omega)).trans i6,by omega,fun m hm=>(g2 _ (by omega) (by omega) (by omega)).trans (i8 m hm),by omega,by omega,hgo.symm⟩
   ·rintro n H3 n3 h32 h128 ⟨i1,i2,i3,i4,i5,i6,i7,i8,i9,i10,i11⟩ hrd
    have hgo:cu (az mem) (aR v) (128-n) n=(13,0,0,zeroP):=by
     rw [show 128-n=(128-(n+1))+1 by omega]
     show(if _ then _ else _)=_
     rw [hrd,Je (by decide)]
    exact⟨i1,i6,i7,i8,.inr ⟨rfl,by rw [← i11,hgo],i4⟩⟩
   ·exact⟨by(repeat(refine ab (by omega) ?_));exact(bo b lb).trans hb,by repeat(first|exact ac|refine ab (by omega) ?_),by(repeat(refine ab (by omega) ?_));exact b1,by repeat(first|assumption|refine ab (by omega) ?_),by repeat(exact ac),by repeat(first|exact ac|refine ab (by omega) ?_),by omega,fun m hm=>by(repeat(refine ab (by omega) ?_));exact bo m hm,by omega,by omega,rfl⟩
   have hG:=mI (az mem) (aR v) 96 32
   have hGl:=sF (az mem) (aR v) (fun n hn=>dx hm hn) 96 32 (by omega)
   have hG0:cu (az mem) (aR v) 0 128=(5,0,0,zeroP):=rfl
   generalize cu (az mem) (aR v) 96 32=G at hG hGl ⊢
   obtain⟨Ge,Gn,Gk,Gx⟩:=G
   clear b1 b5 b6 bo hund3
   rintro⟨_,H4,n4⟩ (⟨rfl,c1,_,_,c4,_,c6,c7,c8,_,_,c11⟩|⟨e,rfl,c1,c6,c7,c8,(⟨rfl,c9,c10,c11⟩|⟨rfl,c9,c10⟩)⟩)
   ·dsimp only at c1 c4 c6 c7 c8 c11 hG hGl ⊢
    rw [show cu (az mem) (aR v) (128-128) 128=(5,0,0,zeroP)from rfl] at c11
    obtain rfl:5=Ge:=(Prod.mk.inj c11).1
    rw [Je (by decide)]
    repeat first|apply aj;rfl|apply aG;rfl;(focus((repeat(first|assumption|exact ac|refine ab (by omega) ?_));done));rfl|apply dH;rfl;rfl|apply ii;rfl;decide
    (refine cL (R:=fun H8 n8=>(∃ a0 a1:Int,H8.at' (nx+1)=some (ez a0 a1))∧H8.at' (nx+1+1)=some (fp 5)∧H8.at' b=some (cX mem left puts)∧nx≤n8∧ ∀ m,m<nx→H8.at' m=H.at' m) ⟨⟨_,_,by repeat(first|assumption|refine ab (by omega) ?_)⟩,by repeat(exact ac),by(repeat(refine ab (by omega) ?_));exact c1,by omega,fun m hm=>by(repeat(refine ab (by omega) ?_));exact c8 m hm⟩ ?_;rintro H8 n8 ⟨⟨a0,a1,e1⟩,e2,e5,e3,e4⟩;(apply bg;(focus(kernel_rfl));(focus(kernel_rfl)));(repeat(first|apply dA;rfl;assumption;rfl|refine dQ rfl rfl rfl (F.sz _ rfl) (by repeat(first|assumption|refine ab (by omega) ?_)) (by rfl) (by rfl) ?_|refine bU rfl rfl rfl (F.sz _ rfl) (by assumption) rfl (by exact Hz rfl) rfl (by rfl) ?_|apply aU;rfl));refine aA ⟨by kernel_rfl,?_,?_⟩;(focus(repeat(first|exact JR|apply kp;rfl|apply gu;rfl;kernel_rfl|refine fT 0 rfl (by kernel_rfl) (by(repeat(refine⟨(by(exact an (F.ag _ rfl) rfl (by repeat(first|assumption|exact ac|refine ab (by omega) ?_)) (aD rfl))),?_⟩));exact JR) ?_)));skip;refine eg Tryz.func11 (congrArg Array.toList Tryz.results11) (by kernel_rfl) (JG pM ?_);rintro _ rfl;refine⟨_,(by(repeat(first|exact JI|apply JJ rfl (JM (F.ag _ rfl) (by repeat(first|exact ac|refine ab (by omega) ?_)) (aD rfl))|apply JJ rfl (JL (F.ag _ rfl) (by repeat(first|exact ac|refine ab (by omega) ?_)) (am _ 0 rfl rfl))))),?_⟩;dsimp only;exact⟨rfl,by(repeat(refine ab (by omega) ?_));exact e5,by omega,fun m hm _=>by(repeat(refine ab (by omega) ?_));exact e4 m hm⟩)
   ·dsimp only at c1 c6 c7 c8 c9 c10 c11 hG hGl ⊢
    obtain rfl:Ge=0:=c9
    have hGn:=hG rfl
    rw [Jd (fun h=>h rfl)]
    repeat first|apply bq hGl;rfl;(focus((repeat(first|assumption|refine ab (by omega) ?_));done))|apply aj;rfl|apply aG;rfl;(focus((repeat(first|assumption|exact ac|refine ab (by omega) ?_));done));rfl|apply ii;rfl;omega|apply dH;rfl;rfl
    by_cases hl:left=0
    ·subst hl
     rw [Je (show decide ((0:Int)=0)=true from rfl)]
     refine lE 141 rfl rfl rfl rfl (by kernel_rfl) (JG (uU (n:=Gn) (by repeat(first|assumption|refine ab (by omega) ?_)) hm (by omega) hGl) ?_)
     rintro _ rfl
     dsimp only
     repeat first|apply aj;rfl|apply aG;rfl;(focus((repeat(exact ac));done));rfl|apply ii;rfl;decide
     (refine cL (R:=fun H8 n8=>(∃ a0 a1:Int,H8.at' (nx+1)=some (ez a0 a1))∧H8.at' (nx+1+1)=some (fp 8)∧H8.at' b=some (cX mem 0 puts)∧nx≤n8∧ ∀ m,m<nx→H8.at' m=H.at' m) ⟨⟨_,_,by repeat(first|assumption|refine ab (by omega) ?_)⟩,by repeat(exact ac),by(repeat(refine ab (by omega) ?_));exact c1,by omega,fun m hm=>by(repeat(refine ab (by omega) ?_));exact c8 m hm⟩ ?_;rintro H8 n8 ⟨⟨a0,a1,e1⟩,e2,e5,e3,e4⟩;(apply bg;(focus(kernel_rfl));(focus(kernel_rfl)));(repeat(first|apply dA;rfl;assumption;rfl|refine dQ rfl rfl rfl (F.sz _ rfl) (by repeat(first|assumption|refine ab (by omega) ?_)) (by rfl) (by rfl) ?_|refine bU rfl rfl rfl (F.sz _ rfl) (by assumption) rfl (by exact Hz rfl) rfl (by rfl) ?_|apply aU;rfl));refine aA ⟨by kernel_rfl,?_,?_⟩;(focus(repeat(first|exact JR|apply kp;rfl|apply gu;rfl;kernel_rfl|refine fT 0 rfl (by kernel_rfl) (by(repeat(refine⟨(by(exact an (F.ag _ rfl) rfl (by repeat(first|assumption|exact ac|refine ab (by omega) ?_)) (aD rfl))),?_⟩));exact JR) ?_)));skip;refine eg Tryz.func11 (congrArg Array.toList Tryz.results11) (by kernel_rfl) (JG pM ?_);rintro _ rfl;refine⟨_,(by(repeat(first|exact JI|apply JJ rfl (JM (F.ag _ rfl) (by repeat(first|exact ac|refine ab (by omega) ?_)) (aD rfl))|apply JJ rfl (JL (F.ag _ rfl) (by repeat(first|exact ac|refine ab (by omega) ?_)) (am _ 0 rfl rfl))))),?_⟩;dsimp only;exact⟨rfl,by(repeat(refine ab (by omega) ?_));exact e5,by omega,fun m hm _=>by(repeat(refine ab (by omega) ?_));exact e4 m hm⟩)
    ·rw [Jd (by rw [JE];exact hl)]
     refine lE 141 rfl rfl rfl rfl (by kernel_rfl) (JG (uS (n:=Gn) (by repeat(first|assumption|refine ab (by omega) ?_)) hm (by omega) hGl hl hl2 hputs) ?_)
     rintro⟨_,H5,n5⟩ ⟨rfl,d1,d2,d3⟩
     dsimp only at d1 d2 d3 ⊢
     have d4:H5.at' (nx+1)=some (ez Gn Gk):=(d3 _ (by omega) (by omega)).trans (by repeat(first|assumption|refine ab (by omega) ?_))
     have d5:H5.at' (nx+1+1)=some (fp 0):=(d3 _ (by omega) (by omega)).trans (by repeat(exact ac))
     have dold: ∀ m,m<nx→m≠b→H5.at' m=H.at' m:=fun m hm hmb=>(d3 _ (by omega) hmb).trans (by(repeat(refine ab (by omega) ?_));exact c8 m hm)
     clear c1 c6 c8 c10 c11 d3
     repeat first|apply aj;rfl|apply aG;rfl;(focus((repeat(first|assumption|exact ac|refine ab (by omega) ?_));done));rfl|apply dH;rfl;rfl
     refine eg Tryz.func11 (congrArg Array.toList Tryz.results11) (by kernel_rfl) (JG pM ?_)
     rintro _ rfl
     refine⟨_,(by(repeat(first|exact JI|apply JJ rfl (JM (F.ag _ rfl) (by repeat(first|exact ac|refine ab (by omega) ?_)) (aD rfl))|apply JJ rfl (JL (F.ag _ rfl) (by repeat(first|exact ac|refine ab (by omega) ?_)) (am _ 0 rfl rfl))))),?_⟩
     dsimp only
     exact⟨rfl,by(repeat(refine ab (by omega) ?_));exact d1,by omega,fun m h1 h2=>by(repeat(refine ab (by omega) ?_));exact dold m h1 h2⟩
   ·dsimp only at c1 c6 c7 c8 c9 c10 hG hGl ⊢
    obtain rfl:Ge=13:=c9
    rw [Je (by decide)]
    repeat first|apply aj;rfl|apply aG;rfl;(focus((repeat(first|assumption|exact ac));done));rfl|apply ii;rfl;decide
    (refine cL (R:=fun H8 n8=>(∃ a0 a1:Int,H8.at' (nx+1)=some (ez a0 a1))∧H8.at' (nx+1+1)=some (fp 13)∧H8.at' b=some (cX mem left puts)∧nx≤n8∧ ∀ m,m<nx→H8.at' m=H.at' m) ⟨⟨_,_,by repeat(first|assumption|refine ab (by omega) ?_)⟩,by repeat(exact ac),by(repeat(refine ab (by omega) ?_));exact c1,by omega,fun m hm=>by(repeat(refine ab (by omega) ?_));exact c8 m hm⟩ ?_;rintro H8 n8 ⟨⟨a0,a1,e1⟩,e2,e5,e3,e4⟩;(apply bg;(focus(kernel_rfl));(focus(kernel_rfl)));(repeat(first|apply dA;rfl;assumption;rfl|refine dQ rfl rfl rfl (F.sz _ rfl) (by repeat(first|assumption|refine ab (by omega) ?_)) (by rfl) (by rfl) ?_|refine bU rfl rfl rfl (F.sz _ rfl) (by assumption) rfl (by exact Hz rfl) rfl (by rfl) ?_|apply aU;rfl));refine aA ⟨by kernel_rfl,?_,?_⟩;(focus(repeat(first|exact JR|apply kp;rfl|apply gu;rfl;kernel_rfl|refine fT 0 rfl (by kernel_rfl) (by(repeat(refine⟨(by(exact an (F.ag _ rfl) rfl (by repeat(first|assumption|exact ac|refine ab (by omega) ?_)) (aD rfl))),?_⟩));exact JR) ?_)));skip;refine eg Tryz.func11 (congrArg Array.toList Tryz.results11) (by kernel_rfl) (JG pM ?_);rintro _ rfl;refine⟨_,(by(repeat(first|exact JI|apply JJ rfl (JM (F.ag _ rfl) (by repeat(first|exact ac|refine ab (by omega) ?_)) (aD rfl))|apply JJ rfl (JL (F.ag _ rfl) (by repeat(first|exact ac|refine ab (by omega) ?_)) (am _ 0 rfl rfl))))),?_⟩;dsimp only;exact⟨rfl,by(repeat(refine ab (by omega) ?_));exact e5,by omega,fun m hm _=>by(repeat(refine ab (by omega) ?_));exact e4 m hm⟩)
abbrev th:=(Nat×Nat)×fY
abbrev qZ(n k:Nat)(s1 s2:SV)(x y:Nat):List SV:= [.sc (.int .i64 (n:Int)),.sc (.int .i64 (k:Int)),s1,s2,.sc (.int .u64 (x:Int)),.sc (.int .u64 (y:Int))]
def RowsC(H:au)(ok:Nat→Prop):List SV→List th→Prop
 | ws,[]=>ws= []
 | ws,x :: l=> ∃ s1 s2 rest r,ws=qZ x.1.1 x.1.2 s1 s2 x.2.2.2.1 x.2.2.2.2 ++ rest∧ok r∧BlkS H s1 r x.2.1∧BlkS H s2 r x.2.2.1∧RowsC H ok rest l
theorem RowsC.frame{H H':au}{ok ok':Nat→Prop}: ∀ {l:List th} {ws:List SV},RowsC H ok ws l→(∀ r,ok r→ok' r∧H'.at' r=H.at' r)→RowsC H' ok' ws l
 | [],ws,h,_=>h
 | x :: l,ws,h,hf=>by
   obtain⟨s1,s2,rest,r,h1,h2,h3,h4,h5⟩:=h
   have hr:=hf r h2
   exact⟨s1,s2,rest,r,h1,hr.1,h3.frame hr.2,h4.frame hr.2,RowsC.frame h5 hf⟩
theorem RowsC.len{H:au}{ok:Nat→Prop}: ∀ {l:List th} {ws:List SV},RowsC H ok ws l→ws.length=l.length*6
 | [],ws,h=>by rw [show ws= [] from h];rfl
 | x :: l,ws,h=>by
   obtain⟨s1,s2,rest,r,rfl,_,_,_,h5⟩:=h
   have:=RowsC.len h5
   simp only [HW,HV,List.length_nil]
   omega
theorem RowsC.snoc{H:au}{ok:Nat→Prop}{y:th}{s1 s2:SV}{r:Nat}(hr:ok r)(hk:BlkS H s1 r y.2.1)(hw:BlkS H s2 r y.2.2.1): ∀ {l:List th} {ws:List SV},RowsC H ok ws l→RowsC H ok (ws ++ qZ y.1.1 y.1.2 s1 s2 y.2.2.2.1 y.2.2.2.2) (l ++ [y])
 | [],ws,h=>by
   rw [show ws= [] from h]
   exact⟨s1,s2,[],r,by simp,hr,hk,hw,rfl⟩
 | x :: l,ws,h=>by
   obtain⟨t1,t2,rest,r',rfl,h2,h3,h4,h5⟩:=h
   exact⟨t1,t2,rest ++ _,r',by rw [Jo],h2,h3,h4,RowsC.snoc hr hk hw h5⟩
def RowsAt(H:au)(ok:Nat→Prop)(r:Nat)(s:SV)(l:List th):Prop:=
 (l= []∧s=dy)∨ ∃ (ws:List SV) (L:List Nat),0<l.length∧s = .slu r 0 l.length∧H.at' r=some (nn false l.length 6 67 ws)∧(∀ m∈L,ok m∧m≠r)∧ok r∧RowsC H (·∈L) ws l
theorem RowsAt.grow{H':au}{ok':Nat→Prop}{l:List th}(h:RowsAt H ok r s l)(hf: ∀ m,ok m→ok' m∧H'.at' m=H.at' m):RowsAt H' ok' r s l:=by
 rcases h with h|⟨ws,L,h0,h1,h2,h3,h4,h6⟩
 ·exact .inl h
 ·exact .inr ⟨ws,L,h0,h1,(hf r h4).2.trans h2,fun m hm=>⟨(hf m (h3 m hm).1).1,(h3 m hm).2⟩,(hf r h4).1,h6.frame fun r hr=>⟨hr,(hf r (h3 r hr).1).2⟩⟩
theorem RowsAt.len{l:List th}(h:RowsAt H ok r s l):s.one=true:=by
 rcases h with ⟨_,rfl⟩|⟨_,_,_,rfl,_⟩ <;> rfl
def dN(n:Nat)(p:List UInt8):Nat→List th
 | 0=> []
 | j+1=>dN n p j ++ if ar p j=0 then [] else [((n,j),(ofV (aS p j)).getD iH)]
theorem ir(n:Nat)(p:List UInt8): ∀ j,(dN n p j).length≤j
 | 0=>HS _
 | j+1=>by
   have:=ir n p j
   unfold dN
   rw [HW]
   split
   ·simp;omega
   ·simp;omega
abbrev pj(n:Nat)(p:List UInt8):List th:=dN n p (ae p)
abbrev rsO(s:SV):VO:=aq 48 [s]
theorem BlkS.there(h:BlkS H s r l)(hl:l≠ []): ∃ vo,H.at' r=some vo:=by
 rcases h with ⟨_,h⟩|⟨_,_,_,vo,h,_⟩
 ·exact absurd h hl
 ·exact⟨vo,h⟩
theorem tU(h:ofV l=some v):iS v=true:=by
 unfold ofV Cr at h
 split at h
 ·cases h
 ·split at h
  ·rename_i h2
   rw [← Option.some.inj h]
   exact h2.2
  ·cases h
theorem Hj{B c r0:Nat}{l:List th}(hc:H.at' c=some (rsO s))(hR:RowsAt H (fun m=>B≤m∧m<nx) r0 s l)(hcB:c<B)(hBn:B≤nx)(hp:p.length=1024)(hr:bl p=true)(hof: ∀ j,j<ae p→ar p j≠0→(ofV (aS p j)).isSome=true)(hl:l.length≤100000):Fnc Tryz.prog 38 [.sc (.int .i64 (n:Int)),.agg (pgS p),.ptr c 0] H nx
 (fun q=>q.1 = .tup [.sc (.bool false),.sc (.int .i64 0)]∧nx≤q.2.2∧(∃ s' r',q.2.1.at' c=some (rsO s')∧RowsAt q.2.1 (fun m=>B≤m∧m<q.2.2) r' s' (l ++ pj n p))∧ ∀ m,m<B→m≠c→q.2.1.at' m=H.at' m):=by
 have hfit:=(bw hp).1 hr
 have hh:=hfit.head
 have ht:=hfit.top
 refine JH Tryz.func38 rfl rfl ?_
 refine aW fun hund=>?_
 have lc:=hund _ _ hc
 repeat first|apply bq hp;rfl;(focus((repeat(first|exact ac|refine ab (by omega) ?_));done))|apply aj;rfl|apply bY;rfl;kernel_rfl;exact ub hp
 rw [hr]
 obtain⟨q0,hq0⟩: ∃ q0,q0=nx+1+1+1+1:=⟨_,rfl⟩
 rw [← hq0]
 refine cL (R:=fun H4 n4=>n4=q0+1+1∧H4.at' q0=some (pgO p)∧H4.at' (q0+1)=some (aq 4 [.sc (.bool true)])∧H4.at' nx=some (aq 3 [.sc (.int .i64 (n:Int))])∧H4.at' (nx+1+1)=some (aq 4 [.sc (.bool false)])∧H4.at' (nx+1+1+1)=some (fp 0)∧ ∀ m,m<nx→H4.at' m=H.at' m)
  ⟨rfl,by repeat(first|exact ac|refine ab (by omega) ?_),by repeat(exact ac),by repeat(first|exact ac|refine ab (by omega) ?_),by repeat(first|exact ac|refine ab (by omega) ?_),by repeat(first|exact ac|refine ab (by omega) ?_),fun m hm=>by(repeat(refine ab (by omega) ?_));rfl⟩ ?_
 rintro H4 n4 ⟨rfl,m0,m1,m2,m4,m5,mo⟩
 refine iI [(2,.ptr c 0),(3,.ptr nx 0),(5,.ptr (nx+1+1) 0),(6,.ptr (nx+1+1+1) 0)] rfl rfl (by kernel_rfl) (JN (JQ rfl)) ?_
 intro cA cB hcA hcB2
 refine JG (ua (l:=q0+1+1+1) (f:=q0+1) (q:=q0) hp hr (f2:=38) (nt2:=31) (T2:=slT [(2,.ptr c 0),(3,.ptr nx 0),(5,.ptr (nx+1+1) 0),(6,.ptr (nx+1+1+1) 0)]) (ps:= #[13,14]) (ca:=cA) (cb:=cB) (dr:=q0+1+1) rfl
  (fun j H5 n5=>H5.at' (q0+1+1+1)=some (.loop .ready none 38 31 (slT [(2,.ptr c 0),(3,.ptr nx 0),(5,.ptr (nx+1+1) 0),(6,.ptr (nx+1+1+1) 0)]) #[13,14] cA cB (q0+1+1))∧H5.at' (q0+1)=some (aq 4 [.sc (.bool true)])∧H5.at' q0=some (pgO p)∧q0+1+1+1+1≤n5∧H5.at' nx=some (aq 3 [.sc (.int .i64 (n:Int))])∧H5.at' (nx+1+1)=some (aq 4 [.sc (.bool false)])∧H5.at' (nx+1+1+1)=some (fp 0)∧H5.at' (q0+1+1)=some (.dfd (some []))∧(∃ s' r',H5.at' c=some (rsO s')∧RowsAt H5 (fun m=>B≤m∧m<n5∧(m<nx∨q0+1+1+1+1<m)) r' s' (l ++ dN n p j))∧ ∀ m,m<B→m≠c→H5.at' m=H.at' m)
  (fun _ _=>False)
  ?_ ?_ ?_ ?_ ?_) ?_
 ·rintro j H5 n5 ⟨i1,i2,i3,i4,_⟩
  exact⟨i1,i2,i3,by omega,by omega,by omega⟩
 ·rintro j H5 n5 H6 n6 ⟨i1,i2,i3,i4,i5,i6,i7,i8,⟨s',r',i9,i10⟩,i12⟩ hle hs
  exact⟨(hs _ (by omega)).trans i1,(hs _ (by omega)).trans i2,(hs _ (by omega)).trans i3,by omega,(hs _ (by omega)).trans i5,(hs _ (by omega)).trans i6,(hs _ (by omega)).trans i7,(hs _ (by omega)).trans i8,⟨s',r',(hs _ (by omega)).trans i9,i10.grow fun m hm=>⟨⟨hm.1,by omega,hm.2.2⟩,hs m hm.2.1⟩⟩,fun m hm hmc=>(hs _ (by omega)).trans (i12 m hm hmc)⟩
 ·rintro j H5 n5 ⟨i1,i2,i3,i4,i5,i6,i7,i8,i9,i12⟩ hz
  have e1:dN n p (j+1)=dN n p j:=by show _ ++ (if _ then _ else _)=_;rw [Je hz,Jr]
  exact⟨i1,i2,i3,i4,i5,i6,i7,i8,by rw [e1];exact i9,i12⟩
 ·rintro j H5 n5 r ⟨i1,i2,i3,i4,i5,i6,i7,i8,⟨s',r',i9,i10⟩,i12⟩ hr1 hr2 hj hs hrow
  have hrow2:(H5.set (q0+1+1+1) (.loop .busy none 38 31 (slT [(2,.ptr c 0),(3,.ptr nx 0),(5,.ptr (nx+1+1) 0),(6,.ptr (nx+1+1+1) 0)]) #[13,14] cA cB (q0+1+1))).at' r=some (u8R false (byV (aS p j))):=(aa _ _ (by omega)).trans hrow
  have hil:(aS p j).length≤1024:=by unfold aS;rw [Jh,Jk];omega
  refine m8 hcA ?_
  repeat apply aj;rfl
  refine pZ (by assumption) ?_
  refine m8 hcB2 ?_
  repeat apply aj;rfl
  refine aL rfl rfl rfl (by kernel_rfl) (JG (of_s (jc hrow2) (by omega)) ?_)
  rintro⟨_,H6,n6⟩ ⟨sv,rv,rfl,g1,g2,g3,g4⟩
  refine aW fun hund6'=>?_
  have hund6: ∀ b vo,H6.at' b=some vo→n6≤b→False:=fun b vo h h2=>absurd (hund6' b vo h) (Nat.not_lt.2 h2)
  clear hund6'
  obtain⟨v,hv⟩: ∃ v,ofV (aS p j)=some v:=by cases h:ofV (aS p j)with|some v=>exact⟨v,rfl⟩|none=>have:=hof j hj hs;rw [h] at this;cases this
  rw [hv] at g1 ⊢
  obtain⟨k0,w0,rfl,gk,gw⟩:=g1
  dsimp only [Option.getD] at gk gw g2 g3 g4 ⊢
  have hone: ∀ x y:Nat,bh (ew k0 w0 x y)=true:=fun x y=>by simp only [bh,cC gk.bs,cC gw.bs];rfl
  have hone6:bh (qZ n j k0 w0 v.2.2.1 v.2.2.2)=true:=by simp only [bh,cC gk.bs,cC gw.bs];rfl
  have ko: ∀ m,m<n5→m≠q0+1+1+1→H6.at' m=H5.at' m:=fun m h1 h2=>(g4 m h1).trans (aa _ _ h2)
  have kl:H6.at' (q0+1+1+1)=some (.loop .busy none 38 31 (slT [(2,.ptr c 0),(3,.ptr nx 0),(5,.ptr (nx+1+1) 0),(6,.ptr (nx+1+1+1) 0)]) #[13,14] cA cB (q0+1+1)):=(g4 _ (by omega)).trans (ah _ _ _)
  have k5:=(ko nx (by omega) (by omega)).trans i5
  have k6:=(ko (nx+1+1) (by omega) (by omega)).trans i6
  have k7:=(ko (nx+1+1+1) (by omega) (by omega)).trans i7
  have k9:=(ko c (by omega) (by omega)).trans i9
  have hvk:v.1≠ []:=fun h=>by
   have h1:iS v=true:=tU hv
   have:=Jp h1
   rw [h] at this
   exact absurd this.1.1 (by decide)
  have hrv:rv<n6:=by
   obtain⟨vo,h⟩:=gk.there hvk
   exact Nat.lt_of_not_le fun h2=>hund6 _ _ h h2
  have i10':RowsAt H6 (fun m=>B≤m∧m<n5∧(m<nx∨q0+1+1+1+1<m)) r' s' (l ++ dN n p j):=i10.grow fun m hm=>⟨hm,ko m hm.2.1 (by omega)⟩
  have k2:=(ko (q0+1) (by omega) (by omega)).trans i2
  have k3:=(ko q0 (by omega) (by omega)).trans i3
  have k8:=(ko (q0+1+1) (by omega) (by omega)).trans i8
  have k12: ∀ m,m<B→m≠c→H6.at' m=H.at' m:=fun m h1 h2=>(ko m (by omega) (by omega)).trans (i12 m h1 h2)
  have kf:=ko (q0+1+1+1+1) (by omega) (by omega)
  have hrl:(l ++ dN n p j).length≤200000:=by have:=ir n p j;rw [HW];omega
  have e1:l ++ dN n p (j+1)=(l ++ dN n p j) ++ [((n,j),v)]:=by
   show l ++ (_ ++ if _ then _ else _)=_
   rw [Jd hs,hv,Jo]
   rfl
  rw [e1]
  generalize l ++ dN n p j=lj at i10' hrl
  clear i10 g4 i1 i2 i3 i5 i6 i7 i8 i9
  rcases i10' with ⟨rfl,rfl⟩|⟨ws,L,h0,rfl,h2,h3,h4,h6⟩
  ·repeat first|apply aj;rfl|apply aG;rfl;(focus((repeat(first|assumption|exact ac|refine ab (by omega) ?_));done));rfl|refine dm rfl rfl rfl (F.sz _ rfl) (by repeat(first|assumption|exact ac)) rfl (by exact Hz rfl) (hone _ _) rfl ?_|apply dH;rfl;rfl|refine bB (cs:=qZ n j k0 w0 v.2.2.1 v.2.2.2) rfl rfl (F.un _ rfl) (F.sz _ rfl) rfl (F.ze _ rfl) rfl rfl hone6 rfl rfl ?_
   refine uB (b:=80) (n:=1) (cs:=qZ n j k0 w0 v.2.2.1 v.2.2.2) rfl rfl rfl rfl (F.un _ rfl) (.inl ⟨_,F.un _ rfl⟩) (F.sz _ rfl) rfl (by kernel_rfl) (by kernel_rfl) (SlOf.row (by repeat(exact ac)) rfl) hone6 (by decide) (by decide) ?_
   rintro _ _ _ (⟨h,_⟩|⟨_,rfl,rfl,rfl⟩)
   ·exact absurd h (by decide)
   repeat first|apply aj;rfl|apply aG;rfl;(focus((repeat(first|assumption|refine ab (by omega) ?_));done));rfl
   refine il (by(repeat(refine ab (by omega) ?_));exact kl) (.inl ⟨rfl,⟨ah _ _ _,by(repeat(refine ab (by omega) ?_));exact k2,by(repeat(refine ab (by omega) ?_));exact k3,by dsimp only;omega,by(repeat(refine ab (by omega) ?_));exact k5,by(repeat(refine ab (by omega) ?_));exact k6,by(repeat(refine ab (by omega) ?_));exact k7,by(repeat(refine ab (by omega) ?_));exact k8,⟨_,n6+1+1,by repeat(first|exact ac|refine ab (by omega) ?_),.inr ?_⟩,fun m hm hmc=>by(repeat(refine ab (by omega) ?_));exact k12 m hm hmc⟩,by dsimp only;omega,by(repeat(refine ab (by omega) ?_));exact kf⟩)
   refine⟨qZ n j k0 w0 v.2.2.1 v.2.2.2,[rv],by simp,rfl,by repeat(first|exact ac|refine ab (by omega) ?_),fun m hm=>?_,⟨by omega,by dsimp only;omega,by omega⟩,k0,w0,[],rv,rfl,Jj.2 rfl,gk.frame (by(repeat(refine ab (by omega) ?_));rfl),gw.frame (by(repeat(refine ab (by omega) ?_));rfl),rfl⟩
   obtain rfl:=Jj.1 hm
   exact⟨⟨by omega,by dsimp only;omega,by omega⟩,by omega⟩
  ·repeat first|apply aj;rfl|apply aG;rfl;(focus((repeat(first|assumption|exact ac|refine ab (by omega) ?_));done));rfl|refine dm rfl rfl rfl (F.sz _ rfl) (by repeat(first|assumption|exact ac)) rfl (by exact Hz rfl) (hone _ _) rfl ?_|apply dH;rfl;rfl|refine bB (cs:=qZ n j k0 w0 v.2.2.1 v.2.2.2) rfl rfl (F.un _ rfl) (F.sz _ rfl) rfl (F.ze _ rfl) rfl rfl hone6 rfl rfl ?_
   refine B1 (b:=80) (m:=1) (r:=r') (ws:=ws) (cs:=qZ n j k0 w0 v.2.2.1 v.2.2.2) rfl rfl rfl rfl (F.un _ rfl) (.inl ⟨_,F.un _ rfl⟩) (F.sz _ rfl) rfl (by kernel_rfl) (by kernel_rfl) (by(repeat(refine ab (by omega) ?_));exact h2) h6.len (SlOf.cells (SlOf.row (by repeat(exact ac)) rfl)) hone6 (by decide) (by omega) (by omega) ?_
   repeat first|apply aj;rfl|apply aG;rfl;(focus((repeat(first|assumption|refine ab (by omega) ?_|refine bX (by omega) ?_));done));rfl
   refine il (by(repeat(first|refine ab (by omega) ?_|refine bX (by omega) ?_));exact kl) (.inl ⟨rfl,⟨ah _ _ _,by(repeat(first|refine ab (by omega) ?_|refine bX (by omega) ?_));exact k2,by(repeat(first|refine ab (by omega) ?_|refine bX (by omega) ?_));exact k3,by dsimp only;omega,by(repeat(first|refine ab (by omega) ?_|refine bX (by omega) ?_));exact k5,by(repeat(first|refine ab (by omega) ?_|refine bX (by omega) ?_));exact k6,by(repeat(first|refine ab (by omega) ?_|refine bX (by omega) ?_));exact k7,by(repeat(first|refine ab (by omega) ?_|refine bX (by omega) ?_));exact k8,⟨_,n6+1+1,by repeat(first|exact ac|refine ab (by omega) ?_),.inr ?_⟩,fun m hm hmc=>by(repeat(first|refine ab (by omega) ?_|refine bX (by omega) ?_));exact k12 m hm hmc⟩,by dsimp only;omega,by(repeat(first|refine ab (by omega) ?_|refine bX (by omega) ?_));exact kf⟩)
   have hlen1:(lj ++ [((n,j),v)]).length=lj.length+1:=by simp
   refine⟨ws ++ qZ n j k0 w0 v.2.2.1 v.2.2.2,rv :: L,by omega,by rw [hlen1],by rw [hlen1];(focus((repeat(first|exact ac|refine ab (by omega) ?_));done)),fun m hm=>?_,⟨by omega,by dsimp only;omega,by omega⟩,?_⟩
   ·rcases Js.1 hm with rfl|hm
    ·exact⟨⟨by omega,by dsimp only;omega,by omega⟩,by omega⟩
    ·have:=h3 m hm
     exact⟨⟨by omega,by dsimp only;omega,by omega⟩,by omega⟩
   ·refine RowsC.snoc (y:=((n,j),v)) (s1:=k0) (s2:=w0) (r:=rv) Jl (gk.frame (by(repeat(first|refine ab (by omega) ?_|refine bX (by omega) ?_));rfl)) (gw.frame (by(repeat(first|refine ab (by omega) ?_|refine bX (by omega) ?_));rfl)) (h6.frame fun m hm=>⟨Jm _ hm,?_⟩)
    have:=h3 m hm
    (focus((repeat(first|refine ab (by omega) ?_|refine bX (by omega) ?_));rfl))
 ·refine⟨ah _ _ _,by repeat(first|assumption|refine ab (by omega) ?_),by repeat(first|assumption|refine ab (by omega) ?_),HS _,by repeat(first|assumption|refine ab (by omega) ?_),by repeat(first|assumption|refine ab (by omega) ?_),by repeat(first|assumption|refine ab (by omega) ?_),by repeat(first|exact ac|refine ab (by omega) ?_),⟨s,r0,by(repeat(refine ab (by omega) ?_));exact(mo c lc).trans hc,?_⟩,fun m hm _=>by(repeat(refine ab (by omega) ?_));exact mo m (by omega)⟩
  rw [show dN n p 0= [] from rfl,Jr]
  exact hR.grow fun m hm=>⟨⟨hm.1,by omega,.inl hm.2⟩,by(repeat(refine ab (by omega) ?_));exact mo m hm.2⟩
 ·rintro⟨v,H5,n5⟩ (⟨i1,i2,i3,i4,i5,i6,i7,i8,i9,i12⟩|hf)
  ·dsimp only at i1 i2 i3 i4 i5 i6 i7 i8 i9 i12 ⊢
   refine im i1 (fun h=>by cases h) ?_
   dsimp only [jY]
   repeat first|apply aj;rfl|apply aG;rfl;(focus((repeat(first|assumption|refine ab (by omega) ?_));done));rfl
   refine rh Tryz.func38 (congrArg Array.toList Tryz.results38) (rs:= [q0+1+1]) rfl (fun r hr=>by rw [Jj.1 hr];(focus((repeat(first|assumption|refine ab (by omega) ?_));done))) (by simp) ?_
   intro H7 hH7
   have hno: ∀ m,m≠q0+1+1→m∉ [q0+1+1]:=fun m hm h=>hm (Jj.1 h)
   have k4:H7.at' (nx+1+1)=some (aq 4 [.sc (.bool false)]):=(hH7 _ (hno _ (by omega))).trans (by repeat(first|exact ac|refine ab (by omega) ?_))
   have k5:H7.at' (nx+1+1+1)=some (fp 0):=(hH7 _ (hno _ (by omega))).trans (by repeat(exact ac))
   refine⟨_,(by(repeat(first|exact JI|apply JJ rfl (JM (F.ag _ rfl) (by assumption) (aD rfl))))),?_⟩
   obtain⟨s',r',i9,i10⟩:=i9
   exact⟨rfl,by dsimp only;omega,⟨s',r',(hH7 _ (hno _ (by omega))).trans (by(repeat(refine ab (by omega) ?_));exact i9),i10.grow fun m hm=>⟨⟨hm.1,hm.2.1⟩,(hH7 _ (hno _ (by omega))).trans (by(repeat(refine ab (by omega) ?_));rfl)⟩⟩,fun m hm hmc=>(hH7 _ (hno _ (by omega))).trans (by(repeat(refine ab (by omega) ?_));exact i12 m hm hmc)⟩
  ·exact hf.elim
def jV(pf:Nat→List UInt8):Nat→Nat→Option (List th)
 | 0,_=>some []
 | k+1,n=>if(aX (pf n)).2≠0 then none else(jV pf k (n+1)).map (pj n (aX (pf n)).1 ++ ·)
def pW(pf:Nat→List UInt8):Option (List th):=jV pf 96 32
theorem CE:Fnc Tryz.prog 37 [.ptr a 0,.ptr b 0] H nx (fun q=>q=(.tup [],H,nx)):=by
 refine JH Tryz.func37 rfl rfl ?_
 repeat first|apply aj;rfl|apply jl;rfl;rfl|refine cc (ju rfl Tryz.underlying20) rfl rfl rfl ?_
 (apply B0 Tryz.func37 Tryz.results37;rfl)
 rfl
theorem all_g(hb:H.at' b=some (cX mem left puts))(hm:mem.length=131072):Fnc Tryz.prog 13 [tv b] H nx
 (fun q=>nx≤q.2.2∧(∀ m,m<nx→q.2.1.at' m=H.at' m)∧((pW (az mem)=none∧q.1 = .tup [dy,.sc (.int .i64 13)])∨ ∃ l s r,pW (az mem)=some l∧q.1 = .tup [s,.sc (.int .i64 0)]∧RowsAt q.2.1 (fun m=>nx≤m∧m<q.2.2) r s l)):=by
 refine JH Tryz.func13 rfl rfl ?_
 refine aW fun hund=>?_
 have lb:=hund _ _ hb
 repeat first|apply aj;rfl|apply lg;rfl;rfl;rfl;(focus(kernel_rfl))|refine cc (e8 rfl rfl Tryz.underlying75 rfl) rfl rfl rfl ?_
 refine aL rfl rfl rfl (by kernel_rfl) (JG (Cy (b:=b) (left:=left) (puts:=puts) hm (g:=38) (caps:= [.ptr nx 0]) (by kernel_rfl)
  (fun n H1 n1=>H1.at' b=some (cX mem left puts)∧H1.at' (nx+1)=some (fp 0)∧nx+1+1≤n1∧(32≤n∧n≤128)∧(∀ m,m<nx→H1.at' m=H.at' m)∧ ∃ l s r,H1.at' nx=some (rsO s)∧RowsAt H1 (fun m=>nx+1+1≤m∧m<n1) r s l∧pW (az mem)=(jV (az mem) (128-n) n).map (l ++ ·)∧l.length≤256*(n-32))
  (fun e H1 n1=>e=13∧pW (az mem)=none∧H1.at' (nx+1)=some (fp 0)∧nx+1+1≤n1∧(∀ m,m<nx→H1.at' m=H.at' m)∧ ∃ s,H1.at' nx=some (rsO s))
  (fun n H1 n1 h=>h.1) ?_ ?_ ?_ ?_) ?_)
 ·rintro n H3 n3 H4 n4 ⟨i1,i2,i3,i4,i5,l,s,r,i6,i7,i8,i9⟩ hle hs
  exact⟨(hs _ (by omega)).trans i1,(hs _ (by omega)).trans i2,by omega,i4,fun m hm=>(hs _ (by omega)).trans (i5 m hm),l,s,r,(hs _ (by omega)).trans i6,i7.grow fun m hm=>⟨⟨hm.1,by omega⟩,hs m hm.2⟩,i8,i9⟩
 ·rintro n p H3 n3 h32 h128 ⟨i1,i2,i3,i4,i5,l,s,r,i6,i7,i8,i9⟩ hrd
  obtain⟨hpp,hr,hof⟩:=cN hrd (dx hm h128)
  have hok:=(bw hpp).1 hr
  have hh:=hok.head
  have ht:=hok.top
  refine JG (Hj (B:=nx+1+1) (c:=nx) (n:=n) i6 i7 (by omega) i3 hpp hr hof (by omega)) ?_
  rintro⟨_,H4,n4⟩ ⟨rfl,g2,⟨s',r',g3,g4⟩,g5⟩
  dsimp only at g2 g3 g4 g5 ⊢
  have hgo:jV (az mem) (128-n) n=(jV (az mem) (128-(n+1)) (n+1)).map (pj n p ++ ·):=by
   rw [show 128-n=(128-(n+1))+1 by omega]
   show(if _ then _ else _)=_
   rw [hrd,Jd (fun h=>h rfl)]
  refine .inl ⟨rfl,(g5 _ (by omega) (by omega)).trans i1,(g5 _ (by omega) (by omega)).trans i2,by omega,by omega,fun m hm=>(g5 _ (by omega) (by omega)).trans (i5 m hm),l ++ pj n p,s',r',g3,g4,?_,?_⟩
  ·rw [i8,hgo,Option.map_map]
   congr 1
   funext x
   simp
  ·have:(pj n p).length≤ae p:=ir n p (ae p)
   rw [HW]
   omega
 ·rintro n H3 n3 h32 h128 ⟨i1,i2,i3,i4,i5,l,s,r,i6,i7,i8,i9⟩ hrd
  have hgo:jV (az mem) (128-n) n=none:=by
   rw [show 128-n=(128-(n+1))+1 by omega]
   show(if _ then _ else _)=_
   rw [hrd,Je (by decide)]
  exact⟨rfl,by rw [i8,hgo];rfl,i2,i3,i5,s,i6⟩
 ·refine⟨by(repeat(refine ab (by omega) ?_));exact hb,by repeat(exact ac),HS _,by omega,fun m hm=>by(repeat(refine ab (by omega) ?_));rfl,[],dy,0,by repeat(first|exact ac|refine ab (by omega) ?_),.inl ⟨rfl,rfl⟩,?_,by decide⟩
  show pW (az mem)=(pW (az mem)).map ([] ++ ·)
  cases pW (az mem) <;> rfl
 ·rintro⟨_,H4,n4⟩ (⟨rfl,c1,c2,c3,_,c5,l,s,r,c6,c7,c8,_⟩|⟨e,rfl,rfl,c1,c2,c3,c5,s,c6⟩)
  ·dsimp only at c1 c2 c3 c5 c6 c7 c8 ⊢
   have hone:=c7.len
   have c8:pW (az mem)=some l:=by rw [c8];show(some []).map _=_;simp
   repeat first|apply aj;rfl|apply aG;rfl;(focus((repeat(first|assumption|exact ac|refine ab (by omega) ?_));done));rfl|refine dg rfl rfl rfl (F.sz _ rfl) (by repeat(first|assumption|refine ab (by omega) ?_)) hone rfl ?_|apply dH;rfl;rfl
   refine eg Tryz.func13 (congrArg Array.toList Tryz.results13) (by kernel_rfl) (JG CE ?_)
   rintro _ rfl
   refine⟨_,(by(repeat(first|exact JI|apply JJ rfl (JM (F.ag _ rfl) (by repeat(first|exact ac|refine ab (by omega) ?_)) (aD rfl))))),?_⟩
   dsimp only
   exact⟨by omega,fun m hm=>by(repeat(refine ab (by omega) ?_));exact c5 m hm,.inr ⟨l,s,r,c8,rfl,c7.grow fun m hm=>⟨⟨by omega,hm.2⟩,by(repeat(refine ab (by omega) ?_));rfl⟩⟩⟩
  ·dsimp only at c1 c2 c3 c5 c6 ⊢
   repeat first|apply aj;rfl|apply aG;rfl;(focus((repeat(first|assumption|exact ac));done));rfl|apply ii;rfl;decide
   refine cL (R:=fun H8 n8=>H8.at' nx=some (rsO s)∧H8.at' (nx+1)=some (fp 13)∧nx≤n8∧ ∀ m,m<nx→H8.at' m=H.at' m) ⟨by repeat(first|assumption|refine ab (by omega) ?_),by repeat(exact ac),by omega,fun m hm=>by(repeat(refine ab (by omega) ?_));exact c5 m hm⟩ ?_
   rintro H8 n8 ⟨e1,e2,e3,e4⟩
   (apply bg;(focus(kernel_rfl));(focus(kernel_rfl)))
   repeat first|apply dA;rfl;assumption;rfl|refine dQ rfl rfl rfl (F.sz _ rfl) (by repeat(first|assumption|refine ab (by omega) ?_)) (by rfl) (by rfl) ?_
   refine aA ⟨by kernel_rfl,?_,?_⟩;(focus(repeat(first|exact JR|apply kp;rfl|refine fT 0 rfl (by kernel_rfl) (by(repeat(refine⟨(by(exact an (F.ag _ rfl) rfl (by repeat(first|assumption|exact ac|refine ab (by omega) ?_)) (aD rfl))),?_⟩));exact JR) ?_)))
   refine eg Tryz.func13 (congrArg Array.toList Tryz.results13) (by kernel_rfl) (JG CE ?_)
   rintro _ rfl
   refine⟨_,(by(repeat(first|exact JI|apply JJ rfl (JM (F.ag _ rfl) (by repeat(first|exact ac|refine ab (by omega) ?_)) (aD rfl))))),?_⟩
   dsimp only
   exact⟨by omega,fun m hm=>by(repeat(refine ab (by omega) ?_));exact e4 m hm,.inl ⟨c1,rfl⟩⟩
theorem zd(hv:VerIs H s v):Fnc Tryz.prog 18 [s] H nx (fun q=>q=(.sc (.bool (iS v)),H,nx)):=by
 refine Fnc.bu (Free.sc _) ?_
 obtain⟨k,w,rfl,hk,hw⟩:=hv
 refine JH Tryz.func18 rfl rfl ?_
 refine aW fun hund=>?_
 have hf: ∀ {vo:VO} (b:Nat) (vo':VO),H.at' b=some vo'→(H.set nx vo).at' b=some vo':=fun b vo' hb=>(aa _ _ (by have:=hund b vo' hb;omega)).trans hb
 have hk2: ∀ {vo:VO},BsIs (H.set nx vo) k (byV v.1):=fun {vo}=>hk.frame hf
 have hw2: ∀ {vo:VO},BsIs (H.set nx vo) w (byV v.2.1):=fun {vo}=>hw.frame hf
 have hm:iS v=decide ((1≤v.1.length∧v.1.length≤32)∧v.2.1.length≤128∧(1≤v.2.2.1∧v.2.2.1≤4000)∧v.2.2.2≤4000):=rfl
 have hl1:=bN v.1
 have hl2:=bN v.2.1
 (repeat' (first|apply aj;rfl|apply aG;rfl;(focus((repeat(exact ac));done));rfl|refine dl rfl rfl (F.un _ rfl) rfl hk2 ?_;rw [bN]|refine dl rfl rfl (F.un _ rfl) rfl hw2 ?_;rw [bN]|(refine ej rfl rfl rfl rfl ?_ ?_ <;> intro hq)|(refine px rfl rfl rfl rfl ?_ ?_ <;> intro hq2)))
 all_goals(apply bP Tryz.func18 Tryz.results18;rfl)
 all_goals(refine⟨?_,Jb _,fun m hm=>aa _ _ (by omega)⟩)
 all_goals(rw [hm];first|(rw [Jw (by omega)];rfl)|(rw [Jx (by omega)];rfl))
theorem zS(l:List UInt8):l.flatMap (fun c=> [Value.int .u8 (c.toNat:Int)])=byV l:=by
 induction l with
 | nil=>rfl
 | cons c l ih=>rw [List.flatMap_cons,ih];rfl
theorem recB:RecOf (fun c:UInt8=> [Value.int .u8 (c.toNat:Int)]) 1:=yp (fun _=>rfl)
theorem GM{size:Nat}(h1:1≤size)(h2:size≤8)(hn:n≤18446744073709551615):Fnc Tryz.prog 91 [.sc (.int .u64 (n:Int)),.sc (.int .i64 (size:Int))] H nx
 (fun q=> ∃ r',q.1 = .slu r' 0 size∧q.2.1.at' r'=some (dat false size 1 5 (byV (beB n size)))∧nx≤r'∧r'<q.2.2∧nx≤q.2.2∧ ∀ m,m<nx→q.2.1.at' m=H.at' m):=by
 refine JH Tryz.func91 rfl rfl ?_
 repeat first|apply aj;rfl|apply aK;rfl;omega;omega
 refine jX (d:=5) 1 5 rfl rfl ?_
 refine bv (α:=Nat×Nat) (fun x=> [(0,.sc (.int .u64 (n:Int))),(5,.slu x.2 0 ((beB n size).take x.1).length),(6,.sc (.int .i64 ((size:Int)-1-(x.1:Int))))]) (fun x H1 n1=>x.1≤size∧nx≤x.2∧x.2<n1∧H1.at' x.2=some (dat false ((beB n size).take x.1).length 1 5 (((beB n size).take x.1).flatMap fun c=> [Value.int .u8 (c.toNat:Int)]))∧ ∀ m,m<nx→H1.at' m=H.at' m) (fun x=>size-x.1) (0,nx)
  ⟨HT _,HS _,Nat.lt_succ_self _,ah _ _ _,fun m hm=>aa _ _ (by omega)⟩ (JN (by repeat(first|exact JR|refine⟨rfl,?_⟩|refine⟨fH (by(omega)),?_⟩))) ?_
 rintro⟨j,r⟩ H1 n1 ⟨a1,a2,a3,a4,a5⟩ ih
 dsimp only at a1 a2 a3 a4 a5 ih ⊢
 repeat apply aj;rfl
 refine er rfl rfl rfl rfl (fun h=>?_) (fun h=>?_)
 ·have hj:j<size:=by omega
  have hl:((beB n size).take j).length=j:=by rw [Jh,bp];omega
  have htk:=ql (n:=n) hj
  have hmul:IntKind.u64.wrap (8*((size-1-j:Nat):Int))=((8*(size-1-j):Nat):Int):=(JC _ ⟨by omega,by omega⟩).trans (by omega)
  repeat first|apply aj;rfl|refine cc (bR (F.un _ rfl) (F.un _ rfl) rfl (show _=((size-1-j:Nat):Int)from(JC _ ⟨by omega,by omega⟩).trans (by omega))) rfl rfl rfl ?_
  (refine cc (aw rfl rfl (.inr (.inr ⟨rfl,rfl⟩))) rfl rfl rfl ?_)
  rw [hmul]
  repeat first|apply aj;rfl|apply aK;rfl;omega;omega|refine cc (oe rfl rfl (by focus(omega)) (shrB (k:=size-1-j) (by omega) (by omega))) rfl rfl rfl ?_|refine cc (bR (F.un _ rfl) (F.un _ rfl) rfl (wy _)) rfl rfl rfl ?_|apply bB;rfl;rfl;exact(F.un _ rfl);exact(F.sz _ rfl);rfl;exact(F.ze _ rfl);rfl;rfl;rfl;rfl;rfl|refine lC (b:=1) (xs:=(beB n size).take j) (a:=UInt8.ofNat (n / 256 ^ (size-1-j))) rfl rfl rfl rfl (F.un _ rfl) (.inl ⟨_,F.un _ rfl⟩) (F.sz _ rfl) rfl (by kernel_rfl) (by kernel_rfl) (by repeat(first|assumption|refine ab (by omega) ?_)) (by repeat(exact ac)) (by rfl) (recB) (by omega) (by omega) ?_
  refine ih _ _ _ (j+1,n1+1) ⟨hj,by dsimp only;omega,by dsimp only;omega,?_,fun m hm=>?_⟩ (by dsimp only;omega) ?_
  ·dsimp only
   rw [htk]
   exact ah _ _ _
  ·refine(aa _ _ (by omega)).trans ((mm _ (by omega)).trans ((aa _ _ (by omega)).trans (a5 m hm)))
  ·dsimp only
   rw [htk,show(size:Int)-1-((j+1:Nat):Int)=(size:Int)-1-(j:Int)-1 by omega]
   exact JN (by repeat(first|exact JR|refine⟨rfl,?_⟩))
 ·obtain rfl:j=size:=by omega
  rw [HK (by rw [bp];exact HS _)] at a4 ⊢
  repeat apply aj;rfl
  (apply bP Tryz.func91 Tryz.results91;rfl)
  rw [zS] at a4
  rw [bp] at a4 ⊢
  exact⟨r,rfl,a4,a2,a3,by dsimp only;omega,a5⟩
theorem ng{bs:List UInt8}(hb:BsIs H s (byV bs))(h2:bs.length≤8):Fnc Tryz.prog 78 [s] H nx (fun q=>q=(.sc (.int .u64 (beN bs:Int)),H,nx)):=by
 have hlen:(byV bs).length=bs.length:=by simp
 refine JH Tryz.func78 rfl rfl ?_
 repeat apply aj;rfl
 refine bv (α:=Nat) (fun j=> [(0,s),(3,.sc (.int .u64 (beN (bs.take j):Int))),(4,.sc (.int .i64 (j:Int)))]) (fun j H1 n1=>H1=H∧n1=nx∧j≤bs.length) (fun j=>bs.length-j) 0
  ⟨rfl,rfl,HT _⟩ (JN (JQ rfl)) ?_
 rintro j H1 n1 ⟨rfl,rfl,h3⟩ ih
 repeat first|apply cw;rfl|refine dl rfl rfl (F.un _ rfl) rfl hb ?_;rw [hlen]
 refine bi rfl rfl rfl rfl (fun h4=>?_) (fun h4=>?_)
 ·have hj:j<bs.length:=by omega
  have hlt:=ml (bs.take j)
  rw [Jh,Nat.min_eq_left (by omega)] at hlt
  have hp:256 ^ j≤256 ^ 7:=Nat.pow_le_pow_right (by decide) (by omega)
  have hn:beN (bs.take j)<72057594037927936:=Nat.lt_of_lt_of_le hlt hp
  repeat first|apply aj;rfl|refine cc (rQ rfl rfl (by focus(decide)) (shl8 hn)) rfl rfl rfl ?_
  refine xK (j:=j) rfl rfl rfl rfl (F.un _ rfl) (F.sz _ rfl) hb (by omega) ?_
  intro b o vo hvo hcell
  rw [qW] at hcell
  have hc:=(bs[j]).toNat_lt
  repeat first|apply aj;rfl|apply aK;rfl;omega;omega|refine cc (an (F.ag _ rfl) rfl hvo hcell) rfl rfl rfl ?_|refine cc (bR (F.un _ rfl) (F.un _ rfl) rfl (show _=((bs[j].toNat:Nat):Int)from JC _ ⟨by omega,by omega⟩)) rfl rfl rfl ?_|refine cc (mB rfl rfl (.inr (.inl rfl)) (or8 hn hc)) rfl rfl rfl ?_
  refine ih _ _ _ (j+1) ⟨rfl,rfl,by omega⟩ (by omega) ?_
  rw [wi hj]
  exact JN (by repeat(first|exact JR|refine⟨rfl,?_⟩))
 ·obtain rfl:j=bs.length:=by omega
  rw [List.take_length]
  repeat apply aj;rfl
  (apply bP Tryz.func78 Tryz.results78;rfl)
  rfl
theorem BB(h:BsIs H s (byV l)):BsIs H s (u8L ⟨l.toArray⟩):=h
theorem wh(b:ByteArray):(b == b)=true:=(MapKept.bytes_beq b b).2 rfl
theorem B5{a b:SV}(ha:VerIs H a v)(hb:VerIs H b v):Fnc Tryz.prog 17 [a,b] H nx (fun q=>q=(.sc (.bool true),H,nx)):=by
 refine Fnc.bu (Free.sc _) ?_
 obtain⟨k,w,rfl,hk,hw⟩:=ha
 obtain⟨k',w',rfl,hk',hw'⟩:=hb
 refine JH Tryz.func17 rfl rfl ?_
 refine aW fun hund=>?_
 have hf: ∀ {vo vo':VO} (b:Nat) (w:VO),H.at' b=some w→((H.set nx vo).set (nx+1) vo').at' b=some w:=fun b w hb=>by
  have:=hund b w hb
  exact(aa _ _ (by omega)).trans ((aa _ _ (by omega)).trans hb)
 have k1: ∀ {vo vo':VO},BsIs ((H.set nx vo).set (nx+1) vo') k (u8L ⟨v.1.toArray⟩):=BB (hk.frame hf)
 have k2: ∀ {vo vo':VO},BsIs ((H.set nx vo).set (nx+1) vo') k' (u8L ⟨v.1.toArray⟩):=BB (hk'.frame hf)
 have w1: ∀ {vo vo':VO},BsIs ((H.set nx vo).set (nx+1) vo') w (u8L ⟨v.2.1.toArray⟩):=BB (hw.frame hf)
 have w2: ∀ {vo vo':VO},BsIs ((H.set nx vo).set (nx+1) vo') w' (u8L ⟨v.2.1.toArray⟩):=BB (hw'.frame hf)
 repeat first|apply aj;rfl|apply aG;rfl;(focus((repeat(first|exact ac|refine ab (by omega) ?_));done));rfl|apply dH;rfl;rfl|refine cc (lO (F.un _ rfl) (F.un _ rfl) (F.un _ rfl) rfl k1) rfl rfl rfl ?_|refine cc (lO (F.un _ rfl) (F.un _ rfl) (F.un _ rfl) rfl k2) rfl rfl rfl ?_|refine cc (lO (F.un _ rfl) (F.un _ rfl) (F.un _ rfl) rfl w1) rfl rfl rfl ?_|refine cc (lO (F.un _ rfl) (F.un _ rfl) (F.un _ rfl) rfl w2) rfl rfl rfl ?_|apply uA (r:=true);rfl;rfl;rfl;rfl;exact(wh _)
 (apply bP Tryz.func17 Tryz.results17;rfl)
 exact⟨rfl,by dsimp only;omega,fun m hm=>(aa _ _ (by omega)).trans (aa _ _ (by omega))⟩
theorem xD{P:Program}{ro:Option Nat}{fn nt:Nat}{T:Tr SV}{k:List AIt}{dfs:List ADf}{Q:Pst}{ne sz:Nat}{rr:Bool}{rt:TypeId}{c:Tr SV}(hT:T.at' t=some (.slu r 0 n))(hb:H.at' r=some (.row rr ne sz rt c))(h0:0<ne)
 (h: ∀ C,ne≤C→Wp P ro ⟨fn,nt,T.set t (.sl r 0 n C),k,dfs,H,nx⟩ Q):Wp P ro ⟨fn,nt,T,k,dfs,H,nx⟩ Q:=by
 refine⟨fun K w0 e w tmps todo ds kd rof cs hS hTr htd hds hc2=>?_⟩
 obtain⟨z,hz,hlz⟩:=hS.rel _ _ hb
 obtain⟨g1,g2,g3,g4⟩:=Lies.row hlz
 have hnil:=g3 h0
 have hT2:TRel e nt (T.set t (.sl r 0 n z.cap)) tmps:=by
  refine⟨hTr.1,fun t' u hs=>?_⟩
  rcases bL hs with ⟨rfl,rfl⟩|⟨_,hs⟩
  ·obtain⟨v,f1,f2⟩:=hTr.2 _ _ hT
   refine⟨v,?_,f2⟩
   rw [← f1]
   simp [SV.conc,hz,Ent.eQ hnil]
  ·exact hTr.2 _ _ hs
 exact(h z.cap g4).run K w0 e w tmps todo ds kd rof cs hS hT2 htd hds hc2
def Hq(s:SV):Prop:= ∃ k w x y,s=nV k w x y∧k.one=true∧w.one=true
theorem GT(h:BlkAt H r 0 l){o:Nat}(ho:o+n≤l.length):BlkAt H r o ((l.drop o).take n):=by
 have:=((h.part (n:=o) (by omega)).2.part (n:=n) (by rw [Jk];omega)).1
 rwa [Jf] at this
theorem ofr_s{ro:Bool}(hr:H.at' r=some (dat ro l.length 1 5 (byV l)))(hl:l.length≤100000):Fnc Tryz.prog 36 [.slu r 0 l.length] H nx (fun q=> ∃ s',q.1 = .tup [s',.sc (.bool (ofR l).isSome)]∧Hq s'∧(∀ v,ofR l=some v→VerAt q.2.1 s' r v)∧nx≤q.2.2∧ ∀ m,m<nx→q.2.1.at' m=H.at' m):=by
 refine JH Tryz.func36 rfl rfl ?_
 refine aW fun hund=>?_
 have lr:=hund _ _ hr
 repeat apply aj;rfl
 refine bi rfl rfl rfl rfl (fun h1=>?_) (fun h1=>?_)
 ·have hv:ofR l=none:=by unfold ofR;rw [Je (by omega)]
  repeat first|apply aj;rfl|apply aG;rfl;(focus((repeat(exact ac));done));rfl
  ((apply bn Tryz.func36 (congrArg Array.toList Tryz.results36));(focus(repeat(first|exact JI|apply JK rfl|apply JJ rfl (JL (F.ag _ rfl) (by repeat(exact ac)) (am _ 0 rfl rfl))))))
  rw [hv]
  exact⟨_,rfl,⟨_,_,_,_,rfl,rfl,rfl⟩,fun v h=>(by cases h),by dsimp only;omega,fun m hm=>(aa _ _ (by omega)).trans (aa _ _ (by omega))⟩
 ·have h20:20≤l.length:=by omega
  have hr1:(H.set nx (fm (ew dy dy 0 0))).at' r=some (dat ro l.length 1 5 (byV l)):=(aa _ _ (by omega)).trans hr
  have hB1: ∀ H':au,H'.at' r=H.at' r→BlkAt H' r 0 l:=fun H' h=>s4 (h.trans hr)
  refine xD (t:=0) rfl hr1 (by omega) ?_
  intro C hC
  have hk16:((l.drop 16).take 2).length=2:=by rw [Jh,Jk];omega
  have hklt:=ml ((l.drop 16).take 2)
  rw [hk16] at hklt
  repeat apply aj;rfl
  (apply xL (lw:=16) (hg:=18);rfl;rfl;rfl;exact(F.un _ rfl);exact(F.sz _ rfl);exact(ic rfl rfl);exact(ic rfl rfl);(focus(omega));(focus(omega));exact(Jd (by omega)))
  refine aL rfl rfl rfl (by kernel_rfl) (JG (ng (s:= .sl r 16 (18-16) (C-16)) (bs:=(l.drop 16).take 2) (by have:=(GT (hB1 _ (aa _ _ (by omega):(H.set nx (fm (ew dy dy 0 0))).at' r=H.at' r)) (o:=16) (n:=2) (by omega)).bs (C:=C-16);rwa [hk16] at this) (by omega)) ?_)
  rintro _ rfl
  dsimp only
  have hof:ofR l=(if l.length<20+beN ((l.drop 16).take 2) then none else if iS (nl l)=true∧beN ((l.drop (18+beN ((l.drop 16).take 2))).take 2)=(l.drop (20+beN ((l.drop 16).take 2))).length then some (nl l) else none):=by unfold ofR;rw [Jd (by omega)]
  have hver:nl l=((l.drop 18).take (beN ((l.drop 16).take 2)),l.drop (20+beN ((l.drop 16).take 2)),beN (l.take 8),beN ((l.drop 8).take 8)):=rfl
  generalize beN ((l.drop 16).take 2)=kk at hklt hof hver ⊢
  repeat first|apply aj;rfl|apply aK;rfl;omega;omega|refine cc (bR (F.un _ rfl) (F.un _ rfl) rfl (show _=((kk:Nat):Int)from Hu _ ⟨by omega,by omega⟩)) rfl rfl rfl ?_|refine cc (gj (F.un _ rfl) rfl) rfl rfl rfl ?_
  refine bi rfl rfl rfl rfl (fun h2=>?_) (fun h2=>?_)
  ·have hv:ofR l=none:=by rw [hof,Je (by omega)]
   repeat first|apply aj;rfl|apply aG;rfl;(focus((repeat(exact ac));done));rfl
   ((apply bn Tryz.func36 (congrArg Array.toList Tryz.results36));(focus(repeat(first|exact JI|apply JK rfl|apply JJ rfl (JL (F.ag _ rfl) (by repeat(exact ac)) (am _ 0 rfl rfl))))))
   rw [hv]
   exact⟨_,rfl,⟨_,_,_,_,rfl,rfl,rfl⟩,fun v h=>(by cases h),by dsimp only;omega,fun m hm=>(aa _ _ (by omega)).trans (aa _ _ (by omega))⟩
  ·have hv:=hof
   rw [Jd (by omega)] at hv
   clear hof
   have l8:(l.take 8).length=8:=by rw [Jh];omega
   have l16:((l.drop 8).take 8).length=8:=by rw [Jh,Jk];omega
   have g8: ∀ (H':au) (nx':Nat),H'.at' r=H.at' r→Fnc Tryz.prog 78 [.sl r (0+0) (8-0) (C-0)] H' nx' (fun q=>q=(.sc (.int .u64 (beN (l.take 8):Int)),H',nx')):=fun H' nx' h=>ng (by
    have:=(GT (hB1 H' h) (o:=0) (n:=8) (by omega)).bs (C:=C-0)
    rwa [List.drop_zero,l8] at this) (by omega)
   have g16: ∀ (H':au) (nx':Nat),H'.at' r=H.at' r→Fnc Tryz.prog 78 [.sl r (0+8) (16-8) (C-8)] H' nx' (fun q=>q=(.sc (.int .u64 (beN ((l.drop 8).take 8):Int)),H',nx')):=fun H' nx' h=>ng (by
    have:=(GT (hB1 H' h) (o:=8) (n:=8) (by omega)).bs (C:=C-8)
    rwa [l16] at this) (by omega)
   have lk:((l.drop 18).take kk).length=kk:=by rw [Jh,Jk];omega
   have lv:(l.drop (20+kk)).length=l.length-(20+kk):=Jk
   have hK: ∀ H':au,H'.at' r=H.at' r→BlkS H' (.sl r (0+18) (18+kk-18) (C-18)) r (nl l).1:=fun H' h=>by
    rw [hver]
    refine .inr ⟨18,C-18,?_,GT (hB1 H' h) (by omega)⟩
    rw [lk,Jf,Nat.add_sub_cancel_left]
   have hV: ∀ H':au,H'.at' r=H.at' r→BlkS H' (.sl r (if C=20+kk then 0 else 0+(20+kk)) (l.length-(20+kk)) (C-(20+kk))) r (nl l).2.1:=fun H' h=>by
    rw [hver]
    refine .inr ⟨if C=20+kk then 0 else 0+(20+kk),C-(20+kk),by rw [lv],?_⟩
    by_cases hc:C=20+kk
    ·have:l.drop (20+kk)= []:=List.drop_of_length_le (by omega)
     rw [this]
     exact BlkAt.none _ (h.trans hr) _
    ·rw [Jd hc,Jf]
     have:=((hB1 H' h).part (n:=20+kk) (by omega)).2
     rwa [Jf] at this
   repeat apply aj;rfl
   (apply ge;(focus(kernel_rfl));(focus(kernel_rfl)))
   refine dR 2 (Hz rfl) ?_
   repeat first|apply aU;rfl|apply bI;rfl;rfl;exact(fun _ h=>by cases h);exact(cR (l:=0) (h:=8) (F.un _ rfl) (F.sz _ rfl) rfl jU (ic rfl rfl) (by omega) (by omega) (Jd (by omega)))
   refine aA ?_;refine dS rfl rfl rfl (by kernel_rfl) (g8 _ _ (by(repeat(refine ab (by omega) ?_));rfl)) ?_
   refine dR 2 (Hz rfl) ?_
   repeat first|apply aU;rfl|apply bI;rfl;rfl;exact(fun _ h=>by cases h);exact(cR (l:=8) (h:=16) (F.un _ rfl) (F.sz _ rfl) rfl (ic rfl rfl) (ic rfl rfl) (by omega) (by omega) (Jd (by omega)))
   refine aA ?_;refine dS rfl rfl rfl (by kernel_rfl) (g16 _ _ (by(repeat(refine ab (by omega) ?_));rfl)) ?_
   refine jf ?_
   repeat first|apply aU;rfl|refine pt (e9 (F.zl _ rfl)) rfl rfl rfl ?_|refine bk (aw rfl rfl (.inl ⟨rfl,(Hu _ ⟨(by focus(omega)),(by focus(omega))⟩).symm⟩)) rfl rfl rfl ?_|refine qO (cW (F.sz _ rfl) rfl rfl rfl (by repeat(exact ac)) (by rfl) (by exact Hz rfl) (by rfl)) rfl rfl ?_|apply bI;rfl;rfl;exact(fun _ h=>by cases h);exact(cR (l:=18) (h:=18+kk) (F.un _ rfl) (F.sz _ rfl) rfl (ic rfl rfl) (ic rfl (by omega)) (by omega) (by omega) (Jd (by omega)))|apply bI;rfl;rfl;exact(fun _ h=>by cases h);exact(cR (l:=20+kk) (h:=l.length) (F.un _ rfl) (F.sz _ rfl) rfl (ic rfl (by omega)) jU (by omega) (by omega) rfl)
   refine aA ⟨by kernel_rfl,?_,?_⟩;(focus(repeat(first|exact JR|refine⟨.inl rfl,?_⟩|refine⟨.inr (.inl (by(repeat(refine⟨(by first|exact mA rfl|exact aw rfl rfl (.inl ⟨rfl,(Hu _ ⟨by omega,by omega⟩).symm⟩)|exact cR (l:=0) (h:=8) (F.un _ rfl) (F.sz _ rfl) rfl jU (ic rfl rfl) (by omega) (by omega) (Jd (by omega))|exact cR (l:=8) (h:=16) (F.un _ rfl) (F.sz _ rfl) rfl (ic rfl rfl) (ic rfl rfl) (by omega) (by omega) (Jd (by omega))|exact cR (l:=18) (h:=18+kk) (F.un _ rfl) (F.sz _ rfl) rfl (ic rfl rfl) (ic rfl (by omega)) (by omega) (by omega) (Jd (by omega))|exact cR (l:=20+kk) (h:=l.length) (F.un _ rfl) (F.sz _ rfl) rfl (ic rfl (by omega)) jU (by omega) (by omega) rfl),?_⟩));exact JR)),?_⟩|refine⟨.inr (.inr (by(repeat(refine⟨(by exact dZ rfl (by kernel_rfl) (by first|exact g8 _ _ (by(repeat(refine ab (by omega) ?_));rfl)|exact g16 _ _ (by(repeat(refine ab (by omega) ?_));rfl))),?_⟩));exact JR)),?_⟩)))
   obtain⟨kS,hkS⟩: ∃ kS,kS=SV.sl r (0+18) (18+kk-18) (C-18):=⟨_,rfl⟩
   refine cL (R:=fun H7 n7=>n7=nx+1+1∧H7.at' (nx+1)=some (fm (ew (.sl r (0+18) (18+kk-18) (C-18)) (.sl r (if C=20+kk then 0 else 0+(20+kk)) (l.length-(20+kk)) (C-(20+kk))) (beN (l.take 8)) (beN ((l.drop 8).take 8))))∧H7.at' nx=some (fm (ew dy dy 0 0))∧ ∀ m,m<nx→H7.at' m=H.at' m) ⟨rfl,by repeat(exact ac),by repeat(first|exact ac|refine ab (by omega) ?_),fun m hm=>by(repeat(refine ab (by omega) ?_));rfl⟩ ?_
   rintro H7 n7 ⟨rfl,b5,b2,bo⟩
   clear kS hkS g8 g16 l8 l16 hr1 hk16
   have br:H7.at' r=H.at' r:=bo r lr
   have hat: ∀ H':au,H'.at' r=H7.at' r→VerAt H' (nV (.sl r (0+18) (18+kk-18) (C-18)) (.sl r (if C=20+kk then 0 else 0+(20+kk)) (l.length-(20+kk)) (C-(20+kk))) (beN (l.take 8)) (beN ((l.drop 8).take 8))) r (nl l):=fun H' h=>⟨_,_,by rw [hver],hK H' (h.trans br),hV H' (h.trans br)⟩
   have cM: ∀ (H':au) (nx':Nat),H'.at' r=H7.at' r→Fnc Tryz.prog 18 [nV (.sl r (0+18) (18+kk-18) (C-18)) (.sl r (if C=20+kk then 0 else 0+(20+kk)) (l.length-(20+kk)) (C-(20+kk))) (beN (l.take 8)) (beN ((l.drop 8).take 8))] H' nx' (fun q=>q=(.sc (.bool (iS (nl l))),H',nx')):=fun H' nx' h=>zd (hat H' h).is
   have l2:((l.drop (18+kk)).take 2).length=2:=by rw [Jh,Jk];omega
   have g2: ∀ (H':au) (nx':Nat),H'.at' r=H7.at' r→Fnc Tryz.prog 78 [.sl r (0+(18+kk)) (20+kk-(18+kk)) (C-(18+kk))] H' nx' (fun q=>q=(.sc (.int .u64 (beN ((l.drop (18+kk)).take 2):Int)),H',nx')):=fun H' nx' h=>ng (by
    have:=(GT (hB1 H' (h.trans br)) (o:=18+kk) (n:=2) (by omega)).bs (C:=C-(18+kk))
    rw [Jf,show 20+kk-(18+kk)=2 by omega]
    rwa [l2] at this) (by omega)
   have hn2:=ml ((l.drop (18+kk)).take 2)
   rw [l2] at hn2
   generalize beN ((l.drop (18+kk)).take 2)=n2 at hn2 hv g2
   repeat apply aj;rfl
   cases hm:iS (nl l)with
   | false=>
     rw [hm] at cM
     have hno:ofR l=none:=by rw [hv,Jd (fun h=>by rw [hm] at h;cases h.1)]
     (apply ge;(focus(kernel_rfl));(focus(kernel_rfl)))
     refine dR 2 (Hz rfl) ?_
     repeat apply dA;rfl;assumption;rfl
     refine aA ?_;(apply dS;rfl;rfl;rfl;(focus(kernel_rfl));exact(cM _ _ rfl))
     refine jf ?_
     repeat first|apply aU;rfl|apply cp;rfl;rfl|refine qO (cW (F.sz _ rfl) rfl rfl rfl (by assumption) (by rfl) (by exact Hz rfl) (by rfl)) rfl rfl ?_
     refine aA ⟨by kernel_rfl,?_,?_⟩;(focus(repeat(first|exact JR|refine⟨.inl rfl,?_⟩|refine⟨.inr (.inl (by(repeat(refine⟨(by first|exact mA rfl|exact aV (F.ag _ rfl) rfl (by repeat(first|assumption|refine ab (by omega) ?_)) (am _ 0 rfl rfl)),?_⟩));exact JR)),?_⟩|refine⟨.inr (.inr (by(repeat(refine⟨(by exact dZ rfl (by kernel_rfl) (by(exact cM _ _ (by(repeat(refine ab (by omega) ?_));rfl)))),?_⟩));exact JR)),?_⟩)))
     ((apply bn Tryz.func36 (congrArg Array.toList Tryz.results36));(focus(repeat(first|exact JI|apply JK rfl|apply JJ rfl (JL (F.ag _ rfl) (by repeat(exact ac)) (am _ 0 rfl rfl))))))
     rw [hno]
     exact⟨_,rfl,⟨_,_,_,_,rfl,rfl,rfl⟩,fun v h=>(by cases h),by dsimp only;omega,fun m hm=>by(repeat(refine ab (by omega) ?_));exact bo m hm⟩
   | true=>
     rw [hm] at cM
     (apply ge;(focus(kernel_rfl));(focus(kernel_rfl)))
     refine dR 2 (Hz rfl) ?_
     repeat apply dA;rfl;assumption;rfl
     refine aA ?_;(apply dS;rfl;rfl;rfl;(focus(kernel_rfl));exact(cM _ _ rfl))
     refine dR 7 (Hz rfl) ?_
     repeat first|apply aU;rfl|refine bk (aw rfl rfl (.inl ⟨rfl,(Hu _ ⟨(by focus(omega)),(by focus(omega))⟩).symm⟩)) rfl rfl rfl ?_|apply bI;rfl;rfl;exact(fun _ h=>by cases h);exact(cR (l:=18+kk) (h:=20+kk) (F.un _ rfl) (F.sz _ rfl) rfl (ic rfl (by omega)) (ic rfl (by omega)) (by omega) (by omega) (Jd (by omega)))
     refine aA ?_;(apply dS;rfl;rfl;rfl;(focus(kernel_rfl));exact(g2 _ _ rfl))
     refine jf ?_
     repeat first|apply aU;rfl|apply dA;rfl;assumption;rfl|refine bk (bR (F.un _ rfl) (F.un _ rfl) rfl (show _=((n2:Nat):Int)from Hu _ ⟨by omega,by omega⟩)) rfl rfl rfl ?_|apply bI;rfl;rfl;exact(fun _ h=>by cases h);exact(gj (F.un _ rfl) rfl)
     refine ly rfl rfl rfl rfl (fun e=>?_) (fun e=>?_)
     ·have hyes:ofR l=some (nl l):=by rw [hv,Je ⟨hm,by omega⟩]
      repeat first|apply aU;rfl|refine qO (cW (F.sz _ rfl) rfl rfl rfl (by assumption) (by rfl) (by exact Hz rfl) (by rfl)) rfl rfl ?_
      refine aA ⟨by kernel_rfl,?_,?_⟩;(focus(repeat(first|exact JR|refine⟨.inl rfl,?_⟩|refine⟨.inr (.inl (by(repeat(refine⟨(by first|exact mA rfl|exact aw rfl rfl (.inl ⟨rfl,(Hu _ ⟨by omega,by omega⟩).symm⟩)|exact an (F.ag _ rfl) rfl (by repeat(first|assumption|refine ab (by omega) ?_)) (aD rfl)|exact aV (F.ag _ rfl) rfl (by repeat(first|assumption|refine ab (by omega) ?_)) (am _ 0 rfl rfl)|exact cR (l:=18+kk) (h:=20+kk) (F.un _ rfl) (F.sz _ rfl) rfl (ic rfl (by omega)) (ic rfl (by omega)) (by omega) (by omega) (Jd (by omega))|exact gj (F.un _ rfl) rfl|exact bR (F.un _ rfl) (F.un _ rfl) rfl (show _=((n2:Nat):Int)from Hu _ ⟨by omega,by omega⟩)|exact di rfl rfl (.inl ⟨rfl,(Jw (by omega)).symm⟩)),?_⟩));exact JR)),?_⟩|refine⟨.inr (.inr (by(repeat(refine⟨(by exact dZ rfl (by kernel_rfl) (by first|exact cM _ _ (by(repeat(refine ab (by omega) ?_));rfl)|exact g2 _ _ (by(repeat(refine ab (by omega) ?_));rfl))),?_⟩));exact JR)),?_⟩)))
      ((apply bn Tryz.func36 (congrArg Array.toList Tryz.results36));(focus(repeat(first|exact JI|apply JK rfl|apply JJ rfl (JL (F.ag _ rfl) (by repeat(exact ac)) (am _ 0 rfl rfl))))))
      rw [hyes]
      exact⟨_,rfl,⟨_,_,_,_,rfl,rfl,rfl⟩,fun v h=>(by cases h;exact hat _ (by(repeat(refine ab (by omega) ?_));rfl)),by dsimp only;omega,fun m hm=>by(repeat(refine ab (by omega) ?_));exact bo m hm⟩
     ·have hno:ofR l=none:=by rw [hv,Jd (fun h=>by have:=h.2;omega)]
      repeat first|apply aU;rfl|refine qO (cW (F.sz _ rfl) rfl rfl rfl (by assumption) (by rfl) (by exact Hz rfl) (by rfl)) rfl rfl ?_
      refine aA ⟨by kernel_rfl,?_,?_⟩;(focus(repeat(first|exact JR|refine⟨.inl rfl,?_⟩|refine⟨.inr (.inl (by(repeat(refine⟨(by first|exact mA rfl|exact aw rfl rfl (.inl ⟨rfl,(Hu _ ⟨by omega,by omega⟩).symm⟩)|exact an (F.ag _ rfl) rfl (by repeat(first|assumption|refine ab (by omega) ?_)) (aD rfl)|exact aV (F.ag _ rfl) rfl (by repeat(first|assumption|refine ab (by omega) ?_)) (am _ 0 rfl rfl)|exact cR (l:=18+kk) (h:=20+kk) (F.un _ rfl) (F.sz _ rfl) rfl (ic rfl (by omega)) (ic rfl (by omega)) (by omega) (by omega) (Jd (by omega))|exact gj (F.un _ rfl) rfl|exact bR (F.un _ rfl) (F.un _ rfl) rfl (show _=((n2:Nat):Int)from Hu _ ⟨by omega,by omega⟩)|exact di rfl rfl (.inl ⟨rfl,(Jx (by omega)).symm⟩)),?_⟩));exact JR)),?_⟩|refine⟨.inr (.inr (by(repeat(refine⟨(by exact dZ rfl (by kernel_rfl) (by first|exact cM _ _ (by(repeat(refine ab (by omega) ?_));rfl)|exact g2 _ _ (by(repeat(refine ab (by omega) ?_));rfl))),?_⟩));exact JR)),?_⟩)))
      ((apply bn Tryz.func36 (congrArg Array.toList Tryz.results36));(focus(repeat(first|exact JI|apply JK rfl|apply JJ rfl (JL (F.ag _ rfl) (by repeat(exact ac)) (am _ 0 rfl rfl))))))
      rw [hno]
      exact⟨_,rfl,⟨_,_,_,_,rfl,rfl,rfl⟩,fun v h=>(by cases h),by dsimp only;omega,fun m hm=>by(repeat(refine ab (by omega) ?_));exact bo m hm⟩
abbrev wE(a:Int×Int):SV:= .agg [.sc (.int .i64 a.1),.sc (.int .i64 a.2)]
def gg(a b:Int×Int):Bool:=decide (a.1=b.1) && decide (a.2=b.2)
theorem fu{a b:Int×Int}:gg a b=true↔a=b:=by
 simp only [gg,HR,JE]
 exact⟨fun h=>Prod.ext h.1 h.2,fun h=>by rw [h];exact⟨rfl,rfl⟩⟩
theorem uTd:Tryz.prog.underlying 40=some (.struct (Tryz.prog.fieldsOf 40)):=by kernel_rfl
def D0:List (Bool×TypeId×Nat):= [(true,3,0),(true,3,1)]
theorem fTd:(Tryz.prog.fieldsOf 40).toList.map (fun f=>(f.name != "_",f.type,f.offset))=D0:=by kernel_rfl
theorem fTd2: ∃ f g:Field,(Tryz.prog.fieldsOf 40).toList= [f,g]∧f.name ≠ "_" ∧f.type=3∧f.offset=0∧g.name ≠ "_" ∧g.type=3∧g.offset=1:=by
 have h:=fTd
 generalize (Tryz.prog.fieldsOf 40).toList=l at h
 have hl:l.length=2:=by simpa [D0] using congrArg List.length h
 rcases l with _|⟨f,_|⟨g,_|⟨x,l⟩⟩⟩
 ·simp at hl
 ·simp at hl
 ·simp only [HU,List.map_nil,D0,List.cons.injEq,HH,and_true,bne_iff_ne] at h
  exact⟨f,g,rfl,h.1.1,h.1.2.1,h.1.2.2,h.2.1,h.2.2.1,h.2.2.2⟩
 ·simp at hl
theorem lK{P:Program}{t:TypeId}{cs:Array Value}{off:Nat}{v:Value}{k:IntKind}(hu:P.underlying t=some (.int k))(hv:cs[off]? =some v)(w:World):(part t cs off).run P w = .ok v w:=by
 simp [part,isAgg,run_underlying hu,hv]
theorem uJ(a b:Int×Int)(w:World):(Op.equalIn 10000 40 (.agg #[.int .i64 a.1,.int .i64 a.2]) (.agg #[.int .i64 b.1,.int .i64 b.2])).run Tryz.prog w = .ok (gg a b) w:=by
 obtain⟨f,g,hl,f1,f2,f3,g1,g2,g3⟩:=fTd2
 have hu:Tryz.prog.underlying 3=some (.int .i64):=by kernel_rfl
 have he: ∀ (a b:Int) (w:World),(Op.equalIn 9999 3 (.int .i64 a) (.int .i64 b)).run Tryz.prog w = .ok (a == b) w:=fun a b w=>run_equalIn_int w 9998 _ .i64 .i64 a b hu
 rw [show(10000:Nat)=9999+1 from rfl,run_equalIn_struct w 9999 _ _ _ uTd (by kernel_rfl),hl]
 simp only [Op.eqFields,Je f1,Je g1,f2,f3,g2,g3,Sem.run_bind,lK hu (cs:= #[.int .i64 a.1,.int .i64 a.2]) (off:=0) (v:= .int .i64 a.1) rfl,lK hu (cs:= #[.int .i64 b.1,.int .i64 b.2]) (off:=0) (v:= .int .i64 b.1) rfl,Result.andThen_ok]
 rw [he]
 simp only [Result.andThen_ok]
 by_cases h1:a.1=b.1
 ·rw [show(a.1 == b.1)=true by simpa using h1]
  simp only [Bool.not_true,Bool.false_eq_true,if_false,Sem.run_bind,lK hu (cs:= #[.int .i64 a.1,.int .i64 a.2]) (off:=1) (v:= .int .i64 a.2) rfl,lK hu (cs:= #[.int .i64 b.1,.int .i64 b.2]) (off:=1) (v:= .int .i64 b.2) rfl,Result.andThen_ok]
  rw [he]
  simp only [Result.andThen_ok]
  by_cases h2:a.2=b.2
  ·rw [show(a.2 == b.2)=true by simpa using h2]
   simp [h1,h2,gg]
  ·rw [show(a.2 == b.2)=false by simpa using h2]
   simp [h1,h2,gg]
 ·rw [show(a.1 == b.1)=false by simpa using h1]
  simp [h1,gg]
end
section
variable {P:Program} {H:au} {T:Tr SV} {nx:Nat}
variable {d:Option Tmp} {ty:TypeId} {pos:String} {af:Array Edge} {gd:Option (Nat×Bool)}
theorem qR{e:Env}{a:Int×Int}{v:Value}(h:(wE a).conc e=some v):v = .agg #[.int .i64 a.1,.int .i64 a.2]:=by
 simpa [wE,SV.conc,SV.aJ] using h.symm
theorem uQ{x y:Operand}{yt:TypeId}{a b:Int×Int}(hx:ak T x=some (wE a))(hy:ak T y=some (wE b)):ReadDoes Tryz.prog T H ⟨d,.binOp .eql 40 x y yt,ty,pos,af,gd⟩ (.sc (.bool (gg a b))):=by
 intro K w0 e nx w ev hS hE
 refine⟨_,rfl,?_⟩
 have e1:=qR (hE x _ hx)
 have e2:=qR (hE y _ hy)
 simp [execOp,e1,e2,run_eqGuard_agg (P:=Tryz.prog) w .eql 40 x y _ _ (by kernel_rfl),run_eql_struct,uJ]
end
theorem nS{ro:Option Nat}{fn nt nx i:Nat}{T:Tr SV}{k:List AIt}{dfs:List ADf}{H:au}{Q:Pst}{ops:Array Oper}{l:List Oper}{ty:TypeId}{pos:String}{af:Array Edge}{gd:Option (Nat×Bool)}{x y:Operand}{yt:TypeId}{a b:Int×Int}{r:Bool}{dd:Nat}(hw:aF T ops ⟨some dd,.binOp .eql 40 x y yt,ty,pos,af,gd⟩=some true)(hd:Nat.blt dd nt=true)(hx:ak T x=some (wE a))(hy:ak T y=some (wE b))(hr:gg a b=r)
 (h:Wp Tryz.prog ro ⟨fn,nt,T.set dd (.sc (.bool r)),.inReg ops (i+1) l :: k,dfs,H,nx⟩ Q):Wp Tryz.prog ro ⟨fn,nt,T,.inReg ops i (⟨some dd,.binOp .eql 40 x y yt,ty,pos,af,gd⟩ :: l) :: k,dfs,H,nx⟩ Q:=
 cZ hw (.inr (fun _ h=>by cases h)) ((uQ hx hy).does) (by rw [aI hd,hr];exact h)
section
variable {H:au} {T:Tr SV} {nx:Nat}
variable {d:Option Tmp} {ty:TypeId} {pos:String} {af:Array Edge} {gd:Option (Nat×Bool)}
theorem uM{x y:Operand}{yt:TypeId}{a b:Int×Int}{r:Bool}(hr:gg a b=r)(hx:ak T x=some (wE a))(hy:ak T y=some (wE b)):ReadDoes Tryz.prog T H ⟨d,.binOp .neq 40 x y yt,ty,pos,af,gd⟩ (.sc (.bool (!r))):=by
 subst hr
 intro K w0 e nx w ev hS hE
 refine⟨_,rfl,?_⟩
 have e1:=qR (hE x _ hx)
 have e2:=qR (hE y _ hy)
 simp [execOp,e1,e2,run_eqGuard_agg (P:=Tryz.prog) w .neq 40 x y _ _ (by kernel_rfl),run_neq_struct,uJ]
end
theorem RowsC.at{H:au}{ok:Nat→Prop}: ∀ {l:List th} {ws:List SV},RowsC H ok ws l→ ∀ {i:Nat} (hi:i<l.length),∃ s1 s2 r,(ws.drop (i*6)).take 6=qZ (l[i]).1.1 (l[i]).1.2 s1 s2 (l[i]).2.2.2.1 (l[i]).2.2.2.2∧ok r∧BlkS H s1 r (l[i]).2.1∧BlkS H s2 r (l[i]).2.2.1
 | [],_,_,i,hi=>absurd hi (Nat.not_lt_zero _)
 | x :: l,ws,h,i,hi=>by
   obtain⟨s1,s2,rest,r,rfl,h2,h3,h4,h5⟩:=h
   cases i with
   | zero=>exact⟨s1,s2,r,by rw [Nat.zero_mul,List.drop_zero];exact List.take_left' rfl,h2,h3,h4⟩
   | succ i=>
     obtain⟨t1,t2,r',g1,g2,g3,g4⟩:=RowsC.at h5 (i:=i) (Nat.lt_of_succ_lt_succ hi)
     refine⟨t1,t2,r',?_,g2,g3,g4⟩
     rw [Nat.succ_mul,Nat.add_comm,←List.drop_drop]
     exact g1
theorem RowsC.cells{H:au}{ok:Nat→Prop}{l:List th}{ws:List SV}(h:RowsC H ok ws l){i:Nat}(hi:i<l.length): ∃ s1 s2 r,ok r∧BlkS H s1 r (l[i]).2.1∧BlkS H s2 r (l[i]).2.2.1∧(nn false l.length 6 67 ws).cellsFrom (i*6) 2=some [.sc (.int .i64 ((l[i]).1.1:Int)),.sc (.int .i64 ((l[i]).1.2:Int))]∧(nn false l.length 6 67 ws).cellsFrom (i*6+2) 4=some [s1,s2,.sc (.int .u64 ((l[i]).2.2.2.1:Int)),.sc (.int .u64 ((l[i]).2.2.2.2:Int))]:=by
 obtain⟨s1,s2,r,h1,h2,h3,h4⟩:=h.at hi
 have hl:=h.len
 have h6:(nn false l.length 6 67 ws).cellsFrom (i*6) (2+4)=some (qZ (l[i]).1.1 (l[i]).1.2 s1 s2 (l[i]).2.2.2.1 (l[i]).2.2.2.2):=dF 6 (i*6) _ h1 rfl (by omega)
 obtain⟨g1,g2⟩:=hZ 2 4 _ _ h6
 exact⟨s1,s2,r,h2,h3,h4,g1,g2⟩
theorem BlkS.Ad{H:au}{k w:SV}{r:Nat}{v:fY}(hk:BlkS H k r v.1)(hw:BlkS H w r v.2.1):VerIs H (nV k w v.2.2.1 v.2.2.2) v:=⟨k,w,rfl,hk.bs,hw.bs⟩
theorem ye{H:au}{nx r1 r2:Nat}{ok1 ok2:Nat→Prop}{s1 s2:SV}{l:List th}(h1:RowsAt H ok1 r1 s1 l)(h2:RowsAt H ok2 r2 s2 l)(hl:l.length≤50000):Fnc Tryz.prog 14 [s1,s2] H nx (fun q=>q=(.sc (.bool true),H,nx)):=by
 refine Fnc.bu (Free.sc _) ?_
 refine JH Tryz.func14 rfl rfl ?_
 rcases h1 with ⟨rfl,rfl⟩|⟨ws1,L1,h0,rfl,hb1,_,_,c1⟩
 ·rcases h2 with ⟨_,rfl⟩|⟨ws2,L2,h0,_⟩
  ·repeat first|apply aj;rfl|refine cc (jw (F.un _ rfl) rfl) rfl rfl rfl ?_|apply dH;rfl;rfl
   refine bv (α:=Nat) (fun i=> [(0,dy),(1,dy),(5,.sc (.int .i64 0))]) (fun i H1 n1=>n1=nx∧H1=H) (fun i=>0) 0 ⟨rfl,rfl⟩ (JN (JQ rfl)) ?_
   rintro i H1 n1 ⟨rfl,rfl⟩ ih
   repeat first|apply aj;rfl|refine cc (jw (F.un _ rfl) rfl) rfl rfl rfl ?_|apply kM;rfl;decide
   (apply bP Tryz.func14 Tryz.results14;rfl)
   exact⟨rfl,HS _,fun m _=>rfl⟩
  ·cases h0
 ·rcases h2 with ⟨rfl,_⟩|⟨ws2,L2,_,rfl,hb2,_,_,c2⟩
  ·cases h0
  ·repeat first|apply aj;rfl|apply dH;rfl;rfl
   refine bv (α:=Nat) (fun i=> [(0,.slu r1 0 l.length),(1,.slu r2 0 l.length),(5,.sc (.int .i64 (i:Int)))]) (fun i H1 n1=>i≤l.length∧n1=nx∧H1=H) (fun i=>l.length-i) 0 ⟨HT _,rfl,rfl⟩ (JN (JQ rfl)) ?_
   rintro i H1 n1 ⟨i1,rfl,rfl⟩ ih
   repeat apply aj;rfl
   refine bi rfl rfl rfl rfl (fun h5=>?_) (fun h5=>?_)
   ·have hi:i<l.length:=by omega
    obtain⟨a1,a2,ra,_,x1,x2,x3,x4⟩:=c1.cells hi
    obtain⟨b1,b2,rb,_,y1,y2,y3,y4⟩:=c2.cells hi
    have hs:gg (((l[i]).1.1:Int),((l[i]).1.2:Int)) (((l[i]).1.1:Int),((l[i]).1.2:Int))=true:=fu.2 rfl
    have hsame:=fun(nx:Nat)=>B5 (nx:=nx) (BlkS.Ad x1 x2) (BlkS.Ad y1 y2)
    repeat apply aj;rfl
    (apply bg;(focus(kernel_rfl));(focus(kernel_rfl)))
    repeat first|refine aH (q:=i) rfl rfl rfl rfl (F.un _ rfl) (F.sz _ rfl) (by assumption) (by omega) (by(omega)) (HS _) ?_|apply bI;rfl;rfl;exact(fun _ h=>by cases h);exact(aV (F.ag _ rfl) rfl hb1 x3)|apply bI;rfl;rfl;exact(fun _ h=>by cases h);exact(aV (F.ag _ rfl) rfl hb2 y3)|apply bI;rfl;rfl;exact(fun _ h=>by cases h);exact(aV (F.ag _ rfl) rfl hb1 x4)|apply bI;rfl;rfl;exact(fun _ h=>by cases h);exact(aV (F.ag _ rfl) rfl hb2 y4)|apply bI;rfl;rfl;exact(fun _ h=>by cases h);exact(uM hs rfl rfl)|apply bW;rfl;rfl;rfl;(focus(kernel_rfl));exact(hsame _)|apply aU;rfl
    refine aA ⟨by kernel_rfl,?_,?_⟩;(focus(repeat(first|exact JR|apply kp;rfl|apply gu;rfl;kernel_rfl|refine fT 0 rfl (by kernel_rfl) (by(repeat(refine⟨(by first|exact aV (F.ag _ rfl) rfl hb1 x3|exact aV (F.ag _ rfl) rfl hb2 y3|exact aV (F.ag _ rfl) rfl hb1 x4|exact aV (F.ag _ rfl) rfl hb2 y4|exact uM hs rfl rfl|exact aN (F.un _ rfl) (F.sz _ rfl) rfl rfl hb1 rfl (by omega) (HS _)|exact aN (F.un _ rfl) (F.sz _ rfl) rfl rfl hb2 rfl (by omega) (HS _)),?_⟩));exact JR) ?_)))
    repeat first|apply aj;rfl|apply aK;rfl;omega;omega
    exact ih _ _ _ (i+1) ⟨hi,rfl,rfl⟩ (by omega) (JN (JQ rfl))
   ·repeat apply aj;rfl
    (apply bP Tryz.func14 Tryz.results14;rfl)
    exact⟨rfl,HS _,fun m _=>rfl⟩
structure ActT where
 kind:Int
 place:Int
 ver:fY
 tid:Int×Int
 xid:Nat
 odd:Bool
section
variable {H:au}{ro:Bool}
abbrev nP:=ActT×SV×SV
abbrev re(x:nP):List SV:= [.sc (.int .i64 x.1.kind),.sc (.int .i64 x.1.place),x.2.1,x.2.2,.sc (.int .u64 (x.1.ver.2.2.1:Int)),.sc (.int .u64 (x.1.ver.2.2.2:Int)),.sc (.int .i64 x.1.tid.1),.sc (.int .i64 x.1.tid.2),.sc (.int .u64 (x.1.xid:Int)),.sc (.bool x.1.odd)]
abbrev Ee(ro:Bool)(ls:List nP):VO:=nn ro ls.length 10 42 (ls.flatMap re)
def ActIs(H:au)(x:nP):Prop:=BsIs H x.2.1 (byV x.1.ver.1)∧BsIs H x.2.2 (byV x.1.ver.2.1)
theorem ActIs.frame{H':au}{x:nP}(h:ActIs H x)(hf: ∀ b vo,H.at' b=some vo→H'.at' b=some vo):ActIs H' x:=⟨h.1.frame hf,h.2.frame hf⟩
theorem wo: ∀ {ls:List nP} {i j:Nat} (hi:i<ls.length),j<10→(ls.flatMap re)[i*10+j]? =(re ls[i])[j]?
 | [],_,_,hi,_=>by simp at hi
 | x :: ls,0,j,_,hj=>by
   rw [List.flatMap_cons,HP (by show _<10;omega),Nat.zero_mul,Jf]
   rfl
 | x :: ls,i+1,j,hi,hj=>by
   rw [List.flatMap_cons,Jn (by show 10≤_;omega)]
   have:(i+1)*10+j-(re x).length=i*10+j:=by show(i+1)*10+j-10=_;omega
   rw [this,wo (by simpa using hi) hj]
   simp
theorem wn{ls:List nP}{i j:Nat}{v:SV}(hi:i<ls.length)(hv:(re ls[i])[j]? =some v):(Ee ro ls).cell (i*10+j)=some v:=by
 have hj:j<10:=(Hy.1 hv).1
 exact mi ((wo hi hj).trans hv) (by omega)
theorem z7{ls:List nP}{i:Nat}(hi:i<ls.length):(Ee ro ls).cellsFrom (i*10) 10=some (re ls[i]):=by
 refine dF 10 (i*10) _ (Jy fun j=>?_) rfl (by omega)
 rcases Jg j 10 with hj|hj
 ·rw [List.getElem?_take_of_lt hj,List.getElem?_drop,wo hi hj]
 ·rw [JB (by simp;omega),JB (by show 10≤j;omega)]
def Ct(ls:List nP):Bool:=decide (∀ x∈ls,x.1.ver.1.length≤100∧x.1.ver.2.1.length≤300) && decide (ls.length≤60)
theorem Cs{ls:List nP}{x:nP}(hx:x∈ls)(h: ¬ (x.1.ver.1.length≤100∧x.1.ver.2.1.length≤300)):Ct ls=false:=by
 unfold Ct
 rw [Jx (fun h2=>h (h2 x hx)),Bool.false_and]
theorem DZ{ls:List nP}(h:Ct ls=true):(∀ x∈ls,x.1.ver.1.length≤100∧x.1.ver.2.1.length≤300)∧ls.length≤60:=by
 unfold Ct at h
 rw [HR,JE,JE] at h
 exact h
theorem few_s{nx r:Nat}{ls:List nP}(hb:H.at' r=some (Ee ro ls))(hl:ls.length≤9223372036854775807)(hv: ∀ x∈ls,ActIs H x∧x.1.ver.1.length≤9223372036854775807∧x.1.ver.2.1.length≤9223372036854775807):Fnc Tryz.prog 7 [.slu r 0 ls.length] H nx (fun q=>q=(.sc (.bool (Ct ls)),H,nx)):=by
 refine Fnc.bu (Free.sc _) ?_
 refine JH Tryz.func7 rfl rfl ?_
 repeat apply aj;rfl
 refine bv (α:=Nat) (fun i=> [(0,.slu r 0 ls.length),(3,.sc (.int .i64 (i:Int)))]) (fun i H1 n1=>i≤ls.length∧n1=nx∧H1=H∧ ∀ x∈ls.take i,x.1.ver.1.length≤100∧x.1.ver.2.1.length≤300) (fun i=>ls.length-i) 0 ⟨HT _,rfl,rfl,fun x hx=>by simp at hx⟩ (JN (JQ rfl)) ?_
 rintro i H1 n1 ⟨i1,rfl,rfl,i2⟩ ih
 repeat apply aj;rfl
 refine bi rfl rfl rfl rfl (fun h5=>?_) (fun h5=>?_)
 ·have hi:i<ls.length:=by omega
  obtain⟨⟨x1,x2⟩,x3,x4⟩:=hv ls[i] (Jc hi)
  have htk:ls.take (i+1)=ls.take i ++ [ls[i]]:=List.take_succ_eq_append_getElem hi
  have c2:=wn (ro:=ro) (j:=2) hi rfl
  have c3:=wn (ro:=ro) (j:=3) hi rfl
  repeat first|apply aj;rfl|refine dw (q:=i) rfl rfl rfl rfl (F.un _ rfl) (F.sz _ rfl) (by assumption) (by omega) (by(omega)) (HS _) ?_|refine cc (an (F.ag _ rfl) rfl hb c2) rfl rfl rfl ?_|refine dl rfl rfl (F.un _ rfl) rfl x1 ?_;rw [bN]
  refine ej rfl rfl rfl rfl (fun h1=>?_) (fun h1=>?_)
  ·repeat apply aj;rfl
   (apply bP Tryz.func7 Tryz.results7;rfl)
   exact⟨congrArg (fun b=>SV.sc (.bool b)) (Cs (Jc hi) (by omega)).symm,HS _,fun m _=>rfl⟩
  ·repeat first|apply aj;rfl|refine dw (q:=i) rfl rfl rfl rfl (F.un _ rfl) (F.sz _ rfl) (by assumption) (by omega) (by(omega)) (HS _) ?_|refine cc (an (F.ag _ rfl) rfl hb c3) rfl rfl rfl ?_|refine dl rfl rfl (F.un _ rfl) rfl x2 ?_;rw [bN]
   refine ej rfl rfl rfl rfl (fun h2=>?_) (fun h2=>?_)
   ·repeat apply aj;rfl
    (apply bP Tryz.func7 Tryz.results7;rfl)
    exact⟨congrArg (fun b=>SV.sc (.bool b)) (Cs (Jc hi) (by omega)).symm,HS _,fun m _=>rfl⟩
   ·repeat first|apply aj;rfl|apply aK;rfl;omega;omega
    refine ih _ _ _ (i+1) ⟨hi,rfl,rfl,fun x hx=>?_⟩ (by omega) (JN (JQ rfl))
    rw [htk] at hx
    rcases List.mem_append.1 hx with hx|hx
    ·exact i2 x hx
    ·rw [Jj.1 hx]
     exact⟨by omega,by omega⟩
 ·have hj:i=ls.length:=by omega
  subst hj
  rw [List.take_length] at i2
  repeat apply aj;rfl
  have hf: ∀ b,decide (ls.length≤60)=b→Ct ls=b:=fun b h=>by
   unfold Ct
   rw [h,Jw i2,Bool.true_and]
  refine px rfl rfl rfl rfl (fun h1=>?_) (fun h1=>?_)
  ·repeat apply aj;rfl
   (apply bP Tryz.func7 Tryz.results7;rfl)
   exact⟨congrArg (fun b=>SV.sc (.bool b)) (hf true (Jw (by omega))).symm,HS _,fun m _=>rfl⟩
  ·repeat apply aj;rfl
   (apply bP Tryz.func7 Tryz.results7;rfl)
   exact⟨congrArg (fun b=>SV.sc (.bool b)) (hf false (Jx (by omega))).symm,HS _,fun m _=>rfl⟩
theorem Gp{nx n:Nat}{s:SV}{p it:List UInt8}(hp:p.length=1024)(hr:bl p=true)(hn:n<ae p)(hs:ar p n≠0)(hB:BsIs H s (byV it))(hit:it.length=ar p n):Fnc Tryz.prog 60 [.agg (pgS p),.sc (.int .i64 (n:Int)),s] H nx (fun q=>q=(pgE (bf p (ay p n) it,0),H,nx)):=by
 refine Fnc.bu (gL _) ?_
 have hb:=cQ hr hn hs
 have hbl:=bN it
 have hfd:cn p n=(ay p n,ar p n,0):=by unfold cn;rw [Jd (by omega),Jd hs]
 refine JH Tryz.func60 rfl rfl ?_
 refine aW fun hund=>?_
 repeat first|refine aY rfl rfl ce ?_|apply aj;rfl
 have hb1:((H.set nx (pgO p)).set (nx+1) (pgO zeroP)).at' nx=some (pgO p):=by repeat(first|exact ac|refine ab (by omega) ?_)
 have hz1:((H.set nx (pgO p)).set (nx+1) (pgO zeroP)).at' (nx+1)=some (pgO zeroP):=by repeat(exact ac)
 have ho1: ∀ m,m<nx→((H.set nx (pgO p)).set (nx+1) (pgO zeroP)).at' m=H.at' m:=fun m hm=>by(repeat(refine ab (by omega) ?_));rfl
 have hB1:BsIs ((H.set nx (pgO p)).set (nx+1) (pgO zeroP)) s (byV it):=hB.frame fun b vo h=>(ho1 b (hund b vo h)).trans h
 have hrs:=fun nx'=>gi (nx:=nx') hb1 hp
 rw [hr] at hrs
 have hfs: ∀ nx',Fnc Tryz.prog 89 [.ptr nx 0,.sc (.int .i64 (n:Int))] ((H.set nx (pgO p)).set (nx+1) (pgO zeroP)) nx' (fun q=>q=(.tup [.sc (.int .i64 (ay p n:Int)),.sc (.int .i64 (ar p n:Int)),.sc (.int .i64 0)],((H.set nx (pgO p)).set (nx+1) (pgO zeroP)),nx')):=fun nx'=>by
  have:=vT (nx:=nx') (n:=n) hb1 (fA hp hr)
  rw [hfd] at this
  exact this
 have hmi: ∀ H nx,Fnc Tryz.prog 68 [.sc (.int .i64 (it.length:Int))] H nx (fun q=>q=(.sc (.bool true),H,nx)):=fun H nx=>by
  have:=sx (H:=H) (nx:=nx) (n:=it.length)
  rw [Jw (by omega)] at this
  exact this
 generalize (H.set nx (pgO p)).set (nx+1) (pgO zeroP)=H1 at hb1 hz1 ho1 hB1 hrs hfs ⊢
 repeat first|apply aj;rfl|apply cw;rfl|apply bY;rfl;kernel_rfl;exact hrs _|apply kM;rfl;omega|refine dl rfl rfl (F.un _ rfl) rfl hB1 ?_;rw [hbl]|apply bY;rfl;kernel_rfl;exact hmi _ _|apply bY;rfl;kernel_rfl;exact hfs _|apply dH;rfl;omega|apply kL (lw:=ay p n) (hg:=1024) (m:=1024-ay p n);rfl;rfl;rfl;exact(F.un _ rfl);exact(F.sz _ rfl);rfl;rfl;(focus(omega));(focus(omega));(focus(omega));rfl;rfl;exact(Jf _)
 refine nT rfl rfl rfl rfl (F.un _ rfl) (F.sz _ rfl) hb1 hB1 (by omega) (by rw [be hp];omega) ?_
 rw [mE rfl]
 have hpl:(bf p (ay p n) it).length=1024:=(bM (by omega)).trans hp
 generalize bf p (ay p n) it=p2 at hpl ⊢
 repeat first|apply bq hpl;rfl;(focus((repeat(exact ac));done))|apply bC hpl ai;rfl;(focus((repeat(first|assumption|refine ab (by omega) ?_));done))|apply aj;rfl
 ((apply bn Tryz.func60 (congrArg Array.toList Tryz.results60));(focus((apply JJ rfl (JL (F.ag _ rfl) (by repeat(exact ac)) (bm hpl)));(repeat(first|exact JI|apply JK rfl)))))
 exact⟨rfl,by dsimp only;omega,fun m hm=>by(repeat(refine ab (by omega) ?_));exact ho1 m hm⟩
end
end Go.Proofs.YtnhmbonmlfeifaaGreat
end
section
namespace Go.Sy
open Go
section
variable {P:Program} {T:Tr SV} {H:au} {nx:Nat} {d:Option Tmp} {ty:TypeId} {pos:String} {af:Array Edge} {gd:Option (Nat×Bool)}
theorem A0{t tx el:TypeId}{b eo n ne:Nat}{bt:TypeId}{us vs:List Value}{s x:Operand}{v:SV}(hu:P.underlying t=some (.slice el))(hs:bH P el=some 1)(hx0:ak T s=some (.slu b eo n))(hx:ak T x=some v)(hb:H.at' b=some (dat false ne 1 bt us))(hv:BsIs H v vs)(hn:vs.length≤n)(hne:eo+n≤ne)(hl:us.length=ne) :
 OpDoes P T H nx ⟨d,.call {callee:= .builtin .copy,args:= #[s,x],argTypes:= #[t,tx]},ty,pos,af,gd⟩ (.val (.sc (.int .i64 (vs.length:Nat))),H.set b (dat false ne 1 bt (us.take eo ++ vs ++ us.drop (eo+vs.length))),nx):=by
 have hr:=BsIs.rdv (P:=P) hv
 unfold RdV at hr
 have hmin:min vs.length n=vs.length:=Nat.min_eq_left hn
 have htk:(vs.map SV.sc).take (vs.length*1)=vs.map SV.sc:=by rw [Nat.mul_one];exact HK (by simp)
 have hst:(dat false ne 1 bt us).setCells (eo*1) (vs.map .sc)=some (dat false ne 1 bt (us.take eo ++ vs ++ us.drop (eo+vs.length))):=by
  rw [Nat.mul_one]
  exact gI vs us eo (by omega) (by omega) hv.1
 have hble:(Nat.beq 1 1 && Nat.ble (eo+n) ne)=true:=by rw [HG hne];rfl
 have hcp:um P H nx t (.slu b eo n) v=some (.val (.sc (.int .i64 (vs.length:Nat))),H.set b (dat false ne 1 bt (us.take eo ++ vs ++ us.drop (eo+vs.length))),nx):=by
  unfold dat at hb hst ⊢
  simp only [um,hu,hs,hr,hmin,htk,hb,hble,cond_true,eS,hst]
 refine iW ?_
 simp only [fN,du,hx0,hx,HZ,eP,hcp]
end
end Go.Sy
end
section
namespace Go.Proofs.YtnhmbonmlfeifaaGreat
open Go Go.Sy Go.Sl Go.RowKit
section
variable {H:au}{n nx:Nat}{p:List UInt8}
theorem sW{b:Nat}{mem:List UInt8}{left puts:Int}(hb:H.at' b=some (cX mem left puts))(hm:mem.length=131072)(hn:n<128){g:FuncId}{caps:List SV}(hme:bS Tryz.prog g=true)(Fx:List UInt8→List UInt8×Nat)
 (hf: ∀ p H1 n1,aX (az mem n)=(p,0)→nx≤n1→(∀ m,m<nx→H1.at' m=H.at' m)→(Fx p).1.length=1024∧Fnc Tryz.prog g ([.agg (pgS p)] ++ caps) H1 n1 (fun q=>q.1=pgE (Fx p)∧n1≤q.2.2∧ ∀ m,m<n1→q.2.1.at' m=H1.at' m)):Fnc Tryz.prog 54 [tv b,.sc (.int .i64 (n:Int)),.fn (.func g) [] caps] H nx
 (fun q=>q.1=pgE (if(aX (az mem n)).2≠0 then(zeroP,13) else Fx (aX (az mem n)).1)∧nx≤q.2.2∧ ∀ m,m<nx→q.2.1.at' m=H.at' m):=by
 refine JH Tryz.func54 rfl rfl ?_
 refine aW fun hund=>?_
 have lb:=hund _ _ hb
 have hpl:=dx hm hn
 repeat first|refine aY rfl rfl ce ?_|apply aj;rfl
 refine aL rfl rfl rfl (by kernel_rfl) (JG (rN (n:=n) (left:=left) (puts:=puts) (mem:=mem) (by(repeat(refine ab (by omega) ?_));exact hb) hm hn) ?_)
 rintro _ rfl
 dsimp only
 rcases lM (p:=az mem n)with he|he
 ·obtain⟨p,hp⟩: ∃ p,aX (az mem n)=(p,0):=⟨_,Prod.ext rfl he⟩
  obtain⟨hpp,_,_⟩:=cN hp hpl
  rw [hp,Jd (fun h=>h rfl)]
  repeat first|apply bC hpp ai;rfl;(focus((repeat(exact ac));done))|refine aY rfl rfl ce ?_|apply aj;rfl|apply dH;rfl;rfl|apply bq hpp;rfl;(focus((repeat(exact ac));done))
  refine cL (R:=fun H4 n4=>nx+1≤n4∧H4.at' nx=some (pgO zeroP)∧ ∀ m,m<nx→H4.at' m=H.at' m) ⟨by omega,by repeat(first|exact ac|refine ab (by omega) ?_),fun m hm=>by(repeat(refine ab (by omega) ?_));rfl⟩ ?_
  rintro H4 n4 ⟨h1,h2,h3⟩
  obtain⟨hfl,hfc⟩:=hf p H4 n4 hp (by omega) h3
  refine jm rfl rfl rfl rfl hme (JG hfc ?_)
  rintro⟨_,H5,n5⟩ ⟨rfl,g1,g2⟩
  dsimp only at g1 g2 ⊢
  have g3:H5.at' nx=some (pgO zeroP):=(g2 _ (by omega)).trans h2
  generalize Fx p=X at hfl ⊢
  obtain⟨x,e⟩:=X
  dsimp only at hfl ⊢
  repeat first|apply bC hfl ai;rfl;assumption|apply aj;rfl
  ((apply bn Tryz.func54 (congrArg Array.toList Tryz.results54));(focus((apply JJ rfl (JL (F.ag _ rfl) (by repeat(exact ac)) (bm hfl)));(repeat(first|exact JI|apply JK rfl)))))
  exact⟨rfl,by dsimp only;omega,fun m hm=>by(repeat(refine ab (by omega) ?_));exact(g2 m (by omega)).trans (h3 m hm)⟩
 ·rw [he,Je (by decide)]
  repeat first|apply bC ai ai;rfl;(focus((repeat(first|exact ac|refine ab (by omega) ?_));done))|refine aY rfl rfl ce ?_|apply aj;rfl|refine cc (cS gE) rfl rfl rfl ?_|apply ii;rfl;decide
  ((apply bn Tryz.func54 (congrArg Array.toList Tryz.results54));(focus((apply JJ rfl (JL (F.ag _ rfl) (by repeat(exact ac)) (bm ai)));(repeat(first|exact JI|apply JK rfl)))))
  exact⟨rfl,by dsimp only;omega,fun m hm=>by(repeat(refine ab (by omega) ?_));rfl⟩
def jK(k x:Nat)(p:List UInt8):List UInt8×Nat:=if(cn p k).2.2≠0 then(zeroP,6) else(bf p (ay p k) (bf (aS p k) 8 (beB x 8)),0)
theorem Cw{tb xb k x:Nat}(ht:H.at' tb=some (ez (n:Int) (k:Int)))(hx:H.at' xb=some (aq 36 [.sc (.int .u64 (x:Int))]))(hxl:x≤4000)(hp:p.length=1024)(hr:bl p=true)(hof: ∀ j,j<ae p→ar p j≠0→(ofV (aS p j)).isSome=true):(jK k x p).1.length=1024∧Fnc Tryz.prog 58 [.agg (pgS p),.ptr tb 0,.ptr xb 0] H nx
 (fun q=>q.1=pgE (jK k x p)∧nx≤q.2.2∧ ∀ m,m<nx→q.2.1.at' m=H.at' m):=by
 by_cases hK:ae p≤k∨ar p k=0
 ·have hfd:cn p k=(0,0,6):=by unfold cn;split;rfl;rw [Je (by omega)]
  have hv:jK k x p=(zeroP,6):=by unfold jK;rw [hfd,Je (by decide)]
  rw [hv]
  refine⟨ai,?_⟩
  refine JH Tryz.func58 rfl rfl ?_
  refine aW fun hund=>?_
  have l1:=hund _ _ ht
  repeat first|refine aY rfl rfl ce ?_|apply aj;rfl|apply aG;rfl;(focus((repeat(first|assumption|exact ac|refine ab (by omega) ?_));done));rfl|apply bq hp;rfl;(focus((repeat(first|exact ac|refine ab (by omega) ?_));done))
  refine aL rfl rfl rfl (by kernel_rfl) (JG (sB hp hr hK) ?_)
  rintro⟨_,H2,n2⟩ ⟨rfl,a3,a4⟩
  dsimp only at a3 a4 ⊢
  have b4:H2.at' (nx+1)=some (pgO zeroP):=(a4 _ (by omega)).trans (by repeat(exact ac))
  have bo: ∀ m,m<nx→H2.at' m=H.at' m:=fun m hm=>(a4 _ (by omega)).trans (by(repeat(refine ab (by omega) ?_));rfl)
  clear a4
  repeat first|apply bC ai ai;rfl;assumption|apply aj;rfl|refine cc (cS gE) rfl rfl rfl ?_|apply ii;rfl;decide
  ((apply bn Tryz.func58 (congrArg Array.toList Tryz.results58));(focus((apply JJ rfl (JL (F.ag _ rfl) (by repeat(exact ac)) (bm ai)));(repeat(first|exact JI|apply JK rfl)))))
  exact⟨rfl,by dsimp only;omega,fun m hm=>by(repeat(refine ab (by omega) ?_));exact bo m hm⟩
 ·have hs:ar p k≠0:=fun h=>hK (.inr h)
  have hn:k<ae p:=by omega
  have hfd:cn p k=(ay p k,ar p k,0):=by unfold cn;rw [Jd (by omega),Jd hs]
  have hv:jK k x p=(bf p (ay p k) (bf (aS p k) 8 (beB x 8)),0):=by unfold jK;rw [hfd,Jd (fun h=>h rfl)]
  have hb:=cQ hr hn hs
  have hil:=dz hp hb.2.2.2
  have hbl:=bN (aS p k)
  have h8:=bp x 8
  have h8b:=bN (beB x 8)
  have h20:20≤(aS p k).length:=by
   obtain⟨v,h⟩: ∃ v,ofV (aS p k)=some v:=by cases h:ofV (aS p k)with|some v=>exact⟨v,rfl⟩|none=>have:=hof k hn hs;rw [h] at this;cases this
   rw [of_eq] at h
   unfold ofR at h
   split at h
   ·cases h
   ·omega
  have hil2:(bf (aS p k) 8 (beB x 8)).length=ar p k:=(bM (by omega)).trans hil
  have hpl:(bf p (ay p k) (bf (aS p k) 8 (beB x 8))).length=1024:=(bM (by omega)).trans hp
  have hnew:(byV (aS p k)).take 8 ++ byV (beB x 8) ++ (byV (aS p k)).drop (8+(byV (beB x 8)).length)=byV (bf (aS p k) 8 (beB x 8)):=by
   unfold bf
   rw [jT,jT,h8b]
   simp only [byV,List.map_take,List.map_drop]
  rw [hv]
  refine⟨hpl,?_⟩
  refine JH Tryz.func58 rfl rfl ?_
  refine aW fun hund=>?_
  have l1:=hund _ _ ht
  have l2:=hund _ _ hx
  repeat first|refine aY rfl rfl ce ?_|apply aj;rfl|apply aG;rfl;(focus((repeat(first|assumption|exact ac|refine ab (by omega) ?_));done));rfl|apply bq hp;rfl;(focus((repeat(first|exact ac|refine ab (by omega) ?_));done))
  refine aL rfl rfl rfl (by kernel_rfl) (JG (uc hp hr hn hs) ?_)
  rintro⟨_,H2,n2⟩ ⟨r,rfl,a1,a2,a3,a4⟩
  dsimp only at a1 a3 a4 ⊢
  have b3:H2.at' nx=some (pgO p):=(a4 _ (by omega)).trans (by repeat(first|exact ac|refine ab (by omega) ?_))
  have b4:H2.at' (nx+1)=some (pgO zeroP):=(a4 _ (by omega)).trans (by repeat(exact ac))
  have bo: ∀ m,m<nx→H2.at' m=H.at' m:=fun m hm=>(a4 _ (by omega)).trans (by(repeat(refine ab (by omega) ?_));rfl)
  have bx:=(bo xb l2).trans hx
  have bt:=(bo tb l1).trans ht
  clear a4
  repeat first|apply aj;rfl|apply aG;rfl;assumption;rfl|apply dH;rfl;rfl
  refine aL rfl rfl rfl (by kernel_rfl) (JG (AS (n:=x) (size:=8) (by have:(256:Nat) ^ 8=18446744073709551616:=rfl;omega) (by decide) (by decide) (by omega)) ?_)
  rintro⟨_,H3,n3⟩ ⟨rfl,c1,rfl,c3⟩
  dsimp only at c1 c3 ⊢
  repeat first|apply aj;rfl|refine CX (lw:=8) (hg:=16) rfl rfl rfl (F.un _ rfl) (F.sz _ rfl) (by exact(c3 r a3).trans a1) rfl rfl (by decide) (by omega) (by omega) ?_
  refine cZ rfl (.inr (fun _ h=>by cases h)) (A0 (b:=r) (eo:=0+8) (n:=16-8) (vs:=byV (beB x 8)) (us:=byV (aS p k)) (ne:=(byV (aS p k)).length) (bt:=5) (F.un _ rfl) (F.sz _ rfl) rfl rfl (by exact(c3 r a3).trans a1) (jg c1 h8) (by omega) (by omega) rfl) ?_
  rw [aI rfl,show(byV (aS p k)).take (0+8) ++ byV (beB x 8) ++ (byV (aS p k)).drop (0+8+(byV (beB x 8)).length)=byV (bf (aS p k) 8 (beB x 8))from hnew,show(byV (aS p k)).length=(bf (aS p k) 8 (beB x 8)).length by omega]
  have d0:(H3.set r (u8R false (byV (bf (aS p k) 8 (beB x 8))))).at' r=some (u8R false (byV (bf (aS p k) 8 (beB x 8)))):=ah _ _ _
  have hset:=fun(H:au) nx (h:H.at' r=some (u8R false (byV (bf (aS p k) 8 (beB x 8)))))=>Gp (H:=H) (nx:=nx) (n:=k) (s:= .slu r 0 (aS p k).length) hp hr hn hs (by have:=jc h;rwa [hil2,←hil] at this) hil2
  rw [← bN (bf (aS p k) 8 (beB x 8))]
  refine cL (R:=fun H4 n4=>nx+1+1≤n4∧H4.at' r=some (u8R false (byV (bf (aS p k) 8 (beB x 8))))∧H4.at' nx=some (pgO p)∧H4.at' (nx+1)=some (pgO zeroP)∧H4.at' tb=some (ez (n:Int) (k:Int))∧ ∀ m,m<nx→H4.at' m=H.at' m)
   ⟨by omega,ah _ _ _,by(repeat(refine ab (by omega) ?_));exact(c3 _ (by omega)).trans b3,by(repeat(refine ab (by omega) ?_));exact(c3 _ (by omega)).trans b4,by(repeat(refine ab (by omega) ?_));exact(c3 _ (by omega)).trans bt,fun m hm=>by(repeat(refine ab (by omega) ?_));exact(c3 _ (by omega)).trans (bo m hm)⟩ ?_
  rintro H4 n4 ⟨e0,e1,e2,e3,e4,e5⟩
  generalize bf p (ay p k) (bf (aS p k) 8 (beB x 8))=p2 at hpl hset ⊢
  repeat first|apply bq hp;rfl;assumption|apply bC hpl ai;rfl;assumption|apply aj;rfl|apply aG;rfl;assumption;rfl|apply bY;rfl;kernel_rfl;exact hset _ _ e1
  ((apply bn Tryz.func58 (congrArg Array.toList Tryz.results58));(focus((apply JJ rfl (JL (F.ag _ rfl) (by repeat(exact ac)) (bm hpl)));(repeat(first|exact JI|apply JK rfl)))))
  exact⟨rfl,by dsimp only;omega,fun m hm=>by(repeat(refine ab (by omega) ?_));exact e5 m hm⟩
def oS(pf:Nat→List UInt8)(n:Nat)(Fx:List UInt8→List UInt8×Nat):List UInt8×Nat:=if(aX (pf n)).2≠0 then(zeroP,13) else Fx (aX (pf n)).1
def ku(pf:Nat→List UInt8)(n k:Int)(x:Nat):Nat×Option (Nat×List UInt8):=
 if 4000<x∨mu n k=false then(2,none)
 else if(oS pf n.toNat (jK k.toNat x)).2≠0 then((oS pf n.toNat (jK k.toNat x)).2,none)
 else(0,some (n.toNat,(oS pf n.toNat (jK k.toNat x)).1))
theorem v4{a:Nat}:Fnc Tryz.prog 57 [.ptr a 0] H nx (fun q=>q=(.tup [],H,nx)):=by
 refine JH Tryz.func57 rfl rfl ?_
 repeat first|apply aj;rfl|apply jl;rfl;rfl|refine cc (ju rfl Tryz.underlying20) rfl rfl rfl ?_
 (apply B0 Tryz.func57 Tryz.results57;rfl)
 rfl
theorem D1{b x:Nat}{n k:Int}{mem:List UInt8}{left puts:Int}(hb:H.at' b=some (cX mem left puts))(hm:mem.length=131072)(hl:left≠0)(hl2 : -1000000000≤left∧left≤1000000000)(hputs : -1000000000≤puts∧puts≤1000000000):Fnc Tryz.prog 22 [tv b,.agg [.sc (.int .i64 n),.sc (.int .i64 k)],.sc (.int .u64 (x:Int))] H nx
 (fun q=>q.1 = .sc (.int .i64 ((ku (az mem) n k x).1:Int))∧q.2.1.at' b=some (putO mem left puts (ku (az mem) n k x).2)∧nx≤q.2.2∧ ∀ m,m<nx→m≠b→q.2.1.at' m=H.at' m):=by
 refine JH Tryz.func22 rfl rfl ?_
 refine aW fun hund=>?_
 have lb:=hund _ _ hb
 repeat first|apply aj;rfl|apply aG;rfl;(focus((repeat(first|exact ac|refine ab (by omega) ?_));done));rfl|apply lg;rfl;rfl;rfl;(focus(kernel_rfl))|refine cc (e8 rfl rfl Tryz.underlying75 rfl) rfl rfl rfl ?_
 refine ej rfl rfl rfl rfl (fun h1=>?_) (fun h1=>?_)
 ·have hM:ku (az mem) n k x=(2,none):=by unfold ku;rw [Je (.inl (by omega))]
  rw [hM]
  repeat first|apply aj;rfl|apply aG;rfl;(focus((repeat(exact ac));done));rfl
  refine eg Tryz.func22 (congrArg Array.toList Tryz.results22) (by kernel_rfl) (JG v4 ?_)
  rintro _ rfl
  refine⟨_,(by(repeat(first|exact JI|apply JJ rfl (JM (F.ag _ rfl) (by repeat(exact ac)) (aD rfl))))),?_⟩
  dsimp only
  exact⟨rfl,by(repeat(refine ab (by omega) ?_));exact hb,by omega,fun m hm _=>by(repeat(refine ab (by omega) ?_));rfl⟩
 ·cases hmay:mu n k with
  | false=>
    have hM:ku (az mem) n k x=(2,none):=by unfold ku;rw [Je (.inr hmay)]
    rw [hM]
    have hmy:=fun(H:au) nx=>zf (H:=H) (nx:=nx) (n:=n) (k:=k)
    rw [hmay] at hmy
    repeat first|apply aj;rfl|apply aG;rfl;(focus((repeat(first|exact ac|refine ab (by omega) ?_));done));rfl|apply bY;rfl;kernel_rfl;exact hmy _ _
    refine eg Tryz.func22 (congrArg Array.toList Tryz.results22) (by kernel_rfl) (JG v4 ?_)
    rintro _ rfl
    refine⟨_,(by(repeat(first|exact JI|apply JJ rfl (JM (F.ag _ rfl) (by repeat(exact ac)) (aD rfl))))),?_⟩
    dsimp only
    exact⟨rfl,by(repeat(refine ab (by omega) ?_));exact hb,by omega,fun m hm _=>by(repeat(refine ab (by omega) ?_));rfl⟩
  | true=>
    have hmd:32≤n∧n<128∧0≤k:=Jp hmay
    obtain⟨N,rfl⟩: ∃ N:Nat,n=(N:Int):=⟨n.toNat,by omega⟩
    obtain⟨K,rfl⟩: ∃ K:Nat,k=(K:Int):=⟨k.toNat,by omega⟩
    have hmy:=fun(H:au) nx=>zf (H:=H) (nx:=nx) (n:=(N:Int)) (k:=(K:Int))
    rw [hmay] at hmy
    have hM:ku (az mem) (N:Int) (K:Int) x=if(oS (az mem) N (jK K x)).2≠0 then((oS (az mem) N (jK K x)).2,none) else(0,some (N,(oS (az mem) N (jK K x)).1)):=by
     unfold ku
     rw [Jd (by rw [hmay];intro h;rcases h with h|h;omega;cases h),Jv,Jv]
    rw [hM]
    repeat first|apply aj;rfl|apply aG;rfl;(focus((repeat(first|exact ac|refine ab (by omega) ?_));done));rfl|apply bY;rfl;kernel_rfl;exact hmy _ _
    refine aL rfl rfl rfl (by kernel_rfl) (JG (sW (b:=b) (n:=N) (mem:=mem) (left:=left) (puts:=puts) (by(repeat(refine ab (by omega) ?_));exact hb) hm (by omega) (g:=58) (caps:= [.ptr nx 0,.ptr (nx+1) 0]) (by kernel_rfl) (jK K x) ?_) ?_)
    ·intro p H1 n1 hrd hn1 ho
     obtain⟨hpp,hr,hof⟩:=cN hrd (dx hm (by omega))
     exact Cw (tb:=nx) (xb:=nx+1) (n:=N) ((ho nx (by omega)).trans (by repeat(first|exact ac|refine ab (by omega) ?_))) ((ho (nx+1) (by omega)).trans (by repeat(first|exact ac|refine ab (by omega) ?_))) (by omega) hpp hr hof
    ·rintro⟨_,H4,n4⟩ ⟨rfl,g1,g2⟩
     have hcl:(oS (az mem) N (jK K x)).1.length=1024:=by
      unfold oS
      split
      ·exact ai
      ·rename_i h
       have h:=Decidable.not_not.1 h
       obtain⟨hpp,hr,hof⟩:=cN (q:=(aX (az mem N)).1) (Prod.ext rfl h) (dx hm (by omega))
       exact(Cw (H:=(Tr.set (Tr.set H 0 (ez (N:Int) (K:Int))) 1 (aq 36 [.sc (.int .u64 (x:Int))]))) (nx:=nx) (tb:=0) (xb:=1) (n:=N) (aa _ _ (by decide) |>.trans (ah _ _ _)) (ah _ _ _) (by omega) hpp hr hof).1
     have hch:(if(aX (az mem N)).2≠0 then(zeroP,13) else jK K x (aX (az mem N)).1)=oS (az mem) N (jK K x):=rfl
     rw [hch]
     generalize oS (az mem) N (jK K x)=C at hcl ⊢
     obtain⟨Cx,Ce⟩:=C
     dsimp only at g1 g2 hcl ⊢
     have gb:H4.at' b=some (cX mem left puts):=(g2 _ (by omega)).trans (by(repeat(refine ab (by omega) ?_));exact hb)
     have g6:H4.at' (nx+1+1)=some (fp 0):=(g2 _ (by omega)).trans (by repeat(exact ac))
     have g4:H4.at' nx=some (ez (N:Int) (K:Int)):=(g2 _ (by omega)).trans (by repeat(first|exact ac|refine ab (by omega) ?_))
     have go: ∀ m,m<nx→H4.at' m=H.at' m:=fun m hm=>(g2 _ (by omega)).trans (by(repeat(refine ab (by omega) ?_));rfl)
     by_cases he:Ce=0
     ·subst he
      rw [Jd (fun h=>h rfl)]
      repeat first|apply bC hcl ai;rfl;(focus((repeat(exact ac));done))|refine aY rfl rfl ce ?_|apply aj;rfl|apply aG;rfl;(focus((repeat(first|assumption|exact ac|refine ab (by omega) ?_));done));rfl|apply dH;rfl;rfl|apply bq hcl;rfl;(focus((repeat(first|exact ac|refine ab (by omega) ?_));done))
      refine lE 141 rfl rfl rfl rfl (by kernel_rfl) (JG (uS (n:=N) (mem:=mem) (by(repeat(refine ab (by omega) ?_));exact gb) hm (by omega) hcl hl hl2 hputs) ?_)
      rintro⟨_,H5,n5⟩ ⟨rfl,d1,d2,d3⟩
      dsimp only at d1 d2 d3 ⊢
      have d5:H5.at' (nx+1+1)=some (fp 0):=(d3 _ (by omega) (by omega)).trans (by repeat(exact ac))
      have dold: ∀ m,m<nx→m≠b→H5.at' m=H.at' m:=fun m hm hmb=>(d3 _ (by omega) hmb).trans (by(repeat(refine ab (by omega) ?_));exact go m hm)
      clear d3
      repeat first|apply aj;rfl|apply aG;rfl;assumption;rfl
      refine eg Tryz.func22 (congrArg Array.toList Tryz.results22) (by kernel_rfl) (JG v4 ?_)
      rintro _ rfl
      refine⟨_,(by(repeat(first|exact JI|apply JJ rfl (JM (F.ag _ rfl) (by repeat(exact ac)) (aD rfl))))),?_⟩
      dsimp only
      exact⟨rfl,by(repeat(refine ab (by omega) ?_));exact d1,by omega,fun m h1 h2=>by(repeat(refine ab (by omega) ?_));exact dold m h1 h2⟩
     ·rw [Je he]
      repeat first|apply bC hcl ai;rfl;(focus((repeat(exact ac));done))|refine aY rfl rfl ce ?_|apply aj;rfl|apply aG;rfl;(focus((repeat(first|assumption|exact ac|refine ab (by omega) ?_));done));rfl|apply ii;rfl;omega
      refine eg Tryz.func22 (congrArg Array.toList Tryz.results22) (by kernel_rfl) (JG v4 ?_)
      rintro _ rfl
      refine⟨_,(by(repeat(first|exact JI|apply JJ rfl (JM (F.ag _ rfl) (by repeat(exact ac)) (aD rfl))))),?_⟩
      dsimp only
      exact⟨rfl,by(repeat(refine ab (by omega) ?_));exact gb,by omega,fun m hm _=>by(repeat(refine ab (by omega) ?_));exact go m hm⟩
abbrev intO(c:Nat):VO:=aq 3 [.sc (.int .i64 (c:Int))]
def de(p:List UInt8):Nat→Nat
 | 0=>0
 | m+1=>if ar p m=0 then de p m else m+1
def oQ(p:List UInt8):List UInt8:=if de p (ae p)=0 then cm (cm p 14 (de p (ae p))) 16 1024 else cm p 14 (de p (ae p))
def gy(p:List UInt8)(n:Nat):List UInt8×Nat:=
 if bl p=false then(zeroP,4) else if(cn p n).2.2≠0 then(zeroP,(cn p n).2.2) else(oQ (bK p n 0 0),0)
theorem G7(hp:p.length=1024):Fnc Tryz.prog 99 [.agg (pgS p),.sc (.int .i64 (n:Int))] H nx (fun q=>q.1=pgE (gy p n)∧nx≤q.2.2∧ ∀ m,m<nx→q.2.1.at' m=H.at' m):=by
 refine JH Tryz.func99 rfl rfl ?_
 refine aW fun hund=>?_
 repeat first|refine aY rfl rfl ce ?_|apply aj;rfl
 have hb1:((H.set nx (pgO p)).set (nx+1) (pgO zeroP)).at' nx=some (pgO p):=by repeat(first|exact ac|refine ab (by omega) ?_)
 have hz1:((H.set nx (pgO p)).set (nx+1) (pgO zeroP)).at' (nx+1)=some (pgO zeroP):=by repeat(exact ac)
 have ho1: ∀ m,m<nx→((H.set nx (pgO p)).set (nx+1) (pgO zeroP)).at' m=H.at' m:=fun m hm=>by(repeat(refine ab (by omega) ?_));rfl
 generalize (H.set nx (pgO p)).set (nx+1) (pgO zeroP)=H1 at hb1 hz1 ho1 ⊢
 cases hr:bl p with
 | false=>
   have hv:gy p n=(zeroP,4):=by unfold gy;rw [Je hr]
   have hrs:=fun nx=>gi (nx:=nx) hb1 hp
   rw [hr] at hrs
   repeat first|apply bC ai ai;rfl;assumption|apply aj;rfl|apply bY;rfl;kernel_rfl;exact hrs _|refine cc (cS gE) rfl rfl rfl ?_
   ((apply bn Tryz.func99 (congrArg Array.toList Tryz.results99));(focus((apply JJ rfl (JL (F.ag _ rfl) (by repeat(exact ac)) (bm ai)));(repeat(first|exact JI|apply JK rfl)))))
   exact⟨by rw [hv];rfl,by dsimp only;omega,fun m hm=>(aa _ _ (by omega)).trans (ho1 m hm)⟩
 | true=>
   have hf:=fA hp hr
   have hrs:=fun nx=>gi (nx:=nx) hb1 hp
   rw [hr] at hrs
   repeat first|apply aj;rfl|apply bY;rfl;kernel_rfl;exact hrs _
   refine bi rfl rfl rfl rfl (fun hq=>absurd hq (by omega)) (fun _=>?_)
   repeat first|apply aj;rfl|apply bY;rfl;kernel_rfl;exact vT hb1 hf
   refine lD rfl rfl rfl rfl (fun h1=>?_) (fun h1=>?_)
   ·have hv:gy p n=(zeroP,(cn p n).2.2):=by unfold gy;rw [Jd (by rw [hr];decide),Je (by omega)]
    repeat first|apply bC ai ai;rfl;assumption|apply aj;rfl|refine cc (cS gE) rfl rfl rfl ?_
    ((apply bn Tryz.func99 (congrArg Array.toList Tryz.results99));(focus((apply JJ rfl (JL (F.ag _ rfl) (by repeat(exact ac)) (bm ai)));(repeat(first|exact JI|apply JK rfl)))))
    exact⟨by rw [hv];rfl,by dsimp only;omega,fun m hm=>(aa _ _ (by omega)).trans (ho1 m hm)⟩
   ·have hv:gy p n=(oQ (bK p n 0 0),0):=by unfold gy;rw [Jd (by rw [hr];decide),Jd (by omega)]
    have hn:n<ae p:=by
     rcases Jg n (ae p)with h|h
     ·exact h
     ·exfalso
      have:(cn p n).2.2=6:=by unfold cn;rw [Je h]
      omega
    have hf1:=hf.2.1
    have hf2:=hf.2.2
    repeat apply aj;rfl
    refine aL rfl rfl rfl (by kernel_rfl) (JG (qn hb1 hp (n:=n) (a:=0) (s:=0) (by omega) (by omega) (by omega)) ?_)
    rintro⟨_,H2,n2⟩ ⟨rfl,q2,q3,q4⟩
    dsimp only at q2 q3 q4 ⊢
    have hp1:(bK p n 0 0).length=1024:=by rw [fw (by omega)];exact hp
    have hsl:ae (bK p n 0 0)=ae p:=by
     unfold bK
     rw [show ae (cm (cm p (18+4*n) 0) (18+4*n+2) 0)=gB (cm (cm p (18+4*n) 0) (18+4*n+2) 0) 14 from rfl,cO (by rw [bE (by omega)];omega) (by omega),cO (by omega) (by omega)]
    have k2: ∀ m,m<nx→H2.at' m=H.at' m:=fun m hm=>(q4 m (by omega) (by omega)).trans (ho1 m hm)
    have hz2:H2.at' (nx+1)=some (pgO zeroP):=(q4 _ (by omega) (by omega)).trans hz1
    have hb0: ∀ {vo:VO},(H2.set n2 vo).at' nx=some (pgO (bK p n 0 0)):=fun {vo}=>(aa _ _ (by omega)).trans q2
    generalize bK p n 0 0=p1 at hv q2 hp1 hsl hb0 ⊢
    repeat first|apply aj;rfl|apply bY;rfl;kernel_rfl;exact l5|apply bY;rfl;kernel_rfl;exact iK hb0 hp1
    refine bv (α:=Nat) (fun m=> [(2,.ptr nx 0),(4,.ptr (nx+1) 0),(9,DX n2),(10,.sc (.int .i64 (m:Int)))])
     (fun m H3 n3=>n3=n2+1∧m≤ae p1∧de p1 m=de p1 (ae p1)∧H3=H2.set n2 (Bm nx)) (fun m=>m) (ae p1)
     ⟨rfl,HS _,rfl,rfl⟩ (JN (JQ rfl)) ?_
    rintro m H3 n3 ⟨rfl,h3,h4,rfl⟩ ih
    repeat apply aj;rfl
    refine ej rfl rfl rfl rfl (fun h5=>?_) (fun h5=>?_)
    ·obtain⟨k,rfl⟩: ∃ k,m=k+1:=⟨m-1,by omega⟩
     repeat first|apply aj;rfl|apply aK;rfl;omega;omega
     rw [show(((k+1:Nat)):Int)-1=(k:Int) by omega]
     refine jm rfl rfl rfl rfl (by kernel_rfl) (JG (nR (ah _ _ _) hb0 hp1 (n:=k) (by omega)) ?_)
     rintro _ rfl
     dsimp only
     repeat apply aj;rfl
     refine lD rfl rfl rfl rfl (fun e1=>?_) (fun e1=>?_)
     ·have hM:de p1 (ae p1)=k+1:=by rw [← h4];show(if ar p1 k=0 then de p1 k else k+1)=_;rw [Jd (by omega)]
      have hcut:oQ p1=cm p1 14 (k+1):=by unfold oQ;rw [hM,Jd (by omega)]
      repeat apply aj;rfl
      refine aL rfl rfl rfl (by kernel_rfl) (JG (pd hb0 hp1 (o:=14) (n:=k+1) (by decide) (by omega)) ?_)
      rintro⟨_,H4,n4⟩ ⟨rfl,r2,r3,r4⟩
      dsimp only at r2 r3 r4 ⊢
      have hz4:H4.at' (nx+1)=some (pgO zeroP):=(r4 _ (by omega) (by omega)).trans ((aa _ _ (by omega)).trans hz2)
      have hp4:(cm p1 14 (k+1)).length=1024:=by rw [bE (by omega)];exact hp1
      have k4: ∀ m,m<nx→H4.at' m=H.at' m:=fun m hm=>(r4 m (by omega) (by omega)).trans ((aa _ _ (by omega)).trans (k2 m hm))
      generalize cm p1 14 (k+1)=pL at hcut r2 hp4
      repeat apply aj;rfl
      refine cF rfl rfl rfl rfl (fun hq=>absurd hq (by omega)) (fun _=>?_)
      repeat first|apply bq hp4;rfl;assumption|apply bC hp4 ai;rfl;assumption|apply aj;rfl
      ((apply bn Tryz.func99 (congrArg Array.toList Tryz.results99));(focus((apply JJ rfl (JL (F.ag _ rfl) (by repeat(exact ac)) (bm hp4)));(repeat(first|exact JI|apply JK rfl)))))
      exact⟨by rw [hv,hcut];rfl,by dsimp only;omega,fun m hm=>(aa _ _ (by omega)).trans (k4 m hm)⟩
     ·have hk:de p1 k=de p1 (ae p1):=by rw [← h4];show _=(if ar p1 k=0 then de p1 k else k+1);rw [Je (by omega)]
      repeat first|apply aj;rfl|apply aK;rfl;omega;omega
      rw [show(((k+1:Nat)):Int)-1=(k:Int) by omega]
      exact ih _ _ _ k ⟨rfl,by omega,hk,rfl⟩ (by omega) (JN (JQ rfl))
    ·obtain rfl:m=0:=by omega
     have hM:de p1 (ae p1)=0:=h4.symm
     have hcut:oQ p1=cm (cm p1 14 0) 16 1024:=by unfold oQ;rw [hM,Je rfl]
     repeat apply aj;rfl
     refine aL rfl rfl rfl (by kernel_rfl) (JG (pd hb0 hp1 (o:=14) (n:=0) (by decide) (by omega)) ?_)
     rintro⟨_,H4,n4⟩ ⟨rfl,r2,r3,r4⟩
     dsimp only at r2 r3 r4 ⊢
     have hz4:H4.at' (nx+1)=some (pgO zeroP):=(r4 _ (by omega) (by omega)).trans ((aa _ _ (by omega)).trans hz2)
     have hp4:(cm p1 14 0).length=1024:=by rw [bE (by omega)];exact hp1
     have k4: ∀ m,m<nx→H4.at' m=H.at' m:=fun m hm=>(r4 m (by omega) (by omega)).trans ((aa _ _ (by omega)).trans (k2 m hm))
     repeat apply aj;rfl
     refine cF rfl rfl rfl rfl (fun _=>?_) (fun hq=>absurd rfl hq)
     repeat apply aj;rfl
     refine aL rfl rfl rfl (by kernel_rfl) (JG (pd r2 hp4 (o:=16) (n:=1024) (by decide) (by decide)) ?_)
     rintro⟨_,H5,n5⟩ ⟨rfl,u2,u3,u4⟩
     dsimp only at u2 u3 u4 ⊢
     have hz5:H5.at' (nx+1)=some (pgO zeroP):=(u4 _ (by omega) (by omega)).trans hz4
     have hp5:(cm (cm p1 14 0) 16 1024).length=1024:=by rw [bE (by omega)];exact hp4
     have k5: ∀ m,m<nx→H5.at' m=H.at' m:=fun m hm=>(u4 m (by omega) (by omega)).trans (k4 m hm)
     generalize cm (cm p1 14 0) 16 1024=pL at hcut u2 hp5
     repeat first|apply bq hp5;rfl;assumption|apply bC hp5 ai;rfl;assumption|apply aj;rfl
     ((apply bn Tryz.func99 (congrArg Array.toList Tryz.results99));(focus((apply JJ rfl (JL (F.ag _ rfl) (by repeat(exact ac)) (bm hp5)));(repeat(first|exact JI|apply JK rfl)))))
     exact⟨by rw [hv,hcut];rfl,by dsimp only;omega,fun m hm=>(aa _ _ (by omega)).trans (k5 m hm)⟩
theorem G6(hp:p.length=1024):Fnc Tryz.prog 99 [.agg (pgS p),.sc (.int .i64 (n:Int))] H nx (fun q=>q=(pgE (gy p n),H,nx)):=Fnc.bu (gL _) (G7 hp)
theorem nY(p:List UInt8): ∀ m,de p m≤m∧(∀ j,de p m≤j→j<m→ar p j=0)∧(0<de p m→ar p (de p m-1)≠0)
 | 0=>⟨HS _,fun j _ h=>absurd h (Nat.not_lt_zero _),fun h=>absurd h (Nat.lt_irrefl _)⟩
 | m+1=>by
   unfold de
   split
   ·rename_i h
    obtain⟨h1,h2,h3⟩:=nY p m
    refine⟨by omega,fun j h4 h5=>?_,h3⟩
    rcases Jg j m with h6|h6
    ·exact h2 j h4 h6
    ·obtain rfl:j=m:=by omega
     exact h
   ·rename_i h
    exact⟨HS _,fun j h4 h5=>absurd h5 (by omega),fun _=>h⟩
abbrev lf(p:List UInt8)(n:Nat):List UInt8:=oQ (bK p n 0 0)
end
structure Dps (p:List UInt8) (S:List Nat) (q:List UInt8):Prop where
 ok:Okp q
 slots:ae q≤ae p
 gone: ∀ j,ae q≤j→j<ae p→j∈S∨ar p j=0
 ptr0: ∀ j,j<ae p→j∈S→ay q j=0∧ar q j=0
 ptr: ∀ j,j<ae p→j∉S→ay q j=ay p j∧ar q j=ar p j
 begins:aE q=if ae q=0 then 1024 else aE p
 get: ∀ i,i<14∨18+4*ae p≤i→q[i]? =p[i]?
section
variable {n:Nat}{S S':List Nat}{p q:List UInt8}
theorem y6{o:Nat}(hp:o+2≤p.length)(hq:o+2≤q.length)(h:gB p o=gB q o):p[o]? =q[o]? ∧p[o+1]? =q[o+1]? :=by
 have e: ∀ {r:List UInt8} (hr:o+2≤r.length),gB r o=256*(r[o]'(by omega)).toNat+(r[o+1]'(by omega)).toNat:=fun {r} hr=>by
  have hd:(r.drop o).take 2= [r[o]'(by omega),r[o+1]'(by omega)]:=by
   rw [List.drop_eq_getElem_cons (by omega:o<r.length),List.drop_eq_getElem_cons (by omega:o+1<r.length)]
   rfl
  unfold gB
  rw [hd]
  simp [beN]
 rw [e hp,e hq] at h
 have h1:=(p[o+1]'(by omega)).toNat_lt
 have h2:=(q[o+1]'(by omega)).toNat_lt
 rw [Hx (by omega),Hx (by omega),Hx (by omega),Hx (by omega)]
 exact⟨congrArg some (UInt8.toNat_inj.1 (by omega)),congrArg some (UInt8.toNat_inj.1 (by omega))⟩
theorem oP(h:Okp p)(hn:n<ae p)(hs:ar p n≠0):Dps p [n] (lf p n):=by
 show Dps p [n] (oQ (bK p n 0 0))
 have hp:=h.len
 have hh:=h.head
 have ht:=h.top
 have hxl:(bK p n 0 0).length=1024:=(fw (by omega)).trans hp
 have hxs:ae (bK p n 0 0)=ae p:=cT (by omega) (by omega)
 have hxb:aE (bK p n 0 0)=aE p:=cT (by omega) (by omega)
 have hf0:ay (bK p n 0 0) n=0:=ki (by omega) (by decide)
 have hz0:ar (bK p n 0 0) n=0:=mD (by omega) (by decide)
 have hfo: ∀ j,j≠n→ay (bK p n 0 0) j=ay p j:=fun j hj=>cT (by omega) (by omega)
 have hzo: ∀ j,j≠n→ar (bK p n 0 0) j=ar p j:=fun j hj=>cT (by omega) (by omega)
 have hge: ∀ i,i<14∨18+4*ae p≤i→(bK p n 0 0)[i]? =p[i]? :=fun i hi=>jz (by omega) (by omega)
 generalize bK p n 0 0=x at hxl hxs hxb hf0 hz0 hfo hzo hge ⊢
 obtain⟨t1,t2,t3⟩:=nY x (ae x)
 rw [hxs] at t1 t2
 have hcut:oQ x=if de x (ae x)=0 then cm (cm x 14 (de x (ae x))) 16 1024 else cm x 14 (de x (ae x)):=rfl
 rw [hxs] at hcut t3
 generalize de x (ae p)=m at t1 t2 t3 hcut
 have hl1:(cm x 14 m).length=1024:=(bE (by omega)).trans hxl
 have hql:(oQ x).length=1024:=by rw [hcut];split;exact(bE (by omega)).trans hl1;exact hl1
 have hqn: ∀ o,18≤o→gB (oQ x) o=gB x o:=fun o ho=>by
  rw [hcut]
  split
  ·exact(cO (by omega) (by omega)).trans (cO (by omega) (by omega))
  ·exact cO (by omega) (by omega)
 have hqs:ae (oQ x)=m:=by
  rw [hcut]
  split
  ·exact(cO (by omega) (by omega)).trans (eN (by omega) (by omega))
  ·exact eN (by omega) (by omega)
 have hqb:aE (oQ x)=if m=0 then 1024 else aE p:=by
  rw [hcut]
  split
  ·exact eN (by omega) (by decide)
  ·exact(cO (by omega) (by omega)).trans hxb
 have hqg: ∀ i,i<14∨18≤i→(oQ x)[i]? =x[i]? :=fun i hi=>by
  rw [hcut]
  split
  ·exact(fC (by omega) (by omega)).trans (fC (by omega) (by omega))
  ·exact fC (by omega) (by omega)
 generalize oQ x=q at hql hqn hqs hqb hqg
 have hfq: ∀ j,ay q j=ay x j:=fun j=>hqn _ (by omega)
 have hzq: ∀ j,ar q j=ar x j:=fun j=>hqn _ (by omega)
 refine⟨⟨hql,?_,?_,fun hpos=>?_,fun j hj=>?_,fun i j hij hj hzi hzj=>?_⟩,by omega,fun j h1 h2=>?_,fun j h1 h2=>?_,fun j h1 h2=>?_,by rw [hqs];exact hqb,fun i hi=>(hqg i (by omega)).trans (hge i hi)⟩
 ·rw [hqs,hqb];split <;> omega
 ·rw [hqb];split <;> omega
 ·rw [hqs] at hpos ⊢
  rw [hzq]
  exact t3 hpos
 ·rw [hqs] at hj
  rw [hfq,hzq,hqb,Jd (by omega)]
  by_cases hjn:j=n
  ·subst hjn
   exact .inl ⟨hf0,hz0⟩
  ·rw [hfo j hjn,hzo j hjn]
   exact h.slot j (by omega)
 ·rw [hqs] at hj
  rw [hzq] at hzi hzj
  have hi:i≠n:=fun e=>by subst e;exact hzi hz0
  have hj2:j≠n:=fun e=>by subst e;exact hzj hz0
  rw [hzo _ hi] at hzi
  rw [hzo _ hj2] at hzj
  rw [hfq,hzq,hfq,hzq,hfo _ hi,hzo _ hi,hfo _ hj2,hzo _ hj2]
  exact h.apart i j hij (by omega) hzi hzj
 ·rw [hqs] at h1
  by_cases hjn:j=n
  ·exact .inl (by rw [hjn];exact Jj.2 rfl)
  ·have:=t2 j h1 h2
   rw [hzo j hjn] at this
   exact .inr this
 ·obtain rfl:=Jj.1 h2
  exact⟨(hfq _).trans hf0,(hzq _).trans hz0⟩
 ·have hjn:j≠n:=fun e=>h2 (by rw [e];exact Jj.2 rfl)
  exact⟨(hfq _).trans (hfo j hjn),(hzq _).trans (hzo j hjn)⟩
theorem Dps.there(h:Dps p S q)(hn:n<ae p)(hs:ar p n≠0)(hS:n∉S):n<ae q∧ar q n≠0:=by
 refine⟨?_,by rw [(h.ptr n hn hS).2];exact hs⟩
 rcases Jg n (ae q)with h1|h1
 ·exact h1
 ·rcases h.gone n h1 hn with h2|h2
  ·exact absurd h2 hS
  ·exact absurd h2 hs
theorem Dps.more(h:Dps p S q)(hn:n<ae p)(hs:ar p n≠0)(hS:n∉S):Dps p (n :: S) (lf q n):=by
 obtain⟨h1,h2⟩:=h.there hn hs hS
 have g:=oP h.ok h1 h2
 generalize lf q n=r at g
 have hsl:=h.slots
 have hgs:=g.slots
 have ho: ∀ j,j<ae p→j≠n→ay r j=ay q j∧ar r j=ar q j:=fun j hj hjn=>by
  rcases Jg j (ae q)with h3|h3
  ·exact g.ptr j h3 fun hm=>hjn (Jj.1 hm)
  ·exact⟨jE fun i h4 h5=>g.get i (by omega),jE fun i h4 h5=>g.get i (by omega)⟩
 refine⟨g.ok,by omega,fun j h3 h4=>?_,fun j h3 h4=>?_,fun j h3 h4=>?_,?_,fun i hi=>(g.get i (by omega)).trans (h.get i hi)⟩
 ·by_cases hjn:j=n
  ·exact .inl (by rw [hjn];exact Jl)
  ·by_cases hjS:j∈S
   ·exact .inl (Jm _ hjS)
   ·refine .inr ?_
    rw [← (h.ptr j h4 hjS).2]
    rcases Jg j (ae q)with h5|h5
    ·rcases g.gone j h3 h5 with h6|h6
     ·exact absurd (Jj.1 h6) hjn
     ·exact h6
    ·rcases h.gone j h5 h4 with h6|h6
     ·exact absurd h6 hjS
     ·rw [(h.ptr j h4 hjS).2];exact h6
 ·by_cases hjn:j=n
  ·subst hjn
   exact g.ptr0 j h1 (Jj.2 rfl)
  ·rcases Js.1 h4 with h5|h5
   ·exact absurd h5 hjn
   ·have h6:=ho j h3 hjn
    have h7:=h.ptr0 j h3 h5
    exact⟨h6.1.trans h7.1,h6.2.trans h7.2⟩
 ·have hjn:j≠n:=fun e=>h4 (by rw [e];exact Jl)
  have h6:=ho j h3 hjn
  have h7:=h.ptr j h3 fun hm=>h4 (Jm _ hm)
  exact⟨h6.1.trans h7.1,h6.2.trans h7.2⟩
 ·have hb:=h.begins
  rw [Jd (by omega)] at hb
  rw [g.begins,hb]
theorem Dps.uniq{q':List UInt8}(hp:Okp p)(h:Dps p S q)(h':Dps p S' q')(hS: ∀ j,j∈S↔j∈S'):q=q':=by
 have hh:=hp.head
 have ht:=hp.top
 have lt: ∀ {q q':List UInt8} {S S':List Nat},Dps p S q→Dps p S' q'→(∀ j,j∈S↔j∈S')→ ¬ ae q<ae q':=fun {q q' S S'} h h' hS hlt=>by
  have h1:=h'.ok.last (by omega)
  have h2:=h'.slots
  rcases h.gone (ae q'-1) (by omega) (by omega)with h3|h3
  ·exact h1 (h'.ptr0 _ (by omega) ((hS _).1 h3)).2
  ·by_cases h4:ae q'-1∈S'
   ·exact h1 (h'.ptr0 _ (by omega) h4).2
   ·exact h1 ((h'.ptr _ (by omega) h4).2.trans h3)
 have hsl:ae q=ae q':=by
  have h1:=lt h h' hS
  have h2:=lt h' h fun j=>(hS j).symm
  omega
 have hb:aE q=aE q':=by rw [h.begins,h'.begins,hsl]
 have hpt: ∀ j,j<ae p→ay q j=ay q' j∧ar q j=ar q' j:=fun j hj=>by
  by_cases hjS:j∈S
  ·have h1:=h.ptr0 j hj hjS
   have h2:=h'.ptr0 j hj ((hS j).1 hjS)
   exact⟨h1.1.trans h2.1.symm,h1.2.trans h2.2.symm⟩
  ·have h1:=h.ptr j hj hjS
   have h2:=h'.ptr j hj fun hm=>hjS ((hS j).2 hm)
   exact⟨h1.1.trans h2.1.symm,h1.2.trans h2.2.symm⟩
 have hl:=h.ok.len
 have hl':=h'.ok.len
 have two: ∀ o i,o+2≤1024→gB q o=gB q' o→i=o∨i=o+1→q[i]? =q'[i]? :=fun o i ho hn hi=>by
  have:=y6 (by omega) (by omega) hn
  rcases hi with rfl|rfl
  ·exact this.1
  ·exact this.2
 refine Jy fun i=>?_
 by_cases h1:i<14∨18+4*ae p≤i
 ·rw [h.get i h1,h'.get i h1]
 ·by_cases h2:i<16
  ·exact two 14 i (by decide) hsl (by omega)
  ·by_cases h3:i<18
   ·exact two 16 i (by decide) hb (by omega)
   ·have hj:=hpt ((i-18) / 4) (by omega)
    by_cases h4:(i-18) % 4<2
    ·exact two (18+4*((i-18) / 4)) i (by omega) hj.1 (by omega)
    ·exact two (18+4*((i-18) / 4)+2) i (by omega) hj.2 (by omega)
def df(p:List UInt8)(S:List Nat):List UInt8:=S.foldl lf p
theorem dels{p:List UInt8}: ∀ (S A:List Nat) (q:List UInt8),Dps p A q→S.Nodup→(∀ n,n∈S→n∉A∧n<ae p∧ar p n≠0)→ ∃ B,(∀ j,j∈B↔j∈A∨j∈S)∧Dps p B (S.foldl lf q)
 | [],A,q,h,_,_=>⟨A,fun j=>by simp,h⟩
 | n :: S,A,q,h,hnd,hS=>by
   obtain⟨h1,h2,h3⟩:=hS n Jl
   rw [List.nodup_cons] at hnd
   obtain⟨B,hB,g⟩:=dels S (n :: A) (lf q n) (h.more h2 h3 h1) hnd.2 fun m hm=>by
    obtain⟨h4,h5⟩:=hS m (Jm _ hm)
    refine⟨fun h6=>?_,h5⟩
    rcases Js.1 h6 with rfl|h6
    ·exact hnd.1 hm
    ·exact h4 h6
   refine⟨B,fun j=>?_,g⟩
   rw [hB,Js,Js]
   constructor
   ·rintro((h|h)|h)
    ·exact .inr (.inl h)
    ·exact .inl h
    ·exact .inr (.inr h)
   ·rintro(h|(h|h))
    ·exact .inl (.inr h)
    ·exact .inl (.inl h)
    ·exact .inr h
def Has(p:List UInt8)(S:List Nat):Prop:=S.Nodup∧ ∀ n,n∈S→n<ae p∧ar p n≠0
theorem mM(h:Okp p)(h0:S≠ [])(hS:Has p S): ∃ B,(∀ j,j∈B↔j∈S)∧Dps p B (df p S):=by
 cases S with
 | nil=>exact absurd rfl h0
 | cons n S=>
   obtain⟨h1,h2⟩:=hS
   rw [List.nodup_cons] at h1
   have h3:=h2 n Jl
   obtain⟨B,hB,g⟩:=dels S [n] (lf p n) (oP h h3.1 h3.2) h1.2 fun m hm=>⟨fun h6=>h1.1 (by rw [← Jj.1 h6];exact hm),h2 m (Jm _ hm)⟩
   refine⟨B,fun j=>?_,g⟩
   rw [hB,Jj,Js]
theorem md(h:Okp p)(hS:Has p S):Okp (df p S):=by
 by_cases h0:S= []
 ·subst h0;exact h
 ·obtain⟨B,_,g⟩:=mM h h0 hS
  exact g.ok
theorem ul(h:Okp p)(hS:Has p S)(hp:S.Perm S'):df p S=df p S':=by
 by_cases h0:S= []
 ·subst h0
  rw [← hp.nil_eq]
 ·have hS':Has p S':=⟨hp.nodup_iff.1 hS.1,fun n hn=>hS.2 n (hp.mem_iff.2 hn)⟩
  have h0':S'≠ []:=fun e=>by subst e;exact h0 hp.eq_nil
  obtain⟨B,hB,g⟩:=mM h h0 hS
  obtain⟨B',hB',g'⟩:=mM h h0' hS'
  exact g.uniq h g' fun j=>by rw [hB,hB',hp.mem_iff]
theorem Has.there(h:Okp p){A:List Nat}{B:List Nat}(hS:Has p (A ++ n :: B)):n<ae (df p A)∧ar (df p A) n≠0∧Okp (df p A):=by
 obtain⟨h1,h2⟩:=hS
 rw [List.nodup_append] at h1
 obtain⟨h3,h4,h5⟩:=h1
 have hA:Has p A:=⟨h3,fun m hm=>h2 m (List.mem_append_left _ hm)⟩
 have hn:=h2 n (List.mem_append_right _ Jl)
 have hok:=md h hA
 by_cases h0:A= []
 ·subst h0;exact⟨hn.1,hn.2,hok⟩
 ·obtain⟨C,hC,g⟩:=mM h h0 hA
  obtain⟨h6,h7⟩:=g.there hn.1 hn.2 fun h8=>h5 n ((hC n).1 h8) n Jl rfl
  exact⟨h6,h7,hok⟩
def rd(p:List UInt8)(S:List Nat):List UInt8:=ln (df p S)
theorem zN(h:Okp p)(hS:Has p S)(hp:S.Perm S'):rd p S=rd p S':=by
 unfold rd
 rw [ul h hS hp]
theorem zX: ∀ (size n m:Nat),beB (n*256 ^ size+m) size=beB m size
 | 0,n,m=>rfl
 | size+1,n,m=>by
   rw [kD,kD]
   congr 1
   ·apply UInt8.toNat_inj.1
    rw [UInt8.toNat_ofNat',UInt8.toNat_ofNat']
    have h0:0<256 ^ size:=Nat.pow_pos (by decide)
    rw [show n*256 ^ (size+1)+m=m+256 ^ size*(n*256) by rw [Nat.pow_succ,Nat.add_comm,Nat.mul_comm (256 ^ size) 256,←Nat.mul_assoc,Nat.mul_comm (n*256)],Nat.add_mul_div_left _ _ h0]
    show(m / 256 ^ size+n*256) % 256=m / 256 ^ size % 256
    omega
   ·rw [show n*256 ^ (size+1)+m=(n*256)*256 ^ size+m by rw [Nat.pow_succ,Nat.mul_comm (256 ^ size) 256,←Nat.mul_assoc]]
    exact zX size (n*256) m
theorem zY: ∀ l:List UInt8,beB (beN l) l.length=l
 | []=>rfl
 | c :: l=>by
   have h0:0<256 ^ l.length:=Nat.pow_pos (by decide)
   have h1:=ml l
   rw [HV,kD,wj]
   congr 1
   ·rw [show c.toNat*256 ^ l.length+beN l=beN l+256 ^ l.length*c.toNat by rw [Nat.add_comm,Nat.mul_comm],Nat.add_mul_div_left _ _ h0,Nat.div_eq_of_lt h1,Jf]
    exact UInt8.ofNat_toNat
   ·exact(zX _ _ _).trans (zY l)
theorem wk{l:List UInt8}(h:l.length=n):beB (beN l) n=l:=by rw [← h];exact zY l
theorem Cd{l:List UInt8}{v:fY}(h:ofV l=some v):l=aR v:=by
 rw [of_eq] at h
 unfold ofR at h
 split at h
 ·cases h
 ·rename_i h1
  split at h
  ·cases h
  ·rename_i h2
   split at h
   ·rename_i h3
    obtain⟨h3,h4⟩:=h3
    have h:=(Option.some.inj h).symm
    subst h
    generalize hk:beN ((l.drop 16).take 2)=k at h2 h4
    have hver:nl l=((l.drop 18).take k,l.drop (20+k),beN (l.take 8),beN ((l.drop 8).take 8)):=by rw [← hk];rfl
    rw [hver]
    unfold aR iZ
    simp only
    have e1:(l.take 8).length=8:=by rw [Jh];omega
    have e2:((l.drop 8).take 8).length=8:=by rw [Jh,Jk];omega
    have e3:((l.drop 18).take k).length=k:=by rw [Jh,Jk];omega
    have e4:((l.drop 16).take 2).length=2:=by rw [Jh,Jk];omega
    have e5:((l.drop (18+k)).take 2).length=2:=by rw [Jh,Jk];omega
    rw [e3,←h4,wk e1,wk e2,wk e5,←hk,wk e4,hk]
    have c: ∀ a b:Nat,(l.drop a).take b ++ l.drop (a+b)=l.drop a:=fun a b=>by
     rw [← List.drop_drop]
     exact List.take_append_drop _ _
    have c1:=c 8 8
    have c2:=c 16 2
    have c3:=c 18 k
    have c4:=c (18+k) 2
    rw [show 18+k+2=20+k by omega] at c4
    rw [Jo,c4,c3,c2,c1,List.take_append_drop]
   ·cases h
end
structure GoodQ (p:List UInt8):Prop where
 ok:Okp p
 kind:kP p=4
 bare: ∀ i,i<12→p[i]? =some 0
 items: ∀ j,j<ae p→ar p j≠0→(ofV (aS p j)).isSome=true
section
variable {it p:List UInt8}
theorem GoodQ.right(h:GoodQ p):bl p=true:=(bw h.ok.len).2 h.ok
theorem mU(hp:p.length=1024)(h: ∀ i,i<12→p[i]? =some 0):bareP p=p:=by
 refine Jy fun i=>?_
 unfold bareP
 by_cases h1:i<12
 ·rw [HP (by rw [Jq];exact h1),List.getElem?_replicate,Je h1,h i h1]
 ·rw [Jn (by rw [Jq];omega),Jq,List.getElem?_drop,show 12+(i-12)=i by omega]
theorem GoodQ.bareP(h:GoodQ p):bareP p=p:=mU h.ok.len h.bare
theorem zo{q:List UInt8}(h:q[12]? =p[12]?):kP q=kP p:=by
 unfold kP
 rw [HN,HN,h]
theorem GoodQ.read(h:GoodQ p):aX p=(p,0):=by
 have hu:gU p=false:=by
  unfold gU
  rw [h.bareP]
  refine Jx fun e=>?_
  have hk:=h.kind
  rw [e] at hk
  exact absurd hk (by decide)
 unfold aX
 rw [Jd (by rw [hu];decide),Jd (fun g=>by
  rcases g with g|g
  ·rw [h.right] at g;cases g
  ·exact g h.kind),Jd]
 intro g
 unfold xg at g
 obtain⟨j,hj,g2⟩:=List.any_eq_true.1 g
 rw [HR] at g2
 have h1:=h.items j (Jz.1 hj) (Jp g2.1)
 cases ho:ofV (aS p j)with
 | none=>rw [ho] at h1;cases h1
 | some v=>rw [ho] at g2;cases g2.2
theorem Gq{o n:Nat}(h:o+2≤p.length){i:Nat}(hi:i<o∨o+2≤i):(cm p o n)[i]? =p[i]? :=fC h hi
theorem zB:GoodQ (fy 4):=by
 have hl:(zeroP.set 12 4).length=1024:=by rw [List.length_set,ai]
 have hg: ∀ i,i<16→(fy 4)[i]? =(zeroP.set 12 4)[i]? :=fun i hi=>Gq (by omega) (by omega)
 refine⟨okI 4,?_,fun i hi=>?_,fun j hj=>?_⟩
 ·rw [zo (p:=zeroP.set 12 4) (hg 12 (by decide))]
  rfl
 ·rw [hg i (by omega),List.getElem?_set_ne (by omega)]
  unfold zeroP
  rw [List.getElem?_replicate,Je (by omega)]
 ·have:=x7 4
  omega
def GoodP(p:List UInt8):Prop:=p=zeroP∨GoodQ p
theorem GoodP.len(h:GoodP p):p.length=1024:=by
 rcases h with rfl|h
 ·exact ai
 ·exact h.ok.len
theorem s5:bareP zeroP=zeroP:=mU ai fun i hi=>by
 unfold zeroP
 rw [List.getElem?_replicate,Je (by omega)]
theorem GoodP.bareP(h:GoodP p):bareP p=p:=by
 rcases h with rfl|h
 ·exact s5
 ·exact h.bareP
theorem readZ:aX zeroP=(fy 4,0):=by
 unfold aX
 rw [Je (by unfold gU;rw [s5];exact Jw rfl)]
theorem GoodP.read(h:GoodP p): ∃ q,aX p=(q,0)∧GoodQ q:=by
 rcases h with rfl|h
 ·exact⟨_,readZ,zB⟩
 ·exact⟨p,h.read,h⟩
theorem oD(h:GoodQ p):GoodQ (ln p):=by
 have g:=rY h.ok
 refine⟨g.ok h.ok,?_,fun i hi=>(g.low i (by omega)).trans (h.bare i hi),fun j hj hz=>?_⟩
 ·rw [zo (g.low 12 (by decide))]
  exact h.kind
 ·have hj:j<ae p:=by have:=g.slots;omega
  rw [g.sizes j hj] at hz
  rw [g.item j hj hz]
  exact h.items j hj hz
theorem w7(h:GoodQ p):GoodQ (gh p it):=by
 unfold gh
 split
 ·unfold iP
  rw [Je h.right]
  exact oD h
 ·exact h
theorem DK(h:(nf p it).2.2=0):bl p=true∧1≤it.length∧it.length≤1000∧it.length≤fI p∧nf p it=(oy p it,ba p,0):=by
 unfold nf at h ⊢
 split at h
 ·cases h
 ·rename_i hr
  rw [Jd hr]
  have hr:bl p=true:=by cases h:bl p with|true=>rfl|false=>exact absurd h hr
  split at h
  ·cases h
  ·rename_i h1
   rw [Jd h1]
   split at h
   ·cases h
   ·rename_i h2
    rw [Jd h2]
    exact⟨hr,by omega,by omega,by omega,rfl⟩
theorem Bh(h:GoodQ p)(hit:(ofV it).isSome=true)(he:(hY p it).2.2=0):GoodQ (hY p it).1:=by
 have hq:=w7 (it:=it) h
 unfold hY at he ⊢
 generalize gh p it=q at hq he ⊢
 obtain⟨h1,h2,h3,h4,h5⟩:=DK he
 rw [h5]
 dsimp only
 have g:=laid hq.ok h3 h4 h2
 obtain⟨g1,g2⟩:=g.items hq.ok
 refine⟨g.ok hq.ok h3 h4 h2,?_,fun i hi=>(g.get i (by omega)).trans (hq.bare i hi),fun j hj hz=>?_⟩
 ·rw [zo (g.get 12 (by omega))]
  exact hq.kind
 ·by_cases hje:j=ba q
  ·rw [hje,g1]
   exact hit
  ·have hj2:j<ae q:=by
    have:=g.slots
    have h6:=(gv q).2.2
    unfold jj at this
    split at this <;> omega
   rw [g.size' j hje hj2] at hz
   rw [g2 j hje hj2 hz]
   exact hq.items j hj2 hz
theorem Bg(h:GoodQ p){k:Nat}(hk:k<ae p)(hz:ar p k≠0)(hl:it.length=ar p k)(hit:(ofV it).isSome=true):GoodQ (bf p (ay p k) it):=by
 have hp:=h.ok.len
 have hh:=h.ok.head
 have ht:=h.ok.top
 have hs:=h.ok.slot k hk
 have hql:(bf p (ay p k) it).length=1024:=(bM (by omega)).trans hp
 have hn: ∀ o,o+2≤18+4*ae p→gB (bf p (ay p k) it) o=gB p o:=fun o ho=>nL (by omega) (by omega)
 have hg: ∀ i,i<ay p k∨ay p k+it.length≤i→(bf p (ay p k) it)[i]? =p[i]? :=fun i hi=>mC (by omega) hi
 have hin:((bf p (ay p k) it).drop (ay p k)).take it.length=it:=uT (by omega)
 have hqs:ae (bf p (ay p k) it)=ae p:=hn 14 (by omega)
 have hqb:aE (bf p (ay p k) it)=aE p:=hn 16 (by omega)
 generalize bf p (ay p k) it=q at hql hn hg hin hqs hqb ⊢
 have hqf: ∀ j,j<ae p→ay q j=ay p j:=fun j hj=>hn _ (by omega)
 have hqz: ∀ j,j<ae p→ar q j=ar p j:=fun j hj=>hn _ (by omega)
 refine⟨⟨hql,by omega,by omega,fun hpos=>?_,fun j hj=>?_,fun i j hij hj hzi hzj=>?_⟩,?_,fun i hi=>(hg i (by omega)).trans (h.bare i hi),fun j hj hzj=>?_⟩
 ·rw [hqs,hqz _ (by omega)]
  exact h.ok.last (by omega)
 ·rw [hqf j (by omega),hqz j (by omega),hqb]
  exact h.ok.slot j (by omega)
 ·rw [hqz i (by omega)] at hzi
  rw [hqz j (by omega)] at hzj
  rw [hqf i (by omega),hqz i (by omega),hqf j (by omega),hqz j (by omega)]
  exact h.ok.apart i j hij (by omega) hzi hzj
 ·rw [zo (hg 12 (by omega))]
  exact h.kind
 ·have hj:j<ae p:=by omega
  rw [hqz j hj] at hzj
  by_cases hjk:j=k
  ·subst hjk
   unfold aS
   rw [hqf j hj,hqz j hj,←hl,hin]
   exact hit
  ·have hj2:aS q j=aS p j:=by
    unfold aS
    rw [hqf j hj,hqz j hj]
    refine iU fun i h1 h2=>hg i ?_
    have hap:ay p j+ar p j≤ay p k∨ay p k+ar p k≤ay p j:=by
     rcases Jg j k with h3|h3
     ·exact h.ok.apart j k h3 hk hzj hz
     ·exact(h.ok.apart k j (by omega) hj hz hzj).symm
    omega
   rw [hj2]
   exact h.items j hj hzj
theorem vN(h:GoodQ p){S:List Nat}(hS:Has p S):GoodQ (rd p S):=by
 by_cases h0:S= []
 ·subst h0
  exact oD h
 ·obtain⟨B,hB,g⟩:=mM h.ok h0 hS
  unfold rd
  refine oD ⟨g.ok,?_,fun i hi=>(g.get i (by omega)).trans (h.bare i hi),fun j hj hz=>?_⟩
  ·rw [zo (g.get 12 (by omega))]
   exact h.kind
  ·have hsl:=g.slots
   have hjB:j∉B:=fun hm=>hz (g.ptr0 j (by omega) hm).2
   have hp:=g.ptr j (by omega) hjB
   have hz2:ar p j≠0:=by rw [← hp.2];exact hz
   have hj2:aS (df p S) j=aS p j:=by
    unfold aS
    rw [hp.1,hp.2]
    have h1:=h.ok.slot j (by omega)
    have h2:=h.ok.head
    exact iU fun i h3 h4=>g.get i (by omega)
   rw [hj2]
   exact h.items j (by omega) hz2
end
end Go.Proofs.YtnhmbonmlfeifaaGreat
end
