import Derived.Laws.StructEq
import Derived.Test.YtnhmbonmlfeifaaGreatO4
set_option linter.unusedVariables false
set_option linter.unusedSimpArgs false
set_option maxRecDepth 100000
set_option maxHeartbeats 0
section
namespace Go.Proofs.YtnhmbonmlfeifaaGreat
open Go Go.Sy Go.Sl Go.RowKit
section
variable {H:au}{s:SV}{v:gf}{a0 a1:Int}{b bc:Nat}{left:Int}{n nx:Nat}{puts:Int}{r slot t to:Nat}{ok:Nat→Prop}{it l mem p p' x0:List UInt8}
abbrev eE(a b:Int):VO:=ar 40 [.sc (.int .i64 a),.sc (.int .i64 b)]
abbrev bsO(s:SV):VO:=ar 35 [s]
theorem Hu(hbc:H.at' bc=some (bsO s))(hs:BsIs H s (byV it))(hp:p.length=1024)(ht:H.at' t=some (eE a0 a1))(hto:H.at' to=some (pgO x0))(hx0:x0.length=1024)(hne:t≠to)(hit:it.length≤1000)
 (hroom:it.length≤cv p) (hins:iU p it=(p',slot,0)) (hp':p'.length=1024):Fnc Tryz.prog 33 [.sc (.int .i64 (n:Int)),.agg (pgS p),.ptr bc 0,.ptr t 0,.ptr to 0] H nx
 (fun q=>q.1 = .tup [.sc (.bool true),.sc (.int .i64 0)]∧q.2.1.at' t=some (eE n slot)∧q.2.1.at' to=some (pgO p')∧nx≤q.2.2∧ ∀ m,m<nx→m≠t→m≠to→q.2.1.at' m=H.at' m):=by
 refine Ka Tryz.func33 rfl rfl ?_
 refine aX fun hund=>?_
 have l1:=hund _ _ hbc
 have l2:=hund _ _ ht
 have l3:=hund _ _ hto
 have hs1:BsIs (H.set nx (pgO p)) s (byV it):=hs.frame fun b vo hb=>(aa _ _ (by have:=hund b vo hb;omega)).trans hb
 have hbc1:(H.set nx (pgO p)).at' bc=some (bsO s):=by repeat(first|assumption|refine ab (by omega) ?_)
 have ht1:(H.set nx (pgO p)).at' t=some (eE a0 a1):=by repeat(first|assumption|refine ab (by omega) ?_)
 have hto1:(H.set nx (pgO p)).at' to=some (pgO x0):=by repeat(first|assumption|refine ab (by omega) ?_)
 have hb1:(H.set nx (pgO p)).at' nx=some (pgO p):=aj _ _ _
 have ho1: ∀ m,m<nx→(H.set nx (pgO p)).at' m=H.at' m:=fun m hm=>by(repeat(refine ab (by omega) ?_));rfl
 repeat apply ai;rfl
 generalize H.set nx (pgO p)=H1 at hs1 hbc1 ht1 hto1 hb1 ho1 ⊢
 have hbl:=bK it
 (apply bh;(focus(kernel_rfl));(focus(kernel_rfl)))
 repeat first|refine b8 rfl rfl rfl (F.ag _ rfl) hb1 (be hp) ?_|apply bT;rfl;rfl;rfl;(focus(kernel_rfl));exact(wG hp)|refine bj (am (F.ag _ rfl) rfl hbc1 (aB rfl)) rfl rfl rfl ?_|apply bS;rfl;rfl;exact(fun _ h=>by cases h);exact(fB (F.un _ rfl) rfl hs1)|refine cK rfl rfl rfl rfl (fun hq=>absurd hq (by omega)) (fun _=>?_)
 refine aA ⟨by kernel_rfl,?_,?_⟩;(focus(repeat(first|exact Kk|apply jU;rfl|refine fX 0 rfl (by kernel_rfl) (by(repeat(refine⟨(by first|exact am (F.ag _ rfl) rfl (by assumption) (aB rfl)|exact ba (F.ag _ rfl) rfl hb1 (bk hp)|exact fB (F.un _ rfl) rfl hs1),?_⟩));exact Kk) ?_|apply lJ;kernel_rfl)))
 have hi1:=nV (nx:=nx+1) hp hs1 (by omega)
 rw [hins] at hi1
 repeat first|apply bu hp;rfl;assumption|apply bA hp' ah;rfl;(focus((repeat(exact ae));done))|refine a9 rfl rfl ci ?_|apply ai;rfl|apply aG;rfl;assumption;rfl|apply bY;rfl;kernel_rfl;exact hi1|apply dM;rfl;rfl
 have hb2:((H1.set (nx+1) (pgO zeroP)).set (nx+1) (pgO p')).at' (nx+1)=some (pgO p'):=aj _ _ _
 have ht2:((H1.set (nx+1) (pgO zeroP)).set (nx+1) (pgO p')).at' t=some (eE a0 a1):=by repeat(first|assumption|refine ab (by omega) ?_)
 have hto2:((H1.set (nx+1) (pgO zeroP)).set (nx+1) (pgO p')).at' to=some (pgO x0):=by repeat(first|assumption|refine ab (by omega) ?_)
 have ho2: ∀ m,m<nx→((H1.set (nx+1) (pgO zeroP)).set (nx+1) (pgO p')).at' m=H.at' m:=fun m hm=>(aa _ _ (by omega)).trans ((aa _ _ (by omega)).trans (ho1 m hm))
 generalize (H1.set (nx+1) (pgO zeroP)).set (nx+1) (pgO p')=H2 at hb2 ht2 hto2 ho2 ⊢
 (apply bh;(focus(kernel_rfl));(focus(kernel_rfl)))
 repeat first|refine b8 rfl rfl rfl (F.ag _ rfl) hb2 (be hp') ?_|refine bX rfl rfl rfl (F.sz _ rfl) ht2 rfl (by exact Jh rfl) rfl rfl ?_|apply bX;rfl;rfl;rfl;exact(F.sz _ rfl);exact((aa _ _ (Ne.symm hne)).trans hto2);exact(be hp');(focus(rw [be hx0];exact Jv _));exact(iE _);exact(lc _ _ hx0 hp')|apply aS;rfl
 refine aA ⟨by kernel_rfl,?_,?_⟩;(focus(repeat(first|exact Kk|apply jU;rfl|apply gi;rfl;kernel_rfl|refine fX 0 rfl (by kernel_rfl) (by(repeat(refine⟨(by(exact ba (F.ag _ rfl) rfl (by repeat(first|assumption|refine ab (by omega) ?_)) (bk hp'))),?_⟩));exact Kk) ?_)))
 repeat apply ai;rfl
 (apply bP Tryz.func33 Tryz.results33;rfl)
 refine⟨rfl,(aa _ _ hne).trans (aj _ _ _),aj _ _ _,by dsimp only;omega,fun m h1 h2 h3=>(aa _ _ h3).trans ((aa _ _ h2).trans (ho2 m h1))⟩
abbrev insF(bc t to:Nat):SV:= .fn (.func 33) [] [.ptr bc 0,.ptr t 0,.ptr to 0]
theorem BO(hb:H.at' b=some (cT mem left puts))(hm:mem.length=131072)(hbc:H.at' bc=some (bsO s))(hs:BsIs H s (byV it))(hp:p.length=1024)(ht:H.at' t=some (eE a0 a1))(hto:H.at' to=some (pgO x0))(hx0:x0.length=1024)(hne:t≠to)(hit:it.length≤1000)
 (hread:aU (az mem 32)=(p,0)) (hroom:it.length≤cv p) (hins:iU p it=(p',slot,0)) (hp':p'.length=1024):Fnc Tryz.prog 26 [tM b,insF bc t to] H nx
 (fun q=>q.1 = .sc (.int .i64 0)∧q.2.1.at' t=some (eE 32 slot)∧q.2.1.at' to=some (pgO p')∧nx≤q.2.2∧ ∀ m,m<nx→m≠t→m≠to→q.2.1.at' m=H.at' m):=by
 refine Ka Tryz.func26 rfl rfl ?_
 refine aX fun hund=>?_
 have l1:=hund _ _ hbc
 have l2:=hund _ _ ht
 have l3:=hund _ _ hto
 have hrd:=sd (nx:=nx) (n:=32) hb hm (by decide)
 rw [hread] at hrd
 repeat apply ai;rfl
 refine nK ?_
 repeat first|apply bA hp ah;rfl;(focus((repeat(exact ae));done))|refine a9 rfl rfl ci ?_|apply ai;rfl|apply px;rfl;decide|apply bY;rfl;kernel_rfl;exact hrd|apply dM;rfl;rfl
 have h0: ∀ m,m<nx→((H.set nx (pgO zeroP)).set nx (pgO p)).at' m=H.at' m:=fun m hm=>(aa _ _ (by omega)).trans (aa _ _ (by omega))
 have hb6:((H.set nx (pgO zeroP)).set nx (pgO p)).at' nx=some (pgO p):=aj _ _ _
 generalize (H.set nx (pgO zeroP)).set nx (pgO p)=H1 at h0 hb6 ⊢
 repeat apply bu hp;rfl;assumption
 refine jy rfl rfl rfl rfl (by kernel_rfl) (J9 (Hu (n:=32) ((h0 _ l1).trans hbc) (hs.frame fun b' vo hb'=>(h0 _ (hund _ _ hb')).trans hb') hp ((h0 _ l2).trans ht) ((h0 _ l3).trans hto) hx0 hne hit hroom hins hp') ?_)
 rintro⟨_,H2,n2⟩ ⟨rfl,g1,g2,g3,g4⟩
 dsimp only at g1 g2 g3 g4 ⊢
 repeat apply ai;rfl
 (apply bP Tryz.func26 Tryz.results26;rfl)
 exact⟨rfl,g1,g2,by dsimp only;omega,fun m h1 h2 h3=>(g4 m (by omega) h2 h3).trans (h0 m h1)⟩
theorem p6{a:Nat}:Fnc Tryz.prog 31 [.ptr a 0,.ptr b 0] H nx (fun q=>q=(.tup [],H,nx)):=by
 refine Ka Tryz.func31 rfl rfl ?_
 repeat first|apply ai;rfl|apply jx;rfl;rfl|refine cd (jG rfl Tryz.underlying20) rfl rfl rfl ?_
 (apply Cr Tryz.func31 Tryz.results31;rfl)
 rfl
theorem pZ(hb:H.at' b=some (cT mem left puts))(hm:mem.length=131072)(hv:VerIs H s v)(hmay:iT v=true)(hp:p.length=1024)(hleft:left≠0)(hl2 : -1000000000≤left∧left≤1000000000)(hputs : -1000000000≤puts∧puts≤1000000000)
 (hread:aU (az mem 32)=(p,0)) (hroom:(aO v).length≤cv p) (hins:iU p (aO v)=(p',slot,0)) (hp':p'.length=1024):Fnc Tryz.prog 11 [tM b,s] H nx
 (fun q=>q.1 = .tup [.agg [.sc (.int .i64 32),.sc (.int .i64 (slot:Int))],.sc (.int .i64 0)]∧q.2.1.at' b=some (cT (f8 mem 32 p') (left-1) (puts+1))∧nx≤q.2.2∧ ∀ m,m<nx→m≠b→q.2.1.at' m=H.at' m):=by
 have hv0:=hv
 obtain⟨k,w,rfl,hk,hw⟩:=hv
 have hbl:=er v
 have hmd:=JS hmay
 refine Ka Tryz.func11 rfl rfl ?_
 refine aX fun hund=>?_
 have lb:=hund _ _ hb
 repeat first|apply ai;rfl|apply lu;rfl;rfl;rfl;(focus(kernel_rfl))
 have hvb:((H.set nx (fw (eF k w v.2.2.1 v.2.2.2))).set (nx+1) (eE 0 0)).set (nx+1+1) (fJ 0)=((H.set nx (fw (eF k w v.2.2.1 v.2.2.2))).set (nx+1) (eE 0 0)).set (nx+1+1) (fJ 0):=rfl
 have a3:(((H.set nx (fw (eF k w v.2.2.1 v.2.2.2))).set (nx+1) (eE 0 0)).set (nx+1+1) (fJ 0)).at' nx=some (fw (eF k w v.2.2.1 v.2.2.2)):=by repeat(first|exact ae|refine ab (by omega) ?_)
 have a4:(((H.set nx (fw (eF k w v.2.2.1 v.2.2.2))).set (nx+1) (eE 0 0)).set (nx+1+1) (fJ 0)).at' (nx+1)=some (eE 0 0):=by repeat(first|exact ae|refine ab (by omega) ?_)
 have a5:(((H.set nx (fw (eF k w v.2.2.1 v.2.2.2))).set (nx+1) (eE 0 0)).set (nx+1+1) (fJ 0)).at' (nx+1+1)=some (fJ 0):=by repeat(exact ae)
 have ao: ∀ m,m<nx→(((H.set nx (fw (eF k w v.2.2.1 v.2.2.2))).set (nx+1) (eE 0 0)).set (nx+1+1) (fJ 0)).at' m=H.at' m:=fun m hm=>by(repeat(refine ab (by omega) ?_));rfl
 generalize ((H.set nx (fw (eF k w v.2.2.1 v.2.2.2))).set (nx+1) (eE 0 0)).set (nx+1+1) (fJ 0)=H1 at a3 a4 a5 ao ⊢
 clear hvb
 repeat first|apply ai;rfl|apply aG;rfl;assumption;rfl|refine cd (fi rfl rfl Tryz.underlying75 rfl) rfl rfl rfl ?_
 refine aI rfl rfl rfl (by kernel_rfl) (J9 (Ak (hv0.frame fun b' vo hb'=>(ao _ (hund _ _ hb')).trans hb') hmay) ?_)
 rintro⟨_,H2,n2⟩ ⟨r,rfl,b1,b2,b3,b4⟩
 dsimp only at b1 b3 b4 ⊢
 have b5:=(b4 _ (show nx+1+1<nx+1+1+1 by omega)).trans a5
 have b6:=(b4 _ (show nx+1<nx+1+1+1 by omega)).trans a4
 have bo: ∀ m,m<nx→H2.at' m=H.at' m:=fun m hm=>(b4 m (by omega)).trans (ao m hm)
 clear a3 a4 a5 ao b4
 repeat first|refine a9 rfl rfl ci ?_|apply ai;rfl|apply aG;rfl;(focus((repeat(first|assumption|exact ae|refine ab (by omega) ?_));done));rfl|apply dM;rfl;rfl
 refine aX fun hund3=>?_
 refine aI rfl rfl rfl (by kernel_rfl) (J9 (BO (t:=nx+1) (to:=n2+1) (bc:=n2) (by(repeat(refine ab (by omega) ?_));exact(bo b lb).trans hb) hm (by repeat(first|exact ae|refine ab (by omega) ?_)) (jp (by(repeat(refine ab (by omega) ?_));exact b1)) hp (by repeat(first|assumption|refine ab (by omega) ?_)) (by repeat(exact ae)) ah (by omega) (by omega) hread hroom hins hp') ?_)
 rintro⟨_,H4,n4⟩ ⟨rfl,c1,c2,c3,c4⟩
 dsimp only at c1 c2 c3 c4 ⊢
 have c5:H4.at' (nx+1+1)=some (fJ 0):=(c4 _ (by omega) (by omega) (by omega)).trans (by repeat(first|exact ae|refine ab (by omega) ?_))
 have cb:H4.at' b=some (cT mem left puts):=(c4 _ (by omega) (by omega) (by omega)).trans (by(repeat(refine ab (by omega) ?_));exact(bo b lb).trans hb)
 have co: ∀ m,m<nx→H4.at' m=H.at' m:=fun m hm=>(c4 _ (by omega) (by omega) (by omega)).trans (by(repeat(refine ab (by omega) ?_));exact bo m hm)
 clear c4 b1 b5 b6 bo hund3
 repeat first|apply bu hp';rfl;(focus((repeat(first|assumption|refine ab (by omega) ?_));done))|apply ai;rfl|apply aG;rfl;(focus((repeat(first|assumption|exact ae|refine ab (by omega) ?_));done));rfl|apply iv;rfl;decide|apply dM;rfl;rfl
 refine lN 141 rfl rfl rfl rfl (by kernel_rfl) (J9 (vj (n:=32) (by repeat(first|assumption|refine ab (by omega) ?_)) hm (by decide) hp' hleft hl2 hputs) ?_)
 rintro⟨_,H5,n5⟩ ⟨rfl,d1,d2,d3⟩
 dsimp only at d1 d2 d3 ⊢
 have d4:H5.at' (nx+1)=some (eE 32 slot):=(d3 _ (by omega) (by omega)).trans (by repeat(first|assumption|refine ab (by omega) ?_))
 have d5:H5.at' (nx+1+1)=some (fJ 0):=(d3 _ (by omega) (by omega)).trans (by repeat(exact ae))
 have dold: ∀ m,m<nx→m≠b→H5.at' m=H.at' m:=fun m hm hmb=>(d3 _ (by omega) hmb).trans (by(repeat(refine ab (by omega) ?_));exact co m hm)
 clear c1 c2 c5 cb co d3
 repeat first|apply ai;rfl|apply aG;rfl;(focus((repeat(first|assumption|exact ae|refine ab (by omega) ?_));done));rfl|apply dM;rfl;rfl
 refine ew Tryz.func11 (congrArg Array.toList Tryz.results11) (by kernel_rfl) (J9 p6 ?_)
 rintro _ rfl
 refine⟨_,(by(repeat(first|exact Kb|apply Kc rfl (Kf (F.ag _ rfl) (by repeat(first|exact ae|refine ab (by omega) ?_)) (aB rfl))|apply Kc rfl (Ke (F.ag _ rfl) (by repeat(first|exact ae|refine ab (by omega) ?_)) (aq _ 0 rfl rfl))))),?_⟩
 dsimp only
 exact⟨rfl,by(repeat(refine ab (by omega) ?_));exact d1,by omega,fun m h1 h2=>by(repeat(refine ab (by omega) ?_));exact dold m h1 h2⟩
theorem ut(hp:p.length=1024)(hr:bg p=true)(hn:n<ac p)(hs:ak p n≠0):Fnc Tryz.prog 44 [.agg (pgS p),.sc (.int .i64 (n:Int))] H nx (fun q=> ∃ r,q.1 = .tup [.slu r 0 (aV p n).length,.sc (.int .i64 0)]∧q.2.1.at' r=some (u8R false (byV (aV p n)))∧nx≤r∧r<q.2.2∧ ∀ m,m<nx→q.2.1.at' m=H.at' m):=by
 have hb:=cQ hr hn hs
 have hil:=dv hp hb.2.2.2
 have hbl:=bK (aV p n)
 have hfd:cn p n=(ay p n,ak p n,0):=by unfold cn;rw [JG (by omega),JG hs]
 refine Ka Tryz.func44 rfl rfl ?_
 have hb1:(H.set nx (pgO p)).at' nx=some (pgO p):=aj _ _ _
 have hrs:=fun nx'=>gz (nx:=nx') hb1 hp
 rw [hr] at hrs
 have hfs: ∀ nx',Fnc Tryz.prog 89 [.ptr nx 0,.sc (.int .i64 (n:Int))] (H.set nx (pgO p)) nx' (fun q=>q=(.tup [.sc (.int .i64 (ay p n:Int)),.sc (.int .i64 (ak p n:Int)),.sc (.int .i64 0)],H.set nx (pgO p),nx')):=fun nx'=>by
  have:=v8 (nx:=nx') (n:=n) hb1 (fG hp hr)
  rw [hfd] at this
  exact this
 repeat first|apply ai;rfl|apply aL;rfl;omega;omega|apply bY;rfl;kernel_rfl;exact hrs _|apply lx;rfl;omega|apply bY;rfl;kernel_rfl;exact hfs _|apply dM;rfl;rfl|apply kV (lw:=ay p n) (hg:=ay p n+ak p n);rfl;rfl;rfl;exact(F.un _ rfl);exact(F.sz _ rfl);rfl;rfl;(focus(omega));(focus(omega));(focus(omega));exact(show ay p n+ak p n-ay p n=ak p n by omega);rfl;exact(JI _)|apply bM;rfl;rfl;exact(F.un _ rfl);exact(F.sz _ rfl);rfl;exact(F.ze _ rfl);rfl;rfl;rfl;rfl;rfl
 refine aI rfl rfl rfl (by kernel_rfl) (J9 (sR (bs:= [byV (aV p n)]) (ls:= [.sl nx (ay p n) (ak p n) (1024-ay p n)]) (aj _ _ _) (LsIs.cons (nd (b:=nx) (p:=p) (o:=ay p n) (m:=ak p n) ((aa _ _ (Nat.ne_of_lt (Nat.lt_succ_self _))).trans hb1) (by omega)) (LsIs.nil _)) (by show(byV (aV p n) ++ []).length≤_;rw [JU];omega) (Jh rfl)) ?_)
 rintro _ rfl
 dsimp only
 have hfl: [byV (aV p n)].flatten=byV (aV p n):=JU _
 rw [hfl,bK]
 repeat apply ai;rfl
 (apply bP Tryz.func44 Tryz.results44;rfl)
 exact⟨nx+1+1,rfl,aj _ _ _,by omega,Nat.lt_succ_self _,fun m hm=>by(repeat(refine ab (by omega) ?_));rfl⟩
theorem D4{k:Nat}(h1:32≤n)(h2:n<128):Fnc Tryz.prog 42 [.agg [.sc (.int .i64 (n:Int)),.sc (.int .i64 (k:Int))]] H nx (fun q=>q=(.sc (.bool true),H,nx)):=by
 refine Fnc.bv (Free.sc _) ?_
 refine Ka Tryz.func42 rfl rfl ?_
 repeat first|apply ai;rfl|apply aG;rfl;(focus((repeat(exact ae));done));rfl|apply px;rfl;omega
 (apply bP Tryz.func42 Tryz.results42;rfl)
 exact⟨rfl,JE _,fun m hm=>aa _ _ (by omega)⟩
theorem s5{a:Nat}:Fnc Tryz.prog 41 [.ptr a 0,.ptr b 0] H nx (fun q=>q=(.tup [],H,nx)):=by
 refine Ka Tryz.func41 rfl rfl ?_
 repeat first|apply ai;rfl|apply jx;rfl;rfl|refine cd (jG rfl Tryz.underlying20) rfl rfl rfl ?_
 (apply Cr Tryz.func41 Tryz.results41;rfl)
 rfl
theorem En{k:Nat}(hb:H.at' b=some (cT mem left puts))(hm:mem.length=131072)(hp:p.length=1024)(h1:32≤n)(h2:n<128)(hread:aU (az mem n)=(p,0))(hr:bg p=true)(hn:k<ac p)(hs:ak p k≠0)(hof:ofV (aV p k)=some v):Fnc Tryz.prog 15 [tM b,.agg [.sc (.int .i64 (n:Int)),.sc (.int .i64 (k:Int))]] H nx
 (fun q=> ∃ s' r,q.1 = .tup [s',.sc (.int .i64 0)]∧VerAt q.2.1 s' r v∧nx≤r∧nx≤q.2.2∧ ∀ m,m<nx→q.2.1.at' m=H.at' m):=by
 refine Ka Tryz.func15 rfl rfl ?_
 refine aX fun hund=>?_
 have lb:=hund _ _ hb
 have hil:(aV p k).length≤1024:=by unfold aV;rw [JK,JN];omega
 repeat first|apply ai;rfl|apply aG;rfl;(focus((repeat(first|exact ae|refine ab (by omega) ?_));done));rfl|apply lu;rfl;rfl;rfl;(focus(kernel_rfl))|refine cd (fi rfl rfl Tryz.underlying75 rfl) rfl rfl rfl ?_|apply bY;rfl;kernel_rfl;exact D4 (k:=k) h1 h2
 have hrd:=fun(H':au) (nx':Nat) (h:H'.at' b=some (cT mem left puts))=>sd (nx:=nx') (n:=n) h hm h2
 rw [hread] at hrd
 refine aI rfl rfl rfl (by kernel_rfl) (J9 (hrd _ _ (by(repeat(refine ab (by omega) ?_));exact hb)) ?_)
 rintro _ rfl
 dsimp only
 repeat first|apply bA hp ah;rfl;(focus((repeat(exact ae));done))|refine a9 rfl rfl ci ?_|apply ai;rfl|apply aG;rfl;(focus((repeat(first|exact ae|refine ab (by omega) ?_));done));rfl|apply dM;rfl;rfl|apply bu hp;rfl;(focus((repeat(first|exact ae|refine ab (by omega) ?_));done))
 refine aI rfl rfl rfl (by kernel_rfl) (J9 (ut hp hr hn hs) ?_)
 rintro⟨_,H2,n2⟩ ⟨r,rfl,a1,a2,a3,a4⟩
 dsimp only at a1 a3 a4 ⊢
 have b4:H2.at' (nx+1)=some (fw (eF dC dC 0 0)):=(a4 _ (by omega)).trans (by repeat(first|exact ae|refine ab (by omega) ?_))
 have b5:H2.at' (nx+1+1)=some (fJ 0):=(a4 _ (by omega)).trans (by repeat(exact ae))
 have bo: ∀ m,m<nx→H2.at' m=H.at' m:=fun m hm=>(a4 _ (by omega)).trans (by(repeat(refine ab (by omega) ?_));rfl)
 clear a4 hrd
 repeat first|apply ai;rfl|apply aG;rfl;(focus((repeat(first|assumption|exact ae));done));rfl|apply dM;rfl;rfl
 refine aI rfl rfl rfl (by kernel_rfl) (J9 (of_s (jp (by(repeat(refine ab (by omega) ?_));exact a1)) (by omega)) ?_)
 rintro⟨_,H3,n3⟩ ⟨s',r',rfl,c1,cr,c2,c3⟩
 rw [hof] at c1 ⊢
 obtain⟨k0,w0,rfl,gk,gw⟩:=c1
 dsimp only at gk gw c2 c3 ⊢
 have hone: ∀ x y:Nat,bp (eF k0 w0 x y)=true:=fun x y=>by simp only [bp,cX gk.bs,cX gw.bs];rfl
 have d4:H3.at' (nx+1)=some (fw (eF dC dC 0 0)):=(c3 _ (by omega)).trans (by repeat(first|assumption|refine ab (by omega) ?_))
 have d5:=(c3 (nx+1+1) (by omega)).trans (aj _ _ _)
 have dold: ∀ m,m<nx→H3.at' m=H.at' m:=fun m hm=>(c3 _ (by omega)).trans (by(repeat(refine ab (by omega) ?_));exact bo m hm)
 clear c3 b4 b5 bo a1
 repeat first|apply ai;rfl|apply aG;rfl;(focus((repeat(first|assumption|refine ab (by omega) ?_));done));rfl|refine dW rfl rfl rfl (F.sz _ rfl) (by assumption) rfl (by exact Jh rfl) (hone _ _) rfl ?_
 refine ew Tryz.func15 (congrArg Array.toList Tryz.results15) (by kernel_rfl) (J9 s5 ?_)
 rintro _ rfl
 refine⟨_,(by(repeat(first|exact Kb|apply Kc rfl (Kf (F.ag _ rfl) (by repeat(first|exact ae|refine ab (by omega) ?_)) (aB rfl))|apply Kc rfl (Ke (F.ag _ rfl) (by repeat(first|exact ae|refine ab (by omega) ?_)) (aq _ 0 rfl rfl))))),?_⟩
 dsimp only
 exact⟨_,r',rfl,⟨k0,w0,rfl,gk.frame (by(repeat(refine ab (by omega) ?_));rfl),gw.frame (by(repeat(refine ab (by omega) ?_));rfl)⟩,by omega,by omega,fun m hm=>by(repeat(refine ab (by omega) ?_));exact dold m hm⟩
theorem sS(hp:p.length=1024)(hr:bg p=true)(hn:ac p≤n∨ak p n=0):Fnc Tryz.prog 44 [.agg (pgS p),.sc (.int .i64 (n:Int))] H nx (fun q=>q.1 = .tup [dC,.sc (.int .i64 6)]∧nx≤q.2.2∧ ∀ m,m<nx→q.2.1.at' m=H.at' m):=by
 have hfd:cn p n=(0,0,6):=by unfold cn;split;rfl;rw [JH (by omega)]
 refine Ka Tryz.func44 rfl rfl ?_
 have hb1:(H.set nx (pgO p)).at' nx=some (pgO p):=aj _ _ _
 have hrs:=fun nx'=>gz (nx:=nx') hb1 hp
 rw [hr] at hrs
 have hfs: ∀ nx',Fnc Tryz.prog 89 [.ptr nx 0,.sc (.int .i64 (n:Int))] (H.set nx (pgO p)) nx' (fun q=>q=(.tup [.sc (.int .i64 0),.sc (.int .i64 0),.sc (.int .i64 6)],H.set nx (pgO p),nx')):=fun nx'=>by
  have:=v8 (nx:=nx') (n:=n) hb1 (fG hp hr)
  rw [hfd] at this
  exact this
 repeat first|apply ai;rfl|apply bY;rfl;kernel_rfl;exact hrs _|apply lx;rfl;omega|apply bY;rfl;kernel_rfl;exact hfs _|apply iv;rfl;decide
 (apply bP Tryz.func44 Tryz.results44;rfl)
 exact⟨rfl,by dsimp only;omega,fun m hm=>by(repeat(refine ab (by omega) ?_));rfl⟩
def mD(n k:Int):Bool:=decide (32≤n∧n<128∧0≤k)
theorem zy{n k:Int}:Fnc Tryz.prog 42 [.agg [.sc (.int .i64 n),.sc (.int .i64 k)]] H nx (fun q=>q=(.sc (.bool (mD n k)),H,nx)):=by
 refine Fnc.bv (Free.sc _) ?_
 refine Ka Tryz.func42 rfl rfl ?_
 repeat first|apply ai;rfl|apply aG;rfl;(focus((repeat(exact ae));done));rfl
 refine eN rfl rfl rfl rfl (fun h1=>?_) (fun h1=>?_)
 ·repeat first|apply ai;rfl|apply aG;rfl;(focus((repeat(exact ae));done));rfl
  refine bn rfl rfl rfl rfl (fun h2=>?_) (fun h2=>?_)
  ·repeat first|apply ai;rfl|apply aG;rfl;(focus((repeat(exact ae));done));rfl
   refine eN rfl rfl rfl rfl (fun h3=>?_) (fun h3=>?_)
   ·repeat apply ai;rfl
    (apply bP Tryz.func42 Tryz.results42;rfl)
    exact⟨by unfold mD;rw [JZ (by omega)];rfl,JE _,fun m hm=>aa _ _ (by omega)⟩
   ·repeat apply ai;rfl
    (apply bP Tryz.func42 Tryz.results42;rfl)
    exact⟨by unfold mD;rw [J0 (by omega)];rfl,JE _,fun m hm=>aa _ _ (by omega)⟩
  ·repeat apply ai;rfl
   (apply bP Tryz.func42 Tryz.results42;rfl)
   exact⟨by unfold mD;rw [J0 (by omega)];rfl,JE _,fun m hm=>aa _ _ (by omega)⟩
 ·repeat apply ai;rfl
  (apply bP Tryz.func42 Tryz.results42;rfl)
  exact⟨by unfold mD;rw [J0 (by omega)];rfl,JE _,fun m hm=>aa _ _ (by omega)⟩
def pz(pf:Nat→List UInt8)(n k:Int):gf×Nat:=
 if mD n k=false then(iV,2) else
 if(aU (pf n.toNat)).2≠0 then(iV,(aU (pf n.toNat)).2) else
 if(cn (aU (pf n.toNat)).1 k.toNat).2.2≠0 then(iV,6) else
 ((ofV (aV (aU (pf n.toNat)).1 k.toNat)).getD iV,Bs (ofV (aV (aU (pf n.toNat)).1 k.toNat)))
theorem numZ{o:Nat}(h:o+2≤1024):gL zeroP o=0:=by
 unfold gL zeroP
 rw [List.drop_replicate,List.take_replicate,show min 2 (1024-o)=2 by omega]
 rfl
theorem yn(k:UInt8):ac (fE k)=0:=by
 have hl:(zeroP.set 12 k).length=1024:=by rw [List.length_set,ah]
 unfold fE
 exact(cO (by rw [hl];decide) (by decide)).trans ((jO (q:=zeroP) fun i h1 h2=>by rw [List.getElem?_set_ne (by omega)]).trans (numZ (by decide)))
theorem HS(k:UInt8):aD (fE k)=1024:=by
 have hl:(zeroP.set 12 k).length=1024:=by rw [List.length_set,ah]
 unfold fE
 exact eQ (by rw [hl];decide) (by decide)
theorem okI(k:UInt8):Okp (fE k):=by
 have h1:=yn k
 have h2:=HS k
 exact⟨fR k,by omega,by omega,fun h=>by omega,fun j hj=>by omega,fun i j _ hj=>by omega⟩
theorem GY(k:UInt8):bg (fE k)=true:=(bi (fR k)).2 (okI k)
theorem cN{q:List UInt8}(h:aU p=(q,0))(hp:p.length=1024):q.length=1024∧bg q=true∧ ∀ j,j<ac q→ak q j≠0→(ofV (aV q j)).isSome=true:=by
 unfold aU at h
 split at h
 ·have h:=(Prod.mk.inj h).1
  subst h
  refine⟨fR 4,GY 4,fun j hj=>?_⟩
  have h1:=yn 4
  omega
 ·split at h
  ·cases(Prod.mk.inj h).2
  ·rename_i hr
   split at h
   ·cases(Prod.mk.inj h).2
   ·rename_i hb
    have h:=(Prod.mk.inj h).1
    subst h
    refine⟨hp,?_,fun j hj hz=>?_⟩
    ·cases hq:bg p with
     | true=>rfl
     | false=>exact absurd (.inl hq) hr
    ·cases ho:ofV (aV p j)with
     | some v=>rfl
     | none=>
       refine absurd ?_ hb
       unfold xw
       rw [List.any_eq_true]
       exact⟨j,J2.2 hj,by rw [JZ hz,ho];rfl⟩
theorem lV:(aU p).2=0∨aU p=(zeroP,13):=by
 unfold aU
 split
 ·exact .inl rfl
 ·split
  ·exact .inr rfl
  ·split
   ·exact .inr rfl
   ·exact .inl rfl
theorem get_g{n k:Int}(hb:H.at' b=some (cT mem left puts))(hm:mem.length=131072):Fnc Tryz.prog 15 [tM b,.agg [.sc (.int .i64 n),.sc (.int .i64 k)]] H nx
 (fun q=> ∃ s' r,q.1 = .tup [s',.sc (.int .i64 ((pz (az mem) n k).2:Int))]∧VerAt q.2.1 s' r (pz (az mem) n k).1∧nx≤r∧nx≤q.2.2∧ ∀ m,m<nx→q.2.1.at' m=H.at' m):=by
 refine Ka Tryz.func15 rfl rfl ?_
 refine aX fun hund=>?_
 have lb:=hund _ _ hb
 repeat first|apply ai;rfl|apply aG;rfl;(focus((repeat(first|exact ae|refine ab (by omega) ?_));done));rfl|apply lu;rfl;rfl;rfl;(focus(kernel_rfl))|refine cd (fi rfl rfl Tryz.underlying75 rfl) rfl rfl rfl ?_
 cases hmay:mD n k with
 | false=>
   have hg:pz (az mem) n k=(iV,2):=by unfold pz;rw [JH hmay]
   rw [hg]
   have hmy:=fun(H:au) nx=>zy (H:=H) (nx:=nx) (n:=n) (k:=k)
   rw [hmay] at hmy
   repeat first|apply ai;rfl|apply aG;rfl;(focus((repeat(first|exact ae|refine ab (by omega) ?_));done));rfl|apply bY;rfl;kernel_rfl;exact hmy _ _
   refine ew Tryz.func15 (congrArg Array.toList Tryz.results15) (by kernel_rfl) (J9 s5 ?_)
   rintro _ rfl
   refine⟨_,(by(repeat(first|exact Kb|apply Kc rfl (Kf (F.ag _ rfl) (by repeat(first|exact ae|refine ab (by omega) ?_)) (aB rfl))|apply Kc rfl (Ke (F.ag _ rfl) (by repeat(first|exact ae|refine ab (by omega) ?_)) (aq _ 0 rfl rfl))))),?_⟩
   dsimp only
   exact⟨_,nx,rfl,gm _ nx,Jv _,by omega,fun m hm=>by(repeat(refine ab (by omega) ?_));rfl⟩
 | true=>
   have hmd:32≤n∧n<128∧0≤k:=JS hmay
   obtain⟨N,rfl⟩: ∃ N:Nat,n=(N:Int):=⟨n.toNat,by omega⟩
   obtain⟨K,rfl⟩: ∃ K:Nat,k=(K:Int):=⟨k.toNat,by omega⟩
   have hmy:=fun(H:au) nx=>zy (H:=H) (nx:=nx) (n:=(N:Int)) (k:=(K:Int))
   rw [hmay] at hmy
   have hg:pz (az mem) (N:Int) (K:Int)=if(aU (az mem N)).2≠0 then(iV,(aU (az mem N)).2) else if(cn (aU (az mem N)).1 K).2.2≠0 then(iV,6) else
    ((ofV (aV (aU (az mem N)).1 K)).getD iV,Bs (ofV (aV (aU (az mem N)).1 K))):=by unfold pz;rw [JG (by rw [hmay];decide),JY,JY]
   rw [hg]
   clear hg
   have hpl:=dO hm (n:=N) (by omega)
   repeat first|apply ai;rfl|apply aG;rfl;(focus((repeat(first|exact ae|refine ab (by omega) ?_));done));rfl|apply bY;rfl;kernel_rfl;exact hmy _ _
   have hrd:=fun(H':au) (nx':Nat) (h:H'.at' b=some (cT mem left puts))=>sd (nx:=nx') (n:=N) h hm (by omega)
   refine aI rfl rfl rfl (by kernel_rfl) (J9 (hrd _ _ (by(repeat(refine ab (by omega) ?_));exact hb)) ?_)
   rintro _ rfl
   dsimp only
   clear hrd hmy
   rcases lV (p:=az mem N)with he|he
   ·obtain⟨p,hp⟩: ∃ p,aU (az mem N)=(p,0):=⟨_,Prod.ext rfl he⟩
    rw [hp,JG (fun h=>h rfl)]
    obtain⟨hpp,hr,hof⟩:=cN hp hpl
    by_cases hK:ac p≤K∨ak p K=0
    ·have hfd:cn p K=(0,0,6):=by unfold cn;split;rfl;rw [JH (by omega)]
     dsimp only
     rw [hfd,JH (by decide)]
     repeat first|apply bA hpp ah;rfl;(focus((repeat(exact ae));done))|refine a9 rfl rfl ci ?_|apply ai;rfl|apply aG;rfl;(focus((repeat(first|exact ae|refine ab (by omega) ?_));done));rfl|apply dM;rfl;rfl|apply bu hpp;rfl;(focus((repeat(first|exact ae|refine ab (by omega) ?_));done))
     refine aI rfl rfl rfl (by kernel_rfl) (J9 (sS hpp hr hK) ?_)
     rintro⟨_,H2,n2⟩ ⟨rfl,a3,a4⟩
     dsimp only at a3 a4 ⊢
     have b4:H2.at' (nx+1)=some (fw (eF dC dC 0 0)):=(a4 _ (by omega)).trans (by repeat(first|exact ae|refine ab (by omega) ?_))
     have b5:H2.at' (nx+1+1)=some (fJ 0):=(a4 _ (by omega)).trans (by repeat(exact ae))
     have bo: ∀ m,m<nx→H2.at' m=H.at' m:=fun m hm=>(a4 _ (by omega)).trans (by(repeat(refine ab (by omega) ?_));rfl)
     clear a4
     repeat first|apply ai;rfl|apply aG;rfl;(focus((repeat(first|assumption|exact ae));done));rfl|apply iv;rfl;decide
     (refine cW (R:=fun H8 n8=>H8.at' (nx+1)=some (fw (eF dC dC 0 0))∧H8.at' (nx+1+1)=some (fJ 6)∧nx≤n8∧ ∀ m,m<nx→H8.at' m=H.at' m) ⟨by repeat(first|assumption|refine ab (by omega) ?_),by repeat(exact ae),by omega,fun m hm=>by(repeat(refine ab (by omega) ?_));exact bo m hm⟩ ?_;rintro H8 n8 ⟨e1,e2,e3,e4⟩;(apply bh;(focus(kernel_rfl));(focus(kernel_rfl)));(repeat(first|apply dw;rfl;assumption;rfl|refine dQ rfl rfl rfl (F.sz _ rfl) (by repeat(first|assumption|refine ab (by omega) ?_)) (by rfl) (by rfl) ?_|refine bX rfl rfl rfl (F.sz _ rfl) (by assumption) rfl (by exact Jh rfl) rfl (by rfl) ?_|apply aS;rfl));refine aA ⟨by kernel_rfl,?_,?_⟩;(focus(repeat(first|exact Kk|apply jU;rfl|apply gi;rfl;kernel_rfl|refine fX 0 rfl (by kernel_rfl) (by(repeat(refine⟨(by(exact am (F.ag _ rfl) rfl (by repeat(first|assumption|exact ae|refine ab (by omega) ?_)) (aB rfl))),?_⟩));exact Kk) ?_)));skip;refine ew Tryz.func15 (congrArg Array.toList Tryz.results15) (by kernel_rfl) (J9 s5 ?_);rintro _ rfl;refine⟨_,(by(repeat(first|exact Kb|apply Kc rfl (Kf (F.ag _ rfl) (by repeat(first|exact ae|refine ab (by omega) ?_)) (aB rfl))|apply Kc rfl (Ke (F.ag _ rfl) (by repeat(first|exact ae|refine ab (by omega) ?_)) (aq _ 0 rfl rfl))))),?_⟩;dsimp only;exact⟨_,nx,rfl,gm _ nx,Jv _,by omega,fun m hm=>by(repeat(refine ab (by omega) ?_));exact e4 m hm⟩)
    ·have hs:ak p K≠0:=fun h=>hK (.inr h)
     have hn:K<ac p:=by omega
     have hfd:cn p K=(ay p K,ak p K,0):=by unfold cn;rw [JG (by omega),JG hs]
     dsimp only
     rw [hfd,JG (fun h=>h rfl)]
     have hil:(aV p K).length≤1024:=by unfold aV;rw [JK,JN];omega
     repeat first|apply bA hpp ah;rfl;(focus((repeat(exact ae));done))|refine a9 rfl rfl ci ?_|apply ai;rfl|apply aG;rfl;(focus((repeat(first|exact ae|refine ab (by omega) ?_));done));rfl|apply dM;rfl;rfl|apply bu hpp;rfl;(focus((repeat(first|exact ae|refine ab (by omega) ?_));done))
     refine aI rfl rfl rfl (by kernel_rfl) (J9 (ut hpp hr hn hs) ?_)
     rintro⟨_,H2,n2⟩ ⟨r,rfl,a1,a2,a3,a4⟩
     dsimp only at a1 a3 a4 ⊢
     have b4:H2.at' (nx+1)=some (fw (eF dC dC 0 0)):=(a4 _ (by omega)).trans (by repeat(first|exact ae|refine ab (by omega) ?_))
     have b5:H2.at' (nx+1+1)=some (fJ 0):=(a4 _ (by omega)).trans (by repeat(exact ae))
     have bo: ∀ m,m<nx→H2.at' m=H.at' m:=fun m hm=>(a4 _ (by omega)).trans (by(repeat(refine ab (by omega) ?_));rfl)
     clear a4
     repeat first|apply ai;rfl|apply aG;rfl;(focus((repeat(first|assumption|exact ae));done));rfl|apply dM;rfl;rfl
     refine aI rfl rfl rfl (by kernel_rfl) (J9 (of_s (jp (by(repeat(refine ab (by omega) ?_));exact a1)) (by omega)) ?_)
     rintro⟨_,H3,n3⟩ ⟨s',r',rfl,c1,cr,c2,c3⟩
     generalize (ofV (aV p K)).getD iV=v at c1 ⊢
     generalize Bs (ofV (aV p K))=eo
     obtain⟨k0,w0,rfl,gk,gw⟩:=c1
     dsimp only at gk gw c2 c3 ⊢
     have hone: ∀ x y:Nat,bp (eF k0 w0 x y)=true:=fun x y=>by simp only [bp,cX gk.bs,cX gw.bs];rfl
     have d4:H3.at' (nx+1)=some (fw (eF dC dC 0 0)):=(c3 _ (by omega)).trans (by repeat(first|assumption|refine ab (by omega) ?_))
     have d5:=(c3 (nx+1+1) (by omega)).trans (aj _ _ _)
     have dold: ∀ m,m<nx→H3.at' m=H.at' m:=fun m hm=>(c3 _ (by omega)).trans (by(repeat(refine ab (by omega) ?_));exact bo m hm)
     clear c3 b4 b5 bo a1
     repeat first|apply ai;rfl|apply aG;rfl;(focus((repeat(first|assumption|refine ab (by omega) ?_));done));rfl|refine dW rfl rfl rfl (F.sz _ rfl) (by assumption) rfl (by exact Jh rfl) (hone _ _) rfl ?_
     refine ew Tryz.func15 (congrArg Array.toList Tryz.results15) (by kernel_rfl) (J9 s5 ?_)
     rintro _ rfl
     refine⟨_,(by(repeat(first|exact Kb|apply Kc rfl (Kf (F.ag _ rfl) (by repeat(first|exact ae|refine ab (by omega) ?_)) (aB rfl))|apply Kc rfl (Ke (F.ag _ rfl) (by repeat(first|exact ae|refine ab (by omega) ?_)) (aq _ 0 rfl rfl))))),?_⟩
     dsimp only
     exact⟨_,r',rfl,⟨k0,w0,rfl,gk.frame (by(repeat(refine ab (by omega) ?_));rfl),gw.frame (by(repeat(refine ab (by omega) ?_));rfl)⟩,by omega,by omega,fun m hm=>by(repeat(refine ab (by omega) ?_));exact dold m hm⟩
   ·rw [he,JH (by decide)]
    repeat first|apply bA ah ah;rfl;(focus((repeat(exact ae));done))|refine a9 rfl rfl ci ?_|apply ai;rfl|apply aG;rfl;(focus((repeat(first|exact ae|refine ab (by omega) ?_));done));rfl|apply iv;rfl;decide
    (refine cW (R:=fun H8 n8=>H8.at' (nx+1)=some (fw (eF dC dC 0 0))∧H8.at' (nx+1+1)=some (fJ 13)∧nx≤n8∧ ∀ m,m<nx→H8.at' m=H.at' m) ⟨by repeat(first|exact ae|refine ab (by omega) ?_),by repeat(exact ae),by omega,fun m hm=>by(repeat(refine ab (by omega) ?_));rfl⟩ ?_;rintro H8 n8 ⟨e1,e2,e3,e4⟩;(apply bh;(focus(kernel_rfl));(focus(kernel_rfl)));(repeat(first|apply dw;rfl;assumption;rfl|refine dQ rfl rfl rfl (F.sz _ rfl) (by repeat(first|assumption|refine ab (by omega) ?_)) (by rfl) (by rfl) ?_|refine bX rfl rfl rfl (F.sz _ rfl) (by assumption) rfl (by exact Jh rfl) rfl (by rfl) ?_|apply aS;rfl));refine aA ⟨by kernel_rfl,?_,?_⟩;(focus(repeat(first|exact Kk|apply jU;rfl|apply gi;rfl;kernel_rfl|refine fX 0 rfl (by kernel_rfl) (by(repeat(refine⟨(by(exact am (F.ag _ rfl) rfl (by repeat(first|assumption|exact ae|refine ab (by omega) ?_)) (aB rfl))),?_⟩));exact Kk) ?_)));skip;refine ew Tryz.func15 (congrArg Array.toList Tryz.results15) (by kernel_rfl) (J9 s5 ?_);rintro _ rfl;refine⟨_,(by(repeat(first|exact Kb|apply Kc rfl (Kf (F.ag _ rfl) (by repeat(first|exact ae|refine ab (by omega) ?_)) (aB rfl))|apply Kc rfl (Ke (F.ag _ rfl) (by repeat(first|exact ae|refine ab (by omega) ?_)) (aq _ 0 rfl rfl))))),?_⟩;dsimp only;exact⟨_,nx,rfl,gm _ nx,Jv _,by omega,fun m hm=>by(repeat(refine ab (by omega) ?_));exact e4 m hm⟩)
theorem CY(hm:mem.length=131072){g:FuncId}{caps:List SV}(hme:bU Tryz.prog g=true)(I:Nat→au→Nat→Prop)(J:Int→au→Nat→Prop)
 (hI: ∀ n H nx,I n H nx→H.at' b=some (cT mem left puts))
 (hgrow: ∀ n H nx H' nx',I n H nx→nx≤nx'→(∀ m,m<nx→H'.at' m=H.at' m)→I n H' nx')
 (hround: ∀ n p H1 n1,32≤n→n<128→I n H1 n1→aU (az mem n)=(p,0)→Fnc Tryz.prog g ([.sc (.int .i64 (n:Int)),.agg (pgS p)] ++ caps) H1 n1 (fun q=>(q.1 = .tup [.sc (.bool false),.sc (.int .i64 0)]∧I (n+1) q.2.1 q.2.2)∨ ∃ (d:Bool) (e:Int),(d=true∨e≠0)∧q.1 = .tup [.sc (.bool d),.sc (.int .i64 e)]∧J e q.2.1 q.2.2))
 (hbad: ∀ n H1 n1,32≤n→n<128→I n H1 n1→aU (az mem n)=(zeroP,13)→J 13 H1 n1)
 (h0:I 32 H nx):Fnc Tryz.prog 26 [tM b,.fn (.func g) [] caps] H nx
 (fun q=>(q.1 = .sc (.int .i64 0)∧I 128 q.2.1 q.2.2)∨ ∃ e:Int,q.1 = .sc (.int .i64 e)∧J e q.2.1 q.2.2):=by
 refine Ka Tryz.func26 rfl rfl ?_
 repeat apply ai;rfl
 refine bC (α:=Nat) (fun n=> [(0,tM b),(1,.fn (.func g) [] caps),(5,.sc (.int .i64 (n:Int)))])
  (fun n H1 n1=>32≤n∧n≤128∧I n H1 n1) (fun n=>128-n) 32
  ⟨Jv _,by decide,h0⟩ (Kg (Kj rfl)) ?_
 rintro n H1 n1 ⟨h1,h2,h3⟩ ih
 repeat apply ai;rfl
 refine bn rfl rfl rfl rfl (fun h4=>?_) (fun h4=>?_)
 ·have hn:n<128:=by omega
  have hpl:=dO hm (n:=n) hn
  repeat apply ai;rfl
  refine aI rfl rfl rfl (by kernel_rfl) (J9 (sd (n:=n) (hI _ _ _ h3) hm hn) ?_)
  rintro _ rfl
  dsimp only
  rcases lV (p:=az mem n)with he|he
  ·obtain⟨p,hp⟩: ∃ p,aU (az mem n)=(p,0):=⟨_,Prod.ext rfl he⟩
   obtain⟨hpp,_,_⟩:=cN hp hpl
   rw [hp]
   repeat first|apply bA hpp ah;rfl;(focus((repeat(exact ae));done))|refine a9 rfl rfl ci ?_|apply ai;rfl|apply dM;rfl;rfl|apply bu hpp;rfl;(focus((repeat(exact ae));done))
   refine jy rfl rfl rfl rfl hme (J9 (hround n p _ _ h1 hn (hgrow _ _ _ _ _ h3 (JE _) fun m hm=>(aa _ _ (by omega)).trans (aa _ _ (by omega))) hp) ?_)
   rintro⟨_,H2,n2⟩ (⟨rfl,g2⟩|⟨d,e,g1,rfl,g2⟩)
   ·dsimp only at g2 ⊢
    repeat first|apply ai;rfl|apply aL;rfl;omega;omega|apply dM;rfl;rfl
    exact ih _ _ _ (n+1) ⟨by omega,by omega,g2⟩ (by omega) (Kg (Kj rfl))
   ·dsimp only at g2 ⊢
    cases d with
    | true=>
      repeat apply ai;rfl
      (apply bP Tryz.func26 Tryz.results26;rfl)
      exact .inr ⟨e,rfl,g2⟩
    | false=>
      have g1:e≠0:=by rcases g1 with h|h;cases h;exact h
      repeat first|apply ai;rfl|refine lM rfl rfl rfl rfl (fun _=>?_) (fun hq=>absurd hq g1)
      (apply bP Tryz.func26 Tryz.results26;rfl)
      exact .inr ⟨e,rfl,g2⟩
  ·rw [he]
   repeat first|apply bA ah ah;rfl;(focus((repeat(exact ae));done))|refine a9 rfl rfl ci ?_|apply ai;rfl|apply iv;rfl;decide
   (apply bP Tryz.func26 Tryz.results26;rfl)
   exact .inr ⟨13,rfl,hbad n _ _ h1 hn (hgrow _ _ _ _ _ h3 (JE _) fun m hm=>(aa _ _ (by omega)).trans (aa _ _ (by omega))) he⟩
 ·obtain rfl:n=128:=by omega
  repeat apply ai;rfl
  (apply bP Tryz.func26 Tryz.results26;rfl)
  exact .inl ⟨rfl,h3⟩
def ff(p it:List UInt8):List UInt8:=if cv p<it.length then(gE p).1 else p
def fm(p it:List UInt8):List UInt8×Nat×Nat:=iU (ff p it) it
theorem lY(p:List UInt8)(hp:p.length=1024):(gE p).1.length=1024:=by
 unfold gE
 split
 ·rename_i h
  exact(li ((bi hp).1 h)).len
 ·exact ah
theorem ow(hp:p.length=1024):(ff p it).length=1024:=by
 unfold ff
 split
 ·exact lY p hp
 ·exact hp
theorem qV(hp:p.length=1024):(iU p it).1.length=1024:=by
 unfold iU
 split
 ·exact ah
 ·rename_i hr
  split
  ·exact ah
  ·rename_i h1
   split
   ·exact ah
   ·rename_i h2
    have hr:bg p=true:=by cases h:bg p with|true=>rfl|false=>exact absurd h hr
    have h1:1≤it.length∧it.length≤1000:=by omega
    exact(laid ((bi hp).1 hr) h1.2 (by omega) h1.1).len
theorem Hw(hbc:H.at' bc=some (bsO s))(hs:BsIs H s (byV it))(hp:p.length=1024)(ht:H.at' t=some (eE a0 a1))(hto:H.at' to=some (pgO x0))(hx0:x0.length=1024)(hne:t≠to)(hit:it.length≤1000):Fnc Tryz.prog 33 [.sc (.int .i64 (n:Int)),.agg (pgS p),.ptr bc 0,.ptr t 0,.ptr to 0] H nx
 (fun q=>nx≤q.2.2∧(∀ m,m<nx→m≠t→m≠to→q.2.1.at' m=H.at' m)∧((fm p it).2.2=0→q.1 = .tup [.sc (.bool true),.sc (.int .i64 0)]∧q.2.1.at' t=some (eE n (fm p it).2.1)∧q.2.1.at' to=some (pgO (fm p it).1)) ∧
   ((fm p it).2.2≠0→q.1 = .tup [.sc (.bool false),.sc (.int .i64 0)]∧q.2.1.at' t=some (eE a0 a1)∧q.2.1.at' to=some (pgO x0))):=by
 refine Ka Tryz.func33 rfl rfl ?_
 refine aX fun hund=>?_
 have l1:=hund _ _ hbc
 have l2:=hund _ _ ht
 have l3:=hund _ _ hto
 have hs1:BsIs (H.set nx (pgO p)) s (byV it):=hs.frame fun b vo hb=>(aa _ _ (by have:=hund b vo hb;omega)).trans hb
 have hbc1:(H.set nx (pgO p)).at' bc=some (bsO s):=by repeat(first|assumption|refine ab (by omega) ?_)
 have ht1:(H.set nx (pgO p)).at' t=some (eE a0 a1):=by repeat(first|assumption|refine ab (by omega) ?_)
 have hto1:(H.set nx (pgO p)).at' to=some (pgO x0):=by repeat(first|assumption|refine ab (by omega) ?_)
 have hb1:(H.set nx (pgO p)).at' nx=some (pgO p):=aj _ _ _
 have ho1: ∀ m,m<nx→(H.set nx (pgO p)).at' m=H.at' m:=fun m hm=>by(repeat(refine ab (by omega) ?_));rfl
 repeat apply ai;rfl
 generalize H.set nx (pgO p)=H1 at hs1 hbc1 ht1 hto1 hb1 ho1 ⊢
 have hbl:=bK it
 have hrl:=ow (it:=it) hp
 have hpk:=lY p hp
 unfold fm
 have hio:cv p<it.length∧ff p it=(gE p).1∨it.length≤cv p∧ff p it=p:=by unfold ff;split;exact .inl ⟨by assumption,rfl⟩;exact .inr ⟨by omega,rfl⟩
 generalize ff p it=pr at hrl hio ⊢
 rcases hio with ⟨hlt,rfl⟩|⟨hge,rfl⟩
 ·(apply bh;(focus(kernel_rfl));(focus(kernel_rfl)))
  repeat first|refine b8 rfl rfl rfl (F.ag _ rfl) hb1 (be hp) ?_|apply bT;rfl;rfl;rfl;(focus(kernel_rfl));exact(wG hp)|refine bj (am (F.ag _ rfl) rfl hbc1 (aB rfl)) rfl rfl rfl ?_|apply bS;rfl;rfl;exact(fun _ h=>by cases h);exact(fB (F.un _ rfl) rfl hs1)|refine cK rfl rfl rfl rfl (fun _=>?_) (fun hq=>absurd hq (by omega))
  refine aA ⟨by kernel_rfl,?_,?_⟩;(focus(repeat(first|exact Kk|apply jU;rfl|refine fX 0 rfl (by kernel_rfl) (by(repeat(refine⟨(by first|exact am (F.ag _ rfl) rfl (by assumption) (aB rfl)|exact ba (F.ag _ rfl) rfl hb1 (bk hp)|exact fB (F.un _ rfl) rfl hs1),?_⟩));exact Kk) ?_|apply lJ;kernel_rfl)))
  repeat first|apply bu hp;rfl;assumption|apply ai;rfl|apply bY;rfl;kernel_rfl;exact y5 hp|apply bA hpk hp;rfl;assumption
  (refine cW (R:=fun H2 n2=>n2=nx+1∧H2.at' nx=some (pgO (gE p).1)∧H2.at' bc=some (bsO s)∧BsIs H2 s (byV it)∧H2.at' t=some (eE a0 a1)∧H2.at' to=some (pgO x0)∧ ∀ m,m<nx→H2.at' m=H.at' m) ⟨rfl,by repeat(exact ae),by repeat(first|assumption|refine ab (by omega) ?_),hs.frame (fun b vo hb=>by have h9:=hund b vo hb;(focus((repeat(refine ab (by omega) ?_));exact(ho1 b h9).trans hb))),by repeat(first|assumption|refine ab (by omega) ?_),by repeat(first|assumption|refine ab (by omega) ?_),fun m hm=>by(repeat(refine ab (by omega) ?_));exact ho1 m hm⟩ ?_;rintro H2 n2 ⟨rfl,c1,c2,c3,c4,c5,c6⟩;have hi1:=nV (nx:=nx+1) hrl c3 (by omega);generalize hq:iU (gE p).1 it=q at hi1 ⊢;have hpl:q.1.length=1024:=hq ▸ qV hrl;obtain⟨p',slot,err⟩:=q;dsimp only at hpl ⊢;rcases Nat.eq_zero_or_pos err with he|he)
  ·(subst he;(repeat(first|apply bu hrl;rfl;assumption|apply bA hpl ah;rfl;(focus((repeat(exact ae));done))|refine a9 rfl rfl ci ?_|apply ai;rfl|apply aG;rfl;assumption;rfl|apply bY;rfl;kernel_rfl;exact hi1|apply dM;rfl;rfl));refine cW (R:=fun H3 n3=>n3=nx+1+1∧H3.at' (nx+1)=some (pgO p')∧H3.at' t=some (eE a0 a1)∧H3.at' to=some (pgO x0)∧ ∀ m,m<nx→H3.at' m=H.at' m) ⟨rfl,by repeat(exact ae),by repeat(first|assumption|refine ab (by omega) ?_),by repeat(first|assumption|refine ab (by omega) ?_),fun m hm=>by(repeat(refine ab (by omega) ?_));exact c6 m hm⟩ ?_;rintro H3 n3 ⟨rfl,d1,d2,d3,d4⟩;(apply bh;(focus(kernel_rfl));(focus(kernel_rfl)));(repeat(first|refine b8 rfl rfl rfl (F.ag _ rfl) d1 (be hpl) ?_|refine bX rfl rfl rfl (F.sz _ rfl) d2 rfl (by exact Jh rfl) rfl rfl ?_|apply bX;rfl;rfl;rfl;exact(F.sz _ rfl);exact((aa _ _ (Ne.symm hne)).trans d3);exact(be hpl);(focus(rw [be hx0];exact Jv _));exact(iE _);exact(lc _ _ hx0 hpl)|apply aS;rfl));refine aA ⟨by kernel_rfl,?_,?_⟩;(focus(repeat(first|exact Kk|apply jU;rfl|apply gi;rfl;kernel_rfl|refine fX 0 rfl (by kernel_rfl) (by(repeat(refine⟨(by(exact ba (F.ag _ rfl) rfl (by repeat(first|assumption|refine ab (by omega) ?_)) (bk hpl))),?_⟩));exact Kk) ?_)));(repeat(apply ai;rfl));(apply bP Tryz.func33 Tryz.results33;rfl);exact⟨by first|omega|(dsimp only;omega),fun m h1 h2 h3=>(aa _ _ h3).trans ((aa _ _ h2).trans (d4 m h1)),fun _=>⟨rfl,(aa _ _ hne).trans (aj _ _ _),aj _ _ _⟩,fun h=>absurd rfl h⟩)
  ·((repeat(first|apply bu hrl;rfl;assumption|apply bA hpl ah;rfl;(focus((repeat(exact ae));done))|refine a9 rfl rfl ci ?_|apply ai;rfl|apply aG;rfl;assumption;rfl|apply bY;rfl;kernel_rfl;exact hi1|refine lM rfl rfl rfl rfl (fun _=>?_) (fun hq=>absurd hq (by dsimp only;omega))));(apply bP Tryz.func33 Tryz.results33;rfl);exact⟨by first|omega|(dsimp only;omega),fun m h1 h2 h3=>by(repeat(refine ab (by omega) ?_));exact c6 m h1,fun h=>absurd h (Nat.ne_of_gt he),fun _=>⟨rfl,by repeat(first|assumption|refine ab (by omega) ?_),by repeat(first|assumption|refine ab (by omega) ?_)⟩⟩)
 ·(apply bh;(focus(kernel_rfl));(focus(kernel_rfl)))
  repeat first|refine b8 rfl rfl rfl (F.ag _ rfl) hb1 (be hp) ?_|apply bT;rfl;rfl;rfl;(focus(kernel_rfl));exact(wG hp)|refine bj (am (F.ag _ rfl) rfl hbc1 (aB rfl)) rfl rfl rfl ?_|apply bS;rfl;rfl;exact(fun _ h=>by cases h);exact(fB (F.un _ rfl) rfl hs1)|refine cK rfl rfl rfl rfl (fun hq=>absurd hq (by omega)) (fun _=>?_)
  refine aA ⟨by kernel_rfl,?_,?_⟩;(focus(repeat(first|exact Kk|apply jU;rfl|refine fX 0 rfl (by kernel_rfl) (by(repeat(refine⟨(by first|exact am (F.ag _ rfl) rfl (by assumption) (aB rfl)|exact ba (F.ag _ rfl) rfl hb1 (bk hp)|exact fB (F.un _ rfl) rfl hs1),?_⟩));exact Kk) ?_|apply lJ;kernel_rfl)))
  repeat apply ai;rfl
  (refine cW (R:=fun H2 n2=>n2=nx+1∧H2.at' nx=some (pgO pr)∧H2.at' bc=some (bsO s)∧BsIs H2 s (byV it)∧H2.at' t=some (eE a0 a1)∧H2.at' to=some (pgO x0)∧ ∀ m,m<nx→H2.at' m=H.at' m) ⟨rfl,by assumption,by assumption,hs.frame (fun b vo hb=>by have h9:=hund b vo hb;(focus(skip;exact(ho1 b h9).trans hb))),by assumption,by assumption,fun m hm=>by exact ho1 m hm⟩ ?_;rintro H2 n2 ⟨rfl,c1,c2,c3,c4,c5,c6⟩;have hi1:=nV (nx:=nx+1) hrl c3 (by omega);generalize hq:iU pr it=q at hi1 ⊢;have hpl:q.1.length=1024:=hq ▸ qV hrl;obtain⟨p',slot,err⟩:=q;dsimp only at hpl ⊢;rcases Nat.eq_zero_or_pos err with he|he)
  ·(subst he;(repeat(first|apply bu hrl;rfl;assumption|apply bA hpl ah;rfl;(focus((repeat(exact ae));done))|refine a9 rfl rfl ci ?_|apply ai;rfl|apply aG;rfl;assumption;rfl|apply bY;rfl;kernel_rfl;exact hi1|apply dM;rfl;rfl));refine cW (R:=fun H3 n3=>n3=nx+1+1∧H3.at' (nx+1)=some (pgO p')∧H3.at' t=some (eE a0 a1)∧H3.at' to=some (pgO x0)∧ ∀ m,m<nx→H3.at' m=H.at' m) ⟨rfl,by repeat(exact ae),by repeat(first|assumption|refine ab (by omega) ?_),by repeat(first|assumption|refine ab (by omega) ?_),fun m hm=>by(repeat(refine ab (by omega) ?_));exact c6 m hm⟩ ?_;rintro H3 n3 ⟨rfl,d1,d2,d3,d4⟩;(apply bh;(focus(kernel_rfl));(focus(kernel_rfl)));(repeat(first|refine b8 rfl rfl rfl (F.ag _ rfl) d1 (be hpl) ?_|refine bX rfl rfl rfl (F.sz _ rfl) d2 rfl (by exact Jh rfl) rfl rfl ?_|apply bX;rfl;rfl;rfl;exact(F.sz _ rfl);exact((aa _ _ (Ne.symm hne)).trans d3);exact(be hpl);(focus(rw [be hx0];exact Jv _));exact(iE _);exact(lc _ _ hx0 hpl)|apply aS;rfl));refine aA ⟨by kernel_rfl,?_,?_⟩;(focus(repeat(first|exact Kk|apply jU;rfl|apply gi;rfl;kernel_rfl|refine fX 0 rfl (by kernel_rfl) (by(repeat(refine⟨(by(exact ba (F.ag _ rfl) rfl (by repeat(first|assumption|refine ab (by omega) ?_)) (bk hpl))),?_⟩));exact Kk) ?_)));(repeat(apply ai;rfl));(apply bP Tryz.func33 Tryz.results33;rfl);exact⟨by first|omega|(dsimp only;omega),fun m h1 h2 h3=>(aa _ _ h3).trans ((aa _ _ h2).trans (d4 m h1)),fun _=>⟨rfl,(aa _ _ hne).trans (aj _ _ _),aj _ _ _⟩,fun h=>absurd rfl h⟩)
  ·((repeat(first|apply bu hrl;rfl;assumption|apply bA hpl ah;rfl;(focus((repeat(exact ae));done))|refine a9 rfl rfl ci ?_|apply ai;rfl|apply aG;rfl;assumption;rfl|apply bY;rfl;kernel_rfl;exact hi1|refine lM rfl rfl rfl rfl (fun _=>?_) (fun hq=>absurd hq (by dsimp only;omega))));(apply bP Tryz.func33 Tryz.results33;rfl);exact⟨by first|omega|(dsimp only;omega),fun m h1 h2 h3=>by(repeat(refine ab (by omega) ?_));exact c6 m h1,fun h=>absurd h (Nat.ne_of_gt he),fun _=>⟨rfl,by repeat(first|assumption|refine ab (by omega) ?_),by repeat(first|assumption|refine ab (by omega) ?_)⟩⟩)
def cf(pf:Nat→List UInt8)(it:List UInt8):Nat→Nat→Nat×Nat×Nat×List UInt8
 | 0,_=>(5,0,0,zeroP)
 | k+1,n=>
   if(aU (pf n)).2≠0 then(13,0,0,zeroP)
   else if(fm (aU (pf n)).1 it).2.2≠0 then cf pf it k (n+1)
   else(0,n,(fm (aU (pf n)).1 it).2.1,(fm (aU (pf n)).1 it).1)
theorem mR(pf:Nat→List UInt8)(it:List UInt8): ∀ k n,(cf pf it k n).1=0→n≤(cf pf it k n).2.1∧(cf pf it k n).2.1<n+k
 | 0,n,h=>by cases h
 | k+1,n,h=>by
   unfold cf at h ⊢
   split
   ·rename_i h1
    rw [JH h1] at h
    cases h
   ·rename_i h1
    rw [JG h1] at h
    split
    ·rename_i h2
     rw [JH h2] at h
     have:=mR pf it k (n+1) h
     omega
    ·dsimp only;omega
theorem sW(pf:Nat→List UInt8)(it:List UInt8)(hpf: ∀ n,n<128→(pf n).length=1024): ∀ k n,n+k≤128→(cf pf it k n).2.2.2.length=1024
 | 0,n,_=>ah
 | k+1,n,hn=>by
   unfold cf
   split
   ·exact ah
   ·rename_i h1
    have h1:(aU (pf n)).2=0:=Decidable.not_not.1 h1
    split
    ·exact sW pf it hpf k (n+1) (by omega)
    ·have hr:=cN (p:=pf n) (q:=(aU (pf n)).1) (Prod.ext rfl h1) (hpf n (by omega))
     exact qV (ow hr.1)
theorem vp{x:List UInt8}(hb:H.at' b=some (cT mem 0 puts))(hm:mem.length=131072)(hn:n<128)(hx:x.length=1024):Fnc Tryz.prog 141 [.ptr b 0,.sc (.int .i64 (n:Int)),.agg (pgS x)] H nx
 (fun q=>q=(.sc (.int .i64 8),H,nx)):=by
 refine Fnc.bv (Free.sc _) ?_
 refine Ka Tryz.func141 rfl rfl ?_
 refine aX fun hund=>?_
 have hlt:=hund _ _ hb
 have hb1:(H.set nx (pgO x)).at' b=some (cT mem 0 puts):=(aa _ _ (by omega)).trans hb
 have hold: ∀ m,m<nx→(H.set nx (pgO x)).at' m=H.at' m:=fun m hm=>aa _ _ (by omega)
 repeat apply ai;rfl
 generalize H.set nx (pgO x)=H1 at hb1 hold ⊢
 repeat first|refine cV rfl rfl rfl (F.ag _ rfl) hb1 (vu hm _ _) ?_|apply ai;rfl|apply lx;rfl;omega|apply dM;rfl;rfl
 (apply bP Tryz.func141 Tryz.results141;rfl)
 exact⟨rfl,JE _,hold⟩
def ju(pf:Nat→List UInt8)(v:gf)(dead:Bool):(Nat×Nat×Nat)×Option (Nat×List UInt8):=
 if iT v=false then((0,0,2),none)
 else if(cf pf (aO v) 96 32).1≠0 then((0,0,(cf pf (aO v) 96 32).1),none)
 else if dead=true then((0,0,8),none)
 else(((cf pf (aO v) 96 32).2.1,(cf pf (aO v) 96 32).2.2.1,0),some ((cf pf (aO v) 96 32).2.1,(cf pf (aO v) 96 32).2.2.2))
def putO(mem:List UInt8)(left puts:Int):Option (Nat×List UInt8)→VO
 | none=>cT mem left puts
 | some (n,x)=>cT (f8 mem n x) (left-1) (puts+1)
theorem qU(hb:H.at' b=some (cT mem left puts))(hm:mem.length=131072)(hv:VerIs H s v)(hl2 : -1000000000≤left∧left≤1000000000)(hputs : -1000000000≤puts∧puts≤1000000000):Fnc Tryz.prog 11 [tM b,s] H nx
 (fun q=>q.1 = .tup [.agg [.sc (.int .i64 ((ju (az mem) v (decide (left=0))).1.1:Int)),.sc (.int .i64 ((ju (az mem) v (decide (left=0))).1.2.1:Int))],.sc (.int .i64 ((ju (az mem) v (decide (left=0))).1.2.2:Int))]
   ∧ q.2.1.at' b=some (putO mem left puts (ju (az mem) v (decide (left=0))).2)∧nx≤q.2.2∧ ∀ m,m<nx→m≠b→q.2.1.at' m=H.at' m):=by
 have hv0:=hv
 obtain⟨k,w,rfl,hk,hw⟩:=hv
 have hbl:=er v
 refine Ka Tryz.func11 rfl rfl ?_
 refine aX fun hund=>?_
 have lb:=hund _ _ hb
 repeat first|apply ai;rfl|apply lu;rfl;rfl;rfl;(focus(kernel_rfl))
 have a4:(((H.set nx (fw (eF k w v.2.2.1 v.2.2.2))).set (nx+1) (eE 0 0)).set (nx+1+1) (fJ 0)).at' (nx+1)=some (eE 0 0):=by repeat(first|exact ae|refine ab (by omega) ?_)
 have a5:(((H.set nx (fw (eF k w v.2.2.1 v.2.2.2))).set (nx+1) (eE 0 0)).set (nx+1+1) (fJ 0)).at' (nx+1+1)=some (fJ 0):=by repeat(exact ae)
 have a3:(((H.set nx (fw (eF k w v.2.2.1 v.2.2.2))).set (nx+1) (eE 0 0)).set (nx+1+1) (fJ 0)).at' nx=some (fw (eF k w v.2.2.1 v.2.2.2)):=by repeat(first|exact ae|refine ab (by omega) ?_)
 have ao: ∀ m,m<nx→(((H.set nx (fw (eF k w v.2.2.1 v.2.2.2))).set (nx+1) (eE 0 0)).set (nx+1+1) (fJ 0)).at' m=H.at' m:=fun m hm=>by(repeat(refine ab (by omega) ?_));rfl
 generalize ((H.set nx (fw (eF k w v.2.2.1 v.2.2.2))).set (nx+1) (eE 0 0)).set (nx+1+1) (fJ 0)=H1 at a3 a4 a5 ao ⊢
 repeat first|apply ai;rfl|apply aG;rfl;assumption;rfl|refine cd (fi rfl rfl Tryz.underlying75 rfl) rfl rfl rfl ?_
 cases hmay:iT v with
 | false=>
   have hM:ju (az mem) v (decide (left=0))=((0,0,2),none):=by unfold ju;rw [JH hmay]
   rw [hM]
   refine aI rfl rfl rfl (by kernel_rfl) (J9 (B0 (hv0.frame fun b' vo hb'=>(ao _ (hund _ _ hb')).trans hb') hmay) ?_)
   rintro _ rfl
   dsimp only
   repeat first|apply ai;rfl|apply aG;rfl;(focus((repeat(first|assumption|exact ae|refine ab (by omega) ?_));done));rfl|refine GJ (cI (F.sz _ rfl) rfl rfl rfl (by repeat(first|assumption|exact ae)) (by rfl) (by exact Jh rfl) (by rfl)) rfl rfl ?_|apply iv;rfl;decide
   (refine cW (R:=fun H8 n8=>(∃ a0 a1:Int,H8.at' (nx+1)=some (eE a0 a1))∧H8.at' (nx+1+1)=some (fJ 2)∧H8.at' b=some (cT mem left puts)∧nx≤n8∧ ∀ m,m<nx→H8.at' m=H.at' m) ⟨⟨_,_,by repeat(first|assumption|refine ab (by omega) ?_)⟩,by repeat(exact ae),by(repeat(refine ab (by omega) ?_));exact(ao b lb).trans hb,by omega,fun m hm=>by(repeat(refine ab (by omega) ?_));exact ao m hm⟩ ?_;rintro H8 n8 ⟨⟨a0,a1,e1⟩,e2,e5,e3,e4⟩;(apply bh;(focus(kernel_rfl));(focus(kernel_rfl)));(repeat(first|apply dw;rfl;assumption;rfl|refine dQ rfl rfl rfl (F.sz _ rfl) (by repeat(first|assumption|refine ab (by omega) ?_)) (by rfl) (by rfl) ?_|refine bX rfl rfl rfl (F.sz _ rfl) (by assumption) rfl (by exact Jh rfl) rfl (by rfl) ?_|apply aS;rfl));refine aA ⟨by kernel_rfl,?_,?_⟩;(focus(repeat(first|exact Kk|apply jU;rfl|apply gi;rfl;kernel_rfl|refine fX 0 rfl (by kernel_rfl) (by(repeat(refine⟨(by(exact am (F.ag _ rfl) rfl (by repeat(first|assumption|exact ae|refine ab (by omega) ?_)) (aB rfl))),?_⟩));exact Kk) ?_)));skip;refine ew Tryz.func11 (congrArg Array.toList Tryz.results11) (by kernel_rfl) (J9 p6 ?_);rintro _ rfl;refine⟨_,(by(repeat(first|exact Kb|apply Kc rfl (Kf (F.ag _ rfl) (by repeat(first|exact ae|refine ab (by omega) ?_)) (aB rfl))|apply Kc rfl (Ke (F.ag _ rfl) (by repeat(first|exact ae|refine ab (by omega) ?_)) (aq _ 0 rfl rfl))))),?_⟩;dsimp only;exact⟨rfl,by(repeat(refine ab (by omega) ?_));exact e5,by omega,fun m hm _=>by(repeat(refine ab (by omega) ?_));exact e4 m hm⟩)
 | true=>
   have hmd:=JS hmay
   have hM:ju (az mem) v (decide (left=0))=if(cf (az mem) (aO v) 96 32).1≠0 then((0,0,(cf (az mem) (aO v) 96 32).1),none) else if decide (left=0)=true then((0,0,8),none)
    else(((cf (az mem) (aO v) 96 32).2.1,(cf (az mem) (aO v) 96 32).2.2.1,0),some ((cf (az mem) (aO v) 96 32).2.1,(cf (az mem) (aO v) 96 32).2.2.2)):=by unfold ju;rw [JG (by rw [hmay];decide)]
   rw [hM]
   refine aI rfl rfl rfl (by kernel_rfl) (J9 (Ak (hv0.frame fun b' vo hb'=>(ao _ (hund _ _ hb')).trans hb') hmay) ?_)
   rintro⟨_,H2,n2⟩ ⟨r,rfl,b1,b2,b3,b4⟩
   dsimp only at b1 b3 b4 ⊢
   have b5:=(b4 _ (show nx+1+1<nx+1+1+1 by omega)).trans a5
   have b6:=(b4 _ (show nx+1<nx+1+1+1 by omega)).trans a4
   have bo: ∀ m,m<nx→H2.at' m=H.at' m:=fun m hm=>(b4 m (by omega)).trans (ao m hm)
   clear a3 a4 a5 ao b4
   repeat first|refine a9 rfl rfl ci ?_|apply ai;rfl|apply aG;rfl;(focus((repeat(first|assumption|exact ae|refine ab (by omega) ?_));done));rfl|apply dM;rfl;rfl
   refine aX fun hund3=>?_
   have hI0: ∀ k,cf (az mem) (aO v) k 128=cf (az mem) (aO v) k 128:=fun _=>rfl
   refine aI rfl rfl rfl (by kernel_rfl) (J9 (CY (b:=b) (left:=left) (puts:=puts) hm (g:=33) (caps:= [.ptr n2 0,.ptr (nx+1) 0,.ptr (n2+1) 0]) (by kernel_rfl)
    (fun n H1 n1=>H1.at' b=some (cT mem left puts)∧H1.at' n2=some (bsO (.slu r 0 (aO v).length))∧H1.at' r=some (u8R false (byV (aO v)))∧H1.at' (nx+1)=some (eE 0 0)∧H1.at' (n2+1)=some (pgO zeroP)∧H1.at' (nx+1+1)=some (fJ 0)∧n2+1+1≤n1∧(∀ m,m<nx→H1.at' m=H.at' m)∧32≤n∧n≤128∧cf (az mem) (aO v) (128-n) n=cf (az mem) (aO v) 96 32)
    (fun e H1 n1=>H1.at' b=some (cT mem left puts)∧H1.at' (nx+1+1)=some (fJ 0)∧n2+1+1≤n1∧(∀ m,m<nx→H1.at' m=H.at' m) ∧
      ((e=0∧(cf (az mem) (aO v) 96 32).1=0∧H1.at' (nx+1)=some (eE (cf (az mem) (aO v) 96 32).2.1 (cf (az mem) (aO v) 96 32).2.2.1)∧H1.at' (n2+1)=some (pgO (cf (az mem) (aO v) 96 32).2.2.2)) ∨
       (e=13∧(cf (az mem) (aO v) 96 32).1=13∧H1.at' (nx+1)=some (eE 0 0))))
    (fun n H1 n1 h=>h.1) ?_ ?_ ?_ ?_) ?_)
   ·rintro n H3 n3 H4 n4 ⟨i1,i2,i3,i4,i5,i6,i7,i8,i9,i10,i11⟩ hle hs
    exact⟨(hs _ (by omega)).trans i1,(hs _ (by omega)).trans i2,(hs _ (by omega)).trans i3,(hs _ (by omega)).trans i4,(hs _ (by omega)).trans i5,(hs _ (by omega)).trans i6,by omega,fun m hm=>(hs _ (by omega)).trans (i8 m hm),i9,i10,i11⟩
   ·rintro n p H3 n3 h32 h128 ⟨i1,i2,i3,i4,i5,i6,i7,i8,i9,i10,i11⟩ hrd
    obtain⟨hpp,_,_⟩:=cN hrd (dO hm h128)
    refine J9 (Hw (bc:=n2) (t:=nx+1) (to:=n2+1) (s:= .slu r 0 (aO v).length) (it:=aO v) (x0:=zeroP) i2 (jp i3) hpp i4 i5 ah (by omega) (by omega)) ?_
    rintro⟨_,H4,n4⟩ ⟨g1,g2,g3,g4⟩
    dsimp only at g1 g2 g3 g4 ⊢
    have hgo:cf (az mem) (aO v) (128-n) n=if(fm p (aO v)).2.2≠0 then cf (az mem) (aO v) (128-(n+1)) (n+1) else(0,n,(fm p (aO v)).2.1,(fm p (aO v)).1):=by
     rw [show 128-n=(128-(n+1))+1 by omega]
     show(if _ then _ else _)=_
     rw [hrd,JG (fun h=>h rfl)]
    by_cases he:(fm p (aO v)).2.2=0
    ·obtain⟨g5,g6,g7⟩:=g3 he
     rw [JG (fun h=>h he),i11] at hgo
     exact .inr ⟨true,0,.inl rfl,g5,(g2 _ (by omega) (by omega) (by omega)).trans i1,(g2 _ (by omega) (by omega) (by omega)).trans i6,by omega,fun m hm=>(g2 _ (by omega) (by omega) (by omega)).trans (i8 m hm),.inl ⟨rfl,by rw [hgo],by rw [hgo];exact g6,by rw [hgo];exact g7⟩⟩
    ·obtain⟨g5,g6,g7⟩:=g4 he
     rw [JH he,i11] at hgo
     exact .inl ⟨g5,(g2 _ (by omega) (by omega) (by omega)).trans i1,(g2 _ (by omega) (by omega) (by omega)).trans i2,(g2 _ (by omega) (by omega) (by omega)).trans i3,g6,g7,(g2 _ (by omega) (by omega) (by omega)).trans i6,by omega,fun m hm=>(g2 _ (by omega) (by omega) (by omega)).trans (i8 m hm),by omega,by omega,hgo.symm⟩
   ·rintro n H3 n3 h32 h128 ⟨i1,i2,i3,i4,i5,i6,i7,i8,i9,i10,i11⟩ hrd
    have hgo:cf (az mem) (aO v) (128-n) n=(13,0,0,zeroP):=by
     rw [show 128-n=(128-(n+1))+1 by omega]
     show(if _ then _ else _)=_
     rw [hrd,JH (by decide)]
    exact⟨i1,i6,i7,i8,.inr ⟨rfl,by rw [← i11,hgo],i4⟩⟩
   ·exact⟨by(repeat(refine ab (by omega) ?_));exact(bo b lb).trans hb,by repeat(first|exact ae|refine ab (by omega) ?_),by(repeat(refine ab (by omega) ?_));exact b1,by repeat(first|assumption|refine ab (by omega) ?_),by repeat(exact ae),by repeat(first|exact ae|refine ab (by omega) ?_),by omega,fun m hm=>by(repeat(refine ab (by omega) ?_));exact bo m hm,by omega,by omega,rfl⟩
   have hG:=mR (az mem) (aO v) 96 32
   have hGl:=sW (az mem) (aO v) (fun n hn=>dO hm hn) 96 32 (by omega)
   have hG0:cf (az mem) (aO v) 0 128=(5,0,0,zeroP):=rfl
   generalize cf (az mem) (aO v) 96 32=G at hG hGl ⊢
   obtain⟨Ge,Gn,Gk,Gx⟩:=G
   clear b1 b5 b6 bo hund3
   rintro⟨_,H4,n4⟩ (⟨rfl,c1,_,_,c4,_,c6,c7,c8,_,_,c11⟩|⟨e,rfl,c1,c6,c7,c8,(⟨rfl,c9,c10,c11⟩|⟨rfl,c9,c10⟩)⟩)
   ·dsimp only at c1 c4 c6 c7 c8 c11 hG hGl ⊢
    rw [show cf (az mem) (aO v) (128-128) 128=(5,0,0,zeroP)from rfl] at c11
    obtain rfl:5=Ge:=(Prod.mk.inj c11).1
    rw [JH (by decide)]
    repeat first|apply ai;rfl|apply aG;rfl;(focus((repeat(first|assumption|exact ae|refine ab (by omega) ?_));done));rfl|apply dM;rfl;rfl|apply iv;rfl;decide
    (refine cW (R:=fun H8 n8=>(∃ a0 a1:Int,H8.at' (nx+1)=some (eE a0 a1))∧H8.at' (nx+1+1)=some (fJ 5)∧H8.at' b=some (cT mem left puts)∧nx≤n8∧ ∀ m,m<nx→H8.at' m=H.at' m) ⟨⟨_,_,by repeat(first|assumption|refine ab (by omega) ?_)⟩,by repeat(exact ae),by(repeat(refine ab (by omega) ?_));exact c1,by omega,fun m hm=>by(repeat(refine ab (by omega) ?_));exact c8 m hm⟩ ?_;rintro H8 n8 ⟨⟨a0,a1,e1⟩,e2,e5,e3,e4⟩;(apply bh;(focus(kernel_rfl));(focus(kernel_rfl)));(repeat(first|apply dw;rfl;assumption;rfl|refine dQ rfl rfl rfl (F.sz _ rfl) (by repeat(first|assumption|refine ab (by omega) ?_)) (by rfl) (by rfl) ?_|refine bX rfl rfl rfl (F.sz _ rfl) (by assumption) rfl (by exact Jh rfl) rfl (by rfl) ?_|apply aS;rfl));refine aA ⟨by kernel_rfl,?_,?_⟩;(focus(repeat(first|exact Kk|apply jU;rfl|apply gi;rfl;kernel_rfl|refine fX 0 rfl (by kernel_rfl) (by(repeat(refine⟨(by(exact am (F.ag _ rfl) rfl (by repeat(first|assumption|exact ae|refine ab (by omega) ?_)) (aB rfl))),?_⟩));exact Kk) ?_)));skip;refine ew Tryz.func11 (congrArg Array.toList Tryz.results11) (by kernel_rfl) (J9 p6 ?_);rintro _ rfl;refine⟨_,(by(repeat(first|exact Kb|apply Kc rfl (Kf (F.ag _ rfl) (by repeat(first|exact ae|refine ab (by omega) ?_)) (aB rfl))|apply Kc rfl (Ke (F.ag _ rfl) (by repeat(first|exact ae|refine ab (by omega) ?_)) (aq _ 0 rfl rfl))))),?_⟩;dsimp only;exact⟨rfl,by(repeat(refine ab (by omega) ?_));exact e5,by omega,fun m hm _=>by(repeat(refine ab (by omega) ?_));exact e4 m hm⟩)
   ·dsimp only at c1 c6 c7 c8 c9 c10 c11 hG hGl ⊢
    obtain rfl:Ge=0:=c9
    have hGn:=hG rfl
    rw [JG (fun h=>h rfl)]
    repeat first|apply bu hGl;rfl;(focus((repeat(first|assumption|refine ab (by omega) ?_));done))|apply ai;rfl|apply aG;rfl;(focus((repeat(first|assumption|exact ae|refine ab (by omega) ?_));done));rfl|apply iv;rfl;omega|apply dM;rfl;rfl
    by_cases hl:left=0
    ·subst hl
     rw [JH (show decide ((0:Int)=0)=true from rfl)]
     refine lN 141 rfl rfl rfl rfl (by kernel_rfl) (J9 (vp (n:=Gn) (by repeat(first|assumption|refine ab (by omega) ?_)) hm (by omega) hGl) ?_)
     rintro _ rfl
     dsimp only
     repeat first|apply ai;rfl|apply aG;rfl;(focus((repeat(exact ae));done));rfl|apply iv;rfl;decide
     (refine cW (R:=fun H8 n8=>(∃ a0 a1:Int,H8.at' (nx+1)=some (eE a0 a1))∧H8.at' (nx+1+1)=some (fJ 8)∧H8.at' b=some (cT mem 0 puts)∧nx≤n8∧ ∀ m,m<nx→H8.at' m=H.at' m) ⟨⟨_,_,by repeat(first|assumption|refine ab (by omega) ?_)⟩,by repeat(exact ae),by(repeat(refine ab (by omega) ?_));exact c1,by omega,fun m hm=>by(repeat(refine ab (by omega) ?_));exact c8 m hm⟩ ?_;rintro H8 n8 ⟨⟨a0,a1,e1⟩,e2,e5,e3,e4⟩;(apply bh;(focus(kernel_rfl));(focus(kernel_rfl)));(repeat(first|apply dw;rfl;assumption;rfl|refine dQ rfl rfl rfl (F.sz _ rfl) (by repeat(first|assumption|refine ab (by omega) ?_)) (by rfl) (by rfl) ?_|refine bX rfl rfl rfl (F.sz _ rfl) (by assumption) rfl (by exact Jh rfl) rfl (by rfl) ?_|apply aS;rfl));refine aA ⟨by kernel_rfl,?_,?_⟩;(focus(repeat(first|exact Kk|apply jU;rfl|apply gi;rfl;kernel_rfl|refine fX 0 rfl (by kernel_rfl) (by(repeat(refine⟨(by(exact am (F.ag _ rfl) rfl (by repeat(first|assumption|exact ae|refine ab (by omega) ?_)) (aB rfl))),?_⟩));exact Kk) ?_)));skip;refine ew Tryz.func11 (congrArg Array.toList Tryz.results11) (by kernel_rfl) (J9 p6 ?_);rintro _ rfl;refine⟨_,(by(repeat(first|exact Kb|apply Kc rfl (Kf (F.ag _ rfl) (by repeat(first|exact ae|refine ab (by omega) ?_)) (aB rfl))|apply Kc rfl (Ke (F.ag _ rfl) (by repeat(first|exact ae|refine ab (by omega) ?_)) (aq _ 0 rfl rfl))))),?_⟩;dsimp only;exact⟨rfl,by(repeat(refine ab (by omega) ?_));exact e5,by omega,fun m hm _=>by(repeat(refine ab (by omega) ?_));exact e4 m hm⟩)
    ·rw [JG (by rw [J7];exact hl)]
     refine lN 141 rfl rfl rfl rfl (by kernel_rfl) (J9 (vj (n:=Gn) (by repeat(first|assumption|refine ab (by omega) ?_)) hm (by omega) hGl hl hl2 hputs) ?_)
     rintro⟨_,H5,n5⟩ ⟨rfl,d1,d2,d3⟩
     dsimp only at d1 d2 d3 ⊢
     have d4:H5.at' (nx+1)=some (eE Gn Gk):=(d3 _ (by omega) (by omega)).trans (by repeat(first|assumption|refine ab (by omega) ?_))
     have d5:H5.at' (nx+1+1)=some (fJ 0):=(d3 _ (by omega) (by omega)).trans (by repeat(exact ae))
     have dold: ∀ m,m<nx→m≠b→H5.at' m=H.at' m:=fun m hm hmb=>(d3 _ (by omega) hmb).trans (by(repeat(refine ab (by omega) ?_));exact c8 m hm)
     clear c1 c6 c8 c10 c11 d3
     repeat first|apply ai;rfl|apply aG;rfl;(focus((repeat(first|assumption|exact ae|refine ab (by omega) ?_));done));rfl|apply dM;rfl;rfl
     refine ew Tryz.func11 (congrArg Array.toList Tryz.results11) (by kernel_rfl) (J9 p6 ?_)
     rintro _ rfl
     refine⟨_,(by(repeat(first|exact Kb|apply Kc rfl (Kf (F.ag _ rfl) (by repeat(first|exact ae|refine ab (by omega) ?_)) (aB rfl))|apply Kc rfl (Ke (F.ag _ rfl) (by repeat(first|exact ae|refine ab (by omega) ?_)) (aq _ 0 rfl rfl))))),?_⟩
     dsimp only
     exact⟨rfl,by(repeat(refine ab (by omega) ?_));exact d1,by omega,fun m h1 h2=>by(repeat(refine ab (by omega) ?_));exact dold m h1 h2⟩
   ·dsimp only at c1 c6 c7 c8 c9 c10 hG hGl ⊢
    obtain rfl:Ge=13:=c9
    rw [JH (by decide)]
    repeat first|apply ai;rfl|apply aG;rfl;(focus((repeat(first|assumption|exact ae));done));rfl|apply iv;rfl;decide
    (refine cW (R:=fun H8 n8=>(∃ a0 a1:Int,H8.at' (nx+1)=some (eE a0 a1))∧H8.at' (nx+1+1)=some (fJ 13)∧H8.at' b=some (cT mem left puts)∧nx≤n8∧ ∀ m,m<nx→H8.at' m=H.at' m) ⟨⟨_,_,by repeat(first|assumption|refine ab (by omega) ?_)⟩,by repeat(exact ae),by(repeat(refine ab (by omega) ?_));exact c1,by omega,fun m hm=>by(repeat(refine ab (by omega) ?_));exact c8 m hm⟩ ?_;rintro H8 n8 ⟨⟨a0,a1,e1⟩,e2,e5,e3,e4⟩;(apply bh;(focus(kernel_rfl));(focus(kernel_rfl)));(repeat(first|apply dw;rfl;assumption;rfl|refine dQ rfl rfl rfl (F.sz _ rfl) (by repeat(first|assumption|refine ab (by omega) ?_)) (by rfl) (by rfl) ?_|refine bX rfl rfl rfl (F.sz _ rfl) (by assumption) rfl (by exact Jh rfl) rfl (by rfl) ?_|apply aS;rfl));refine aA ⟨by kernel_rfl,?_,?_⟩;(focus(repeat(first|exact Kk|apply jU;rfl|apply gi;rfl;kernel_rfl|refine fX 0 rfl (by kernel_rfl) (by(repeat(refine⟨(by(exact am (F.ag _ rfl) rfl (by repeat(first|assumption|exact ae|refine ab (by omega) ?_)) (aB rfl))),?_⟩));exact Kk) ?_)));skip;refine ew Tryz.func11 (congrArg Array.toList Tryz.results11) (by kernel_rfl) (J9 p6 ?_);rintro _ rfl;refine⟨_,(by(repeat(first|exact Kb|apply Kc rfl (Kf (F.ag _ rfl) (by repeat(first|exact ae|refine ab (by omega) ?_)) (aB rfl))|apply Kc rfl (Ke (F.ag _ rfl) (by repeat(first|exact ae|refine ab (by omega) ?_)) (aq _ 0 rfl rfl))))),?_⟩;dsimp only;exact⟨rfl,by(repeat(refine ab (by omega) ?_));exact e5,by omega,fun m hm _=>by(repeat(refine ab (by omega) ?_));exact e4 m hm⟩)
abbrev uI:=(Nat×Nat)×gf
abbrev yz(n k:Nat)(s1 s2:SV)(x y:Nat):List SV:= [.sc (.int .i64 (n:Int)),.sc (.int .i64 (k:Int)),s1,s2,.sc (.int .u64 (x:Int)),.sc (.int .u64 (y:Int))]
def RowsC(H:au)(ok:Nat→Prop):List SV→List uI→Prop
 | ws,[]=>ws= []
 | ws,x :: l=> ∃ s1 s2 rest r,ws=yz x.1.1 x.1.2 s1 s2 x.2.2.2.1 x.2.2.2.2 ++ rest∧ok r∧BlkS H s1 r x.2.1∧BlkS H s2 r x.2.2.1∧RowsC H ok rest l
theorem RowsC.frame{H H':au}{ok ok':Nat→Prop}: ∀ {l:List uI} {ws:List SV},RowsC H ok ws l→(∀ r,ok r→ok' r∧H'.at' r=H.at' r)→RowsC H' ok' ws l
 | [],ws,h,_=>h
 | x :: l,ws,h,hf=>by
   obtain⟨s1,s2,rest,r,h1,h2,h3,h4,h5⟩:=h
   have hr:=hf r h2
   exact⟨s1,s2,rest,r,h1,hr.1,h3.frame hr.2,h4.frame hr.2,RowsC.frame h5 hf⟩
theorem RowsC.len{H:au}{ok:Nat→Prop}: ∀ {l:List uI} {ws:List SV},RowsC H ok ws l→ws.length=l.length*6
 | [],ws,h=>by rw [show ws= [] from h];rfl
 | x :: l,ws,h=>by
   obtain⟨s1,s2,rest,r,rfl,_,_,_,h5⟩:=h
   have:=RowsC.len h5
   simp only [Jz,Jy,List.length_nil]
   omega
theorem RowsC.snoc{H:au}{ok:Nat→Prop}{y:uI}{s1 s2:SV}{r:Nat}(hr:ok r)(hk:BlkS H s1 r y.2.1)(hw:BlkS H s2 r y.2.2.1): ∀ {l:List uI} {ws:List SV},RowsC H ok ws l→RowsC H ok (ws ++ yz y.1.1 y.1.2 s1 s2 y.2.2.2.1 y.2.2.2.2) (l ++ [y])
 | [],ws,h=>by
   rw [show ws= [] from h]
   exact⟨s1,s2,[],r,by simp,hr,hk,hw,rfl⟩
 | x :: l,ws,h=>by
   obtain⟨t1,t2,rest,r',rfl,h2,h3,h4,h5⟩:=h
   exact⟨t1,t2,rest ++ _,r',by rw [JR],h2,h3,h4,RowsC.snoc hr hk hw h5⟩
def RowsAt(H:au)(ok:Nat→Prop)(r:Nat)(s:SV)(l:List uI):Prop:=
 (l= []∧s=dC)∨ ∃ (ws:List SV) (L:List Nat),0<l.length∧s = .slu r 0 l.length∧H.at' r=some (nz false l.length 6 67 ws)∧(∀ m∈L,ok m∧m≠r)∧ok r∧RowsC H (·∈L) ws l
theorem RowsAt.grow{H':au}{ok':Nat→Prop}{l:List uI}(h:RowsAt H ok r s l)(hf: ∀ m,ok m→ok' m∧H'.at' m=H.at' m):RowsAt H' ok' r s l:=by
 rcases h with h|⟨ws,L,h0,h1,h2,h3,h4,h6⟩
 ·exact .inl h
 ·exact .inr ⟨ws,L,h0,h1,(hf r h4).2.trans h2,fun m hm=>⟨(hf m (h3 m hm).1).1,(h3 m hm).2⟩,(hf r h4).1,h6.frame fun r hr=>⟨hr,(hf r (h3 r hr).1).2⟩⟩
theorem RowsAt.len{l:List uI}(h:RowsAt H ok r s l):s.one=true:=by
 rcases h with ⟨_,rfl⟩|⟨_,_,_,rfl,_⟩ <;> rfl
def gT(n:Nat)(p:List UInt8):Nat→List uI
 | 0=> []
 | j+1=>gT n p j ++ if ak p j=0 then [] else [((n,j),(ofV (aV p j)).getD iV)]
theorem lT(n:Nat)(p:List UInt8): ∀ j,(gT n p j).length≤j
 | 0=>Jv _
 | j+1=>by
   have:=lT n p j
   unfold gT
   rw [Jz]
   split
   ·simp;omega
   ·simp;omega
abbrev wZ(n:Nat)(p:List UInt8):List uI:=gT n p (ac p)
theorem BlkS.there(h:BlkS H s r l)(hl:l≠ []): ∃ vo,H.at' r=some vo:=by
 rcases h with ⟨_,h⟩|⟨_,_,_,vo,h,_⟩
 ·exact absurd h hl
 ·exact⟨vo,h⟩
theorem zk(h:ofV l=some v):iT v=true:=by
 unfold ofV CS at h
 split at h
 ·cases h
 ·split at h
  ·rename_i h2
   rw [← Option.some.inj h]
   exact h2.2
  ·cases h
def ng(pf:Nat→List UInt8):Nat→Nat→Option (List uI)
 | 0,_=>some []
 | k+1,n=>if(aU (pf n)).2≠0 then none else(ng pf k (n+1)).map (wZ n (aU (pf n)).1 ++ ·)
def Aw(pf:Nat→List UInt8):Option (List uI):=ng pf 96 32
theorem zx(hv:VerIs H s v):Fnc Tryz.prog 18 [s] H nx (fun q=>q=(.sc (.bool (iT v)),H,nx)):=by
 refine Fnc.bv (Free.sc _) ?_
 obtain⟨k,w,rfl,hk,hw⟩:=hv
 refine Ka Tryz.func18 rfl rfl ?_
 refine aX fun hund=>?_
 have hf: ∀ {vo:VO} (b:Nat) (vo':VO),H.at' b=some vo'→(H.set nx vo).at' b=some vo':=fun b vo' hb=>(aa _ _ (by have:=hund b vo' hb;omega)).trans hb
 have hk2: ∀ {vo:VO},BsIs (H.set nx vo) k (byV v.1):=fun {vo}=>hk.frame hf
 have hw2: ∀ {vo:VO},BsIs (H.set nx vo) w (byV v.2.1):=fun {vo}=>hw.frame hf
 have hm:iT v=decide ((1≤v.1.length∧v.1.length≤32)∧v.2.1.length≤128∧(1≤v.2.2.1∧v.2.2.1≤4000)∧v.2.2.2≤4000):=rfl
 have hl1:=bK v.1
 have hl2:=bK v.2.1
 (repeat' (first|apply ai;rfl|apply aG;rfl;(focus((repeat(exact ae));done));rfl|refine dj rfl rfl (F.un _ rfl) rfl hk2 ?_;rw [bK]|refine dj rfl rfl (F.un _ rfl) rfl hw2 ?_;rw [bK]|(refine ey rfl rfl rfl rfl ?_ ?_ <;> intro hq)|(refine pN rfl rfl rfl rfl ?_ ?_ <;> intro hq2)))
 all_goals(apply bP Tryz.func18 Tryz.results18;rfl)
 all_goals(refine⟨?_,JE _,fun m hm=>aa _ _ (by omega)⟩)
 all_goals(rw [hm];first|(rw [JZ (by omega)];rfl)|(rw [J0 (by omega)];rfl))
theorem Al(l:List UInt8):l.flatMap (fun c=> [Value.int .u8 (c.toNat:Int)])=byV l:=by
 induction l with
 | nil=>rfl
 | cons c l ih=>rw [List.flatMap_cons,ih];rfl
theorem recB:RecOf (fun c:UInt8=> [Value.int .u8 (c.toNat:Int)]) 1:=yJ (fun _=>rfl)
theorem Hj{size:Nat}(h1:1≤size)(h2:size≤8)(hn:n≤18446744073709551615):Fnc Tryz.prog 91 [.sc (.int .u64 (n:Int)),.sc (.int .i64 (size:Int))] H nx
 (fun q=> ∃ r',q.1 = .slu r' 0 size∧q.2.1.at' r'=some (dat false size 1 5 (byV (beB n size)))∧nx≤r'∧r'<q.2.2∧nx≤q.2.2∧ ∀ m,m<nx→q.2.1.at' m=H.at' m):=by
 refine Ka Tryz.func91 rfl rfl ?_
 repeat first|apply ai;rfl|apply aL;rfl;omega;omega
 refine kq (d:=5) 1 5 rfl rfl ?_
 refine bC (α:=Nat×Nat) (fun x=> [(0,.sc (.int .u64 (n:Int))),(5,.slu x.2 0 ((beB n size).take x.1).length),(6,.sc (.int .i64 ((size:Int)-1-(x.1:Int))))]) (fun x H1 n1=>x.1≤size∧nx≤x.2∧x.2<n1∧H1.at' x.2=some (dat false ((beB n size).take x.1).length 1 5 (((beB n size).take x.1).flatMap fun c=> [Value.int .u8 (c.toNat:Int)]))∧ ∀ m,m<nx→H1.at' m=H.at' m) (fun x=>size-x.1) (0,nx)
  ⟨Jw _,Jv _,Nat.lt_succ_self _,aj _ _ _,fun m hm=>aa _ _ (by omega)⟩ (Kg (by repeat(first|exact Kk|refine⟨rfl,?_⟩|refine⟨fO (by(omega)),?_⟩))) ?_
 rintro⟨j,r⟩ H1 n1 ⟨a1,a2,a3,a4,a5⟩ ih
 dsimp only at a1 a2 a3 a4 a5 ih ⊢
 repeat apply ai;rfl
 refine eN rfl rfl rfl rfl (fun h=>?_) (fun h=>?_)
 ·have hj:j<size:=by omega
  have hl:((beB n size).take j).length=j:=by rw [JK,bq];omega
  have htk:=qF (n:=n) hj
  have hmul:IntKind.u64.wrap (8*((size-1-j:Nat):Int))=((8*(size-1-j):Nat):Int):=(J5 _ ⟨by omega,by omega⟩).trans (by omega)
  repeat first|apply ai;rfl|refine cd (bR (F.un _ rfl) (F.un _ rfl) rfl (show _=((size-1-j:Nat):Int)from(J5 _ ⟨by omega,by omega⟩).trans (by omega))) rfl rfl rfl ?_
  (refine cd (aw rfl rfl (.inr (.inr ⟨rfl,rfl⟩))) rfl rfl rfl ?_)
  rw [hmul]
  repeat first|apply ai;rfl|apply aL;rfl;omega;omega|refine cd (oy rfl rfl (by focus(omega)) (shrB (k:=size-1-j) (by omega) (by omega))) rfl rfl rfl ?_|refine cd (bR (F.un _ rfl) (F.un _ rfl) rfl (wO _)) rfl rfl rfl ?_|apply bM;rfl;rfl;exact(F.un _ rfl);exact(F.sz _ rfl);rfl;exact(F.ze _ rfl);rfl;rfl;rfl;rfl;rfl|refine lL (b:=1) (xs:=(beB n size).take j) (a:=UInt8.ofNat (n / 256 ^ (size-1-j))) rfl rfl rfl rfl (F.un _ rfl) (.inl ⟨_,F.un _ rfl⟩) (F.sz _ rfl) rfl (by kernel_rfl) (by kernel_rfl) (by repeat(first|assumption|refine ab (by omega) ?_)) (by repeat(exact ae)) (by rfl) (recB) (by omega) (by omega) ?_
  refine ih _ _ _ (j+1,n1+1) ⟨hj,by dsimp only;omega,by dsimp only;omega,?_,fun m hm=>?_⟩ (by dsimp only;omega) ?_
  ·dsimp only
   rw [htk]
   exact aj _ _ _
  ·refine(aa _ _ (by omega)).trans ((mz _ (by omega)).trans ((aa _ _ (by omega)).trans (a5 m hm)))
  ·dsimp only
   rw [htk,show(size:Int)-1-((j+1:Nat):Int)=(size:Int)-1-(j:Int)-1 by omega]
   exact Kg (by repeat(first|exact Kk|refine⟨rfl,?_⟩))
 ·obtain rfl:j=size:=by omega
  rw [Jn (by rw [bq];exact Jv _)] at a4 ⊢
  repeat apply ai;rfl
  (apply bP Tryz.func91 Tryz.results91;rfl)
  rw [Al] at a4
  rw [bq] at a4 ⊢
  exact⟨r,rfl,a4,a2,a3,by dsimp only;omega,a5⟩
theorem nq{bs:List UInt8}(hb:BsIs H s (byV bs))(h2:bs.length≤8):Fnc Tryz.prog 78 [s] H nx (fun q=>q=(.sc (.int .u64 (beN bs:Int)),H,nx)):=by
 have hlen:(byV bs).length=bs.length:=by simp
 refine Ka Tryz.func78 rfl rfl ?_
 repeat apply ai;rfl
 refine bC (α:=Nat) (fun j=> [(0,s),(3,.sc (.int .u64 (beN (bs.take j):Int))),(4,.sc (.int .i64 (j:Int)))]) (fun j H1 n1=>H1=H∧n1=nx∧j≤bs.length) (fun j=>bs.length-j) 0
  ⟨rfl,rfl,Jw _⟩ (Kg (Kj rfl)) ?_
 rintro j H1 n1 ⟨rfl,rfl,h3⟩ ih
 repeat first|apply cx;rfl|refine dj rfl rfl (F.un _ rfl) rfl hb ?_;rw [hlen]
 refine bn rfl rfl rfl rfl (fun h4=>?_) (fun h4=>?_)
 ·have hj:j<bs.length:=by omega
  have hlt:=mw (bs.take j)
  rw [JK,Nat.min_eq_left (by omega)] at hlt
  have hp:256 ^ j≤256 ^ 7:=Nat.pow_le_pow_right (by decide) (by omega)
  have hn:beN (bs.take j)<72057594037927936:=Nat.lt_of_lt_of_le hlt hp
  repeat first|apply ai;rfl|refine cd (sh rfl rfl (by focus(decide)) (shl8 hn)) rfl rfl rfl ?_
  refine xX (j:=j) rfl rfl rfl rfl (F.un _ rfl) (F.sz _ rfl) hb (by omega) ?_
  intro b o vo hvo hcell
  rw [rF] at hcell
  have hc:=(bs[j]).toNat_lt
  repeat first|apply ai;rfl|apply aL;rfl;omega;omega|refine cd (am (F.ag _ rfl) rfl hvo hcell) rfl rfl rfl ?_|refine cd (bR (F.un _ rfl) (F.un _ rfl) rfl (show _=((bs[j].toNat:Nat):Int)from J5 _ ⟨by omega,by omega⟩)) rfl rfl rfl ?_|refine cd (mJ rfl rfl (.inr (.inl rfl)) (or8 hn hc)) rfl rfl rfl ?_
  refine ih _ _ _ (j+1) ⟨rfl,rfl,by omega⟩ (by omega) ?_
  rw [wx hj]
  exact Kg (by repeat(first|exact Kk|refine⟨rfl,?_⟩))
 ·obtain rfl:j=bs.length:=by omega
  rw [List.take_length]
  repeat apply ai;rfl
  (apply bP Tryz.func78 Tryz.results78;rfl)
  rfl
theorem B1(h:BsIs H s (byV l)):BsIs H s (u8L ⟨l.toArray⟩):=h
theorem ww(b:ByteArray):(b == b)=true:=(MapKept.bytes_beq b b).2 rfl
theorem GX{a b:SV}(ha:VerIs H a v)(hb:VerIs H b v):Fnc Tryz.prog 17 [a,b] H nx (fun q=>q=(.sc (.bool true),H,nx)):=by
 refine Fnc.bv (Free.sc _) ?_
 obtain⟨k,w,rfl,hk,hw⟩:=ha
 obtain⟨k',w',rfl,hk',hw'⟩:=hb
 refine Ka Tryz.func17 rfl rfl ?_
 refine aX fun hund=>?_
 have hf: ∀ {vo vo':VO} (b:Nat) (w:VO),H.at' b=some w→((H.set nx vo).set (nx+1) vo').at' b=some w:=fun b w hb=>by
  have:=hund b w hb
  exact(aa _ _ (by omega)).trans ((aa _ _ (by omega)).trans hb)
 have k1: ∀ {vo vo':VO},BsIs ((H.set nx vo).set (nx+1) vo') k (u8L ⟨v.1.toArray⟩):=B1 (hk.frame hf)
 have k2: ∀ {vo vo':VO},BsIs ((H.set nx vo).set (nx+1) vo') k' (u8L ⟨v.1.toArray⟩):=B1 (hk'.frame hf)
 have w1: ∀ {vo vo':VO},BsIs ((H.set nx vo).set (nx+1) vo') w (u8L ⟨v.2.1.toArray⟩):=B1 (hw.frame hf)
 have w2: ∀ {vo vo':VO},BsIs ((H.set nx vo).set (nx+1) vo') w' (u8L ⟨v.2.1.toArray⟩):=B1 (hw'.frame hf)
 repeat first|apply ai;rfl|apply aG;rfl;(focus((repeat(first|exact ae|refine ab (by omega) ?_));done));rfl|apply dM;rfl;rfl|refine cd (lX (F.un _ rfl) (F.un _ rfl) (F.un _ rfl) rfl k1) rfl rfl rfl ?_|refine cd (lX (F.un _ rfl) (F.un _ rfl) (F.un _ rfl) rfl k2) rfl rfl rfl ?_|refine cd (lX (F.un _ rfl) (F.un _ rfl) (F.un _ rfl) rfl w1) rfl rfl rfl ?_|refine cd (lX (F.un _ rfl) (F.un _ rfl) (F.un _ rfl) rfl w2) rfl rfl rfl ?_|apply uO (r:=true);rfl;rfl;rfl;rfl;exact(ww _)
 (apply bP Tryz.func17 Tryz.results17;rfl)
 exact⟨rfl,by dsimp only;omega,fun m hm=>(aa _ _ (by omega)).trans (aa _ _ (by omega))⟩
theorem xQ{P:Program}{ro:Option Nat}{fn nt:Nat}{T:Tr SV}{k:List AIt}{dfs:List ADf}{Q:Pst}{ne sz:Nat}{rr:Bool}{rt:TypeId}{c:Tr SV}(hT:T.at' t=some (.slu r 0 n))(hb:H.at' r=some (.row rr ne sz rt c))(h0:0<ne)
 (h: ∀ C,ne≤C→Wp P ro ⟨fn,nt,T.set t (.sl r 0 n C),k,dfs,H,nx⟩ Q):Wp P ro ⟨fn,nt,T,k,dfs,H,nx⟩ Q:=by
 refine⟨fun K w0 e w tmps todo ds kd rof cs hS hTr htd hds hc2=>?_⟩
 obtain⟨z,hz,hlz⟩:=hS.rel _ _ hb
 obtain⟨g1,g2,g3,g4⟩:=Lies.row hlz
 have hnil:=g3 h0
 have hT2:TRel e nt (T.set t (.sl r 0 n z.cap)) tmps:=by
  refine⟨hTr.1,fun t' u hs=>?_⟩
  rcases bL hs with ⟨rfl,rfl⟩|⟨_,hs⟩
  ·obtain⟨v,f1,f2⟩:=hTr.2 _ _ hT
   refine⟨v,?_,f2⟩
   rw [← f1]
   simp [SV.conc,hz,Ent.eT hnil]
  ·exact hTr.2 _ _ hs
 exact(h z.cap g4).run K w0 e w tmps todo ds kd rof cs hS hT2 htd hds hc2
def Ja(s:SV):Prop:= ∃ k w x y,s=oh k w x y∧k.one=true∧w.one=true
theorem Hr(h:BlkAt H r 0 l){o:Nat}(ho:o+n≤l.length):BlkAt H r o ((l.drop o).take n):=by
 have:=((h.part (n:=o) (by omega)).2.part (n:=n) (by rw [JN];omega)).1
 rwa [JI] at this
theorem ofr_s{ro:Bool}(hr:H.at' r=some (dat ro l.length 1 5 (byV l)))(hl:l.length≤100000):Fnc Tryz.prog 36 [.slu r 0 l.length] H nx (fun q=> ∃ s',q.1 = .tup [s',.sc (.bool (ofR l).isSome)]∧Ja s'∧(∀ v,ofR l=some v→VerAt q.2.1 s' r v)∧nx≤q.2.2∧ ∀ m,m<nx→q.2.1.at' m=H.at' m):=by
 refine Ka Tryz.func36 rfl rfl ?_
 refine aX fun hund=>?_
 have lr:=hund _ _ hr
 repeat apply ai;rfl
 refine bn rfl rfl rfl rfl (fun h1=>?_) (fun h1=>?_)
 ·have hv:ofR l=none:=by unfold ofR;rw [JH (by omega)]
  repeat first|apply ai;rfl|apply aG;rfl;(focus((repeat(exact ae));done));rfl
  ((apply bm Tryz.func36 (congrArg Array.toList Tryz.results36));(focus(repeat(first|exact Kb|apply Kd rfl|apply Kc rfl (Ke (F.ag _ rfl) (by repeat(exact ae)) (aq _ 0 rfl rfl))))))
  rw [hv]
  exact⟨_,rfl,⟨_,_,_,_,rfl,rfl,rfl⟩,fun v h=>(by cases h),by dsimp only;omega,fun m hm=>(aa _ _ (by omega)).trans (aa _ _ (by omega))⟩
 ·have h20:20≤l.length:=by omega
  have hr1:(H.set nx (fw (eF dC dC 0 0))).at' r=some (dat ro l.length 1 5 (byV l)):=(aa _ _ (by omega)).trans hr
  have hB1: ∀ H':au,H'.at' r=H.at' r→BlkAt H' r 0 l:=fun H' h=>tv (h.trans hr)
  refine xQ (t:=0) rfl hr1 (by omega) ?_
  intro C hC
  have hk16:((l.drop 16).take 2).length=2:=by rw [JK,JN];omega
  have hklt:=mw ((l.drop 16).take 2)
  rw [hk16] at hklt
  repeat apply ai;rfl
  (apply xY (lw:=16) (hg:=18);rfl;rfl;rfl;exact(F.un _ rfl);exact(F.sz _ rfl);exact(ir rfl rfl);exact(ir rfl rfl);(focus(omega));(focus(omega));exact(JG (by omega)))
  refine aI rfl rfl rfl (by kernel_rfl) (J9 (nq (s:= .sl r 16 (18-16) (C-16)) (bs:=(l.drop 16).take 2) (by have:=(Hr (hB1 _ (aa _ _ (by omega):(H.set nx (fw (eF dC dC 0 0))).at' r=H.at' r)) (o:=16) (n:=2) (by omega)).bs (C:=C-16);rwa [hk16] at this) (by omega)) ?_)
  rintro _ rfl
  dsimp only
  have hof:ofR l=(if l.length<20+beN ((l.drop 16).take 2) then none else if iT (ny l)=true∧beN ((l.drop (18+beN ((l.drop 16).take 2))).take 2)=(l.drop (20+beN ((l.drop 16).take 2))).length then some (ny l) else none):=by unfold ofR;rw [JG (by omega)]
  have hver:ny l=((l.drop 18).take (beN ((l.drop 16).take 2)),l.drop (20+beN ((l.drop 16).take 2)),beN (l.take 8),beN ((l.drop 8).take 8)):=rfl
  generalize beN ((l.drop 16).take 2)=kk at hklt hof hver ⊢
  repeat first|apply ai;rfl|apply aL;rfl;omega;omega|refine cd (bR (F.un _ rfl) (F.un _ rfl) rfl (show _=((kk:Nat):Int)from Jd _ ⟨by omega,by omega⟩)) rfl rfl rfl ?_|refine cd (gA (F.un _ rfl) rfl) rfl rfl rfl ?_
  refine bn rfl rfl rfl rfl (fun h2=>?_) (fun h2=>?_)
  ·have hv:ofR l=none:=by rw [hof,JH (by omega)]
   repeat first|apply ai;rfl|apply aG;rfl;(focus((repeat(exact ae));done));rfl
   ((apply bm Tryz.func36 (congrArg Array.toList Tryz.results36));(focus(repeat(first|exact Kb|apply Kd rfl|apply Kc rfl (Ke (F.ag _ rfl) (by repeat(exact ae)) (aq _ 0 rfl rfl))))))
   rw [hv]
   exact⟨_,rfl,⟨_,_,_,_,rfl,rfl,rfl⟩,fun v h=>(by cases h),by dsimp only;omega,fun m hm=>(aa _ _ (by omega)).trans (aa _ _ (by omega))⟩
  ·have hv:=hof
   rw [JG (by omega)] at hv
   clear hof
   have l8:(l.take 8).length=8:=by rw [JK];omega
   have l16:((l.drop 8).take 8).length=8:=by rw [JK,JN];omega
   have g8: ∀ (H':au) (nx':Nat),H'.at' r=H.at' r→Fnc Tryz.prog 78 [.sl r (0+0) (8-0) (C-0)] H' nx' (fun q=>q=(.sc (.int .u64 (beN (l.take 8):Int)),H',nx')):=fun H' nx' h=>nq (by
    have:=(Hr (hB1 H' h) (o:=0) (n:=8) (by omega)).bs (C:=C-0)
    rwa [List.drop_zero,l8] at this) (by omega)
   have g16: ∀ (H':au) (nx':Nat),H'.at' r=H.at' r→Fnc Tryz.prog 78 [.sl r (0+8) (16-8) (C-8)] H' nx' (fun q=>q=(.sc (.int .u64 (beN ((l.drop 8).take 8):Int)),H',nx')):=fun H' nx' h=>nq (by
    have:=(Hr (hB1 H' h) (o:=8) (n:=8) (by omega)).bs (C:=C-8)
    rwa [l16] at this) (by omega)
   have lk:((l.drop 18).take kk).length=kk:=by rw [JK,JN];omega
   have lv:(l.drop (20+kk)).length=l.length-(20+kk):=JN
   have hK: ∀ H':au,H'.at' r=H.at' r→BlkS H' (.sl r (0+18) (18+kk-18) (C-18)) r (ny l).1:=fun H' h=>by
    rw [hver]
    refine .inr ⟨18,C-18,?_,Hr (hB1 H' h) (by omega)⟩
    rw [lk,JI,Nat.add_sub_cancel_left]
   have hV: ∀ H':au,H'.at' r=H.at' r→BlkS H' (.sl r (if C=20+kk then 0 else 0+(20+kk)) (l.length-(20+kk)) (C-(20+kk))) r (ny l).2.1:=fun H' h=>by
    rw [hver]
    refine .inr ⟨if C=20+kk then 0 else 0+(20+kk),C-(20+kk),by rw [lv],?_⟩
    by_cases hc:C=20+kk
    ·have:l.drop (20+kk)= []:=List.drop_of_length_le (by omega)
     rw [this]
     exact BlkAt.none _ (h.trans hr) _
    ·rw [JG hc,JI]
     have:=((hB1 H' h).part (n:=20+kk) (by omega)).2
     rwa [JI] at this
   repeat apply ai;rfl
   (apply gt;(focus(kernel_rfl));(focus(kernel_rfl)))
   refine dR 2 (Jh rfl) ?_
   repeat first|apply aS;rfl|apply bS;rfl;rfl;exact(fun _ h=>by cases h);exact(cR (l:=0) (h:=8) (F.un _ rfl) (F.sz _ rfl) rfl kj (ir rfl rfl) (by omega) (by omega) (JG (by omega)))
   refine aA ?_;refine dS rfl rfl rfl (by kernel_rfl) (g8 _ _ (by(repeat(refine ab (by omega) ?_));rfl)) ?_
   refine dR 2 (Jh rfl) ?_
   repeat first|apply aS;rfl|apply bS;rfl;rfl;exact(fun _ h=>by cases h);exact(cR (l:=8) (h:=16) (F.un _ rfl) (F.sz _ rfl) rfl (ir rfl rfl) (ir rfl rfl) (by omega) (by omega) (JG (by omega)))
   refine aA ?_;refine dS rfl rfl rfl (by kernel_rfl) (g16 _ _ (by(repeat(refine ab (by omega) ?_));rfl)) ?_
   refine iL ?_
   repeat first|apply aS;rfl|refine oZ (ef (F.zl _ rfl)) rfl rfl rfl ?_|refine bj (aw rfl rfl (.inl ⟨rfl,(Jd _ ⟨(by focus(omega)),(by focus(omega))⟩).symm⟩)) rfl rfl rfl ?_|refine pJ (cI (F.sz _ rfl) rfl rfl rfl (by repeat(exact ae)) (by rfl) (by exact Jh rfl) (by rfl)) rfl rfl ?_|apply bS;rfl;rfl;exact(fun _ h=>by cases h);exact(cR (l:=18) (h:=18+kk) (F.un _ rfl) (F.sz _ rfl) rfl (ir rfl rfl) (ir rfl (by omega)) (by omega) (by omega) (JG (by omega)))|apply bS;rfl;rfl;exact(fun _ h=>by cases h);exact(cR (l:=20+kk) (h:=l.length) (F.un _ rfl) (F.sz _ rfl) rfl (ir rfl (by omega)) kj (by omega) (by omega) rfl)
   refine aA ⟨by kernel_rfl,?_,?_⟩;(focus(repeat(first|exact Kk|refine⟨.inl rfl,?_⟩|refine⟨.inr (.inl (by(repeat(refine⟨(by first|exact mI rfl|exact aw rfl rfl (.inl ⟨rfl,(Jd _ ⟨by omega,by omega⟩).symm⟩)|exact cR (l:=0) (h:=8) (F.un _ rfl) (F.sz _ rfl) rfl kj (ir rfl rfl) (by omega) (by omega) (JG (by omega))|exact cR (l:=8) (h:=16) (F.un _ rfl) (F.sz _ rfl) rfl (ir rfl rfl) (ir rfl rfl) (by omega) (by omega) (JG (by omega))|exact cR (l:=18) (h:=18+kk) (F.un _ rfl) (F.sz _ rfl) rfl (ir rfl rfl) (ir rfl (by omega)) (by omega) (by omega) (JG (by omega))|exact cR (l:=20+kk) (h:=l.length) (F.un _ rfl) (F.sz _ rfl) rfl (ir rfl (by omega)) kj (by omega) (by omega) rfl),?_⟩));exact Kk)),?_⟩|refine⟨.inr (.inr (by(repeat(refine⟨(by exact eg rfl (by kernel_rfl) (by first|exact g8 _ _ (by(repeat(refine ab (by omega) ?_));rfl)|exact g16 _ _ (by(repeat(refine ab (by omega) ?_));rfl))),?_⟩));exact Kk)),?_⟩)))
   obtain⟨kS,hkS⟩: ∃ kS,kS=SV.sl r (0+18) (18+kk-18) (C-18):=⟨_,rfl⟩
   refine cW (R:=fun H7 n7=>n7=nx+1+1∧H7.at' (nx+1)=some (fw (eF (.sl r (0+18) (18+kk-18) (C-18)) (.sl r (if C=20+kk then 0 else 0+(20+kk)) (l.length-(20+kk)) (C-(20+kk))) (beN (l.take 8)) (beN ((l.drop 8).take 8))))∧H7.at' nx=some (fw (eF dC dC 0 0))∧ ∀ m,m<nx→H7.at' m=H.at' m) ⟨rfl,by repeat(exact ae),by repeat(first|exact ae|refine ab (by omega) ?_),fun m hm=>by(repeat(refine ab (by omega) ?_));rfl⟩ ?_
   rintro H7 n7 ⟨rfl,b5,b2,bo⟩
   clear kS hkS g8 g16 l8 l16 hr1 hk16
   have br:H7.at' r=H.at' r:=bo r lr
   have hat: ∀ H':au,H'.at' r=H7.at' r→VerAt H' (oh (.sl r (0+18) (18+kk-18) (C-18)) (.sl r (if C=20+kk then 0 else 0+(20+kk)) (l.length-(20+kk)) (C-(20+kk))) (beN (l.take 8)) (beN ((l.drop 8).take 8))) r (ny l):=fun H' h=>⟨_,_,by rw [hver],hK H' (h.trans br),hV H' (h.trans br)⟩
   have cM: ∀ (H':au) (nx':Nat),H'.at' r=H7.at' r→Fnc Tryz.prog 18 [oh (.sl r (0+18) (18+kk-18) (C-18)) (.sl r (if C=20+kk then 0 else 0+(20+kk)) (l.length-(20+kk)) (C-(20+kk))) (beN (l.take 8)) (beN ((l.drop 8).take 8))] H' nx' (fun q=>q=(.sc (.bool (iT (ny l))),H',nx')):=fun H' nx' h=>zx (hat H' h).is
   have l2:((l.drop (18+kk)).take 2).length=2:=by rw [JK,JN];omega
   have g2: ∀ (H':au) (nx':Nat),H'.at' r=H7.at' r→Fnc Tryz.prog 78 [.sl r (0+(18+kk)) (20+kk-(18+kk)) (C-(18+kk))] H' nx' (fun q=>q=(.sc (.int .u64 (beN ((l.drop (18+kk)).take 2):Int)),H',nx')):=fun H' nx' h=>nq (by
    have:=(Hr (hB1 H' (h.trans br)) (o:=18+kk) (n:=2) (by omega)).bs (C:=C-(18+kk))
    rw [JI,show 20+kk-(18+kk)=2 by omega]
    rwa [l2] at this) (by omega)
   have hn2:=mw ((l.drop (18+kk)).take 2)
   rw [l2] at hn2
   generalize beN ((l.drop (18+kk)).take 2)=n2 at hn2 hv g2
   repeat apply ai;rfl
   cases hm:iT (ny l)with
   | false=>
     rw [hm] at cM
     have hno:ofR l=none:=by rw [hv,JG (fun h=>by rw [hm] at h;cases h.1)]
     (apply gt;(focus(kernel_rfl));(focus(kernel_rfl)))
     refine dR 2 (Jh rfl) ?_
     repeat apply dw;rfl;assumption;rfl
     refine aA ?_;(apply dS;rfl;rfl;rfl;(focus(kernel_rfl));exact(cM _ _ rfl))
     refine iL ?_
     repeat first|apply aS;rfl|apply cq;rfl;rfl|refine pJ (cI (F.sz _ rfl) rfl rfl rfl (by assumption) (by rfl) (by exact Jh rfl) (by rfl)) rfl rfl ?_
     refine aA ⟨by kernel_rfl,?_,?_⟩;(focus(repeat(first|exact Kk|refine⟨.inl rfl,?_⟩|refine⟨.inr (.inl (by(repeat(refine⟨(by first|exact mI rfl|exact ba (F.ag _ rfl) rfl (by repeat(first|assumption|refine ab (by omega) ?_)) (aq _ 0 rfl rfl)),?_⟩));exact Kk)),?_⟩|refine⟨.inr (.inr (by(repeat(refine⟨(by exact eg rfl (by kernel_rfl) (by(exact cM _ _ (by(repeat(refine ab (by omega) ?_));rfl)))),?_⟩));exact Kk)),?_⟩)))
     ((apply bm Tryz.func36 (congrArg Array.toList Tryz.results36));(focus(repeat(first|exact Kb|apply Kd rfl|apply Kc rfl (Ke (F.ag _ rfl) (by repeat(exact ae)) (aq _ 0 rfl rfl))))))
     rw [hno]
     exact⟨_,rfl,⟨_,_,_,_,rfl,rfl,rfl⟩,fun v h=>(by cases h),by dsimp only;omega,fun m hm=>by(repeat(refine ab (by omega) ?_));exact bo m hm⟩
   | true=>
     rw [hm] at cM
     (apply gt;(focus(kernel_rfl));(focus(kernel_rfl)))
     refine dR 2 (Jh rfl) ?_
     repeat apply dw;rfl;assumption;rfl
     refine aA ?_;(apply dS;rfl;rfl;rfl;(focus(kernel_rfl));exact(cM _ _ rfl))
     refine dR 7 (Jh rfl) ?_
     repeat first|apply aS;rfl|refine bj (aw rfl rfl (.inl ⟨rfl,(Jd _ ⟨(by focus(omega)),(by focus(omega))⟩).symm⟩)) rfl rfl rfl ?_|apply bS;rfl;rfl;exact(fun _ h=>by cases h);exact(cR (l:=18+kk) (h:=20+kk) (F.un _ rfl) (F.sz _ rfl) rfl (ir rfl (by omega)) (ir rfl (by omega)) (by omega) (by omega) (JG (by omega)))
     refine aA ?_;(apply dS;rfl;rfl;rfl;(focus(kernel_rfl));exact(g2 _ _ rfl))
     refine iL ?_
     repeat first|apply aS;rfl|apply dw;rfl;assumption;rfl|refine bj (bR (F.un _ rfl) (F.un _ rfl) rfl (show _=((n2:Nat):Int)from Jd _ ⟨by omega,by omega⟩)) rfl rfl rfl ?_|apply bS;rfl;rfl;exact(fun _ h=>by cases h);exact(gA (F.un _ rfl) rfl)
     refine ji rfl rfl rfl rfl (fun e=>?_) (fun e=>?_)
     ·have hyes:ofR l=some (ny l):=by rw [hv,JH ⟨hm,by omega⟩]
      repeat first|apply aS;rfl|refine pJ (cI (F.sz _ rfl) rfl rfl rfl (by assumption) (by rfl) (by exact Jh rfl) (by rfl)) rfl rfl ?_
      refine aA ⟨by kernel_rfl,?_,?_⟩;(focus(repeat(first|exact Kk|refine⟨.inl rfl,?_⟩|refine⟨.inr (.inl (by(repeat(refine⟨(by first|exact mI rfl|exact aw rfl rfl (.inl ⟨rfl,(Jd _ ⟨by omega,by omega⟩).symm⟩)|exact am (F.ag _ rfl) rfl (by repeat(first|assumption|refine ab (by omega) ?_)) (aB rfl)|exact ba (F.ag _ rfl) rfl (by repeat(first|assumption|refine ab (by omega) ?_)) (aq _ 0 rfl rfl)|exact cR (l:=18+kk) (h:=20+kk) (F.un _ rfl) (F.sz _ rfl) rfl (ir rfl (by omega)) (ir rfl (by omega)) (by omega) (by omega) (JG (by omega))|exact gA (F.un _ rfl) rfl|exact bR (F.un _ rfl) (F.un _ rfl) rfl (show _=((n2:Nat):Int)from Jd _ ⟨by omega,by omega⟩)|exact dg rfl rfl (.inl ⟨rfl,(JZ (by omega)).symm⟩)),?_⟩));exact Kk)),?_⟩|refine⟨.inr (.inr (by(repeat(refine⟨(by exact eg rfl (by kernel_rfl) (by first|exact cM _ _ (by(repeat(refine ab (by omega) ?_));rfl)|exact g2 _ _ (by(repeat(refine ab (by omega) ?_));rfl))),?_⟩));exact Kk)),?_⟩)))
      ((apply bm Tryz.func36 (congrArg Array.toList Tryz.results36));(focus(repeat(first|exact Kb|apply Kd rfl|apply Kc rfl (Ke (F.ag _ rfl) (by repeat(exact ae)) (aq _ 0 rfl rfl))))))
      rw [hyes]
      exact⟨_,rfl,⟨_,_,_,_,rfl,rfl,rfl⟩,fun v h=>(by cases h;exact hat _ (by(repeat(refine ab (by omega) ?_));rfl)),by dsimp only;omega,fun m hm=>by(repeat(refine ab (by omega) ?_));exact bo m hm⟩
     ·have hno:ofR l=none:=by rw [hv,JG (fun h=>by have:=h.2;omega)]
      repeat first|apply aS;rfl|refine pJ (cI (F.sz _ rfl) rfl rfl rfl (by assumption) (by rfl) (by exact Jh rfl) (by rfl)) rfl rfl ?_
      refine aA ⟨by kernel_rfl,?_,?_⟩;(focus(repeat(first|exact Kk|refine⟨.inl rfl,?_⟩|refine⟨.inr (.inl (by(repeat(refine⟨(by first|exact mI rfl|exact aw rfl rfl (.inl ⟨rfl,(Jd _ ⟨by omega,by omega⟩).symm⟩)|exact am (F.ag _ rfl) rfl (by repeat(first|assumption|refine ab (by omega) ?_)) (aB rfl)|exact ba (F.ag _ rfl) rfl (by repeat(first|assumption|refine ab (by omega) ?_)) (aq _ 0 rfl rfl)|exact cR (l:=18+kk) (h:=20+kk) (F.un _ rfl) (F.sz _ rfl) rfl (ir rfl (by omega)) (ir rfl (by omega)) (by omega) (by omega) (JG (by omega))|exact gA (F.un _ rfl) rfl|exact bR (F.un _ rfl) (F.un _ rfl) rfl (show _=((n2:Nat):Int)from Jd _ ⟨by omega,by omega⟩)|exact dg rfl rfl (.inl ⟨rfl,(J0 (by omega)).symm⟩)),?_⟩));exact Kk)),?_⟩|refine⟨.inr (.inr (by(repeat(refine⟨(by exact eg rfl (by kernel_rfl) (by first|exact cM _ _ (by(repeat(refine ab (by omega) ?_));rfl)|exact g2 _ _ (by(repeat(refine ab (by omega) ?_));rfl))),?_⟩));exact Kk)),?_⟩)))
      ((apply bm Tryz.func36 (congrArg Array.toList Tryz.results36));(focus(repeat(first|exact Kb|apply Kd rfl|apply Kc rfl (Ke (F.ag _ rfl) (by repeat(exact ae)) (aq _ 0 rfl rfl))))))
      rw [hno]
      exact⟨_,rfl,⟨_,_,_,_,rfl,rfl,rfl⟩,fun v h=>(by cases h),by dsimp only;omega,fun m hm=>by(repeat(refine ab (by omega) ?_));exact bo m hm⟩
abbrev yc(a:Int×Int):SV:= .agg [.sc (.int .i64 a.1),.sc (.int .i64 a.2)]
def iB(a b:Int×Int):Bool:=decide (a.1=b.1) && decide (a.2=b.2)
theorem gg{a b:Int×Int}:iB a b=true↔a=b:=by
 simp only [iB,Ju,J7]
 exact⟨fun h=>Prod.ext h.1 h.2,fun h=>by rw [h];exact⟨rfl,rfl⟩⟩
theorem uTd:Tryz.prog.underlying 40=some (.struct (Tryz.prog.fieldsOf 40)):=by kernel_rfl
def Eu:List (Bool×TypeId×Nat):= [(true,3,0),(true,3,1)]
theorem fTd:(Tryz.prog.fieldsOf 40).toList.map (fun f=>(f.name != "_",f.type,f.offset))=Eu:=by kernel_rfl
theorem fTd2: ∃ f g:Field,(Tryz.prog.fieldsOf 40).toList= [f,g]∧f.name ≠ "_" ∧f.type=3∧f.offset=0∧g.name ≠ "_" ∧g.type=3∧g.offset=1:=by
 have h:=fTd
 generalize (Tryz.prog.fieldsOf 40).toList=l at h
 have hl:l.length=2:=by simpa [Eu] using congrArg List.length h
 rcases l with _|⟨f,_|⟨g,_|⟨x,l⟩⟩⟩
 ·simp at hl
 ·simp at hl
 ·simp only [Jx,List.map_nil,Eu,List.cons.injEq,Jk,and_true,bne_iff_ne] at h
  exact⟨f,g,rfl,h.1.1,h.1.2.1,h.1.2.2,h.2.1,h.2.2.1,h.2.2.2⟩
 ·simp at hl
theorem lS{P:Program}{t:TypeId}{cs:Array Value}{off:Nat}{v:Value}{k:IntKind}(hu:P.underlying t=some (.int k))(hv:cs[off]? =some v)(w:World):(part t cs off).run P w = .ok v w:=by
 simp [part,isAgg,run_underlying hu,hv]
theorem A3(a b:Int×Int)(w:World):(Op.equalIn 10000 40 (.agg #[.int .i64 a.1,.int .i64 a.2]) (.agg #[.int .i64 b.1,.int .i64 b.2])).run Tryz.prog w = .ok (iB a b) w:=by
 obtain⟨f,g,hl,f1,f2,f3,g1,g2,g3⟩:=fTd2
 have hu:Tryz.prog.underlying 3=some (.int .i64):=by kernel_rfl
 have he: ∀ (a b:Int) (w:World),(Op.equalIn 9999 3 (.int .i64 a) (.int .i64 b)).run Tryz.prog w = .ok (a == b) w:=fun a b w=>run_equalIn_int w 9998 _ .i64 .i64 a b hu
 rw [show(10000:Nat)=9999+1 from rfl,run_equalIn_struct w 9999 _ _ _ uTd (by kernel_rfl),hl]
 simp only [Op.eqFields,JH f1,JH g1,f2,f3,g2,g3,Sem.run_bind,lS hu (cs:= #[.int .i64 a.1,.int .i64 a.2]) (off:=0) (v:= .int .i64 a.1) rfl,lS hu (cs:= #[.int .i64 b.1,.int .i64 b.2]) (off:=0) (v:= .int .i64 b.1) rfl,Result.andThen_ok]
 rw [he]
 simp only [Result.andThen_ok]
 by_cases h1:a.1=b.1
 ·rw [show(a.1 == b.1)=true by simpa using h1]
  simp only [Bool.not_true,Bool.false_eq_true,if_false,Sem.run_bind,lS hu (cs:= #[.int .i64 a.1,.int .i64 a.2]) (off:=1) (v:= .int .i64 a.2) rfl,lS hu (cs:= #[.int .i64 b.1,.int .i64 b.2]) (off:=1) (v:= .int .i64 b.2) rfl,Result.andThen_ok]
  rw [he]
  simp only [Result.andThen_ok]
  by_cases h2:a.2=b.2
  ·rw [show(a.2 == b.2)=true by simpa using h2]
   simp [h1,h2,iB]
  ·rw [show(a.2 == b.2)=false by simpa using h2]
   simp [h1,h2,iB]
 ·rw [show(a.1 == b.1)=false by simpa using h1]
  simp [h1,iB]
end
section
variable {P:Program} {H:au} {T:Tr SV} {nx:Nat}
variable {d:Option Tmp} {ty:TypeId} {pos:String} {af:Array Edge} {gd:Option (Nat×Bool)}
theorem Ag{e:Env}{a:Int×Int}{v:Value}(h:(yc a).conc e=some v):v = .agg #[.int .i64 a.1,.int .i64 a.2]:=by
 simpa [yc,SV.conc,SV.aJ] using h.symm
theorem vh{x y:Operand}{yt:TypeId}{a b:Int×Int}(hx:an T x=some (yc a))(hy:an T y=some (yc b)):ReadDoes Tryz.prog T H ⟨d,.binOp .eql 40 x y yt,ty,pos,af,gd⟩ (.sc (.bool (iB a b))):=by
 intro K w0 e nx w ev hS hE
 refine⟨_,rfl,?_⟩
 have e1:=Ag (hE x _ hx)
 have e2:=Ag (hE y _ hy)
 simp [execOp,e1,e2,run_eqGuard_agg (P:=Tryz.prog) w .eql 40 x y _ _ (by kernel_rfl),run_eql_struct,A3]
end
theorem od{ro:Option Nat}{fn nt nx i:Nat}{T:Tr SV}{k:List AIt}{dfs:List ADf}{H:au}{Q:Pst}{ops:Array Oper}{l:List Oper}{ty:TypeId}{pos:String}{af:Array Edge}{gd:Option (Nat×Bool)}{x y:Operand}{yt:TypeId}{a b:Int×Int}{r:Bool}{dd:Nat}(hw:aF T ops ⟨some dd,.binOp .eql 40 x y yt,ty,pos,af,gd⟩=some true)(hd:Nat.blt dd nt=true)(hx:an T x=some (yc a))(hy:an T y=some (yc b))(hr:iB a b=r)
 (h:Wp Tryz.prog ro ⟨fn,nt,T.set dd (.sc (.bool r)),.inReg ops (i+1) l :: k,dfs,H,nx⟩ Q):Wp Tryz.prog ro ⟨fn,nt,T,.inReg ops i (⟨some dd,.binOp .eql 40 x y yt,ty,pos,af,gd⟩ :: l) :: k,dfs,H,nx⟩ Q:=
 de hw (.inr (fun _ h=>by cases h)) ((vh hx hy).does) (by rw [aK hd,hr];exact h)
theorem RowsC.at{H:au}{ok:Nat→Prop}: ∀ {l:List uI} {ws:List SV},RowsC H ok ws l→ ∀ {i:Nat} (hi:i<l.length),∃ s1 s2 r,(ws.drop (i*6)).take 6=yz (l[i]).1.1 (l[i]).1.2 s1 s2 (l[i]).2.2.2.1 (l[i]).2.2.2.2∧ok r∧BlkS H s1 r (l[i]).2.1∧BlkS H s2 r (l[i]).2.2.1
 | [],_,_,i,hi=>absurd hi (Nat.not_lt_zero _)
 | x :: l,ws,h,i,hi=>by
   obtain⟨s1,s2,rest,r,rfl,h2,h3,h4,h5⟩:=h
   cases i with
   | zero=>exact⟨s1,s2,r,by rw [Nat.zero_mul,List.drop_zero];exact List.take_left' rfl,h2,h3,h4⟩
   | succ i=>
     obtain⟨t1,t2,r',g1,g2,g3,g4⟩:=RowsC.at h5 (i:=i) (Nat.lt_of_succ_lt_succ hi)
     refine⟨t1,t2,r',?_,g2,g3,g4⟩
     rw [Nat.succ_mul,Nat.add_comm,←List.drop_drop]
     exact g1
theorem RowsC.cells{H:au}{ok:Nat→Prop}{l:List uI}{ws:List SV}(h:RowsC H ok ws l){i:Nat}(hi:i<l.length): ∃ s1 s2 r,ok r∧BlkS H s1 r (l[i]).2.1∧BlkS H s2 r (l[i]).2.2.1∧(nz false l.length 6 67 ws).cellsFrom (i*6) 2=some [.sc (.int .i64 ((l[i]).1.1:Int)),.sc (.int .i64 ((l[i]).1.2:Int))]∧(nz false l.length 6 67 ws).cellsFrom (i*6+2) 4=some [s1,s2,.sc (.int .u64 ((l[i]).2.2.2.1:Int)),.sc (.int .u64 ((l[i]).2.2.2.2:Int))]:=by
 obtain⟨s1,s2,r,h1,h2,h3,h4⟩:=h.at hi
 have hl:=h.len
 have h6:(nz false l.length 6 67 ws).cellsFrom (i*6) (2+4)=some (yz (l[i]).1.1 (l[i]).1.2 s1 s2 (l[i]).2.2.2.1 (l[i]).2.2.2.2):=dB 6 (i*6) _ h1 rfl (by omega)
 obtain⟨g1,g2⟩:=io 2 4 _ _ h6
 exact⟨s1,s2,r,h2,h3,h4,g1,g2⟩
structure ActT where
 kind:Int
 place:Int
 ver:gf
 tid:Int×Int
 xid:Nat
 odd:Bool
section
variable {H:au}{ro:Bool}
abbrev nZ:=ActT×SV×SV
abbrev rJ(x:nZ):List SV:= [.sc (.int .i64 x.1.kind),.sc (.int .i64 x.1.place),x.2.1,x.2.2,.sc (.int .u64 (x.1.ver.2.2.1:Int)),.sc (.int .u64 (x.1.ver.2.2.2:Int)),.sc (.int .i64 x.1.tid.1),.sc (.int .i64 x.1.tid.2),.sc (.int .u64 (x.1.xid:Int)),.sc (.bool x.1.odd)]
abbrev EH(ro:Bool)(ls:List nZ):VO:=nz ro ls.length 10 42 (ls.flatMap rJ)
def ActIs(H:au)(x:nZ):Prop:=BsIs H x.2.1 (byV x.1.ver.1)∧BsIs H x.2.2 (byV x.1.ver.2.1)
theorem ActIs.frame{H':au}{x:nZ}(h:ActIs H x)(hf: ∀ b vo,H.at' b=some vo→H'.at' b=some vo):ActIs H' x:=⟨h.1.frame hf,h.2.frame hf⟩
theorem wF: ∀ {ls:List nZ} {i j:Nat} (hi:i<ls.length),j<10→(ls.flatMap rJ)[i*10+j]? =(rJ ls[i])[j]?
 | [],_,_,hi,_=>by simp at hi
 | x :: ls,0,j,_,hj=>by
   rw [List.flatMap_cons,Js (by show _<10;omega),Nat.zero_mul,JI]
   rfl
 | x :: ls,i+1,j,hi,hj=>by
   rw [List.flatMap_cons,JQ (by show 10≤_;omega)]
   have:(i+1)*10+j-(rJ x).length=i*10+j:=by show(i+1)*10+j-10=_;omega
   rw [this,wF (by simpa using hi) hj]
   simp
theorem wE{ls:List nZ}{i j:Nat}{v:SV}(hi:i<ls.length)(hv:(rJ ls[i])[j]? =some v):(EH ro ls).cell (i*10+j)=some v:=by
 have hj:j<10:=(Jg.1 hv).1
 exact mu ((wF hi hj).trans hv) (by omega)
theorem Ax{ls:List nZ}{i:Nat}(hi:i<ls.length):(EH ro ls).cellsFrom (i*10) 10=some (rJ ls[i]):=by
 refine dB 10 (i*10) _ (J1 fun j=>?_) rfl (by omega)
 rcases JJ j 10 with hj|hj
 ·rw [List.getElem?_take_of_lt hj,List.getElem?_drop,wF hi hj]
 ·rw [J4 (by simp;omega),J4 (by show 10≤j;omega)]
def CU(ls:List nZ):Bool:=decide (∀ x∈ls,x.1.ver.1.length≤100∧x.1.ver.2.1.length≤300) && decide (ls.length≤60)
theorem CT{ls:List nZ}{x:nZ}(hx:x∈ls)(h: ¬ (x.1.ver.1.length≤100∧x.1.ver.2.1.length≤300)):CU ls=false:=by
 unfold CU
 rw [J0 (fun h2=>h (h2 x hx)),Bool.false_and]
theorem Et{ls:List nZ}(h:CU ls=true):(∀ x∈ls,x.1.ver.1.length≤100∧x.1.ver.2.1.length≤300)∧ls.length≤60:=by
 unfold CU at h
 rw [Ju,J7,J7] at h
 exact h
theorem few_s{nx r:Nat}{ls:List nZ}(hb:H.at' r=some (EH ro ls))(hl:ls.length≤9223372036854775807)(hv: ∀ x∈ls,ActIs H x∧x.1.ver.1.length≤9223372036854775807∧x.1.ver.2.1.length≤9223372036854775807):Fnc Tryz.prog 7 [.slu r 0 ls.length] H nx (fun q=>q=(.sc (.bool (CU ls)),H,nx)):=by
 refine Fnc.bv (Free.sc _) ?_
 refine Ka Tryz.func7 rfl rfl ?_
 repeat apply ai;rfl
 refine bC (α:=Nat) (fun i=> [(0,.slu r 0 ls.length),(3,.sc (.int .i64 (i:Int)))]) (fun i H1 n1=>i≤ls.length∧n1=nx∧H1=H∧ ∀ x∈ls.take i,x.1.ver.1.length≤100∧x.1.ver.2.1.length≤300) (fun i=>ls.length-i) 0 ⟨Jw _,rfl,rfl,fun x hx=>by simp at hx⟩ (Kg (Kj rfl)) ?_
 rintro i H1 n1 ⟨i1,rfl,rfl,i2⟩ ih
 repeat apply ai;rfl
 refine bn rfl rfl rfl rfl (fun h5=>?_) (fun h5=>?_)
 ·have hi:i<ls.length:=by omega
  obtain⟨⟨x1,x2⟩,x3,x4⟩:=hv ls[i] (JF hi)
  have htk:ls.take (i+1)=ls.take i ++ [ls[i]]:=List.take_succ_eq_append_getElem hi
  have c2:=wE (ro:=ro) (j:=2) hi rfl
  have c3:=wE (ro:=ro) (j:=3) hi rfl
  repeat first|apply ai;rfl|refine dq (q:=i) rfl rfl rfl rfl (F.un _ rfl) (F.sz _ rfl) (by assumption) (by omega) (by(omega)) (Jv _) ?_|refine cd (am (F.ag _ rfl) rfl hb c2) rfl rfl rfl ?_|refine dj rfl rfl (F.un _ rfl) rfl x1 ?_;rw [bK]
  refine ey rfl rfl rfl rfl (fun h1=>?_) (fun h1=>?_)
  ·repeat apply ai;rfl
   (apply bP Tryz.func7 Tryz.results7;rfl)
   exact⟨congrArg (fun b=>SV.sc (.bool b)) (CT (JF hi) (by omega)).symm,Jv _,fun m _=>rfl⟩
  ·repeat first|apply ai;rfl|refine dq (q:=i) rfl rfl rfl rfl (F.un _ rfl) (F.sz _ rfl) (by assumption) (by omega) (by(omega)) (Jv _) ?_|refine cd (am (F.ag _ rfl) rfl hb c3) rfl rfl rfl ?_|refine dj rfl rfl (F.un _ rfl) rfl x2 ?_;rw [bK]
   refine ey rfl rfl rfl rfl (fun h2=>?_) (fun h2=>?_)
   ·repeat apply ai;rfl
    (apply bP Tryz.func7 Tryz.results7;rfl)
    exact⟨congrArg (fun b=>SV.sc (.bool b)) (CT (JF hi) (by omega)).symm,Jv _,fun m _=>rfl⟩
   ·repeat first|apply ai;rfl|apply aL;rfl;omega;omega
    refine ih _ _ _ (i+1) ⟨hi,rfl,rfl,fun x hx=>?_⟩ (by omega) (Kg (Kj rfl))
    rw [htk] at hx
    rcases List.mem_append.1 hx with hx|hx
    ·exact i2 x hx
    ·rw [JM.1 hx]
     exact⟨by omega,by omega⟩
 ·have hj:i=ls.length:=by omega
  subst hj
  rw [List.take_length] at i2
  repeat apply ai;rfl
  have hf: ∀ b,decide (ls.length≤60)=b→CU ls=b:=fun b h=>by
   unfold CU
   rw [h,JZ i2,Bool.true_and]
  refine pN rfl rfl rfl rfl (fun h1=>?_) (fun h1=>?_)
  ·repeat apply ai;rfl
   (apply bP Tryz.func7 Tryz.results7;rfl)
   exact⟨congrArg (fun b=>SV.sc (.bool b)) (hf true (JZ (by omega))).symm,Jv _,fun m _=>rfl⟩
  ·repeat apply ai;rfl
   (apply bP Tryz.func7 Tryz.results7;rfl)
   exact⟨congrArg (fun b=>SV.sc (.bool b)) (hf false (J0 (by omega))).symm,Jv _,fun m _=>rfl⟩
theorem GV{nx n:Nat}{s:SV}{p it:List UInt8}(hp:p.length=1024)(hr:bg p=true)(hn:n<ac p)(hs:ak p n≠0)(hB:BsIs H s (byV it))(hit:it.length=ak p n):Fnc Tryz.prog 60 [.agg (pgS p),.sc (.int .i64 (n:Int)),s] H nx (fun q=>q=(pgE (bf p (ay p n) it,0),H,nx)):=by
 refine Fnc.bv (gU _) ?_
 have hb:=cQ hr hn hs
 have hbl:=bK it
 have hfd:cn p n=(ay p n,ak p n,0):=by unfold cn;rw [JG (by omega),JG hs]
 refine Ka Tryz.func60 rfl rfl ?_
 refine aX fun hund=>?_
 repeat first|refine a9 rfl rfl ci ?_|apply ai;rfl
 have hb1:((H.set nx (pgO p)).set (nx+1) (pgO zeroP)).at' nx=some (pgO p):=by repeat(first|exact ae|refine ab (by omega) ?_)
 have hz1:((H.set nx (pgO p)).set (nx+1) (pgO zeroP)).at' (nx+1)=some (pgO zeroP):=by repeat(exact ae)
 have ho1: ∀ m,m<nx→((H.set nx (pgO p)).set (nx+1) (pgO zeroP)).at' m=H.at' m:=fun m hm=>by(repeat(refine ab (by omega) ?_));rfl
 have hB1:BsIs ((H.set nx (pgO p)).set (nx+1) (pgO zeroP)) s (byV it):=hB.frame fun b vo h=>(ho1 b (hund b vo h)).trans h
 have hrs:=fun nx'=>gz (nx:=nx') hb1 hp
 rw [hr] at hrs
 have hfs: ∀ nx',Fnc Tryz.prog 89 [.ptr nx 0,.sc (.int .i64 (n:Int))] ((H.set nx (pgO p)).set (nx+1) (pgO zeroP)) nx' (fun q=>q=(.tup [.sc (.int .i64 (ay p n:Int)),.sc (.int .i64 (ak p n:Int)),.sc (.int .i64 0)],((H.set nx (pgO p)).set (nx+1) (pgO zeroP)),nx')):=fun nx'=>by
  have:=v8 (nx:=nx') (n:=n) hb1 (fG hp hr)
  rw [hfd] at this
  exact this
 have hmi: ∀ H nx,Fnc Tryz.prog 68 [.sc (.int .i64 (it.length:Int))] H nx (fun q=>q=(.sc (.bool true),H,nx)):=fun H nx=>by
  have:=sP (H:=H) (nx:=nx) (n:=it.length)
  rw [JZ (by omega)] at this
  exact this
 generalize (H.set nx (pgO p)).set (nx+1) (pgO zeroP)=H1 at hb1 hz1 ho1 hB1 hrs hfs ⊢
 repeat first|apply ai;rfl|apply cx;rfl|apply bY;rfl;kernel_rfl;exact hrs _|apply lx;rfl;omega|refine dj rfl rfl (F.un _ rfl) rfl hB1 ?_;rw [hbl]|apply bY;rfl;kernel_rfl;exact hmi _ _|apply bY;rfl;kernel_rfl;exact hfs _|apply dM;rfl;omega|apply kV (lw:=ay p n) (hg:=1024) (m:=1024-ay p n);rfl;rfl;rfl;exact(F.un _ rfl);exact(F.sz _ rfl);rfl;rfl;(focus(omega));(focus(omega));(focus(omega));rfl;rfl;exact(JI _)
 refine oe rfl rfl rfl rfl (F.un _ rfl) (F.sz _ rfl) hb1 hB1 (by omega) (by rw [be hp];omega) ?_
 rw [mM rfl]
 have hpl:(bf p (ay p n) it).length=1024:=(bN (by omega)).trans hp
 generalize bf p (ay p n) it=p2 at hpl ⊢
 repeat first|apply bu hpl;rfl;(focus((repeat(exact ae));done))|apply bA hpl ah;rfl;(focus((repeat(first|assumption|refine ab (by omega) ?_));done))|apply ai;rfl
 ((apply bm Tryz.func60 (congrArg Array.toList Tryz.results60));(focus((apply Kc rfl (Ke (F.ag _ rfl) (by repeat(exact ae)) (bk hpl)));(repeat(first|exact Kb|apply Kd rfl)))))
 exact⟨rfl,by dsimp only;omega,fun m hm=>by(repeat(refine ab (by omega) ?_));exact ho1 m hm⟩
end
end Go.Proofs.YtnhmbonmlfeifaaGreat
end
section
namespace Go.Sy
open Go
section
variable {P:Program} {T:Tr SV} {H:au} {nx:Nat} {d:Option Tmp} {ty:TypeId} {pos:String} {af:Array Edge} {gd:Option (Nat×Bool)}
theorem Bq{t tx el:TypeId}{b eo n ne:Nat}{bt:TypeId}{us vs:List Value}{s x:Operand}{v:SV}(hu:P.underlying t=some (.slice el))(hs:bH P el=some 1)(hx0:an T s=some (.slu b eo n))(hx:an T x=some v)(hb:H.at' b=some (dat false ne 1 bt us))(hv:BsIs H v vs)(hn:vs.length≤n)(hne:eo+n≤ne)(hl:us.length=ne) :
 OpDoes P T H nx ⟨d,.call {callee:= .builtin .copy,args:= #[s,x],argTypes:= #[t,tx]},ty,pos,af,gd⟩ (.val (.sc (.int .i64 (vs.length:Nat))),H.set b (dat false ne 1 bt (us.take eo ++ vs ++ us.drop (eo+vs.length))),nx):=by
 have hr:=BsIs.rdv (P:=P) hv
 unfold RdV at hr
 have hmin:min vs.length n=vs.length:=Nat.min_eq_left hn
 have htk:(vs.map SV.sc).take (vs.length*1)=vs.map SV.sc:=by rw [Nat.mul_one];exact Jn (by simp)
 have hst:(dat false ne 1 bt us).setCells (eo*1) (vs.map .sc)=some (dat false ne 1 bt (us.take eo ++ vs ++ us.drop (eo+vs.length))):=by
  rw [Nat.mul_one]
  exact gQ vs us eo (by omega) (by omega) hv.1
 have hble:(Nat.beq 1 1 && Nat.ble (eo+n) ne)=true:=by rw [Jj hne];rfl
 have hcp:uC P H nx t (.slu b eo n) v=some (.val (.sc (.int .i64 (vs.length:Nat))),H.set b (dat false ne 1 bt (us.take eo ++ vs ++ us.drop (eo+vs.length))),nx):=by
  unfold dat at hb hst ⊢
  simp only [uC,hu,hs,hr,hmin,htk,hb,hble,cond_true,eW,hst]
 refine jh ?_
 simp only [fT,dn,hx0,hx,JC,eS,hcp]
end
end Go.Sy
end
section
namespace Go.Proofs.YtnhmbonmlfeifaaGreat
open Go Go.Sy Go.Sl Go.RowKit
section
variable {H:au}{b:Nat}{left:Int}{n nx:Nat}{puts:Int}{mem p:List UInt8}
theorem tj(hb:H.at' b=some (cT mem left puts))(hm:mem.length=131072)(hn:n<128){g:FuncId}{caps:List SV}(hme:bU Tryz.prog g=true)(Fx:List UInt8→List UInt8×Nat)
 (hf: ∀ p H1 n1,aU (az mem n)=(p,0)→nx≤n1→(∀ m,m<nx→H1.at' m=H.at' m)→(Fx p).1.length=1024∧Fnc Tryz.prog g ([.agg (pgS p)] ++ caps) H1 n1 (fun q=>q.1=pgE (Fx p)∧n1≤q.2.2∧ ∀ m,m<n1→q.2.1.at' m=H1.at' m)):Fnc Tryz.prog 54 [tM b,.sc (.int .i64 (n:Int)),.fn (.func g) [] caps] H nx
 (fun q=>q.1=pgE (if(aU (az mem n)).2≠0 then(zeroP,13) else Fx (aU (az mem n)).1)∧nx≤q.2.2∧ ∀ m,m<nx→q.2.1.at' m=H.at' m):=by
 refine Ka Tryz.func54 rfl rfl ?_
 refine aX fun hund=>?_
 have lb:=hund _ _ hb
 have hpl:=dO hm hn
 repeat first|refine a9 rfl rfl ci ?_|apply ai;rfl
 refine aI rfl rfl rfl (by kernel_rfl) (J9 (sd (n:=n) (left:=left) (puts:=puts) (mem:=mem) (by(repeat(refine ab (by omega) ?_));exact hb) hm hn) ?_)
 rintro _ rfl
 dsimp only
 rcases lV (p:=az mem n)with he|he
 ·obtain⟨p,hp⟩: ∃ p,aU (az mem n)=(p,0):=⟨_,Prod.ext rfl he⟩
  obtain⟨hpp,_,_⟩:=cN hp hpl
  rw [hp,JG (fun h=>h rfl)]
  repeat first|apply bA hpp ah;rfl;(focus((repeat(exact ae));done))|refine a9 rfl rfl ci ?_|apply ai;rfl|apply dM;rfl;rfl|apply bu hpp;rfl;(focus((repeat(exact ae));done))
  refine cW (R:=fun H4 n4=>nx+1≤n4∧H4.at' nx=some (pgO zeroP)∧ ∀ m,m<nx→H4.at' m=H.at' m) ⟨by omega,by repeat(first|exact ae|refine ab (by omega) ?_),fun m hm=>by(repeat(refine ab (by omega) ?_));rfl⟩ ?_
  rintro H4 n4 ⟨h1,h2,h3⟩
  obtain⟨hfl,hfc⟩:=hf p H4 n4 hp (by omega) h3
  refine jy rfl rfl rfl rfl hme (J9 hfc ?_)
  rintro⟨_,H5,n5⟩ ⟨rfl,g1,g2⟩
  dsimp only at g1 g2 ⊢
  have g3:H5.at' nx=some (pgO zeroP):=(g2 _ (by omega)).trans h2
  generalize Fx p=X at hfl ⊢
  obtain⟨x,e⟩:=X
  dsimp only at hfl ⊢
  repeat first|apply bA hfl ah;rfl;assumption|apply ai;rfl
  ((apply bm Tryz.func54 (congrArg Array.toList Tryz.results54));(focus((apply Kc rfl (Ke (F.ag _ rfl) (by repeat(exact ae)) (bk hfl)));(repeat(first|exact Kb|apply Kd rfl)))))
  exact⟨rfl,by dsimp only;omega,fun m hm=>by(repeat(refine ab (by omega) ?_));exact(g2 m (by omega)).trans (h3 m hm)⟩
 ·rw [he,JH (by decide)]
  repeat first|apply bA ah ah;rfl;(focus((repeat(first|exact ae|refine ab (by omega) ?_));done))|refine a9 rfl rfl ci ?_|apply ai;rfl|refine cd (db iy) rfl rfl rfl ?_|apply iv;rfl;decide
  ((apply bm Tryz.func54 (congrArg Array.toList Tryz.results54));(focus((apply Kc rfl (Ke (F.ag _ rfl) (by repeat(exact ae)) (bk ah)));(repeat(first|exact Kb|apply Kd rfl)))))
  exact⟨rfl,by dsimp only;omega,fun m hm=>by(repeat(refine ab (by omega) ?_));rfl⟩
def jV(k x:Nat)(p:List UInt8):List UInt8×Nat:=if(cn p k).2.2≠0 then(zeroP,6) else(bf p (ay p k) (bf (aV p k) 8 (beB x 8)),0)
theorem CX{tb xb k x:Nat}(ht:H.at' tb=some (eE (n:Int) (k:Int)))(hx:H.at' xb=some (ar 36 [.sc (.int .u64 (x:Int))]))(hxl:x≤4000)(hp:p.length=1024)(hr:bg p=true)(hof: ∀ j,j<ac p→ak p j≠0→(ofV (aV p j)).isSome=true):(jV k x p).1.length=1024∧Fnc Tryz.prog 58 [.agg (pgS p),.ptr tb 0,.ptr xb 0] H nx
 (fun q=>q.1=pgE (jV k x p)∧nx≤q.2.2∧ ∀ m,m<nx→q.2.1.at' m=H.at' m):=by
 by_cases hK:ac p≤k∨ak p k=0
 ·have hfd:cn p k=(0,0,6):=by unfold cn;split;rfl;rw [JH (by omega)]
  have hv:jV k x p=(zeroP,6):=by unfold jV;rw [hfd,JH (by decide)]
  rw [hv]
  refine⟨ah,?_⟩
  refine Ka Tryz.func58 rfl rfl ?_
  refine aX fun hund=>?_
  have l1:=hund _ _ ht
  repeat first|refine a9 rfl rfl ci ?_|apply ai;rfl|apply aG;rfl;(focus((repeat(first|assumption|exact ae|refine ab (by omega) ?_));done));rfl|apply bu hp;rfl;(focus((repeat(first|exact ae|refine ab (by omega) ?_));done))
  refine aI rfl rfl rfl (by kernel_rfl) (J9 (sS hp hr hK) ?_)
  rintro⟨_,H2,n2⟩ ⟨rfl,a3,a4⟩
  dsimp only at a3 a4 ⊢
  have b4:H2.at' (nx+1)=some (pgO zeroP):=(a4 _ (by omega)).trans (by repeat(exact ae))
  have bo: ∀ m,m<nx→H2.at' m=H.at' m:=fun m hm=>(a4 _ (by omega)).trans (by(repeat(refine ab (by omega) ?_));rfl)
  clear a4
  repeat first|apply bA ah ah;rfl;assumption|apply ai;rfl|refine cd (db iy) rfl rfl rfl ?_|apply iv;rfl;decide
  ((apply bm Tryz.func58 (congrArg Array.toList Tryz.results58));(focus((apply Kc rfl (Ke (F.ag _ rfl) (by repeat(exact ae)) (bk ah)));(repeat(first|exact Kb|apply Kd rfl)))))
  exact⟨rfl,by dsimp only;omega,fun m hm=>by(repeat(refine ab (by omega) ?_));exact bo m hm⟩
 ·have hs:ak p k≠0:=fun h=>hK (.inr h)
  have hn:k<ac p:=by omega
  have hfd:cn p k=(ay p k,ak p k,0):=by unfold cn;rw [JG (by omega),JG hs]
  have hv:jV k x p=(bf p (ay p k) (bf (aV p k) 8 (beB x 8)),0):=by unfold jV;rw [hfd,JG (fun h=>h rfl)]
  have hb:=cQ hr hn hs
  have hil:=dv hp hb.2.2.2
  have hbl:=bK (aV p k)
  have h8:=bq x 8
  have h8b:=bK (beB x 8)
  have h20:20≤(aV p k).length:=by
   obtain⟨v,h⟩: ∃ v,ofV (aV p k)=some v:=by cases h:ofV (aV p k)with|some v=>exact⟨v,rfl⟩|none=>have:=hof k hn hs;rw [h] at this;cases this
   rw [of_eq] at h
   unfold ofR at h
   split at h
   ·cases h
   ·omega
  have hil2:(bf (aV p k) 8 (beB x 8)).length=ak p k:=(bN (by omega)).trans hil
  have hpl:(bf p (ay p k) (bf (aV p k) 8 (beB x 8))).length=1024:=(bN (by omega)).trans hp
  have hnew:(byV (aV p k)).take 8 ++ byV (beB x 8) ++ (byV (aV p k)).drop (8+(byV (beB x 8)).length)=byV (bf (aV p k) 8 (beB x 8)):=by
   unfold bf
   rw [ki,ki,h8b]
   simp only [byV,List.map_take,List.map_drop]
  rw [hv]
  refine⟨hpl,?_⟩
  refine Ka Tryz.func58 rfl rfl ?_
  refine aX fun hund=>?_
  have l1:=hund _ _ ht
  have l2:=hund _ _ hx
  repeat first|refine a9 rfl rfl ci ?_|apply ai;rfl|apply aG;rfl;(focus((repeat(first|assumption|exact ae|refine ab (by omega) ?_));done));rfl|apply bu hp;rfl;(focus((repeat(first|exact ae|refine ab (by omega) ?_));done))
  refine aI rfl rfl rfl (by kernel_rfl) (J9 (ut hp hr hn hs) ?_)
  rintro⟨_,H2,n2⟩ ⟨r,rfl,a1,a2,a3,a4⟩
  dsimp only at a1 a3 a4 ⊢
  have b3:H2.at' nx=some (pgO p):=(a4 _ (by omega)).trans (by repeat(first|exact ae|refine ab (by omega) ?_))
  have b4:H2.at' (nx+1)=some (pgO zeroP):=(a4 _ (by omega)).trans (by repeat(exact ae))
  have bo: ∀ m,m<nx→H2.at' m=H.at' m:=fun m hm=>(a4 _ (by omega)).trans (by(repeat(refine ab (by omega) ?_));rfl)
  have bx:=(bo xb l2).trans hx
  have bt:=(bo tb l1).trans ht
  clear a4
  repeat first|apply ai;rfl|apply aG;rfl;assumption;rfl|apply dM;rfl;rfl
  refine aI rfl rfl rfl (by kernel_rfl) (J9 (Bi (n:=x) (size:=8) (by have:(256:Nat) ^ 8=18446744073709551616:=rfl;omega) (by decide) (by decide) (by omega)) ?_)
  rintro⟨_,H3,n3⟩ ⟨rfl,c1,rfl,c3⟩
  dsimp only at c1 c3 ⊢
  repeat first|apply ai;rfl|refine Do (lw:=8) (hg:=16) rfl rfl rfl (F.un _ rfl) (F.sz _ rfl) (by exact(c3 r a3).trans a1) rfl rfl (by decide) (by omega) (by omega) ?_
  refine de rfl (.inr (fun _ h=>by cases h)) (Bq (b:=r) (eo:=0+8) (n:=16-8) (vs:=byV (beB x 8)) (us:=byV (aV p k)) (ne:=(byV (aV p k)).length) (bt:=5) (F.un _ rfl) (F.sz _ rfl) rfl rfl (by exact(c3 r a3).trans a1) (hU c1 h8) (by omega) (by omega) rfl) ?_
  rw [aK rfl,show(byV (aV p k)).take (0+8) ++ byV (beB x 8) ++ (byV (aV p k)).drop (0+8+(byV (beB x 8)).length)=byV (bf (aV p k) 8 (beB x 8))from hnew,show(byV (aV p k)).length=(bf (aV p k) 8 (beB x 8)).length by omega]
  have d0:(H3.set r (u8R false (byV (bf (aV p k) 8 (beB x 8))))).at' r=some (u8R false (byV (bf (aV p k) 8 (beB x 8)))):=aj _ _ _
  have hset:=fun(H:au) nx (h:H.at' r=some (u8R false (byV (bf (aV p k) 8 (beB x 8)))))=>GV (H:=H) (nx:=nx) (n:=k) (s:= .slu r 0 (aV p k).length) hp hr hn hs (by have:=jp h;rwa [hil2,←hil] at this) hil2
  rw [← bK (bf (aV p k) 8 (beB x 8))]
  refine cW (R:=fun H4 n4=>nx+1+1≤n4∧H4.at' r=some (u8R false (byV (bf (aV p k) 8 (beB x 8))))∧H4.at' nx=some (pgO p)∧H4.at' (nx+1)=some (pgO zeroP)∧H4.at' tb=some (eE (n:Int) (k:Int))∧ ∀ m,m<nx→H4.at' m=H.at' m)
   ⟨by omega,aj _ _ _,by(repeat(refine ab (by omega) ?_));exact(c3 _ (by omega)).trans b3,by(repeat(refine ab (by omega) ?_));exact(c3 _ (by omega)).trans b4,by(repeat(refine ab (by omega) ?_));exact(c3 _ (by omega)).trans bt,fun m hm=>by(repeat(refine ab (by omega) ?_));exact(c3 _ (by omega)).trans (bo m hm)⟩ ?_
  rintro H4 n4 ⟨e0,e1,e2,e3,e4,e5⟩
  generalize bf p (ay p k) (bf (aV p k) 8 (beB x 8))=p2 at hpl hset ⊢
  repeat first|apply bu hp;rfl;assumption|apply bA hpl ah;rfl;assumption|apply ai;rfl|apply aG;rfl;assumption;rfl|apply bY;rfl;kernel_rfl;exact hset _ _ e1
  ((apply bm Tryz.func58 (congrArg Array.toList Tryz.results58));(focus((apply Kc rfl (Ke (F.ag _ rfl) (by repeat(exact ae)) (bk hpl)));(repeat(first|exact Kb|apply Kd rfl)))))
  exact⟨rfl,by dsimp only;omega,fun m hm=>by(repeat(refine ab (by omega) ?_));exact e5 m hm⟩
def o9(pf:Nat→List UInt8)(n:Nat)(Fx:List UInt8→List UInt8×Nat):List UInt8×Nat:=if(aU (pf n)).2≠0 then(zeroP,13) else Fx (aU (pf n)).1
def kJ(pf:Nat→List UInt8)(n k:Int)(x:Nat):Nat×Option (Nat×List UInt8):=
 if 4000<x∨mD n k=false then(2,none)
 else if(o9 pf n.toNat (jV k.toNat x)).2≠0 then((o9 pf n.toNat (jV k.toNat x)).2,none)
 else(0,some (n.toNat,(o9 pf n.toNat (jV k.toNat x)).1))
theorem wi{a:Nat}:Fnc Tryz.prog 57 [.ptr a 0] H nx (fun q=>q=(.tup [],H,nx)):=by
 refine Ka Tryz.func57 rfl rfl ?_
 repeat first|apply ai;rfl|apply jx;rfl;rfl|refine cd (jG rfl Tryz.underlying20) rfl rfl rfl ?_
 (apply Cr Tryz.func57 Tryz.results57;rfl)
 rfl
theorem Ev{x:Nat}{n k:Int}(hb:H.at' b=some (cT mem left puts))(hm:mem.length=131072)(hl:left≠0)(hl2 : -1000000000≤left∧left≤1000000000)(hputs : -1000000000≤puts∧puts≤1000000000):Fnc Tryz.prog 22 [tM b,.agg [.sc (.int .i64 n),.sc (.int .i64 k)],.sc (.int .u64 (x:Int))] H nx
 (fun q=>q.1 = .sc (.int .i64 ((kJ (az mem) n k x).1:Int))∧q.2.1.at' b=some (putO mem left puts (kJ (az mem) n k x).2)∧nx≤q.2.2∧ ∀ m,m<nx→m≠b→q.2.1.at' m=H.at' m):=by
 refine Ka Tryz.func22 rfl rfl ?_
 refine aX fun hund=>?_
 have lb:=hund _ _ hb
 repeat first|apply ai;rfl|apply aG;rfl;(focus((repeat(first|exact ae|refine ab (by omega) ?_));done));rfl|apply lu;rfl;rfl;rfl;(focus(kernel_rfl))|refine cd (fi rfl rfl Tryz.underlying75 rfl) rfl rfl rfl ?_
 refine ey rfl rfl rfl rfl (fun h1=>?_) (fun h1=>?_)
 ·have hM:kJ (az mem) n k x=(2,none):=by unfold kJ;rw [JH (.inl (by omega))]
  rw [hM]
  repeat first|apply ai;rfl|apply aG;rfl;(focus((repeat(exact ae));done));rfl
  refine ew Tryz.func22 (congrArg Array.toList Tryz.results22) (by kernel_rfl) (J9 wi ?_)
  rintro _ rfl
  refine⟨_,(by(repeat(first|exact Kb|apply Kc rfl (Kf (F.ag _ rfl) (by repeat(exact ae)) (aB rfl))))),?_⟩
  dsimp only
  exact⟨rfl,by(repeat(refine ab (by omega) ?_));exact hb,by omega,fun m hm _=>by(repeat(refine ab (by omega) ?_));rfl⟩
 ·cases hmay:mD n k with
  | false=>
    have hM:kJ (az mem) n k x=(2,none):=by unfold kJ;rw [JH (.inr hmay)]
    rw [hM]
    have hmy:=fun(H:au) nx=>zy (H:=H) (nx:=nx) (n:=n) (k:=k)
    rw [hmay] at hmy
    repeat first|apply ai;rfl|apply aG;rfl;(focus((repeat(first|exact ae|refine ab (by omega) ?_));done));rfl|apply bY;rfl;kernel_rfl;exact hmy _ _
    refine ew Tryz.func22 (congrArg Array.toList Tryz.results22) (by kernel_rfl) (J9 wi ?_)
    rintro _ rfl
    refine⟨_,(by(repeat(first|exact Kb|apply Kc rfl (Kf (F.ag _ rfl) (by repeat(exact ae)) (aB rfl))))),?_⟩
    dsimp only
    exact⟨rfl,by(repeat(refine ab (by omega) ?_));exact hb,by omega,fun m hm _=>by(repeat(refine ab (by omega) ?_));rfl⟩
  | true=>
    have hmd:32≤n∧n<128∧0≤k:=JS hmay
    obtain⟨N,rfl⟩: ∃ N:Nat,n=(N:Int):=⟨n.toNat,by omega⟩
    obtain⟨K,rfl⟩: ∃ K:Nat,k=(K:Int):=⟨k.toNat,by omega⟩
    have hmy:=fun(H:au) nx=>zy (H:=H) (nx:=nx) (n:=(N:Int)) (k:=(K:Int))
    rw [hmay] at hmy
    have hM:kJ (az mem) (N:Int) (K:Int) x=if(o9 (az mem) N (jV K x)).2≠0 then((o9 (az mem) N (jV K x)).2,none) else(0,some (N,(o9 (az mem) N (jV K x)).1)):=by
     unfold kJ
     rw [JG (by rw [hmay];intro h;rcases h with h|h;omega;cases h),JY,JY]
    rw [hM]
    repeat first|apply ai;rfl|apply aG;rfl;(focus((repeat(first|exact ae|refine ab (by omega) ?_));done));rfl|apply bY;rfl;kernel_rfl;exact hmy _ _
    refine aI rfl rfl rfl (by kernel_rfl) (J9 (tj (b:=b) (n:=N) (mem:=mem) (left:=left) (puts:=puts) (by(repeat(refine ab (by omega) ?_));exact hb) hm (by omega) (g:=58) (caps:= [.ptr nx 0,.ptr (nx+1) 0]) (by kernel_rfl) (jV K x) ?_) ?_)
    ·intro p H1 n1 hrd hn1 ho
     obtain⟨hpp,hr,hof⟩:=cN hrd (dO hm (by omega))
     exact CX (tb:=nx) (xb:=nx+1) (n:=N) ((ho nx (by omega)).trans (by repeat(first|exact ae|refine ab (by omega) ?_))) ((ho (nx+1) (by omega)).trans (by repeat(first|exact ae|refine ab (by omega) ?_))) (by omega) hpp hr hof
    ·rintro⟨_,H4,n4⟩ ⟨rfl,g1,g2⟩
     have hcl:(o9 (az mem) N (jV K x)).1.length=1024:=by
      unfold o9
      split
      ·exact ah
      ·rename_i h
       have h:=Decidable.not_not.1 h
       obtain⟨hpp,hr,hof⟩:=cN (q:=(aU (az mem N)).1) (Prod.ext rfl h) (dO hm (by omega))
       exact(CX (H:=(Tr.set (Tr.set H 0 (eE (N:Int) (K:Int))) 1 (ar 36 [.sc (.int .u64 (x:Int))]))) (nx:=nx) (tb:=0) (xb:=1) (n:=N) (aa _ _ (by decide) |>.trans (aj _ _ _)) (aj _ _ _) (by omega) hpp hr hof).1
     have hch:(if(aU (az mem N)).2≠0 then(zeroP,13) else jV K x (aU (az mem N)).1)=o9 (az mem) N (jV K x):=rfl
     rw [hch]
     generalize o9 (az mem) N (jV K x)=C at hcl ⊢
     obtain⟨Cx,Ce⟩:=C
     dsimp only at g1 g2 hcl ⊢
     have gb:H4.at' b=some (cT mem left puts):=(g2 _ (by omega)).trans (by(repeat(refine ab (by omega) ?_));exact hb)
     have g6:H4.at' (nx+1+1)=some (fJ 0):=(g2 _ (by omega)).trans (by repeat(exact ae))
     have g4:H4.at' nx=some (eE (N:Int) (K:Int)):=(g2 _ (by omega)).trans (by repeat(first|exact ae|refine ab (by omega) ?_))
     have go: ∀ m,m<nx→H4.at' m=H.at' m:=fun m hm=>(g2 _ (by omega)).trans (by(repeat(refine ab (by omega) ?_));rfl)
     by_cases he:Ce=0
     ·subst he
      rw [JG (fun h=>h rfl)]
      repeat first|apply bA hcl ah;rfl;(focus((repeat(exact ae));done))|refine a9 rfl rfl ci ?_|apply ai;rfl|apply aG;rfl;(focus((repeat(first|assumption|exact ae|refine ab (by omega) ?_));done));rfl|apply dM;rfl;rfl|apply bu hcl;rfl;(focus((repeat(first|exact ae|refine ab (by omega) ?_));done))
      refine lN 141 rfl rfl rfl rfl (by kernel_rfl) (J9 (vj (n:=N) (mem:=mem) (by(repeat(refine ab (by omega) ?_));exact gb) hm (by omega) hcl hl hl2 hputs) ?_)
      rintro⟨_,H5,n5⟩ ⟨rfl,d1,d2,d3⟩
      dsimp only at d1 d2 d3 ⊢
      have d5:H5.at' (nx+1+1)=some (fJ 0):=(d3 _ (by omega) (by omega)).trans (by repeat(exact ae))
      have dold: ∀ m,m<nx→m≠b→H5.at' m=H.at' m:=fun m hm hmb=>(d3 _ (by omega) hmb).trans (by(repeat(refine ab (by omega) ?_));exact go m hm)
      clear d3
      repeat first|apply ai;rfl|apply aG;rfl;assumption;rfl
      refine ew Tryz.func22 (congrArg Array.toList Tryz.results22) (by kernel_rfl) (J9 wi ?_)
      rintro _ rfl
      refine⟨_,(by(repeat(first|exact Kb|apply Kc rfl (Kf (F.ag _ rfl) (by repeat(exact ae)) (aB rfl))))),?_⟩
      dsimp only
      exact⟨rfl,by(repeat(refine ab (by omega) ?_));exact d1,by omega,fun m h1 h2=>by(repeat(refine ab (by omega) ?_));exact dold m h1 h2⟩
     ·rw [JH he]
      repeat first|apply bA hcl ah;rfl;(focus((repeat(exact ae));done))|refine a9 rfl rfl ci ?_|apply ai;rfl|apply aG;rfl;(focus((repeat(first|assumption|exact ae|refine ab (by omega) ?_));done));rfl|apply iv;rfl;omega
      refine ew Tryz.func22 (congrArg Array.toList Tryz.results22) (by kernel_rfl) (J9 wi ?_)
      rintro _ rfl
      refine⟨_,(by(repeat(first|exact Kb|apply Kc rfl (Kf (F.ag _ rfl) (by repeat(exact ae)) (aB rfl))))),?_⟩
      dsimp only
      exact⟨rfl,by(repeat(refine ab (by omega) ?_));exact gb,by omega,fun m hm _=>by(repeat(refine ab (by omega) ?_));exact go m hm⟩
def gy(it:List UInt8):Nat→List UInt8→Nat
 | 0,_=>0
 | f+1,p=>if it.length≤cv p then 1+gy it f (iU p it).1 else 0
abbrev BC(c:Nat):VO:=ar 3 [.sc (.int .i64 (c:Int))]
theorem A4{it:List UInt8}(hp:p.length=1024)(h1:1≤it.length)(h2:it.length≤1000)(h:it.length≤cv p):(iU p it).2.2=0∧(iU p it).1.length=1024∧aD (iU p it).1+it.length=aD p:=by
 unfold cv at h
 cases hr:bg p with
 | false=>rw [hr,JG (by decide)] at h;omega
 | true=>
   rw [hr,JH rfl] at h
   have hv:iU p it=(mQ p it,aW p,0):=by unfold iU;rw [JG (by rw [hr];decide),JG (fun hq=>hq ⟨h1,h2⟩),JG (by omega)]
   have hok:=(bi hp).1 hr
   have hl:=laid hok h2 h h1
   have hro:du p=aD p-18-4*ac p-(if aW p=ac p then 4 else 0):=rfl
   have hb:=hl.begins
   rw [hv]
   exact⟨rfl,hl.len,by dsimp only;omega⟩
theorem DE{ic kc r c:Nat}{it:List UInt8}(hic:H.at' ic=some (bsO (.slu r 0 it.length)))(hrow:H.at' r=some (u8R false (byV it)))(hkc:H.at' kc=some (BC c))(hn1:kc≠ic)(hn2:kc≠r)(hp:p.length=1024)(hr:bg p=true)(h1:1≤it.length)(h2:it.length≤1000)(hc:c≤1000000):Fnc Tryz.prog 27 [.sc (.int .i64 (n:Int)),.agg (pgS p),.ptr ic 0,.ptr kc 0] H nx
 (fun q=>q.1 = .tup [.sc (.bool false),.sc (.int .i64 0)]∧nx≤q.2.2∧q.2.1.at' kc=some (BC (c+gy it 1025 (dL p)))∧ ∀ m,m<nx→m≠kc→q.2.1.at' m=H.at' m):=by
 have hpv:gE p=(dL p,0):=by unfold gE;rw [JH hr]
 have hpk:=li ((bi hp).1 hr)
 have hpl:=hpk.len
 have hpb:aD (dL p)≤1024:=by rw [hpk.begins];omega
 have hps:=fun(H:au) nx=>y5 (H:=H) (nx:=nx) hp
 rw [hpv] at hps
 have hbl:=bK it
 refine Ka Tryz.func27 rfl rfl ?_
 refine aX fun hund=>?_
 have l1:=hund _ _ hic
 have l2:=hund _ _ hrow
 have l3:=hund _ _ hkc
 generalize dL p=p0 at hpl hpb hps ⊢
 repeat first|apply bu hp;rfl;(focus((repeat(exact ae));done))|apply bA hpl hp;rfl;(focus((repeat(exact ae));done))|apply ai;rfl|apply bY;rfl;kernel_rfl;exact hps _ _
 refine bC (α:=Nat×Nat×List UInt8) (fun _=> [(2,.ptr ic 0),(3,.ptr kc 0),(5,.ptr nx 0),(8,.sc (.int .i64 0))])
  (fun x H1 n1=>x.2.2.length=1024∧aD x.2.2<x.2.1∧x.1+gy it x.2.1 x.2.2=c+gy it 1025 p0∧x.1+x.2.1≤c+1025∧n1=nx+1∧H1.at' nx=some (pgO x.2.2)∧H1.at' kc=some (BC x.1)∧ ∀ m,m<nx→m≠kc→H1.at' m=H.at' m) (fun x=>x.2.1) (c,1025,p0)
  ⟨hpl,by dsimp only;omega,rfl,Jv _,rfl,by repeat(exact ae),by(repeat(refine ab (by omega) ?_));exact hkc,fun m hm _=>by(repeat(refine ab (by omega) ?_));rfl⟩ (Kg (Kj rfl)) ?_
 rintro⟨c1,f,p1⟩ H1 n1 ⟨i1,i2,i3,i4,rfl,i5,i6,i7⟩ ih
 dsimp only at i1 i2 i3 i4 i5 i6 i7 ⊢
 have j1:=(i7 ic l1 (Ne.symm hn1)).trans hic
 have j2:=(i7 r l2 (Ne.symm hn2)).trans hrow
 have hrs:=fun(H:au) nx=>wG (H:=H) (nx:=nx) i1
 by_cases hro:it.length≤cv p1
 ·obtain⟨k1,k2,k3⟩:=A4 i1 h1 h2 hro
  obtain⟨f',rfl⟩: ∃ f',f=f'+1:=⟨f-1,by omega⟩
  have hgo:gy it (f'+1) p1=1+gy it f' (iU p1 it).1:=by show(if _ then _ else _)=_;rw [JH hro]
  rw [hgo] at i3
  repeat apply ai;rfl
  (apply bh;(focus(kernel_rfl));(focus(kernel_rfl)))
  repeat first|refine b8 rfl rfl rfl (F.ag _ rfl) i5 (be i1) ?_|apply bT;rfl;rfl;rfl;(focus(kernel_rfl));exact(hrs _ _)|refine bj (am (F.ag _ rfl) rfl j1 (aB rfl)) rfl rfl rfl ?_|refine Ac rfl rfl rfl rfl (fun _=>?_) (fun hq=>absurd hq (by omega))|refine ji rfl rfl rfl rfl (fun _=>?_) (fun hq=>absurd hq (by omega))|apply aS;rfl
  refine aA ⟨by kernel_rfl,?_,?_⟩;(focus(repeat(first|exact Kk|apply jU;rfl|apply gi;rfl;kernel_rfl|refine fX 0 rfl (by kernel_rfl) (by(repeat(refine⟨(by first|exact am (F.ag _ rfl) rfl (by assumption) (aB rfl)|exact ba (F.ag _ rfl) rfl i5 (bk i1)),?_⟩));exact Kk) ?_|apply lJ;kernel_rfl)))
  have hins:=fun nx'=>nV (nx:=nx') i1 (jp j2) (by omega)
  generalize hq:iU p1 it=q at k1 k2 k3 i3 hins
  obtain⟨p2,sl,e2⟩:=q
  dsimp only at k1 k2 k3 i3
  subst k1
  repeat first|apply bu i1;rfl;assumption|apply bA k2 i1;rfl;assumption|apply ai;rfl|apply aG;rfl;(focus((repeat(first|assumption|refine ab (by omega) ?_));done));rfl|apply aL;rfl;omega;omega|apply bY;rfl;kernel_rfl;exact hins _
  dsimp only
  exact ih _ _ _ (c1+1,f',p2) ⟨k2,by dsimp only;omega,by dsimp only;omega,by dsimp only;omega,rfl,by repeat(first|exact ae|refine ab (by omega) ?_),by repeat(exact ae),fun m hm hmk=>by(repeat(refine ab (by omega) ?_));exact i7 m hm hmk⟩ (by dsimp only;omega) (Kg (Kj rfl))
 ·have hgo:gy it f p1=0:=by
   cases f with
   | zero=>rfl
   | succ f=>show(if _ then _ else _)=_;rw [JG hro]
  rw [hgo] at i3
  repeat apply ai;rfl
  (apply bh;(focus(kernel_rfl));(focus(kernel_rfl)))
  repeat first|refine b8 rfl rfl rfl (F.ag _ rfl) i5 (be i1) ?_|apply bT;rfl;rfl;rfl;(focus(kernel_rfl));exact(hrs _ _)|refine bj (am (F.ag _ rfl) rfl j1 (aB rfl)) rfl rfl rfl ?_|refine Ac rfl rfl rfl rfl (fun hq=>absurd hq (by omega)) (fun _=>?_)|refine ji rfl rfl rfl rfl (fun _=>?_) (fun hq=>absurd hq (by omega))|apply aS;rfl
  refine aA ⟨by kernel_rfl,?_,?_⟩;(focus(repeat(first|exact Kk|apply jU;rfl|apply gi;rfl;kernel_rfl|refine fX 0 rfl (by kernel_rfl) (by(repeat(refine⟨(by first|exact am (F.ag _ rfl) rfl (by assumption) (aB rfl)|exact ba (F.ag _ rfl) rfl i5 (bk i1)),?_⟩));exact Kk) ?_|apply lJ;kernel_rfl)))
  repeat apply ai;rfl
  (apply bP Tryz.func27 Tryz.results27;rfl)
  refine⟨rfl,by dsimp only;omega,?_,i7⟩
  rw [← i3]
  exact i6
theorem r9(it:List UInt8): ∀ f p,gy it f p≤f
 | 0,_=>Jv _
 | f+1,p=>by
   unfold gy
   split
   ·have:=r9 it f (iU p it).1
    omega
   ·omega
def itZ:List UInt8:=List.replicate 180 0
theorem zJ:itZ.length=180:=JT
theorem itZ_v:byV itZ=List.replicate 180 (.int .u8 0):=by unfold itZ byV;rw [List.map_replicate];rfl
def jF(pf:Nat→List UInt8):Nat→Nat→Option Nat
 | 0,_=>some 0
 | k+1,n=>if(aU (pf n)).2≠0 then none else(jF pf k (n+1)).map (gy itZ 1025 (dL (aU (pf n)).1) + ·)
def pD(pf:Nat→List UInt8):Option Nat:=jF pf 96 32
theorem yD{a:Nat}:Fnc Tryz.prog 25 [.ptr a 0,.ptr b 0] H nx (fun q=>q=(.tup [],H,nx)):=by
 refine Ka Tryz.func25 rfl rfl ?_
 repeat first|apply ai;rfl|apply jx;rfl;rfl|refine cd (jG rfl Tryz.underlying20) rfl rfl rfl ?_
 (apply Cr Tryz.func25 Tryz.results25;rfl)
 rfl
theorem CB(hb:H.at' b=some (cT mem left puts))(hm:mem.length=131072):Fnc Tryz.prog 10 [tM b] H nx
 (fun q=>nx≤q.2.2∧(∀ m,m<nx→q.2.1.at' m=H.at' m)∧q.1=(match pD (az mem)with|none=> .tup [.sc (.int .i64 0),.sc (.int .i64 13)]|some c=> .tup [.sc (.int .i64 (c:Int)),.sc (.int .i64 0)])):=by
 have hz:=zJ
 refine Ka Tryz.func10 rfl rfl ?_
 refine aX fun hund=>?_
 have lb:=hund _ _ hb
 repeat first|apply ai;rfl|apply aG;rfl;(focus((repeat(exact ae));done));rfl|apply lu;rfl;rfl;rfl;(focus(kernel_rfl))|refine cd (fi rfl rfl Tryz.underlying75 rfl) rfl rfl rfl ?_|apply nM (z:= .int .u8 0) (bb:=1) (n:=180) (m:=180);rfl;rfl;exact(F.un _ rfl);exact(F.sz _ rfl);exact(F.ze _ rfl);(focus(kernel_rfl));rfl;rfl;rfl;exact(Jv _);(focus(omega));(focus(omega))
 refine cW (R:=fun H1 n1=>n1=nx+1+1+1+1∧H1.at' nx=some (BC 0)∧H1.at' (nx+1)=some (fJ 0)∧H1.at' (nx+1+1)=some (u8R false (byV itZ))∧H1.at' (nx+1+1+1)=some (bsO (.slu (nx+1+1) 0 itZ.length))∧ ∀ m,m<nx→H1.at' m=H.at' m) ⟨rfl,by repeat(first|exact ae|refine ab (by omega) ?_),by repeat(first|exact ae|refine ab (by omega) ?_),by rw [itZ_v];(focus((repeat(first|exact ae|refine ab (by omega) ?_));done)),by rw [hz];(focus((repeat(exact ae));done)),fun m hm=>by(repeat(refine ab (by omega) ?_));rfl⟩ ?_
 rintro H1 n1 ⟨rfl,m1,m2,m3,m4,mo⟩
 refine aI rfl rfl rfl (by kernel_rfl) (J9 (CY (b:=b) (left:=left) (puts:=puts) hm (g:=27) (caps:= [.ptr (nx+1+1+1) 0,.ptr nx 0]) (by kernel_rfl)
  (fun n H1 n1=>H1.at' b=some (cT mem left puts)∧H1.at' (nx+1)=some (fJ 0)∧H1.at' (nx+1+1)=some (u8R false (byV itZ))∧H1.at' (nx+1+1+1)=some (bsO (.slu (nx+1+1) 0 itZ.length))∧nx+1+1+1+1≤n1∧(32≤n∧n≤128)∧(∀ m,m<nx→H1.at' m=H.at' m)∧ ∃ c,H1.at' nx=some (BC c)∧pD (az mem)=(jF (az mem) (128-n) n).map (c + ·)∧c≤1025*(n-32))
  (fun e H1 n1=>e=13∧pD (az mem)=none∧H1.at' (nx+1)=some (fJ 0)∧nx+1+1+1+1≤n1∧(∀ m,m<nx→H1.at' m=H.at' m)∧ ∃ c,H1.at' nx=some (BC c))
  (fun n H1 n1 h=>h.1) ?_ ?_ ?_ ?_) ?_)
 ·rintro n H3 n3 H4 n4 ⟨i1,i2,i3,i4,i5,i6,i7,c,i8,i9,i10⟩ hle hs
  exact⟨(hs _ (by omega)).trans i1,(hs _ (by omega)).trans i2,(hs _ (by omega)).trans i3,(hs _ (by omega)).trans i4,by omega,i6,fun m hm=>(hs _ (by omega)).trans (i7 m hm),c,(hs _ (by omega)).trans i8,i9,i10⟩
 ·rintro n p H3 n3 h32 h128 ⟨i1,i2,i3,i4,i5,i6,i7,c,i8,i9,i10⟩ hrd
  obtain⟨hpp,hr,hof⟩:=cN hrd (dO hm h128)
  refine J9 (DE (ic:=nx+1+1+1) (kc:=nx) (r:=nx+1+1) (n:=n) (it:=itZ) i4 i3 i8 (by omega) (by omega) hpp hr (by omega) (by omega) (by omega)) ?_
  rintro⟨_,H4,n4⟩ ⟨rfl,g2,g3,g4⟩
  dsimp only at g2 g3 g4 ⊢
  have hgo:jF (az mem) (128-n) n=(jF (az mem) (128-(n+1)) (n+1)).map (gy itZ 1025 (dL p) + ·):=by
   rw [show 128-n=(128-(n+1))+1 by omega]
   show(if _ then _ else _)=_
   rw [hrd,JG (fun h=>h rfl)]
  refine .inl ⟨rfl,(g4 _ (by omega) (by omega)).trans i1,(g4 _ (by omega) (by omega)).trans i2,(g4 _ (by omega) (by omega)).trans i3,(g4 _ (by omega) (by omega)).trans i4,by omega,by omega,fun m hm=>(g4 _ (by omega) (by omega)).trans (i7 m hm),_,g3,?_,?_⟩
  ·rw [i9,hgo,Option.map_map]
   congr 1
   funext x
   simp [Nat.add_assoc]
  ·have:=r9 itZ 1025 (dL p)
   omega
 ·rintro n H3 n3 h32 h128 ⟨i1,i2,i3,i4,i5,i6,i7,c,i8,i9,i10⟩ hrd
  have hgo:jF (az mem) (128-n) n=none:=by
   rw [show 128-n=(128-(n+1))+1 by omega]
   show(if _ then _ else _)=_
   rw [hrd,JH (by decide)]
  exact⟨rfl,by rw [i9,hgo];rfl,i2,i5,i7,c,i8⟩
 ·refine⟨by exact(mo b lb).trans hb,m2,m3,m4,Jv _,by omega,mo,0,m1,?_,by decide⟩
  show pD (az mem)=(pD (az mem)).map (0 + ·)
  cases pD (az mem) <;> simp
 ·rintro⟨_,H4,n4⟩ (⟨rfl,c1,c2,c3,c4,c5,_,c7,c,c8,c9,_⟩|⟨e,rfl,rfl,c1,c2,c3,c7,c,c8⟩)
  ·dsimp only at c1 c2 c3 c4 c5 c7 c8 c9 ⊢
   have c9:pD (az mem)=some c:=by rw [c9];show(some 0).map _=_;simp
   rw [c9]
   repeat first|apply ai;rfl|apply aG;rfl;(focus((repeat(first|assumption|exact ae|refine ab (by omega) ?_));done));rfl|apply dM;rfl;rfl
   refine ew Tryz.func10 (congrArg Array.toList Tryz.results10) (by kernel_rfl) (J9 yD ?_)
   rintro _ rfl
   refine⟨_,(by(repeat(first|exact Kb|apply Kc rfl (Kf (F.ag _ rfl) (by repeat(first|exact ae|refine ab (by omega) ?_)) (aB rfl))))),?_⟩
   dsimp only
   exact⟨by omega,fun m hm=>by(repeat(refine ab (by omega) ?_));exact c7 m hm,rfl⟩
  ·dsimp only at c1 c2 c3 c7 c8 ⊢
   rw [c1]
   repeat first|apply ai;rfl|apply aG;rfl;(focus((repeat(first|assumption|exact ae));done));rfl|apply iv;rfl;decide
   refine cW (R:=fun H8 n8=>H8.at' nx=some (BC c)∧H8.at' (nx+1)=some (fJ 13)∧nx≤n8∧ ∀ m,m<nx→H8.at' m=H.at' m) ⟨by repeat(first|assumption|refine ab (by omega) ?_),by repeat(exact ae),by omega,fun m hm=>by(repeat(refine ab (by omega) ?_));exact c7 m hm⟩ ?_
   rintro H8 n8 ⟨e1,e2,e3,e4⟩
   (apply bh;(focus(kernel_rfl));(focus(kernel_rfl)))
   repeat first|apply dw;rfl;assumption;rfl|refine dQ rfl rfl rfl (F.sz _ rfl) (by repeat(first|assumption|refine ab (by omega) ?_)) (by rfl) (by rfl) ?_
   refine aA ⟨by kernel_rfl,?_,?_⟩;(focus(repeat(first|exact Kk|apply jU;rfl|refine fX 0 rfl (by kernel_rfl) (by(repeat(refine⟨(by(exact am (F.ag _ rfl) rfl (by repeat(first|assumption|exact ae|refine ab (by omega) ?_)) (aB rfl))),?_⟩));exact Kk) ?_)))
   refine ew Tryz.func10 (congrArg Array.toList Tryz.results10) (by kernel_rfl) (J9 yD ?_)
   rintro _ rfl
   refine⟨_,(by(repeat(first|exact Kb|apply Kc rfl (Kf (F.ag _ rfl) (by repeat(first|exact ae|refine ab (by omega) ?_)) (aB rfl))))),?_⟩
   dsimp only
   exact⟨by omega,fun m hm=>by(repeat(refine ab (by omega) ?_));exact e4 m hm,rfl⟩
def df(p:List UInt8):Nat→Nat
 | 0=>0
 | m+1=>if ak p m=0 then df p m else m+1
def o6(p:List UInt8):List UInt8:=if df p (ac p)=0 then cm (cm p 14 (df p (ac p))) 16 1024 else cm p 14 (df p (ac p))
def gI(p:List UInt8)(n:Nat):List UInt8×Nat:=
 if bg p=false then(zeroP,4) else if(cn p n).2.2≠0 then(zeroP,(cn p n).2.2) else(o6 (bJ p n 0 0),0)
theorem HK(hp:p.length=1024):Fnc Tryz.prog 99 [.agg (pgS p),.sc (.int .i64 (n:Int))] H nx (fun q=>q.1=pgE (gI p n)∧nx≤q.2.2∧ ∀ m,m<nx→q.2.1.at' m=H.at' m):=by
 refine Ka Tryz.func99 rfl rfl ?_
 refine aX fun hund=>?_
 repeat first|refine a9 rfl rfl ci ?_|apply ai;rfl
 have hb1:((H.set nx (pgO p)).set (nx+1) (pgO zeroP)).at' nx=some (pgO p):=by repeat(first|exact ae|refine ab (by omega) ?_)
 have hz1:((H.set nx (pgO p)).set (nx+1) (pgO zeroP)).at' (nx+1)=some (pgO zeroP):=by repeat(exact ae)
 have ho1: ∀ m,m<nx→((H.set nx (pgO p)).set (nx+1) (pgO zeroP)).at' m=H.at' m:=fun m hm=>by(repeat(refine ab (by omega) ?_));rfl
 generalize (H.set nx (pgO p)).set (nx+1) (pgO zeroP)=H1 at hb1 hz1 ho1 ⊢
 cases hr:bg p with
 | false=>
   have hv:gI p n=(zeroP,4):=by unfold gI;rw [JH hr]
   have hrs:=fun nx=>gz (nx:=nx) hb1 hp
   rw [hr] at hrs
   repeat first|apply bA ah ah;rfl;assumption|apply ai;rfl|apply bY;rfl;kernel_rfl;exact hrs _|refine cd (db iy) rfl rfl rfl ?_
   ((apply bm Tryz.func99 (congrArg Array.toList Tryz.results99));(focus((apply Kc rfl (Ke (F.ag _ rfl) (by repeat(exact ae)) (bk ah)));(repeat(first|exact Kb|apply Kd rfl)))))
   exact⟨by rw [hv];rfl,by dsimp only;omega,fun m hm=>(aa _ _ (by omega)).trans (ho1 m hm)⟩
 | true=>
   have hf:=fG hp hr
   have hrs:=fun nx=>gz (nx:=nx) hb1 hp
   rw [hr] at hrs
   repeat first|apply ai;rfl|apply bY;rfl;kernel_rfl;exact hrs _
   refine bn rfl rfl rfl rfl (fun hq=>absurd hq (by omega)) (fun _=>?_)
   repeat first|apply ai;rfl|apply bY;rfl;kernel_rfl;exact v8 hb1 hf
   refine lM rfl rfl rfl rfl (fun h1=>?_) (fun h1=>?_)
   ·have hv:gI p n=(zeroP,(cn p n).2.2):=by unfold gI;rw [JG (by rw [hr];decide),JH (by omega)]
    repeat first|apply bA ah ah;rfl;assumption|apply ai;rfl|refine cd (db iy) rfl rfl rfl ?_
    ((apply bm Tryz.func99 (congrArg Array.toList Tryz.results99));(focus((apply Kc rfl (Ke (F.ag _ rfl) (by repeat(exact ae)) (bk ah)));(repeat(first|exact Kb|apply Kd rfl)))))
    exact⟨by rw [hv];rfl,by dsimp only;omega,fun m hm=>(aa _ _ (by omega)).trans (ho1 m hm)⟩
   ·have hv:gI p n=(o6 (bJ p n 0 0),0):=by unfold gI;rw [JG (by rw [hr];decide),JG (by omega)]
    have hn:n<ac p:=by
     rcases JJ n (ac p)with h|h
     ·exact h
     ·exfalso
      have:(cn p n).2.2=6:=by unfold cn;rw [JH h]
      omega
    have hf1:=hf.2.1
    have hf2:=hf.2.2
    repeat apply ai;rfl
    refine aI rfl rfl rfl (by kernel_rfl) (J9 (qH hb1 hp (n:=n) (a:=0) (s:=0) (by omega) (by omega) (by omega)) ?_)
    rintro⟨_,H2,n2⟩ ⟨rfl,q2,q3,q4⟩
    dsimp only at q2 q3 q4 ⊢
    have hp1:(bJ p n 0 0).length=1024:=by rw [fC (by omega)];exact hp
    have hsl:ac (bJ p n 0 0)=ac p:=by
     unfold bJ
     rw [show ac (cm (cm p (18+4*n) 0) (18+4*n+2) 0)=gL (cm (cm p (18+4*n) 0) (18+4*n+2) 0) 14 from rfl,cO (by rw [bD (by omega)];omega) (by omega),cO (by omega) (by omega)]
    have k2: ∀ m,m<nx→H2.at' m=H.at' m:=fun m hm=>(q4 m (by omega) (by omega)).trans (ho1 m hm)
    have hz2:H2.at' (nx+1)=some (pgO zeroP):=(q4 _ (by omega) (by omega)).trans hz1
    have hb0: ∀ {vo:VO},(H2.set n2 vo).at' nx=some (pgO (bJ p n 0 0)):=fun {vo}=>(aa _ _ (by omega)).trans q2
    generalize bJ p n 0 0=p1 at hv q2 hp1 hsl hb0 ⊢
    repeat first|apply ai;rfl|apply bY;rfl;kernel_rfl;exact mf|apply bY;rfl;kernel_rfl;exact iX hb0 hp1
    refine bC (α:=Nat) (fun m=> [(2,.ptr nx 0),(4,.ptr (nx+1) 0),(9,Er n2),(10,.sc (.int .i64 (m:Int)))])
     (fun m H3 n3=>n3=n2+1∧m≤ac p1∧df p1 m=df p1 (ac p1)∧H3=H2.set n2 (BM nx)) (fun m=>m) (ac p1)
     ⟨rfl,Jv _,rfl,rfl⟩ (Kg (Kj rfl)) ?_
    rintro m H3 n3 ⟨rfl,h3,h4,rfl⟩ ih
    repeat apply ai;rfl
    refine ey rfl rfl rfl rfl (fun h5=>?_) (fun h5=>?_)
    ·obtain⟨k,rfl⟩: ∃ k,m=k+1:=⟨m-1,by omega⟩
     repeat first|apply ai;rfl|apply aL;rfl;omega;omega
     rw [show(((k+1:Nat)):Int)-1=(k:Int) by omega]
     refine jy rfl rfl rfl rfl (by kernel_rfl) (J9 (oc (aj _ _ _) hb0 hp1 (n:=k) (by omega)) ?_)
     rintro _ rfl
     dsimp only
     repeat apply ai;rfl
     refine lM rfl rfl rfl rfl (fun e1=>?_) (fun e1=>?_)
     ·have hM:df p1 (ac p1)=k+1:=by rw [← h4];show(if ak p1 k=0 then df p1 k else k+1)=_;rw [JG (by omega)]
      have hcut:o6 p1=cm p1 14 (k+1):=by unfold o6;rw [hM,JG (by omega)]
      repeat apply ai;rfl
      refine aI rfl rfl rfl (by kernel_rfl) (J9 (pA hb0 hp1 (o:=14) (n:=k+1) (by decide) (by omega)) ?_)
      rintro⟨_,H4,n4⟩ ⟨rfl,r2,r3,r4⟩
      dsimp only at r2 r3 r4 ⊢
      have hz4:H4.at' (nx+1)=some (pgO zeroP):=(r4 _ (by omega) (by omega)).trans ((aa _ _ (by omega)).trans hz2)
      have hp4:(cm p1 14 (k+1)).length=1024:=by rw [bD (by omega)];exact hp1
      have k4: ∀ m,m<nx→H4.at' m=H.at' m:=fun m hm=>(r4 m (by omega) (by omega)).trans ((aa _ _ (by omega)).trans (k2 m hm))
      generalize cm p1 14 (k+1)=pL at hcut r2 hp4
      repeat apply ai;rfl
      refine cF rfl rfl rfl rfl (fun hq=>absurd hq (by omega)) (fun _=>?_)
      repeat first|apply bu hp4;rfl;assumption|apply bA hp4 ah;rfl;assumption|apply ai;rfl
      ((apply bm Tryz.func99 (congrArg Array.toList Tryz.results99));(focus((apply Kc rfl (Ke (F.ag _ rfl) (by repeat(exact ae)) (bk hp4)));(repeat(first|exact Kb|apply Kd rfl)))))
      exact⟨by rw [hv,hcut];rfl,by dsimp only;omega,fun m hm=>(aa _ _ (by omega)).trans (k4 m hm)⟩
     ·have hk:df p1 k=df p1 (ac p1):=by rw [← h4];show _=(if ak p1 k=0 then df p1 k else k+1);rw [JH (by omega)]
      repeat first|apply ai;rfl|apply aL;rfl;omega;omega
      rw [show(((k+1:Nat)):Int)-1=(k:Int) by omega]
      exact ih _ _ _ k ⟨rfl,by omega,hk,rfl⟩ (by omega) (Kg (Kj rfl))
    ·obtain rfl:m=0:=by omega
     have hM:df p1 (ac p1)=0:=h4.symm
     have hcut:o6 p1=cm (cm p1 14 0) 16 1024:=by unfold o6;rw [hM,JH rfl]
     repeat apply ai;rfl
     refine aI rfl rfl rfl (by kernel_rfl) (J9 (pA hb0 hp1 (o:=14) (n:=0) (by decide) (by omega)) ?_)
     rintro⟨_,H4,n4⟩ ⟨rfl,r2,r3,r4⟩
     dsimp only at r2 r3 r4 ⊢
     have hz4:H4.at' (nx+1)=some (pgO zeroP):=(r4 _ (by omega) (by omega)).trans ((aa _ _ (by omega)).trans hz2)
     have hp4:(cm p1 14 0).length=1024:=by rw [bD (by omega)];exact hp1
     have k4: ∀ m,m<nx→H4.at' m=H.at' m:=fun m hm=>(r4 m (by omega) (by omega)).trans ((aa _ _ (by omega)).trans (k2 m hm))
     repeat apply ai;rfl
     refine cF rfl rfl rfl rfl (fun _=>?_) (fun hq=>absurd rfl hq)
     repeat apply ai;rfl
     refine aI rfl rfl rfl (by kernel_rfl) (J9 (pA r2 hp4 (o:=16) (n:=1024) (by decide) (by decide)) ?_)
     rintro⟨_,H5,n5⟩ ⟨rfl,u2,u3,u4⟩
     dsimp only at u2 u3 u4 ⊢
     have hz5:H5.at' (nx+1)=some (pgO zeroP):=(u4 _ (by omega) (by omega)).trans hz4
     have hp5:(cm (cm p1 14 0) 16 1024).length=1024:=by rw [bD (by omega)];exact hp4
     have k5: ∀ m,m<nx→H5.at' m=H.at' m:=fun m hm=>(u4 m (by omega) (by omega)).trans (k4 m hm)
     generalize cm (cm p1 14 0) 16 1024=pL at hcut u2 hp5
     repeat first|apply bu hp5;rfl;assumption|apply bA hp5 ah;rfl;assumption|apply ai;rfl
     ((apply bm Tryz.func99 (congrArg Array.toList Tryz.results99));(focus((apply Kc rfl (Ke (F.ag _ rfl) (by repeat(exact ae)) (bk hp5)));(repeat(first|exact Kb|apply Kd rfl)))))
     exact⟨by rw [hv,hcut];rfl,by dsimp only;omega,fun m hm=>(aa _ _ (by omega)).trans (k5 m hm)⟩
theorem HJ(hp:p.length=1024):Fnc Tryz.prog 99 [.agg (pgS p),.sc (.int .i64 (n:Int))] H nx (fun q=>q=(pgE (gI p n),H,nx)):=Fnc.bv (gU _) (HK hp)
theorem ot(p:List UInt8): ∀ m,df p m≤m∧(∀ j,df p m≤j→j<m→ak p j=0)∧(0<df p m→ak p (df p m-1)≠0)
 | 0=>⟨Jv _,fun j _ h=>absurd h (Nat.not_lt_zero _),fun h=>absurd h (Nat.lt_irrefl _)⟩
 | m+1=>by
   unfold df
   split
   ·rename_i h
    obtain⟨h1,h2,h3⟩:=ot p m
    refine⟨by omega,fun j h4 h5=>?_,h3⟩
    rcases JJ j m with h6|h6
    ·exact h2 j h4 h6
    ·obtain rfl:j=m:=by omega
     exact h
   ·rename_i h
    exact⟨Jv _,fun j h4 h5=>absurd h5 (by omega),fun _=>h⟩
abbrev lp(p:List UInt8)(n:Nat):List UInt8:=o6 (bJ p n 0 0)
end
structure Dps (p:List UInt8) (S:List Nat) (q:List UInt8):Prop where
 ok:Okp q
 slots:ac q≤ac p
 gone: ∀ j,ac q≤j→j<ac p→j∈S∨ak p j=0
 ptr0: ∀ j,j<ac p→j∈S→ay q j=0∧ak q j=0
 ptr: ∀ j,j<ac p→j∉S→ay q j=ay p j∧ak q j=ak p j
 begins:aD q=if ac q=0 then 1024 else aD p
 get: ∀ i,i<14∨18+4*ac p≤i→q[i]? =p[i]?
section
variable {n:Nat}{S S':List Nat}{p q:List UInt8}
theorem zp{o:Nat}(hp:o+2≤p.length)(hq:o+2≤q.length)(h:gL p o=gL q o):p[o]? =q[o]? ∧p[o+1]? =q[o+1]? :=by
 have e: ∀ {r:List UInt8} (hr:o+2≤r.length),gL r o=256*(r[o]'(by omega)).toNat+(r[o+1]'(by omega)).toNat:=fun {r} hr=>by
  have hd:(r.drop o).take 2= [r[o]'(by omega),r[o+1]'(by omega)]:=by
   rw [List.drop_eq_getElem_cons (by omega:o<r.length),List.drop_eq_getElem_cons (by omega:o+1<r.length)]
   rfl
  unfold gL
  rw [hd]
  simp [beN]
 rw [e hp,e hq] at h
 have h1:=(p[o+1]'(by omega)).toNat_lt
 have h2:=(q[o+1]'(by omega)).toNat_lt
 rw [Jf (by omega),Jf (by omega),Jf (by omega),Jf (by omega)]
 exact⟨congrArg some (UInt8.toNat_inj.1 (by omega)),congrArg some (UInt8.toNat_inj.1 (by omega))⟩
theorem o5(h:Okp p)(hn:n<ac p)(hs:ak p n≠0):Dps p [n] (lp p n):=by
 show Dps p [n] (o6 (bJ p n 0 0))
 have hp:=h.len
 have hh:=h.head
 have ht:=h.top
 have hxl:(bJ p n 0 0).length=1024:=(fC (by omega)).trans hp
 have hxs:ac (bJ p n 0 0)=ac p:=cS (by omega) (by omega)
 have hxb:aD (bJ p n 0 0)=aD p:=cS (by omega) (by omega)
 have hf0:ay (bJ p n 0 0) n=0:=kE (by omega) (by decide)
 have hz0:ak (bJ p n 0 0) n=0:=mL (by omega) (by decide)
 have hfo: ∀ j,j≠n→ay (bJ p n 0 0) j=ay p j:=fun j hj=>cS (by omega) (by omega)
 have hzo: ∀ j,j≠n→ak (bJ p n 0 0) j=ak p j:=fun j hj=>cS (by omega) (by omega)
 have hge: ∀ i,i<14∨18+4*ac p≤i→(bJ p n 0 0)[i]? =p[i]? :=fun i hi=>jJ (by omega) (by omega)
 generalize bJ p n 0 0=x at hxl hxs hxb hf0 hz0 hfo hzo hge ⊢
 obtain⟨t1,t2,t3⟩:=ot x (ac x)
 rw [hxs] at t1 t2
 have hcut:o6 x=if df x (ac x)=0 then cm (cm x 14 (df x (ac x))) 16 1024 else cm x 14 (df x (ac x)):=rfl
 rw [hxs] at hcut t3
 generalize df x (ac p)=m at t1 t2 t3 hcut
 have hl1:(cm x 14 m).length=1024:=(bD (by omega)).trans hxl
 have hql:(o6 x).length=1024:=by rw [hcut];split;exact(bD (by omega)).trans hl1;exact hl1
 have hqn: ∀ o,18≤o→gL (o6 x) o=gL x o:=fun o ho=>by
  rw [hcut]
  split
  ·exact(cO (by omega) (by omega)).trans (cO (by omega) (by omega))
  ·exact cO (by omega) (by omega)
 have hqs:ac (o6 x)=m:=by
  rw [hcut]
  split
  ·exact(cO (by omega) (by omega)).trans (eQ (by omega) (by omega))
  ·exact eQ (by omega) (by omega)
 have hqb:aD (o6 x)=if m=0 then 1024 else aD p:=by
  rw [hcut]
  split
  ·exact eQ (by omega) (by decide)
  ·exact(cO (by omega) (by omega)).trans hxb
 have hqg: ∀ i,i<14∨18≤i→(o6 x)[i]? =x[i]? :=fun i hi=>by
  rw [hcut]
  split
  ·exact(fI (by omega) (by omega)).trans (fI (by omega) (by omega))
  ·exact fI (by omega) (by omega)
 generalize o6 x=q at hql hqn hqs hqb hqg
 have hfq: ∀ j,ay q j=ay x j:=fun j=>hqn _ (by omega)
 have hzq: ∀ j,ak q j=ak x j:=fun j=>hqn _ (by omega)
 refine⟨⟨hql,?_,?_,fun hpos=>?_,fun j hj=>?_,fun i j hij hj hzi hzj=>?_⟩,by omega,fun j h1 h2=>?_,fun j h1 h2=>?_,fun j h1 h2=>?_,by rw [hqs];exact hqb,fun i hi=>(hqg i (by omega)).trans (hge i hi)⟩
 ·rw [hqs,hqb];split <;> omega
 ·rw [hqb];split <;> omega
 ·rw [hqs] at hpos ⊢
  rw [hzq]
  exact t3 hpos
 ·rw [hqs] at hj
  rw [hfq,hzq,hqb,JG (by omega)]
  by_cases hjn:j=n
  ·subst hjn
   exact .inl ⟨hf0,hz0⟩
  ·rw [hfo j hjn,hzo j hjn]
   exact h.slot j (by omega)
 ·rw [hqs] at hj
  rw [hzq] at hzi hzj
  have hi:i≠n:=fun e=>by subst e;exact hzi hz0
  have hj2:j≠n:=fun e=>by subst e;exact hzj hz0
  rw [hzo _ hi] at hzi
  rw [hzo _ hj2] at hzj
  rw [hfq,hzq,hfq,hzq,hfo _ hi,hzo _ hi,hfo _ hj2,hzo _ hj2]
  exact h.apart i j hij (by omega) hzi hzj
 ·rw [hqs] at h1
  by_cases hjn:j=n
  ·exact .inl (by rw [hjn];exact JM.2 rfl)
  ·have:=t2 j h1 h2
   rw [hzo j hjn] at this
   exact .inr this
 ·obtain rfl:=JM.1 h2
  exact⟨(hfq _).trans hf0,(hzq _).trans hz0⟩
 ·have hjn:j≠n:=fun e=>h2 (by rw [e];exact JM.2 rfl)
  exact⟨(hfq _).trans (hfo j hjn),(hzq _).trans (hzo j hjn)⟩
theorem Dps.there(h:Dps p S q)(hn:n<ac p)(hs:ak p n≠0)(hS:n∉S):n<ac q∧ak q n≠0:=by
 refine⟨?_,by rw [(h.ptr n hn hS).2];exact hs⟩
 rcases JJ n (ac q)with h1|h1
 ·exact h1
 ·rcases h.gone n h1 hn with h2|h2
  ·exact absurd h2 hS
  ·exact absurd h2 hs
theorem Dps.more(h:Dps p S q)(hn:n<ac p)(hs:ak p n≠0)(hS:n∉S):Dps p (n :: S) (lp q n):=by
 obtain⟨h1,h2⟩:=h.there hn hs hS
 have g:=o5 h.ok h1 h2
 generalize lp q n=r at g
 have hsl:=h.slots
 have hgs:=g.slots
 have ho: ∀ j,j<ac p→j≠n→ay r j=ay q j∧ak r j=ak q j:=fun j hj hjn=>by
  rcases JJ j (ac q)with h3|h3
  ·exact g.ptr j h3 fun hm=>hjn (JM.1 hm)
  ·exact⟨jO fun i h4 h5=>g.get i (by omega),jO fun i h4 h5=>g.get i (by omega)⟩
 refine⟨g.ok,by omega,fun j h3 h4=>?_,fun j h3 h4=>?_,fun j h3 h4=>?_,?_,fun i hi=>(g.get i (by omega)).trans (h.get i hi)⟩
 ·by_cases hjn:j=n
  ·exact .inl (by rw [hjn];exact JO)
  ·by_cases hjS:j∈S
   ·exact .inl (JP _ hjS)
   ·refine .inr ?_
    rw [← (h.ptr j h4 hjS).2]
    rcases JJ j (ac q)with h5|h5
    ·rcases g.gone j h3 h5 with h6|h6
     ·exact absurd (JM.1 h6) hjn
     ·exact h6
    ·rcases h.gone j h5 h4 with h6|h6
     ·exact absurd h6 hjS
     ·rw [(h.ptr j h4 hjS).2];exact h6
 ·by_cases hjn:j=n
  ·subst hjn
   exact g.ptr0 j h1 (JM.2 rfl)
  ·rcases JV.1 h4 with h5|h5
   ·exact absurd h5 hjn
   ·have h6:=ho j h3 hjn
    have h7:=h.ptr0 j h3 h5
    exact⟨h6.1.trans h7.1,h6.2.trans h7.2⟩
 ·have hjn:j≠n:=fun e=>h4 (by rw [e];exact JO)
  have h6:=ho j h3 hjn
  have h7:=h.ptr j h3 fun hm=>h4 (JP _ hm)
  exact⟨h6.1.trans h7.1,h6.2.trans h7.2⟩
 ·have hb:=h.begins
  rw [JG (by omega)] at hb
  rw [g.begins,hb]
theorem Dps.uniq{q':List UInt8}(hp:Okp p)(h:Dps p S q)(h':Dps p S' q')(hS: ∀ j,j∈S↔j∈S'):q=q':=by
 have hh:=hp.head
 have ht:=hp.top
 have lt: ∀ {q q':List UInt8} {S S':List Nat},Dps p S q→Dps p S' q'→(∀ j,j∈S↔j∈S')→ ¬ ac q<ac q':=fun {q q' S S'} h h' hS hlt=>by
  have h1:=h'.ok.last (by omega)
  have h2:=h'.slots
  rcases h.gone (ac q'-1) (by omega) (by omega)with h3|h3
  ·exact h1 (h'.ptr0 _ (by omega) ((hS _).1 h3)).2
  ·by_cases h4:ac q'-1∈S'
   ·exact h1 (h'.ptr0 _ (by omega) h4).2
   ·exact h1 ((h'.ptr _ (by omega) h4).2.trans h3)
 have hsl:ac q=ac q':=by
  have h1:=lt h h' hS
  have h2:=lt h' h fun j=>(hS j).symm
  omega
 have hb:aD q=aD q':=by rw [h.begins,h'.begins,hsl]
 have hpt: ∀ j,j<ac p→ay q j=ay q' j∧ak q j=ak q' j:=fun j hj=>by
  by_cases hjS:j∈S
  ·have h1:=h.ptr0 j hj hjS
   have h2:=h'.ptr0 j hj ((hS j).1 hjS)
   exact⟨h1.1.trans h2.1.symm,h1.2.trans h2.2.symm⟩
  ·have h1:=h.ptr j hj hjS
   have h2:=h'.ptr j hj fun hm=>hjS ((hS j).2 hm)
   exact⟨h1.1.trans h2.1.symm,h1.2.trans h2.2.symm⟩
 have hl:=h.ok.len
 have hl':=h'.ok.len
 have two: ∀ o i,o+2≤1024→gL q o=gL q' o→i=o∨i=o+1→q[i]? =q'[i]? :=fun o i ho hn hi=>by
  have:=zp (by omega) (by omega) hn
  rcases hi with rfl|rfl
  ·exact this.1
  ·exact this.2
 refine J1 fun i=>?_
 by_cases h1:i<14∨18+4*ac p≤i
 ·rw [h.get i h1,h'.get i h1]
 ·by_cases h2:i<16
  ·exact two 14 i (by decide) hsl (by omega)
  ·by_cases h3:i<18
   ·exact two 16 i (by decide) hb (by omega)
   ·have hj:=hpt ((i-18) / 4) (by omega)
    by_cases h4:(i-18) % 4<2
    ·exact two (18+4*((i-18) / 4)) i (by omega) hj.1 (by omega)
    ·exact two (18+4*((i-18) / 4)+2) i (by omega) hj.2 (by omega)
def dh(p:List UInt8)(S:List Nat):List UInt8:=S.foldl lp p
theorem dels{p:List UInt8}: ∀ (S A:List Nat) (q:List UInt8),Dps p A q→S.Nodup→(∀ n,n∈S→n∉A∧n<ac p∧ak p n≠0)→ ∃ B,(∀ j,j∈B↔j∈A∨j∈S)∧Dps p B (S.foldl lp q)
 | [],A,q,h,_,_=>⟨A,fun j=>by simp,h⟩
 | n :: S,A,q,h,hnd,hS=>by
   obtain⟨h1,h2,h3⟩:=hS n JO
   rw [List.nodup_cons] at hnd
   obtain⟨B,hB,g⟩:=dels S (n :: A) (lp q n) (h.more h2 h3 h1) hnd.2 fun m hm=>by
    obtain⟨h4,h5⟩:=hS m (JP _ hm)
    refine⟨fun h6=>?_,h5⟩
    rcases JV.1 h6 with rfl|h6
    ·exact hnd.1 hm
    ·exact h4 h6
   refine⟨B,fun j=>?_,g⟩
   rw [hB,JV,JV]
   constructor
   ·rintro((h|h)|h)
    ·exact .inr (.inl h)
    ·exact .inl h
    ·exact .inr (.inr h)
   ·rintro(h|(h|h))
    ·exact .inl (.inr h)
    ·exact .inl (.inl h)
    ·exact .inr h
def Has(p:List UInt8)(S:List Nat):Prop:=S.Nodup∧ ∀ n,n∈S→n<ac p∧ak p n≠0
theorem mW(h:Okp p)(h0:S≠ [])(hS:Has p S): ∃ B,(∀ j,j∈B↔j∈S)∧Dps p B (dh p S):=by
 cases S with
 | nil=>exact absurd rfl h0
 | cons n S=>
   obtain⟨h1,h2⟩:=hS
   rw [List.nodup_cons] at h1
   have h3:=h2 n JO
   obtain⟨B,hB,g⟩:=dels S [n] (lp p n) (o5 h h3.1 h3.2) h1.2 fun m hm=>⟨fun h6=>h1.1 (by rw [← JM.1 h6];exact hm),h2 m (JP _ hm)⟩
   refine⟨B,fun j=>?_,g⟩
   rw [hB,JM,JV]
theorem mm(h:Okp p)(hS:Has p S):Okp (dh p S):=by
 by_cases h0:S= []
 ·subst h0;exact h
 ·obtain⟨B,_,g⟩:=mW h h0 hS
  exact g.ok
theorem uB(h:Okp p)(hS:Has p S)(hp:S.Perm S'):dh p S=dh p S':=by
 by_cases h0:S= []
 ·subst h0
  rw [← hp.nil_eq]
 ·have hS':Has p S':=⟨hp.nodup_iff.1 hS.1,fun n hn=>hS.2 n (hp.mem_iff.2 hn)⟩
  have h0':S'≠ []:=fun e=>by subst e;exact h0 hp.eq_nil
  obtain⟨B,hB,g⟩:=mW h h0 hS
  obtain⟨B',hB',g'⟩:=mW h h0' hS'
  exact g.uniq h g' fun j=>by rw [hB,hB',hp.mem_iff]
theorem Has.there(h:Okp p){A:List Nat}{B:List Nat}(hS:Has p (A ++ n :: B)):n<ac (dh p A)∧ak (dh p A) n≠0∧Okp (dh p A):=by
 obtain⟨h1,h2⟩:=hS
 rw [List.nodup_append] at h1
 obtain⟨h3,h4,h5⟩:=h1
 have hA:Has p A:=⟨h3,fun m hm=>h2 m (List.mem_append_left _ hm)⟩
 have hn:=h2 n (List.mem_append_right _ JO)
 have hok:=mm h hA
 by_cases h0:A= []
 ·subst h0;exact⟨hn.1,hn.2,hok⟩
 ·obtain⟨C,hC,g⟩:=mW h h0 hA
  obtain⟨h6,h7⟩:=g.there hn.1 hn.2 fun h8=>h5 n ((hC n).1 h8) n JO rfl
  exact⟨h6,h7,hok⟩
def rI(p:List UInt8)(S:List Nat):List UInt8:=dL (dh p S)
theorem Af(h:Okp p)(hS:Has p S)(hp:S.Perm S'):rI p S=rI p S':=by
 unfold rI
 rw [uB h hS hp]
theorem Aq: ∀ (size n m:Nat),beB (n*256 ^ size+m) size=beB m size
 | 0,n,m=>rfl
 | size+1,n,m=>by
   rw [kM,kM]
   congr 1
   ·apply UInt8.toNat_inj.1
    rw [UInt8.toNat_ofNat',UInt8.toNat_ofNat']
    have h0:0<256 ^ size:=Nat.pow_pos (by decide)
    rw [show n*256 ^ (size+1)+m=m+256 ^ size*(n*256) by rw [Nat.pow_succ,Nat.add_comm,Nat.mul_comm (256 ^ size) 256,←Nat.mul_assoc,Nat.mul_comm (n*256)],Nat.add_mul_div_left _ _ h0]
    show(m / 256 ^ size+n*256) % 256=m / 256 ^ size % 256
    omega
   ·rw [show n*256 ^ (size+1)+m=(n*256)*256 ^ size+m by rw [Nat.pow_succ,Nat.mul_comm (256 ^ size) 256,←Nat.mul_assoc]]
    exact Aq size (n*256) m
theorem Ar: ∀ l:List UInt8,beB (beN l) l.length=l
 | []=>rfl
 | c :: l=>by
   have h0:0<256 ^ l.length:=Nat.pow_pos (by decide)
   have h1:=mw l
   rw [Jy,kM,wy]
   congr 1
   ·rw [show c.toNat*256 ^ l.length+beN l=beN l+256 ^ l.length*c.toNat by rw [Nat.add_comm,Nat.mul_comm],Nat.add_mul_div_left _ _ h0,Nat.div_eq_of_lt h1,JI]
    exact UInt8.ofNat_toNat
   ·exact(Aq _ _ _).trans (Ar l)
theorem wz{l:List UInt8}(h:l.length=n):beB (beN l) n=l:=by rw [← h];exact Ar l
theorem CF{l:List UInt8}{v:gf}(h:ofV l=some v):l=aO v:=by
 rw [of_eq] at h
 unfold ofR at h
 split at h
 ·cases h
 ·rename_i h1
  split at h
  ·cases h
  ·rename_i h2
   split at h
   ·rename_i h3
    obtain⟨h3,h4⟩:=h3
    have h:=(Option.some.inj h).symm
    subst h
    generalize hk:beN ((l.drop 16).take 2)=k at h2 h4
    have hver:ny l=((l.drop 18).take k,l.drop (20+k),beN (l.take 8),beN ((l.drop 8).take 8)):=by rw [← hk];rfl
    rw [hver]
    unfold aO jl
    simp only
    have e1:(l.take 8).length=8:=by rw [JK];omega
    have e2:((l.drop 8).take 8).length=8:=by rw [JK,JN];omega
    have e3:((l.drop 18).take k).length=k:=by rw [JK,JN];omega
    have e4:((l.drop 16).take 2).length=2:=by rw [JK,JN];omega
    have e5:((l.drop (18+k)).take 2).length=2:=by rw [JK,JN];omega
    rw [e3,←h4,wz e1,wz e2,wz e5,←hk,wz e4,hk]
    have c: ∀ a b:Nat,(l.drop a).take b ++ l.drop (a+b)=l.drop a:=fun a b=>by
     rw [← List.drop_drop]
     exact List.take_append_drop _ _
    have c1:=c 8 8
    have c2:=c 16 2
    have c3:=c 18 k
    have c4:=c (18+k) 2
    rw [show 18+k+2=20+k by omega] at c4
    rw [JR,c4,c3,c2,c1,List.take_append_drop]
   ·cases h
end
structure GoodQ (p:List UInt8):Prop where
 ok:Okp p
 kind:kP p=4
 bare: ∀ i,i<12→p[i]? =some 0
 items: ∀ j,j<ac p→ak p j≠0→(ofV (aV p j)).isSome=true
section
variable {k n:Nat}{it p:List UInt8}{l:List (Int×Int)}
theorem GoodQ.right(h:GoodQ p):bg p=true:=(bi h.ok.len).2 h.ok
theorem nf(hp:p.length=1024)(h: ∀ i,i<12→p[i]? =some 0):bareP p=p:=by
 refine J1 fun i=>?_
 unfold bareP
 by_cases h1:i<12
 ·rw [Js (by rw [JT];exact h1),List.getElem?_replicate,JH h1,h i h1]
 ·rw [JQ (by rw [JT];omega),JT,List.getElem?_drop,show 12+(i-12)=i by omega]
theorem GoodQ.bareP(h:GoodQ p):bareP p=p:=nf h.ok.len h.bare
theorem zG{q:List UInt8}(h:q[12]? =p[12]?):kP q=kP p:=by
 unfold kP
 rw [Jq,Jq,h]
theorem GoodQ.read(h:GoodQ p):aU p=(p,0):=by
 have hu:ia p=false:=by
  unfold ia
  rw [h.bareP]
  refine J0 fun e=>?_
  have hk:=h.kind
  rw [e] at hk
  exact absurd hk (by decide)
 unfold aU
 rw [JG (by rw [hu];decide),JG (fun g=>by
  rcases g with g|g
  ·rw [h.right] at g;cases g
  ·exact g h.kind),JG]
 intro g
 unfold xw at g
 obtain⟨j,hj,g2⟩:=List.any_eq_true.1 g
 rw [Ju] at g2
 have h1:=h.items j (J2.1 hj) (JS g2.1)
 cases ho:ofV (aV p j)with
 | none=>rw [ho] at h1;cases h1
 | some v=>rw [ho] at g2;cases g2.2
theorem GW{o:Nat}(h:o+2≤p.length){i:Nat}(hi:i<o∨o+2≤i):(cm p o n)[i]? =p[i]? :=fI h hi
theorem zX:GoodQ (fE 4):=by
 have hl:(zeroP.set 12 4).length=1024:=by rw [List.length_set,ah]
 have hg: ∀ i,i<16→(fE 4)[i]? =(zeroP.set 12 4)[i]? :=fun i hi=>GW (by omega) (by omega)
 refine⟨okI 4,?_,fun i hi=>?_,fun j hj=>?_⟩
 ·rw [zG (p:=zeroP.set 12 4) (hg 12 (by decide))]
  rfl
 ·rw [hg i (by omega),List.getElem?_set_ne (by omega)]
  unfold zeroP
  rw [List.getElem?_replicate,JH (by omega)]
 ·have:=yn 4
  omega
def GoodP(p:List UInt8):Prop:=p=zeroP∨GoodQ p
theorem GoodP.len(h:GoodP p):p.length=1024:=by
 rcases h with rfl|h
 ·exact ah
 ·exact h.ok.len
theorem tw:bareP zeroP=zeroP:=nf ah fun i hi=>by
 unfold zeroP
 rw [List.getElem?_replicate,JH (by omega)]
theorem GoodP.bareP(h:GoodP p):bareP p=p:=by
 rcases h with rfl|h
 ·exact tw
 ·exact h.bareP
theorem readZ:aU zeroP=(fE 4,0):=by
 unfold aU
 rw [JH (by unfold ia;rw [tw];exact JZ rfl)]
theorem GoodP.read(h:GoodP p): ∃ q,aU p=(q,0)∧GoodQ q:=by
 rcases h with rfl|h
 ·exact⟨_,readZ,zX⟩
 ·exact⟨p,h.read,h⟩
theorem oO(h:GoodQ p):GoodQ (dL p):=by
 have g:=li h.ok
 refine⟨g.ok h.ok,?_,fun i hi=>(g.low i (by omega)).trans (h.bare i hi),fun j hj hz=>?_⟩
 ·rw [zG (g.low 12 (by decide))]
  exact h.kind
 ·have hj:j<ac p:=by have:=g.slots;omega
  rw [g.sizes j hj] at hz
  rw [g.item j hj hz]
  exact h.items j hj hz
theorem p9(h:GoodQ p):GoodQ (ff p it):=by
 unfold ff
 split
 ·unfold gE
  rw [JH h.right]
  exact oO h
 ·exact h
theorem zN(h:(iU p it).2.2=0):bg p=true∧1≤it.length∧it.length≤1000∧it.length≤du p∧iU p it=(mQ p it,aW p,0):=by
 unfold iU at h ⊢
 split at h
 ·cases h
 ·rename_i hr
  rw [JG hr]
  have hr:bg p=true:=by cases h:bg p with|true=>rfl|false=>exact absurd h hr
  split at h
  ·cases h
  ·rename_i h1
   rw [JG h1]
   split at h
   ·cases h
   ·rename_i h2
    rw [JG h2]
    exact⟨hr,by omega,by omega,by omega,rfl⟩
theorem qZ(h:GoodQ p)(hit:(ofV it).isSome=true)(he:(fm p it).2.2=0):GoodQ (fm p it).1:=by
 have hq:=p9 (it:=it) h
 unfold fm at he ⊢
 generalize ff p it=q at hq he ⊢
 obtain⟨h1,h2,h3,h4,h5⟩:=zN he
 rw [h5]
 dsimp only
 have g:=laid hq.ok h3 h4 h2
 obtain⟨g1,g2⟩:=g.items hq.ok
 refine⟨g.ok hq.ok h3 h4 h2,?_,fun i hi=>(g.get i (by omega)).trans (hq.bare i hi),fun j hj hz=>?_⟩
 ·rw [zG (g.get 12 (by omega))]
  exact hq.kind
 ·by_cases hje:j=aW q
  ·rw [hje,g1]
   exact hit
  ·have hj2:j<ac q:=by
    have:=g.slots
    have h6:=(eV q).2.2
    unfold iG at this
    split at this <;> omega
   rw [g.size' j hje hj2] at hz
   rw [g2 j hje hj2 hz]
   exact hq.items j hj2 hz
theorem BH(h:GoodQ p)(hk:k<ac p)(hz:ak p k≠0)(hl:it.length=ak p k)(hit:(ofV it).isSome=true):GoodQ (bf p (ay p k) it):=by
 have hp:=h.ok.len
 have hh:=h.ok.head
 have ht:=h.ok.top
 have hs:=h.ok.slot k hk
 have hql:(bf p (ay p k) it).length=1024:=(bN (by omega)).trans hp
 have hn: ∀ o,o+2≤18+4*ac p→gL (bf p (ay p k) it) o=gL p o:=fun o ho=>nU (by omega) (by omega)
 have hg: ∀ i,i<ay p k∨ay p k+it.length≤i→(bf p (ay p k) it)[i]? =p[i]? :=fun i hi=>mK (by omega) hi
 have hin:((bf p (ay p k) it).drop (ay p k)).take it.length=it:=vn (by omega)
 have hqs:ac (bf p (ay p k) it)=ac p:=hn 14 (by omega)
 have hqb:aD (bf p (ay p k) it)=aD p:=hn 16 (by omega)
 generalize bf p (ay p k) it=q at hql hn hg hin hqs hqb ⊢
 have hqf: ∀ j,j<ac p→ay q j=ay p j:=fun j hj=>hn _ (by omega)
 have hqz: ∀ j,j<ac p→ak q j=ak p j:=fun j hj=>hn _ (by omega)
 refine⟨⟨hql,by omega,by omega,fun hpos=>?_,fun j hj=>?_,fun i j hij hj hzi hzj=>?_⟩,?_,fun i hi=>(hg i (by omega)).trans (h.bare i hi),fun j hj hzj=>?_⟩
 ·rw [hqs,hqz _ (by omega)]
  exact h.ok.last (by omega)
 ·rw [hqf j (by omega),hqz j (by omega),hqb]
  exact h.ok.slot j (by omega)
 ·rw [hqz i (by omega)] at hzi
  rw [hqz j (by omega)] at hzj
  rw [hqf i (by omega),hqz i (by omega),hqf j (by omega),hqz j (by omega)]
  exact h.ok.apart i j hij (by omega) hzi hzj
 ·rw [zG (hg 12 (by omega))]
  exact h.kind
 ·have hj:j<ac p:=by omega
  rw [hqz j hj] at hzj
  by_cases hjk:j=k
  ·subst hjk
   unfold aV
   rw [hqf j hj,hqz j hj,←hl,hin]
   exact hit
  ·have hj2:aV q j=aV p j:=by
    unfold aV
    rw [hqf j hj,hqz j hj]
    refine jf fun i h1 h2=>hg i ?_
    have hap:ay p j+ak p j≤ay p k∨ay p k+ak p k≤ay p j:=by
     rcases JJ j k with h3|h3
     ·exact h.ok.apart j k h3 hk hzj hz
     ·exact(h.ok.apart k j (by omega) hj hz hzj).symm
    omega
   rw [hj2]
   exact h.items j hj hzj
theorem vZ(h:GoodQ p){S:List Nat}(hS:Has p S):GoodQ (rI p S):=by
 by_cases h0:S= []
 ·subst h0
  exact oO h
 ·obtain⟨B,hB,g⟩:=mW h.ok h0 hS
  unfold rI
  refine oO ⟨g.ok,?_,fun i hi=>(g.get i (by omega)).trans (h.bare i hi),fun j hj hz=>?_⟩
  ·rw [zG (g.get 12 (by omega))]
   exact h.kind
  ·have hsl:=g.slots
   have hjB:j∉B:=fun hm=>hz (g.ptr0 j (by omega) hm).2
   have hp:=g.ptr j (by omega) hjB
   have hz2:ak p j≠0:=by rw [← hp.2];exact hz
   have hj2:aV (dh p S) j=aV p j:=by
    unfold aV
    rw [hp.1,hp.2]
    have h1:=h.ok.slot j (by omega)
    have h2:=h.ok.head
    exact jf fun i h3 h4=>g.get i (by omega)
   rw [hj2]
   exact h.items j (by omega) hz2
def ll(p:List UInt8)(k:Nat):Bool:=decide (k<ac p∧ak p k≠0)
theorem rh(h:ll p k=true):cn p k=(ay p k,ak p k,0):=by
 have h:=JS h
 unfold cn
 rw [JG (by omega),JG h.2]
theorem oR(h:ll p k=false):cn p k=(0,0,6):=by
 have h:=of_decide_eq_false h
 unfold cn
 split
 ·rfl
 ·rw [JH (by omega)]
def rP:List Nat→List UInt8→List UInt8×Nat
 | [],p=>gE p
 | k :: S,p=>if(gI p k).2≠0 then(zeroP,(gI p k).2) else rP S (gI p k).1
theorem BS(h:Okp p)(hk:ll p k=true):gI p k=(lp p k,0):=by
 unfold gI
 rw [JG (by rw [(bi h.len).2 h];decide),rh hk,JG (fun h=>h rfl)]
theorem Ex(h:Okp p)(hk:ll p k=false):gI p k=(zeroP,6):=by
 unfold gI
 rw [JG (by rw [(bi h.len).2 h];decide),oR hk,JH (by decide)]
theorem nL: ∀ (S:List Nat) (p:List UInt8),p.length=1024→(rP S p).1.length=1024
 | [],p,hp=>lY p hp
 | k :: S,p,hp=>by
   unfold rP
   split
   ·exact ah
   ·rename_i h
    refine nL S _ ?_
    have h:(gI p k).2=0:=Decidable.not_not.1 h
    unfold gI at h ⊢
    split
    ·exact ah
    ·rename_i h1
     have hr:bg p=true:=by cases h:bg p with|true=>rfl|false=>exact absurd h h1
     split
     ·exact ah
     ·rename_i h2
      have hok:=(bi hp).1 hr
      have hk:ll p k=true:=by
       cases h3:ll p k with
       | true=>rfl
       | false=>exact absurd (by rw [oR h3];decide) h2
      have:=JS hk
      exact(o5 hok this.1 this.2).ok.len
theorem rO{p:List UInt8}(h:Okp p): ∀ (S A:List Nat),Has p A→(A ++ S).Nodup→rP S (dh p A)=if(∀ k∈S,ll p k=true) then(rI p (A ++ S),0) else(zeroP,6)
 | [],A,hA,_=>by
   have hok:=mm h hA
   rw [JH (fun k hk=>by cases hk),JU]
   show gE _=_
   unfold gE
   rw [JH ((bi hok.len).2 hok)]
   rfl
 | k :: S,A,hA,hnd=>by
   have hok:=mm h hA
   rw [List.nodup_append] at hnd
   obtain⟨n1,n2,n3⟩:=hnd
   rw [List.nodup_cons] at n2
   have hkA:k∉A:=fun hm=>n3 k hm k JO rfl
   unfold rP
   cases hk:ll p k with
   | true=>
     have hk2:=JS hk
     have hA2:Has p (A ++ [k]):=⟨by
      rw [List.nodup_append]
      exact⟨n1,List.nodup_cons.2 ⟨fun h=>by(cases h),List.nodup_nil⟩,fun a ha b hb=>by rw [JM.1 hb];exact fun e=>hkA (e ▸ ha)⟩,fun n hn=>by
      rcases List.mem_append.1 hn with h1|h1
      ·exact hA.2 n h1
      ·rw [JM.1 h1];exact hk2⟩
     obtain⟨t1,t2,_⟩:=Has.there (B:= []) h hA2
     have hq:ll (dh p A) k=true:=JZ ⟨t1,t2⟩
     rw [BS hok hq,JG (fun h=>h rfl)]
     have e:lp (dh p A) k=dh p (A ++ [k]):=by unfold dh;rw [List.foldl_append];rfl
     dsimp only
     rw [e,rO h S (A ++ [k]) hA2 (by rw [JR,List.nodup_append];exact⟨n1,List.nodup_cons.2 n2,n3⟩),JR]
     show(if _ then(rI p (A ++ k :: S),0) else _)=_
     by_cases hall: ∀ k∈S,ll p k=true
     ·rw [JH hall,JH (fun j hj=>by rcases JV.1 hj with rfl|hj;exact hk;exact hall j hj)]
     ·rw [JG hall,JG (fun h2=>hall fun j hj=>h2 j (JP _ hj))]
   | false=>
     have hq:ll (dh p A) k=false:=by
      cases hq:ll (dh p A) k with
      | false=>rfl
      | true=>
        have hq:=JS hq
        have hk2:=of_decide_eq_false hk
        by_cases h0:A= []
        ·subst h0;exact absurd hq hk2
        ·obtain⟨B,hB,g⟩:=mW h h0 hA
         have h1:=g.slots
         have h2:=g.ptr k (by omega) fun hm=>hkA ((hB k).1 hm)
         exact absurd ⟨by omega,by rw [← h2.2];exact hq.2⟩ hk2
     rw [Ex hok hq,JH (by decide),JG (fun h2=>by rw [h2 k JO] at hk;cases hk)]
theorem AH(h:Okp p){S:List Nat}(hS:S.Nodup):rP S p=if(∀ k∈S,ll p k=true) then(rI p S,0) else(zeroP,6):=
 rO h S [] ⟨List.nodup_nil,fun n hn=>by cases hn⟩ hS
def aM(l:List (Int×Int))(n:Nat):List Nat:=(l.filter fun t=>decide (t.1=(n:Int))).map fun t=>t.2.toNat
def tO(l:List (Int×Int)):Prop:=(∀ t∈l,mD t.1 t.2=true)∧l.Nodup
theorem gF(hl: ∀ t∈l,mD t.1 t.2=true):k∈aM l n↔((n:Int),(k:Int))∈l:=by
 unfold aM
 rw [J3]
 constructor
 ·rintro⟨t,ht,rfl⟩
  rw [List.mem_filter,J7] at ht
  have h1:=JS (hl t ht.1)
  have h2:((n:Int),((t.2.toNat:Nat):Int))=t:=Prod.ext ht.2.symm (by dsimp only;omega)
  rw [h2]
  exact ht.1
 ·intro h
  exact⟨_,List.mem_filter.2 ⟨h,JZ rfl⟩,JY k⟩
theorem fk(h:tO l)(n:Nat):(aM l n).Nodup:=by
 unfold aM
 have h1:(l.filter fun t=>decide (t.1=(n:Int))).Nodup:=h.2.sublist List.filter_sublist
 refine List.pairwise_map.2 (h1.imp_of_mem fun {a b} ha hb hab=>?_)
 rw [List.mem_filter,J7] at ha hb
 have h2:=JS (h.1 a ha.1)
 have h3:=JS (h.1 b hb.1)
 intro e
 exact hab (Prod.ext (ha.2.trans hb.2.symm) (by omega))
def dm(l:List (Int×Int)):List Nat:=((List.range 96).map (32 + ·)).filter fun n=> !(aM l n).isEmpty
theorem dP:n∈dm l↔32≤n∧n<128∧aM l n≠ []:=by
 unfold dm
 rw [List.mem_filter,J3]
 constructor
 ·rintro⟨⟨i,hi,rfl⟩,h⟩
  have:=J2.1 hi
  refine⟨by omega,by omega,fun e=>?_⟩
  rw [e] at h
  cases h
 ·rintro⟨h1,h2,h3⟩
  refine⟨⟨n-32,J2.2 (by omega),by omega⟩,?_⟩
  cases h4:aM l n with
  | nil=>exact absurd h4 h3
  | cons a b=>rfl
theorem lg(l:List (Int×Int)):(dm l).Pairwise (·< ·):=by
 unfold dm
 refine List.Pairwise.filter _ ?_
 rw [List.pairwise_map]
 exact List.pairwise_lt_range.imp fun h=>by omega
def md(pf:Nat→List UInt8)(l:List (Int×Int)):Prop:= ∀ t∈l,ll (aU (pf t.1.toNat)).1 t.2.toNat=true
theorem mc{pf:Nat→List UInt8}(h:tO l):md pf l↔ ∀ n∈dm l,∀ k∈aM l n,ll (aU (pf n)).1 k=true:=by
 constructor
 ·intro h1 n hn k hk
  have:=h1 _ ((gF h.1).1 hk)
  rwa [JY,JY] at this
 ·intro h1 t ht
  have h2:=JS (h.1 t ht)
  obtain⟨a,b⟩:=t
  obtain⟨n,rfl⟩: ∃ n:Nat,a=(n:Int):=⟨a.toNat,by dsimp only at h2;omega⟩
  obtain⟨k,rfl⟩: ∃ k:Nat,b=(k:Int):=⟨b.toNat,by dsimp only at h2;omega⟩
  have h3:=(gF h.1).2 ht
  dsimp only at h2 ⊢
  rw [JY,JY]
  exact h1 n (dP.2 ⟨by omega,by omega,fun e=>by rw [e] at h3;cases h3⟩) k h3
end
instance (l:List (Int×Int)):Decidable (tO l):=inferInstanceAs (Decidable (_∧_))
instance (pf:Nat→List UInt8) (l:List (Int×Int)):Decidable (md pf l):=inferInstanceAs (Decidable (∀ t∈l,_))
def fY(pf:Nat→List UInt8)(l:List (Int×Int)):Nat×List (Nat×List UInt8):=
 if ¬ tO l then(2,[]) else if ¬ md pf l then(6,[]) else(0,(dm l).map fun n=>(n,rI (aU (pf n)).1 (aM l n)))
def fZ:List (Nat×List UInt8)→List UInt8→Int→Int→Nat×List UInt8×Int×Int
 | [],mem,left,puts=>(0,mem,left,puts)
 | (n,x) :: r,mem,left,puts=>if left=0 then(8,mem,left,puts) else fZ r (f8 mem n x) (left-1) (puts+1)
end Go.Proofs.YtnhmbonmlfeifaaGreat
end
