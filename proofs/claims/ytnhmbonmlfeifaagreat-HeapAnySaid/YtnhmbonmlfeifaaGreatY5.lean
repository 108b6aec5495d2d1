import Derived.Laws.StructEq
import Derived.Test.YtnhmbonmlfeifaaGreatY4
set_option linter.unusedVariables false
set_option linter.unusedSimpArgs false
set_option maxRecDepth 100000
set_option maxHeartbeats 0
section
namespace Go.Proofs.YtnhmbonmlfeifaaGreat
open Go Go.Sy Go.Sl Go.RowKit
section
variable {H:au}{s:SV}{v:gj}{a:Nat}{a0 a1:Int}{b bc:Nat}{left:Int}{n nx:Nat}{puts:Int}{r slot t to:Nat}{ok:Nat→Prop}{it l mem p p' x0:List UInt8}
abbrev dJ(a b:Int):VO:=aq 40 [.sc (.int .i64 a),.sc (.int .i64 b)]
abbrev bsO(s:SV):VO:=aq 35 [s]
theorem Jb(hbc:H.at' bc=some (bsO s))(hs:BsIs H s (byV it))(hp:p.length=1024)(ht:H.at' t=some (dJ a0 a1))(hto:H.at' to=some (pgO x0))(hx0:x0.length=1024)(hne:t≠to)(hit:it.length≤1000)
 (hroom:it.length≤dx p) (hins:mI p it=(p',slot,0)) (hp':p'.length=1024):Fnc Tryz.prog 33 [.sc (.int .i64 (n:Int)),.agg (pgS p),.ptr bc 0,.ptr t 0,.ptr to 0] H nx
 (fun q=>q.1 = .tup [.sc (.bool true),.sc (.int .i64 0)]∧q.2.1.at' t=some (dJ n slot)∧q.2.1.at' to=some (pgO p')∧nx≤q.2.2∧ ∀ m,m<nx→m≠t→m≠to→q.2.1.at' m=H.at' m):=by
 refine KE Tryz.func33 rfl rfl ?_
 refine aV fun hund=>?_
 have l1:=hund _ _ hbc
 have l2:=hund _ _ ht
 have l3:=hund _ _ hto
 have hs1:BsIs (H.set nx (pgO p)) s (byV it):=hs.frame fun b vo hb=>(aa _ _ (by have:=hund b vo hb;omega)).trans hb
 have hbc1:(H.set nx (pgO p)).at' bc=some (bsO s):=by repeat(first|assumption|refine ab (by omega) ?_)
 have ht1:(H.set nx (pgO p)).at' t=some (dJ a0 a1):=by repeat(first|assumption|refine ab (by omega) ?_)
 have hto1:(H.set nx (pgO p)).at' to=some (pgO x0):=by repeat(first|assumption|refine ab (by omega) ?_)
 have hb1:(H.set nx (pgO p)).at' nx=some (pgO p):=ai _ _ _
 have ho1: ∀ m,m<nx→(H.set nx (pgO p)).at' m=H.at' m:=fun m hm=>by(repeat(refine ab (by omega) ?_));rfl
 repeat apply ah;rfl
 generalize H.set nx (pgO p)=H1 at hs1 hbc1 ht1 hto1 hb1 ho1 ⊢
 have hbl:=bL it
 (apply bk;(focus(kernel_rfl));(focus(kernel_rfl)))
 repeat first|refine cn rfl rfl rfl (F.ag _ rfl) hb1 (bh hp) ?_|apply b9;rfl;rfl;rfl;(focus(kernel_rfl));exact(A5 hp)|refine bp (an (F.ag _ rfl) rfl hbc1 (aD rfl)) rfl rfl rfl ?_|apply bG;rfl;rfl;exact(fun _ h=>by cases h);exact(fG (F.un _ rfl) rfl hs1)|refine cW rfl rfl rfl rfl (fun hq=>absurd hq (by omega)) (fun _=>?_)
 refine aA ⟨by kernel_rfl,?_,?_⟩;(focus(repeat(first|exact KO|apply jE;rfl|refine fO 0 rfl (by kernel_rfl) (by(repeat(refine⟨(by first|exact an (F.ag _ rfl) rfl (by assumption) (aD rfl)|exact aU (F.ag _ rfl) rfl hb1 (bv hp)|exact fG (F.un _ rfl) rfl hs1),?_⟩));exact KO) ?_|apply mJ;kernel_rfl)))
 have hi1:=qZ (nx:=nx+1) hp hs1 (by omega)
 rw [hins] at hi1
 repeat first|apply bB hp;rfl;assumption|apply bJ hp' aj;rfl;(focus((repeat(exact ac));done))|refine be rfl rfl cq ?_|apply ah;rfl|apply aG;rfl;assumption;rfl|apply bW;rfl;kernel_rfl;exact hi1|apply dA;rfl;rfl
 have hb2:((H1.set (nx+1) (pgO zeroP)).set (nx+1) (pgO p')).at' (nx+1)=some (pgO p'):=ai _ _ _
 have ht2:((H1.set (nx+1) (pgO zeroP)).set (nx+1) (pgO p')).at' t=some (dJ a0 a1):=by repeat(first|assumption|refine ab (by omega) ?_)
 have hto2:((H1.set (nx+1) (pgO zeroP)).set (nx+1) (pgO p')).at' to=some (pgO x0):=by repeat(first|assumption|refine ab (by omega) ?_)
 have ho2: ∀ m,m<nx→((H1.set (nx+1) (pgO zeroP)).set (nx+1) (pgO p')).at' m=H.at' m:=fun m hm=>(aa _ _ (by omega)).trans ((aa _ _ (by omega)).trans (ho1 m hm))
 generalize (H1.set (nx+1) (pgO zeroP)).set (nx+1) (pgO p')=H2 at hb2 ht2 hto2 ho2 ⊢
 (apply bk;(focus(kernel_rfl));(focus(kernel_rfl)))
 repeat first|refine cn rfl rfl rfl (F.ag _ rfl) hb2 (bh hp') ?_|refine bY rfl rfl rfl (F.sz _ rfl) ht2 rfl (by exact JL rfl) rfl rfl ?_|apply bY;rfl;rfl;rfl;exact(F.sz _ rfl);exact((aa _ _ (Ne.symm hne)).trans hto2);exact(bh hp');(focus(rw [bh hx0];exact JZ _));exact(hZ _);exact(lu _ _ hx0 hp')|apply aW;rfl
 refine aA ⟨by kernel_rfl,?_,?_⟩;(focus(repeat(first|exact KO|apply jE;rfl|apply gr;rfl;kernel_rfl|refine fO 0 rfl (by kernel_rfl) (by(repeat(refine⟨(by(exact aU (F.ag _ rfl) rfl (by repeat(first|assumption|refine ab (by omega) ?_)) (bv hp'))),?_⟩));exact KO) ?_)))
 repeat apply ah;rfl
 (apply bR Tryz.func33 Tryz.results33;rfl)
 refine⟨rfl,(aa _ _ hne).trans (ai _ _ _),ai _ _ _,by dsimp only;omega,fun m h1 h2 h3=>(aa _ _ h3).trans ((aa _ _ h2).trans (ho2 m h1))⟩
abbrev insF(bc t to:Nat):SV:= .fn (.func 33) [] [.ptr bc 0,.ptr t 0,.ptr to 0]
theorem Cl(hb:H.at' b=some (cT mem left puts))(hm:mem.length=131072)(hbc:H.at' bc=some (bsO s))(hs:BsIs H s (byV it))(hp:p.length=1024)(ht:H.at' t=some (dJ a0 a1))(hto:H.at' to=some (pgO x0))(hx0:x0.length=1024)(hne:t≠to)(hit:it.length≤1000)
 (hread:aM (az mem 32)=(p,0)) (hroom:it.length≤dx p) (hins:mI p it=(p',slot,0)) (hp':p'.length=1024):Fnc Tryz.prog 26 [ud b,insF bc t to] H nx
 (fun q=>q.1 = .sc (.int .i64 0)∧q.2.1.at' t=some (dJ 32 slot)∧q.2.1.at' to=some (pgO p')∧nx≤q.2.2∧ ∀ m,m<nx→m≠t→m≠to→q.2.1.at' m=H.at' m):=by
 refine KE Tryz.func26 rfl rfl ?_
 refine aV fun hund=>?_
 have l1:=hund _ _ hbc
 have l2:=hund _ _ ht
 have l3:=hund _ _ hto
 have hrd:=sC (nx:=nx) (n:=32) hb hm (by decide)
 rw [hread] at hrd
 repeat apply ah;rfl
 refine nR ?_
 repeat first|apply bJ hp aj;rfl;(focus((repeat(exact ac));done))|refine be rfl rfl cq ?_|apply ah;rfl|apply pG;rfl;decide|apply bW;rfl;kernel_rfl;exact hrd|apply dA;rfl;rfl
 have h0: ∀ m,m<nx→((H.set nx (pgO zeroP)).set nx (pgO p)).at' m=H.at' m:=fun m hm=>(aa _ _ (by omega)).trans (aa _ _ (by omega))
 have hb6:((H.set nx (pgO zeroP)).set nx (pgO p)).at' nx=some (pgO p):=ai _ _ _
 generalize (H.set nx (pgO zeroP)).set nx (pgO p)=H1 at h0 hb6 ⊢
 repeat apply bB hp;rfl;assumption
 refine jH rfl rfl rfl rfl (by kernel_rfl) (KD (Jb (n:=32) ((h0 _ l1).trans hbc) (hs.frame fun b' vo hb'=>(h0 _ (hund _ _ hb')).trans hb') hp ((h0 _ l2).trans ht) ((h0 _ l3).trans hto) hx0 hne hit hroom hins hp') ?_)
 rintro⟨_,H2,n2⟩ ⟨rfl,g1,g2,g3,g4⟩
 dsimp only at g1 g2 g3 g4 ⊢
 repeat apply ah;rfl
 (apply bR Tryz.func26 Tryz.results26;rfl)
 exact⟨rfl,g1,g2,by dsimp only;omega,fun m h1 h2 h3=>(g4 m (by omega) h2 h3).trans (h0 m h1)⟩
theorem qe:Fnc Tryz.prog 31 [.ptr a 0,.ptr b 0] H nx (fun q=>q=(.tup [],H,nx)):=by
 refine KE Tryz.func31 rfl rfl ?_
 repeat first|apply ah;rfl|apply jG;rfl;rfl|refine cf (jO rfl Tryz.underlying20) rfl rfl rfl ?_
 (apply C6 Tryz.func31 Tryz.results31;rfl)
 rfl
theorem qc(hb:H.at' b=some (cT mem left puts))(hm:mem.length=131072)(hv:VerIs H s v)(hmay:gV v=true)(hp:p.length=1024)(hleft:left≠0)(hl2 : -1000000000≤left∧left≤1000000000)(hputs : -1000000000≤puts∧puts≤1000000000)
 (hread:aM (az mem 32)=(p,0)) (hroom:(aQ v).length≤dx p) (hins:mI p (aQ v)=(p',slot,0)) (hp':p'.length=1024):Fnc Tryz.prog 11 [ud b,s] H nx
 (fun q=>q.1 = .tup [.agg [.sc (.int .i64 32),.sc (.int .i64 (slot:Int))],.sc (.int .i64 0)]∧q.2.1.at' b=some (cT (fx mem 32 p') (left-1) (puts+1))∧nx≤q.2.2∧ ∀ m,m<nx→m≠b→q.2.1.at' m=H.at' m):=by
 have hv0:=hv
 obtain⟨k,w,rfl,hk,hw⟩:=hv
 have hbl:=dT v
 have hmd:=Km hmay
 refine KE Tryz.func11 rfl rfl ?_
 refine aV fun hund=>?_
 have lb:=hund _ _ hb
 repeat first|apply ah;rfl|apply lF;rfl;rfl;rfl;(focus(kernel_rfl))
 have hvb:((H.set nx (ez (dB k w v.2.2.1 v.2.2.2))).set (nx+1) (dJ 0 0)).set (nx+1+1) (fB 0)=((H.set nx (ez (dB k w v.2.2.1 v.2.2.2))).set (nx+1) (dJ 0 0)).set (nx+1+1) (fB 0):=rfl
 have a3:(((H.set nx (ez (dB k w v.2.2.1 v.2.2.2))).set (nx+1) (dJ 0 0)).set (nx+1+1) (fB 0)).at' nx=some (ez (dB k w v.2.2.1 v.2.2.2)):=by repeat(first|exact ac|refine ab (by omega) ?_)
 have a4:(((H.set nx (ez (dB k w v.2.2.1 v.2.2.2))).set (nx+1) (dJ 0 0)).set (nx+1+1) (fB 0)).at' (nx+1)=some (dJ 0 0):=by repeat(first|exact ac|refine ab (by omega) ?_)
 have a5:(((H.set nx (ez (dB k w v.2.2.1 v.2.2.2))).set (nx+1) (dJ 0 0)).set (nx+1+1) (fB 0)).at' (nx+1+1)=some (fB 0):=by repeat(exact ac)
 have ao: ∀ m,m<nx→(((H.set nx (ez (dB k w v.2.2.1 v.2.2.2))).set (nx+1) (dJ 0 0)).set (nx+1+1) (fB 0)).at' m=H.at' m:=fun m hm=>by(repeat(refine ab (by omega) ?_));rfl
 generalize ((H.set nx (ez (dB k w v.2.2.1 v.2.2.2))).set (nx+1) (dJ 0 0)).set (nx+1+1) (fB 0)=H1 at a3 a4 a5 ao ⊢
 clear hvb
 repeat first|apply ah;rfl|apply aG;rfl;assumption;rfl|refine cf (fm rfl rfl Tryz.underlying75 rfl) rfl rfl rfl ?_
 refine aE rfl rfl rfl (by kernel_rfl) (KD (AO (hv0.frame fun b' vo hb'=>(ao _ (hund _ _ hb')).trans hb') hmay) ?_)
 rintro⟨_,H2,n2⟩ ⟨r,rfl,b1,b2,b3,b4⟩
 dsimp only at b1 b3 b4 ⊢
 have b5:=(b4 _ (show nx+1+1<nx+1+1+1 by omega)).trans a5
 have b6:=(b4 _ (show nx+1<nx+1+1+1 by omega)).trans a4
 have bo: ∀ m,m<nx→H2.at' m=H.at' m:=fun m hm=>(b4 m (by omega)).trans (ao m hm)
 clear a3 a4 a5 ao b4
 repeat first|refine be rfl rfl cq ?_|apply ah;rfl|apply aG;rfl;(focus((repeat(first|assumption|exact ac|refine ab (by omega) ?_));done));rfl|apply dA;rfl;rfl
 refine aV fun hund3=>?_
 refine aE rfl rfl rfl (by kernel_rfl) (KD (Cl (t:=nx+1) (to:=n2+1) (bc:=n2) (by(repeat(refine ab (by omega) ?_));exact(bo b lb).trans hb) hm (by repeat(first|exact ac|refine ab (by omega) ?_)) (ju (by(repeat(refine ab (by omega) ?_));exact b1)) hp (by repeat(first|assumption|refine ab (by omega) ?_)) (by repeat(exact ac)) aj (by omega) (by omega) hread hroom hins hp') ?_)
 rintro⟨_,H4,n4⟩ ⟨rfl,c1,c2,c3,c4⟩
 dsimp only at c1 c2 c3 c4 ⊢
 have c5:H4.at' (nx+1+1)=some (fB 0):=(c4 _ (by omega) (by omega) (by omega)).trans (by repeat(first|exact ac|refine ab (by omega) ?_))
 have cb:H4.at' b=some (cT mem left puts):=(c4 _ (by omega) (by omega) (by omega)).trans (by(repeat(refine ab (by omega) ?_));exact(bo b lb).trans hb)
 have co: ∀ m,m<nx→H4.at' m=H.at' m:=fun m hm=>(c4 _ (by omega) (by omega) (by omega)).trans (by(repeat(refine ab (by omega) ?_));exact bo m hm)
 clear c4 b1 b5 b6 bo hund3
 repeat first|apply bB hp';rfl;(focus((repeat(first|assumption|refine ab (by omega) ?_));done))|apply ah;rfl|apply aG;rfl;(focus((repeat(first|assumption|exact ac|refine ab (by omega) ?_));done));rfl|apply iA;rfl;decide|apply dA;rfl;rfl
 refine lU 141 rfl rfl rfl rfl (by kernel_rfl) (KD (vV (n:=32) (by repeat(first|assumption|refine ab (by omega) ?_)) hm (by decide) hp' hleft hl2 hputs) ?_)
 rintro⟨_,H5,n5⟩ ⟨rfl,d1,d2,d3⟩
 dsimp only at d1 d2 d3 ⊢
 have d4:H5.at' (nx+1)=some (dJ 32 slot):=(d3 _ (by omega) (by omega)).trans (by repeat(first|assumption|refine ab (by omega) ?_))
 have d5:H5.at' (nx+1+1)=some (fB 0):=(d3 _ (by omega) (by omega)).trans (by repeat(exact ac))
 have dold: ∀ m,m<nx→m≠b→H5.at' m=H.at' m:=fun m hm hmb=>(d3 _ (by omega) hmb).trans (by(repeat(refine ab (by omega) ?_));exact co m hm)
 clear c1 c2 c5 cb co d3
 repeat first|apply ah;rfl|apply aG;rfl;(focus((repeat(first|assumption|exact ac|refine ab (by omega) ?_));done));rfl|apply dA;rfl;rfl
 refine eJ Tryz.func11 (congrArg Array.toList Tryz.results11) (by kernel_rfl) (KD qe ?_)
 rintro _ rfl
 refine⟨_,(by(repeat(first|exact KF|apply KG rfl (KJ (F.ag _ rfl) (by repeat(first|exact ac|refine ab (by omega) ?_)) (aD rfl))|apply KG rfl (KI (F.ag _ rfl) (by repeat(first|exact ac|refine ab (by omega) ?_)) (ak _ 0 rfl rfl))))),?_⟩
 dsimp only
 exact⟨rfl,by(repeat(refine ab (by omega) ?_));exact d1,by omega,fun m h1 h2=>by(repeat(refine ab (by omega) ?_));exact dold m h1 h2⟩
theorem uT(hp:p.length=1024)(hr:bj p=true)(hn:n<ae p)(hs:ar p n≠0):Fnc Tryz.prog 44 [.agg (pgS p),.sc (.int .i64 (n:Int))] H nx (fun q=> ∃ r,q.1 = .tup [.slu r 0 (aS p n).length,.sc (.int .i64 0)]∧q.2.1.at' r=some (u8R false (byV (aS p n)))∧nx≤r∧r<q.2.2∧ ∀ m,m<nx→q.2.1.at' m=H.at' m):=by
 have hb:=db hr hn hs
 have hil:=dL hp hb.2.2.2
 have hbl:=bL (aS p n)
 have hfd:cm p n=(ay p n,ar p n,0):=by unfold cm;rw [Ka (by omega),Ka hs]
 refine KE Tryz.func44 rfl rfl ?_
 have hb1:(H.set nx (pgO p)).at' nx=some (pgO p):=ai _ _ _
 have hrs:=fun nx'=>gG (nx:=nx') hb1 hp
 rw [hr] at hrs
 have hfs: ∀ nx',Fnc Tryz.prog 89 [.ptr nx 0,.sc (.int .i64 (n:Int))] (H.set nx (pgO p)) nx' (fun q=>q=(.tup [.sc (.int .i64 (ay p n:Int)),.sc (.int .i64 (ar p n:Int)),.sc (.int .i64 0)],H.set nx (pgO p),nx')):=fun nx'=>by
  have:=wL (nx:=nx') (n:=n) hb1 (fK hp hr)
  rw [hfd] at this
  exact this
 repeat first|apply ah;rfl|apply aL;rfl;omega;omega|apply bW;rfl;kernel_rfl;exact hrs _|apply ll;rfl;omega|apply bW;rfl;kernel_rfl;exact hfs _|apply dA;rfl;rfl|apply li (lw:=ay p n) (hg:=ay p n+ar p n);rfl;rfl;rfl;exact(F.un _ rfl);exact(F.sz _ rfl);rfl;rfl;(focus(omega));(focus(omega));(focus(omega));exact(show ay p n+ar p n-ay p n=ar p n by omega);rfl;exact(Kc _)|apply bF;rfl;rfl;exact(F.un _ rfl);exact(F.sz _ rfl);rfl;exact(F.ze _ rfl);rfl;rfl;rfl;rfl;rfl
 refine aE rfl rfl rfl (by kernel_rfl) (KD (th (bs:= [byV (aS p n)]) (ls:= [.sl nx (ay p n) (ar p n) (1024-ay p n)]) (ai _ _ _) (LsIs.cons (nj (b:=nx) (p:=p) (o:=ay p n) (m:=ar p n) ((aa _ _ (Nat.ne_of_lt (Nat.lt_succ_self _))).trans hb1) (by omega)) (LsIs.nil _)) (by show(byV (aS p n) ++ []).length≤_;rw [Ko];omega) (JL rfl)) ?_)
 rintro _ rfl
 dsimp only
 have hfl: [byV (aS p n)].flatten=byV (aS p n):=Ko _
 rw [hfl,bL]
 repeat apply ah;rfl
 (apply bR Tryz.func44 Tryz.results44;rfl)
 exact⟨nx+1+1,rfl,ai _ _ _,by omega,Nat.lt_succ_self _,fun m hm=>by(repeat(refine ab (by omega) ?_));rfl⟩
theorem EC{k:Nat}(h1:32≤n)(h2:n<128):Fnc Tryz.prog 42 [.agg [.sc (.int .i64 (n:Int)),.sc (.int .i64 (k:Int))]] H nx (fun q=>q=(.sc (.bool true),H,nx)):=by
 refine Fnc.bA (Free.sc _) ?_
 refine KE Tryz.func42 rfl rfl ?_
 repeat first|apply ah;rfl|apply aG;rfl;(focus((repeat(exact ac));done));rfl|apply pG;rfl;omega
 (apply bR Tryz.func42 Tryz.results42;rfl)
 exact⟨rfl,J8 _,fun m hm=>aa _ _ (by omega)⟩
theorem tC:Fnc Tryz.prog 41 [.ptr a 0,.ptr b 0] H nx (fun q=>q=(.tup [],H,nx)):=by
 refine KE Tryz.func41 rfl rfl ?_
 repeat first|apply ah;rfl|apply jG;rfl;rfl|refine cf (jO rfl Tryz.underlying20) rfl rfl rfl ?_
 (apply C6 Tryz.func41 Tryz.results41;rfl)
 rfl
theorem ES{k:Nat}(hb:H.at' b=some (cT mem left puts))(hm:mem.length=131072)(hp:p.length=1024)(h1:32≤n)(h2:n<128)(hread:aM (az mem n)=(p,0))(hr:bj p=true)(hn:k<ae p)(hs:ar p k≠0)(hof:ofV (aS p k)=some v):Fnc Tryz.prog 15 [ud b,.agg [.sc (.int .i64 (n:Int)),.sc (.int .i64 (k:Int))]] H nx
 (fun q=> ∃ s' r,q.1 = .tup [s',.sc (.int .i64 0)]∧VerAt q.2.1 s' r v∧nx≤r∧nx≤q.2.2∧ ∀ m,m<nx→q.2.1.at' m=H.at' m):=by
 refine KE Tryz.func15 rfl rfl ?_
 refine aV fun hund=>?_
 have lb:=hund _ _ hb
 have hil:(aS p k).length≤1024:=by unfold aS;rw [Ke,Kh];omega
 repeat first|apply ah;rfl|apply aG;rfl;(focus((repeat(first|exact ac|refine ab (by omega) ?_));done));rfl|apply lF;rfl;rfl;rfl;(focus(kernel_rfl))|refine cf (fm rfl rfl Tryz.underlying75 rfl) rfl rfl rfl ?_|apply bW;rfl;kernel_rfl;exact EC (k:=k) h1 h2
 have hrd:=fun(H':au) (nx':Nat) (h:H'.at' b=some (cT mem left puts))=>sC (nx:=nx') (n:=n) h hm h2
 rw [hread] at hrd
 refine aE rfl rfl rfl (by kernel_rfl) (KD (hrd _ _ (by(repeat(refine ab (by omega) ?_));exact hb)) ?_)
 rintro _ rfl
 dsimp only
 repeat first|apply bJ hp aj;rfl;(focus((repeat(exact ac));done))|refine be rfl rfl cq ?_|apply ah;rfl|apply aG;rfl;(focus((repeat(first|exact ac|refine ab (by omega) ?_));done));rfl|apply dA;rfl;rfl|apply bB hp;rfl;(focus((repeat(first|exact ac|refine ab (by omega) ?_));done))
 refine aE rfl rfl rfl (by kernel_rfl) (KD (uT hp hr hn hs) ?_)
 rintro⟨_,H2,n2⟩ ⟨r,rfl,a1,a2,a3,a4⟩
 dsimp only at a1 a3 a4 ⊢
 have b4:H2.at' (nx+1)=some (ez (dB dK dK 0 0)):=(a4 _ (by omega)).trans (by repeat(first|exact ac|refine ab (by omega) ?_))
 have b5:H2.at' (nx+1+1)=some (fB 0):=(a4 _ (by omega)).trans (by repeat(exact ac))
 have bo: ∀ m,m<nx→H2.at' m=H.at' m:=fun m hm=>(a4 _ (by omega)).trans (by(repeat(refine ab (by omega) ?_));rfl)
 clear a4 hrd
 repeat first|apply ah;rfl|apply aG;rfl;(focus((repeat(first|assumption|exact ac));done));rfl|apply dA;rfl;rfl
 refine aE rfl rfl rfl (by kernel_rfl) (KD (of_s (ju (by(repeat(refine ab (by omega) ?_));exact a1)) (by omega)) ?_)
 rintro⟨_,H3,n3⟩ ⟨s',r',rfl,c1,cr,c2,c3⟩
 rw [hof] at c1 ⊢
 obtain⟨k0,w0,rfl,gk,gw⟩:=c1
 dsimp only at gk gw c2 c3 ⊢
 have hone: ∀ x y:Nat,bm (dB k0 w0 x y)=true:=fun x y=>by simp only [bm,cN gk.bs,cN gw.bs];rfl
 have d4:H3.at' (nx+1)=some (ez (dB dK dK 0 0)):=(c3 _ (by omega)).trans (by repeat(first|assumption|refine ab (by omega) ?_))
 have d5:=(c3 (nx+1+1) (by omega)).trans (ai _ _ _)
 have dold: ∀ m,m<nx→H3.at' m=H.at' m:=fun m hm=>(c3 _ (by omega)).trans (by(repeat(refine ab (by omega) ?_));exact bo m hm)
 clear c3 b4 b5 bo a1
 repeat first|apply ah;rfl|apply aG;rfl;(focus((repeat(first|assumption|refine ab (by omega) ?_));done));rfl|refine cU rfl rfl rfl (F.sz _ rfl) (by assumption) rfl (by exact JL rfl) (hone _ _) rfl ?_
 refine eJ Tryz.func15 (congrArg Array.toList Tryz.results15) (by kernel_rfl) (KD tC ?_)
 rintro _ rfl
 refine⟨_,(by(repeat(first|exact KF|apply KG rfl (KJ (F.ag _ rfl) (by repeat(first|exact ac|refine ab (by omega) ?_)) (aD rfl))|apply KG rfl (KI (F.ag _ rfl) (by repeat(first|exact ac|refine ab (by omega) ?_)) (ak _ 0 rfl rfl))))),?_⟩
 dsimp only
 exact⟨_,r',rfl,⟨k0,w0,rfl,gk.frame (by(repeat(refine ab (by omega) ?_));rfl),gw.frame (by(repeat(refine ab (by omega) ?_));rfl)⟩,by omega,by omega,fun m hm=>by(repeat(refine ab (by omega) ?_));exact dold m hm⟩
theorem ti(hp:p.length=1024)(hr:bj p=true)(hn:ae p≤n∨ar p n=0):Fnc Tryz.prog 44 [.agg (pgS p),.sc (.int .i64 (n:Int))] H nx (fun q=>q.1 = .tup [dK,.sc (.int .i64 6)]∧nx≤q.2.2∧ ∀ m,m<nx→q.2.1.at' m=H.at' m):=by
 have hfd:cm p n=(0,0,6):=by unfold cm;split;rfl;rw [Kb (by omega)]
 refine KE Tryz.func44 rfl rfl ?_
 have hb1:(H.set nx (pgO p)).at' nx=some (pgO p):=ai _ _ _
 have hrs:=fun nx'=>gG (nx:=nx') hb1 hp
 rw [hr] at hrs
 have hfs: ∀ nx',Fnc Tryz.prog 89 [.ptr nx 0,.sc (.int .i64 (n:Int))] (H.set nx (pgO p)) nx' (fun q=>q=(.tup [.sc (.int .i64 0),.sc (.int .i64 0),.sc (.int .i64 6)],H.set nx (pgO p),nx')):=fun nx'=>by
  have:=wL (nx:=nx') (n:=n) hb1 (fK hp hr)
  rw [hfd] at this
  exact this
 repeat first|apply ah;rfl|apply bW;rfl;kernel_rfl;exact hrs _|apply ll;rfl;omega|apply bW;rfl;kernel_rfl;exact hfs _|apply iA;rfl;decide
 (apply bR Tryz.func44 Tryz.results44;rfl)
 exact⟨rfl,by dsimp only;omega,fun m hm=>by(repeat(refine ab (by omega) ?_));rfl⟩
def lQ(n k:Int):Bool:=decide (32≤n∧n<128∧0≤k)
theorem Ag{n k:Int}:Fnc Tryz.prog 42 [.agg [.sc (.int .i64 n),.sc (.int .i64 k)]] H nx (fun q=>q=(.sc (.bool (lQ n k)),H,nx)):=by
 refine Fnc.bA (Free.sc _) ?_
 refine KE Tryz.func42 rfl rfl ?_
 repeat first|apply ah;rfl|apply aG;rfl;(focus((repeat(exact ac));done));rfl
 refine eK rfl rfl rfl rfl (fun h1=>?_) (fun h1=>?_)
 ·repeat first|apply ah;rfl|apply aG;rfl;(focus((repeat(exact ac));done));rfl
  refine bu rfl rfl rfl rfl (fun h2=>?_) (fun h2=>?_)
  ·repeat first|apply ah;rfl|apply aG;rfl;(focus((repeat(exact ac));done));rfl
   refine eK rfl rfl rfl rfl (fun h3=>?_) (fun h3=>?_)
   ·repeat apply ah;rfl
    (apply bR Tryz.func42 Tryz.results42;rfl)
    exact⟨by unfold lQ;rw [Kt (by omega)];rfl,J8 _,fun m hm=>aa _ _ (by omega)⟩
   ·repeat apply ah;rfl
    (apply bR Tryz.func42 Tryz.results42;rfl)
    exact⟨by unfold lQ;rw [Ku (by omega)];rfl,J8 _,fun m hm=>aa _ _ (by omega)⟩
  ·repeat apply ah;rfl
   (apply bR Tryz.func42 Tryz.results42;rfl)
   exact⟨by unfold lQ;rw [Ku (by omega)];rfl,J8 _,fun m hm=>aa _ _ (by omega)⟩
 ·repeat apply ah;rfl
  (apply bR Tryz.func42 Tryz.results42;rfl)
  exact⟨by unfold lQ;rw [Ku (by omega)];rfl,J8 _,fun m hm=>aa _ _ (by omega)⟩
def mn(pf:Nat→List UInt8)(n k:Int):gj×Nat:=
 if lQ n k=false then(iY,2) else
 if(aM (pf n.toNat)).2≠0 then(iY,(aM (pf n.toNat)).2) else
 if(cm (aM (pf n.toNat)).1 k.toNat).2.2≠0 then(iY,6) else
 ((ofV (aS (aM (pf n.toNat)).1 k.toNat)).getD iY,B0 (ofV (aS (aM (pf n.toNat)).1 k.toNat)))
theorem numZ{o:Nat}(h:o+2≤1024):gu zeroP o=0:=by
 unfold gu zeroP
 rw [List.drop_replicate,List.take_replicate,show min 2 (1024-o)=2 by omega]
 rfl
theorem y8(k:UInt8):ae (fJ k)=0:=by
 have hl:(zeroP.set 12 k).length=1024:=by rw [List.length_set,aj]
 unfold fJ
 exact(cZ (by rw [hl];decide) (by decide)).trans ((jj (q:=zeroP) fun i h1 h2=>by rw [List.getElem?_set_ne (by omega)]).trans (numZ (by decide)))
theorem Ju(k:UInt8):aF (fJ k)=1024:=by
 have hl:(zeroP.set 12 k).length=1024:=by rw [List.length_set,aj]
 unfold fJ
 exact eV (by rw [hl];decide) (by decide)
theorem okI(k:UInt8):Okp (fJ k):=by
 have h1:=y8 k
 have h2:=Ju k
 exact⟨fX k,by omega,by omega,fun h=>by omega,fun j hj=>by omega,fun i j _ hj=>by omega⟩
theorem Hu(k:UInt8):bj (fJ k)=true:=(aZ (fX k)).2 (okI k)
theorem cj{q:List UInt8}(h:aM p=(q,0))(hp:p.length=1024):q.length=1024∧bj q=true∧ ∀ j,j<ae q→ar q j≠0→(ofV (aS q j)).isSome=true:=by
 unfold aM at h
 split at h
 ·have h:=(Prod.mk.inj h).1
  subst h
  refine⟨fX 4,Hu 4,fun j hj=>?_⟩
  have h1:=y8 4
  omega
 ·split at h
  ·cases(Prod.mk.inj h).2
  ·rename_i hr
   split at h
   ·cases(Prod.mk.inj h).2
   ·rename_i hb
    have h:=(Prod.mk.inj h).1
    subst h
    refine⟨hp,?_,fun j hj hz=>?_⟩
    ·cases hq:bj p with
     | true=>rfl
     | false=>exact absurd (.inl hq) hr
    ·cases ho:ofV (aS p j)with
     | some v=>rfl
     | none=>
       refine absurd ?_ hb
       unfold ug
       rw [List.any_eq_true]
       exact⟨j,Kw.2 hj,by rw [Kt hz,ho];rfl⟩
theorem l0:(aM p).2=0∨aM p=(zeroP,13):=by
 unfold aM
 split
 ·exact .inl rfl
 ·split
  ·exact .inr rfl
  ·split
   ·exact .inr rfl
   ·exact .inl rfl
theorem ET{n k:Int}(hb:H.at' b=some (cT mem left puts))(hm:mem.length=131072):Fnc Tryz.prog 15 [ud b,.agg [.sc (.int .i64 n),.sc (.int .i64 k)]] H nx
 (fun q=> ∃ s' r,q.1 = .tup [s',.sc (.int .i64 ((mn (az mem) n k).2:Int))]∧VerAt q.2.1 s' r (mn (az mem) n k).1∧nx≤r∧nx≤q.2.2∧ ∀ m,m<nx→q.2.1.at' m=H.at' m):=by
 refine KE Tryz.func15 rfl rfl ?_
 refine aV fun hund=>?_
 have lb:=hund _ _ hb
 repeat first|apply ah;rfl|apply aG;rfl;(focus((repeat(first|exact ac|refine ab (by omega) ?_));done));rfl|apply lF;rfl;rfl;rfl;(focus(kernel_rfl))|refine cf (fm rfl rfl Tryz.underlying75 rfl) rfl rfl rfl ?_
 cases hmay:lQ n k with
 | false=>
   have hg:mn (az mem) n k=(iY,2):=by unfold mn;rw [Kb hmay]
   rw [hg]
   have hmy:=fun(H:au) nx=>Ag (H:=H) (nx:=nx) (n:=n) (k:=k)
   rw [hmay] at hmy
   repeat first|apply ah;rfl|apply aG;rfl;(focus((repeat(first|exact ac|refine ab (by omega) ?_));done));rfl|apply bW;rfl;kernel_rfl;exact hmy _ _
   refine eJ Tryz.func15 (congrArg Array.toList Tryz.results15) (by kernel_rfl) (KD tC ?_)
   rintro _ rfl
   refine⟨_,(by(repeat(first|exact KF|apply KG rfl (KJ (F.ag _ rfl) (by repeat(first|exact ac|refine ab (by omega) ?_)) (aD rfl))|apply KG rfl (KI (F.ag _ rfl) (by repeat(first|exact ac|refine ab (by omega) ?_)) (ak _ 0 rfl rfl))))),?_⟩
   dsimp only
   exact⟨_,nx,rfl,gy _ nx,JZ _,by omega,fun m hm=>by(repeat(refine ab (by omega) ?_));rfl⟩
 | true=>
   have hmd:32≤n∧n<128∧0≤k:=Km hmay
   obtain⟨N,rfl⟩: ∃ N:Nat,n=(N:Int):=⟨n.toNat,by omega⟩
   obtain⟨K,rfl⟩: ∃ K:Nat,k=(K:Int):=⟨k.toNat,by omega⟩
   have hmy:=fun(H:au) nx=>Ag (H:=H) (nx:=nx) (n:=(N:Int)) (k:=(K:Int))
   rw [hmay] at hmy
   have hg:mn (az mem) (N:Int) (K:Int)=if(aM (az mem N)).2≠0 then(iY,(aM (az mem N)).2) else if(cm (aM (az mem N)).1 K).2.2≠0 then(iY,6) else
    ((ofV (aS (aM (az mem N)).1 K)).getD iY,B0 (ofV (aS (aM (az mem N)).1 K))):=by unfold mn;rw [Ka (by rw [hmay];decide),Ks,Ks]
   rw [hg]
   clear hg
   have hpl:=cG hm (n:=N) (by omega)
   repeat first|apply ah;rfl|apply aG;rfl;(focus((repeat(first|exact ac|refine ab (by omega) ?_));done));rfl|apply bW;rfl;kernel_rfl;exact hmy _ _
   have hrd:=fun(H':au) (nx':Nat) (h:H'.at' b=some (cT mem left puts))=>sC (nx:=nx') (n:=N) h hm (by omega)
   refine aE rfl rfl rfl (by kernel_rfl) (KD (hrd _ _ (by(repeat(refine ab (by omega) ?_));exact hb)) ?_)
   rintro _ rfl
   dsimp only
   clear hrd hmy
   rcases l0 (p:=az mem N)with he|he
   ·obtain⟨p,hp⟩: ∃ p,aM (az mem N)=(p,0):=⟨_,Prod.ext rfl he⟩
    rw [hp,Ka (fun h=>h rfl)]
    obtain⟨hpp,hr,hof⟩:=cj hp hpl
    by_cases hK:ae p≤K∨ar p K=0
    ·have hfd:cm p K=(0,0,6):=by unfold cm;split;rfl;rw [Kb (by omega)]
     dsimp only
     rw [hfd,Kb (by decide)]
     repeat first|apply bJ hpp aj;rfl;(focus((repeat(exact ac));done))|refine be rfl rfl cq ?_|apply ah;rfl|apply aG;rfl;(focus((repeat(first|exact ac|refine ab (by omega) ?_));done));rfl|apply dA;rfl;rfl|apply bB hpp;rfl;(focus((repeat(first|exact ac|refine ab (by omega) ?_));done))
     refine aE rfl rfl rfl (by kernel_rfl) (KD (ti hpp hr hK) ?_)
     rintro⟨_,H2,n2⟩ ⟨rfl,a3,a4⟩
     dsimp only at a3 a4 ⊢
     have b4:H2.at' (nx+1)=some (ez (dB dK dK 0 0)):=(a4 _ (by omega)).trans (by repeat(first|exact ac|refine ab (by omega) ?_))
     have b5:H2.at' (nx+1+1)=some (fB 0):=(a4 _ (by omega)).trans (by repeat(exact ac))
     have bo: ∀ m,m<nx→H2.at' m=H.at' m:=fun m hm=>(a4 _ (by omega)).trans (by(repeat(refine ab (by omega) ?_));rfl)
     clear a4
     repeat first|apply ah;rfl|apply aG;rfl;(focus((repeat(first|assumption|exact ac));done));rfl|apply iA;rfl;decide
     (refine cQ (R:=fun H8 n8=>H8.at' (nx+1)=some (ez (dB dK dK 0 0))∧H8.at' (nx+1+1)=some (fB 6)∧nx≤n8∧ ∀ m,m<nx→H8.at' m=H.at' m) ⟨by repeat(first|assumption|refine ab (by omega) ?_),by repeat(exact ac),by omega,fun m hm=>by(repeat(refine ab (by omega) ?_));exact bo m hm⟩ ?_;rintro H8 n8 ⟨e1,e2,e3,e4⟩;(apply bk;(focus(kernel_rfl));(focus(kernel_rfl)));(repeat(first|apply dN;rfl;assumption;rfl|refine dM rfl rfl rfl (F.sz _ rfl) (by repeat(first|assumption|refine ab (by omega) ?_)) (by rfl) (by rfl) ?_|refine bY rfl rfl rfl (F.sz _ rfl) (by assumption) rfl (by exact JL rfl) rfl (by rfl) ?_|apply aW;rfl));refine aA ⟨by kernel_rfl,?_,?_⟩;(focus(repeat(first|exact KO|apply jE;rfl|apply gr;rfl;kernel_rfl|refine fO 0 rfl (by kernel_rfl) (by(repeat(refine⟨(by(exact an (F.ag _ rfl) rfl (by repeat(first|assumption|exact ac|refine ab (by omega) ?_)) (aD rfl))),?_⟩));exact KO) ?_)));skip;refine eJ Tryz.func15 (congrArg Array.toList Tryz.results15) (by kernel_rfl) (KD tC ?_);rintro _ rfl;refine⟨_,(by(repeat(first|exact KF|apply KG rfl (KJ (F.ag _ rfl) (by repeat(first|exact ac|refine ab (by omega) ?_)) (aD rfl))|apply KG rfl (KI (F.ag _ rfl) (by repeat(first|exact ac|refine ab (by omega) ?_)) (ak _ 0 rfl rfl))))),?_⟩;dsimp only;exact⟨_,nx,rfl,gy _ nx,JZ _,by omega,fun m hm=>by(repeat(refine ab (by omega) ?_));exact e4 m hm⟩)
    ·have hs:ar p K≠0:=fun h=>hK (.inr h)
     have hn:K<ae p:=by omega
     have hfd:cm p K=(ay p K,ar p K,0):=by unfold cm;rw [Ka (by omega),Ka hs]
     dsimp only
     rw [hfd,Ka (fun h=>h rfl)]
     have hil:(aS p K).length≤1024:=by unfold aS;rw [Ke,Kh];omega
     repeat first|apply bJ hpp aj;rfl;(focus((repeat(exact ac));done))|refine be rfl rfl cq ?_|apply ah;rfl|apply aG;rfl;(focus((repeat(first|exact ac|refine ab (by omega) ?_));done));rfl|apply dA;rfl;rfl|apply bB hpp;rfl;(focus((repeat(first|exact ac|refine ab (by omega) ?_));done))
     refine aE rfl rfl rfl (by kernel_rfl) (KD (uT hpp hr hn hs) ?_)
     rintro⟨_,H2,n2⟩ ⟨r,rfl,a1,a2,a3,a4⟩
     dsimp only at a1 a3 a4 ⊢
     have b4:H2.at' (nx+1)=some (ez (dB dK dK 0 0)):=(a4 _ (by omega)).trans (by repeat(first|exact ac|refine ab (by omega) ?_))
     have b5:H2.at' (nx+1+1)=some (fB 0):=(a4 _ (by omega)).trans (by repeat(exact ac))
     have bo: ∀ m,m<nx→H2.at' m=H.at' m:=fun m hm=>(a4 _ (by omega)).trans (by(repeat(refine ab (by omega) ?_));rfl)
     clear a4
     repeat first|apply ah;rfl|apply aG;rfl;(focus((repeat(first|assumption|exact ac));done));rfl|apply dA;rfl;rfl
     refine aE rfl rfl rfl (by kernel_rfl) (KD (of_s (ju (by(repeat(refine ab (by omega) ?_));exact a1)) (by omega)) ?_)
     rintro⟨_,H3,n3⟩ ⟨s',r',rfl,c1,cr,c2,c3⟩
     generalize (ofV (aS p K)).getD iY=v at c1 ⊢
     generalize B0 (ofV (aS p K))=eo
     obtain⟨k0,w0,rfl,gk,gw⟩:=c1
     dsimp only at gk gw c2 c3 ⊢
     have hone: ∀ x y:Nat,bm (dB k0 w0 x y)=true:=fun x y=>by simp only [bm,cN gk.bs,cN gw.bs];rfl
     have d4:H3.at' (nx+1)=some (ez (dB dK dK 0 0)):=(c3 _ (by omega)).trans (by repeat(first|assumption|refine ab (by omega) ?_))
     have d5:=(c3 (nx+1+1) (by omega)).trans (ai _ _ _)
     have dold: ∀ m,m<nx→H3.at' m=H.at' m:=fun m hm=>(c3 _ (by omega)).trans (by(repeat(refine ab (by omega) ?_));exact bo m hm)
     clear c3 b4 b5 bo a1
     repeat first|apply ah;rfl|apply aG;rfl;(focus((repeat(first|assumption|refine ab (by omega) ?_));done));rfl|refine cU rfl rfl rfl (F.sz _ rfl) (by assumption) rfl (by exact JL rfl) (hone _ _) rfl ?_
     refine eJ Tryz.func15 (congrArg Array.toList Tryz.results15) (by kernel_rfl) (KD tC ?_)
     rintro _ rfl
     refine⟨_,(by(repeat(first|exact KF|apply KG rfl (KJ (F.ag _ rfl) (by repeat(first|exact ac|refine ab (by omega) ?_)) (aD rfl))|apply KG rfl (KI (F.ag _ rfl) (by repeat(first|exact ac|refine ab (by omega) ?_)) (ak _ 0 rfl rfl))))),?_⟩
     dsimp only
     exact⟨_,r',rfl,⟨k0,w0,rfl,gk.frame (by(repeat(refine ab (by omega) ?_));rfl),gw.frame (by(repeat(refine ab (by omega) ?_));rfl)⟩,by omega,by omega,fun m hm=>by(repeat(refine ab (by omega) ?_));exact dold m hm⟩
   ·rw [he,Kb (by decide)]
    repeat first|apply bJ aj aj;rfl;(focus((repeat(exact ac));done))|refine be rfl rfl cq ?_|apply ah;rfl|apply aG;rfl;(focus((repeat(first|exact ac|refine ab (by omega) ?_));done));rfl|apply iA;rfl;decide
    (refine cQ (R:=fun H8 n8=>H8.at' (nx+1)=some (ez (dB dK dK 0 0))∧H8.at' (nx+1+1)=some (fB 13)∧nx≤n8∧ ∀ m,m<nx→H8.at' m=H.at' m) ⟨by repeat(first|exact ac|refine ab (by omega) ?_),by repeat(exact ac),by omega,fun m hm=>by(repeat(refine ab (by omega) ?_));rfl⟩ ?_;rintro H8 n8 ⟨e1,e2,e3,e4⟩;(apply bk;(focus(kernel_rfl));(focus(kernel_rfl)));(repeat(first|apply dN;rfl;assumption;rfl|refine dM rfl rfl rfl (F.sz _ rfl) (by repeat(first|assumption|refine ab (by omega) ?_)) (by rfl) (by rfl) ?_|refine bY rfl rfl rfl (F.sz _ rfl) (by assumption) rfl (by exact JL rfl) rfl (by rfl) ?_|apply aW;rfl));refine aA ⟨by kernel_rfl,?_,?_⟩;(focus(repeat(first|exact KO|apply jE;rfl|apply gr;rfl;kernel_rfl|refine fO 0 rfl (by kernel_rfl) (by(repeat(refine⟨(by(exact an (F.ag _ rfl) rfl (by repeat(first|assumption|exact ac|refine ab (by omega) ?_)) (aD rfl))),?_⟩));exact KO) ?_)));skip;refine eJ Tryz.func15 (congrArg Array.toList Tryz.results15) (by kernel_rfl) (KD tC ?_);rintro _ rfl;refine⟨_,(by(repeat(first|exact KF|apply KG rfl (KJ (F.ag _ rfl) (by repeat(first|exact ac|refine ab (by omega) ?_)) (aD rfl))|apply KG rfl (KI (F.ag _ rfl) (by repeat(first|exact ac|refine ab (by omega) ?_)) (ak _ 0 rfl rfl))))),?_⟩;dsimp only;exact⟨_,nx,rfl,gy _ nx,JZ _,by omega,fun m hm=>by(repeat(refine ab (by omega) ?_));exact e4 m hm⟩)
theorem Dy(hm:mem.length=131072){g:FuncId}{caps:List SV}(hme:b7 Tryz.prog g=true)(I:Nat→au→Nat→Prop)(J:Int→au→Nat→Prop)
 (hI: ∀ n H nx,I n H nx→H.at' b=some (cT mem left puts))
 (hgrow: ∀ n H nx H' nx',I n H nx→nx≤nx'→(∀ m,m<nx→H'.at' m=H.at' m)→I n H' nx')
 (hround: ∀ n p H1 n1,32≤n→n<128→I n H1 n1→aM (az mem n)=(p,0)→Fnc Tryz.prog g ([.sc (.int .i64 (n:Int)),.agg (pgS p)] ++ caps) H1 n1 (fun q=>(q.1 = .tup [.sc (.bool false),.sc (.int .i64 0)]∧I (n+1) q.2.1 q.2.2)∨ ∃ (d:Bool) (e:Int),(d=true∨e≠0)∧q.1 = .tup [.sc (.bool d),.sc (.int .i64 e)]∧J e q.2.1 q.2.2))
 (hbad: ∀ n H1 n1,32≤n→n<128→I n H1 n1→aM (az mem n)=(zeroP,13)→J 13 H1 n1)
 (h0:I 32 H nx):Fnc Tryz.prog 26 [ud b,.fn (.func g) [] caps] H nx
 (fun q=>(q.1 = .sc (.int .i64 0)∧I 128 q.2.1 q.2.2)∨ ∃ e:Int,q.1 = .sc (.int .i64 e)∧J e q.2.1 q.2.2):=by
 refine KE Tryz.func26 rfl rfl ?_
 repeat apply ah;rfl
 refine bE (α:=Nat) (fun n=> [(0,ud b),(1,.fn (.func g) [] caps),(5,.sc (.int .i64 (n:Int)))])
  (fun n H1 n1=>32≤n∧n≤128∧I n H1 n1) (fun n=>128-n) 32
  ⟨JZ _,by decide,h0⟩ (KK (KN rfl)) ?_
 rintro n H1 n1 ⟨h1,h2,h3⟩ ih
 repeat apply ah;rfl
 refine bu rfl rfl rfl rfl (fun h4=>?_) (fun h4=>?_)
 ·have hn:n<128:=by omega
  have hpl:=cG hm (n:=n) hn
  repeat apply ah;rfl
  refine aE rfl rfl rfl (by kernel_rfl) (KD (sC (n:=n) (hI _ _ _ h3) hm hn) ?_)
  rintro _ rfl
  dsimp only
  rcases l0 (p:=az mem n)with he|he
  ·obtain⟨p,hp⟩: ∃ p,aM (az mem n)=(p,0):=⟨_,Prod.ext rfl he⟩
   obtain⟨hpp,_,_⟩:=cj hp hpl
   rw [hp]
   repeat first|apply bJ hpp aj;rfl;(focus((repeat(exact ac));done))|refine be rfl rfl cq ?_|apply ah;rfl|apply dA;rfl;rfl|apply bB hpp;rfl;(focus((repeat(exact ac));done))
   refine jH rfl rfl rfl rfl hme (KD (hround n p _ _ h1 hn (hgrow _ _ _ _ _ h3 (J8 _) fun m hm=>(aa _ _ (by omega)).trans (aa _ _ (by omega))) hp) ?_)
   rintro⟨_,H2,n2⟩ (⟨rfl,g2⟩|⟨d,e,g1,rfl,g2⟩)
   ·dsimp only at g2 ⊢
    repeat first|apply ah;rfl|apply aL;rfl;omega;omega|apply dA;rfl;rfl
    exact ih _ _ _ (n+1) ⟨by omega,by omega,g2⟩ (by omega) (KK (KN rfl))
   ·dsimp only at g2 ⊢
    cases d with
    | true=>
      repeat apply ah;rfl
      (apply bR Tryz.func26 Tryz.results26;rfl)
      exact .inr ⟨e,rfl,g2⟩
    | false=>
      have g1:e≠0:=by rcases g1 with h|h;cases h;exact h
      repeat first|apply ah;rfl|refine lT rfl rfl rfl rfl (fun _=>?_) (fun hq=>absurd hq g1)
      (apply bR Tryz.func26 Tryz.results26;rfl)
      exact .inr ⟨e,rfl,g2⟩
  ·rw [he]
   repeat first|apply bJ aj aj;rfl;(focus((repeat(exact ac));done))|refine be rfl rfl cq ?_|apply ah;rfl|apply iA;rfl;decide
   (apply bR Tryz.func26 Tryz.results26;rfl)
   exact .inr ⟨13,rfl,hbad n _ _ h1 hn (hgrow _ _ _ _ _ h3 (J8 _) fun m hm=>(aa _ _ (by omega)).trans (aa _ _ (by omega))) he⟩
 ·obtain rfl:n=128:=by omega
  repeat apply ah;rfl
  (apply bR Tryz.func26 Tryz.results26;rfl)
  exact .inl ⟨rfl,h3⟩
def gm(p it:List UInt8):List UInt8:=if dx p<it.length then(iN p).1 else p
def eW(p it:List UInt8):List UInt8×Nat×Nat:=mI (gm p it) it
theorem l7(p:List UInt8)(hp:p.length=1024):(iN p).1.length=1024:=by
 unfold iN
 split
 ·rename_i h
  exact(oL ((aZ hp).1 h)).len
 ·exact aj
theorem oE(hp:p.length=1024):(gm p it).length=1024:=by
 unfold gm
 split
 ·exact l7 p hp
 ·exact hp
theorem rd(hp:p.length=1024):(mI p it).1.length=1024:=by
 unfold mI
 split
 ·exact aj
 ·rename_i hr
  split
  ·exact aj
  ·rename_i h1
   split
   ·exact aj
   ·rename_i h2
    have hr:bj p=true:=by cases h:bj p with|true=>rfl|false=>exact absurd h hr
    have h1:1≤it.length∧it.length≤1000:=by omega
    exact(laid ((aZ hp).1 hr) h1.2 (by omega) h1.1).len
theorem Jc(hbc:H.at' bc=some (bsO s))(hs:BsIs H s (byV it))(hp:p.length=1024)(ht:H.at' t=some (dJ a0 a1))(hto:H.at' to=some (pgO x0))(hx0:x0.length=1024)(hne:t≠to)(hit:it.length≤1000):Fnc Tryz.prog 33 [.sc (.int .i64 (n:Int)),.agg (pgS p),.ptr bc 0,.ptr t 0,.ptr to 0] H nx
 (fun q=>nx≤q.2.2∧(∀ m,m<nx→m≠t→m≠to→q.2.1.at' m=H.at' m)∧((eW p it).2.2=0→q.1 = .tup [.sc (.bool true),.sc (.int .i64 0)]∧q.2.1.at' t=some (dJ n (eW p it).2.1)∧q.2.1.at' to=some (pgO (eW p it).1)) ∧
   ((eW p it).2.2≠0→q.1 = .tup [.sc (.bool false),.sc (.int .i64 0)]∧q.2.1.at' t=some (dJ a0 a1)∧q.2.1.at' to=some (pgO x0))):=by
 refine KE Tryz.func33 rfl rfl ?_
 refine aV fun hund=>?_
 have l1:=hund _ _ hbc
 have l2:=hund _ _ ht
 have l3:=hund _ _ hto
 have hs1:BsIs (H.set nx (pgO p)) s (byV it):=hs.frame fun b vo hb=>(aa _ _ (by have:=hund b vo hb;omega)).trans hb
 have hbc1:(H.set nx (pgO p)).at' bc=some (bsO s):=by repeat(first|assumption|refine ab (by omega) ?_)
 have ht1:(H.set nx (pgO p)).at' t=some (dJ a0 a1):=by repeat(first|assumption|refine ab (by omega) ?_)
 have hto1:(H.set nx (pgO p)).at' to=some (pgO x0):=by repeat(first|assumption|refine ab (by omega) ?_)
 have hb1:(H.set nx (pgO p)).at' nx=some (pgO p):=ai _ _ _
 have ho1: ∀ m,m<nx→(H.set nx (pgO p)).at' m=H.at' m:=fun m hm=>by(repeat(refine ab (by omega) ?_));rfl
 repeat apply ah;rfl
 generalize H.set nx (pgO p)=H1 at hs1 hbc1 ht1 hto1 hb1 ho1 ⊢
 have hbl:=bL it
 have hrl:=oE (it:=it) hp
 have hpk:=l7 p hp
 unfold eW
 have hio:dx p<it.length∧gm p it=(iN p).1∨it.length≤dx p∧gm p it=p:=by unfold gm;split;exact .inl ⟨by assumption,rfl⟩;exact .inr ⟨by omega,rfl⟩
 generalize gm p it=pr at hrl hio ⊢
 rcases hio with ⟨hlt,rfl⟩|⟨hge,rfl⟩
 ·(apply bk;(focus(kernel_rfl));(focus(kernel_rfl)))
  repeat first|refine cn rfl rfl rfl (F.ag _ rfl) hb1 (bh hp) ?_|apply b9;rfl;rfl;rfl;(focus(kernel_rfl));exact(A5 hp)|refine bp (an (F.ag _ rfl) rfl hbc1 (aD rfl)) rfl rfl rfl ?_|apply bG;rfl;rfl;exact(fun _ h=>by cases h);exact(fG (F.un _ rfl) rfl hs1)|refine cW rfl rfl rfl rfl (fun _=>?_) (fun hq=>absurd hq (by omega))
  refine aA ⟨by kernel_rfl,?_,?_⟩;(focus(repeat(first|exact KO|apply jE;rfl|refine fO 0 rfl (by kernel_rfl) (by(repeat(refine⟨(by first|exact an (F.ag _ rfl) rfl (by assumption) (aD rfl)|exact aU (F.ag _ rfl) rfl hb1 (bv hp)|exact fG (F.un _ rfl) rfl hs1),?_⟩));exact KO) ?_|apply mJ;kernel_rfl)))
  repeat first|apply bB hp;rfl;assumption|apply ah;rfl|apply bW;rfl;kernel_rfl;exact De hp|apply bJ hpk hp;rfl;assumption
  (refine cQ (R:=fun H2 n2=>n2=nx+1∧H2.at' nx=some (pgO (iN p).1)∧H2.at' bc=some (bsO s)∧BsIs H2 s (byV it)∧H2.at' t=some (dJ a0 a1)∧H2.at' to=some (pgO x0)∧ ∀ m,m<nx→H2.at' m=H.at' m) ⟨rfl,by repeat(exact ac),by repeat(first|assumption|refine ab (by omega) ?_),hs.frame (fun b vo hb=>by have h9:=hund b vo hb;(focus((repeat(refine ab (by omega) ?_));exact(ho1 b h9).trans hb))),by repeat(first|assumption|refine ab (by omega) ?_),by repeat(first|assumption|refine ab (by omega) ?_),fun m hm=>by(repeat(refine ab (by omega) ?_));exact ho1 m hm⟩ ?_;rintro H2 n2 ⟨rfl,c1,c2,c3,c4,c5,c6⟩;have hi1:=qZ (nx:=nx+1) hrl c3 (by omega);generalize hq:mI (iN p).1 it=q at hi1 ⊢;have hpl:q.1.length=1024:=hq ▸ rd hrl;obtain⟨p',slot,err⟩:=q;dsimp only at hpl ⊢;rcases Nat.eq_zero_or_pos err with he|he)
  ·(subst he;(repeat(first|apply bB hrl;rfl;assumption|apply bJ hpl aj;rfl;(focus((repeat(exact ac));done))|refine be rfl rfl cq ?_|apply ah;rfl|apply aG;rfl;assumption;rfl|apply bW;rfl;kernel_rfl;exact hi1|apply dA;rfl;rfl));refine cQ (R:=fun H3 n3=>n3=nx+1+1∧H3.at' (nx+1)=some (pgO p')∧H3.at' t=some (dJ a0 a1)∧H3.at' to=some (pgO x0)∧ ∀ m,m<nx→H3.at' m=H.at' m) ⟨rfl,by repeat(exact ac),by repeat(first|assumption|refine ab (by omega) ?_),by repeat(first|assumption|refine ab (by omega) ?_),fun m hm=>by(repeat(refine ab (by omega) ?_));exact c6 m hm⟩ ?_;rintro H3 n3 ⟨rfl,d1,d2,d3,d4⟩;(apply bk;(focus(kernel_rfl));(focus(kernel_rfl)));(repeat(first|refine cn rfl rfl rfl (F.ag _ rfl) d1 (bh hpl) ?_|refine bY rfl rfl rfl (F.sz _ rfl) d2 rfl (by exact JL rfl) rfl rfl ?_|apply bY;rfl;rfl;rfl;exact(F.sz _ rfl);exact((aa _ _ (Ne.symm hne)).trans d3);exact(bh hpl);(focus(rw [bh hx0];exact JZ _));exact(hZ _);exact(lu _ _ hx0 hpl)|apply aW;rfl));refine aA ⟨by kernel_rfl,?_,?_⟩;(focus(repeat(first|exact KO|apply jE;rfl|apply gr;rfl;kernel_rfl|refine fO 0 rfl (by kernel_rfl) (by(repeat(refine⟨(by(exact aU (F.ag _ rfl) rfl (by repeat(first|assumption|refine ab (by omega) ?_)) (bv hpl))),?_⟩));exact KO) ?_)));(repeat(apply ah;rfl));(apply bR Tryz.func33 Tryz.results33;rfl);exact⟨by first|omega|(dsimp only;omega),fun m h1 h2 h3=>(aa _ _ h3).trans ((aa _ _ h2).trans (d4 m h1)),fun _=>⟨rfl,(aa _ _ hne).trans (ai _ _ _),ai _ _ _⟩,fun h=>absurd rfl h⟩)
  ·((repeat(first|apply bB hrl;rfl;assumption|apply bJ hpl aj;rfl;(focus((repeat(exact ac));done))|refine be rfl rfl cq ?_|apply ah;rfl|apply aG;rfl;assumption;rfl|apply bW;rfl;kernel_rfl;exact hi1|refine lT rfl rfl rfl rfl (fun _=>?_) (fun hq=>absurd hq (by dsimp only;omega))));(apply bR Tryz.func33 Tryz.results33;rfl);exact⟨by first|omega|(dsimp only;omega),fun m h1 h2 h3=>by(repeat(refine ab (by omega) ?_));exact c6 m h1,fun h=>absurd h (Nat.ne_of_gt he),fun _=>⟨rfl,by repeat(first|assumption|refine ab (by omega) ?_),by repeat(first|assumption|refine ab (by omega) ?_)⟩⟩)
 ·(apply bk;(focus(kernel_rfl));(focus(kernel_rfl)))
  repeat first|refine cn rfl rfl rfl (F.ag _ rfl) hb1 (bh hp) ?_|apply b9;rfl;rfl;rfl;(focus(kernel_rfl));exact(A5 hp)|refine bp (an (F.ag _ rfl) rfl hbc1 (aD rfl)) rfl rfl rfl ?_|apply bG;rfl;rfl;exact(fun _ h=>by cases h);exact(fG (F.un _ rfl) rfl hs1)|refine cW rfl rfl rfl rfl (fun hq=>absurd hq (by omega)) (fun _=>?_)
  refine aA ⟨by kernel_rfl,?_,?_⟩;(focus(repeat(first|exact KO|apply jE;rfl|refine fO 0 rfl (by kernel_rfl) (by(repeat(refine⟨(by first|exact an (F.ag _ rfl) rfl (by assumption) (aD rfl)|exact aU (F.ag _ rfl) rfl hb1 (bv hp)|exact fG (F.un _ rfl) rfl hs1),?_⟩));exact KO) ?_|apply mJ;kernel_rfl)))
  repeat apply ah;rfl
  (refine cQ (R:=fun H2 n2=>n2=nx+1∧H2.at' nx=some (pgO pr)∧H2.at' bc=some (bsO s)∧BsIs H2 s (byV it)∧H2.at' t=some (dJ a0 a1)∧H2.at' to=some (pgO x0)∧ ∀ m,m<nx→H2.at' m=H.at' m) ⟨rfl,by assumption,by assumption,hs.frame (fun b vo hb=>by have h9:=hund b vo hb;(focus(skip;exact(ho1 b h9).trans hb))),by assumption,by assumption,fun m hm=>by exact ho1 m hm⟩ ?_;rintro H2 n2 ⟨rfl,c1,c2,c3,c4,c5,c6⟩;have hi1:=qZ (nx:=nx+1) hrl c3 (by omega);generalize hq:mI pr it=q at hi1 ⊢;have hpl:q.1.length=1024:=hq ▸ rd hrl;obtain⟨p',slot,err⟩:=q;dsimp only at hpl ⊢;rcases Nat.eq_zero_or_pos err with he|he)
  ·(subst he;(repeat(first|apply bB hrl;rfl;assumption|apply bJ hpl aj;rfl;(focus((repeat(exact ac));done))|refine be rfl rfl cq ?_|apply ah;rfl|apply aG;rfl;assumption;rfl|apply bW;rfl;kernel_rfl;exact hi1|apply dA;rfl;rfl));refine cQ (R:=fun H3 n3=>n3=nx+1+1∧H3.at' (nx+1)=some (pgO p')∧H3.at' t=some (dJ a0 a1)∧H3.at' to=some (pgO x0)∧ ∀ m,m<nx→H3.at' m=H.at' m) ⟨rfl,by repeat(exact ac),by repeat(first|assumption|refine ab (by omega) ?_),by repeat(first|assumption|refine ab (by omega) ?_),fun m hm=>by(repeat(refine ab (by omega) ?_));exact c6 m hm⟩ ?_;rintro H3 n3 ⟨rfl,d1,d2,d3,d4⟩;(apply bk;(focus(kernel_rfl));(focus(kernel_rfl)));(repeat(first|refine cn rfl rfl rfl (F.ag _ rfl) d1 (bh hpl) ?_|refine bY rfl rfl rfl (F.sz _ rfl) d2 rfl (by exact JL rfl) rfl rfl ?_|apply bY;rfl;rfl;rfl;exact(F.sz _ rfl);exact((aa _ _ (Ne.symm hne)).trans d3);exact(bh hpl);(focus(rw [bh hx0];exact JZ _));exact(hZ _);exact(lu _ _ hx0 hpl)|apply aW;rfl));refine aA ⟨by kernel_rfl,?_,?_⟩;(focus(repeat(first|exact KO|apply jE;rfl|apply gr;rfl;kernel_rfl|refine fO 0 rfl (by kernel_rfl) (by(repeat(refine⟨(by(exact aU (F.ag _ rfl) rfl (by repeat(first|assumption|refine ab (by omega) ?_)) (bv hpl))),?_⟩));exact KO) ?_)));(repeat(apply ah;rfl));(apply bR Tryz.func33 Tryz.results33;rfl);exact⟨by first|omega|(dsimp only;omega),fun m h1 h2 h3=>(aa _ _ h3).trans ((aa _ _ h2).trans (d4 m h1)),fun _=>⟨rfl,(aa _ _ hne).trans (ai _ _ _),ai _ _ _⟩,fun h=>absurd rfl h⟩)
  ·((repeat(first|apply bB hrl;rfl;assumption|apply bJ hpl aj;rfl;(focus((repeat(exact ac));done))|refine be rfl rfl cq ?_|apply ah;rfl|apply aG;rfl;assumption;rfl|apply bW;rfl;kernel_rfl;exact hi1|refine lT rfl rfl rfl rfl (fun _=>?_) (fun hq=>absurd hq (by dsimp only;omega))));(apply bR Tryz.func33 Tryz.results33;rfl);exact⟨by first|omega|(dsimp only;omega),fun m h1 h2 h3=>by(repeat(refine ab (by omega) ?_));exact c6 m h1,fun h=>absurd h (Nat.ne_of_gt he),fun _=>⟨rfl,by repeat(first|assumption|refine ab (by omega) ?_),by repeat(first|assumption|refine ab (by omega) ?_)⟩⟩)
def ci(pf:Nat→List UInt8)(it:List UInt8):Nat→Nat→Nat×Nat×Nat×List UInt8
 | 0,_=>(5,0,0,zeroP)
 | k+1,n=>
   if(aM (pf n)).2≠0 then(13,0,0,zeroP)
   else if(eW (aM (pf n)).1 it).2.2≠0 then ci pf it k (n+1)
   else(0,n,(eW (aM (pf n)).1 it).2.1,(eW (aM (pf n)).1 it).1)
theorem mW(pf:Nat→List UInt8)(it:List UInt8): ∀ k n,(ci pf it k n).1=0→n≤(ci pf it k n).2.1∧(ci pf it k n).2.1<n+k
 | 0,n,h=>by cases h
 | k+1,n,h=>by
   unfold ci at h ⊢
   split
   ·rename_i h1
    rw [Kb h1] at h
    cases h
   ·rename_i h1
    rw [Ka h1] at h
    split
    ·rename_i h2
     rw [Kb h2] at h
     have:=mW pf it k (n+1) h
     omega
    ·dsimp only;omega
theorem tu(pf:Nat→List UInt8)(it:List UInt8)(hpf: ∀ n,n<128→(pf n).length=1024): ∀ k n,n+k≤128→(ci pf it k n).2.2.2.length=1024
 | 0,n,_=>aj
 | k+1,n,hn=>by
   unfold ci
   split
   ·exact aj
   ·rename_i h1
    have h1:(aM (pf n)).2=0:=Decidable.not_not.1 h1
    split
    ·exact tu pf it hpf k (n+1) (by omega)
    ·have hr:=cj (p:=pf n) (q:=(aM (pf n)).1) (Prod.ext rfl h1) (hpf n (by omega))
     exact rd (oE hr.1)
theorem vX{x:List UInt8}(hb:H.at' b=some (cT mem 0 puts))(hm:mem.length=131072)(hn:n<128)(hx:x.length=1024):Fnc Tryz.prog 141 [.ptr b 0,.sc (.int .i64 (n:Int)),.agg (pgS x)] H nx
 (fun q=>q=(.sc (.int .i64 8),H,nx)):=by
 refine Fnc.bA (Free.sc _) ?_
 refine KE Tryz.func141 rfl rfl ?_
 refine aV fun hund=>?_
 have hlt:=hund _ _ hb
 have hb1:(H.set nx (pgO x)).at' b=some (cT mem 0 puts):=(aa _ _ (by omega)).trans hb
 have hold: ∀ m,m<nx→(H.set nx (pgO x)).at' m=H.at' m:=fun m hm=>aa _ _ (by omega)
 repeat apply ah;rfl
 generalize H.set nx (pgO x)=H1 at hb1 hold ⊢
 repeat first|refine df rfl rfl rfl (F.ag _ rfl) hb1 (v6 hm _ _) ?_|apply ah;rfl|apply ll;rfl;omega|apply dA;rfl;rfl
 (apply bR Tryz.func141 Tryz.results141;rfl)
 exact⟨rfl,J8 _,hold⟩
def jD(pf:Nat→List UInt8)(v:gj)(dead:Bool):(Nat×Nat×Nat)×Option (Nat×List UInt8):=
 if gV v=false then((0,0,2),none)
 else if(ci pf (aQ v) 96 32).1≠0 then((0,0,(ci pf (aQ v) 96 32).1),none)
 else if dead=true then((0,0,8),none)
 else(((ci pf (aQ v) 96 32).2.1,(ci pf (aQ v) 96 32).2.2.1,0),some ((ci pf (aQ v) 96 32).2.1,(ci pf (aQ v) 96 32).2.2.2))
def putO(mem:List UInt8)(left puts:Int):Option (Nat×List UInt8)→VO
 | none=>cT mem left puts
 | some (n,x)=>cT (fx mem n x) (left-1) (puts+1)
theorem mi(hb:H.at' b=some (cT mem left puts))(hm:mem.length=131072)(hv:VerIs H s v)(hl2 : -1000000000≤left∧left≤1000000000)(hputs : -1000000000≤puts∧puts≤1000000000):Fnc Tryz.prog 11 [ud b,s] H nx
 (fun q=>q.1 = .tup [.agg [.sc (.int .i64 ((jD (az mem) v (decide (left=0))).1.1:Int)),.sc (.int .i64 ((jD (az mem) v (decide (left=0))).1.2.1:Int))],.sc (.int .i64 ((jD (az mem) v (decide (left=0))).1.2.2:Int))]
   ∧ q.2.1.at' b=some (putO mem left puts (jD (az mem) v (decide (left=0))).2)∧nx≤q.2.2∧ ∀ m,m<nx→m≠b→q.2.1.at' m=H.at' m):=by
 have hv0:=hv
 obtain⟨k,w,rfl,hk,hw⟩:=hv
 have hbl:=dT v
 refine KE Tryz.func11 rfl rfl ?_
 refine aV fun hund=>?_
 have lb:=hund _ _ hb
 repeat first|apply ah;rfl|apply lF;rfl;rfl;rfl;(focus(kernel_rfl))
 have a4:(((H.set nx (ez (dB k w v.2.2.1 v.2.2.2))).set (nx+1) (dJ 0 0)).set (nx+1+1) (fB 0)).at' (nx+1)=some (dJ 0 0):=by repeat(first|exact ac|refine ab (by omega) ?_)
 have a5:(((H.set nx (ez (dB k w v.2.2.1 v.2.2.2))).set (nx+1) (dJ 0 0)).set (nx+1+1) (fB 0)).at' (nx+1+1)=some (fB 0):=by repeat(exact ac)
 have a3:(((H.set nx (ez (dB k w v.2.2.1 v.2.2.2))).set (nx+1) (dJ 0 0)).set (nx+1+1) (fB 0)).at' nx=some (ez (dB k w v.2.2.1 v.2.2.2)):=by repeat(first|exact ac|refine ab (by omega) ?_)
 have ao: ∀ m,m<nx→(((H.set nx (ez (dB k w v.2.2.1 v.2.2.2))).set (nx+1) (dJ 0 0)).set (nx+1+1) (fB 0)).at' m=H.at' m:=fun m hm=>by(repeat(refine ab (by omega) ?_));rfl
 generalize ((H.set nx (ez (dB k w v.2.2.1 v.2.2.2))).set (nx+1) (dJ 0 0)).set (nx+1+1) (fB 0)=H1 at a3 a4 a5 ao ⊢
 repeat first|apply ah;rfl|apply aG;rfl;assumption;rfl|refine cf (fm rfl rfl Tryz.underlying75 rfl) rfl rfl rfl ?_
 cases hmay:gV v with
 | false=>
   have hM:jD (az mem) v (decide (left=0))=((0,0,2),none):=by unfold jD;rw [Kb hmay]
   rw [hM]
   refine aE rfl rfl rfl (by kernel_rfl) (KD (Cy (hv0.frame fun b' vo hb'=>(ao _ (hund _ _ hb')).trans hb') hmay) ?_)
   rintro _ rfl
   dsimp only
   repeat first|apply ah;rfl|apply aG;rfl;(focus((repeat(first|assumption|exact ac|refine ab (by omega) ?_));done));rfl|refine Hf (dg (F.sz _ rfl) rfl rfl rfl (by repeat(first|assumption|exact ac)) (by rfl) (by exact JL rfl) (by rfl)) rfl rfl ?_|apply iA;rfl;decide
   (refine cQ (R:=fun H8 n8=>(∃ a0 a1:Int,H8.at' (nx+1)=some (dJ a0 a1))∧H8.at' (nx+1+1)=some (fB 2)∧H8.at' b=some (cT mem left puts)∧nx≤n8∧ ∀ m,m<nx→H8.at' m=H.at' m) ⟨⟨_,_,by repeat(first|assumption|refine ab (by omega) ?_)⟩,by repeat(exact ac),by(repeat(refine ab (by omega) ?_));exact(ao b lb).trans hb,by omega,fun m hm=>by(repeat(refine ab (by omega) ?_));exact ao m hm⟩ ?_;rintro H8 n8 ⟨⟨a0,a1,e1⟩,e2,e5,e3,e4⟩;(apply bk;(focus(kernel_rfl));(focus(kernel_rfl)));(repeat(first|apply dN;rfl;assumption;rfl|refine dM rfl rfl rfl (F.sz _ rfl) (by repeat(first|assumption|refine ab (by omega) ?_)) (by rfl) (by rfl) ?_|refine bY rfl rfl rfl (F.sz _ rfl) (by assumption) rfl (by exact JL rfl) rfl (by rfl) ?_|apply aW;rfl));refine aA ⟨by kernel_rfl,?_,?_⟩;(focus(repeat(first|exact KO|apply jE;rfl|apply gr;rfl;kernel_rfl|refine fO 0 rfl (by kernel_rfl) (by(repeat(refine⟨(by(exact an (F.ag _ rfl) rfl (by repeat(first|assumption|exact ac|refine ab (by omega) ?_)) (aD rfl))),?_⟩));exact KO) ?_)));skip;refine eJ Tryz.func11 (congrArg Array.toList Tryz.results11) (by kernel_rfl) (KD qe ?_);rintro _ rfl;refine⟨_,(by(repeat(first|exact KF|apply KG rfl (KJ (F.ag _ rfl) (by repeat(first|exact ac|refine ab (by omega) ?_)) (aD rfl))|apply KG rfl (KI (F.ag _ rfl) (by repeat(first|exact ac|refine ab (by omega) ?_)) (ak _ 0 rfl rfl))))),?_⟩;dsimp only;exact⟨rfl,by(repeat(refine ab (by omega) ?_));exact e5,by omega,fun m hm _=>by(repeat(refine ab (by omega) ?_));exact e4 m hm⟩)
 | true=>
   have hmd:=Km hmay
   have hM:jD (az mem) v (decide (left=0))=if(ci (az mem) (aQ v) 96 32).1≠0 then((0,0,(ci (az mem) (aQ v) 96 32).1),none) else if decide (left=0)=true then((0,0,8),none)
    else(((ci (az mem) (aQ v) 96 32).2.1,(ci (az mem) (aQ v) 96 32).2.2.1,0),some ((ci (az mem) (aQ v) 96 32).2.1,(ci (az mem) (aQ v) 96 32).2.2.2)):=by unfold jD;rw [Ka (by rw [hmay];decide)]
   rw [hM]
   refine aE rfl rfl rfl (by kernel_rfl) (KD (AO (hv0.frame fun b' vo hb'=>(ao _ (hund _ _ hb')).trans hb') hmay) ?_)
   rintro⟨_,H2,n2⟩ ⟨r,rfl,b1,b2,b3,b4⟩
   dsimp only at b1 b3 b4 ⊢
   have b5:=(b4 _ (show nx+1+1<nx+1+1+1 by omega)).trans a5
   have b6:=(b4 _ (show nx+1<nx+1+1+1 by omega)).trans a4
   have bo: ∀ m,m<nx→H2.at' m=H.at' m:=fun m hm=>(b4 m (by omega)).trans (ao m hm)
   clear a3 a4 a5 ao b4
   repeat first|refine be rfl rfl cq ?_|apply ah;rfl|apply aG;rfl;(focus((repeat(first|assumption|exact ac|refine ab (by omega) ?_));done));rfl|apply dA;rfl;rfl
   refine aV fun hund3=>?_
   have hI0: ∀ k,ci (az mem) (aQ v) k 128=ci (az mem) (aQ v) k 128:=fun _=>rfl
   refine aE rfl rfl rfl (by kernel_rfl) (KD (Dy (b:=b) (left:=left) (puts:=puts) hm (g:=33) (caps:= [.ptr n2 0,.ptr (nx+1) 0,.ptr (n2+1) 0]) (by kernel_rfl)
    (fun n H1 n1=>H1.at' b=some (cT mem left puts)∧H1.at' n2=some (bsO (.slu r 0 (aQ v).length))∧H1.at' r=some (u8R false (byV (aQ v)))∧H1.at' (nx+1)=some (dJ 0 0)∧H1.at' (n2+1)=some (pgO zeroP)∧H1.at' (nx+1+1)=some (fB 0)∧n2+1+1≤n1∧(∀ m,m<nx→H1.at' m=H.at' m)∧32≤n∧n≤128∧ci (az mem) (aQ v) (128-n) n=ci (az mem) (aQ v) 96 32)
    (fun e H1 n1=>H1.at' b=some (cT mem left puts)∧H1.at' (nx+1+1)=some (fB 0)∧n2+1+1≤n1∧(∀ m,m<nx→H1.at' m=H.at' m) ∧
      ((e=0∧(ci (az mem) (aQ v) 96 32).1=0∧H1.at' (nx+1)=some (dJ (ci (az mem) (aQ v) 96 32).2.1 (ci (az mem) (aQ v) 96 32).2.2.1)∧H1.at' (n2+1)=some (pgO (ci (az mem) (aQ v) 96 32).2.2.2)) ∨
       (e=13∧(ci (az mem) (aQ v) 96 32).1=13∧H1.at' (nx+1)=some (dJ 0 0))))
    (fun n H1 n1 h=>h.1) ?_ ?_ ?_ ?_) ?_)
   ·rintro n H3 n3 H4 n4 ⟨i1,i2,i3,i4,i5,i6,i7,i8,i9,i10,i11⟩ hle hs
    exact⟨(hs _ (by omega)).trans i1,(hs _ (by omega)).trans i2,(hs _ (by omega)).trans i3,(hs _ (by omega)).trans i4,(hs _ (by omega)).trans i5,(hs _ (by omega)).trans i6,by omega,fun m hm=>(hs _ (by omega)).trans (i8 m hm),i9,i10,i11⟩
   ·rintro n p H3 n3 h32 h128 ⟨i1,i2,i3,i4,i5,i6,i7,i8,i9,i10,i11⟩ hrd
    obtain⟨hpp,_,_⟩:=cj hrd (cG hm h128)
    refine KD (Jc (bc:=n2) (t:=nx+1) (to:=n2+1) (s:= .slu r 0 (aQ v).length) (it:=aQ v) (x0:=zeroP) i2 (ju i3) hpp i4 i5 aj (by omega) (by omega)) ?_
    rintro⟨_,H4,n4⟩ ⟨g1,g2,g3,g4⟩
    dsimp only at g1 g2 g3 g4 ⊢
    have hgo:ci (az mem) (aQ v) (128-n) n=if(eW p (aQ v)).2.2≠0 then ci (az mem) (aQ v) (128-(n+1)) (n+1) else(0,n,(eW p (aQ v)).2.1,(eW p (aQ v)).1):=by
     rw [show 128-n=(128-(n+1))+1 by omega]
     show(if _ then _ else _)=_
     rw [hrd,Ka (fun h=>h rfl)]
    by_cases he:(eW p (aQ v)).2.2=0
    ·obtain⟨g5,g6,g7⟩:=g3 he
     rw [Ka (fun h=>h he),i11] at hgo
     exact .inr ⟨true,0,.inl rfl,g5,(g2 _ (by omega) (by omega) (by omega)).trans i1,(g2 _ (by omega) (by omega) (by omega)).trans i6,by omega,fun m hm=>(g2 _ (by omega) (by omega) (by omega)).trans (i8 m hm),.inl ⟨rfl,by rw [hgo],by rw [hgo];exact g6,by rw [hgo];exact g7⟩⟩
    ·obtain⟨g5,g6,g7⟩:=g4 he
     rw [Kb he,i11] at hgo
     exact .inl ⟨g5,(g2 _ (by omega) (by omega) (by omega)).trans i1,(g2 _ (by omega) (by omega) (by omega)).trans i2,(g2 _ (by omega) (by omega) (by omega)).trans i3,g6,g7,(g2 _ (by omega) (by omega) (by omega)).trans i6,by omega,fun m hm=>(g2 _ (by omega) (by omega) (by omega)).trans (i8 m hm),by omega,by omega,hgo.symm⟩
   ·rintro n H3 n3 h32 h128 ⟨i1,i2,i3,i4,i5,i6,i7,i8,i9,i10,i11⟩ hrd
    have hgo:ci (az mem) (aQ v) (128-n) n=(13,0,0,zeroP):=by
     rw [show 128-n=(128-(n+1))+1 by omega]
     show(if _ then _ else _)=_
     rw [hrd,Kb (by decide)]
    exact⟨i1,i6,i7,i8,.inr ⟨rfl,by rw [← i11,hgo],i4⟩⟩
   ·exact⟨by(repeat(refine ab (by omega) ?_));exact(bo b lb).trans hb,by repeat(first|exact ac|refine ab (by omega) ?_),by(repeat(refine ab (by omega) ?_));exact b1,by repeat(first|assumption|refine ab (by omega) ?_),by repeat(exact ac),by repeat(first|exact ac|refine ab (by omega) ?_),by omega,fun m hm=>by(repeat(refine ab (by omega) ?_));exact bo m hm,by omega,by omega,rfl⟩
   have hG:=mW (az mem) (aQ v) 96 32
   have hGl:=tu (az mem) (aQ v) (fun n hn=>cG hm hn) 96 32 (by omega)
   have hG0:ci (az mem) (aQ v) 0 128=(5,0,0,zeroP):=rfl
   generalize ci (az mem) (aQ v) 96 32=G at hG hGl ⊢
   obtain⟨Ge,Gn,Gk,Gx⟩:=G
   clear b1 b5 b6 bo hund3
   rintro⟨_,H4,n4⟩ (⟨rfl,c1,_,_,c4,_,c6,c7,c8,_,_,c11⟩|⟨e,rfl,c1,c6,c7,c8,(⟨rfl,c9,c10,c11⟩|⟨rfl,c9,c10⟩)⟩)
   ·dsimp only at c1 c4 c6 c7 c8 c11 hG hGl ⊢
    rw [show ci (az mem) (aQ v) (128-128) 128=(5,0,0,zeroP)from rfl] at c11
    obtain rfl:5=Ge:=(Prod.mk.inj c11).1
    rw [Kb (by decide)]
    repeat first|apply ah;rfl|apply aG;rfl;(focus((repeat(first|assumption|exact ac|refine ab (by omega) ?_));done));rfl|apply dA;rfl;rfl|apply iA;rfl;decide
    (refine cQ (R:=fun H8 n8=>(∃ a0 a1:Int,H8.at' (nx+1)=some (dJ a0 a1))∧H8.at' (nx+1+1)=some (fB 5)∧H8.at' b=some (cT mem left puts)∧nx≤n8∧ ∀ m,m<nx→H8.at' m=H.at' m) ⟨⟨_,_,by repeat(first|assumption|refine ab (by omega) ?_)⟩,by repeat(exact ac),by(repeat(refine ab (by omega) ?_));exact c1,by omega,fun m hm=>by(repeat(refine ab (by omega) ?_));exact c8 m hm⟩ ?_;rintro H8 n8 ⟨⟨a0,a1,e1⟩,e2,e5,e3,e4⟩;(apply bk;(focus(kernel_rfl));(focus(kernel_rfl)));(repeat(first|apply dN;rfl;assumption;rfl|refine dM rfl rfl rfl (F.sz _ rfl) (by repeat(first|assumption|refine ab (by omega) ?_)) (by rfl) (by rfl) ?_|refine bY rfl rfl rfl (F.sz _ rfl) (by assumption) rfl (by exact JL rfl) rfl (by rfl) ?_|apply aW;rfl));refine aA ⟨by kernel_rfl,?_,?_⟩;(focus(repeat(first|exact KO|apply jE;rfl|apply gr;rfl;kernel_rfl|refine fO 0 rfl (by kernel_rfl) (by(repeat(refine⟨(by(exact an (F.ag _ rfl) rfl (by repeat(first|assumption|exact ac|refine ab (by omega) ?_)) (aD rfl))),?_⟩));exact KO) ?_)));skip;refine eJ Tryz.func11 (congrArg Array.toList Tryz.results11) (by kernel_rfl) (KD qe ?_);rintro _ rfl;refine⟨_,(by(repeat(first|exact KF|apply KG rfl (KJ (F.ag _ rfl) (by repeat(first|exact ac|refine ab (by omega) ?_)) (aD rfl))|apply KG rfl (KI (F.ag _ rfl) (by repeat(first|exact ac|refine ab (by omega) ?_)) (ak _ 0 rfl rfl))))),?_⟩;dsimp only;exact⟨rfl,by(repeat(refine ab (by omega) ?_));exact e5,by omega,fun m hm _=>by(repeat(refine ab (by omega) ?_));exact e4 m hm⟩)
   ·dsimp only at c1 c6 c7 c8 c9 c10 c11 hG hGl ⊢
    obtain rfl:Ge=0:=c9
    have hGn:=hG rfl
    rw [Ka (fun h=>h rfl)]
    repeat first|apply bB hGl;rfl;(focus((repeat(first|assumption|refine ab (by omega) ?_));done))|apply ah;rfl|apply aG;rfl;(focus((repeat(first|assumption|exact ac|refine ab (by omega) ?_));done));rfl|apply iA;rfl;omega|apply dA;rfl;rfl
    by_cases hl:left=0
    ·subst hl
     rw [Kb (show decide ((0:Int)=0)=true from rfl)]
     refine lU 141 rfl rfl rfl rfl (by kernel_rfl) (KD (vX (n:=Gn) (by repeat(first|assumption|refine ab (by omega) ?_)) hm (by omega) hGl) ?_)
     rintro _ rfl
     dsimp only
     repeat first|apply ah;rfl|apply aG;rfl;(focus((repeat(exact ac));done));rfl|apply iA;rfl;decide
     (refine cQ (R:=fun H8 n8=>(∃ a0 a1:Int,H8.at' (nx+1)=some (dJ a0 a1))∧H8.at' (nx+1+1)=some (fB 8)∧H8.at' b=some (cT mem 0 puts)∧nx≤n8∧ ∀ m,m<nx→H8.at' m=H.at' m) ⟨⟨_,_,by repeat(first|assumption|refine ab (by omega) ?_)⟩,by repeat(exact ac),by(repeat(refine ab (by omega) ?_));exact c1,by omega,fun m hm=>by(repeat(refine ab (by omega) ?_));exact c8 m hm⟩ ?_;rintro H8 n8 ⟨⟨a0,a1,e1⟩,e2,e5,e3,e4⟩;(apply bk;(focus(kernel_rfl));(focus(kernel_rfl)));(repeat(first|apply dN;rfl;assumption;rfl|refine dM rfl rfl rfl (F.sz _ rfl) (by repeat(first|assumption|refine ab (by omega) ?_)) (by rfl) (by rfl) ?_|refine bY rfl rfl rfl (F.sz _ rfl) (by assumption) rfl (by exact JL rfl) rfl (by rfl) ?_|apply aW;rfl));refine aA ⟨by kernel_rfl,?_,?_⟩;(focus(repeat(first|exact KO|apply jE;rfl|apply gr;rfl;kernel_rfl|refine fO 0 rfl (by kernel_rfl) (by(repeat(refine⟨(by(exact an (F.ag _ rfl) rfl (by repeat(first|assumption|exact ac|refine ab (by omega) ?_)) (aD rfl))),?_⟩));exact KO) ?_)));skip;refine eJ Tryz.func11 (congrArg Array.toList Tryz.results11) (by kernel_rfl) (KD qe ?_);rintro _ rfl;refine⟨_,(by(repeat(first|exact KF|apply KG rfl (KJ (F.ag _ rfl) (by repeat(first|exact ac|refine ab (by omega) ?_)) (aD rfl))|apply KG rfl (KI (F.ag _ rfl) (by repeat(first|exact ac|refine ab (by omega) ?_)) (ak _ 0 rfl rfl))))),?_⟩;dsimp only;exact⟨rfl,by(repeat(refine ab (by omega) ?_));exact e5,by omega,fun m hm _=>by(repeat(refine ab (by omega) ?_));exact e4 m hm⟩)
    ·rw [Ka (by rw [KB];exact hl)]
     refine lU 141 rfl rfl rfl rfl (by kernel_rfl) (KD (vV (n:=Gn) (by repeat(first|assumption|refine ab (by omega) ?_)) hm (by omega) hGl hl hl2 hputs) ?_)
     rintro⟨_,H5,n5⟩ ⟨rfl,d1,d2,d3⟩
     dsimp only at d1 d2 d3 ⊢
     have d4:H5.at' (nx+1)=some (dJ Gn Gk):=(d3 _ (by omega) (by omega)).trans (by repeat(first|assumption|refine ab (by omega) ?_))
     have d5:H5.at' (nx+1+1)=some (fB 0):=(d3 _ (by omega) (by omega)).trans (by repeat(exact ac))
     have dold: ∀ m,m<nx→m≠b→H5.at' m=H.at' m:=fun m hm hmb=>(d3 _ (by omega) hmb).trans (by(repeat(refine ab (by omega) ?_));exact c8 m hm)
     clear c1 c6 c8 c10 c11 d3
     repeat first|apply ah;rfl|apply aG;rfl;(focus((repeat(first|assumption|exact ac|refine ab (by omega) ?_));done));rfl|apply dA;rfl;rfl
     refine eJ Tryz.func11 (congrArg Array.toList Tryz.results11) (by kernel_rfl) (KD qe ?_)
     rintro _ rfl
     refine⟨_,(by(repeat(first|exact KF|apply KG rfl (KJ (F.ag _ rfl) (by repeat(first|exact ac|refine ab (by omega) ?_)) (aD rfl))|apply KG rfl (KI (F.ag _ rfl) (by repeat(first|exact ac|refine ab (by omega) ?_)) (ak _ 0 rfl rfl))))),?_⟩
     dsimp only
     exact⟨rfl,by(repeat(refine ab (by omega) ?_));exact d1,by omega,fun m h1 h2=>by(repeat(refine ab (by omega) ?_));exact dold m h1 h2⟩
   ·dsimp only at c1 c6 c7 c8 c9 c10 hG hGl ⊢
    obtain rfl:Ge=13:=c9
    rw [Kb (by decide)]
    repeat first|apply ah;rfl|apply aG;rfl;(focus((repeat(first|assumption|exact ac));done));rfl|apply iA;rfl;decide
    (refine cQ (R:=fun H8 n8=>(∃ a0 a1:Int,H8.at' (nx+1)=some (dJ a0 a1))∧H8.at' (nx+1+1)=some (fB 13)∧H8.at' b=some (cT mem left puts)∧nx≤n8∧ ∀ m,m<nx→H8.at' m=H.at' m) ⟨⟨_,_,by repeat(first|assumption|refine ab (by omega) ?_)⟩,by repeat(exact ac),by(repeat(refine ab (by omega) ?_));exact c1,by omega,fun m hm=>by(repeat(refine ab (by omega) ?_));exact c8 m hm⟩ ?_;rintro H8 n8 ⟨⟨a0,a1,e1⟩,e2,e5,e3,e4⟩;(apply bk;(focus(kernel_rfl));(focus(kernel_rfl)));(repeat(first|apply dN;rfl;assumption;rfl|refine dM rfl rfl rfl (F.sz _ rfl) (by repeat(first|assumption|refine ab (by omega) ?_)) (by rfl) (by rfl) ?_|refine bY rfl rfl rfl (F.sz _ rfl) (by assumption) rfl (by exact JL rfl) rfl (by rfl) ?_|apply aW;rfl));refine aA ⟨by kernel_rfl,?_,?_⟩;(focus(repeat(first|exact KO|apply jE;rfl|apply gr;rfl;kernel_rfl|refine fO 0 rfl (by kernel_rfl) (by(repeat(refine⟨(by(exact an (F.ag _ rfl) rfl (by repeat(first|assumption|exact ac|refine ab (by omega) ?_)) (aD rfl))),?_⟩));exact KO) ?_)));skip;refine eJ Tryz.func11 (congrArg Array.toList Tryz.results11) (by kernel_rfl) (KD qe ?_);rintro _ rfl;refine⟨_,(by(repeat(first|exact KF|apply KG rfl (KJ (F.ag _ rfl) (by repeat(first|exact ac|refine ab (by omega) ?_)) (aD rfl))|apply KG rfl (KI (F.ag _ rfl) (by repeat(first|exact ac|refine ab (by omega) ?_)) (ak _ 0 rfl rfl))))),?_⟩;dsimp only;exact⟨rfl,by(repeat(refine ab (by omega) ?_));exact e5,by omega,fun m hm _=>by(repeat(refine ab (by omega) ?_));exact e4 m hm⟩)
abbrev rU:=(Nat×Nat)×gj
abbrev rR(n k:Nat)(s1 s2:SV)(x y:Nat):List SV:= [.sc (.int .i64 (n:Int)),.sc (.int .i64 (k:Int)),s1,s2,.sc (.int .u64 (x:Int)),.sc (.int .u64 (y:Int))]
def RowsC(H:au)(ok:Nat→Prop):List SV→List rU→Prop
 | ws,[]=>ws= []
 | ws,x :: l=> ∃ s1 s2 rest r,ws=rR x.1.1 x.1.2 s1 s2 x.2.2.2.1 x.2.2.2.2 ++ rest∧ok r∧BlkS H s1 r x.2.1∧BlkS H s2 r x.2.2.1∧RowsC H ok rest l
theorem RowsC.frame{H H':au}{ok ok':Nat→Prop}: ∀ {l:List rU} {ws:List SV},RowsC H ok ws l→(∀ r,ok r→ok' r∧H'.at' r=H.at' r)→RowsC H' ok' ws l
 | [],ws,h,_=>h
 | x :: l,ws,h,hf=>by
   obtain⟨s1,s2,rest,r,h1,h2,h3,h4,h5⟩:=h
   have hr:=hf r h2
   exact⟨s1,s2,rest,r,h1,hr.1,h3.frame hr.2,h4.frame hr.2,RowsC.frame h5 hf⟩
theorem RowsC.len{H:au}{ok:Nat→Prop}: ∀ {l:List rU} {ws:List SV},RowsC H ok ws l→ws.length=l.length*6
 | [],ws,h=>by rw [show ws= [] from h];rfl
 | x :: l,ws,h=>by
   obtain⟨s1,s2,rest,r,rfl,_,_,_,h5⟩:=h
   have:=RowsC.len h5
   simp only [J3,J2,List.length_nil]
   omega
theorem RowsC.snoc{H:au}{ok:Nat→Prop}{y:rU}{s1 s2:SV}{r:Nat}(hr:ok r)(hk:BlkS H s1 r y.2.1)(hw:BlkS H s2 r y.2.2.1): ∀ {l:List rU} {ws:List SV},RowsC H ok ws l→RowsC H ok (ws ++ rR y.1.1 y.1.2 s1 s2 y.2.2.2.1 y.2.2.2.2) (l ++ [y])
 | [],ws,h=>by
   rw [show ws= [] from h]
   exact⟨s1,s2,[],r,by simp,hr,hk,hw,rfl⟩
 | x :: l,ws,h=>by
   obtain⟨t1,t2,rest,r',rfl,h2,h3,h4,h5⟩:=h
   exact⟨t1,t2,rest ++ _,r',by rw [Kl],h2,h3,h4,RowsC.snoc hr hk hw h5⟩
def RowsAt(H:au)(ok:Nat→Prop)(r:Nat)(s:SV)(l:List rU):Prop:=
 (l= []∧s=dK)∨ ∃ (ws:List SV) (L:List Nat),0<l.length∧s = .slu r 0 l.length∧H.at' r=some (nJ false l.length 6 67 ws)∧(∀ m∈L,ok m∧m≠r)∧ok r∧RowsC H (·∈L) ws l
theorem RowsAt.grow{H':au}{ok':Nat→Prop}{l:List rU}(h:RowsAt H ok r s l)(hf: ∀ m,ok m→ok' m∧H'.at' m=H.at' m):RowsAt H' ok' r s l:=by
 rcases h with h|⟨ws,L,h0,h1,h2,h3,h4,h6⟩
 ·exact .inl h
 ·exact .inr ⟨ws,L,h0,h1,(hf r h4).2.trans h2,fun m hm=>⟨(hf m (h3 m hm).1).1,(h3 m hm).2⟩,(hf r h4).1,h6.frame fun r hr=>⟨hr,(hf r (h3 r hr).1).2⟩⟩
theorem RowsAt.len{l:List rU}(h:RowsAt H ok r s l):s.one=true:=by
 rcases h with ⟨_,rfl⟩|⟨_,_,_,rfl,_⟩ <;> rfl
def dw(n:Nat)(p:List UInt8):Nat→List rU
 | 0=> []
 | j+1=>dw n p j ++ if ar p j=0 then [] else [((n,j),(ofV (aS p j)).getD iY)]
theorem gF(n:Nat)(p:List UInt8): ∀ j,(dw n p j).length≤j
 | 0=>JZ _
 | j+1=>by
   have:=gF n p j
   unfold dw
   rw [J3]
   split
   ·simp;omega
   ·simp;omega
abbrev lY(n:Nat)(p:List UInt8):List rU:=dw n p (ae p)
abbrev rsO(s:SV):VO:=aq 48 [s]
theorem BlkS.there(h:BlkS H s r l)(hl:l≠ []): ∃ vo,H.at' r=some vo:=by
 rcases h with ⟨_,h⟩|⟨_,_,_,vo,h,_⟩
 ·exact absurd h hl
 ·exact⟨vo,h⟩
theorem uG(h:ofV l=some v):gV v=true:=by
 unfold ofV Ds at h
 split at h
 ·cases h
 ·split at h
  ·rename_i h2
   rw [← Option.some.inj h]
   exact h2.2
  ·cases h
theorem Jy{B c r0:Nat}{l:List rU}(hc:H.at' c=some (rsO s))(hR:RowsAt H (fun m=>B≤m∧m<nx) r0 s l)(hcB:c<B)(hBn:B≤nx)(hp:p.length=1024)(hr:bj p=true)(hof: ∀ j,j<ae p→ar p j≠0→(ofV (aS p j)).isSome=true)(hl:l.length≤100000):Fnc Tryz.prog 38 [.sc (.int .i64 (n:Int)),.agg (pgS p),.ptr c 0] H nx
 (fun q=>q.1 = .tup [.sc (.bool false),.sc (.int .i64 0)]∧nx≤q.2.2∧(∃ s' r',q.2.1.at' c=some (rsO s')∧RowsAt q.2.1 (fun m=>B≤m∧m<q.2.2) r' s' (l ++ lY n p))∧ ∀ m,m<B→m≠c→q.2.1.at' m=H.at' m):=by
 have hfit:=(aZ hp).1 hr
 have hh:=hfit.head
 have ht:=hfit.top
 refine KE Tryz.func38 rfl rfl ?_
 refine aV fun hund=>?_
 have lc:=hund _ _ hc
 repeat first|apply bB hp;rfl;(focus((repeat(first|exact ac|refine ab (by omega) ?_));done))|apply ah;rfl|apply bW;rfl;kernel_rfl;exact uS hp
 rw [hr]
 obtain⟨q0,hq0⟩: ∃ q0,q0=nx+1+1+1+1:=⟨_,rfl⟩
 rw [← hq0]
 refine cQ (R:=fun H4 n4=>n4=q0+1+1∧H4.at' q0=some (pgO p)∧H4.at' (q0+1)=some (aq 4 [.sc (.bool true)])∧H4.at' nx=some (aq 3 [.sc (.int .i64 (n:Int))])∧H4.at' (nx+1+1)=some (aq 4 [.sc (.bool false)])∧H4.at' (nx+1+1+1)=some (fB 0)∧ ∀ m,m<nx→H4.at' m=H.at' m)
  ⟨rfl,by repeat(first|exact ac|refine ab (by omega) ?_),by repeat(exact ac),by repeat(first|exact ac|refine ab (by omega) ?_),by repeat(first|exact ac|refine ab (by omega) ?_),by repeat(first|exact ac|refine ab (by omega) ?_),fun m hm=>by(repeat(refine ab (by omega) ?_));rfl⟩ ?_
 rintro H4 n4 ⟨rfl,m0,m1,m2,m4,m5,mo⟩
 refine iZ [(2,.ptr c 0),(3,.ptr nx 0),(5,.ptr (nx+1+1) 0),(6,.ptr (nx+1+1+1) 0)] rfl rfl (by kernel_rfl) (KK (KN rfl)) ?_
 intro cA cB hcA hcB2
 refine KD (uR (l:=q0+1+1+1) (f:=q0+1) (q:=q0) hp hr (f2:=38) (nt2:=31) (T2:=slT [(2,.ptr c 0),(3,.ptr nx 0),(5,.ptr (nx+1+1) 0),(6,.ptr (nx+1+1+1) 0)]) (ps:= #[13,14]) (ca:=cA) (cb:=cB) (dr:=q0+1+1) rfl
  (fun j H5 n5=>H5.at' (q0+1+1+1)=some (.loop .ready none 38 31 (slT [(2,.ptr c 0),(3,.ptr nx 0),(5,.ptr (nx+1+1) 0),(6,.ptr (nx+1+1+1) 0)]) #[13,14] cA cB (q0+1+1))∧H5.at' (q0+1)=some (aq 4 [.sc (.bool true)])∧H5.at' q0=some (pgO p)∧q0+1+1+1+1≤n5∧H5.at' nx=some (aq 3 [.sc (.int .i64 (n:Int))])∧H5.at' (nx+1+1)=some (aq 4 [.sc (.bool false)])∧H5.at' (nx+1+1+1)=some (fB 0)∧H5.at' (q0+1+1)=some (.dfd (some []))∧(∃ s' r',H5.at' c=some (rsO s')∧RowsAt H5 (fun m=>B≤m∧m<n5∧(m<nx∨q0+1+1+1+1<m)) r' s' (l ++ dw n p j))∧ ∀ m,m<B→m≠c→H5.at' m=H.at' m)
  (fun _ _=>False)
  ?_ ?_ ?_ ?_ ?_) ?_
 ·rintro j H5 n5 ⟨i1,i2,i3,i4,_⟩
  exact⟨i1,i2,i3,by omega,by omega,by omega⟩
 ·rintro j H5 n5 H6 n6 ⟨i1,i2,i3,i4,i5,i6,i7,i8,⟨s',r',i9,i10⟩,i12⟩ hle hs
  exact⟨(hs _ (by omega)).trans i1,(hs _ (by omega)).trans i2,(hs _ (by omega)).trans i3,by omega,(hs _ (by omega)).trans i5,(hs _ (by omega)).trans i6,(hs _ (by omega)).trans i7,(hs _ (by omega)).trans i8,⟨s',r',(hs _ (by omega)).trans i9,i10.grow fun m hm=>⟨⟨hm.1,by omega,hm.2.2⟩,hs m hm.2.1⟩⟩,fun m hm hmc=>(hs _ (by omega)).trans (i12 m hm hmc)⟩
 ·rintro j H5 n5 ⟨i1,i2,i3,i4,i5,i6,i7,i8,i9,i12⟩ hz
  have e1:dw n p (j+1)=dw n p j:=by show _ ++ (if _ then _ else _)=_;rw [Kb hz,Ko]
  exact⟨i1,i2,i3,i4,i5,i6,i7,i8,by rw [e1];exact i9,i12⟩
 ·rintro j H5 n5 r ⟨i1,i2,i3,i4,i5,i6,i7,i8,⟨s',r',i9,i10⟩,i12⟩ hr1 hr2 hj hs hrow
  have hrow2:(H5.set (q0+1+1+1) (.loop .busy none 38 31 (slT [(2,.ptr c 0),(3,.ptr nx 0),(5,.ptr (nx+1+1) 0),(6,.ptr (nx+1+1+1) 0)]) #[13,14] cA cB (q0+1+1))).at' r=some (u8R false (byV (aS p j))):=(aa _ _ (by omega)).trans hrow
  have hil:(aS p j).length≤1024:=by unfold aS;rw [Ke,Kh];omega
  refine nu hcA ?_
  repeat apply ah;rfl
  refine qr (by assumption) ?_
  refine nu hcB2 ?_
  repeat apply ah;rfl
  refine aE rfl rfl rfl (by kernel_rfl) (KD (of_s (ju hrow2) (by omega)) ?_)
  rintro⟨_,H6,n6⟩ ⟨sv,rv,rfl,g1,g2,g3,g4⟩
  refine aV fun hund6'=>?_
  have hund6: ∀ b vo,H6.at' b=some vo→n6≤b→False:=fun b vo h h2=>absurd (hund6' b vo h) (Nat.not_lt.2 h2)
  clear hund6'
  obtain⟨v,hv⟩: ∃ v,ofV (aS p j)=some v:=by cases h:ofV (aS p j)with|some v=>exact⟨v,rfl⟩|none=>have:=hof j hj hs;rw [h] at this;cases this
  rw [hv] at g1 ⊢
  obtain⟨k0,w0,rfl,gk,gw⟩:=g1
  dsimp only [Option.getD] at gk gw g2 g3 g4 ⊢
  have hone: ∀ x y:Nat,bm (dB k0 w0 x y)=true:=fun x y=>by simp only [bm,cN gk.bs,cN gw.bs];rfl
  have hone6:bm (rR n j k0 w0 v.2.2.1 v.2.2.2)=true:=by simp only [bm,cN gk.bs,cN gw.bs];rfl
  have ko: ∀ m,m<n5→m≠q0+1+1+1→H6.at' m=H5.at' m:=fun m h1 h2=>(g4 m h1).trans (aa _ _ h2)
  have kl:H6.at' (q0+1+1+1)=some (.loop .busy none 38 31 (slT [(2,.ptr c 0),(3,.ptr nx 0),(5,.ptr (nx+1+1) 0),(6,.ptr (nx+1+1+1) 0)]) #[13,14] cA cB (q0+1+1)):=(g4 _ (by omega)).trans (ai _ _ _)
  have k5:=(ko nx (by omega) (by omega)).trans i5
  have k6:=(ko (nx+1+1) (by omega) (by omega)).trans i6
  have k7:=(ko (nx+1+1+1) (by omega) (by omega)).trans i7
  have k9:=(ko c (by omega) (by omega)).trans i9
  have hvk:v.1≠ []:=fun h=>by
   have h1:gV v=true:=uG hv
   have:=Km h1
   rw [h] at this
   exact absurd this.1.1 (by decide)
  have hrv:rv<n6:=by
   obtain⟨vo,h⟩:=gk.there hvk
   exact Nat.lt_of_not_le fun h2=>hund6 _ _ h h2
  have i10':RowsAt H6 (fun m=>B≤m∧m<n5∧(m<nx∨q0+1+1+1+1<m)) r' s' (l ++ dw n p j):=i10.grow fun m hm=>⟨hm,ko m hm.2.1 (by omega)⟩
  have k2:=(ko (q0+1) (by omega) (by omega)).trans i2
  have k3:=(ko q0 (by omega) (by omega)).trans i3
  have k8:=(ko (q0+1+1) (by omega) (by omega)).trans i8
  have k12: ∀ m,m<B→m≠c→H6.at' m=H.at' m:=fun m h1 h2=>(ko m (by omega) (by omega)).trans (i12 m h1 h2)
  have kf:=ko (q0+1+1+1+1) (by omega) (by omega)
  have hrl:(l ++ dw n p j).length≤200000:=by have:=gF n p j;rw [J3];omega
  have e1:l ++ dw n p (j+1)=(l ++ dw n p j) ++ [((n,j),v)]:=by
   show l ++ (_ ++ if _ then _ else _)=_
   rw [Ka hs,hv,Kl]
   rfl
  rw [e1]
  generalize l ++ dw n p j=lj at i10' hrl
  clear i10 g4 i1 i2 i3 i5 i6 i7 i8 i9
  rcases i10' with ⟨rfl,rfl⟩|⟨ws,L,h0,rfl,h2,h3,h4,h6⟩
  ·repeat first|apply ah;rfl|apply aG;rfl;(focus((repeat(first|assumption|exact ac|refine ab (by omega) ?_));done));rfl|refine cU rfl rfl rfl (F.sz _ rfl) (by repeat(first|assumption|exact ac)) rfl (by exact JL rfl) (hone _ _) rfl ?_|apply dA;rfl;rfl|refine bF (cs:=rR n j k0 w0 v.2.2.1 v.2.2.2) rfl rfl (F.un _ rfl) (F.sz _ rfl) rfl (F.ze _ rfl) rfl rfl hone6 rfl rfl ?_
   refine vz (b:=80) (n:=1) (cs:=rR n j k0 w0 v.2.2.1 v.2.2.2) rfl rfl rfl rfl (F.un _ rfl) (.inl ⟨_,F.un _ rfl⟩) (F.sz _ rfl) rfl (by kernel_rfl) (by kernel_rfl) (SlOf.row (by repeat(exact ac)) rfl) hone6 (by decide) (by decide) ?_
   rintro _ _ _ (⟨h,_⟩|⟨_,rfl,rfl,rfl⟩)
   ·exact absurd h (by decide)
   repeat first|apply ah;rfl|apply aG;rfl;(focus((repeat(first|assumption|refine ab (by omega) ?_));done));rfl
   refine iE (by(repeat(refine ab (by omega) ?_));exact kl) (.inl ⟨rfl,⟨ai _ _ _,by(repeat(refine ab (by omega) ?_));exact k2,by(repeat(refine ab (by omega) ?_));exact k3,by dsimp only;omega,by(repeat(refine ab (by omega) ?_));exact k5,by(repeat(refine ab (by omega) ?_));exact k6,by(repeat(refine ab (by omega) ?_));exact k7,by(repeat(refine ab (by omega) ?_));exact k8,⟨_,n6+1+1,by repeat(first|exact ac|refine ab (by omega) ?_),.inr ?_⟩,fun m hm hmc=>by(repeat(refine ab (by omega) ?_));exact k12 m hm hmc⟩,by dsimp only;omega,by(repeat(refine ab (by omega) ?_));exact kf⟩)
   refine⟨rR n j k0 w0 v.2.2.1 v.2.2.2,[rv],by simp,rfl,by repeat(first|exact ac|refine ab (by omega) ?_),fun m hm=>?_,⟨by omega,by dsimp only;omega,by omega⟩,k0,w0,[],rv,rfl,Kg.2 rfl,gk.frame (by(repeat(refine ab (by omega) ?_));rfl),gw.frame (by(repeat(refine ab (by omega) ?_));rfl),rfl⟩
   obtain rfl:=Kg.1 hm
   exact⟨⟨by omega,by dsimp only;omega,by omega⟩,by omega⟩
  ·repeat first|apply ah;rfl|apply aG;rfl;(focus((repeat(first|assumption|exact ac|refine ab (by omega) ?_));done));rfl|refine cU rfl rfl rfl (F.sz _ rfl) (by repeat(first|assumption|exact ac)) rfl (by exact JL rfl) (hone _ _) rfl ?_|apply dA;rfl;rfl|refine bF (cs:=rR n j k0 w0 v.2.2.1 v.2.2.2) rfl rfl (F.un _ rfl) (F.sz _ rfl) rfl (F.ze _ rfl) rfl rfl hone6 rfl rfl ?_
   refine C7 (b:=80) (m:=1) (r:=r') (ws:=ws) (cs:=rR n j k0 w0 v.2.2.1 v.2.2.2) rfl rfl rfl rfl (F.un _ rfl) (.inl ⟨_,F.un _ rfl⟩) (F.sz _ rfl) rfl (by kernel_rfl) (by kernel_rfl) (by(repeat(refine ab (by omega) ?_));exact h2) h6.len (SlOf.cells (SlOf.row (by repeat(exact ac)) rfl)) hone6 (by decide) (by omega) (by omega) ?_
   repeat first|apply ah;rfl|apply aG;rfl;(focus((repeat(first|assumption|refine ab (by omega) ?_|refine cc (by omega) ?_));done));rfl
   refine iE (by(repeat(first|refine ab (by omega) ?_|refine cc (by omega) ?_));exact kl) (.inl ⟨rfl,⟨ai _ _ _,by(repeat(first|refine ab (by omega) ?_|refine cc (by omega) ?_));exact k2,by(repeat(first|refine ab (by omega) ?_|refine cc (by omega) ?_));exact k3,by dsimp only;omega,by(repeat(first|refine ab (by omega) ?_|refine cc (by omega) ?_));exact k5,by(repeat(first|refine ab (by omega) ?_|refine cc (by omega) ?_));exact k6,by(repeat(first|refine ab (by omega) ?_|refine cc (by omega) ?_));exact k7,by(repeat(first|refine ab (by omega) ?_|refine cc (by omega) ?_));exact k8,⟨_,n6+1+1,by repeat(first|exact ac|refine ab (by omega) ?_),.inr ?_⟩,fun m hm hmc=>by(repeat(first|refine ab (by omega) ?_|refine cc (by omega) ?_));exact k12 m hm hmc⟩,by dsimp only;omega,by(repeat(first|refine ab (by omega) ?_|refine cc (by omega) ?_));exact kf⟩)
   have hlen1:(lj ++ [((n,j),v)]).length=lj.length+1:=by simp
   refine⟨ws ++ rR n j k0 w0 v.2.2.1 v.2.2.2,rv :: L,by omega,by rw [hlen1],by rw [hlen1];(focus((repeat(first|exact ac|refine ab (by omega) ?_));done)),fun m hm=>?_,⟨by omega,by dsimp only;omega,by omega⟩,?_⟩
   ·rcases Kp.1 hm with rfl|hm
    ·exact⟨⟨by omega,by dsimp only;omega,by omega⟩,by omega⟩
    ·have:=h3 m hm
     exact⟨⟨by omega,by dsimp only;omega,by omega⟩,by omega⟩
   ·refine RowsC.snoc (y:=((n,j),v)) (s1:=k0) (s2:=w0) (r:=rv) Ki (gk.frame (by(repeat(first|refine ab (by omega) ?_|refine cc (by omega) ?_));rfl)) (gw.frame (by(repeat(first|refine ab (by omega) ?_|refine cc (by omega) ?_));rfl)) (h6.frame fun m hm=>⟨Kj _ hm,?_⟩)
    have:=h3 m hm
    (focus((repeat(first|refine ab (by omega) ?_|refine cc (by omega) ?_));rfl))
 ·refine⟨ai _ _ _,by repeat(first|assumption|refine ab (by omega) ?_),by repeat(first|assumption|refine ab (by omega) ?_),JZ _,by repeat(first|assumption|refine ab (by omega) ?_),by repeat(first|assumption|refine ab (by omega) ?_),by repeat(first|assumption|refine ab (by omega) ?_),by repeat(first|exact ac|refine ab (by omega) ?_),⟨s,r0,by(repeat(refine ab (by omega) ?_));exact(mo c lc).trans hc,?_⟩,fun m hm _=>by(repeat(refine ab (by omega) ?_));exact mo m (by omega)⟩
  rw [show dw n p 0= [] from rfl,Ko]
  exact hR.grow fun m hm=>⟨⟨hm.1,by omega,.inl hm.2⟩,by(repeat(refine ab (by omega) ?_));exact mo m hm.2⟩
 ·rintro⟨v,H5,n5⟩ (⟨i1,i2,i3,i4,i5,i6,i7,i8,i9,i12⟩|hf)
  ·dsimp only at i1 i2 i3 i4 i5 i6 i7 i8 i9 i12 ⊢
   refine iF i1 (fun h=>by cases h) ?_
   dsimp only [kE]
   repeat first|apply ah;rfl|apply aG;rfl;(focus((repeat(first|assumption|refine ab (by omega) ?_));done));rfl
   refine rW Tryz.func38 (congrArg Array.toList Tryz.results38) (rs:= [q0+1+1]) rfl (fun r hr=>by rw [Kg.1 hr];(focus((repeat(first|assumption|refine ab (by omega) ?_));done))) (by simp) ?_
   intro H7 hH7
   have hno: ∀ m,m≠q0+1+1→m∉ [q0+1+1]:=fun m hm h=>hm (Kg.1 h)
   have k4:H7.at' (nx+1+1)=some (aq 4 [.sc (.bool false)]):=(hH7 _ (hno _ (by omega))).trans (by repeat(first|exact ac|refine ab (by omega) ?_))
   have k5:H7.at' (nx+1+1+1)=some (fB 0):=(hH7 _ (hno _ (by omega))).trans (by repeat(exact ac))
   refine⟨_,(by(repeat(first|exact KF|apply KG rfl (KJ (F.ag _ rfl) (by assumption) (aD rfl))))),?_⟩
   obtain⟨s',r',i9,i10⟩:=i9
   exact⟨rfl,by dsimp only;omega,⟨s',r',(hH7 _ (hno _ (by omega))).trans (by(repeat(refine ab (by omega) ?_));exact i9),i10.grow fun m hm=>⟨⟨hm.1,hm.2.1⟩,(hH7 _ (hno _ (by omega))).trans (by(repeat(refine ab (by omega) ?_));rfl)⟩⟩,fun m hm hmc=>(hH7 _ (hno _ (by omega))).trans (by(repeat(refine ab (by omega) ?_));exact i12 m hm hmc)⟩
  ·exact hf.elim
def gT(pf:Nat→List UInt8):Nat→Nat→Option (List rU)
 | 0,_=>some []
 | k+1,n=>if(aM (pf n)).2≠0 then none else(gT pf k (n+1)).map (lY n (aM (pf n)).1 ++ ·)
def pS(pf:Nat→List UInt8):Option (List rU):=gT pf 96 32
theorem DD:Fnc Tryz.prog 37 [.ptr a 0,.ptr b 0] H nx (fun q=>q=(.tup [],H,nx)):=by
 refine KE Tryz.func37 rfl rfl ?_
 repeat first|apply ah;rfl|apply jG;rfl;rfl|refine cf (jO rfl Tryz.underlying20) rfl rfl rfl ?_
 (apply C6 Tryz.func37 Tryz.results37;rfl)
 rfl
theorem Jw(hb:H.at' b=some (cT mem left puts))(hm:mem.length=131072):Fnc Tryz.prog 13 [ud b] H nx
 (fun q=>nx≤q.2.2∧(∀ m,m<nx→q.2.1.at' m=H.at' m)∧((pS (az mem)=none∧q.1 = .tup [dK,.sc (.int .i64 13)])∨ ∃ l s r,pS (az mem)=some l∧q.1 = .tup [s,.sc (.int .i64 0)]∧RowsAt q.2.1 (fun m=>nx≤m∧m<q.2.2) r s l)):=by
 refine KE Tryz.func13 rfl rfl ?_
 refine aV fun hund=>?_
 have lb:=hund _ _ hb
 repeat first|apply ah;rfl|apply lF;rfl;rfl;rfl;(focus(kernel_rfl))|refine cf (fm rfl rfl Tryz.underlying75 rfl) rfl rfl rfl ?_
 refine aE rfl rfl rfl (by kernel_rfl) (KD (Dy (b:=b) (left:=left) (puts:=puts) hm (g:=38) (caps:= [.ptr nx 0]) (by kernel_rfl)
  (fun n H1 n1=>H1.at' b=some (cT mem left puts)∧H1.at' (nx+1)=some (fB 0)∧nx+1+1≤n1∧(32≤n∧n≤128)∧(∀ m,m<nx→H1.at' m=H.at' m)∧ ∃ l s r,H1.at' nx=some (rsO s)∧RowsAt H1 (fun m=>nx+1+1≤m∧m<n1) r s l∧pS (az mem)=(gT (az mem) (128-n) n).map (l ++ ·)∧l.length≤256*(n-32))
  (fun e H1 n1=>e=13∧pS (az mem)=none∧H1.at' (nx+1)=some (fB 0)∧nx+1+1≤n1∧(∀ m,m<nx→H1.at' m=H.at' m)∧ ∃ s,H1.at' nx=some (rsO s))
  (fun n H1 n1 h=>h.1) ?_ ?_ ?_ ?_) ?_)
 ·rintro n H3 n3 H4 n4 ⟨i1,i2,i3,i4,i5,l,s,r,i6,i7,i8,i9⟩ hle hs
  exact⟨(hs _ (by omega)).trans i1,(hs _ (by omega)).trans i2,by omega,i4,fun m hm=>(hs _ (by omega)).trans (i5 m hm),l,s,r,(hs _ (by omega)).trans i6,i7.grow fun m hm=>⟨⟨hm.1,by omega⟩,hs m hm.2⟩,i8,i9⟩
 ·rintro n p H3 n3 h32 h128 ⟨i1,i2,i3,i4,i5,l,s,r,i6,i7,i8,i9⟩ hrd
  obtain⟨hpp,hr,hof⟩:=cj hrd (cG hm h128)
  have hok:=(aZ hpp).1 hr
  have hh:=hok.head
  have ht:=hok.top
  refine KD (Jy (B:=nx+1+1) (c:=nx) (n:=n) i6 i7 (by omega) i3 hpp hr hof (by omega)) ?_
  rintro⟨_,H4,n4⟩ ⟨rfl,g2,⟨s',r',g3,g4⟩,g5⟩
  dsimp only at g2 g3 g4 g5 ⊢
  have hgo:gT (az mem) (128-n) n=(gT (az mem) (128-(n+1)) (n+1)).map (lY n p ++ ·):=by
   rw [show 128-n=(128-(n+1))+1 by omega]
   show(if _ then _ else _)=_
   rw [hrd,Ka (fun h=>h rfl)]
  refine .inl ⟨rfl,(g5 _ (by omega) (by omega)).trans i1,(g5 _ (by omega) (by omega)).trans i2,by omega,by omega,fun m hm=>(g5 _ (by omega) (by omega)).trans (i5 m hm),l ++ lY n p,s',r',g3,g4,?_,?_⟩
  ·rw [i8,hgo,Option.map_map]
   congr 1
   funext x
   simp
  ·have:(lY n p).length≤ae p:=gF n p (ae p)
   rw [J3]
   omega
 ·rintro n H3 n3 h32 h128 ⟨i1,i2,i3,i4,i5,l,s,r,i6,i7,i8,i9⟩ hrd
  have hgo:gT (az mem) (128-n) n=none:=by
   rw [show 128-n=(128-(n+1))+1 by omega]
   show(if _ then _ else _)=_
   rw [hrd,Kb (by decide)]
  exact⟨rfl,by rw [i8,hgo];rfl,i2,i3,i5,s,i6⟩
 ·refine⟨by(repeat(refine ab (by omega) ?_));exact hb,by repeat(exact ac),JZ _,by omega,fun m hm=>by(repeat(refine ab (by omega) ?_));rfl,[],dK,0,by repeat(first|exact ac|refine ab (by omega) ?_),.inl ⟨rfl,rfl⟩,?_,by decide⟩
  show pS (az mem)=(pS (az mem)).map ([] ++ ·)
  cases pS (az mem) <;> rfl
 ·rintro⟨_,H4,n4⟩ (⟨rfl,c1,c2,c3,_,c5,l,s,r,c6,c7,c8,_⟩|⟨e,rfl,rfl,c1,c2,c3,c5,s,c6⟩)
  ·dsimp only at c1 c2 c3 c5 c6 c7 c8 ⊢
   have hone:=c7.len
   have c8:pS (az mem)=some l:=by rw [c8];show(some []).map _=_;simp
   repeat first|apply ah;rfl|apply aG;rfl;(focus((repeat(first|assumption|exact ac|refine ab (by omega) ?_));done));rfl|refine dU rfl rfl rfl (F.sz _ rfl) (by repeat(first|assumption|refine ab (by omega) ?_)) hone rfl ?_|apply dA;rfl;rfl
   refine eJ Tryz.func13 (congrArg Array.toList Tryz.results13) (by kernel_rfl) (KD DD ?_)
   rintro _ rfl
   refine⟨_,(by(repeat(first|exact KF|apply KG rfl (KJ (F.ag _ rfl) (by repeat(first|exact ac|refine ab (by omega) ?_)) (aD rfl))))),?_⟩
   dsimp only
   exact⟨by omega,fun m hm=>by(repeat(refine ab (by omega) ?_));exact c5 m hm,.inr ⟨l,s,r,c8,rfl,c7.grow fun m hm=>⟨⟨by omega,hm.2⟩,by(repeat(refine ab (by omega) ?_));rfl⟩⟩⟩
  ·dsimp only at c1 c2 c3 c5 c6 ⊢
   repeat first|apply ah;rfl|apply aG;rfl;(focus((repeat(first|assumption|exact ac));done));rfl|apply iA;rfl;decide
   refine cQ (R:=fun H8 n8=>H8.at' nx=some (rsO s)∧H8.at' (nx+1)=some (fB 13)∧nx≤n8∧ ∀ m,m<nx→H8.at' m=H.at' m) ⟨by repeat(first|assumption|refine ab (by omega) ?_),by repeat(exact ac),by omega,fun m hm=>by(repeat(refine ab (by omega) ?_));exact c5 m hm⟩ ?_
   rintro H8 n8 ⟨e1,e2,e3,e4⟩
   (apply bk;(focus(kernel_rfl));(focus(kernel_rfl)))
   repeat first|apply dN;rfl;assumption;rfl|refine dM rfl rfl rfl (F.sz _ rfl) (by repeat(first|assumption|refine ab (by omega) ?_)) (by rfl) (by rfl) ?_
   refine aA ⟨by kernel_rfl,?_,?_⟩;(focus(repeat(first|exact KO|apply jE;rfl|refine fO 0 rfl (by kernel_rfl) (by(repeat(refine⟨(by(exact an (F.ag _ rfl) rfl (by repeat(first|assumption|exact ac|refine ab (by omega) ?_)) (aD rfl))),?_⟩));exact KO) ?_)))
   refine eJ Tryz.func13 (congrArg Array.toList Tryz.results13) (by kernel_rfl) (KD DD ?_)
   rintro _ rfl
   refine⟨_,(by(repeat(first|exact KF|apply KG rfl (KJ (F.ag _ rfl) (by repeat(first|exact ac|refine ab (by omega) ?_)) (aD rfl))))),?_⟩
   dsimp only
   exact⟨by omega,fun m hm=>by(repeat(refine ab (by omega) ?_));exact e4 m hm,.inl ⟨c1,rfl⟩⟩
theorem oR(hv:VerIs H s v):Fnc Tryz.prog 18 [s] H nx (fun q=>q=(.sc (.bool (gV v)),H,nx)):=by
 refine Fnc.bA (Free.sc _) ?_
 obtain⟨k,w,rfl,hk,hw⟩:=hv
 refine KE Tryz.func18 rfl rfl ?_
 refine aV fun hund=>?_
 have hf: ∀ {vo:VO} (b:Nat) (vo':VO),H.at' b=some vo'→(H.set nx vo).at' b=some vo':=fun b vo' hb=>(aa _ _ (by have:=hund b vo' hb;omega)).trans hb
 have hk2: ∀ {vo:VO},BsIs (H.set nx vo) k (byV v.1):=fun {vo}=>hk.frame hf
 have hw2: ∀ {vo:VO},BsIs (H.set nx vo) w (byV v.2.1):=fun {vo}=>hw.frame hf
 have hm:gV v=decide ((1≤v.1.length∧v.1.length≤32)∧v.2.1.length≤128∧(1≤v.2.2.1∧v.2.2.1≤4000)∧v.2.2.2≤4000):=rfl
 have hl1:=bL v.1
 have hl2:=bL v.2.1
 (repeat' (first|apply ah;rfl|apply aG;rfl;(focus((repeat(exact ac));done));rfl|refine dh rfl rfl (F.un _ rfl) rfl hk2 ?_;rw [bL]|refine dh rfl rfl (F.un _ rfl) rfl hw2 ?_;rw [bL]|(refine dI rfl rfl rfl rfl ?_ ?_ <;> intro hq)|(refine pU rfl rfl rfl rfl ?_ ?_ <;> intro hq2)))
 all_goals(apply bR Tryz.func18 Tryz.results18;rfl)
 all_goals(refine⟨?_,J8 _,fun m hm=>aa _ _ (by omega)⟩)
 all_goals(rw [hm];first|(rw [Kt (by omega)];rfl)|(rw [Ku (by omega)];rfl))
theorem AP(l:List UInt8):l.flatMap (fun c=> [Value.int .u8 (c.toNat:Int)])=byV l:=by
 induction l with
 | nil=>rfl
 | cons c l ih=>rw [List.flatMap_cons,ih];rfl
theorem recB:RecOf (fun c:UInt8=> [Value.int .u8 (c.toNat:Int)]) 1:=zu (fun _=>rfl)
theorem HS{size:Nat}(h1:1≤size)(h2:size≤8)(hn:n≤18446744073709551615):Fnc Tryz.prog 91 [.sc (.int .u64 (n:Int)),.sc (.int .i64 (size:Int))] H nx
 (fun q=> ∃ r',q.1 = .slu r' 0 size∧q.2.1.at' r'=some (dat false size 1 5 (byV (beB n size)))∧nx≤r'∧r'<q.2.2∧nx≤q.2.2∧ ∀ m,m<nx→q.2.1.at' m=H.at' m):=by
 refine KE Tryz.func91 rfl rfl ?_
 repeat first|apply ah;rfl|apply aL;rfl;omega;omega
 refine kD (d:=5) 1 5 rfl rfl ?_
 refine bE (α:=Nat×Nat) (fun x=> [(0,.sc (.int .u64 (n:Int))),(5,.slu x.2 0 ((beB n size).take x.1).length),(6,.sc (.int .i64 ((size:Int)-1-(x.1:Int))))]) (fun x H1 n1=>x.1≤size∧nx≤x.2∧x.2<n1∧H1.at' x.2=some (dat false ((beB n size).take x.1).length 1 5 (((beB n size).take x.1).flatMap fun c=> [Value.int .u8 (c.toNat:Int)]))∧ ∀ m,m<nx→H1.at' m=H.at' m) (fun x=>size-x.1) (0,nx)
  ⟨J0 _,JZ _,Nat.lt_succ_self _,ai _ _ _,fun m hm=>aa _ _ (by omega)⟩ (KK (by repeat(first|exact KO|refine⟨rfl,?_⟩|refine⟨fU (by(omega)),?_⟩))) ?_
 rintro⟨j,r⟩ H1 n1 ⟨a1,a2,a3,a4,a5⟩ ih
 dsimp only at a1 a2 a3 a4 a5 ih ⊢
 repeat apply ah;rfl
 refine eK rfl rfl rfl rfl (fun h=>?_) (fun h=>?_)
 ·have hj:j<size:=by omega
  have hl:((beB n size).take j).length=j:=by rw [Ke,bz];omega
  have htk:=qM (n:=n) hj
  have hmul:IntKind.u64.wrap (8*((size-1-j:Nat):Int))=((8*(size-1-j):Nat):Int):=(Kz _ ⟨by omega,by omega⟩).trans (by omega)
  repeat first|apply ah;rfl|refine cf (bZ (F.un _ rfl) (F.un _ rfl) rfl (show _=((size-1-j:Nat):Int)from(Kz _ ⟨by omega,by omega⟩).trans (by omega))) rfl rfl rfl ?_
  (refine cf (aw rfl rfl (.inr (.inr ⟨rfl,rfl⟩))) rfl rfl rfl ?_)
  rw [hmul]
  repeat first|apply ah;rfl|apply aL;rfl;omega;omega|refine cf (oG rfl rfl (by focus(omega)) (shrB (k:=size-1-j) (by omega) (by omega))) rfl rfl rfl ?_|refine cf (bZ (F.un _ rfl) (F.un _ rfl) rfl (xv _)) rfl rfl rfl ?_|apply bF;rfl;rfl;exact(F.un _ rfl);exact(F.sz _ rfl);rfl;exact(F.ze _ rfl);rfl;rfl;rfl;rfl;rfl|refine lS (b:=1) (xs:=(beB n size).take j) (a:=UInt8.ofNat (n / 256 ^ (size-1-j))) rfl rfl rfl rfl (F.un _ rfl) (.inl ⟨_,F.un _ rfl⟩) (F.sz _ rfl) rfl (by kernel_rfl) (by kernel_rfl) (by repeat(first|assumption|refine ab (by omega) ?_)) (by repeat(exact ac)) (by rfl) (recB) (by omega) (by omega) ?_
  refine ih _ _ _ (j+1,n1+1) ⟨hj,by dsimp only;omega,by dsimp only;omega,?_,fun m hm=>?_⟩ (by dsimp only;omega) ?_
  ·dsimp only
   rw [htk]
   exact ai _ _ _
  ·refine(aa _ _ (by omega)).trans ((mE _ (by omega)).trans ((aa _ _ (by omega)).trans (a5 m hm)))
  ·dsimp only
   rw [htk,show(size:Int)-1-((j+1:Nat):Int)=(size:Int)-1-(j:Int)-1 by omega]
   exact KK (by repeat(first|exact KO|refine⟨rfl,?_⟩))
 ·obtain rfl:j=size:=by omega
  rw [JR (by rw [bz];exact JZ _)] at a4 ⊢
  repeat apply ah;rfl
  (apply bR Tryz.func91 Tryz.results91;rfl)
  rw [AP] at a4
  rw [bz] at a4 ⊢
  exact⟨r,rfl,a4,a2,a3,by dsimp only;omega,a5⟩
theorem nD{bs:List UInt8}(hb:BsIs H s (byV bs))(h2:bs.length≤8):Fnc Tryz.prog 78 [s] H nx (fun q=>q=(.sc (.int .u64 (beN bs:Int)),H,nx)):=by
 have hlen:(byV bs).length=bs.length:=by simp
 refine KE Tryz.func78 rfl rfl ?_
 repeat apply ah;rfl
 refine bE (α:=Nat) (fun j=> [(0,s),(3,.sc (.int .u64 (beN (bs.take j):Int))),(4,.sc (.int .i64 (j:Int)))]) (fun j H1 n1=>H1=H∧n1=nx∧j≤bs.length) (fun j=>bs.length-j) 0
  ⟨rfl,rfl,J0 _⟩ (KK (KN rfl)) ?_
 rintro j H1 n1 ⟨rfl,rfl,h3⟩ ih
 repeat first|apply cE;rfl|refine dh rfl rfl (F.un _ rfl) rfl hb ?_;rw [hlen]
 refine bu rfl rfl rfl rfl (fun h4=>?_) (fun h4=>?_)
 ·have hj:j<bs.length:=by omega
  have hlt:=mD (bs.take j)
  rw [Ke,Nat.min_eq_left (by omega)] at hlt
  have hp:256 ^ j≤256 ^ 7:=Nat.pow_le_pow_right (by decide) (by omega)
  have hn:beN (bs.take j)<72057594037927936:=Nat.lt_of_lt_of_le hlt hp
  repeat first|apply ah;rfl|refine cf (sF rfl rfl (by focus(decide)) (shl8 hn)) rfl rfl rfl ?_
  refine yJ (j:=j) rfl rfl rfl rfl (F.un _ rfl) (F.sz _ rfl) hb (by omega) ?_
  intro b o vo hvo hcell
  rw [rM] at hcell
  have hc:=(bs[j]).toNat_lt
  repeat first|apply ah;rfl|apply aL;rfl;omega;omega|refine cf (an (F.ag _ rfl) rfl hvo hcell) rfl rfl rfl ?_|refine cf (bZ (F.un _ rfl) (F.un _ rfl) rfl (show _=((bs[j].toNat:Nat):Int)from Kz _ ⟨by omega,by omega⟩)) rfl rfl rfl ?_|refine cf (mO rfl rfl (.inr (.inl rfl)) (or8 hn hc)) rfl rfl rfl ?_
  refine ih _ _ _ (j+1) ⟨rfl,rfl,by omega⟩ (by omega) ?_
  rw [xa hj]
  exact KK (by repeat(first|exact KO|refine⟨rfl,?_⟩))
 ·obtain rfl:j=bs.length:=by omega
  rw [List.take_length]
  repeat apply ah;rfl
  (apply bR Tryz.func78 Tryz.results78;rfl)
  rfl
theorem CA(h:BsIs H s (byV l)):BsIs H s (u8L ⟨l.toArray⟩):=h
theorem w9(b:ByteArray):(b == b)=true:=(MapKept.bytes_beq b b).2 rfl
theorem vK{a b:SV}(ha:VerIs H a v)(hb:VerIs H b v):Fnc Tryz.prog 17 [a,b] H nx (fun q=>q=(.sc (.bool true),H,nx)):=by
 refine Fnc.bA (Free.sc _) ?_
 obtain⟨k,w,rfl,hk,hw⟩:=ha
 obtain⟨k',w',rfl,hk',hw'⟩:=hb
 refine KE Tryz.func17 rfl rfl ?_
 refine aV fun hund=>?_
 have hf: ∀ {vo vo':VO} (b:Nat) (w:VO),H.at' b=some w→((H.set nx vo).set (nx+1) vo').at' b=some w:=fun b w hb=>by
  have:=hund b w hb
  exact(aa _ _ (by omega)).trans ((aa _ _ (by omega)).trans hb)
 have k1: ∀ {vo vo':VO},BsIs ((H.set nx vo).set (nx+1) vo') k (u8L ⟨v.1.toArray⟩):=CA (hk.frame hf)
 have k2: ∀ {vo vo':VO},BsIs ((H.set nx vo).set (nx+1) vo') k' (u8L ⟨v.1.toArray⟩):=CA (hk'.frame hf)
 have w1: ∀ {vo vo':VO},BsIs ((H.set nx vo).set (nx+1) vo') w (u8L ⟨v.2.1.toArray⟩):=CA (hw.frame hf)
 have w2: ∀ {vo vo':VO},BsIs ((H.set nx vo).set (nx+1) vo') w' (u8L ⟨v.2.1.toArray⟩):=CA (hw'.frame hf)
 repeat first|apply ah;rfl|apply aG;rfl;(focus((repeat(first|exact ac|refine ab (by omega) ?_));done));rfl|apply dA;rfl;rfl|refine cf (l6 (F.un _ rfl) (F.un _ rfl) (F.un _ rfl) rfl k1) rfl rfl rfl ?_|refine cf (l6 (F.un _ rfl) (F.un _ rfl) (F.un _ rfl) rfl k2) rfl rfl rfl ?_|refine cf (l6 (F.un _ rfl) (F.un _ rfl) (F.un _ rfl) rfl w1) rfl rfl rfl ?_|refine cf (l6 (F.un _ rfl) (F.un _ rfl) (F.un _ rfl) rfl w2) rfl rfl rfl ?_|apply vv (r:=true);rfl;rfl;rfl;rfl;exact(w9 _)
 (apply bR Tryz.func17 Tryz.results17;rfl)
 exact⟨rfl,by dsimp only;omega,fun m hm=>(aa _ _ (by omega)).trans (aa _ _ (by omega))⟩
theorem yC{P:Program}{ro:Option Nat}{fn nt:Nat}{T:Tr SV}{k:List AIt}{dfs:List ADf}{Q:Pst}{ne sz:Nat}{rr:Bool}{rt:TypeId}{c:Tr SV}(hT:T.at' t=some (.slu r 0 n))(hb:H.at' r=some (.row rr ne sz rt c))(h0:0<ne)
 (h: ∀ C,ne≤C→Wp P ro ⟨fn,nt,T.set t (.sl r 0 n C),k,dfs,H,nx⟩ Q):Wp P ro ⟨fn,nt,T,k,dfs,H,nx⟩ Q:=by
 refine⟨fun K w0 e w tmps todo ds kd rof cs hS hTr htd hds hc2=>?_⟩
 obtain⟨z,hz,hlz⟩:=hS.rel _ _ hb
 obtain⟨g1,g2,g3,g4⟩:=Lies.row hlz
 have hnil:=g3 h0
 have hT2:TRel e nt (T.set t (.sl r 0 n z.cap)) tmps:=by
  refine⟨hTr.1,fun t' u hs=>?_⟩
  rcases bQ hs with ⟨rfl,rfl⟩|⟨_,hs⟩
  ·obtain⟨v,f1,f2⟩:=hTr.2 _ _ hT
   refine⟨v,?_,f2⟩
   rw [← f1]
   simp [SV.conc,hz,Ent.e7 hnil]
  ·exact hTr.2 _ _ hs
 exact(h z.cap g4).run K w0 e w tmps todo ds kd rof cs hS hT2 htd hds hc2
def JE(s:SV):Prop:= ∃ k w x y,s=im k w x y∧k.one=true∧w.one=true
theorem HZ(h:BlkAt H r 0 l){o:Nat}(ho:o+n≤l.length):BlkAt H r o ((l.drop o).take n):=by
 have:=((h.part (n:=o) (by omega)).2.part (n:=n) (by rw [Kh];omega)).1
 rwa [Kc] at this
theorem ofr_s{ro:Bool}(hr:H.at' r=some (dat ro l.length 1 5 (byV l)))(hl:l.length≤100000):Fnc Tryz.prog 36 [.slu r 0 l.length] H nx (fun q=> ∃ s',q.1 = .tup [s',.sc (.bool (ofR l).isSome)]∧JE s'∧(∀ v,ofR l=some v→VerAt q.2.1 s' r v)∧nx≤q.2.2∧ ∀ m,m<nx→q.2.1.at' m=H.at' m):=by
 refine KE Tryz.func36 rfl rfl ?_
 refine aV fun hund=>?_
 have lr:=hund _ _ hr
 repeat apply ah;rfl
 refine bu rfl rfl rfl rfl (fun h1=>?_) (fun h1=>?_)
 ·have hv:ofR l=none:=by unfold ofR;rw [Kb (by omega)]
  repeat first|apply ah;rfl|apply aG;rfl;(focus((repeat(exact ac));done));rfl
  ((apply bw Tryz.func36 (congrArg Array.toList Tryz.results36));(focus(repeat(first|exact KF|apply KH rfl|apply KG rfl (KI (F.ag _ rfl) (by repeat(exact ac)) (ak _ 0 rfl rfl))))))
  rw [hv]
  exact⟨_,rfl,⟨_,_,_,_,rfl,rfl,rfl⟩,fun v h=>(by cases h),by dsimp only;omega,fun m hm=>(aa _ _ (by omega)).trans (aa _ _ (by omega))⟩
 ·have h20:20≤l.length:=by omega
  have hr1:(H.set nx (ez (dB dK dK 0 0))).at' r=some (dat ro l.length 1 5 (byV l)):=(aa _ _ (by omega)).trans hr
  have hB1: ∀ H':au,H'.at' r=H.at' r→BlkAt H' r 0 l:=fun H' h=>tS (h.trans hr)
  refine yC (t:=0) rfl hr1 (by omega) ?_
  intro C hC
  have hk16:((l.drop 16).take 2).length=2:=by rw [Ke,Kh];omega
  have hklt:=mD ((l.drop 16).take 2)
  rw [hk16] at hklt
  repeat apply ah;rfl
  (apply yK (lw:=16) (hg:=18);rfl;rfl;rfl;exact(F.un _ rfl);exact(F.sz _ rfl);exact(iy rfl rfl);exact(iy rfl rfl);(focus(omega));(focus(omega));exact(Ka (by omega)))
  refine aE rfl rfl rfl (by kernel_rfl) (KD (nD (s:= .sl r 16 (18-16) (C-16)) (bs:=(l.drop 16).take 2) (by have:=(HZ (hB1 _ (aa _ _ (by omega):(H.set nx (ez (dB dK dK 0 0))).at' r=H.at' r)) (o:=16) (n:=2) (by omega)).bs (C:=C-16);rwa [hk16] at this) (by omega)) ?_)
  rintro _ rfl
  dsimp only
  have hof:ofR l=(if l.length<20+beN ((l.drop 16).take 2) then none else if gV (nI l)=true∧beN ((l.drop (18+beN ((l.drop 16).take 2))).take 2)=(l.drop (20+beN ((l.drop 16).take 2))).length then some (nI l) else none):=by unfold ofR;rw [Ka (by omega)]
  have hver:nI l=((l.drop 18).take (beN ((l.drop 16).take 2)),l.drop (20+beN ((l.drop 16).take 2)),beN (l.take 8),beN ((l.drop 8).take 8)):=rfl
  generalize beN ((l.drop 16).take 2)=kk at hklt hof hver ⊢
  repeat first|apply ah;rfl|apply aL;rfl;omega;omega|refine cf (bZ (F.un _ rfl) (F.un _ rfl) rfl (show _=((kk:Nat):Int)from JH _ ⟨by omega,by omega⟩)) rfl rfl rfl ?_|refine cf (gH (F.un _ rfl) rfl) rfl rfl rfl ?_
  refine bu rfl rfl rfl rfl (fun h2=>?_) (fun h2=>?_)
  ·have hv:ofR l=none:=by rw [hof,Kb (by omega)]
   repeat first|apply ah;rfl|apply aG;rfl;(focus((repeat(exact ac));done));rfl
   ((apply bw Tryz.func36 (congrArg Array.toList Tryz.results36));(focus(repeat(first|exact KF|apply KH rfl|apply KG rfl (KI (F.ag _ rfl) (by repeat(exact ac)) (ak _ 0 rfl rfl))))))
   rw [hv]
   exact⟨_,rfl,⟨_,_,_,_,rfl,rfl,rfl⟩,fun v h=>(by cases h),by dsimp only;omega,fun m hm=>(aa _ _ (by omega)).trans (aa _ _ (by omega))⟩
  ·have hv:=hof
   rw [Ka (by omega)] at hv
   clear hof
   have l8:(l.take 8).length=8:=by rw [Ke];omega
   have l16:((l.drop 8).take 8).length=8:=by rw [Ke,Kh];omega
   have g8: ∀ (H':au) (nx':Nat),H'.at' r=H.at' r→Fnc Tryz.prog 78 [.sl r (0+0) (8-0) (C-0)] H' nx' (fun q=>q=(.sc (.int .u64 (beN (l.take 8):Int)),H',nx')):=fun H' nx' h=>nD (by
    have:=(HZ (hB1 H' h) (o:=0) (n:=8) (by omega)).bs (C:=C-0)
    rwa [List.drop_zero,l8] at this) (by omega)
   have g16: ∀ (H':au) (nx':Nat),H'.at' r=H.at' r→Fnc Tryz.prog 78 [.sl r (0+8) (16-8) (C-8)] H' nx' (fun q=>q=(.sc (.int .u64 (beN ((l.drop 8).take 8):Int)),H',nx')):=fun H' nx' h=>nD (by
    have:=(HZ (hB1 H' h) (o:=8) (n:=8) (by omega)).bs (C:=C-8)
    rwa [l16] at this) (by omega)
   have lk:((l.drop 18).take kk).length=kk:=by rw [Ke,Kh];omega
   have lv:(l.drop (20+kk)).length=l.length-(20+kk):=Kh
   have hK: ∀ H':au,H'.at' r=H.at' r→BlkS H' (.sl r (0+18) (18+kk-18) (C-18)) r (nI l).1:=fun H' h=>by
    rw [hver]
    refine .inr ⟨18,C-18,?_,HZ (hB1 H' h) (by omega)⟩
    rw [lk,Kc,Nat.add_sub_cancel_left]
   have hV: ∀ H':au,H'.at' r=H.at' r→BlkS H' (.sl r (if C=20+kk then 0 else 0+(20+kk)) (l.length-(20+kk)) (C-(20+kk))) r (nI l).2.1:=fun H' h=>by
    rw [hver]
    refine .inr ⟨if C=20+kk then 0 else 0+(20+kk),C-(20+kk),by rw [lv],?_⟩
    by_cases hc:C=20+kk
    ·have:l.drop (20+kk)= []:=List.drop_of_length_le (by omega)
     rw [this]
     exact BlkAt.none _ (h.trans hr) _
    ·rw [Ka hc,Kc]
     have:=((hB1 H' h).part (n:=20+kk) (by omega)).2
     rwa [Kc] at this
   repeat apply ah;rfl
   (apply gC;(focus(kernel_rfl));(focus(kernel_rfl)))
   refine ej 2 (JL rfl) ?_
   repeat first|apply aW;rfl|apply bG;rfl;rfl;exact(fun _ h=>by cases h);exact(dc (l:=0) (h:=8) (F.un _ rfl) (F.sz _ rfl) rfl kw (iy rfl rfl) (by omega) (by omega) (Ka (by omega)))
   refine aA ?_;refine er rfl rfl rfl (by kernel_rfl) (g8 _ _ (by(repeat(refine ab (by omega) ?_));rfl)) ?_
   refine ej 2 (JL rfl) ?_
   repeat first|apply aW;rfl|apply bG;rfl;rfl;exact(fun _ h=>by cases h);exact(dc (l:=8) (h:=16) (F.un _ rfl) (F.sz _ rfl) rfl (iy rfl rfl) (iy rfl rfl) (by omega) (by omega) (Ka (by omega)))
   refine aA ?_;refine er rfl rfl rfl (by kernel_rfl) (g16 _ _ (by(repeat(refine ab (by omega) ?_));rfl)) ?_
   refine jy ?_
   repeat first|apply aW;rfl|refine pR (fp (F.zl _ rfl)) rfl rfl rfl ?_|refine bp (aw rfl rfl (.inl ⟨rfl,(JH _ ⟨(by focus(omega)),(by focus(omega))⟩).symm⟩)) rfl rfl rfl ?_|refine rD (dg (F.sz _ rfl) rfl rfl rfl (by repeat(exact ac)) (by rfl) (by exact JL rfl) (by rfl)) rfl rfl ?_|apply bG;rfl;rfl;exact(fun _ h=>by cases h);exact(dc (l:=18) (h:=18+kk) (F.un _ rfl) (F.sz _ rfl) rfl (iy rfl rfl) (iy rfl (by omega)) (by omega) (by omega) (Ka (by omega)))|apply bG;rfl;rfl;exact(fun _ h=>by cases h);exact(dc (l:=20+kk) (h:=l.length) (F.un _ rfl) (F.sz _ rfl) rfl (iy rfl (by omega)) kw (by omega) (by omega) rfl)
   refine aA ⟨by kernel_rfl,?_,?_⟩;(focus(repeat(first|exact KO|refine⟨.inl rfl,?_⟩|refine⟨.inr (.inl (by(repeat(refine⟨(by first|exact mN rfl|exact aw rfl rfl (.inl ⟨rfl,(JH _ ⟨by omega,by omega⟩).symm⟩)|exact dc (l:=0) (h:=8) (F.un _ rfl) (F.sz _ rfl) rfl kw (iy rfl rfl) (by omega) (by omega) (Ka (by omega))|exact dc (l:=8) (h:=16) (F.un _ rfl) (F.sz _ rfl) rfl (iy rfl rfl) (iy rfl rfl) (by omega) (by omega) (Ka (by omega))|exact dc (l:=18) (h:=18+kk) (F.un _ rfl) (F.sz _ rfl) rfl (iy rfl rfl) (iy rfl (by omega)) (by omega) (by omega) (Ka (by omega))|exact dc (l:=20+kk) (h:=l.length) (F.un _ rfl) (F.sz _ rfl) rfl (iy rfl (by omega)) kw (by omega) (by omega) rfl),?_⟩));exact KO)),?_⟩|refine⟨.inr (.inr (by(repeat(refine⟨(by exact eH rfl (by kernel_rfl) (by first|exact g8 _ _ (by(repeat(refine ab (by omega) ?_));rfl)|exact g16 _ _ (by(repeat(refine ab (by omega) ?_));rfl))),?_⟩));exact KO)),?_⟩)))
   obtain⟨kS,hkS⟩: ∃ kS,kS=SV.sl r (0+18) (18+kk-18) (C-18):=⟨_,rfl⟩
   refine cQ (R:=fun H7 n7=>n7=nx+1+1∧H7.at' (nx+1)=some (ez (dB (.sl r (0+18) (18+kk-18) (C-18)) (.sl r (if C=20+kk then 0 else 0+(20+kk)) (l.length-(20+kk)) (C-(20+kk))) (beN (l.take 8)) (beN ((l.drop 8).take 8))))∧H7.at' nx=some (ez (dB dK dK 0 0))∧ ∀ m,m<nx→H7.at' m=H.at' m) ⟨rfl,by repeat(exact ac),by repeat(first|exact ac|refine ab (by omega) ?_),fun m hm=>by(repeat(refine ab (by omega) ?_));rfl⟩ ?_
   rintro H7 n7 ⟨rfl,b5,b2,bo⟩
   clear kS hkS g8 g16 l8 l16 hr1 hk16
   have br:H7.at' r=H.at' r:=bo r lr
   have hat: ∀ H':au,H'.at' r=H7.at' r→VerAt H' (im (.sl r (0+18) (18+kk-18) (C-18)) (.sl r (if C=20+kk then 0 else 0+(20+kk)) (l.length-(20+kk)) (C-(20+kk))) (beN (l.take 8)) (beN ((l.drop 8).take 8))) r (nI l):=fun H' h=>⟨_,_,by rw [hver],hK H' (h.trans br),hV H' (h.trans br)⟩
   have cM: ∀ (H':au) (nx':Nat),H'.at' r=H7.at' r→Fnc Tryz.prog 18 [im (.sl r (0+18) (18+kk-18) (C-18)) (.sl r (if C=20+kk then 0 else 0+(20+kk)) (l.length-(20+kk)) (C-(20+kk))) (beN (l.take 8)) (beN ((l.drop 8).take 8))] H' nx' (fun q=>q=(.sc (.bool (gV (nI l))),H',nx')):=fun H' nx' h=>oR (hat H' h).is
   have l2:((l.drop (18+kk)).take 2).length=2:=by rw [Ke,Kh];omega
   have g2: ∀ (H':au) (nx':Nat),H'.at' r=H7.at' r→Fnc Tryz.prog 78 [.sl r (0+(18+kk)) (20+kk-(18+kk)) (C-(18+kk))] H' nx' (fun q=>q=(.sc (.int .u64 (beN ((l.drop (18+kk)).take 2):Int)),H',nx')):=fun H' nx' h=>nD (by
    have:=(HZ (hB1 H' (h.trans br)) (o:=18+kk) (n:=2) (by omega)).bs (C:=C-(18+kk))
    rw [Kc,show 20+kk-(18+kk)=2 by omega]
    rwa [l2] at this) (by omega)
   have hn2:=mD ((l.drop (18+kk)).take 2)
   rw [l2] at hn2
   generalize beN ((l.drop (18+kk)).take 2)=n2 at hn2 hv g2
   repeat apply ah;rfl
   cases hm:gV (nI l)with
   | false=>
     rw [hm] at cM
     have hno:ofR l=none:=by rw [hv,Ka (fun h=>by rw [hm] at h;cases h.1)]
     (apply gC;(focus(kernel_rfl));(focus(kernel_rfl)))
     refine ej 2 (JL rfl) ?_
     repeat apply dN;rfl;assumption;rfl
     refine aA ?_;(apply er;rfl;rfl;rfl;(focus(kernel_rfl));exact(cM _ _ rfl))
     refine jy ?_
     repeat first|apply aW;rfl|apply cy;rfl;rfl|refine rD (dg (F.sz _ rfl) rfl rfl rfl (by assumption) (by rfl) (by exact JL rfl) (by rfl)) rfl rfl ?_
     refine aA ⟨by kernel_rfl,?_,?_⟩;(focus(repeat(first|exact KO|refine⟨.inl rfl,?_⟩|refine⟨.inr (.inl (by(repeat(refine⟨(by first|exact mN rfl|exact aU (F.ag _ rfl) rfl (by repeat(first|assumption|refine ab (by omega) ?_)) (ak _ 0 rfl rfl)),?_⟩));exact KO)),?_⟩|refine⟨.inr (.inr (by(repeat(refine⟨(by exact eH rfl (by kernel_rfl) (by(exact cM _ _ (by(repeat(refine ab (by omega) ?_));rfl)))),?_⟩));exact KO)),?_⟩)))
     ((apply bw Tryz.func36 (congrArg Array.toList Tryz.results36));(focus(repeat(first|exact KF|apply KH rfl|apply KG rfl (KI (F.ag _ rfl) (by repeat(exact ac)) (ak _ 0 rfl rfl))))))
     rw [hno]
     exact⟨_,rfl,⟨_,_,_,_,rfl,rfl,rfl⟩,fun v h=>(by cases h),by dsimp only;omega,fun m hm=>by(repeat(refine ab (by omega) ?_));exact bo m hm⟩
   | true=>
     rw [hm] at cM
     (apply gC;(focus(kernel_rfl));(focus(kernel_rfl)))
     refine ej 2 (JL rfl) ?_
     repeat apply dN;rfl;assumption;rfl
     refine aA ?_;(apply er;rfl;rfl;rfl;(focus(kernel_rfl));exact(cM _ _ rfl))
     refine ej 7 (JL rfl) ?_
     repeat first|apply aW;rfl|refine bp (aw rfl rfl (.inl ⟨rfl,(JH _ ⟨(by focus(omega)),(by focus(omega))⟩).symm⟩)) rfl rfl rfl ?_|apply bG;rfl;rfl;exact(fun _ h=>by cases h);exact(dc (l:=18+kk) (h:=20+kk) (F.un _ rfl) (F.sz _ rfl) rfl (iy rfl (by omega)) (iy rfl (by omega)) (by omega) (by omega) (Ka (by omega)))
     refine aA ?_;(apply er;rfl;rfl;rfl;(focus(kernel_rfl));exact(g2 _ _ rfl))
     refine jy ?_
     repeat first|apply aW;rfl|apply dN;rfl;assumption;rfl|refine bp (bZ (F.un _ rfl) (F.un _ rfl) rfl (show _=((n2:Nat):Int)from JH _ ⟨by omega,by omega⟩)) rfl rfl rfl ?_|apply bG;rfl;rfl;exact(fun _ h=>by cases h);exact(gH (F.un _ rfl) rfl)
     refine lO rfl rfl rfl rfl (fun e=>?_) (fun e=>?_)
     ·have hyes:ofR l=some (nI l):=by rw [hv,Kb ⟨hm,by omega⟩]
      repeat first|apply aW;rfl|refine rD (dg (F.sz _ rfl) rfl rfl rfl (by assumption) (by rfl) (by exact JL rfl) (by rfl)) rfl rfl ?_
      refine aA ⟨by kernel_rfl,?_,?_⟩;(focus(repeat(first|exact KO|refine⟨.inl rfl,?_⟩|refine⟨.inr (.inl (by(repeat(refine⟨(by first|exact mN rfl|exact aw rfl rfl (.inl ⟨rfl,(JH _ ⟨by omega,by omega⟩).symm⟩)|exact an (F.ag _ rfl) rfl (by repeat(first|assumption|refine ab (by omega) ?_)) (aD rfl)|exact aU (F.ag _ rfl) rfl (by repeat(first|assumption|refine ab (by omega) ?_)) (ak _ 0 rfl rfl)|exact dc (l:=18+kk) (h:=20+kk) (F.un _ rfl) (F.sz _ rfl) rfl (iy rfl (by omega)) (iy rfl (by omega)) (by omega) (by omega) (Ka (by omega))|exact gH (F.un _ rfl) rfl|exact bZ (F.un _ rfl) (F.un _ rfl) rfl (show _=((n2:Nat):Int)from JH _ ⟨by omega,by omega⟩)|exact dy rfl rfl (.inl ⟨rfl,(Kt (by omega)).symm⟩)),?_⟩));exact KO)),?_⟩|refine⟨.inr (.inr (by(repeat(refine⟨(by exact eH rfl (by kernel_rfl) (by first|exact cM _ _ (by(repeat(refine ab (by omega) ?_));rfl)|exact g2 _ _ (by(repeat(refine ab (by omega) ?_));rfl))),?_⟩));exact KO)),?_⟩)))
      ((apply bw Tryz.func36 (congrArg Array.toList Tryz.results36));(focus(repeat(first|exact KF|apply KH rfl|apply KG rfl (KI (F.ag _ rfl) (by repeat(exact ac)) (ak _ 0 rfl rfl))))))
      rw [hyes]
      exact⟨_,rfl,⟨_,_,_,_,rfl,rfl,rfl⟩,fun v h=>(by cases h;exact hat _ (by(repeat(refine ab (by omega) ?_));rfl)),by dsimp only;omega,fun m hm=>by(repeat(refine ab (by omega) ?_));exact bo m hm⟩
     ·have hno:ofR l=none:=by rw [hv,Ka (fun h=>by have:=h.2;omega)]
      repeat first|apply aW;rfl|refine rD (dg (F.sz _ rfl) rfl rfl rfl (by assumption) (by rfl) (by exact JL rfl) (by rfl)) rfl rfl ?_
      refine aA ⟨by kernel_rfl,?_,?_⟩;(focus(repeat(first|exact KO|refine⟨.inl rfl,?_⟩|refine⟨.inr (.inl (by(repeat(refine⟨(by first|exact mN rfl|exact aw rfl rfl (.inl ⟨rfl,(JH _ ⟨by omega,by omega⟩).symm⟩)|exact an (F.ag _ rfl) rfl (by repeat(first|assumption|refine ab (by omega) ?_)) (aD rfl)|exact aU (F.ag _ rfl) rfl (by repeat(first|assumption|refine ab (by omega) ?_)) (ak _ 0 rfl rfl)|exact dc (l:=18+kk) (h:=20+kk) (F.un _ rfl) (F.sz _ rfl) rfl (iy rfl (by omega)) (iy rfl (by omega)) (by omega) (by omega) (Ka (by omega))|exact gH (F.un _ rfl) rfl|exact bZ (F.un _ rfl) (F.un _ rfl) rfl (show _=((n2:Nat):Int)from JH _ ⟨by omega,by omega⟩)|exact dy rfl rfl (.inl ⟨rfl,(Ku (by omega)).symm⟩)),?_⟩));exact KO)),?_⟩|refine⟨.inr (.inr (by(repeat(refine⟨(by exact eH rfl (by kernel_rfl) (by first|exact cM _ _ (by(repeat(refine ab (by omega) ?_));rfl)|exact g2 _ _ (by(repeat(refine ab (by omega) ?_));rfl))),?_⟩));exact KO)),?_⟩)))
      ((apply bw Tryz.func36 (congrArg Array.toList Tryz.results36));(focus(repeat(first|exact KF|apply KH rfl|apply KG rfl (KI (F.ag _ rfl) (by repeat(exact ac)) (ak _ 0 rfl rfl))))))
      rw [hno]
      exact⟨_,rfl,⟨_,_,_,_,rfl,rfl,rfl⟩,fun v h=>(by cases h),by dsimp only;omega,fun m hm=>by(repeat(refine ab (by omega) ?_));exact bo m hm⟩
abbrev xA(a:Int×Int):SV:= .agg [.sc (.int .i64 a.1),.sc (.int .i64 a.2)]
def gE(a b:Int×Int):Bool:=decide (a.1=b.1) && decide (a.2=b.2)
theorem dv{a b:Int×Int}:gE a b=true↔a=b:=by
 simp only [gE,JY,KB]
 exact⟨fun h=>Prod.ext h.1 h.2,fun h=>by rw [h];exact⟨rfl,rfl⟩⟩
theorem uTd:Tryz.prog.underlying 40=some (.struct (Tryz.prog.fieldsOf 40)):=by kernel_rfl
def EZ:List (Bool×TypeId×Nat):= [(true,3,0),(true,3,1)]
theorem fTd:(Tryz.prog.fieldsOf 40).toList.map (fun f=>(f.name != "_",f.type,f.offset))=EZ:=by kernel_rfl
theorem fTd2: ∃ f g:Field,(Tryz.prog.fieldsOf 40).toList= [f,g]∧f.name ≠ "_" ∧f.type=3∧f.offset=0∧g.name ≠ "_" ∧g.type=3∧g.offset=1:=by
 have h:=fTd
 generalize (Tryz.prog.fieldsOf 40).toList=l at h
 have hl:l.length=2:=by simpa [EZ] using congrArg List.length h
 rcases l with _|⟨f,_|⟨g,_|⟨x,l⟩⟩⟩
 ·simp at hl
 ·simp at hl
 ·simp only [J1,List.map_nil,EZ,List.cons.injEq,JO,and_true,bne_iff_ne] at h
  exact⟨f,g,rfl,h.1.1,h.1.2.1,h.1.2.2,h.2.1,h.2.2.1,h.2.2.2⟩
 ·simp at hl
theorem lX{P:Program}{t:TypeId}{cs:Array Value}{off:Nat}{v:Value}{k:IntKind}(hu:P.underlying t=some (.int k))(hv:cs[off]? =some v)(w:World):(part t cs off).run P w = .ok v w:=by
 simp [part,isAgg,run_underlying hu,hv]
theorem vM(a b:Int×Int)(w:World):(Op.equalIn 10000 40 (.agg #[.int .i64 a.1,.int .i64 a.2]) (.agg #[.int .i64 b.1,.int .i64 b.2])).run Tryz.prog w = .ok (gE a b) w:=by
 obtain⟨f,g,hl,f1,f2,f3,g1,g2,g3⟩:=fTd2
 have hu:Tryz.prog.underlying 3=some (.int .i64):=by kernel_rfl
 have he: ∀ (a b:Int) (w:World),(Op.equalIn 9999 3 (.int .i64 a) (.int .i64 b)).run Tryz.prog w = .ok (a == b) w:=fun a b w=>run_equalIn_int w 9998 _ .i64 .i64 a b hu
 rw [show(10000:Nat)=9999+1 from rfl,run_equalIn_struct w 9999 _ _ _ uTd (by kernel_rfl),hl]
 simp only [Op.eqFields,Kb f1,Kb g1,f2,f3,g2,g3,Sem.run_bind,lX hu (cs:= #[.int .i64 a.1,.int .i64 a.2]) (off:=0) (v:= .int .i64 a.1) rfl,lX hu (cs:= #[.int .i64 b.1,.int .i64 b.2]) (off:=0) (v:= .int .i64 b.1) rfl,Result.andThen_ok]
 rw [he]
 simp only [Result.andThen_ok]
 by_cases h1:a.1=b.1
 ·rw [show(a.1 == b.1)=true by simpa using h1]
  simp only [Bool.not_true,Bool.false_eq_true,if_false,Sem.run_bind,lX hu (cs:= #[.int .i64 a.1,.int .i64 a.2]) (off:=1) (v:= .int .i64 a.2) rfl,lX hu (cs:= #[.int .i64 b.1,.int .i64 b.2]) (off:=1) (v:= .int .i64 b.2) rfl,Result.andThen_ok]
  rw [he]
  simp only [Result.andThen_ok]
  by_cases h2:a.2=b.2
  ·rw [show(a.2 == b.2)=true by simpa using h2]
   simp [h1,h2,gE]
  ·rw [show(a.2 == b.2)=false by simpa using h2]
   simp [h1,h2,gE]
 ·rw [show(a.1 == b.1)=false by simpa using h1]
  simp [h1,gE]
end
section
variable {P:Program} {H:au} {T:Tr SV} {nx:Nat}
variable {d:Option Tmp} {ty:TypeId} {pos:String} {af:Array Edge} {gd:Option (Nat×Bool)}
theorem rG{e:Env}{a:Int×Int}{v:Value}(h:(xA a).conc e=some v):v = .agg #[.int .i64 a.1,.int .i64 a.2]:=by
 simpa [xA,SV.conc,SV.aJ] using h.symm
theorem vT{x y:Operand}{yt:TypeId}{a b:Int×Int}(hx:am T x=some (xA a))(hy:am T y=some (xA b)):ReadDoes Tryz.prog T H ⟨d,.binOp .eql 40 x y yt,ty,pos,af,gd⟩ (.sc (.bool (gE a b))):=by
 intro K w0 e nx w ev hS hE
 refine⟨_,rfl,?_⟩
 have e1:=rG (hE x _ hx)
 have e2:=rG (hE y _ hy)
 simp [execOp,e1,e2,run_eqGuard_agg (P:=Tryz.prog) w .eql 40 x y _ _ (by kernel_rfl),run_eql_struct,vM]
end
theorem ja{ro:Option Nat}{fn nt nx i:Nat}{T:Tr SV}{k:List AIt}{dfs:List ADf}{H:au}{Q:Pst}{ops:Array Oper}{l:List Oper}{ty:TypeId}{pos:String}{af:Array Edge}{gd:Option (Nat×Bool)}{x y:Operand}{yt:TypeId}{a b:Int×Int}{r:Bool}{dd:Nat}(hw:aH T ops ⟨some dd,.binOp .eql 40 x y yt,ty,pos,af,gd⟩=some true)(hd:Nat.blt dd nt=true)(hx:am T x=some (xA a))(hy:am T y=some (xA b))(hr:gE a b=r)
 (h:Wp Tryz.prog ro ⟨fn,nt,T.set dd (.sc (.bool r)),.inReg ops (i+1) l :: k,dfs,H,nx⟩ Q):Wp Tryz.prog ro ⟨fn,nt,T,.inReg ops i (⟨some dd,.binOp .eql 40 x y yt,ty,pos,af,gd⟩ :: l) :: k,dfs,H,nx⟩ Q:=
 dj hw (.inr (fun _ h=>by cases h)) ((vT hx hy).does) (by rw [aK hd,hr];exact h)
section
variable {H:au} {T:Tr SV} {nx:Nat}
variable {d:Option Tmp} {ty:TypeId} {pos:String} {af:Array Edge} {gd:Option (Nat×Bool)}
theorem vQ{x y:Operand}{yt:TypeId}{a b:Int×Int}{r:Bool}(hr:gE a b=r)(hx:am T x=some (xA a))(hy:am T y=some (xA b)):ReadDoes Tryz.prog T H ⟨d,.binOp .neq 40 x y yt,ty,pos,af,gd⟩ (.sc (.bool (!r))):=by
 subst hr
 intro K w0 e nx w ev hS hE
 refine⟨_,rfl,?_⟩
 have e1:=rG (hE x _ hx)
 have e2:=rG (hE y _ hy)
 simp [execOp,e1,e2,run_eqGuard_agg (P:=Tryz.prog) w .neq 40 x y _ _ (by kernel_rfl),run_neq_struct,vM]
end
theorem RowsC.at{H:au}{ok:Nat→Prop}: ∀ {l:List rU} {ws:List SV},RowsC H ok ws l→ ∀ {i:Nat} (hi:i<l.length),∃ s1 s2 r,(ws.drop (i*6)).take 6=rR (l[i]).1.1 (l[i]).1.2 s1 s2 (l[i]).2.2.2.1 (l[i]).2.2.2.2∧ok r∧BlkS H s1 r (l[i]).2.1∧BlkS H s2 r (l[i]).2.2.1
 | [],_,_,i,hi=>absurd hi (Nat.not_lt_zero _)
 | x :: l,ws,h,i,hi=>by
   obtain⟨s1,s2,rest,r,rfl,h2,h3,h4,h5⟩:=h
   cases i with
   | zero=>exact⟨s1,s2,r,by rw [Nat.zero_mul,List.drop_zero];exact List.take_left' rfl,h2,h3,h4⟩
   | succ i=>
     obtain⟨t1,t2,r',g1,g2,g3,g4⟩:=RowsC.at h5 (i:=i) (Nat.lt_of_succ_lt_succ hi)
     refine⟨t1,t2,r',?_,g2,g3,g4⟩
     rw [Nat.succ_mul,Nat.add_comm,←List.drop_drop]
     exact g1
theorem RowsC.cells{H:au}{ok:Nat→Prop}{l:List rU}{ws:List SV}(h:RowsC H ok ws l){i:Nat}(hi:i<l.length): ∃ s1 s2 r,ok r∧BlkS H s1 r (l[i]).2.1∧BlkS H s2 r (l[i]).2.2.1∧(nJ false l.length 6 67 ws).cellsFrom (i*6) 2=some [.sc (.int .i64 ((l[i]).1.1:Int)),.sc (.int .i64 ((l[i]).1.2:Int))]∧(nJ false l.length 6 67 ws).cellsFrom (i*6+2) 4=some [s1,s2,.sc (.int .u64 ((l[i]).2.2.2.1:Int)),.sc (.int .u64 ((l[i]).2.2.2.2:Int))]:=by
 obtain⟨s1,s2,r,h1,h2,h3,h4⟩:=h.at hi
 have hl:=h.len
 have h6:(nJ false l.length 6 67 ws).cellsFrom (i*6) (2+4)=some (rR (l[i]).1.1 (l[i]).1.2 s1 s2 (l[i]).2.2.2.1 (l[i]).2.2.2.2):=dS 6 (i*6) _ h1 rfl (by omega)
 obtain⟨g1,g2⟩:=iw 2 4 _ _ h6
 exact⟨s1,s2,r,h2,h3,h4,g1,g2⟩
theorem BlkS.Ba{H:au}{k w:SV}{r:Nat}{v:gj}(hk:BlkS H k r v.1)(hw:BlkS H w r v.2.1):VerIs H (im k w v.2.2.1 v.2.2.2) v:=⟨k,w,rfl,hk.bs,hw.bs⟩
theorem zg{H:au}{nx r1 r2:Nat}{ok1 ok2:Nat→Prop}{s1 s2:SV}{l:List rU}(h1:RowsAt H ok1 r1 s1 l)(h2:RowsAt H ok2 r2 s2 l)(hl:l.length≤50000):Fnc Tryz.prog 14 [s1,s2] H nx (fun q=>q=(.sc (.bool true),H,nx)):=by
 refine Fnc.bA (Free.sc _) ?_
 refine KE Tryz.func14 rfl rfl ?_
 rcases h1 with ⟨rfl,rfl⟩|⟨ws1,L1,h0,rfl,hb1,_,_,c1⟩
 ·rcases h2 with ⟨_,rfl⟩|⟨ws2,L2,h0,_⟩
  ·repeat first|apply ah;rfl|refine cf (iJ (F.un _ rfl) rfl) rfl rfl rfl ?_|apply dA;rfl;rfl
   refine bE (α:=Nat) (fun i=> [(0,dK),(1,dK),(5,.sc (.int .i64 0))]) (fun i H1 n1=>n1=nx∧H1=H) (fun i=>0) 0 ⟨rfl,rfl⟩ (KK (KN rfl)) ?_
   rintro i H1 n1 ⟨rfl,rfl⟩ ih
   repeat first|apply ah;rfl|refine cf (iJ (F.un _ rfl) rfl) rfl rfl rfl ?_|apply ll;rfl;decide
   (apply bR Tryz.func14 Tryz.results14;rfl)
   exact⟨rfl,JZ _,fun m _=>rfl⟩
  ·cases h0
 ·rcases h2 with ⟨rfl,_⟩|⟨ws2,L2,_,rfl,hb2,_,_,c2⟩
  ·cases h0
  ·repeat first|apply ah;rfl|apply dA;rfl;rfl
   refine bE (α:=Nat) (fun i=> [(0,.slu r1 0 l.length),(1,.slu r2 0 l.length),(5,.sc (.int .i64 (i:Int)))]) (fun i H1 n1=>i≤l.length∧n1=nx∧H1=H) (fun i=>l.length-i) 0 ⟨J0 _,rfl,rfl⟩ (KK (KN rfl)) ?_
   rintro i H1 n1 ⟨i1,rfl,rfl⟩ ih
   repeat apply ah;rfl
   refine bu rfl rfl rfl rfl (fun h5=>?_) (fun h5=>?_)
   ·have hi:i<l.length:=by omega
    obtain⟨a1,a2,ra,_,x1,x2,x3,x4⟩:=c1.cells hi
    obtain⟨b1,b2,rb,_,y1,y2,y3,y4⟩:=c2.cells hi
    have hs:gE (((l[i]).1.1:Int),((l[i]).1.2:Int)) (((l[i]).1.1:Int),((l[i]).1.2:Int))=true:=dv.2 rfl
    have hsame:=fun(nx:Nat)=>vK (nx:=nx) (BlkS.Ba x1 x2) (BlkS.Ba y1 y2)
    repeat apply ah;rfl
    (apply bk;(focus(kernel_rfl));(focus(kernel_rfl)))
    repeat first|refine aI (q:=i) rfl rfl rfl rfl (F.un _ rfl) (F.sz _ rfl) (by assumption) (by omega) (by(omega)) (JZ _) ?_|apply bG;rfl;rfl;exact(fun _ h=>by cases h);exact(aU (F.ag _ rfl) rfl hb1 x3)|apply bG;rfl;rfl;exact(fun _ h=>by cases h);exact(aU (F.ag _ rfl) rfl hb2 y3)|apply bG;rfl;rfl;exact(fun _ h=>by cases h);exact(aU (F.ag _ rfl) rfl hb1 x4)|apply bG;rfl;rfl;exact(fun _ h=>by cases h);exact(aU (F.ag _ rfl) rfl hb2 y4)|apply bG;rfl;rfl;exact(fun _ h=>by cases h);exact(vQ hs rfl rfl)|apply b9;rfl;rfl;rfl;(focus(kernel_rfl));exact(hsame _)|apply aW;rfl
    refine aA ⟨by kernel_rfl,?_,?_⟩;(focus(repeat(first|exact KO|apply jE;rfl|apply gr;rfl;kernel_rfl|refine fO 0 rfl (by kernel_rfl) (by(repeat(refine⟨(by first|exact aU (F.ag _ rfl) rfl hb1 x3|exact aU (F.ag _ rfl) rfl hb2 y3|exact aU (F.ag _ rfl) rfl hb1 x4|exact aU (F.ag _ rfl) rfl hb2 y4|exact vQ hs rfl rfl|exact aO (F.un _ rfl) (F.sz _ rfl) rfl rfl hb1 rfl (by omega) (JZ _)|exact aO (F.un _ rfl) (F.sz _ rfl) rfl rfl hb2 rfl (by omega) (JZ _)),?_⟩));exact KO) ?_)))
    repeat first|apply ah;rfl|apply aL;rfl;omega;omega
    exact ih _ _ _ (i+1) ⟨hi,rfl,rfl⟩ (by omega) (KK (KN rfl))
   ·repeat apply ah;rfl
    (apply bR Tryz.func14 Tryz.results14;rfl)
    exact⟨rfl,JZ _,fun m _=>rfl⟩
structure ActT where
 kind:Int
 place:Int
 ver:gj
 tid:Int×Int
 xid:Nat
 odd:Bool
section
variable {H:au}{ro:Bool}
abbrev ol:=ActT×SV×SV
abbrev rT(x:ol):List SV:= [.sc (.int .i64 x.1.kind),.sc (.int .i64 x.1.place),x.2.1,x.2.2,.sc (.int .u64 (x.1.ver.2.2.1:Int)),.sc (.int .u64 (x.1.ver.2.2.2:Int)),.sc (.int .i64 x.1.tid.1),.sc (.int .i64 x.1.tid.2),.sc (.int .u64 (x.1.xid:Int)),.sc (.bool x.1.odd)]
abbrev Gd(ro:Bool)(ls:List ol):VO:=nJ ro ls.length 10 42 (ls.flatMap rT)
def ActIs(H:au)(x:ol):Prop:=BsIs H x.2.1 (byV x.1.ver.1)∧BsIs H x.2.2 (byV x.1.ver.2.1)
theorem ActIs.frame{H':au}{x:ol}(h:ActIs H x)(hf: ∀ b vo,H.at' b=some vo→H'.at' b=some vo):ActIs H' x:=⟨h.1.frame hf,h.2.frame hf⟩
theorem xj: ∀ {ls:List ol} {i j:Nat} (hi:i<ls.length),j<10→(ls.flatMap rT)[i*10+j]? =(rT ls[i])[j]?
 | [],_,_,hi,_=>by simp at hi
 | x :: ls,0,j,_,hj=>by
   rw [List.flatMap_cons,JW (by show _<10;omega),Nat.zero_mul,Kc]
   rfl
 | x :: ls,i+1,j,hi,hj=>by
   rw [List.flatMap_cons,Kk (by show 10≤_;omega)]
   have:(i+1)*10+j-(rT x).length=i*10+j:=by show(i+1)*10+j-10=_;omega
   rw [this,xj (by simpa using hi) hj]
   simp
theorem xi{ls:List ol}{i j:Nat}{v:SV}(hi:i<ls.length)(hv:(rT ls[i])[j]? =some v):(Gd ro ls).cell (i*10+j)=some v:=by
 have hj:j<10:=(JK.1 hv).1
 exact mB ((xj hi hj).trans hv) (by omega)
theorem A4{ls:List ol}{i:Nat}(hi:i<ls.length):(Gd ro ls).cellsFrom (i*10) 10=some (rT ls[i]):=by
 refine dS 10 (i*10) _ (Kv fun j=>?_) rfl (by omega)
 rcases Kd j 10 with hj|hj
 ·rw [List.getElem?_take_of_lt hj,List.getElem?_drop,xj hi hj]
 ·rw [Ky (by simp;omega),Ky (by show 10≤j;omega)]
def Du(ls:List ol):Bool:=decide (∀ x∈ls,x.1.ver.1.length≤100∧x.1.ver.2.1.length≤300) && decide (ls.length≤60)
theorem Dt{ls:List ol}{x:ol}(hx:x∈ls)(h: ¬ (x.1.ver.1.length≤100∧x.1.ver.2.1.length≤300)):Du ls=false:=by
 unfold Du
 rw [Ku (fun h2=>h (h2 x hx)),Bool.false_and]
theorem EY{ls:List ol}(h:Du ls=true):(∀ x∈ls,x.1.ver.1.length≤100∧x.1.ver.2.1.length≤300)∧ls.length≤60:=by
 unfold Du at h
 rw [JY,KB,KB] at h
 exact h
theorem few_s{nx r:Nat}{ls:List ol}(hb:H.at' r=some (Gd ro ls))(hl:ls.length≤9223372036854775807)(hv: ∀ x∈ls,ActIs H x∧x.1.ver.1.length≤9223372036854775807∧x.1.ver.2.1.length≤9223372036854775807):Fnc Tryz.prog 7 [.slu r 0 ls.length] H nx (fun q=>q=(.sc (.bool (Du ls)),H,nx)):=by
 refine Fnc.bA (Free.sc _) ?_
 refine KE Tryz.func7 rfl rfl ?_
 repeat apply ah;rfl
 refine bE (α:=Nat) (fun i=> [(0,.slu r 0 ls.length),(3,.sc (.int .i64 (i:Int)))]) (fun i H1 n1=>i≤ls.length∧n1=nx∧H1=H∧ ∀ x∈ls.take i,x.1.ver.1.length≤100∧x.1.ver.2.1.length≤300) (fun i=>ls.length-i) 0 ⟨J0 _,rfl,rfl,fun x hx=>by simp at hx⟩ (KK (KN rfl)) ?_
 rintro i H1 n1 ⟨i1,rfl,rfl,i2⟩ ih
 repeat apply ah;rfl
 refine bu rfl rfl rfl rfl (fun h5=>?_) (fun h5=>?_)
 ·have hi:i<ls.length:=by omega
  obtain⟨⟨x1,x2⟩,x3,x4⟩:=hv ls[i] (J9 hi)
  have htk:ls.take (i+1)=ls.take i ++ [ls[i]]:=List.take_succ_eq_append_getElem hi
  have c2:=xi (ro:=ro) (j:=2) hi rfl
  have c3:=xi (ro:=ro) (j:=3) hi rfl
  repeat first|apply ah;rfl|refine dH (q:=i) rfl rfl rfl rfl (F.un _ rfl) (F.sz _ rfl) (by assumption) (by omega) (by(omega)) (JZ _) ?_|refine cf (an (F.ag _ rfl) rfl hb c2) rfl rfl rfl ?_|refine dh rfl rfl (F.un _ rfl) rfl x1 ?_;rw [bL]
  refine dI rfl rfl rfl rfl (fun h1=>?_) (fun h1=>?_)
  ·repeat apply ah;rfl
   (apply bR Tryz.func7 Tryz.results7;rfl)
   exact⟨congrArg (fun b=>SV.sc (.bool b)) (Dt (J9 hi) (by omega)).symm,JZ _,fun m _=>rfl⟩
  ·repeat first|apply ah;rfl|refine dH (q:=i) rfl rfl rfl rfl (F.un _ rfl) (F.sz _ rfl) (by assumption) (by omega) (by(omega)) (JZ _) ?_|refine cf (an (F.ag _ rfl) rfl hb c3) rfl rfl rfl ?_|refine dh rfl rfl (F.un _ rfl) rfl x2 ?_;rw [bL]
   refine dI rfl rfl rfl rfl (fun h2=>?_) (fun h2=>?_)
   ·repeat apply ah;rfl
    (apply bR Tryz.func7 Tryz.results7;rfl)
    exact⟨congrArg (fun b=>SV.sc (.bool b)) (Dt (J9 hi) (by omega)).symm,JZ _,fun m _=>rfl⟩
   ·repeat first|apply ah;rfl|apply aL;rfl;omega;omega
    refine ih _ _ _ (i+1) ⟨hi,rfl,rfl,fun x hx=>?_⟩ (by omega) (KK (KN rfl))
    rw [htk] at hx
    rcases List.mem_append.1 hx with hx|hx
    ·exact i2 x hx
    ·rw [Kg.1 hx]
     exact⟨by omega,by omega⟩
 ·have hj:i=ls.length:=by omega
  subst hj
  rw [List.take_length] at i2
  repeat apply ah;rfl
  have hf: ∀ b,decide (ls.length≤60)=b→Du ls=b:=fun b h=>by
   unfold Du
   rw [h,Kt i2,Bool.true_and]
  refine pU rfl rfl rfl rfl (fun h1=>?_) (fun h1=>?_)
  ·repeat apply ah;rfl
   (apply bR Tryz.func7 Tryz.results7;rfl)
   exact⟨congrArg (fun b=>SV.sc (.bool b)) (hf true (Kt (by omega))).symm,JZ _,fun m _=>rfl⟩
  ·repeat apply ah;rfl
   (apply bR Tryz.func7 Tryz.results7;rfl)
   exact⟨congrArg (fun b=>SV.sc (.bool b)) (hf false (Ku (by omega))).symm,JZ _,fun m _=>rfl⟩
theorem Hq{nx n:Nat}{s:SV}{p it:List UInt8}(hp:p.length=1024)(hr:bj p=true)(hn:n<ae p)(hs:ar p n≠0)(hB:BsIs H s (byV it))(hit:it.length=ar p n):Fnc Tryz.prog 60 [.agg (pgS p),.sc (.int .i64 (n:Int)),s] H nx (fun q=>q=(pgE (bg p (ay p n) it,0),H,nx)):=by
 refine Fnc.bA (hY _) ?_
 have hb:=db hr hn hs
 have hbl:=bL it
 have hfd:cm p n=(ay p n,ar p n,0):=by unfold cm;rw [Ka (by omega),Ka hs]
 refine KE Tryz.func60 rfl rfl ?_
 refine aV fun hund=>?_
 repeat first|refine be rfl rfl cq ?_|apply ah;rfl
 have hb1:((H.set nx (pgO p)).set (nx+1) (pgO zeroP)).at' nx=some (pgO p):=by repeat(first|exact ac|refine ab (by omega) ?_)
 have hz1:((H.set nx (pgO p)).set (nx+1) (pgO zeroP)).at' (nx+1)=some (pgO zeroP):=by repeat(exact ac)
 have ho1: ∀ m,m<nx→((H.set nx (pgO p)).set (nx+1) (pgO zeroP)).at' m=H.at' m:=fun m hm=>by(repeat(refine ab (by omega) ?_));rfl
 have hB1:BsIs ((H.set nx (pgO p)).set (nx+1) (pgO zeroP)) s (byV it):=hB.frame fun b vo h=>(ho1 b (hund b vo h)).trans h
 have hrs:=fun nx'=>gG (nx:=nx') hb1 hp
 rw [hr] at hrs
 have hfs: ∀ nx',Fnc Tryz.prog 89 [.ptr nx 0,.sc (.int .i64 (n:Int))] ((H.set nx (pgO p)).set (nx+1) (pgO zeroP)) nx' (fun q=>q=(.tup [.sc (.int .i64 (ay p n:Int)),.sc (.int .i64 (ar p n:Int)),.sc (.int .i64 0)],((H.set nx (pgO p)).set (nx+1) (pgO zeroP)),nx')):=fun nx'=>by
  have:=wL (nx:=nx') (n:=n) hb1 (fK hp hr)
  rw [hfd] at this
  exact this
 have hmi: ∀ H nx,Fnc Tryz.prog 68 [.sc (.int .i64 (it.length:Int))] H nx (fun q=>q=(.sc (.bool true),H,nx)):=fun H nx=>by
  have:=tf (H:=H) (nx:=nx) (n:=it.length)
  rw [Kt (by omega)] at this
  exact this
 generalize (H.set nx (pgO p)).set (nx+1) (pgO zeroP)=H1 at hb1 hz1 ho1 hB1 hrs hfs ⊢
 repeat first|apply ah;rfl|apply cE;rfl|apply bW;rfl;kernel_rfl;exact hrs _|apply ll;rfl;omega|refine dh rfl rfl (F.un _ rfl) rfl hB1 ?_;rw [hbl]|apply bW;rfl;kernel_rfl;exact hmi _ _|apply bW;rfl;kernel_rfl;exact hfs _|apply dA;rfl;omega|apply li (lw:=ay p n) (hg:=1024) (m:=1024-ay p n);rfl;rfl;rfl;exact(F.un _ rfl);exact(F.sz _ rfl);rfl;rfl;(focus(omega));(focus(omega));(focus(omega));rfl;rfl;exact(Kc _)
 refine ov rfl rfl rfl rfl (F.un _ rfl) (F.sz _ rfl) hb1 hB1 (by omega) (by rw [bh hp];omega) ?_
 rw [mR rfl]
 have hpl:(bg p (ay p n) it).length=1024:=(bS (by omega)).trans hp
 generalize bg p (ay p n) it=p2 at hpl ⊢
 repeat first|apply bB hpl;rfl;(focus((repeat(exact ac));done))|apply bJ hpl aj;rfl;(focus((repeat(first|assumption|refine ab (by omega) ?_));done))|apply ah;rfl
 ((apply bw Tryz.func60 (congrArg Array.toList Tryz.results60));(focus((apply KG rfl (KI (F.ag _ rfl) (by repeat(exact ac)) (bv hpl)));(repeat(first|exact KF|apply KH rfl)))))
 exact⟨rfl,by dsimp only;omega,fun m hm=>by(repeat(refine ab (by omega) ?_));exact ho1 m hm⟩
end
end Go.Proofs.YtnhmbonmlfeifaaGreat
end
section
namespace Go.Sy
open Go
section
variable {P:Program} {T:Tr SV} {H:au} {nx:Nat} {d:Option Tmp} {ty:TypeId} {pos:String} {af:Array Edge} {gd:Option (Nat×Bool)}
theorem BY{t tx el:TypeId}{b eo n ne:Nat}{bt:TypeId}{us vs:List Value}{s x:Operand}{v:SV}(hu:P.underlying t=some (.slice el))(hs:bN P el=some 1)(hx0:am T s=some (.slu b eo n))(hx:am T x=some v)(hb:H.at' b=some (dat false ne 1 bt us))(hv:BsIs H v vs)(hn:vs.length≤n)(hne:eo+n≤ne)(hl:us.length=ne) :
 OpDoes P T H nx ⟨d,.call {callee:= .builtin .copy,args:= #[s,x],argTypes:= #[t,tx]},ty,pos,af,gd⟩ (.val (.sc (.int .i64 (vs.length:Nat))),H.set b (dat false ne 1 bt (us.take eo ++ vs ++ us.drop (eo+vs.length))),nx):=by
 have hr:=BsIs.rdv (P:=P) hv
 unfold RdV at hr
 have hmin:min vs.length n=vs.length:=Nat.min_eq_left hn
 have htk:(vs.map SV.sc).take (vs.length*1)=vs.map SV.sc:=by rw [Nat.mul_one];exact JR (by simp)
 have hst:(dat false ne 1 bt us).setCells (eo*1) (vs.map .sc)=some (dat false ne 1 bt (us.take eo ++ vs ++ us.drop (eo+vs.length))):=by
  rw [Nat.mul_one]
  exact gZ vs us eo (by omega) (by omega) hv.1
 have hble:(Nat.beq 1 1 && Nat.ble (eo+n) ne)=true:=by rw [JN hne];rfl
 have hcp:ve P H nx t (.slu b eo n) v=some (.val (.sc (.int .i64 (vs.length:Nat))),H.set b (dat false ne 1 bt (us.take eo ++ vs ++ us.drop (eo+vs.length))),nx):=by
  unfold dat at hb hst ⊢
  simp only [ve,hu,hs,hr,hmin,htk,hb,hble,cond_true,e8,hst]
 refine jm ?_
 simp only [fZ,dF,hx0,hx,J6,eZ,hcp]
end
end Go.Sy
end
section
namespace Go.Proofs.YtnhmbonmlfeifaaGreat
open Go Go.Sy Go.Sl Go.RowKit
section
variable {H:au}{n nx:Nat}{p:List UInt8}
theorem tO{b:Nat}{mem:List UInt8}{left puts:Int}(hb:H.at' b=some (cT mem left puts))(hm:mem.length=131072)(hn:n<128){g:FuncId}{caps:List SV}(hme:b7 Tryz.prog g=true)(Fx:List UInt8→List UInt8×Nat)
 (hf: ∀ p H1 n1,aM (az mem n)=(p,0)→nx≤n1→(∀ m,m<nx→H1.at' m=H.at' m)→(Fx p).1.length=1024∧Fnc Tryz.prog g ([.agg (pgS p)] ++ caps) H1 n1 (fun q=>q.1=pgE (Fx p)∧n1≤q.2.2∧ ∀ m,m<n1→q.2.1.at' m=H1.at' m)):Fnc Tryz.prog 54 [ud b,.sc (.int .i64 (n:Int)),.fn (.func g) [] caps] H nx
 (fun q=>q.1=pgE (if(aM (az mem n)).2≠0 then(zeroP,13) else Fx (aM (az mem n)).1)∧nx≤q.2.2∧ ∀ m,m<nx→q.2.1.at' m=H.at' m):=by
 refine KE Tryz.func54 rfl rfl ?_
 refine aV fun hund=>?_
 have lb:=hund _ _ hb
 have hpl:=cG hm hn
 repeat first|refine be rfl rfl cq ?_|apply ah;rfl
 refine aE rfl rfl rfl (by kernel_rfl) (KD (sC (n:=n) (left:=left) (puts:=puts) (mem:=mem) (by(repeat(refine ab (by omega) ?_));exact hb) hm hn) ?_)
 rintro _ rfl
 dsimp only
 rcases l0 (p:=az mem n)with he|he
 ·obtain⟨p,hp⟩: ∃ p,aM (az mem n)=(p,0):=⟨_,Prod.ext rfl he⟩
  obtain⟨hpp,_,_⟩:=cj hp hpl
  rw [hp,Ka (fun h=>h rfl)]
  repeat first|apply bJ hpp aj;rfl;(focus((repeat(exact ac));done))|refine be rfl rfl cq ?_|apply ah;rfl|apply dA;rfl;rfl|apply bB hpp;rfl;(focus((repeat(exact ac));done))
  refine cQ (R:=fun H4 n4=>nx+1≤n4∧H4.at' nx=some (pgO zeroP)∧ ∀ m,m<nx→H4.at' m=H.at' m) ⟨by omega,by repeat(first|exact ac|refine ab (by omega) ?_),fun m hm=>by(repeat(refine ab (by omega) ?_));rfl⟩ ?_
  rintro H4 n4 ⟨h1,h2,h3⟩
  obtain⟨hfl,hfc⟩:=hf p H4 n4 hp (by omega) h3
  refine jH rfl rfl rfl rfl hme (KD hfc ?_)
  rintro⟨_,H5,n5⟩ ⟨rfl,g1,g2⟩
  dsimp only at g1 g2 ⊢
  have g3:H5.at' nx=some (pgO zeroP):=(g2 _ (by omega)).trans h2
  generalize Fx p=X at hfl ⊢
  obtain⟨x,e⟩:=X
  dsimp only at hfl ⊢
  repeat first|apply bJ hfl aj;rfl;assumption|apply ah;rfl
  ((apply bw Tryz.func54 (congrArg Array.toList Tryz.results54));(focus((apply KG rfl (KI (F.ag _ rfl) (by repeat(exact ac)) (bv hfl)));(repeat(first|exact KF|apply KH rfl)))))
  exact⟨rfl,by dsimp only;omega,fun m hm=>by(repeat(refine ab (by omega) ?_));exact(g2 m (by omega)).trans (h3 m hm)⟩
 ·rw [he,Kb (by decide)]
  repeat first|apply bJ aj aj;rfl;(focus((repeat(first|exact ac|refine ab (by omega) ?_));done))|refine be rfl rfl cq ?_|apply ah;rfl|refine cf (dm iD) rfl rfl rfl ?_|apply iA;rfl;decide
  ((apply bw Tryz.func54 (congrArg Array.toList Tryz.results54));(focus((apply KG rfl (KI (F.ag _ rfl) (by repeat(exact ac)) (bv aj)));(repeat(first|exact KF|apply KH rfl)))))
  exact⟨rfl,by dsimp only;omega,fun m hm=>by(repeat(refine ab (by omega) ?_));rfl⟩
def kc(k x:Nat)(p:List UInt8):List UInt8×Nat:=if(cm p k).2.2≠0 then(zeroP,6) else(bg p (ay p k) (bg (aS p k) 8 (beB x 8)),0)
theorem Dx{tb xb k x:Nat}(ht:H.at' tb=some (dJ (n:Int) (k:Int)))(hx:H.at' xb=some (aq 36 [.sc (.int .u64 (x:Int))]))(hxl:x≤4000)(hp:p.length=1024)(hr:bj p=true)(hof: ∀ j,j<ae p→ar p j≠0→(ofV (aS p j)).isSome=true):(kc k x p).1.length=1024∧Fnc Tryz.prog 58 [.agg (pgS p),.ptr tb 0,.ptr xb 0] H nx
 (fun q=>q.1=pgE (kc k x p)∧nx≤q.2.2∧ ∀ m,m<nx→q.2.1.at' m=H.at' m):=by
 by_cases hK:ae p≤k∨ar p k=0
 ·have hfd:cm p k=(0,0,6):=by unfold cm;split;rfl;rw [Kb (by omega)]
  have hv:kc k x p=(zeroP,6):=by unfold kc;rw [hfd,Kb (by decide)]
  rw [hv]
  refine⟨aj,?_⟩
  refine KE Tryz.func58 rfl rfl ?_
  refine aV fun hund=>?_
  have l1:=hund _ _ ht
  repeat first|refine be rfl rfl cq ?_|apply ah;rfl|apply aG;rfl;(focus((repeat(first|assumption|exact ac|refine ab (by omega) ?_));done));rfl|apply bB hp;rfl;(focus((repeat(first|exact ac|refine ab (by omega) ?_));done))
  refine aE rfl rfl rfl (by kernel_rfl) (KD (ti hp hr hK) ?_)
  rintro⟨_,H2,n2⟩ ⟨rfl,a3,a4⟩
  dsimp only at a3 a4 ⊢
  have b4:H2.at' (nx+1)=some (pgO zeroP):=(a4 _ (by omega)).trans (by repeat(exact ac))
  have bo: ∀ m,m<nx→H2.at' m=H.at' m:=fun m hm=>(a4 _ (by omega)).trans (by(repeat(refine ab (by omega) ?_));rfl)
  clear a4
  repeat first|apply bJ aj aj;rfl;assumption|apply ah;rfl|refine cf (dm iD) rfl rfl rfl ?_|apply iA;rfl;decide
  ((apply bw Tryz.func58 (congrArg Array.toList Tryz.results58));(focus((apply KG rfl (KI (F.ag _ rfl) (by repeat(exact ac)) (bv aj)));(repeat(first|exact KF|apply KH rfl)))))
  exact⟨rfl,by dsimp only;omega,fun m hm=>by(repeat(refine ab (by omega) ?_));exact bo m hm⟩
 ·have hs:ar p k≠0:=fun h=>hK (.inr h)
  have hn:k<ae p:=by omega
  have hfd:cm p k=(ay p k,ar p k,0):=by unfold cm;rw [Ka (by omega),Ka hs]
  have hv:kc k x p=(bg p (ay p k) (bg (aS p k) 8 (beB x 8)),0):=by unfold kc;rw [hfd,Ka (fun h=>h rfl)]
  have hb:=db hr hn hs
  have hil:=dL hp hb.2.2.2
  have hbl:=bL (aS p k)
  have h8:=bz x 8
  have h8b:=bL (beB x 8)
  have h20:20≤(aS p k).length:=by
   obtain⟨v,h⟩: ∃ v,ofV (aS p k)=some v:=by cases h:ofV (aS p k)with|some v=>exact⟨v,rfl⟩|none=>have:=hof k hn hs;rw [h] at this;cases this
   rw [of_eq] at h
   unfold ofR at h
   split at h
   ·cases h
   ·omega
  have hil2:(bg (aS p k) 8 (beB x 8)).length=ar p k:=(bS (by omega)).trans hil
  have hpl:(bg p (ay p k) (bg (aS p k) 8 (beB x 8))).length=1024:=(bS (by omega)).trans hp
  have hnew:(byV (aS p k)).take 8 ++ byV (beB x 8) ++ (byV (aS p k)).drop (8+(byV (beB x 8)).length)=byV (bg (aS p k) 8 (beB x 8)):=by
   unfold bg
   rw [ku,ku,h8b]
   simp only [byV,List.map_take,List.map_drop]
  rw [hv]
  refine⟨hpl,?_⟩
  refine KE Tryz.func58 rfl rfl ?_
  refine aV fun hund=>?_
  have l1:=hund _ _ ht
  have l2:=hund _ _ hx
  repeat first|refine be rfl rfl cq ?_|apply ah;rfl|apply aG;rfl;(focus((repeat(first|assumption|exact ac|refine ab (by omega) ?_));done));rfl|apply bB hp;rfl;(focus((repeat(first|exact ac|refine ab (by omega) ?_));done))
  refine aE rfl rfl rfl (by kernel_rfl) (KD (uT hp hr hn hs) ?_)
  rintro⟨_,H2,n2⟩ ⟨r,rfl,a1,a2,a3,a4⟩
  dsimp only at a1 a3 a4 ⊢
  have b3:H2.at' nx=some (pgO p):=(a4 _ (by omega)).trans (by repeat(first|exact ac|refine ab (by omega) ?_))
  have b4:H2.at' (nx+1)=some (pgO zeroP):=(a4 _ (by omega)).trans (by repeat(exact ac))
  have bo: ∀ m,m<nx→H2.at' m=H.at' m:=fun m hm=>(a4 _ (by omega)).trans (by(repeat(refine ab (by omega) ?_));rfl)
  have bx:=(bo xb l2).trans hx
  have bt:=(bo tb l1).trans ht
  clear a4
  repeat first|apply ah;rfl|apply aG;rfl;assumption;rfl|apply dA;rfl;rfl
  refine aE rfl rfl rfl (by kernel_rfl) (KD (BP (n:=x) (size:=8) (by have:(256:Nat) ^ 8=18446744073709551616:=rfl;omega) (by decide) (by decide) (by omega)) ?_)
  rintro⟨_,H3,n3⟩ ⟨rfl,c1,rfl,c3⟩
  dsimp only at c1 c3 ⊢
  repeat first|apply ah;rfl|refine DX (lw:=8) (hg:=16) rfl rfl rfl (F.un _ rfl) (F.sz _ rfl) (by exact(c3 r a3).trans a1) rfl rfl (by decide) (by omega) (by omega) ?_
  refine dj rfl (.inr (fun _ h=>by cases h)) (BY (b:=r) (eo:=0+8) (n:=16-8) (vs:=byV (beB x 8)) (us:=byV (aS p k)) (ne:=(byV (aS p k)).length) (bt:=5) (F.un _ rfl) (F.sz _ rfl) rfl rfl (by exact(c3 r a3).trans a1) (jz c1 h8) (by omega) (by omega) rfl) ?_
  rw [aK rfl,show(byV (aS p k)).take (0+8) ++ byV (beB x 8) ++ (byV (aS p k)).drop (0+8+(byV (beB x 8)).length)=byV (bg (aS p k) 8 (beB x 8))from hnew,show(byV (aS p k)).length=(bg (aS p k) 8 (beB x 8)).length by omega]
  have d0:(H3.set r (u8R false (byV (bg (aS p k) 8 (beB x 8))))).at' r=some (u8R false (byV (bg (aS p k) 8 (beB x 8)))):=ai _ _ _
  have hset:=fun(H:au) nx (h:H.at' r=some (u8R false (byV (bg (aS p k) 8 (beB x 8)))))=>Hq (H:=H) (nx:=nx) (n:=k) (s:= .slu r 0 (aS p k).length) hp hr hn hs (by have:=ju h;rwa [hil2,←hil] at this) hil2
  rw [← bL (bg (aS p k) 8 (beB x 8))]
  refine cQ (R:=fun H4 n4=>nx+1+1≤n4∧H4.at' r=some (u8R false (byV (bg (aS p k) 8 (beB x 8))))∧H4.at' nx=some (pgO p)∧H4.at' (nx+1)=some (pgO zeroP)∧H4.at' tb=some (dJ (n:Int) (k:Int))∧ ∀ m,m<nx→H4.at' m=H.at' m)
   ⟨by omega,ai _ _ _,by(repeat(refine ab (by omega) ?_));exact(c3 _ (by omega)).trans b3,by(repeat(refine ab (by omega) ?_));exact(c3 _ (by omega)).trans b4,by(repeat(refine ab (by omega) ?_));exact(c3 _ (by omega)).trans bt,fun m hm=>by(repeat(refine ab (by omega) ?_));exact(c3 _ (by omega)).trans (bo m hm)⟩ ?_
  rintro H4 n4 ⟨e0,e1,e2,e3,e4,e5⟩
  generalize bg p (ay p k) (bg (aS p k) 8 (beB x 8))=p2 at hpl hset ⊢
  repeat first|apply bB hp;rfl;assumption|apply bJ hpl aj;rfl;assumption|apply ah;rfl|apply aG;rfl;assumption;rfl|apply bW;rfl;kernel_rfl;exact hset _ _ e1
  ((apply bw Tryz.func58 (congrArg Array.toList Tryz.results58));(focus((apply KG rfl (KI (F.ag _ rfl) (by repeat(exact ac)) (bv hpl)));(repeat(first|exact KF|apply KH rfl)))))
  exact⟨rfl,by dsimp only;omega,fun m hm=>by(repeat(refine ab (by omega) ?_));exact e5 m hm⟩
def pn(pf:Nat→List UInt8)(n:Nat)(Fx:List UInt8→List UInt8×Nat):List UInt8×Nat:=if(aM (pf n)).2≠0 then(zeroP,13) else Fx (aM (pf n)).1
def kQ(pf:Nat→List UInt8)(n k:Int)(x:Nat):Nat×Option (Nat×List UInt8):=
 if 4000<x∨lQ n k=false then(2,none)
 else if(pn pf n.toNat (kc k.toNat x)).2≠0 then((pn pf n.toNat (kc k.toNat x)).2,none)
 else(0,some (n.toNat,(pn pf n.toNat (kc k.toNat x)).1))
theorem wU{a:Nat}:Fnc Tryz.prog 57 [.ptr a 0] H nx (fun q=>q=(.tup [],H,nx)):=by
 refine KE Tryz.func57 rfl rfl ?_
 repeat first|apply ah;rfl|apply jG;rfl;rfl|refine cf (jO rfl Tryz.underlying20) rfl rfl rfl ?_
 (apply C6 Tryz.func57 Tryz.results57;rfl)
 rfl
theorem E0{b x:Nat}{n k:Int}{mem:List UInt8}{left puts:Int}(hb:H.at' b=some (cT mem left puts))(hm:mem.length=131072)(hl:left≠0)(hl2 : -1000000000≤left∧left≤1000000000)(hputs : -1000000000≤puts∧puts≤1000000000):Fnc Tryz.prog 22 [ud b,.agg [.sc (.int .i64 n),.sc (.int .i64 k)],.sc (.int .u64 (x:Int))] H nx
 (fun q=>q.1 = .sc (.int .i64 ((kQ (az mem) n k x).1:Int))∧q.2.1.at' b=some (putO mem left puts (kQ (az mem) n k x).2)∧nx≤q.2.2∧ ∀ m,m<nx→m≠b→q.2.1.at' m=H.at' m):=by
 refine KE Tryz.func22 rfl rfl ?_
 refine aV fun hund=>?_
 have lb:=hund _ _ hb
 repeat first|apply ah;rfl|apply aG;rfl;(focus((repeat(first|exact ac|refine ab (by omega) ?_));done));rfl|apply lF;rfl;rfl;rfl;(focus(kernel_rfl))|refine cf (fm rfl rfl Tryz.underlying75 rfl) rfl rfl rfl ?_
 refine dI rfl rfl rfl rfl (fun h1=>?_) (fun h1=>?_)
 ·have hM:kQ (az mem) n k x=(2,none):=by unfold kQ;rw [Kb (.inl (by omega))]
  rw [hM]
  repeat first|apply ah;rfl|apply aG;rfl;(focus((repeat(exact ac));done));rfl
  refine eJ Tryz.func22 (congrArg Array.toList Tryz.results22) (by kernel_rfl) (KD wU ?_)
  rintro _ rfl
  refine⟨_,(by(repeat(first|exact KF|apply KG rfl (KJ (F.ag _ rfl) (by repeat(exact ac)) (aD rfl))))),?_⟩
  dsimp only
  exact⟨rfl,by(repeat(refine ab (by omega) ?_));exact hb,by omega,fun m hm _=>by(repeat(refine ab (by omega) ?_));rfl⟩
 ·cases hmay:lQ n k with
  | false=>
    have hM:kQ (az mem) n k x=(2,none):=by unfold kQ;rw [Kb (.inr hmay)]
    rw [hM]
    have hmy:=fun(H:au) nx=>Ag (H:=H) (nx:=nx) (n:=n) (k:=k)
    rw [hmay] at hmy
    repeat first|apply ah;rfl|apply aG;rfl;(focus((repeat(first|exact ac|refine ab (by omega) ?_));done));rfl|apply bW;rfl;kernel_rfl;exact hmy _ _
    refine eJ Tryz.func22 (congrArg Array.toList Tryz.results22) (by kernel_rfl) (KD wU ?_)
    rintro _ rfl
    refine⟨_,(by(repeat(first|exact KF|apply KG rfl (KJ (F.ag _ rfl) (by repeat(exact ac)) (aD rfl))))),?_⟩
    dsimp only
    exact⟨rfl,by(repeat(refine ab (by omega) ?_));exact hb,by omega,fun m hm _=>by(repeat(refine ab (by omega) ?_));rfl⟩
  | true=>
    have hmd:32≤n∧n<128∧0≤k:=Km hmay
    obtain⟨N,rfl⟩: ∃ N:Nat,n=(N:Int):=⟨n.toNat,by omega⟩
    obtain⟨K,rfl⟩: ∃ K:Nat,k=(K:Int):=⟨k.toNat,by omega⟩
    have hmy:=fun(H:au) nx=>Ag (H:=H) (nx:=nx) (n:=(N:Int)) (k:=(K:Int))
    rw [hmay] at hmy
    have hM:kQ (az mem) (N:Int) (K:Int) x=if(pn (az mem) N (kc K x)).2≠0 then((pn (az mem) N (kc K x)).2,none) else(0,some (N,(pn (az mem) N (kc K x)).1)):=by
     unfold kQ
     rw [Ka (by rw [hmay];intro h;rcases h with h|h;omega;cases h),Ks,Ks]
    rw [hM]
    repeat first|apply ah;rfl|apply aG;rfl;(focus((repeat(first|exact ac|refine ab (by omega) ?_));done));rfl|apply bW;rfl;kernel_rfl;exact hmy _ _
    refine aE rfl rfl rfl (by kernel_rfl) (KD (tO (b:=b) (n:=N) (mem:=mem) (left:=left) (puts:=puts) (by(repeat(refine ab (by omega) ?_));exact hb) hm (by omega) (g:=58) (caps:= [.ptr nx 0,.ptr (nx+1) 0]) (by kernel_rfl) (kc K x) ?_) ?_)
    ·intro p H1 n1 hrd hn1 ho
     obtain⟨hpp,hr,hof⟩:=cj hrd (cG hm (by omega))
     exact Dx (tb:=nx) (xb:=nx+1) (n:=N) ((ho nx (by omega)).trans (by repeat(first|exact ac|refine ab (by omega) ?_))) ((ho (nx+1) (by omega)).trans (by repeat(first|exact ac|refine ab (by omega) ?_))) (by omega) hpp hr hof
    ·rintro⟨_,H4,n4⟩ ⟨rfl,g1,g2⟩
     have hcl:(pn (az mem) N (kc K x)).1.length=1024:=by
      unfold pn
      split
      ·exact aj
      ·rename_i h
       have h:=Decidable.not_not.1 h
       obtain⟨hpp,hr,hof⟩:=cj (q:=(aM (az mem N)).1) (Prod.ext rfl h) (cG hm (by omega))
       exact(Dx (H:=(Tr.set (Tr.set H 0 (dJ (N:Int) (K:Int))) 1 (aq 36 [.sc (.int .u64 (x:Int))]))) (nx:=nx) (tb:=0) (xb:=1) (n:=N) (aa _ _ (by decide) |>.trans (ai _ _ _)) (ai _ _ _) (by omega) hpp hr hof).1
     have hch:(if(aM (az mem N)).2≠0 then(zeroP,13) else kc K x (aM (az mem N)).1)=pn (az mem) N (kc K x):=rfl
     rw [hch]
     generalize pn (az mem) N (kc K x)=C at hcl ⊢
     obtain⟨Cx,Ce⟩:=C
     dsimp only at g1 g2 hcl ⊢
     have gb:H4.at' b=some (cT mem left puts):=(g2 _ (by omega)).trans (by(repeat(refine ab (by omega) ?_));exact hb)
     have g6:H4.at' (nx+1+1)=some (fB 0):=(g2 _ (by omega)).trans (by repeat(exact ac))
     have g4:H4.at' nx=some (dJ (N:Int) (K:Int)):=(g2 _ (by omega)).trans (by repeat(first|exact ac|refine ab (by omega) ?_))
     have go: ∀ m,m<nx→H4.at' m=H.at' m:=fun m hm=>(g2 _ (by omega)).trans (by(repeat(refine ab (by omega) ?_));rfl)
     by_cases he:Ce=0
     ·subst he
      rw [Ka (fun h=>h rfl)]
      repeat first|apply bJ hcl aj;rfl;(focus((repeat(exact ac));done))|refine be rfl rfl cq ?_|apply ah;rfl|apply aG;rfl;(focus((repeat(first|assumption|exact ac|refine ab (by omega) ?_));done));rfl|apply dA;rfl;rfl|apply bB hcl;rfl;(focus((repeat(first|exact ac|refine ab (by omega) ?_));done))
      refine lU 141 rfl rfl rfl rfl (by kernel_rfl) (KD (vV (n:=N) (mem:=mem) (by(repeat(refine ab (by omega) ?_));exact gb) hm (by omega) hcl hl hl2 hputs) ?_)
      rintro⟨_,H5,n5⟩ ⟨rfl,d1,d2,d3⟩
      dsimp only at d1 d2 d3 ⊢
      have d5:H5.at' (nx+1+1)=some (fB 0):=(d3 _ (by omega) (by omega)).trans (by repeat(exact ac))
      have dold: ∀ m,m<nx→m≠b→H5.at' m=H.at' m:=fun m hm hmb=>(d3 _ (by omega) hmb).trans (by(repeat(refine ab (by omega) ?_));exact go m hm)
      clear d3
      repeat first|apply ah;rfl|apply aG;rfl;assumption;rfl
      refine eJ Tryz.func22 (congrArg Array.toList Tryz.results22) (by kernel_rfl) (KD wU ?_)
      rintro _ rfl
      refine⟨_,(by(repeat(first|exact KF|apply KG rfl (KJ (F.ag _ rfl) (by repeat(exact ac)) (aD rfl))))),?_⟩
      dsimp only
      exact⟨rfl,by(repeat(refine ab (by omega) ?_));exact d1,by omega,fun m h1 h2=>by(repeat(refine ab (by omega) ?_));exact dold m h1 h2⟩
     ·rw [Kb he]
      repeat first|apply bJ hcl aj;rfl;(focus((repeat(exact ac));done))|refine be rfl rfl cq ?_|apply ah;rfl|apply aG;rfl;(focus((repeat(first|assumption|exact ac|refine ab (by omega) ?_));done));rfl|apply iA;rfl;omega
      refine eJ Tryz.func22 (congrArg Array.toList Tryz.results22) (by kernel_rfl) (KD wU ?_)
      rintro _ rfl
      refine⟨_,(by(repeat(first|exact KF|apply KG rfl (KJ (F.ag _ rfl) (by repeat(exact ac)) (aD rfl))))),?_⟩
      dsimp only
      exact⟨rfl,by(repeat(refine ab (by omega) ?_));exact gb,by omega,fun m hm _=>by(repeat(refine ab (by omega) ?_));exact go m hm⟩
abbrev intO(c:Nat):VO:=aq 3 [.sc (.int .i64 (c:Int))]
def dq(p:List UInt8):Nat→Nat
 | 0=>0
 | m+1=>if ar p m=0 then dq p m else m+1
def pj(p:List UInt8):List UInt8:=if dq p (ae p)=0 then cw (cw p 14 (dq p (ae p))) 16 1024 else cw p 14 (dq p (ae p))
def gO(p:List UInt8)(n:Nat):List UInt8×Nat:=
 if bj p=false then(zeroP,4) else if(cm p n).2.2≠0 then(zeroP,(cm p n).2.2) else(pj (bP p n 0 0),0)
theorem Jm(hp:p.length=1024):Fnc Tryz.prog 99 [.agg (pgS p),.sc (.int .i64 (n:Int))] H nx (fun q=>q.1=pgE (gO p n)∧nx≤q.2.2∧ ∀ m,m<nx→q.2.1.at' m=H.at' m):=by
 refine KE Tryz.func99 rfl rfl ?_
 refine aV fun hund=>?_
 repeat first|refine be rfl rfl cq ?_|apply ah;rfl
 have hb1:((H.set nx (pgO p)).set (nx+1) (pgO zeroP)).at' nx=some (pgO p):=by repeat(first|exact ac|refine ab (by omega) ?_)
 have hz1:((H.set nx (pgO p)).set (nx+1) (pgO zeroP)).at' (nx+1)=some (pgO zeroP):=by repeat(exact ac)
 have ho1: ∀ m,m<nx→((H.set nx (pgO p)).set (nx+1) (pgO zeroP)).at' m=H.at' m:=fun m hm=>by(repeat(refine ab (by omega) ?_));rfl
 generalize (H.set nx (pgO p)).set (nx+1) (pgO zeroP)=H1 at hb1 hz1 ho1 ⊢
 cases hr:bj p with
 | false=>
   have hv:gO p n=(zeroP,4):=by unfold gO;rw [Kb hr]
   have hrs:=fun nx=>gG (nx:=nx) hb1 hp
   rw [hr] at hrs
   repeat first|apply bJ aj aj;rfl;assumption|apply ah;rfl|apply bW;rfl;kernel_rfl;exact hrs _|refine cf (dm iD) rfl rfl rfl ?_
   ((apply bw Tryz.func99 (congrArg Array.toList Tryz.results99));(focus((apply KG rfl (KI (F.ag _ rfl) (by repeat(exact ac)) (bv aj)));(repeat(first|exact KF|apply KH rfl)))))
   exact⟨by rw [hv];rfl,by dsimp only;omega,fun m hm=>(aa _ _ (by omega)).trans (ho1 m hm)⟩
 | true=>
   have hf:=fK hp hr
   have hrs:=fun nx=>gG (nx:=nx) hb1 hp
   rw [hr] at hrs
   repeat first|apply ah;rfl|apply bW;rfl;kernel_rfl;exact hrs _
   refine bu rfl rfl rfl rfl (fun hq=>absurd hq (by omega)) (fun _=>?_)
   repeat first|apply ah;rfl|apply bW;rfl;kernel_rfl;exact wL hb1 hf
   refine lT rfl rfl rfl rfl (fun h1=>?_) (fun h1=>?_)
   ·have hv:gO p n=(zeroP,(cm p n).2.2):=by unfold gO;rw [Ka (by rw [hr];decide),Kb (by omega)]
    repeat first|apply bJ aj aj;rfl;assumption|apply ah;rfl|refine cf (dm iD) rfl rfl rfl ?_
    ((apply bw Tryz.func99 (congrArg Array.toList Tryz.results99));(focus((apply KG rfl (KI (F.ag _ rfl) (by repeat(exact ac)) (bv aj)));(repeat(first|exact KF|apply KH rfl)))))
    exact⟨by rw [hv];rfl,by dsimp only;omega,fun m hm=>(aa _ _ (by omega)).trans (ho1 m hm)⟩
   ·have hv:gO p n=(pj (bP p n 0 0),0):=by unfold gO;rw [Ka (by rw [hr];decide),Ka (by omega)]
    have hn:n<ae p:=by
     rcases Kd n (ae p)with h|h
     ·exact h
     ·exfalso
      have:(cm p n).2.2=6:=by unfold cm;rw [Kb h]
      omega
    have hf1:=hf.2.1
    have hf2:=hf.2.2
    repeat apply ah;rfl
    refine aE rfl rfl rfl (by kernel_rfl) (KD (qO hb1 hp (n:=n) (a:=0) (s:=0) (by omega) (by omega) (by omega)) ?_)
    rintro⟨_,H2,n2⟩ ⟨rfl,q2,q3,q4⟩
    dsimp only at q2 q3 q4 ⊢
    have hp1:(bP p n 0 0).length=1024:=by rw [fH (by omega)];exact hp
    have hsl:ae (bP p n 0 0)=ae p:=by
     unfold bP
     rw [show ae (cw (cw p (18+4*n) 0) (18+4*n+2) 0)=gu (cw (cw p (18+4*n) 0) (18+4*n+2) 0) 14 from rfl,cZ (by rw [bI (by omega)];omega) (by omega),cZ (by omega) (by omega)]
    have k2: ∀ m,m<nx→H2.at' m=H.at' m:=fun m hm=>(q4 m (by omega) (by omega)).trans (ho1 m hm)
    have hz2:H2.at' (nx+1)=some (pgO zeroP):=(q4 _ (by omega) (by omega)).trans hz1
    have hb0: ∀ {vo:VO},(H2.set n2 vo).at' nx=some (pgO (bP p n 0 0)):=fun {vo}=>(aa _ _ (by omega)).trans q2
    generalize bP p n 0 0=p1 at hv q2 hp1 hsl hb0 ⊢
    repeat first|apply ah;rfl|apply bW;rfl;kernel_rfl;exact mr|apply bW;rfl;kernel_rfl;exact jc hb0 hp1
    refine bE (α:=Nat) (fun m=> [(2,.ptr nx 0),(4,.ptr (nx+1) 0),(9,EW n2),(10,.sc (.int .i64 (m:Int)))])
     (fun m H3 n3=>n3=n2+1∧m≤ae p1∧dq p1 m=dq p1 (ae p1)∧H3=H2.set n2 (Cj nx)) (fun m=>m) (ae p1)
     ⟨rfl,JZ _,rfl,rfl⟩ (KK (KN rfl)) ?_
    rintro m H3 n3 ⟨rfl,h3,h4,rfl⟩ ih
    repeat apply ah;rfl
    refine dI rfl rfl rfl rfl (fun h5=>?_) (fun h5=>?_)
    ·obtain⟨k,rfl⟩: ∃ k,m=k+1:=⟨m-1,by omega⟩
     repeat first|apply ah;rfl|apply aL;rfl;omega;omega
     rw [show(((k+1:Nat)):Int)-1=(k:Int) by omega]
     refine jH rfl rfl rfl rfl (by kernel_rfl) (KD (ot (ai _ _ _) hb0 hp1 (n:=k) (by omega)) ?_)
     rintro _ rfl
     dsimp only
     repeat apply ah;rfl
     refine lT rfl rfl rfl rfl (fun e1=>?_) (fun e1=>?_)
     ·have hM:dq p1 (ae p1)=k+1:=by rw [← h4];show(if ar p1 k=0 then dq p1 k else k+1)=_;rw [Ka (by omega)]
      have hcut:pj p1=cw p1 14 (k+1):=by unfold pj;rw [hM,Ka (by omega)]
      repeat apply ah;rfl
      refine aE rfl rfl rfl (by kernel_rfl) (KD (pI hb0 hp1 (o:=14) (n:=k+1) (by decide) (by omega)) ?_)
      rintro⟨_,H4,n4⟩ ⟨rfl,r2,r3,r4⟩
      dsimp only at r2 r3 r4 ⊢
      have hz4:H4.at' (nx+1)=some (pgO zeroP):=(r4 _ (by omega) (by omega)).trans ((aa _ _ (by omega)).trans hz2)
      have hp4:(cw p1 14 (k+1)).length=1024:=by rw [bI (by omega)];exact hp1
      have k4: ∀ m,m<nx→H4.at' m=H.at' m:=fun m hm=>(r4 m (by omega) (by omega)).trans ((aa _ _ (by omega)).trans (k2 m hm))
      generalize cw p1 14 (k+1)=pL at hcut r2 hp4
      repeat apply ah;rfl
      refine cF rfl rfl rfl rfl (fun hq=>absurd hq (by omega)) (fun _=>?_)
      repeat first|apply bB hp4;rfl;assumption|apply bJ hp4 aj;rfl;assumption|apply ah;rfl
      ((apply bw Tryz.func99 (congrArg Array.toList Tryz.results99));(focus((apply KG rfl (KI (F.ag _ rfl) (by repeat(exact ac)) (bv hp4)));(repeat(first|exact KF|apply KH rfl)))))
      exact⟨by rw [hv,hcut];rfl,by dsimp only;omega,fun m hm=>(aa _ _ (by omega)).trans (k4 m hm)⟩
     ·have hk:dq p1 k=dq p1 (ae p1):=by rw [← h4];show _=(if ar p1 k=0 then dq p1 k else k+1);rw [Kb (by omega)]
      repeat first|apply ah;rfl|apply aL;rfl;omega;omega
      rw [show(((k+1:Nat)):Int)-1=(k:Int) by omega]
      exact ih _ _ _ k ⟨rfl,by omega,hk,rfl⟩ (by omega) (KK (KN rfl))
    ·obtain rfl:m=0:=by omega
     have hM:dq p1 (ae p1)=0:=h4.symm
     have hcut:pj p1=cw (cw p1 14 0) 16 1024:=by unfold pj;rw [hM,Kb rfl]
     repeat apply ah;rfl
     refine aE rfl rfl rfl (by kernel_rfl) (KD (pI hb0 hp1 (o:=14) (n:=0) (by decide) (by omega)) ?_)
     rintro⟨_,H4,n4⟩ ⟨rfl,r2,r3,r4⟩
     dsimp only at r2 r3 r4 ⊢
     have hz4:H4.at' (nx+1)=some (pgO zeroP):=(r4 _ (by omega) (by omega)).trans ((aa _ _ (by omega)).trans hz2)
     have hp4:(cw p1 14 0).length=1024:=by rw [bI (by omega)];exact hp1
     have k4: ∀ m,m<nx→H4.at' m=H.at' m:=fun m hm=>(r4 m (by omega) (by omega)).trans ((aa _ _ (by omega)).trans (k2 m hm))
     repeat apply ah;rfl
     refine cF rfl rfl rfl rfl (fun _=>?_) (fun hq=>absurd rfl hq)
     repeat apply ah;rfl
     refine aE rfl rfl rfl (by kernel_rfl) (KD (pI r2 hp4 (o:=16) (n:=1024) (by decide) (by decide)) ?_)
     rintro⟨_,H5,n5⟩ ⟨rfl,u2,u3,u4⟩
     dsimp only at u2 u3 u4 ⊢
     have hz5:H5.at' (nx+1)=some (pgO zeroP):=(u4 _ (by omega) (by omega)).trans hz4
     have hp5:(cw (cw p1 14 0) 16 1024).length=1024:=by rw [bI (by omega)];exact hp4
     have k5: ∀ m,m<nx→H5.at' m=H.at' m:=fun m hm=>(u4 m (by omega) (by omega)).trans (k4 m hm)
     generalize cw (cw p1 14 0) 16 1024=pL at hcut u2 hp5
     repeat first|apply bB hp5;rfl;assumption|apply bJ hp5 aj;rfl;assumption|apply ah;rfl
     ((apply bw Tryz.func99 (congrArg Array.toList Tryz.results99));(focus((apply KG rfl (KI (F.ag _ rfl) (by repeat(exact ac)) (bv hp5)));(repeat(first|exact KF|apply KH rfl)))))
     exact⟨by rw [hv,hcut];rfl,by dsimp only;omega,fun m hm=>(aa _ _ (by omega)).trans (k5 m hm)⟩
theorem Jl(hp:p.length=1024):Fnc Tryz.prog 99 [.agg (pgS p),.sc (.int .i64 (n:Int))] H nx (fun q=>q=(pgE (gO p n),H,nx)):=Fnc.bA (hY _) (Jm hp)
theorem oz(p:List UInt8): ∀ m,dq p m≤m∧(∀ j,dq p m≤j→j<m→ar p j=0)∧(0<dq p m→ar p (dq p m-1)≠0)
 | 0=>⟨JZ _,fun j _ h=>absurd h (Nat.not_lt_zero _),fun h=>absurd h (Nat.lt_irrefl _)⟩
 | m+1=>by
   unfold dq
   split
   ·rename_i h
    obtain⟨h1,h2,h3⟩:=oz p m
    refine⟨by omega,fun j h4 h5=>?_,h3⟩
    rcases Kd j m with h6|h6
    ·exact h2 j h4 h6
    ·obtain rfl:j=m:=by omega
     exact h
   ·rename_i h
    exact⟨JZ _,fun j h4 h5=>absurd h5 (by omega),fun _=>h⟩
abbrev lE(p:List UInt8)(n:Nat):List UInt8:=pj (bP p n 0 0)
end
structure Dps (p:List UInt8) (S:List Nat) (q:List UInt8):Prop where
 ok:Okp q
 slots:ae q≤ae p
 gone: ∀ j,ae q≤j→j<ae p→j∈S∨ar p j=0
 ptr0: ∀ j,j<ae p→j∈S→ay q j=0∧ar q j=0
 ptr: ∀ j,j<ae p→j∉S→ay q j=ay p j∧ar q j=ar p j
 begins:aF q=if ae q=0 then 1024 else aF p
 get: ∀ i,i<14∨18+4*ae p≤i→q[i]? =p[i]?
section
variable {n:Nat}{S S':List Nat}{p q:List UInt8}
theorem z9{o:Nat}(hp:o+2≤p.length)(hq:o+2≤q.length)(h:gu p o=gu q o):p[o]? =q[o]? ∧p[o+1]? =q[o+1]? :=by
 have e: ∀ {r:List UInt8} (hr:o+2≤r.length),gu r o=256*(r[o]'(by omega)).toNat+(r[o+1]'(by omega)).toNat:=fun {r} hr=>by
  have hd:(r.drop o).take 2= [r[o]'(by omega),r[o+1]'(by omega)]:=by
   rw [List.drop_eq_getElem_cons (by omega:o<r.length),List.drop_eq_getElem_cons (by omega:o+1<r.length)]
   rfl
  unfold gu
  rw [hd]
  simp [beN]
 rw [e hp,e hq] at h
 have h1:=(p[o+1]'(by omega)).toNat_lt
 have h2:=(q[o+1]'(by omega)).toNat_lt
 rw [JJ (by omega),JJ (by omega),JJ (by omega),JJ (by omega)]
 exact⟨congrArg some (UInt8.toNat_inj.1 (by omega)),congrArg some (UInt8.toNat_inj.1 (by omega))⟩
theorem ph(h:Okp p)(hn:n<ae p)(hs:ar p n≠0):Dps p [n] (lE p n):=by
 show Dps p [n] (pj (bP p n 0 0))
 have hp:=h.len
 have hh:=h.head
 have ht:=h.top
 have hxl:(bP p n 0 0).length=1024:=(fH (by omega)).trans hp
 have hxs:ae (bP p n 0 0)=ae p:=de (by omega) (by omega)
 have hxb:aF (bP p n 0 0)=aF p:=de (by omega) (by omega)
 have hf0:ay (bP p n 0 0) n=0:=kL (by omega) (by decide)
 have hz0:ar (bP p n 0 0) n=0:=mQ (by omega) (by decide)
 have hfo: ∀ j,j≠n→ay (bP p n 0 0) j=ay p j:=fun j hj=>de (by omega) (by omega)
 have hzo: ∀ j,j≠n→ar (bP p n 0 0) j=ar p j:=fun j hj=>de (by omega) (by omega)
 have hge: ∀ i,i<14∨18+4*ae p≤i→(bP p n 0 0)[i]? =p[i]? :=fun i hi=>jR (by omega) (by omega)
 generalize bP p n 0 0=x at hxl hxs hxb hf0 hz0 hfo hzo hge ⊢
 obtain⟨t1,t2,t3⟩:=oz x (ae x)
 rw [hxs] at t1 t2
 have hcut:pj x=if dq x (ae x)=0 then cw (cw x 14 (dq x (ae x))) 16 1024 else cw x 14 (dq x (ae x)):=rfl
 rw [hxs] at hcut t3
 generalize dq x (ae p)=m at t1 t2 t3 hcut
 have hl1:(cw x 14 m).length=1024:=(bI (by omega)).trans hxl
 have hql:(pj x).length=1024:=by rw [hcut];split;exact(bI (by omega)).trans hl1;exact hl1
 have hqn: ∀ o,18≤o→gu (pj x) o=gu x o:=fun o ho=>by
  rw [hcut]
  split
  ·exact(cZ (by omega) (by omega)).trans (cZ (by omega) (by omega))
  ·exact cZ (by omega) (by omega)
 have hqs:ae (pj x)=m:=by
  rw [hcut]
  split
  ·exact(cZ (by omega) (by omega)).trans (eV (by omega) (by omega))
  ·exact eV (by omega) (by omega)
 have hqb:aF (pj x)=if m=0 then 1024 else aF p:=by
  rw [hcut]
  split
  ·exact eV (by omega) (by decide)
  ·exact(cZ (by omega) (by omega)).trans hxb
 have hqg: ∀ i,i<14∨18≤i→(pj x)[i]? =x[i]? :=fun i hi=>by
  rw [hcut]
  split
  ·exact(fN (by omega) (by omega)).trans (fN (by omega) (by omega))
  ·exact fN (by omega) (by omega)
 generalize pj x=q at hql hqn hqs hqb hqg
 have hfq: ∀ j,ay q j=ay x j:=fun j=>hqn _ (by omega)
 have hzq: ∀ j,ar q j=ar x j:=fun j=>hqn _ (by omega)
 refine⟨⟨hql,?_,?_,fun hpos=>?_,fun j hj=>?_,fun i j hij hj hzi hzj=>?_⟩,by omega,fun j h1 h2=>?_,fun j h1 h2=>?_,fun j h1 h2=>?_,by rw [hqs];exact hqb,fun i hi=>(hqg i (by omega)).trans (hge i hi)⟩
 ·rw [hqs,hqb];split <;> omega
 ·rw [hqb];split <;> omega
 ·rw [hqs] at hpos ⊢
  rw [hzq]
  exact t3 hpos
 ·rw [hqs] at hj
  rw [hfq,hzq,hqb,Ka (by omega)]
  by_cases hjn:j=n
  ·subst hjn
   exact .inl ⟨hf0,hz0⟩
  ·rw [hfo j hjn,hzo j hjn]
   exact h.slot j (by omega)
 ·rw [hqs] at hj
  rw [hzq] at hzi hzj
  have hi:i≠n:=fun e=>by subst e;exact hzi hz0
  have hj2:j≠n:=fun e=>by subst e;exact hzj hz0
  rw [hzo _ hi] at hzi
  rw [hzo _ hj2] at hzj
  rw [hfq,hzq,hfq,hzq,hfo _ hi,hzo _ hi,hfo _ hj2,hzo _ hj2]
  exact h.apart i j hij (by omega) hzi hzj
 ·rw [hqs] at h1
  by_cases hjn:j=n
  ·exact .inl (by rw [hjn];exact Kg.2 rfl)
  ·have:=t2 j h1 h2
   rw [hzo j hjn] at this
   exact .inr this
 ·obtain rfl:=Kg.1 h2
  exact⟨(hfq _).trans hf0,(hzq _).trans hz0⟩
 ·have hjn:j≠n:=fun e=>h2 (by rw [e];exact Kg.2 rfl)
  exact⟨(hfq _).trans (hfo j hjn),(hzq _).trans (hzo j hjn)⟩
theorem Dps.there(h:Dps p S q)(hn:n<ae p)(hs:ar p n≠0)(hS:n∉S):n<ae q∧ar q n≠0:=by
 refine⟨?_,by rw [(h.ptr n hn hS).2];exact hs⟩
 rcases Kd n (ae q)with h1|h1
 ·exact h1
 ·rcases h.gone n h1 hn with h2|h2
  ·exact absurd h2 hS
  ·exact absurd h2 hs
theorem Dps.more(h:Dps p S q)(hn:n<ae p)(hs:ar p n≠0)(hS:n∉S):Dps p (n :: S) (lE q n):=by
 obtain⟨h1,h2⟩:=h.there hn hs hS
 have g:=ph h.ok h1 h2
 generalize lE q n=r at g
 have hsl:=h.slots
 have hgs:=g.slots
 have ho: ∀ j,j<ae p→j≠n→ay r j=ay q j∧ar r j=ar q j:=fun j hj hjn=>by
  rcases Kd j (ae q)with h3|h3
  ·exact g.ptr j h3 fun hm=>hjn (Kg.1 hm)
  ·exact⟨jj fun i h4 h5=>g.get i (by omega),jj fun i h4 h5=>g.get i (by omega)⟩
 refine⟨g.ok,by omega,fun j h3 h4=>?_,fun j h3 h4=>?_,fun j h3 h4=>?_,?_,fun i hi=>(g.get i (by omega)).trans (h.get i hi)⟩
 ·by_cases hjn:j=n
  ·exact .inl (by rw [hjn];exact Ki)
  ·by_cases hjS:j∈S
   ·exact .inl (Kj _ hjS)
   ·refine .inr ?_
    rw [← (h.ptr j h4 hjS).2]
    rcases Kd j (ae q)with h5|h5
    ·rcases g.gone j h3 h5 with h6|h6
     ·exact absurd (Kg.1 h6) hjn
     ·exact h6
    ·rcases h.gone j h5 h4 with h6|h6
     ·exact absurd h6 hjS
     ·rw [(h.ptr j h4 hjS).2];exact h6
 ·by_cases hjn:j=n
  ·subst hjn
   exact g.ptr0 j h1 (Kg.2 rfl)
  ·rcases Kp.1 h4 with h5|h5
   ·exact absurd h5 hjn
   ·have h6:=ho j h3 hjn
    have h7:=h.ptr0 j h3 h5
    exact⟨h6.1.trans h7.1,h6.2.trans h7.2⟩
 ·have hjn:j≠n:=fun e=>h4 (by rw [e];exact Ki)
  have h6:=ho j h3 hjn
  have h7:=h.ptr j h3 fun hm=>h4 (Kj _ hm)
  exact⟨h6.1.trans h7.1,h6.2.trans h7.2⟩
 ·have hb:=h.begins
  rw [Ka (by omega)] at hb
  rw [g.begins,hb]
theorem Dps.uniq{q':List UInt8}(hp:Okp p)(h:Dps p S q)(h':Dps p S' q')(hS: ∀ j,j∈S↔j∈S'):q=q':=by
 have hh:=hp.head
 have ht:=hp.top
 have lt: ∀ {q q':List UInt8} {S S':List Nat},Dps p S q→Dps p S' q'→(∀ j,j∈S↔j∈S')→ ¬ ae q<ae q':=fun {q q' S S'} h h' hS hlt=>by
  have h1:=h'.ok.last (by omega)
  have h2:=h'.slots
  rcases h.gone (ae q'-1) (by omega) (by omega)with h3|h3
  ·exact h1 (h'.ptr0 _ (by omega) ((hS _).1 h3)).2
  ·by_cases h4:ae q'-1∈S'
   ·exact h1 (h'.ptr0 _ (by omega) h4).2
   ·exact h1 ((h'.ptr _ (by omega) h4).2.trans h3)
 have hsl:ae q=ae q':=by
  have h1:=lt h h' hS
  have h2:=lt h' h fun j=>(hS j).symm
  omega
 have hb:aF q=aF q':=by rw [h.begins,h'.begins,hsl]
 have hpt: ∀ j,j<ae p→ay q j=ay q' j∧ar q j=ar q' j:=fun j hj=>by
  by_cases hjS:j∈S
  ·have h1:=h.ptr0 j hj hjS
   have h2:=h'.ptr0 j hj ((hS j).1 hjS)
   exact⟨h1.1.trans h2.1.symm,h1.2.trans h2.2.symm⟩
  ·have h1:=h.ptr j hj hjS
   have h2:=h'.ptr j hj fun hm=>hjS ((hS j).2 hm)
   exact⟨h1.1.trans h2.1.symm,h1.2.trans h2.2.symm⟩
 have hl:=h.ok.len
 have hl':=h'.ok.len
 have two: ∀ o i,o+2≤1024→gu q o=gu q' o→i=o∨i=o+1→q[i]? =q'[i]? :=fun o i ho hn hi=>by
  have:=z9 (by omega) (by omega) hn
  rcases hi with rfl|rfl
  ·exact this.1
  ·exact this.2
 refine Kv fun i=>?_
 by_cases h1:i<14∨18+4*ae p≤i
 ·rw [h.get i h1,h'.get i h1]
 ·by_cases h2:i<16
  ·exact two 14 i (by decide) hsl (by omega)
  ·by_cases h3:i<18
   ·exact two 16 i (by decide) hb (by omega)
   ·have hj:=hpt ((i-18) / 4) (by omega)
    by_cases h4:(i-18) % 4<2
    ·exact two (18+4*((i-18) / 4)) i (by omega) hj.1 (by omega)
    ·exact two (18+4*((i-18) / 4)+2) i (by omega) hj.2 (by omega)
def du(p:List UInt8)(S:List Nat):List UInt8:=S.foldl lE p
theorem dels{p:List UInt8}: ∀ (S A:List Nat) (q:List UInt8),Dps p A q→S.Nodup→(∀ n,n∈S→n∉A∧n<ae p∧ar p n≠0)→ ∃ B,(∀ j,j∈B↔j∈A∨j∈S)∧Dps p B (S.foldl lE q)
 | [],A,q,h,_,_=>⟨A,fun j=>by simp,h⟩
 | n :: S,A,q,h,hnd,hS=>by
   obtain⟨h1,h2,h3⟩:=hS n Ki
   rw [List.nodup_cons] at hnd
   obtain⟨B,hB,g⟩:=dels S (n :: A) (lE q n) (h.more h2 h3 h1) hnd.2 fun m hm=>by
    obtain⟨h4,h5⟩:=hS m (Kj _ hm)
    refine⟨fun h6=>?_,h5⟩
    rcases Kp.1 h6 with rfl|h6
    ·exact hnd.1 hm
    ·exact h4 h6
   refine⟨B,fun j=>?_,g⟩
   rw [hB,Kp,Kp]
   constructor
   ·rintro((h|h)|h)
    ·exact .inr (.inl h)
    ·exact .inl h
    ·exact .inr (.inr h)
   ·rintro(h|(h|h))
    ·exact .inl (.inr h)
    ·exact .inl (.inl h)
    ·exact .inr h
def Has(p:List UInt8)(S:List Nat):Prop:=S.Nodup∧ ∀ n,n∈S→n<ae p∧ar p n≠0
theorem m9(h:Okp p)(h0:S≠ [])(hS:Has p S): ∃ B,(∀ j,j∈B↔j∈S)∧Dps p B (du p S):=by
 cases S with
 | nil=>exact absurd rfl h0
 | cons n S=>
   obtain⟨h1,h2⟩:=hS
   rw [List.nodup_cons] at h1
   have h3:=h2 n Ki
   obtain⟨B,hB,g⟩:=dels S [n] (lE p n) (ph h h3.1 h3.2) h1.2 fun m hm=>⟨fun h6=>h1.1 (by rw [← Kg.1 h6];exact hm),h2 m (Kj _ hm)⟩
   refine⟨B,fun j=>?_,g⟩
   rw [hB,Kg,Kp]
theorem my(h:Okp p)(hS:Has p S):Okp (du p S):=by
 by_cases h0:S= []
 ·subst h0;exact h
 ·obtain⟨B,_,g⟩:=m9 h h0 hS
  exact g.ok
theorem vb(h:Okp p)(hS:Has p S)(hp:S.Perm S'):du p S=du p S':=by
 by_cases h0:S= []
 ·subst h0
  rw [← hp.nil_eq]
 ·have hS':Has p S':=⟨hp.nodup_iff.1 hS.1,fun n hn=>hS.2 n (hp.mem_iff.2 hn)⟩
  have h0':S'≠ []:=fun e=>by subst e;exact h0 hp.eq_nil
  obtain⟨B,hB,g⟩:=m9 h h0 hS
  obtain⟨B',hB',g'⟩:=m9 h h0' hS'
  exact g.uniq h g' fun j=>by rw [hB,hB',hp.mem_iff]
theorem Has.there(h:Okp p){A:List Nat}{B:List Nat}(hS:Has p (A ++ n :: B)):n<ae (du p A)∧ar (du p A) n≠0∧Okp (du p A):=by
 obtain⟨h1,h2⟩:=hS
 rw [List.nodup_append] at h1
 obtain⟨h3,h4,h5⟩:=h1
 have hA:Has p A:=⟨h3,fun m hm=>h2 m (List.mem_append_left _ hm)⟩
 have hn:=h2 n (List.mem_append_right _ Ki)
 have hok:=my h hA
 by_cases h0:A= []
 ·subst h0;exact⟨hn.1,hn.2,hok⟩
 ·obtain⟨C,hC,g⟩:=m9 h h0 hA
  obtain⟨h6,h7⟩:=g.there hn.1 hn.2 fun h8=>h5 n ((hC n).1 h8) n Ki rfl
  exact⟨h6,h7,hok⟩
def rS(p:List UInt8)(S:List Nat):List UInt8:=iM (du p S)
theorem AK(h:Okp p)(hS:Has p S)(hp:S.Perm S'):rS p S=rS p S':=by
 unfold rS
 rw [vb h hS hp]
theorem AU: ∀ (size n m:Nat),beB (n*256 ^ size+m) size=beB m size
 | 0,n,m=>rfl
 | size+1,n,m=>by
   rw [kW,kW]
   congr 1
   ·apply UInt8.toNat_inj.1
    rw [UInt8.toNat_ofNat',UInt8.toNat_ofNat']
    have h0:0<256 ^ size:=Nat.pow_pos (by decide)
    rw [show n*256 ^ (size+1)+m=m+256 ^ size*(n*256) by rw [Nat.pow_succ,Nat.add_comm,Nat.mul_comm (256 ^ size) 256,←Nat.mul_assoc,Nat.mul_comm (n*256)],Nat.add_mul_div_left _ _ h0]
    show(m / 256 ^ size+n*256) % 256=m / 256 ^ size % 256
    omega
   ·rw [show n*256 ^ (size+1)+m=(n*256)*256 ^ size+m by rw [Nat.pow_succ,Nat.mul_comm (256 ^ size) 256,←Nat.mul_assoc]]
    exact AU size (n*256) m
theorem AV: ∀ l:List UInt8,beB (beN l) l.length=l
 | []=>rfl
 | c :: l=>by
   have h0:0<256 ^ l.length:=Nat.pow_pos (by decide)
   have h1:=mD l
   rw [J2,kW,xc]
   congr 1
   ·rw [show c.toNat*256 ^ l.length+beN l=beN l+256 ^ l.length*c.toNat by rw [Nat.add_comm,Nat.mul_comm],Nat.add_mul_div_left _ _ h0,Nat.div_eq_of_lt h1,Kc]
    exact UInt8.ofNat_toNat
   ·exact(AU _ _ _).trans (AV l)
theorem xd{l:List UInt8}(h:l.length=n):beB (beN l) n=l:=by rw [← h];exact AV l
theorem Df{l:List UInt8}{v:gj}(h:ofV l=some v):l=aQ v:=by
 rw [of_eq] at h
 unfold ofR at h
 split at h
 ·cases h
 ·rename_i h1
  split at h
  ·cases h
  ·rename_i h2
   split at h
   ·rename_i h3
    obtain⟨h3,h4⟩:=h3
    have h:=(Option.some.inj h).symm
    subst h
    generalize hk:beN ((l.drop 16).take 2)=k at h2 h4
    have hver:nI l=((l.drop 18).take k,l.drop (20+k),beN (l.take 8),beN ((l.drop 8).take 8)):=by rw [← hk];rfl
    rw [hver]
    unfold aQ jr
    simp only
    have e1:(l.take 8).length=8:=by rw [Ke];omega
    have e2:((l.drop 8).take 8).length=8:=by rw [Ke,Kh];omega
    have e3:((l.drop 18).take k).length=k:=by rw [Ke,Kh];omega
    have e4:((l.drop 16).take 2).length=2:=by rw [Ke,Kh];omega
    have e5:((l.drop (18+k)).take 2).length=2:=by rw [Ke,Kh];omega
    rw [e3,←h4,xd e1,xd e2,xd e5,←hk,xd e4,hk]
    have c: ∀ a b:Nat,(l.drop a).take b ++ l.drop (a+b)=l.drop a:=fun a b=>by
     rw [← List.drop_drop]
     exact List.take_append_drop _ _
    have c1:=c 8 8
    have c2:=c 16 2
    have c3:=c 18 k
    have c4:=c (18+k) 2
    rw [show 18+k+2=20+k by omega] at c4
    rw [Kl,c4,c3,c2,c1,List.take_append_drop]
   ·cases h
end
structure GoodQ (p:List UInt8):Prop where
 ok:Okp p
 kind:kP p=4
 bare: ∀ i,i<12→p[i]? =some 0
 items: ∀ j,j<ae p→ar p j≠0→(ofV (aS p j)).isSome=true
section
variable {it p:List UInt8}
theorem GoodQ.right(h:GoodQ p):bj p=true:=(aZ h.ok.len).2 h.ok
theorem nl(hp:p.length=1024)(h: ∀ i,i<12→p[i]? =some 0):bareP p=p:=by
 refine Kv fun i=>?_
 unfold bareP
 by_cases h1:i<12
 ·rw [JW (by rw [Kn];exact h1),List.getElem?_replicate,Kb h1,h i h1]
 ·rw [Kk (by rw [Kn];omega),Kn,List.getElem?_drop,show 12+(i-12)=i by omega]
theorem GoodQ.bareP(h:GoodQ p):bareP p=p:=nl h.ok.len h.bare
theorem xX{q:List UInt8}(h:q[12]? =p[12]?):kP q=kP p:=by
 unfold kP
 rw [JU,JU,h]
theorem GoodQ.read(h:GoodQ p):aM p=(p,0):=by
 have hu:fE p=false:=by
  unfold fE
  rw [h.bareP]
  refine Ku fun e=>?_
  have hk:=h.kind
  rw [e] at hk
  exact absurd hk (by decide)
 unfold aM
 rw [Ka (by rw [hu];decide),Ka (fun g=>by
  rcases g with g|g
  ·rw [h.right] at g;cases g
  ·exact g h.kind),Ka]
 intro g
 unfold ug at g
 obtain⟨j,hj,g2⟩:=List.any_eq_true.1 g
 rw [JY] at g2
 have h1:=h.items j (Kw.1 hj) (Km g2.1)
 cases ho:ofV (aS p j)with
 | none=>rw [ho] at h1;cases h1
 | some v=>rw [ho] at g2;cases g2.2
theorem Hr{o n:Nat}(h:o+2≤p.length){i:Nat}(hi:i<o∨o+2≤i):(cw p o n)[i]? =p[i]? :=fN h hi
theorem good_init:GoodQ (fJ 4):=by
 have hl:(zeroP.set 12 4).length=1024:=by rw [List.length_set,aj]
 have hg: ∀ i,i<16→(fJ 4)[i]? =(zeroP.set 12 4)[i]? :=fun i hi=>Hr (by omega) (by omega)
 refine⟨okI 4,?_,fun i hi=>?_,fun j hj=>?_⟩
 ·rw [xX (p:=zeroP.set 12 4) (hg 12 (by decide))]
  rfl
 ·rw [hg i (by omega),List.getElem?_set_ne (by omega)]
  unfold zeroP
  rw [List.getElem?_replicate,Kb (by omega)]
 ·have:=y8 4
  omega
def GoodP(p:List UInt8):Prop:=p=zeroP∨GoodQ p
theorem GoodP.len(h:GoodP p):p.length=1024:=by
 rcases h with rfl|h
 ·exact aj
 ·exact h.ok.len
theorem bare_zero:bareP zeroP=zeroP:=nl aj fun i hi=>by
 unfold zeroP
 rw [List.getElem?_replicate,Kb (by omega)]
theorem GoodP.bareP(h:GoodP p):bareP p=p:=by
 rcases h with rfl|h
 ·exact bare_zero
 ·exact h.bareP
theorem readZ:aM zeroP=(fJ 4,0):=by
 unfold aM
 rw [Kb (by unfold fE;rw [bare_zero];exact Kt rfl)]
theorem GoodP.read(h:GoodP p): ∃ q,aM p=(q,0)∧GoodQ q:=by
 rcases h with rfl|h
 ·exact⟨_,readZ,good_init⟩
 ·exact⟨p,h.read,h⟩
theorem oX(h:GoodQ p):GoodQ (iM p):=by
 have g:=oL h.ok
 refine⟨g.ok h.ok,?_,fun i hi=>(g.low i (by omega)).trans (h.bare i hi),fun j hj hz=>?_⟩
 ·rw [xX (g.low 12 (by decide))]
  exact h.kind
 ·have hj:j<ae p:=by have:=g.slots;omega
  rw [g.sizes j hj] at hz
  rw [g.item j hj hz]
  exact h.items j hj hz
theorem xZ(h:GoodQ p):GoodQ (gm p it):=by
 unfold gm
 split
 ·unfold iN
  rw [Kb h.right]
  exact oX h
 ·exact h
theorem EL(h:(mI p it).2.2=0):bj p=true∧1≤it.length∧it.length≤1000∧it.length≤fg p∧mI p it=(oT p it,aY p,0):=by
 unfold mI at h ⊢
 split at h
 ·cases h
 ·rename_i hr
  rw [Ka hr]
  have hr:bj p=true:=by cases h:bj p with|true=>rfl|false=>exact absurd h hr
  split at h
  ·cases h
  ·rename_i h1
   rw [Ka h1]
   split at h
   ·cases h
   ·rename_i h2
    rw [Ka h2]
    exact⟨hr,by omega,by omega,by omega,rfl⟩
theorem Cf(h:GoodQ p)(hit:(ofV it).isSome=true)(he:(eW p it).2.2=0):GoodQ (eW p it).1:=by
 have hq:=xZ (it:=it) h
 unfold eW at he ⊢
 generalize gm p it=q at hq he ⊢
 obtain⟨h1,h2,h3,h4,h5⟩:=EL he
 rw [h5]
 dsimp only
 have g:=laid hq.ok h3 h4 h2
 obtain⟨g1,g2⟩:=g.items hq.ok
 refine⟨g.ok hq.ok h3 h4 h2,?_,fun i hi=>(g.get i (by omega)).trans (hq.bare i hi),fun j hj hz=>?_⟩
 ·rw [xX (g.get 12 (by omega))]
  exact hq.kind
 ·by_cases hje:j=aY q
  ·rw [hje,g1]
   exact hit
  ·have hj2:j<ae q:=by
    have:=g.slots
    have h6:=(gN q).2.2
    unfold jC at this
    split at this <;> omega
   rw [g.size' j hje hj2] at hz
   rw [g2 j hje hj2 hz]
   exact hq.items j hj2 hz
theorem Cd(h:GoodQ p){k:Nat}(hk:k<ae p)(hz:ar p k≠0)(hl:it.length=ar p k)(hit:(ofV it).isSome=true):GoodQ (bg p (ay p k) it):=by
 have hp:=h.ok.len
 have hh:=h.ok.head
 have ht:=h.ok.top
 have hs:=h.ok.slot k hk
 have hql:(bg p (ay p k) it).length=1024:=(bS (by omega)).trans hp
 have hn: ∀ o,o+2≤18+4*ae p→gu (bg p (ay p k) it) o=gu p o:=fun o ho=>oa (by omega) (by omega)
 have hg: ∀ i,i<ay p k∨ay p k+it.length≤i→(bg p (ay p k) it)[i]? =p[i]? :=fun i hi=>mP (by omega) hi
 have hin:((bg p (ay p k) it).drop (ay p k)).take it.length=it:=vW (by omega)
 have hqs:ae (bg p (ay p k) it)=ae p:=hn 14 (by omega)
 have hqb:aF (bg p (ay p k) it)=aF p:=hn 16 (by omega)
 generalize bg p (ay p k) it=q at hql hn hg hin hqs hqb ⊢
 have hqf: ∀ j,j<ae p→ay q j=ay p j:=fun j hj=>hn _ (by omega)
 have hqz: ∀ j,j<ae p→ar q j=ar p j:=fun j hj=>hn _ (by omega)
 refine⟨⟨hql,by omega,by omega,fun hpos=>?_,fun j hj=>?_,fun i j hij hj hzi hzj=>?_⟩,?_,fun i hi=>(hg i (by omega)).trans (h.bare i hi),fun j hj hzj=>?_⟩
 ·rw [hqs,hqz _ (by omega)]
  exact h.ok.last (by omega)
 ·rw [hqf j (by omega),hqz j (by omega),hqb]
  exact h.ok.slot j (by omega)
 ·rw [hqz i (by omega)] at hzi
  rw [hqz j (by omega)] at hzj
  rw [hqf i (by omega),hqz i (by omega),hqf j (by omega),hqz j (by omega)]
  exact h.ok.apart i j hij (by omega) hzi hzj
 ·rw [xX (hg 12 (by omega))]
  exact h.kind
 ·have hj:j<ae p:=by omega
  rw [hqz j hj] at hzj
  by_cases hjk:j=k
  ·subst hjk
   unfold aS
   rw [hqf j hj,hqz j hj,←hl,hin]
   exact hit
  ·have hj2:aS q j=aS p j:=by
    unfold aS
    rw [hqf j hj,hqz j hj]
    refine ii fun i h1 h2=>hg i ?_
    have hap:ay p j+ar p j≤ay p k∨ay p k+ar p k≤ay p j:=by
     rcases Kd j k with h3|h3
     ·exact h.ok.apart j k h3 hk hzj hz
     ·exact(h.ok.apart k j (by omega) hj hz hzj).symm
    omega
   rw [hj2]
   exact h.items j hj hzj
theorem wD(h:GoodQ p){S:List Nat}(hS:Has p S):GoodQ (rS p S):=by
 by_cases h0:S= []
 ·subst h0
  exact oX h
 ·obtain⟨B,hB,g⟩:=m9 h.ok h0 hS
  unfold rS
  refine oX ⟨g.ok,?_,fun i hi=>(g.get i (by omega)).trans (h.bare i hi),fun j hj hz=>?_⟩
  ·rw [xX (g.get 12 (by omega))]
   exact h.kind
  ·have hsl:=g.slots
   have hjB:j∉B:=fun hm=>hz (g.ptr0 j (by omega) hm).2
   have hp:=g.ptr j (by omega) hjB
   have hz2:ar p j≠0:=by rw [← hp.2];exact hz
   have hj2:aS (du p S) j=aS p j:=by
    unfold aS
    rw [hp.1,hp.2]
    have h1:=h.ok.slot j (by omega)
    have h2:=h.ok.head
    exact ii fun i h3 h4=>g.get i (by omega)
   rw [hj2]
   exact h.items j (by omega) hz2
end
end Go.Proofs.YtnhmbonmlfeifaaGreat
end
