import Derived.WalkKit
import Derived.ProofKit
import Derived.OpenShut
import Derived.Below
import Derived.ChangeSame
import Derived.Carry
import Derived.ChangeArms
import Derived.Test.YtnhmbonmlfeifaaGreatChecked
import Derived.Test.YtnhmbonmlfeifaaGreatT8
set_option linter.unusedVariables false
set_option linter.unusedSimpArgs false
set_option maxRecDepth 100000
set_option maxHeartbeats 0
section
namespace Go.Proofs.YtnhmbonmlfeifaaGreat
open Go Go.Sy Go.Sl Go.RowKit
section
variable {n:Nat}{l:List lE}{mem:List UInt8}
def zs0:List Value:= [aP,aP,aP,aP,aP,aP,aP,aP,aP,aP,aP,aP,aP,aP,aP,aP,aP,aP,aP,aP,aP,aP,aP,aP,aP,aP,aP,aP,aP,aP,aP,aP,aP,aP,aP,aP,aP,aP,aP,aP,aP,aP,aP,aP,aP,aP,aP,aP]
theorem Gp:zs0=List.replicate 48 aP:=rfl
def zs1:List Value:=List.append zs0 zs0
theorem Gl:zs1=List.replicate 96 aP:=by
 show zs0 ++ zs0=_
 rw [Gp,Kl]
def zs2:List Value:=List.append zs1 zs1
theorem Gj:zs2=List.replicate 192 aP:=by
 show zs1 ++ zs1=_
 rw [Gl,Kl]
def zs3:List Value:=List.append zs2 zs2
theorem Gi:zs3=List.replicate 384 aP:=by
 show zs2 ++ zs2=_
 rw [Gj,Kl]
def zs4:List Value:=List.append zs3 zs3
theorem Gh:zs4=List.replicate 768 aP:=by
 show zs3 ++ zs3=_
 rw [Gi,Kl]
def zs5:List Value:=List.append zs4 zs4
theorem Gg:zs5=List.replicate 1536 aP:=by
 show zs4 ++ zs4=_
 rw [Gh,Kl]
def zs6:List Value:=List.append zs5 zs5
theorem Gf:zs6=List.replicate 3072 aP:=by
 show zs5 ++ zs5=_
 rw [Gg,Kl]
def zs7:List Value:=List.append zs6 zs6
theorem Gd:zs7=List.replicate 6144 aP:=by
 show zs6 ++ zs6=_
 rw [Gf,Kl]
def zs8:List Value:=List.append zs7 zs7
theorem Gc:zs8=List.replicate 12288 aP:=by
 show zs7 ++ zs7=_
 rw [Gd,Kl]
def zs9:List Value:=List.append zs8 zs8
theorem Gb:zs9=List.replicate 24576 aP:=by
 show zs8 ++ zs8=_
 rw [Gc,Kl]
def Gm:List Value:=List.append zs9 zs9
theorem Dm:Gm=List.replicate 49152 aP:=by
 show zs9 ++ zs9=_
 rw [Gb,Kl]
def zs11:List Value:=List.append Gm Gm
theorem Dl:zs11=List.replicate 98304 aP:=by
 show Gm ++ Gm=_
 rw [Dm,Kl]
theorem zHeap:dJ Tryz.prog 33=some (.agg (List.toArray zs11)):=by kernel_rfl
def yb:List UInt8:=List.replicate 98304 0
theorem ye:((Value.agg (List.toArray zs11)).cells.toList.map SV.sc)=(byV yb).map SV.sc:=by
 refine(congrArg (List.map SV.sc) (List.toList_toArray ..)).trans ?_
 rw [Dl]
 unfold yb
 rw [show byV (List.replicate 98304 (0:UInt8))=List.replicate 98304 aP from List.map_replicate]
theorem Dp:nL Tryz.prog 33 []=some (.agg ((byV yb).map .sc)):=by
 have hs:bI Tryz.prog 27=some 1024:=F.sz _ rfl
 unfold nL
 rw [zHeap,show Tryz.prog.underlying 33=some (.array 96 27)from F.un _ rfl]
 simp only [hs,iM,JQ]
 rw [ye]
abbrev kv1:gt:=([97],nJ,1,0)
abbrev kv2:gt:=([98],nJ,2,0)
def kp0:List UInt8:=eV 4
def kp1:List UInt8:=(nG kp0 (aO kv1)).1
def kp2:List UInt8:=(nG kp1 (aO kv2)).1
theorem vR{x:List UInt8}(hm:mem.length=131072)(hn:n<128)(hx:x.length=1024):ay (gD mem n x) n=x:=by
 unfold ay gD be
 rw [J6,List.drop_left' (by rw [JZ];omega),List.take_left' hx]
theorem zr:ay zeroM 32=zeroP:=by
 unfold ay zeroM zeroP
 rw [List.drop_replicate,List.take_replicate]
 rfl
theorem y9{p:List UInt8}(h1:ii p=false)(h2:bl p=true)(h3:kP p=4)(h4:xR p=false):aS p=(p,0):=by
 unfold aS
 rw [JV (by rw [h1];decide),JV (by rw [h2,h3];decide),JV (by rw [h4];decide)]
theorem y8:aS zeroP=(kp0,0):=JW (by kernel_rfl)
theorem kl0:kp0.length=1024:=fT 4
theorem kl1:kp1.length=1024:=by kernel_rfl
theorem kl2:kp2.length=1024:=by kernel_rfl
theorem kr0:(aO kv1).length≤ff kp0:=Jw (by kernel_rfl)
theorem ki0:nG kp0 (aO kv1)=(kp1,0,0):=Prod.ext rfl (by kernel_rfl)
theorem kr1:(aO kv2).length≤ff kp1:=Jw (by kernel_rfl)
theorem ki1:nG kp1 (aO kv2)=(kp2,1,0):=Prod.ext rfl (by kernel_rfl)
theorem kd1:aS kp1=(kp1,0):=y9 (by kernel_rfl) (by kernel_rfl) (by kernel_rfl) (by kernel_rfl)
theorem kg2:bl kp2=true:=by kernel_rfl
theorem kd2:aS kp2=(kp2,0):=y9 (by kernel_rfl) kg2 (by kernel_rfl) (by kernel_rfl)
theorem ks2:1<ae kp2:=Jw (by kernel_rfl)
theorem kz2:aq kp2 1≠0:=fun h=>by
 have:Nat.beq (aq kp2 1) 0=false:=by kernel_rfl
 rw [h] at this
 cases this
theorem ko2:ofV (aT kp2 1)=some kv2:=by kernel_rfl
theorem km1:iJ kv1=true:=by kernel_rfl
theorem km2:iJ kv2=true:=by kernel_rfl
theorem D0:E4 Tryz.prog 30=some [(0,131072),(131072,1),(131073,1)]:=by kernel_rfl
theorem Em{H:au}{nx:Nat}:Fnc Tryz.prog 8 [] H nx (fun q=>q.1 = .sc (.bool true)∧nx≤q.2.2∧ ∀ m,m<nx→q.2.1.at' m=H.at' m):=by
 refine Kp Tryz.func8 rfl rfl ?_
 repeat first|refine cd (oc rfl yd D0 wy) rfl rfl rfl ?_|apply ai;rfl
 have hb0:(H.set nx (cC zeroM (-1) 0)).at' nx=some (cC zeroM (-1) 0):=ah _ _ _
 have ho0: ∀ m,m<nx→(H.set nx (cC zeroM (-1) 0)).at' m=H.at' m:=fun m hm=>aa _ _ (by omega)
 refine cT (R:=fun H0 n0=>H0=H.set nx (cC zeroM (-1) 0)∧n0=nx+1) ⟨rfl,rfl⟩ ?_
 rintro H0 n0 ⟨hH0,rfl⟩
 rw [← hH0] at hb0 ho0
 clear hH0
 refine aI rfl rfl rfl (by kernel_rfl) (Ko (oE (k:=⟨#[97]⟩) (x:=1) (Jw rfl)) ?_)
 rintro⟨s1,H1,n1⟩ ⟨a1,a2,a3⟩
 dsimp only at a1 a2 a3 ⊢
 refine aI rfl rfl rfl (by kernel_rfl) (Ko (qi (v:=kv1) (p:=kp0) (p':=kp1) (slot:=0) ((a3 nx (by omega)).trans hb0) fM a1 km1 kl0 (by decide) (by decide) (by decide) (by rw [zr];exact y8) kr0 ki0 kl1) ?_)
 rintro⟨_,H2,n2⟩ ⟨rfl,b1,b2,b3⟩
 dsimp only at b1 b2 b3 ⊢
 have bo: ∀ m,m<nx→H2.at' m=H.at' m:=fun m hm=>(b3 m (by omega) (by omega)).trans ((a3 m (by omega)).trans (ho0 m hm))
 clear a1 a3 b3 hb0 ho0
 repeat first|apply ai;rfl|apply aH;rfl;(focus((repeat(exact ac));done));rfl
 refine aI rfl rfl rfl (by kernel_rfl) (Ko (oE (k:=⟨#[98]⟩) (x:=2) (Jw rfl)) ?_)
 rintro⟨s2,H3,n3⟩ ⟨c1,c2,c3⟩
 dsimp only at c1 c2 c3 ⊢
 have cb:H3.at' nx=some (cC (gD zeroM 32 kp1) (-1-1) (0+1)):=(c3 nx (by omega)).trans (by(repeat(refine ab (by omega) ?_));exact b1)
 have ct:H3.at' n2=some (eH 32 0):=(c3 n2 (by omega)).trans (by repeat(exact ac))
 have co: ∀ m,m<nx→H3.at' m=H.at' m:=fun m hm=>(c3 m (by omega)).trans (by(repeat(refine ab (by omega) ?_));exact bo m hm)
 clear c3 b1 bo
 refine aX fun hund=>?_
 have hmem1:=kE (n:=32) fM (by decide) kl1
 refine aI rfl rfl rfl (by kernel_rfl) (Ko (qi (v:=kv2) (p:=kp1) (p':=kp2) (slot:=1) cb hmem1 c1 km2 kl1 (by decide) (by decide) (by decide) (by rw [vR fM (by decide) kl1];exact kd1) kr1 ki1 kl2) ?_)
 rintro⟨_,H4,n4⟩ ⟨rfl,d1,d2,d3⟩
 dsimp only at d1 d2 d3 ⊢
 have dt:H4.at' n2=some (eH 32 0):=(d3 n2 (by omega) (by omega)).trans ct
 have do': ∀ m,m<nx→H4.at' m=H.at' m:=fun m hm=>(d3 m (by omega) (by omega)).trans (co m hm)
 clear c1 cb ct co d3 hund
 repeat first|apply ai;rfl|apply aH;rfl;(focus((repeat(exact ac));done));rfl
 refine aI rfl rfl rfl (by kernel_rfl) (Ko (EC (n:=32) (k:=1) (v:=kv2) (p:=kp2) (by(repeat(refine ab (by omega) ?_));exact d1) (kE hmem1 (by decide) kl2) kl2 (by decide) (by decide) (by rw [vR hmem1 (by decide) kl2];exact kd2) kg2 ks2 kz2 ko2) ?_)
 rintro⟨_,H5,n5⟩ ⟨s',r',rfl,⟨k0,w0,rfl,gk,gw⟩,e2,e3,e4⟩
 dsimp only at gk gw e2 e3 e4 ⊢
 have et:H5.at' n2=some (eH 32 0):=(e4 n2 (by omega)).trans (by(repeat(refine ab (by omega) ?_));exact dt)
 have eu:H5.at' n4=some (eH 32 1):=(e4 n4 (by omega)).trans (by repeat(exact ac))
 have eo: ∀ m,m<nx→H5.at' m=H.at' m:=fun m hm=>(e4 m (by omega)).trans (by(repeat(refine ab (by omega) ?_));exact do' m hm)
 clear e4 d1 dt do'
 refine aX fun hund=>?_
 have hr:r'<n5:=by
  rcases gk with ⟨_,h⟩|⟨o,C,_,vo,hv,_⟩
  ·cases h
  ·exact hund _ _ hv
 have hone: ∀ x y:Nat,bi (eF k0 w0 x y)=true:=fun x y=>by simp only [bi,cF gk.bs,cF gw.bs];rfl
 have hk: ∀ vo vo':VO,BsIs ((H5.set n5 vo).set n5 vo') k0 (u8L ⟨#[98]⟩):=fun vo vo'=>(gk.frame ((aa _ _ (by omega)).trans (aa _ _ (by omega)))).bs
 repeat first|refine dp rfl rfl rfl (F.sz _ rfl) (by repeat(first|assumption|exact ac)) rfl (by exact Jw rfl) (hone _ _) rfl ?_|apply oz (a:=(32,0)) (b:=(32,0)) (r:=true);rfl;rfl;rfl;rfl;(focus(decide))|apply oz (a:=(32,1)) (b:=(32,1)) (r:=true);rfl;rfl;rfl;rfl;(focus(decide))|apply ai;rfl|apply aH;rfl;(focus((repeat(first|assumption|exact ac|refine ab (by omega) ?_));done));rfl|apply dK;rfl;rfl|refine cd (l6 (F.un _ rfl) (F.un _ rfl) (F.un _ rfl) rfl (hk _ _)) rfl rfl rfl ?_|apply vi (r:=true);rfl;rfl;rfl;rfl;(focus(decide))
 (apply bP Tryz.func8 Tryz.results8;rfl)
 exact⟨rfl,by dsimp only;omega,fun m hm=>(aa _ _ (by omega)).trans ((aa _ _ (by omega)).trans (eo m hm))⟩
theorem lL{H:au}{nx:Nat}:Fnc Tryz.prog 8 [] H nx (fun q=>q=(.sc (.bool true),H,nx)):=Fnc.bz (Free.sc _) Em
theorem mV(h:n<128):ay zeroM n=zeroP:=by
 unfold ay zeroM zeroP
 rw [List.drop_replicate,List.take_replicate,Nat.min_eq_left (by omega)]
theorem Ev:Hv zeroM:=⟨fM,fun n h1 h2=> .inl (mV h2),fun n h=>mV (by omega)⟩
theorem B7:dC zeroM=yb:=by
 unfold dC zeroM yb
 rw [List.drop_replicate]
def iY(mem:List UInt8):Nat:=(List.range 96).countP fun i=> !decide (ay mem (32+i)=zeroP)
theorem qo{p q:Nat→Bool}{i0:Nat}: ∀ l:List Nat,l.Nodup→(∀ i∈l,i≠i0→q i=true→p i=true)→l.countP q≤l.countP p+1
 | [],_,_=>JL _
 | a :: l,hn,h=>by
   rw [List.nodup_cons] at hn
   rw [List.countP_cons,List.countP_cons]
   by_cases ha:a=i0
   ·subst ha
    have h1:l.countP q≤l.countP p:=List.countP_mono_left fun i hi hq=>h i (J4 _ hi) (fun e=>hn.1 (e ▸ hi)) hq
    split <;> split <;> omega
   ·have h1:=qo l hn.2 fun i hi=>h i (J4 _ hi)
    have h2:=h a J3 ha
    cases hq:q a with
    | true=>rw [h2 hq];simp only [if_true];omega
    | false=>simp only [Bool.false_eq_true,if_false];omega
theorem t9{mem':List UInt8}(h:Tch mem mem'):iY mem'≤iY mem+1:=by
 obtain⟨n0,h⟩:=h
 refine qo (i0:=n0-32) _ List.nodup_range fun i hi hne hq=>?_
 have hi:=Kh.1 hi
 cases hd:decide (ay mem (32+i)=zeroP)with
 | false=>rfl
 | true=>
   have h1:=h (32+i) (by omega) (J7 hd)
   rw [Ke h1] at hq
   cases hq
theorem r9(h: ∀ n,n<128→ay mem n=zeroP):iY mem=0:=by
 unfold iY
 rw [List.countP_eq_zero]
 intro i hi
 have:=Kh.1 hi
 rw [h _ (by omega),Ke rfl]
 exact fun e=>by cases e
theorem sa(h:iY mem<96): ∃ m,32≤m∧m<32+96∧ay mem m=zeroP:=by
 refine Classical.byContradiction fun hno=>?_
 have h1:iY mem=(List.range 96).length:=by
  unfold iY
  rw [List.countP_eq_length]
  intro i hi
  have:=Kh.1 hi
  have h2: ¬ ay mem (32+i)=zeroP:=fun e=>hno ⟨32+i,by omega,by omega,e⟩
  rw [Kf h2]
  rfl
 rw [List.length_range] at h1
 omega
theorem wl{pf:Nat→List UInt8}{it:List UInt8}(hz:(f8 (eV 4) it).2.2=0): ∀ k n,(∀ m,n≤m→m<n+k→(aS (pf m)).2=0)→(∃ m,n≤m∧m<n+k∧pf m=zeroP)→(cu pf it k n).1=0
 | 0,n,_,⟨m,h1,h2,_⟩=>by omega
 | k+1,n,hr,⟨m,h1,h2,h3⟩=>by
   unfold cu
   rw [JV (fun e=>e (hr n (JK _) (by omega)))]
   by_cases he:(f8 (aS (pf n)).1 it).2.2≠0
   ·rw [JW he]
    refine wl hz k (n+1) (fun j a b=>hr j (by omega) (by omega)) ⟨m,?_,by omega,h3⟩
    rcases JY n m with h4|h4
    ·exact h4
    ·obtain rfl:m=n:=by omega
     rw [h3,DR] at he
     exact absurd hz he
   ·rw [JV he]
theorem BQ(hv:Hv mem)(ht:iY mem<96){v:gt}(hm:iJ v=true)(hz:(f8 (eV 4) (aO v)).2.2=0):lg (ay mem) v true=((0,0,8),none):=by
 have h1:=wl (pf:=ay mem) hz 96 32 (fun m a b=>by
  obtain⟨q,hq,_⟩:=(hv.good m a (by omega)).read
  rw [hq]) (sa ht)
 unfold lg
 rw [JV (by rw [hm];decide),JV (fun e=>e h1),JW rfl]
theorem vn:iJ ([97],nJ,1,0)=true∧(f8 (eV 4) (aO ([97],nJ,1,0))).2.2=0:=⟨by kernel_rfl,by kernel_rfl⟩
abbrev cm(l:List lE):List (Int×Int):=l.map fun x=>((x.1.1:Int),(x.1.2:Int))
theorem nX(a b:List lE):cm (a ++ b)=cm a ++ cm b:=JP
theorem kH{n:Nat}{p:List UInt8}: ∀ {j:Nat} {a b:Nat},(∃ v,((a,b),v)∈dk n p j)↔a=n∧b<j∧aq p b≠0
 | 0,a,b=>⟨fun⟨_,h⟩=>(by cases h),fun h=>(by omega)⟩
 | j+1,a,b=>by
   unfold dk
   constructor
   ·rintro⟨v,h⟩
    rcases List.mem_append.1 h with h|h
    ·have:=kH.1 ⟨v,h⟩
     omega
    ·by_cases hs:aq p j=0
     ·rw [JW hs] at h
      cases h
     ·rw [JV hs] at h
      have h:=J1.1 h
      cases h
      exact⟨rfl,Nat.lt_succ_self _,hs⟩
   ·rintro⟨rfl,h1,h2⟩
    by_cases hb:b=j
    ·subst hb
     exact⟨_,List.mem_append_right _ (by rw [JV h2];exact J1.2 rfl)⟩
    ·obtain⟨v,hv⟩:=(kH (n:=a) (p:=p) (j:=j) (a:=a) (b:=b)).2 ⟨rfl,by omega,h2⟩
     exact⟨v,List.mem_append_left _ hv⟩
theorem nz(n:Nat)(p:List UInt8): ∀ j,(cm (dk n p j)).Nodup
 | 0=>List.nodup_nil
 | j+1=>by
   unfold dk
   rw [nX,List.nodup_append]
   refine⟨nz n p j,?_,?_⟩
   ·by_cases hs:aq p j=0
    ·rw [JW hs]
     exact List.nodup_nil
    ·rw [JV hs]
     exact List.nodup_cons.2 ⟨fun h=>(by cases h),List.nodup_nil⟩
   ·intro a ha b hb e
    subst e
    obtain⟨x,hx,rfl⟩:=Ki.1 ha
    obtain⟨y,hy,he⟩:=Ki.1 hb
    by_cases hs:aq p j=0
    ·rw [JW hs] at hy
     cases hy
    ·rw [JV hs] at hy
     have hy:=J1.1 hy
     subst hy
     obtain⟨⟨xa,xb⟩,xv⟩:=x
     have h1:=kH.1 ⟨_,hx⟩
     have h2:=congrArg Prod.snd he
     dsimp only at h2
     omega
theorem mC{pf:Nat→List UInt8}: ∀ {k n:Nat} {l:List lE},iS pf k n=some l→(∀ a b:Nat,((a:Int),(b:Int))∈cm l↔n≤a∧a<n+k∧jB (aS (pf a)).1 b=true)∧(cm l).Nodup
 | 0,n,l,h=>by
   cases h
   exact⟨fun a b=>⟨fun h=>(by cases h),fun h=>(by omega)⟩,List.nodup_nil⟩
 | k+1,n,l,h=>by
   unfold iS at h
   by_cases h0:(aS (pf n)).2≠0
   ·rw [JW h0] at h
    cases h
   ·rw [JV h0] at h
    cases h1:iS pf k (n+1)with
    | none=>rw [h1] at h;cases h
    | some l'=>
      rw [h1] at h
      cases h
      obtain⟨i1,i2⟩:=mC h1
      have hp: ∀ a b:Nat,((a:Int),(b:Int))∈cm (oM n (aS (pf n)).1)↔a=n∧jB (aS (pf n)).1 b=true:=by
       intro a b
       have hm:=kH (n:=n) (p:=(aS (pf n)).1) (j:=ae (aS (pf n)).1) (a:=a) (b:=b)
       constructor
       ·intro h
        obtain⟨⟨⟨xa,xb⟩,xv⟩,hx,he⟩:=Ki.1 h
        have e1:xa=a:=by have:=congrArg Prod.fst he;dsimp only at this;omega
        have e2:xb=b:=by have:=congrArg Prod.snd he;dsimp only at this;omega
        subst e1
        subst e2
        have:=hm.1 ⟨_,hx⟩
        exact⟨this.1,Ke this.2⟩
       ·rintro⟨rfl,h⟩
        obtain⟨v,hv⟩:=hm.2 ⟨rfl,J7 h⟩
        exact Ki.2 ⟨_,hv,rfl⟩
      refine⟨fun a b=>?_,?_⟩
      ·rw [nX,List.mem_append,hp,i1]
       constructor
       ·rintro(⟨rfl,h⟩|⟨h2,h3,h4⟩)
        ·exact⟨JK _,by omega,h⟩
        ·exact⟨by omega,by omega,h4⟩
       ·rintro⟨h2,h3,h4⟩
        by_cases he:a=n
        ·subst he
         exact .inl ⟨rfl,h4⟩
        ·exact .inr ⟨by omega,by omega,h4⟩
      ·rw [nX,List.nodup_append]
       refine⟨nz n _ _,i2,fun a ha b hb e=>?_⟩
       subst e
       obtain⟨x,hx,rfl⟩:=Ki.1 ha
       have h2:=(hp x.1.1 x.1.2).1 (Ki.2 ⟨x,hx,rfl⟩)
       have h3:=(i1 x.1.1 x.1.2).1 hb
       omega
theorem uY(h:mI (ay mem)=some l):s6 (cm l)∧lM (ay mem) (cm l):=by
 obtain⟨h1,h2⟩:=mC h
 have h3: ∀ t∈cm l,∃ a b:Nat,t=((a:Int),(b:Int))∧32≤a∧a<128∧jB (aS (ay mem a)).1 b=true:=fun t ht=>by
  obtain⟨x,hx,rfl⟩:=Ki.1 ht
  have:=(h1 x.1.1 x.1.2).1 ht
  exact⟨x.1.1,x.1.2,rfl,this.1,by omega,this.2.2⟩
 refine⟨⟨fun t ht=>?_,h2⟩,fun t ht=>?_⟩
 ·obtain⟨a,b,rfl,h4,h5,_⟩:=h3 t ht
  exact Ke ⟨by dsimp only;omega,by dsimp only;omega,by dsimp only;omega⟩
 ·obtain⟨a,b,rfl,h4,h5,h6⟩:=h3 t ht
  dsimp only
  rw [Kd,Kd]
  exact h6
abbrev pU(mem:List UInt8)(l:List lE)(n:Nat):List UInt8:=rI (aS (ay mem n)).1 (aM (cm l) n)
theorem mN(h:mI (ay mem)=some l):fD (ay mem) (cm l)=(0,(b7 (cm l)).map fun n=>(n,pU mem l n)):=by
 obtain⟨h1,h2⟩:=uY h
 unfold fD
 rw [JV (fun e=>e h1),JV (fun e=>e h2)]
theorem EB(hv:Hv mem)(h:mI (ay mem)=some l)(hn:n∈b7 (cm l))(j:Nat):jB (aS (pU mem l n)).1 j=false:=by
 obtain⟨m1,m2⟩:=uY h
 obtain⟨a1,_⟩:=mC h
 obtain⟨h1,h2,h3⟩:=cY.1 hn
 have hg:GoodP (pU mem l n):=(ga hv (l:=cm l) (n,pU mem l n) (by rw [mN h];exact Ki.2 ⟨n,hn,rfl⟩)).2.2
 obtain⟨q,hq,hQ⟩:=(hv.good n h1 h2).read
 have hS:Has q (aM (cm l) n):=⟨er m1 n,fun k hk=>by
  have:=(jW m1).1 m2 n hn k hk
  rw [hq] at this
  exact J7 this⟩
 obtain⟨B,hB,g⟩:=lS hQ.ok h3 hS
 have hP:=qc g.ok
 have hgo:pU mem l n=lf (db q (aM (cm l) n)):=by
  unfold pU
  rw [hq]
  rfl
 have hz: ∀ i,i<ae (pU mem l n)→aq (pU mem l n) i=0:=by
  intro i hi
  rw [hgo] at hi ⊢
  have hi2:i<ae (db q (aM (cm l) n)):=by have:=hP.slots;omega
  rw [hP.sizes i hi2]
  have hi3:i<ae q:=by have:=g.slots;omega
  by_cases hb:i∈B
  ·exact(g.ptr0 i hi3 hb).2
  ·rw [(g.ptr i hi3 hb).2]
   refine Classical.byContradiction fun hne=>hb ((hB i).2 ((dU m1.1).2 ((a1 n i).2 ⟨h1,by omega,?_⟩)))
   rw [hq]
   exact Ke ⟨hi3,hne⟩
 obtain⟨q',hq',_⟩:=hg.read
 rcases hg with he|hQ'
 ·rw [he,DR]
  exact Kf (by rw [show ae (eV 4)=0 from by kernel_rfl];omega)
 ·rw [hQ'.read]
  refine Kf fun hh=>hh.2 (hz j hh.1)
theorem oR: ∀ (ps:List (Nat×List UInt8)) (mem:List UInt8) (k:Nat) (puts:Int),k<ps.length→fy ps mem (k:Int) puts=(8,ld mem (ps.take k),0,puts+k)
 | [],_,k,_,h=>by simp at h
 | (n,x) :: ps,mem,0,puts,_=>by
   show(if((0:Nat):Int)=0 then _ else _)=_
   rw [JW (show((0:Nat):Int)=0 from rfl)]
   simp [ld]
 | (n,x) :: ps,mem,k+1,puts,h=>by
   show(if((k+1:Nat):Int)=0 then _ else fy ps (gD mem n x) (((k+1:Nat):Int)-1) (puts+1))=_
   rw [JV (by omega),show((k+1:Nat):Int)-1=(k:Int) by omega,oR ps _ k _ (by simpa using h)]
   rw [show puts+1+(k:Int)=puts+((k+1:Nat):Int) by omega]
   rfl
theorem oV{X:Nat→List UInt8}: ∀ {L:List Nat} {mem:List UInt8} {n:Nat},mem.length=131072→(∀ m∈L,m<128∧(X m).length=1024)→L.Nodup→ay (ld mem (L.map fun m=>(m,X m))) n=if n∈L then X n else ay mem n
 | [],_,_,_,_,_=>by
   rw [JV (fun h=>by cases h)]
   rfl
 | a :: L,mem,n,hm,hp,hn=>by
   obtain⟨p1,p2⟩:=hp a J3
   rw [List.nodup_cons] at hn
   have ih:=oV (L:=L) (mem:=gD mem a (X a)) (n:=n) (kE hm p1 p2) (fun m h=>hp m (J4 _ h)) hn.2
   show ay (ld (gD mem a (X a)) (L.map fun m=>(m,X m))) n=_
   rw [ih]
   by_cases h1:n∈L
   ·rw [JW h1,JW (J4 _ h1)]
   ·rw [JV h1,iG (by omega) p2]
    by_cases h2:n=a
    ·rw [JW h2,JW (by rw [h2];exact J3),h2]
    ·rw [JV h2,JV (fun h=>by rcases Ka.1 h with h|h;exact h2 h;exact h1 h)]
def kZ(L:List Nat)(n:Nat):Nat:=L.countP fun m=>decide (m<n)
theorem sd: ∀ {L:List Nat},L.Pairwise (·< ·)→ ∀ {n:Nat},n∈L→ ∀ k,n∈L.take k↔kZ L n<k
 | [],_,n,h,_=>by cases h
 | a :: L,hs,n,h,k=>by
   rw [List.pairwise_cons] at hs
   have hc:kZ (a :: L) n=kZ L n+if a<n then 1 else 0:=by
    unfold kZ
    rw [List.countP_cons]
    simp only [Km]
   rcases Ka.1 h with rfl|h
   ·have h0:kZ L n=0:=by
     unfold kZ
     rw [List.countP_eq_zero]
     intro m hm
     have:=hs.1 m hm
     simp only [Km]
     omega
    rw [hc,h0,JV (Nat.lt_irrefl _)]
    cases k with
    | zero=>simp
    | succ k=>simp
   ·have ha:=hs.1 n h
    rw [hc,JW ha]
    cases k with
    | zero=>simp
    | succ k=>
      rw [List.take_succ_cons,Ka,sd hs.2 h k]
      constructor
      ·rintro(h1|h1) <;> omega
      ·intro h1
       exact .inr (by omega)
theorem sH: ∀ {L:List Nat},L.Pairwise (·< ·)→ ∀ n,kZ L (n+1)=kZ L n+if n∈L then 1 else 0
 | [],_,n=>by simp [kZ]
 | a :: L,hs,n=>by
   rw [List.pairwise_cons] at hs
   have hc: ∀ n,kZ (a :: L) n=kZ L n+if a<n then 1 else 0:=fun n=>by
    unfold kZ
    rw [List.countP_cons]
    simp only [Km]
   rw [hc,hc,sH hs.2 n]
   by_cases h:n=a
   ·subst h
    have h1:n∉L:=fun hm=>Nat.lt_irrefl _ (hs.1 n hm)
    rw [JV h1,JW (by omega),JV (Nat.lt_irrefl _),JW J3]
   ·by_cases h1:n∈L
    ·have:=hs.1 n h1
     rw [JW h1,JW (by omega),JW (by omega),JW (J4 _ h1)]
    ·rw [JV h1,JV (show n∉a :: L from fun hm=>by rcases Ka.1 hm with e|e;exact h e;exact h1 e)]
     by_cases h2:a<n
     ·rw [JW (by omega),JW h2]
     ·rw [JV (by omega),JV h2]
theorem Bt{l:List (Int×Int)}:kZ (b7 l) 32=0:=by
 unfold kZ
 rw [List.countP_eq_zero]
 intro m hm
 have:=(cY.1 hm).1
 simp only [Km]
 omega
theorem uq(l:List (Int×Int)):(b7 l).Nodup:=(eQ l).imp fun h e=>by omega
abbrev xg(mem:List UInt8)(l:List lE)(k:Nat):List UInt8:=ld mem ((fD (ay mem) (cm l)).2.take k)
theorem DG(hv:Hv mem)(k:Nat):Hv (xg mem l k):=(mQ hv fun x hx=>ga hv x (List.mem_of_mem_take hx)).1
theorem sb(hv:Hv mem)(h:mI (ay mem)=some l)(k n:Nat):ay (xg mem l k) n=if n∈(b7 (cm l)).take k then pU mem l n else ay mem n:=by
 unfold xg
 rw [mN h]
 dsimp only
 rw [← List.map_take]
 refine oV hv.len (fun m hm=>?_) ((uq _).sublist (List.take_sublist _ _))
 have hm2:=List.mem_of_mem_take hm
 have:=ga hv (l:=cm l) (m,pU mem l m) (by rw [mN h];exact Ki.2 ⟨m,hm2,rfl⟩)
 exact⟨this.2.1,this.2.2.len⟩
theorem yC(hv:Hv mem){l':List lE}(h:mI (ay mem)=some l){k:Nat}(hn:n∈(b7 (cm l)).take k)(h':mI (ay (xg mem l k))=some l'): ∀ x∈l',x.1.1≠n:=by
 rintro x hx rfl
 have h1:=((mC h').1 x.1.1 x.1.2).1 (Ki.2 ⟨x,hx,rfl⟩)
 have h2:=h1.2.2
 rw [sb hv h,JW hn,EB hv h (List.mem_of_mem_take hn)] at h2
 cases h2
theorem oJ(h:mI (ay mem)=some l)(n:Nat):n∈b7 (cm l)↔ ∃ x∈l,x.1.1=n:=by
 obtain⟨m1,_⟩:=uY h
 obtain⟨a1,_⟩:=mC h
 rw [cY]
 constructor
 ·rintro⟨h1,h2,h3⟩
  obtain⟨j,hj⟩:=List.exists_mem_of_ne_nil _ h3
  obtain⟨x,hx,he⟩:=Ki.1 ((dU m1.1).1 hj)
  exact⟨x,hx,by have:=congrArg Prod.fst he;dsimp only at this;omega⟩
 ·rintro⟨x,hx,rfl⟩
  have hm:((x.1.1:Int),(x.1.2:Int))∈cm l:=Ki.2 ⟨x,hx,rfl⟩
  have h1:=(a1 x.1.1 x.1.2).1 hm
  refine⟨h1.1,by omega,fun e=>?_⟩
  have h2:=(dU m1.1).2 hm
  rw [e] at h2
  cases h2
end
end Go.Proofs.YtnhmbonmlfeifaaGreat
end
section
namespace Go.Sy
open Go Go.Sl Go.RowKit
section
variable {n:Nat}{e t:TypeId}{P:Program}{k:IntKind}{i:TypeInfo}
theorem xp(hu:P.underlying t=some (.array n e))(hi:P.info? e=some i)(hc:P.cellsOf e=1)(he:P.underlying e=some (.int k)){xs ys:List Int}(hx:xs.length=n)(hy:ys.length=n)(d:Nat)(w:World) :
 (Op.equalIn (d+1+1) t (.agg (fc k xs).toArray) (.agg (fc k ys).toArray)).run P w = .ok (decide (xs=ys)) w:=by
 rw [run_equalIn_array w (d+1) _ _ hu hi,hc,gE he d xs ys w _ (fun i hi=>by rw [hx,hy];exact⟨Kh.1 hi,Kh.1 hi⟩),nM hx hy]
theorem yT(hu:P.underlying t=some (.array n e))(hi:P.info? t=some i)(hc:P.cellsOf t=n)(l:List Int)(j:Nat)(w:World):(part t (fc k l).toArray (j*n)).run P w = .ok (.agg (fc k ((l.drop (j*n)).take n)).toArray) w:=by
 have h1:(fc k l).toArray.extract (j*n) (j*n+n)=(fc k ((l.drop (j*n)).take n)).toArray:=by
  rw [List.extract_toArray]
  unfold fc
  rw [List.extract_eq_take_drop,List.map_take,List.map_drop,Nat.add_sub_cancel_left]
 generalize (fc k l).toArray=cs at h1
 simp [part,isAgg,run_underlying hu,run_sizeOf w hi,hc,h1]
theorem p6{P:Program}{t e:TypeId}{n:Nat}{k:IntKind}{i i2:TypeInfo}(hu:P.underlying t=some (.array n e))(hi:P.info? t=some i)(hc:P.cellsOf t=n)(hi2:P.info? e=some i2)(hc2:P.cellsOf e=1)(he:P.underlying e=some (.int k))(xs:List Int)(d:Nat)(w:World): ∀ is:List Nat,(∀ j∈is,j*n+n≤xs.length)→(Op.eqItems (d+1+1) t n (fc k xs).toArray (fc k xs).toArray is).run P w = .ok true w
 | [],_=>by simp [Op.eqItems]
 | j :: is,h=>by
   have h1:=h j J3
   have hl:((xs.drop (j*n)).take n).length=n:=by rw [JZ,J2];omega
   have h2:=xp hu hi2 hc2 he hl hl d w
   rw [Ke rfl] at h2
   have ih:=p6 hu hi hc hi2 hc2 he xs d w is fun j hj=>h j (J4 _ hj)
   simp only [Op.eqItems,Sem.run_bind,yT hu hi hc,h2,Result.andThen_ok]
   simpa using ih
end
section
variable {P:Program} {H:au} {T:Tr SV} {nx:Nat}
variable {d:Option Tmp} {ty:TypeId} {pos:String} {af:Array Edge} {gd:Option (Nat×Bool)}
theorem xt{tt t e:TypeId}{N n:Nat}{k:IntKind}{i i2:TypeInfo}(hut:P.underlying tt=some (.array N t))(hu:P.underlying t=some (.array n e))(hi:P.info? t=some i)(hc:P.cellsOf t=n)(hi2:P.info? e=some i2)(hc2:P.cellsOf e=1)(he:P.underlying e=some (.int k))(hg:P.eqGuardType P.depth tt=false){x y:Operand}{yt:TypeId}{xs:List Int}(hl:xs.length=N*n)(hx:ak T x=some (.agg ((fc k xs).map .sc)))(hy:ak T y=some (.agg ((fc k xs).map .sc))) :
 ReadDoes P T H ⟨d,.binOp .neq tt x y yt,ty,pos,af,gd⟩ (.sc (.bool false)):=by
 intro K w0 ev nx w en hS hE
 refine⟨_,rfl,?_⟩
 have e1:=gr (hE x _ hx)
 have e2:=gr (hE y _ hy)
 have h0:(Op.equalIn 10000 tt (.agg (fc k xs).toArray) (.agg (fc k xs).toArray)).run P w = .ok true w:=by
  rw [show(10000:Nat)=9997+1+1+1 from rfl,run_equalIn_array w (9997+1+1) _ _ hut hi,hc]
  refine p6 hu hi hc hi2 hc2 he xs 9997 w _ fun j hj=>?_
  have hj:=Kh.1 hj
  have h3:(j+1)*n≤N*n:=Nat.mul_le_mul_right n hj
  rw [Nat.add_mul,Nat.one_mul] at h3
  omega
 simp [execOp,e1,e2,run_eqGuard_agg (P:=P) w .neq tt x y _ _ hg,run_neq_struct,h0]
end
end Go.Sy
end
section
namespace Go.Proofs.YtnhmbonmlfeifaaGreat
open Go Go.Sy Go.Sl Go.RowKit
section
variable {mem:List UInt8}
theorem oU(hm:mem.length=131072)(left puts:Int):(cC mem left puts).cellsFrom 0 131072=some ((byV mem).map .sc):=by
 refine am _ _ ?_ (fu hm)
 rw [List.drop_zero]
 exact List.take_left' (fu hm)
theorem Ai{place:Nat→Option (Nat×Nat)}{cells vc:List SV}{i off size:Nat}{v:SV}{rest:List (Nat×SV)}(hp:place i=some (off,size))(hv:v.cells=vc)(hl:vc.length=size)(ho:off+size≤cells.length):iM place cells ((i,v) :: rest)=iM place (cells.take off ++ vc ++ cells.drop (off+size)) rest:=by
 subst hv
 have hb:(Nat.beq v.cells.length size && Nat.ble (off+size) cells.length)=true:=by
  rw [JJ]
  exact⟨by rw [hl];exact Nat.beq_refl _,Jy ho⟩
 simp only [iM,hp,hb,cond_true]
theorem HV(hm:mem.length=131072):iM (fun i=>([(0,131072),(131072,1),(131073,1)]:List (Nat×Nat))[i]?) ((Value.agg (List.toArray zAll)).cells.toList.map .sc) [(0,.agg ((byV mem).map .sc)),(1,.sc (.int .i64 0))]=some (qa mem 0 0):=by
 have e:(Value.agg (List.toArray zAll)).cells.toList.map SV.sc=qa zeroM 0 0:=(congrArg (List.map SV.sc) (List.toList_toArray ..)).trans uZ
 have hl:=mT fM 0 0
 have h1:=fu fM
 have h2:=fu hm
 rw [e,Ai (vc:=(byV mem).map .sc) (size:=131072) (off:=0) rfl rfl h2 (by rw [hl];exact Jw rfl),List.take_zero,List.nil_append,JX,List.drop_left' h1]
 rw [rE (vc:= [.sc (.int .i64 0)]) (size:=1) (off:=131072) rfl rfl rfl (by rw [JO,h2];exact Jw rfl),List.take_left' h2,←List.drop_drop,List.drop_left' h2,J6]
 rfl
theorem vQ(mem:List UInt8):(byV mem).map SV.sc=(fc .u8 (mem.map fun c=>(c.toNat:Int))).map SV.sc:=by
 unfold fc byV
 rw [List.map_map,List.map_map,List.map_map]
 rfl
theorem qp{vo:VO}{o n:Nat}{a:SV}{l:List SV}(h:vo.cellsFrom o (n+1)=some (a :: l)):vo.cell o=some a:=by
 unfold VO.cellsFrom at h
 cases hc:vo.cell o with
 | none=>rw [hc] at h;simp at h
 | some b=>
   rw [hc] at h
   cases hr:vo.cellsFrom (o+1) n with
   | none=>rw [hr] at h;simp at h
   | some l'=>rw [hr] at h;simp at h;rw [h.1]
theorem p8{H:au}{T:Tr SV}{d:Option Tmp}{ty:TypeId}{pos:String}{af:Array Edge}{gd:Option (Nat×Bool)}{x y:Operand}{yt:TypeId}(hm:mem.length=131072)(hx:ak T x=some (.agg ((byV mem).map .sc)))(hy:ak T y=some (.agg ((byV mem).map .sc))):ReadDoes Tryz.prog T H ⟨d,.binOp .neq 28 x y yt,ty,pos,af,gd⟩ (.sc (.bool false)):=
 xt (tt:=28) (t:=27) (e:=5) (N:=128) (n:=1024) (k:= .u8) (xs:=mem.map fun c=>(c.toNat:Int)) (F.un _ rfl) (F.un _ rfl) (by rfl) (by kernel_rfl) (by rfl) (by kernel_rfl) (F.un _ rfl) (by kernel_rfl) (by rw [J0];exact hm) (hx.trans (by rw [vQ])) (hy.trans (by rw [vQ]))
theorem sD{H:au}{T:Tr SV}{d:Option Tmp}{ty:TypeId}{pos:String}{af:Array Edge}{gd:Option (Nat×Bool)}{x y:Operand}{yt:TypeId}{a:List UInt8}(ha:a.length=1024)(hx:ak T x=some (.agg (pgS a)))(hy:ak T y=some (.agg (pgS a))):ReadDoes Tryz.prog T H ⟨d,.binOp .neq 27 x y yt,ty,pos,af,gd⟩ (.sc (.bool false)):=by
 have hr:=zb (P:=Tryz.prog) (H:=H) (T:=T) (d:=d) (ty:=ty) (pos:=pos) (af:=af) (gd:=gd) (t:=27) (e:=5) (n:=1024) (k:= .u8) (x:=x) (y:=y) (yt:=yt) (xs:=a.map fun c=>(c.toNat:Int)) (ys:=a.map fun c=>(c.toNat:Int)) (F.un _ rfl) (by rfl) (by kernel_rfl) (F.un _ rfl) (by kernel_rfl) (by rw [J0];exact ha) (by rw [J0];exact ha) (hx.trans (by rw [qU])) (hy.trans (by rw [qU]))
 rw [Ke rfl] at hr
 exact hr
abbrev MpT:=List (Int×Unit×Nat)
abbrev Ao:Int→Value:=fun n=> .int .i64 n
abbrev AQ:Unit→SV:=fun _=> .agg [.sc (.bool true)]
theorem Ep:KEnc Tryz.prog 3 Ao:=gh Tryz.underlying3
end
structure MpOk (m:MpT) (c:Nat) (l:List lE):Prop where
 ok:KOk m c
 has: ∀ n:Int,(∃ u,fX m n=some u)↔ ∃ x∈l,(x.1.1:Int)=n
theorem MpOk.nil(c:Nat):MpOk [] c []:=⟨KOk.nil c,fun n=>⟨fun⟨_,h⟩=>(by cases h),fun⟨_,h,_⟩=>(by cases h)⟩⟩
theorem MpOk.put{m:MpT}{c:Nat}{l:List lE}(h:MpOk m c l)(x:lE):MpOk (gN m (x.1.1:Int) () c) (oq m (x.1.1:Int) c) (l ++ [x]):=by
 refine⟨h.ok.put _ _,fun n=>?_⟩
 by_cases hn:n=(x.1.1:Int)
 ·subst hn
  exact⟨fun _=>⟨x,List.mem_append_right _ (J1.2 rfl),rfl⟩,fun _=>⟨(),mh _ _ _ _⟩⟩
 ·rw [gp m _ c hn,h.has]
  constructor
  ·rintro⟨y,hy,he⟩
   exact⟨y,List.mem_append_left _ hy,he⟩
  ·rintro⟨y,hy,he⟩
   rcases List.mem_append.1 hy with hy|hy
   ·exact⟨y,hy,he⟩
   ·rw [J1.1 hy] at he
    exact absurd he.symm hn
theorem MpOk.len{m:MpT}{c:Nat}{l:List lE}(h:MpOk m c l){mem:List UInt8}(ha:mI (ay mem)=some l):m.length=(b7 (cm l)).length:=by
 have h1:(m.map (·.1)).Perm ((b7 (cm l)).map fun n:Nat=>(n:Int)):=by
  refine(List.perm_ext_iff_of_nodup h.ok.keys (List.pairwise_map.2 ((eQ _).imp fun h e=>by omega))).2 fun n=>?_
  have h2:n∈m.map (·.1)↔ ∃ u,fX m n=some u:=by
   constructor
   ·intro hm
    cases hk:fX m n with
    | none=>exact absurd hm (iK.1 hk)
    | some u=>exact⟨u,rfl⟩
   ·rintro⟨u,hu⟩
    refine Classical.byContradiction fun hm=>?_
    rw [iK.2 hm] at hu
    cases hu
  rw [h2,h.has,Ki]
  constructor
  ·rintro⟨x,hx,rfl⟩
   exact⟨x.1.1,(oJ ha _).2 ⟨x,hx,rfl⟩,rfl⟩
  ·rintro⟨a,ha2,rfl⟩
   obtain⟨x,hx,rfl⟩:=(oJ ha a).1 ha2
   exact⟨x,hx,rfl⟩
 have h2:=h1.length_eq
 rw [J0,J0] at h2
 exact h2
theorem uJ{H:au}{nx r:Nat}{ro:Bool}{ls:List ow}{k:Int}(hr:H.at' r=some (EW ro ls))(hls:ls.length≤9223372036854775807)(hacts: ∀ x∈ls,ActIs H x∧x.1.ver.1.length≤9223372036854775807∧x.1.ver.2.1.length≤9223372036854775807)(hk : -9223372036854775808≤k∧k≤9223372036854775807):Fnc Tryz.prog 6 [.slu r 0 ls.length,.sc (.int .i64 k)] H nx (fun q=>q.1 = .sc (.bool true)):=by
 refine Kp Tryz.func6 rfl rfl ?_
 refine aX fun hund=>?_
 have lr:=hund _ _ hr
 repeat first|apply ai;rfl|apply cD;rfl|apply bU;rfl;kernel_rfl;exact few_s hr hls hacts
 cases hf:C6 ls with
 | false=>
   repeat first|apply ai;rfl|apply bU;rfl;kernel_rfl;exact lL
   (apply bP Tryz.func6 Tryz.results6;rfl)
   rfl
 | true=>
   obtain⟨hf1,hf2⟩:=EH hf
   repeat apply ai;rfl
   refine dQ rfl rfl rfl rfl (fun h40=>?_) (fun h40=>?_)
   ·repeat first|apply ai;rfl|apply bU;rfl;kernel_rfl;exact lL
    (apply bP Tryz.func6 Tryz.results6;rfl)
    rfl
   repeat first|refine cd (op:=.build _ #[]) (dg Dp) rfl rfl rfl ?_|refine cd (oc rfl yd D0 wy) rfl rfl rfl ?_|apply ai;rfl
   refine cT (R:=fun HB nB=>nB=nx+1+1∧HB.at' nx=some (cC zeroM (-1) 0)∧HB.at' (nx+1)=some (hpO (dC zeroM))∧ ∀ m,m<nx→HB.at' m=H.at' m) ⟨rfl,by repeat(first|exact ac|refine ab (by omega) ?_),by rw [B7];(focus((repeat(exact ac));done)),fun m hm=>by(repeat(refine ab (by omega) ?_));rfl⟩ ?_
   rintro HB nB ⟨rfl,s1,s2,s3⟩
   refine bu (α:=Nat×List UInt8×Int×Int) (fun x=> [(0,.slu r 0 ls.length),(1,.sc (.int .i64 k)),(5,.ptr nx 0),(6,.ptr (nx+1) 0),(7,.sc (.int .i64 (x.1:Int)))])
    (fun x H1 n1=>x.1≤ls.length∧(Hv x.2.1∧iY x.2.1≤x.1)∧(-1-96*(x.1:Int)≤x.2.2.1∧x.2.2.1 ≤ -1)∧(0≤x.2.2.2∧x.2.2.2≤96*(x.1:Int))∧nx+1+1≤n1∧H1.at' nx=some (cC x.2.1 x.2.2.1 x.2.2.2)∧H1.at' (nx+1)=some (hpO (dC x.2.1))∧ ∀ m,m<nx→H1.at' m=H.at' m) (fun x=>ls.length-x.1) (0,zeroM,-1,0)
    ⟨JL _,⟨Ev,Nat.le_of_eq (r9 fun n h=>mV h)⟩,⟨by decide,by decide⟩,⟨by decide,by decide⟩,JK _,s1,s2,s3⟩ (Kv (Ky rfl)) ?_
   clear s1 s2 s3
   rintro⟨i,mem,left,puts⟩ H1 n1 ⟨i1,⟨hv,ht⟩,⟨i2,i3⟩,⟨i4,i5⟩,i6,i7,i8,i9⟩ ih
   dsimp only at i1 hv ht i2 i3 i4 i5 i6 i7 i8 i9 ⊢
   have r1:H1.at' r=some (EW ro ls):=(i9 r lr).trans hr
   repeat apply ai;rfl
   refine bh rfl rfl rfl rfl (fun h5=>?_) (fun h5=>?_)
   ·have hi:i<ls.length:=by omega
    have hok:AP H1 n1 nx (nx+1) ls[i]:=fun H' hf'=>(hacts _ (JU hi)).1.frame fun b vo hb=>by
     have:=hund b vo hb
     exact(hf' b (by omega) (by omega) (by omega)).trans ((i9 b this).trans hb)
    repeat first|refine di (q:=i) rfl rfl rfl rfl (F.un _ rfl) (F.sz _ rfl) r1 (by omega) (by omega) (JK _) ?_|refine dP rfl rfl rfl (F.ag _ rfl) r1 (AJ hi) ?_|apply ai;rfl
    refine aI rfl rfl rfl (by kernel_rfl) (Ko (do_s i7 i8 (by omega) hv hok ⟨by omega,by omega⟩ ⟨by omega,by omega⟩) ?_)
    rintro⟨_,H2,n2⟩ ⟨hq,mem',left',puts',d1,d2,hv',⟨d3,d4⟩,⟨d5,d6⟩,d7,d8,htc⟩
    dsimp only at hq d1 d2 d7 d8 ⊢
    subst hq
    have d9: ∀ m,m<nx→H2.at' m=H.at' m:=fun m hm=>(d8 m (by omega) (by omega) (by omega)).trans (i9 m hm)
    repeat first|apply ai;rfl|apply aL;rfl;omega;omega
    exact ih _ _ _ (i+1,mem',left',puts') ⟨hi,⟨hv',by have:=t9 htc;dsimp only;omega⟩,⟨by first|omega|(dsimp only;omega),by first|omega|(dsimp only;omega)⟩,⟨by first|omega|(dsimp only;omega),by first|omega|(dsimp only;omega)⟩,by first|omega|(dsimp only;omega),d1,d2,d9⟩ (by dsimp only;omega) (Kv (Ky rfl))
   ·obtain⟨rows,hal,hrl,hrn⟩:=gS hv
    have hdoc:mI (dfH (dC mem))=some rows:=(kU fun n a b=>fq hv a b).trans hal
    clear ih
    repeat apply ai;rfl
    refine aI rfl rfl rfl (by kernel_rfl) (Ko (np (hm:=dC mem) i8 (dy hv.len)) ?_)
    rintro⟨_,H3,n3⟩ ⟨u1,u2,⟨u3,_⟩|⟨rows',s,rr,u3,rfl,u4⟩⟩
    ·rw [hdoc] at u3
     cases u3
    rw [hdoc] at u3
    cases u3
    dsimp only at u1 u2 u4 ⊢
    have z1:H3.at' nx=some (cC mem left puts):=(u2 _ (by omega)).trans i7
    repeat first|refine dP rfl rfl rfl (F.ag _ rfl) z1 (oU hv.len _ _) ?_|refine cd (oc rfl yd D0 (HV hv.len)) rfl rfl rfl ?_|apply ai;rfl
    refine cT (R:=fun HB nB=>nB=n3+1∧HB.at' n3=some (cC mem 0 0)∧HB.at' nx=some (cC mem left puts)∧RowsAt HB (fun m=>n1≤m∧m<n3) rr s rows∧ ∀ m,m<nx→HB.at' m=H.at' m) ⟨rfl,by repeat(exact ac),by(repeat(refine ab (by omega) ?_));exact z1,u4.grow fun m hm=>⟨hm,by(repeat(refine ab (by omega) ?_));rfl⟩,fun m hm=>by(repeat(refine ab (by omega) ?_));exact(u2 m (by omega)).trans (i9 m hm)⟩ ?_
    rintro HB nB ⟨rfl,q1,q2,q3,q4⟩
    refine aI rfl rfl rfl (by kernel_rfl) (Ko (oE (k:=⟨#[97]⟩) (x:=1) (Jw rfl)) ?_)
    rintro⟨s1,H4,n4⟩ ⟨a1,a2,a3⟩
    dsimp only at a1 a2 a3 ⊢
    refine aI rfl rfl rfl (by kernel_rfl) (Ko (wk (b:=n3) (v:=([97],nJ,1,0)) (mem:=mem) (left:=0) (puts:=0) ((a3 _ (by omega)).trans q1) hv.len (by exact a1) (by decide) (by decide)) ?_)
    rintro⟨_,H5,n5⟩ ⟨rfl,d2,d3,d4⟩
    dsimp only at d2 d3 d4 ⊢
    have hI:lg (ay mem) ([97],nJ,1,0) (decide ((0:Int)=0))=((0,0,8),none):=BQ hv (by omega) vn.1 vn.2
    rw [hI] at d2 ⊢
    have q5:H5.at' n3=some (cC mem 0 0):=d2
    have q6:H5.at' nx=some (cC mem left puts):=(d4 _ (by omega) (by omega)).trans ((a3 _ (by omega)).trans q2)
    have q7:RowsAt H5 (fun m=>n1≤m∧m<n3) rr s rows:=q3.grow fun m hm=>⟨hm,(d4 _ (by omega) (by omega)).trans (a3 _ (by omega))⟩
    have q8: ∀ m,m<nx→H5.at' m=H.at' m:=fun m hm=>(d4 _ (by omega) (by omega)).trans ((a3 _ (by omega)).trans (q4 m hm))
    clear a1 a3 d2 d4 q1 q2 q3 q4 u2 u4 z1 i7 i8 i9 hI
    repeat first|apply ai;rfl|apply aH;rfl;(focus((repeat(exact ac));done));rfl
    refine cT (R:=fun HB nB=>nB=n5+1∧HB.at' n3=some (cC mem 0 0)∧HB.at' nx=some (cC mem left puts)∧RowsAt HB (fun m=>n1≤m∧m<n3) rr s rows∧ ∀ m,m<nx→HB.at' m=H.at' m) ⟨rfl,by(repeat(refine ab (by omega) ?_));exact q5,by(repeat(refine ab (by omega) ?_));exact q6,q7.grow fun m hm=>⟨hm,by(repeat(refine ab (by omega) ?_));rfl⟩,fun m hm=>by(repeat(refine ab (by omega) ?_));exact q8 m hm⟩ ?_
    clear q5 q6 q7 q8
    rintro HB nB ⟨rfl,q5,q6,q7,q8⟩
    (apply bg;(focus(kernel_rfl));(focus(kernel_rfl)))
    repeat first|refine nc rfl rfl rfl rfl (fun e=>absurd rfl e) (fun _=>?_)|apply bH;rfl;rfl;exact(fun _ h=>by cases h);exact(aW (F.ag _ rfl) rfl q5 (oU hv.len _ _))|apply bH;rfl;rfl;exact(fun _ h=>by cases h);exact(aW (F.ag _ rfl) rfl q6 (oU hv.len _ _))|apply bH;rfl;rfl;exact(fun _ h=>by cases h);exact(p8 hv.len rfl rfl)|apply aU;rfl
    refine aA ⟨by kernel_rfl,?_,?_⟩;(focus(repeat(first|exact Kz|apply gq;rfl;kernel_rfl|refine f9 0 rfl (by kernel_rfl) (by(repeat(refine⟨(by first|exact aW (F.ag _ rfl) rfl q5 (oU hv.len _ _)|exact aW (F.ag _ rfl) rfl q6 (oU hv.len _ _)|exact p8 hv.len rfl rfl),?_⟩));exact Kz) ?_|apply ml;kernel_rfl)))
    dsimp only
    rcases q7 with ⟨hrz,rfl⟩|⟨ws,L,hL0,rfl,hrw,hrL,hrr,hC⟩
    ·repeat first|refine GY (mW) rfl rfl rfl ?_|apply ai;rfl
     refine bu (α:=Unit) (fun _=> [(1,.sc (.int .i64 k)),(8,dA),(14,.mp (n5+1)),(15,.sc (.int .i64 0))]) (fun _ H6 n6=>H6.at' (n5+1)=some (gg Ao AQ ([]:MpT) 0)) (fun _=>0) () (by repeat(exact ac)) (Kv (Ky rfl)) ?_
     rintro _ H6 n6 hmp _
     repeat first|refine cd (jL (F.un _ rfl) rfl) rfl rfl rfl ?_|apply kY;rfl;decide|apply ai;rfl
     refine bh rfl rfl rfl rfl (fun h7=>?_) (fun h7=>?_)
     ·skip
      repeat first|apply ai;rfl|apply bU;rfl;kernel_rfl;exact lL
      (apply bP Tryz.func6 Tryz.results6;rfl)
      rfl
     ·repeat first|refine vh (m:=([]:MpT)) (enc:=Ao) (val:=AQ) rfl rfl rfl (F.un _ rfl) hmp ?_|refine dR rfl rfl rfl rfl (fun _=>?_) (fun e=>absurd e (by simp only [List.length_nil];omega))|apply ai;rfl
      repeat first|apply ai;rfl|apply bU;rfl;kernel_rfl;exact lL
      (apply bP Tryz.func6 Tryz.results6;rfl)
      rfl
    ·repeat first|refine GY (mW) rfl rfl rfl ?_|apply ai;rfl
     refine iX 2 40 (d:=13) (by repeat(first|exact ac|refine ab (by omega) ?_)) rfl ?_
     refine bu (α:=Nat×Nat×List (Int×Int)×MpT×Nat) (fun x=> [(1,.sc (.int .i64 k)),(5,.ptr nx 0),(8,.slu rr 0 rows.length),(10,.ptr n3 0),(13,.slu x.2.1 0 x.2.2.1.length),(14,.mp (n5+1)),(15,.sc (.int .i64 (x.1:Int)))])
      (fun x H6 n6=>x.1≤rows.length∧(n5+1<x.2.1∧x.2.1<n6)∧x.2.2.1=cm (rows.take x.1)∧H6.at' x.2.1=some (oI x.2.2.1)∧MpOk x.2.2.2.1 x.2.2.2.2 (rows.take x.1)∧H6.at' (n5+1)=some (gg Ao AQ x.2.2.2.1 x.2.2.2.2)∧ ∀ m,m<n5+1→H6.at' m=HB.at' m) (fun x=>rows.length-x.1) (0,n5+1+1,[],[],0)
      ⟨JL _,⟨Nat.lt_succ_self _,Nat.lt_succ_self _⟩,rfl,ah _ _ _,MpOk.nil 0,by repeat(first|exact ac|refine ab (by omega) ?_),fun m hm=>by(repeat(refine ab (by omega) ?_));rfl⟩ (Kv (Ky rfl)) ?_
     rintro⟨i,rp,l,m,c⟩ H6 n6 ⟨e1,⟨e2,e3⟩,e4,e5,e6,e7,e8⟩ ih
     dsimp only at e1 e2 e3 e4 e5 e6 e7 e8 ⊢
     repeat apply ai;rfl
     refine bh rfl rfl rfl rfl (fun h5=>?_) (fun h5=>?_)
     ·have hi:i<rows.length:=by omega
      have hll:l.length≤28800:=by rw [e4,J0,JZ];omega
      obtain⟨x1,x2,ra,_,_,_,x3,_⟩:=hC.cells hi
      have hrw6:H6.at' rr=some (mM false rows.length 6 67 ws):=(e8 rr (by omega)).trans hrw
      repeat first|refine di (q:=i) rfl rfl rfl rfl (F.un _ rfl) (F.sz _ rfl) hrw6 (by omega) (by omega) (JK _) ?_|refine dP rfl rfl rfl (F.ag _ rfl) hrw6 x3 ?_|apply bq;rfl;rfl;exact(F.un _ rfl);exact(F.sz _ rfl);rfl;exact(F.ze _ rfl);rfl;rfl;rfl;rfl;rfl|apply ai;rfl
      refine ll (b:=16) (xs:=l) (a:=(((rows[i]).1.1:Int),((rows[i]).1.2:Int))) rfl rfl rfl rfl (F.un _ rfl) (.inl ⟨_,F.un _ rfl⟩) (F.sz _ rfl) rfl (by kernel_rfl) (by kernel_rfl) (by repeat(first|assumption|refine ab (by omega) ?_)) (by repeat(exact ac)) (by rfl) (qF) (by omega) (by omega) ?_
      repeat first|refine di (q:=i) rfl rfl rfl rfl (F.un _ rfl) (F.sz _ rfl) (by(repeat(first|refine ab (by omega) ?_|refine bQ (by omega) ?_));exact hrw6) (by omega) (by omega) (JK _) ?_|refine yp rfl rfl rfl (F.ag _ rfl) (by(repeat(first|refine ab (by omega) ?_|refine bQ (by omega) ?_));exact hrw6) (qp x3) ?_|refine DA (m:=m) (c:=c) (enc:=Ao) (val:=AQ) (kk:=((rows[i]).1.1:Int)) (v:=()) rfl rfl rfl (F.un _ rfl) Ep (by(repeat(first|refine ab (by omega) ?_|refine bQ (by omega) ?_));exact e7) rfl ?_|apply ai;rfl|apply aL;rfl;omega;omega
      have htk:rows.take (i+1)=rows.take i ++ [rows[i]]:=List.take_succ_eq_append_getElem hi
      have hl2:l ++ [(((rows[i]).1.1:Int),((rows[i]).1.2:Int))]=cm (rows.take (i+1)):=by rw [e4,htk,nX];rfl
      refine ih _ _ _ (i+1,n6+1,l ++ [(((rows[i]).1.1:Int),((rows[i]).1.2:Int))],gN m ((rows[i]).1.1:Int) () c,oq m ((rows[i]).1.1:Int) c) ⟨hi,⟨by dsimp only;omega,by first|omega|(dsimp only;omega)⟩,hl2,by dsimp only;(focus((repeat(first|exact ac|refine ab (by omega) ?_));done)),by dsimp only;rw [htk];exact e6.put _,by dsimp only;(focus((repeat(exact ac));done)),fun m hm=>by(repeat(first|refine ab (by omega) ?_|refine bQ (by omega) ?_));exact e8 m hm⟩ (by dsimp only;omega) (Kv (Ky rfl))
     ·obtain rfl:i=rows.length:=by omega
      rw [List.take_length] at e4 e6
      subst e4
      have hlen:=e6.len hal
      repeat apply ai;rfl
      refine bh rfl rfl rfl rfl (fun h7=>?_) (fun h7=>?_)
      ·skip
       repeat first|apply ai;rfl|apply bU;rfl;kernel_rfl;exact lL
       (apply bP Tryz.func6 Tryz.results6;rfl)
       rfl
      ·repeat first|refine vh (m:=m) (enc:=Ao) (val:=AQ) rfl rfl rfl (F.un _ rfl) e7 ?_|apply ai;rfl
       refine dR rfl rfl rfl rfl (fun h8=>?_) (fun h8=>?_)
       ·skip
        repeat first|apply ai;rfl|apply bU;rfl;kernel_rfl;exact lL
        (apply bP Tryz.func6 Tryz.results6;rfl)
        rfl
       ·obtain⟨kk,rfl⟩: ∃ kk:Nat,k=(kk:Int):=⟨k.toNat,by omega⟩
        have hkk:kk<(b7 (cm rows)).length:=by omega
        have f1:H6.at' n3=some (cC mem 0 0):=(e8 _ (by omega)).trans q5
        have f2:H6.at' nx=some (cC mem left puts):=(e8 _ (by omega)).trans q6
        repeat apply ai;rfl
        refine dq (cs:=qa mem 0 0) rfl rfl rfl (F.sz _ rfl) f1 rfl (Jy (by rw [mT hv.len];decide)) ?_
        rw [vO hv.len]
        repeat apply ai;rfl
        refine aI rfl rfl rfl (by kernel_rfl) (Ko (y3 (b:=n3) (r:=rp) (l:=cm rows) (mem:=mem) (left:=(kk:Int)) (puts:=0) (by repeat(exact ac)) hv.len (by(repeat(refine ab (by omega) ?_));exact e5) (by omega) (by rw [J0];omega) hv.good ⟨by omega,by have:=oP (pf:=ay mem) (l:=cm rows);rw [mN hal,J0] at this;omega⟩ (by decide)) ?_)
        have hps:(fD (ay mem) (cm rows)).2.length=(b7 (cm rows)).length:=by rw [mN hal,J0]
        have hr0:(fD (ay mem) (cm rows)).1=0:=by rw [mN hal]
        rw [JV (fun e=>e hr0),oR _ mem kk 0 (by omega)]
        rintro⟨_,H7,n7⟩ ⟨rfl,d2,d3,d4⟩
        dsimp only at d2 d3 d4 ⊢
        have hv2:=DG hv (l:=rows) kk
        have g1:H7.at' n3=some (cC (xg mem rows kk) 0 (0+(kk:Int))):=d2
        have g2:H7.at' nx=some (cC mem left puts):=(d4 _ (by omega) (by omega)).trans (by(repeat(refine ab (by omega) ?_));exact f2)
        have g3:H7.at' (n5+1)=some (gg Ao AQ m c):=(d4 _ (by omega) (by omega)).trans (by(repeat(refine ab (by omega) ?_));exact e7)
        have htp:=fun n=>sb hv (l:=rows) hal kk n
        obtain⟨got,hgal,hgl,hgn⟩:=gS hv2
        have htn: ∀ n,n∈(b7 (cm rows)).take kk→ ∀ x∈got,x.1.1≠n:=fun n hn=>yC hv hal hn hgal
        clear d2 d4 e5 e7 e8 f1 f2 q5 q6 q8 hrw hrL hrr hC
        generalize xg mem rows kk=mem2 at hv2 g1 htp hgal htn
        repeat first|apply dK;rfl;rfl|apply ai;rfl
        refine aI rfl rfl rfl (by kernel_rfl) (Ko (all_g (b:=n3) (mem:=mem2) (left:=0) (puts:=0+(kk:Int)) g1 hv2.len) ?_)
        rintro⟨_,H8,n8⟩ ⟨w1,w2,⟨w3,_⟩|⟨got',s2,r2,w3,rfl,w4⟩⟩
        ·rw [hgal] at w3
         cases w3
        rw [hgal] at w3
        cases w3
        dsimp only at w1 w2 w4 ⊢
        have k1:H8.at' n3=some (cC mem2 0 (0+(kk:Int))):=(w2 _ (by omega)).trans g1
        have k2:H8.at' nx=some (cC mem left puts):=(w2 _ (by omega)).trans g2
        have k3:H8.at' (n5+1)=some (gg Ao AQ m c):=(w2 _ (by omega)).trans g3
        have hsrt:=eQ (cm rows)
        have hmem: ∀ n:Nat,n∈b7 (cm rows)↔ ∃ u,fX m (n:Int)=some u:=fun n=>by
         rw [oJ hal,e6.has]
         constructor
         ·rintro⟨x,hx,rfl⟩
          exact⟨x,hx,rfl⟩
         ·rintro⟨x,hx,he⟩
          exact⟨x,hx,by omega⟩
        have hone:=w4.len
        have hrk0:kZ (b7 (cm rows)) 32=0:=Bt
        clear w2 g1 g2 g3 hgal hgn hal e6
        generalize b7 (cm rows)=L0 at hkk htp htn hsrt hmem hlen hps hrk0
        repeat first|apply dK;rfl;rfl|apply ai;rfl
        refine bu (α:=Nat×Nat) (fun x=> [(1,.sc (.int .i64 (kk:Int))),(5,.ptr nx 0),(10,.ptr n3 0),(14,.mp (n5+1)),(16,s2),(18,.sc (.int .i64 (x.2:Int))),(19,.sc (.int .i64 (x.1:Int)))])
         (fun x H9 n9=>(32≤x.1∧x.1≤128)∧x.2=min (kZ L0 x.1) kk∧n8≤n9∧ ∀ z,z<n8→H9.at' z=H8.at' z) (fun x=>128-x.1) (32,0) ⟨⟨by decide,by decide⟩,by dsimp only;omega,by omega,fun z hz=>by rfl⟩ (Kv (Ky rfl)) ?_
        rintro⟨n,g⟩ H9 n9 ⟨⟨b1,b2⟩,hg,b3,b4⟩ ih2
        dsimp only at b1 b2 hg b3 b4 ⊢
        repeat apply ai;rfl
        refine bh rfl rfl rfl rfl (fun h9=>?_) (fun h9=>?_)
        ·have hn:n<128:=by omega
         have c3:H9.at' (n5+1)=some (gg Ao AQ m c):=(b4 _ (by omega)).trans k3
         have hrs:=sH hsrt n
         cases hgk:fX m (n:Int)with
         | none=>
           have hnL:n∉L0:=fun h=>by
            obtain⟨u,hu⟩:=(hmem n).1 h
            rw [hgk] at hu
            cases hu
           rw [JV hnL] at hrs
           repeat apply ai;rfl
           refine DB (m:=m) (c:=c) (enc:=Ao) (val:=AQ) (kk:=(n:Int)) (z:= .agg #[.bool false]) rfl rfl rfl rfl (F.un _ rfl) Ep c3 hgk (F.ze _ rfl) ?_
           refine GU (d:=134) (s:= .sc (.agg #[.bool false])) (s':= .agg [.sc (.bool false)]) (by repeat(exact ac)) (fun e v h=>by simpa [SV.conc,SV.aK] using h) ?_
           (apply yr (cs:= [.sc (.bool false)]) (v:= .sc (.bool false));rfl;rfl;rfl;(focus(kernel_rfl)))
           repeat first|apply ai;rfl|apply aL;rfl;omega;omega
           exact ih2 _ _ _ (n+1,g) ⟨⟨by dsimp only;omega,by dsimp only;omega⟩,by dsimp only;omega,b3,b4⟩ (by dsimp only;omega) (Kv (Ky rfl))
         | some u=>
           have hnL:n∈L0:=(hmem n).2 ⟨u,hgk⟩
           rw [JW hnL] at hrs
           have htr:=sd hsrt hnL kk
           repeat apply ai;rfl
           refine t8 (m:=m) (c:=c) (enc:=Ao) (val:=AQ) (kk:=(n:Int)) rfl rfl rfl rfl (F.un _ rfl) Ep c3 hgk ?_
           (apply yr (cs:= [.sc (.bool true)]) (v:= .sc (.bool true));rfl;rfl;rfl;(focus(kernel_rfl)))
           repeat apply ai;rfl
           refine bh rfl rfl rfl rfl (fun h10=>?_) (fun h10=>?_)
           ·have hne:=htn n (htr.2 (by omega))
            repeat first|apply ai;rfl|apply aL;rfl;omega;omega
            rcases(w4.grow (ok':=fun z=>n7≤z∧z<n8) fun z hz=>⟨hz,b4 z hz.2⟩:RowsAt H9 _ r2 s2 got)with ⟨hgz,rfl⟩|⟨ws,L,hL0,rfl,hrw,hrL,hrr,hC⟩
            ·refine bu (α:=Unit) (fun _=> [(1,.sc (.int .i64 (kk:Int))),(5,.ptr nx 0),(10,.ptr n3 0),(14,.mp (n5+1)),(16,dA),(18,.sc (.int .i64 (g+1:Nat))),(19,.sc (.int .i64 (n:Int))),(20,.sc (.int .i64 0))]) (fun _ H10 n10=>n8≤n10∧ ∀ z,z<n8→H10.at' z=H8.at' z) (fun _=>0) () ⟨b3,fun z hz=>by exact b4 z hz⟩ (Kv (Ky rfl)) ?_
             rintro _ H10 n10 ⟨c5,c6⟩ _
             repeat first|refine cd (jL (F.un _ rfl) rfl) rfl rfl rfl ?_|apply kY;rfl;decide|apply ai;rfl|apply aL;rfl;omega;omega
             exact ih2 _ _ _ (n+1,g+1) ⟨⟨by dsimp only;omega,by dsimp only;omega⟩,by dsimp only;omega,c5,c6⟩ (by dsimp only;omega) (Kv (Ky rfl))
            ·refine bu (α:=Nat) (fun i=> [(1,.sc (.int .i64 (kk:Int))),(5,.ptr nx 0),(10,.ptr n3 0),(14,.mp (n5+1)),(16,.slu r2 0 got.length),(18,.sc (.int .i64 (g+1:Nat))),(19,.sc (.int .i64 (n:Int))),(20,.sc (.int .i64 (i:Int)))]) (fun i H10 n10=>i≤got.length∧n8≤n10∧ ∀ z,z<n8→H10.at' z=H8.at' z) (fun i=>got.length-i) 0 ⟨JL _,b3,fun z hz=>by exact b4 z hz⟩ (Kv (Ky rfl)) ?_
             rintro i H10 n10 ⟨c4,c5,c6⟩ ih3
             repeat apply ai;rfl
             refine bh rfl rfl rfl rfl (fun h11=>?_) (fun h11=>?_)
             ·have hi:i<got.length:=by omega
              obtain⟨x1,x2,ra,_,_,_,x3,_⟩:=hC.cells hi
              have hrw2:H10.at' r2=some (mM false got.length 6 67 ws):=((c6 r2 (by omega)).trans (b4 r2 (by omega)).symm).trans hrw
              have hne2:=hne got[i] (JU hi)
              repeat first|refine di (q:=i) rfl rfl rfl rfl (F.un _ rfl) (F.sz _ rfl) hrw2 (by omega) (by omega) (JK _) ?_|refine yp rfl rfl rfl (F.ag _ rfl) hrw2 (qp x3) ?_|apply ig;rfl;omega|apply ai;rfl|apply aL;rfl;omega;omega
              exact ih3 _ _ _ (i+1) ⟨hi,c5,c6⟩ (by omega) (Kv (Ky rfl))
             ·repeat first|apply ai;rfl|apply aL;rfl;omega;omega
              exact ih2 _ _ _ (n+1,g+1) ⟨⟨by dsimp only;omega,by dsimp only;omega⟩,by dsimp only;omega,c5,c6⟩ (by dsimp only;omega) (Kv (Ky rfl))
           ·have hpe:ay mem2 n=ay mem n:=by rw [htp,JV (fun h=>by have:=htr.1 h;omega)]
            have hc1:=oT hv2.len hn 0 (0+(kk:Int))
            have hc2:=oT hv.len hn left puts
            have hpl:=dz hv.len hn
            rw [hpe] at hc1
            have c1:H9.at' n3=some (cC mem2 0 (0+(kk:Int))):=(b4 _ (by omega)).trans k1
            have c2:H9.at' nx=some (cC mem left puts):=(b4 _ (by omega)).trans k2
            repeat apply ai;rfl
            (apply bg;(focus(kernel_rfl));(focus(kernel_rfl)))
            repeat first|apply jl (q:=n);rfl;rfl;rfl;rfl;exact(F.un _ rfl);exact(F.sz _ rfl);(focus(omega));(focus(omega))|apply bH;rfl;rfl;exact(fun _ h=>by cases h);exact(aW (F.ag _ rfl) rfl c1 hc1)|apply bH;rfl;rfl;exact(fun _ h=>by cases h);exact(aW (F.ag _ rfl) rfl c2 hc2)|apply bH;rfl;rfl;exact(fun _ h=>by cases h);exact(sD hpl rfl rfl)|apply aU;rfl
            refine aA ⟨by kernel_rfl,?_,?_⟩;(focus(repeat(first|exact Kz|apply gq;rfl;kernel_rfl|refine f9 0 rfl (by kernel_rfl) (by(repeat(refine⟨(by first|exact aW (F.ag _ rfl) rfl c1 hc1|exact aW (F.ag _ rfl) rfl c2 hc2|exact sD hpl rfl rfl|exact gI (q:=n) rfl rfl (F.un _ rfl) (F.sz _ rfl) (by omega) (by omega)),?_⟩));exact Kz) ?_)))
            dsimp only
            repeat first|apply ai;rfl|apply aL;rfl;omega;omega
            exact ih2 _ _ _ (n+1,g) ⟨⟨by dsimp only;omega,by dsimp only;omega⟩,by dsimp only;omega,b3,b4⟩ (by dsimp only;omega) (Kv (Ky rfl))
        ·skip
         repeat first|apply ai;rfl|apply bU;rfl;kernel_rfl;exact lL
         (apply bP Tryz.func6 Tryz.results6;rfl)
         rfl
end Go.Proofs.YtnhmbonmlfeifaaGreat
end
section
namespace Go.Sl
open Go Go.RowKit Go.WideShapes Go.ChangeShapes
theorem post_new{H:Type}{enc:TypeId×Value→H}{P:Program}{f:Func}{s:ChangeSpec}{apart fresh handsOn again:Bool}{W W':World}{args:Array Value}{v:Value}{ds gs:List (DataW H)}{before pa pv:List MemPlace}
 (hW:DataW.Whole enc P f.params.toList s.vars apart W args.toList ds gs before) (hb:Below W.heap.size W W') (hps:before=pa ++ pv)
 (hres: ∀ (b:Nat) (sp:Nat→Bool) (hd:Bool),DataW.TrodAll enc P W' b sp hd f.resultTypes.toList (v.resultList f.resultTypes.size) (s.fn H (ds ++ gs)).results [])
 (hargs: ∀ sp:Nat→Bool,(∀ p∈before,sp p.block=true)→DataW.TrodAll enc P W' 0 sp true f.params.toList args.toList (s.fn H (ds ++ gs)).args pa)
 (hvars: ∀ sp:Nat→Bool,(∀ p∈before,sp p.block=true)→DataW.TrodVars enc P W' sp s.vars (s.fn H (ds ++ gs)).vars pv)
 (hok: ∀ (j:Nat) (t:TypeId) (r:Value),f.resultTypes[j]? =some t→(v.resultList f.resultTypes.size)[j]? =some r→Value.okWide P W' .any 0 t r) :
 s.post enc P f apart fresh handsOn again W args v W':=by
 have hsp: ∀ p∈before,(fun b=>decide (b<W.heap.size)) p.block=true:=fun p hp=>by simpa using hW.lt p hp
 have hmem: ∀ p,p∈pa ++ pv↔p∈before:=fun p=>by rw [hps]
 refine⟨ds,gs,before,[],pa,pv,hW,hres _ _ _,hargs _ hsp,hvars _ hsp,World.keptBut_mono (fun p hp=>⟨hp,?_⟩) (hb.frame (·∈before)),fun _=>?_⟩
 ·have:=(hmem p).2 hp
  rw [List.mem_append] at this
  exact .inr this
 obtain⟨_,_,_,_,_,hz,hn⟩:=id hW
 refine⟨hok,_,_,([] ++ pa) ++ pv,⟨[] ++ pa,pv,trodAll_append (hargs _ (fun _ _=>rfl)) (hres _ _ _),hvars _ (fun _ _=>rfl),rfl,fun b off hp=>?_,fun ha=>?_⟩,fun p hp _=>?_⟩
 ·have hin:MemPlace.cell b off∈before:=(hmem _).1 (by simpa using hp)
  rw [hb.frozen (hW.lt _ hin)]
  exact hz b off hin
 ·have:=hn ha
  rw [hps] at this
  simpa using this
 ·exact(hmem p).1 (by simpa using hp)
end Go.Sl
end
section
namespace Go.Sy
open Go Go.Sl Go.RowKit Go.WideShapes
section
variable {sz:Nat}{A:Type}{v:Value}{w:World}{f:A→List Value}
theorem yW(p:Program)(fits:TypeId→Bool)(d:Nat)(e:TypeId)(count off n:Nat)(h:rowAt p fits d e count off n=true):off≤count*p.cellsOf e:=by
 cases d with
 | zero=>simp [rowAt] at h
 | succ d=>
   unfold rowAt at h
   simp only at h
   split at h
   ·cases h
   ·rename_i hs
    have hdiv:=Nat.div_add_mod off (p.cellsOf e)
    rw [Bool.or_eq_true] at h
    rcases h with h|h
    ·simp only [JJ,beq_iff_eq,Km] at h
     obtain⟨⟨h1,h2⟩,_⟩:=h
     have:p.cellsOf e*(off / p.cellsOf e)≤p.cellsOf e*count:=Nat.mul_le_mul_left _ (by omega)
     rw [Nat.mul_comm count]
     omega
    ·rw [JJ,Km] at h
     have hm:=Nat.mod_lt off (Nat.pos_of_ne_zero hs)
     have:p.cellsOf e*(off / p.cellsOf e+1)≤p.cellsOf e*count:=Nat.mul_le_mul_left _ (by omega)
     rw [Nat.mul_add,Nat.mul_one] at this
     rw [Nat.mul_comm count]
     omega
theorem qg(p:Program): ∀ (d:Nat) (e:TypeId) (count off:Nat) (u:TypeId) (n:Nat),liesAt p d e count off u n=true→off≤count*p.cellsOf e
 | 0,_,_,_,_,_,h=>by simp [liesAt] at h
 | d+1,e,count,off,u,n,h=>by
   unfold liesAt at h
   rw [Bool.or_eq_true] at h
   rcases h with h|h
   ·exact yW p _ _ e count off n h
   ·split at h
    ·exact qg p d e count off _ _ h
    ·cases h
theorem mZ{f:Nat→Option A}: ∀ {n:Nat} {l:List A},(List.range n).mapM f=some l→l.length=n∧ ∀ i,i<n→f i=l[i]? :=by
 intro n
 induction n with
 | zero=>intro l h;simp at h;subst h;exact⟨rfl,fun i hi=>by omega⟩
 | succ n ih=>
   intro l h
   rw [List.range_succ,List.mapM_append] at h
   simp only [Option.bind_eq_bind,Option.bind_eq_some_iff] at h
   obtain⟨a,ha,b,hb,hl⟩:=h
   obtain⟨h1,h2⟩:=ih ha
   cases hf:f n with
   | none=>simp [hf] at hb
   | some x=>
     simp [hf] at hb
     subst hb
     simp at hl
     subst hl
     refine⟨by simp [h1],fun i hi=>?_⟩
     rcases JY i n with h|h
     ·rw [JH (by omega)];exact h2 i h
     ·obtain rfl:i=n:=by omega
      rw [hf,J5 (by omega),h1]
      simp
theorem yQ{b0:Nat}{H:Type}{enc:TypeId×Value→H}{P:Program}{t e:TypeId}{dd:DataW H}{p:List MemPlace}(ht:P.underlying t=some (.slice e))(hc:P.cellsOf e=sz)(h0:0<sz)
 (hT:DataW.Trod enc P w 0 (fun _=>true) true t v dd p) (hok:Value.okWide P w .any b0 t v) :
 (v = .slice none 0 0)∨ ∃ (b o len cap:Nat) (cs:Array Value) (tt:TypeId) (fz:Nat×Nat),v = .slice (some ⟨b,o,none⟩) len cap∧w.heap[b]? =some (.cells cs tt fz)∧len≤cap∧cap≤maxLen∧o+cap*sz≤cs.size ∧
   ∀ i,i<len→ ∃ us:List Value,us.length=sz∧(∀ j,j<sz→cs[o+i*sz+j]? =us[j]?)∧ ∃ n y,DataW.trod enc P w 0 (fun _=>true) true n e us=some y:=by
 obtain⟨fuel,hT⟩:=hT
 obtain⟨a0,len0,cap0,rfl⟩:=okWide_slice ht hok
 have hcells:(Value.slice a0 len0 cap0).cells.toList= [.slice a0 len0 cap0]:=rfl
 rw [hcells] at hT
 rcases DataW.trod_slice ht hT with ⟨h1,_⟩|⟨a,len,cap,elems,rest,n,_,h1,_,_,h3,h4,h5,h6,h7,_⟩
 ·left
  simpa using h1
 ·right
  simp only [List.cons.injEq,and_true,Value.slice.injEq] at h1
  obtain⟨rfl,rfl,rfl⟩:=h1
  unfold Value.okWide at hok
  rw [ht] at hok
  simp only at hok
  unfold Cell.okWide at hok
  rw [ht] at hok
  simp only at hok
  unfold Cell.ok at hok
  rw [ht] at hok
  simp only at hok
  obtain⟨_,_,_,hsp,row,cells,hsh,hli⟩:=hok
  obtain⟨b,o,sp⟩:=a
  simp only at hsp hsh hli h6 h7
  subst hsp
  unfold World.shape? at hsh
  cases hob:w.heap[b]? with
  | none=>rw [hob] at hsh;cases hsh
  | some ob=>
    rw [hob] at hsh
    cases ob with
    | cells cs tt fz=>
      simp only [Jr,Jz] at hsh
      obtain⟨rfl,rfl⟩:=hsh
      have hoff:=qg P _ _ _ _ _ _ hli
      have hoff2:o≤cs.size:=JS hoff (Nat.div_mul_le_self _ _)
      have hcell: ∀ q:Nat,w.cell? ⟨b,q,none⟩=cs[q]? :=fun q=>by simp [World.cell?,hob]
      have hget: ∀ (q:Nat) (us:List Value),w.cells? 0 ((⟨b,o,none⟩:Addr).add (q*P.cellsOf e)) (P.cellsOf e)=some us→us.length=sz∧ ∀ j,j<sz→cs[o+q*sz+j]? =us[j]? :=by
       intro q us hus
       rw [add_plain] at hus
       unfold World.cells? at hus
       rw [JW (JL _)] at hus
       obtain⟨g1,g2⟩:=mZ hus
       rw [hc] at g1 g2 hus
       refine⟨g1,fun j hj=>?_⟩
       have:=g2 j hj
       rw [add_plain,hcell] at this
       exact this
      refine⟨b,o,len0,cap0,cs,tt,fz,rfl,hob,h3,h4,?_,fun i hi=>?_⟩
      ·rcases Nat.eq_zero_or_pos cap0 with hz|hz
       ·subst hz;simpa using hoff2
       ·have hlast: ∃ us,w.cells? 0 ((⟨b,o,none⟩:Addr).add ((cap0-1)*P.cellsOf e)) (P.cellsOf e)=some us:=by
         rcases JY (cap0-1) len0 with hl|hl
         ·have h8:=h6 (cap0-1) hl
          rw [Ju (by omega)] at h8
          cases hcs:w.cells? 0 ((⟨b,o,none⟩:Addr).add ((cap0-1)*P.cellsOf e)) (P.cellsOf e)with
          | none=>rw [hcs] at h8;cases h8
          | some us=>exact⟨us,rfl⟩
         ·obtain⟨h9,h10⟩:=h7 trivial
          have h8:=h10 (cap0-1-len0) (by omega)
          rw [Ju (by omega),show len0+(cap0-1-len0)=cap0-1 by omega] at h8
          cases hcs:w.cells? 0 ((⟨b,o,none⟩:Addr).add ((cap0-1)*P.cellsOf e)) (P.cellsOf e)with
          | none=>rw [hcs] at h8;cases h8
          | some us=>exact⟨us,rfl⟩
        obtain⟨us,hus⟩:=hlast
        obtain⟨g1,g2⟩:=hget _ _ hus
        have g3:=g2 (sz-1) (by omega)
        rw [Ju (show sz-1<us.length by omega)] at g3
        have g4:=(JB.1 g3).1
        have:cap0*sz=(cap0-1)*sz+sz:=by
         conv=>lhs;rw [show cap0=cap0-1+1 by omega,Nat.add_mul,Nat.one_mul]
        omega
      ·have h8:=h6 i hi
       rw [Ju (by omega)] at h8
       cases hcs:w.cells? 0 ((⟨b,o,none⟩:Addr).add (i*P.cellsOf e)) (P.cellsOf e)with
       | none=>rw [hcs] at h8;cases h8
       | some us=>
         rw [hcs] at h8
         simp only [JR] at h8
         obtain⟨g1,g2⟩:=hget _ _ hcs
         exact⟨us,g1,g2,n,_,h8⟩
    | _=>cases hsh
def ik(w:World):Zone:=⟨fun j=>j<w.heap.size,fun j=>j<w.heap.size,fun _ h=>h⟩
theorem zY(w:World):Kept (ik w) w w:=⟨rfl,rfl,rfl,JK _,fun _ h=>h,fun _ _=>rfl⟩
theorem Ch{w0:World}(h:Kept (ik w0) w0 w):Below w0.heap.size w0 w:=⟨h.os,h.tape,h.output,h.size,fun j hj=>h.block j hj⟩
def ib(sz:Nat):Value→Ent
 | .slice (some a) _ cap=>⟨a.block,a.off,cap,sz,false⟩
 | _=>⟨0,0,0,sz,true⟩
def ArgRow{A:Type}(w:World)(sz:Nat)(f:A→List Value)(v:Value)(l:List A):Prop:=
 (v = .slice none 0 0∧l= [])∨ ∃ (b o len cap:Nat) (cs:Array Value) (tt:TypeId) (fz:Nat×Nat),v = .slice (some ⟨b,o,none⟩) len cap∧w.heap[b]? =some (.cells cs tt fz)∧len=l.length∧len≤cap∧cap≤maxLen∧o+cap*sz≤cs.size ∧
   ∀ i c,l[i]? =some c→ ∀ j,j<sz→cs[o+i*sz+j]? =(f c)[j]?
theorem AI{b0:Nat}{H:Type}{enc:TypeId×Value→H}{P:Program}{t e:TypeId}{dd:DataW H}{p:List MemPlace}(ht:P.underlying t=some (.slice e))(hc:P.cellsOf e=sz)(h0:0<sz)
 (hT:DataW.Trod enc P w 0 (fun _=>true) true t v dd p) (hok:Value.okWide P w .any b0 t v) (hf: ∀ n us y,DataW.trod enc P w 0 (fun _=>true) true n e us=some y→ ∃ a,us=f a): ∃ l:List A,ArgRow w sz f v l:=by
 rcases yQ ht hc h0 hT hok with h|⟨b,o,len,cap,cs,tt,fz,h1,h2,h3,h4,h5,h6⟩
 ·exact⟨[],.inl ⟨h,rfl⟩⟩
 ·have hex: ∀ i,i<len→ ∃ a:A,∀ j,j<sz→cs[o+i*sz+j]? =(f a)[j]? :=by
   intro i hi
   obtain⟨us,g1,g2,n,y,g3⟩:=h6 i hi
   obtain⟨a,rfl⟩:=hf n us y g3
   exact⟨a,g2⟩
  refine⟨(List.range len).attach.map (fun i=>Classical.choose (hex i.1 (Kh.1 i.2))),.inr ⟨b,o,len,cap,cs,tt,fz,h1,h2,by simp,h3,h4,h5,?_⟩⟩
  intro i c hi j hj
  rw [Kc] at hi
  obtain⟨q,hq,rfl⟩:=JA.1 hi
  have hq1:q.1=i:=by
   obtain⟨hlt,hh⟩:=Jv.1 hq
   rw [← hh]
   simp
  have:=Classical.choose_spec (hex q.1 (Kh.1 q.2)) j hj
  rw [← hq1]
  exact this
theorem ArgRow.conc{l:List A}(h:ArgRow w sz f v l){e:Env}{b:Nat}(he:e b=some (ib sz v)):(SV.slu b 0 l.length).conc e=some v:=by
 rcases h with ⟨rfl,rfl⟩|⟨b',o,len,cap,cs,tt,fz,rfl,h2,rfl,h3,h4,h5,h6⟩
 ·simp [SV.conc,he,ib,Ent.at]
 ·simp [SV.conc,he,ib,Ent.at]
theorem ww{A:Type}{f:A→List Value}{sz:Nat}(hf: ∀ a,(f a).length=sz): ∀ (l:List A) (i j:Nat),j<sz→(l.flatMap f)[i*sz+j]? =(l[i]?).bind (fun c=>(f c)[j]?)
 | [],i,j,_=>by simp
 | a :: l,0,j,hj=>by
   rw [List.flatMap_cons,JH (by rw [hf];omega)]
   simp
 | a :: l,i+1,j,hj=>by
   rw [List.flatMap_cons,J5 (by rw [hf,Nat.add_mul];omega),hf,show(i+1)*sz+j-sz=i*sz+j by rw [Nat.add_mul];omega,ww hf l i j hj]
   simp
theorem ArgRow.lies{l:List A}(h:ArgRow w sz f v l)(hf: ∀ a,(f a).length=sz)(h0:0<sz)(rt:TypeId)(e:Env):Lies (ik w) w e (dat true l.length sz rt (l.flatMap f)) (ib sz v):=by
 rcases h with ⟨rfl,rfl⟩|⟨b,o,len,cap,cs,tt,fz,rfl,h2,rfl,h3,h4,h5,h6⟩
 ·exact .inr ⟨rfl,rfl,true,rt,_,rfl,h0⟩
 ·refine .inl ⟨rfl,.cells cs tt fz,⟨fun _=>fG h2,fun h=>by cases h⟩,h2,rfl,cs,fz,tt,rfl,h3,h5,h4,(fun h=>by cases h),h0,fun i hi s hs=>?_⟩
  have hs':((l.flatMap f)[i]?).map SV.sc=some s:=hs
  obtain⟨u,hu,rfl⟩:=JA.1 hs'
  refine⟨u,rfl,?_⟩
  have hdm:=Nat.div_add_mod i sz
  have hm:=Nat.mod_lt i h0
  have e1:i=i / sz*sz+i % sz:=by rw [Nat.mul_comm];omega
  rw [e1,ww hf l _ _ hm] at hu
  obtain⟨c,hc,hcu⟩:=Option.bind_eq_some_iff.1 hu
  have:=h6 (i / sz) c hc (i % sz) hm
  show cs[o+i]? =some u
  rw [e1,←Nat.add_assoc,this]
  exact hcu
theorem St.init{e:Env}{H:au}{nx:Nat}(h1: ∀ id vo,H.at' id=some vo→vo.ro=true∧ ∃ x,e id=some x∧Lies (ik w) w e vo x)(h2: ∀ i,nx≤i→e i=none):St (ik w) w e H nx w:=
 ⟨zY w,fun id vo h=>(h1 id vo h).2,fun id id' vo vo' x x' h _ _ _ _ _ _ hr _=>by(rw [(h1 id vo h).1] at hr;cases hr),h2⟩
end
end Go.Sy
end
section
namespace Go.Proofs.YtnhmbonmlfeifaaGreat
open Go Go.Sy Go.ChangeShapes Go.WideShapes Go.ChangeAt Go.RowKit
section
variable {H:Type} {enc:TypeId×Value→H} {P:Program} {w:World} {base:Nat} {sp:Nat→Bool} {held:Bool} {n:Nat} {t:TypeId} {cs:List Value} {y:DataW H×List MemPlace}
theorem fC{k:IntKind}(hu:P.underlying t=some (.int k))(h:DataW.trod enc P w base sp held n t cs=some y): ∃ x,cs= [.int k x]∧(Lit.int k x).wf=true:=by
 cases n with
 | zero=>simp [DataW.trod] at h
 | succ n=>
   unfold DataW.trod at h
   rw [hu] at h
   split at h <;> simp_all
end
theorem own:ownKnob Tryz.prog.godebug=none:=by kernel_rfl
theorem laidH:laidOutB Tryz.prog=true:=by kernel_rfl
abbrev bV:UInt8→List Value:=fun c=> [.int .u8 (c.toNat:Int)]
theorem DE{H:Type}{enc:TypeId×Value→H}{w:World}{n:Nat}{us:List Value}{y:DataW H×List MemPlace}(h:DataW.trod enc Tryz.prog w 0 (fun _=>true) true n 5 us=some y): ∃ c:UInt8,us=bV c:=by
 obtain⟨x,rfl,hx⟩:=fC (F.un 5 rfl) h
 have hx:0≤x∧x≤255:=by
  simpa [Lit.wf,IntKind.has,IntKind.min,IntKind.max,show IntKind.u8.signed=false from rfl,show IntKind.u8.bits=8 from rfl] using hx
 refine⟨UInt8.ofNat x.toNat,?_⟩
 have:((UInt8.ofNat x.toNat).toNat:Int)=x:=by
  rw [UInt8.toNat_ofNat']
  omega
 show [Value.int .u8 x]= [Value.int .u8 ((UInt8.ofNat x.toNat).toNat:Int)]
 rw [this]
theorem qE{H:Type}{enc:TypeId×Value→H}{w:World}{n:Nat}{us:List Value}{y:DataW H×List MemPlace}(h:DataW.trod enc Tryz.prog w 0 (fun _=>true) true n 36 us=some y): ∃ c:Nat,us= [.int .u64 (c:Int)]:=by
 obtain⟨x,rfl,hx⟩:=fC (F.un 36 rfl) h
 have hx:0≤x:=by
  simp only [Lit.wf,IntKind.has,IntKind.min,show IntKind.u64.signed=false from rfl,JJ,Km] at hx
  first|exact hx.1|(simp at hx;omega)
 exact⟨x.toNat,by rw [Int.toNat_of_nonneg hx]⟩
theorem uVer:Tryz.prog.underlying 38=some (.struct (Tryz.prog.fieldsOf 38)):=by kernel_rfl
theorem fVer:(Tryz.prog.fieldsOf 38).toList.map (fun f=>(f.type,f.offset))= [(35,0),(35,1),(36,2),(36,3)]:=by kernel_rfl
end Go.Proofs.YtnhmbonmlfeifaaGreat
end
section
namespace Go.Sy
open Go Go.Sl Go.RowKit Go.WideShapes
section
variable {sz:Nat}{w:World}
theorem Bc{H:Type}{enc:TypeId×Value→H}{P:Program}{t e:TypeId}{n:Nat}{v:Value}{y:DataW H×List MemPlace}(ht:P.underlying t=some (.slice e))(hc:P.cellsOf e=sz)(h0:0<sz)
 (hT:DataW.trod enc P w 0 (fun _=>true) true n t [v]=some y) :
 (∃ a c,v = .slice a 0 c)∨ ∃ (b o len cap:Nat) (cs:Array Value) (tt:TypeId) (fz:Nat×Nat),v = .slice (some ⟨b,o,none⟩) len cap∧0<len∧w.heap[b]? =some (.cells cs tt fz)∧len≤cap∧cap≤maxLen∧o+cap*sz≤cs.size ∧
   ∀ i,i<len→ ∃ us:List Value,us.length=sz∧(∀ j,j<sz→cs[o+i*sz+j]? =us[j]?)∧ ∃ n y,DataW.trod enc P w 0 (fun _=>true) true n e us=some y:=by
 rcases DataW.trod_slice ht hT with ⟨h1,_⟩|⟨a,len,cap,elems,rest,n,_,h1,_,_,h3,h4,h5,h6,h7,_⟩
 ·simp only [List.cons.injEq,and_true] at h1
  exact .inl ⟨none,0,h1⟩
 ·simp only [List.cons.injEq,and_true] at h1
  subst h1
  rcases Nat.eq_zero_or_pos len with hz|hpos
  ·subst hz
   exact .inl ⟨some a,cap,rfl⟩
  ·right
   have h8:=h6 0 hpos
   rw [Ju (by omega)] at h8
   obtain⟨b,o,sp⟩:=a
   cases hcs:w.cells? 0 ((⟨b,o,sp⟩:Addr).add (0*P.cellsOf e)) (P.cellsOf e)with
   | none=>rw [hcs] at h8;cases h8
   | some us=>
     unfold World.cells? at hcs
     rw [JW (JL _)] at hcs
     obtain⟨g1,g2⟩:=mZ hcs
     have g3:=g2 0 (by omega)
     rw [Ju (show 0<us.length by omega)] at g3
     have ha:((⟨b,o,sp⟩:Addr).add (0*P.cellsOf e)).add 0=⟨b,o,sp⟩:=by simp [Addr.add]
     rw [ha] at g3
     unfold World.cell? at g3
     cases hob:w.heap[b]? with
     | none=>simp only [hob] at g3;cases g3
     | some ob=>
       simp only [hob] at g3
       cases ob with
       | cells cs tt fz=>
         simp only at g3
         have hsp:sp=none:=by
          cases sp with
          | none=>rfl
          | some s=>simp at g3
         subst hsp
         have hcell: ∀ q:Nat,w.cell? ⟨b,q,none⟩=cs[q]? :=fun q=>by simp [World.cell?,hob]
         have hget: ∀ (q:Nat) (us:List Value),w.cells? 0 ((⟨b,o,none⟩:Addr).add (q*P.cellsOf e)) (P.cellsOf e)=some us→us.length=sz∧ ∀ j,j<sz→cs[o+q*sz+j]? =us[j]? :=by
          intro q us hus
          rw [add_plain] at hus
          unfold World.cells? at hus
          rw [JW (JL _)] at hus
          obtain⟨g1,g2⟩:=mZ hus
          rw [hc] at g1 g2 hus
          refine⟨g1,fun j hj=>?_⟩
          have:=g2 j hj
          rw [add_plain,hcell] at this
          exact this
         refine⟨b,o,len,cap,cs,tt,fz,rfl,hpos,hob,h3,h4,?_,fun i hi=>?_⟩
         ·have hlast: ∃ us,w.cells? 0 ((⟨b,o,none⟩:Addr).add ((cap-1)*P.cellsOf e)) (P.cellsOf e)=some us:=by
           rcases JY (cap-1) len with hl|hl
           ·have h8:=h6 (cap-1) hl
            rw [Ju (by omega)] at h8
            cases hcs:w.cells? 0 ((⟨b,o,none⟩:Addr).add ((cap-1)*P.cellsOf e)) (P.cellsOf e)with
            | none=>rw [hcs] at h8;cases h8
            | some us=>exact⟨us,rfl⟩
           ·obtain⟨h9,h10⟩:=h7 rfl
            have h8:=h10 (cap-1-len) (by omega)
            rw [Ju (by omega),show len+(cap-1-len)=cap-1 by omega] at h8
            cases hcs:w.cells? 0 ((⟨b,o,none⟩:Addr).add ((cap-1)*P.cellsOf e)) (P.cellsOf e)with
            | none=>rw [hcs] at h8;cases h8
            | some us=>exact⟨us,rfl⟩
          obtain⟨us,hus⟩:=hlast
          obtain⟨g1,g2⟩:=hget _ _ hus
          have g3:=g2 (sz-1) (by omega)
          rw [Ju (show sz-1<us.length by omega)] at g3
          have g4:=(JB.1 g3).1
          have:cap*sz=(cap-1)*sz+sz:=by
           conv=>lhs;rw [show cap=cap-1+1 by omega,Nat.add_mul,Nat.one_mul]
          omega
         ·have h8:=h6 i hi
          rw [Ju (by omega)] at h8
          cases hcs:w.cells? 0 ((⟨b,o,none⟩:Addr).add (i*P.cellsOf e)) (P.cellsOf e)with
          | none=>rw [hcs] at h8;cases h8
          | some us=>
            rw [hcs] at h8
            simp only [JR] at h8
            obtain⟨g1,g2⟩:=hget _ _ hcs
            exact⟨us,g1,g2,n,_,h8⟩
       | _=>simp only at g3;cases g3
theorem zX{e:Env}{b o len cap:Nat}{cs:Array Value}{tt:TypeId}{fz:Nat×Nat}(h2:w.heap[b]? =some (.cells cs tt fz))(h3:len≤cap)(h4:cap≤maxLen)(h5:o+cap*sz≤cs.size)(h0:0<sz)(rt:TypeId)(l:List SV)
 (hc: ∀ i s,i<len*sz→l[i]? =some s→ ∃ u,s.conc e=some u∧cs[o+i]? =some u):Lies (ik w) w e (mM true len sz rt l) ⟨b,o,cap,sz,false⟩:=
 .inl ⟨rfl,.cells cs tt fz,⟨fun _=>fG h2,fun h=>by cases h⟩,h2,rfl,cs,fz,tt,rfl,h3,h5,h4,(fun h=>by cases h),h0,fun i hi s hs=>hc i s hi hs⟩
theorem BI{e:Env}(h0:0<sz)(rt:TypeId)(l:List SV):Lies (ik w) w e (mM true 0 sz rt l) ⟨0,0,0,sz,true⟩:= .inr ⟨rfl,rfl,true,rt,_,rfl,h0⟩
end
end Go.Sy
end
section
namespace Go.Proofs.YtnhmbonmlfeifaaGreat
open Go Go.Sy Go.ChangeShapes Go.WideShapes Go.ChangeAt Go.RowKit
theorem r8{H:Type}{enc:TypeId×Value→H}{P:Program}{w:World}{base:Nat}{sp:Nat→Bool}{held:Bool}{n:Nat}{t:TypeId}{cs:List Value}{y:DataW H×List MemPlace}(hu:P.underlying t=some .bool)(h:DataW.trod enc P w base sp held n t cs=some y): ∃ b,cs= [.bool b]:=by
 cases n with
 | zero=>simp [DataW.trod] at h
 | succ n=>
   unfold DataW.trod at h
   rw [hu] at h
   split at h <;> simp_all
theorem len2{A:Type}: ∀ {l:List A},l.length=2→ ∃ a b,l= [a,b]
 | [a,b],_=>⟨a,b,rfl⟩
 | [],h=>by cases h
 | [_],h=>by cases h
 | _ :: _ :: _ :: _,h=>by simp at h
theorem Ck{A:Type}{f:A→List Value}{sz len o:Nat}{cs:Array Value}(hex: ∀ i,i<len→ ∃ a:A,∀ j,j<sz→cs[o+i*sz+j]? =(f a)[j]?): ∃ l:List A,l.length=len∧ ∀ i c,l[i]? =some c→ ∀ j,j<sz→cs[o+i*sz+j]? =(f c)[j]? :=by
 refine⟨(List.range len).attach.map (fun i=>Classical.choose (hex i.1 (Kh.1 i.2))),by simp,?_⟩
 intro i c hi j hj
 rw [Kc] at hi
 obtain⟨q,hq,rfl⟩:=JA.1 hi
 have hq1:q.1=i:=by
  obtain⟨hlt,hh⟩:=Jv.1 hq
  rw [← hh]
  simp
 have:=Classical.choose_spec (hex q.1 (Kh.1 q.2)) j hj
 rw [← hq1]
 exact this
def BytesV(w:World)(v:Value)(l:List UInt8):Prop:=(∃ a c,v = .slice a 0 c∧l= [])∨(l≠ []∧ArgRow w 1 bV v l)
theorem wO{H:Type}{enc:TypeId×Value→H}{w:World}{n:Nat}{v:Value}{y:DataW H×List MemPlace}(h:DataW.trod enc Tryz.prog w 0 (fun _=>true) true n 35 [v]=some y): ∃ l,BytesV w v l:=by
 rcases Bc (F.un 35 rfl) (by kernel_rfl:Tryz.prog.cellsOf 5=1) (by decide) h with ⟨a,c,rfl⟩|⟨b,o,len,cap,cs,tt,fz,rfl,h1,h2,h3,h4,h5,h6⟩
 ·exact⟨[],.inl ⟨a,c,rfl,rfl⟩⟩
 ·obtain⟨l,hl,hc⟩:=Ck (f:=bV) (sz:=1) (o:=o) (cs:=cs) (len:=len) fun i hi=>by
   obtain⟨us,g1,g2,n,y,g3⟩:=h6 i hi
   obtain⟨x,rfl⟩:=DE g3
   exact⟨x,g2⟩
  refine⟨l,.inr ⟨fun e=>by rw [e] at hl;simp at hl;omega,.inr ⟨b,o,len,cap,cs,tt,fz,rfl,h2,hl.symm,h3,h4,h5,hc⟩⟩⟩
theorem uTid:Tryz.prog.underlying 40=some (.struct (Tryz.prog.fieldsOf 40)):=by kernel_rfl
theorem fTid:(Tryz.prog.fieldsOf 40).toList.map (fun f=>(f.type,f.offset))= [(3,0),(3,1)]:=by kernel_rfl
theorem uAct:Tryz.prog.underlying 42=some (.struct (Tryz.prog.fieldsOf 42)):=by kernel_rfl
theorem fAct:(Tryz.prog.fieldsOf 42).toList.map (fun f=>(f.type,f.offset))= [(3,0),(3,1),(38,2),(40,6),(36,8),(4,9)]:=by kernel_rfl
theorem cInt:Tryz.prog.cellsOf 3=1:=by kernel_rfl
theorem cU64:Tryz.prog.cellsOf 36=1:=by kernel_rfl
theorem cBool:Tryz.prog.cellsOf 4=1:=by kernel_rfl
theorem cSl:Tryz.prog.cellsOf 35=1:=by kernel_rfl
theorem cTid:Tryz.prog.cellsOf 40=2:=by kernel_rfl
theorem cVer:Tryz.prog.cellsOf 38=4:=by kernel_rfl
theorem cAct:Tryz.prog.cellsOf 42=10:=by kernel_rfl
section
variable {H:Type} {enc:TypeId×Value→H} {w:World} {n:Nat} {us:List Value} {y:DataW H×List MemPlace}
theorem A1(h:DataW.trod enc Tryz.prog w 0 (fun _=>true) true n 40 us=some y): ∃ a b:Int,us= [.int .i64 a,.int .i64 b]:=by
 have hf:=fTid
 have hu:=uTid
 generalize Tryz.prog.fieldsOf 40=fs at hf hu
 obtain⟨xs,m,_,_,hl,hlen,hx⟩:=DataW.trod_struct hu h
 rw [cTid] at hl
 obtain⟨l⟩:=fs
 simp only at hf
 have hl2:l.length=2:=by simpa using congrArg List.length hf
 obtain⟨f0,f1,rfl⟩:=len2 hl2
 simp only [JM,List.map_nil,List.cons.injEq,Jz,and_true] at hf
 obtain⟨⟨a1,a2⟩,⟨b1,b2⟩⟩:=hf
 have hlen2:xs.length=2:=by simpa using hlen
 obtain⟨u0,u1,rfl⟩:=len2 hl
 have h0:=hx 0 f0 rfl
 have h1:=hx 1 f1 rfl
 rw [a1,a2,cInt] at h0
 rw [b1,b2,cInt] at h1
 obtain⟨_,g0⟩: ∃ y,DataW.trod enc Tryz.prog w 0 (fun _=>true) true m 3 [u0]=some y:=⟨_,h0.trans (Ju (by omega))⟩
 obtain⟨_,g1⟩: ∃ y,DataW.trod enc Tryz.prog w 0 (fun _=>true) true m 3 [u1]=some y:=⟨_,h1.trans (Ju (by omega))⟩
 obtain⟨a,ha,_⟩:=fC (F.un 3 rfl) g0
 obtain⟨b,hb,_⟩:=fC (F.un 3 rfl) g1
 simp only [List.cons.injEq,and_true] at ha hb
 exact⟨a,b,by rw [ha,hb]⟩
theorem A0(h:DataW.trod enc Tryz.prog w 0 (fun _=>true) true n 38 us=some y): ∃ (k u:Value) (lk lw:List UInt8) (x y:Nat),us= [k,u,.int .u64 (x:Int),.int .u64 (y:Int)]∧BytesV w k lk∧BytesV w u lw:=by
 have hf:=fVer
 have hu:=uVer
 generalize Tryz.prog.fieldsOf 38=fs at hf hu
 obtain⟨xs,m,_,_,hl,hlen,hx⟩:=DataW.trod_struct hu h
 rw [cVer] at hl
 obtain⟨l⟩:=fs
 simp only at hf
 have hl4:l.length=4:=by simpa using congrArg List.length hf
 rcases l with _|⟨f0,_|⟨f1,_|⟨f2,_|⟨f3,_|⟨f4,l⟩⟩⟩⟩⟩
 ·simp at hl4
 ·simp at hl4
 ·simp at hl4
 ·simp at hl4
 ·rcases us with _|⟨u0,_|⟨u1,_|⟨u2,_|⟨u3,_|⟨u4,us⟩⟩⟩⟩⟩
  ·simp at hl
  ·simp at hl
  ·simp at hl
  ·simp at hl
  ·simp only [JM,List.map_nil,List.cons.injEq,Jz,and_true] at hf
   obtain⟨⟨a1,a2⟩,⟨b1,b2⟩,⟨c1,c2⟩,⟨d1,d2⟩⟩:=hf
   have hlen4:xs.length=4:=by simpa using hlen
   have h0:=hx 0 f0 rfl
   have h1:=hx 1 f1 rfl
   have h2:=hx 2 f2 rfl
   have h3:=hx 3 f3 rfl
   rw [a1,a2,cSl] at h0
   rw [b1,b2,cSl] at h1
   rw [c1,c2,cU64] at h2
   rw [d1,d2,cU64] at h3
   obtain⟨z0,g0⟩: ∃ y,DataW.trod enc Tryz.prog w 0 (fun _=>true) true m 35 [u0]=some y:=⟨_,h0.trans (Ju (by omega))⟩
   obtain⟨z1,g1⟩: ∃ y,DataW.trod enc Tryz.prog w 0 (fun _=>true) true m 35 [u1]=some y:=⟨_,h1.trans (Ju (by omega))⟩
   obtain⟨_,g2⟩: ∃ y,DataW.trod enc Tryz.prog w 0 (fun _=>true) true m 36 [u2]=some y:=⟨_,h2.trans (Ju (by omega))⟩
   obtain⟨_,g3⟩: ∃ y,DataW.trod enc Tryz.prog w 0 (fun _=>true) true m 36 [u3]=some y:=⟨_,h3.trans (Ju (by omega))⟩
   obtain⟨lk,hk⟩:=wO g0
   obtain⟨lw,hw⟩:=wO g1
   obtain⟨x,hx2⟩:=qE g2
   obtain⟨y,hy3⟩:=qE g3
   simp only [List.cons.injEq,and_true] at hx2 hy3
   subst hx2 hy3
   exact⟨u0,u1,lk,lw,x,y,rfl,hk,hw⟩
  ·simp at hl
 ·simp at hl4
end
abbrev actU(x:ActT×Value×Value):List Value:= [.int .i64 x.1.kind,.int .i64 x.1.place,x.2.1,x.2.2,.int .u64 (x.1.ver.2.2.1:Int),.int .u64 (x.1.ver.2.2.2:Int),.int .i64 x.1.tid.1,.int .i64 x.1.tid.2,.int .u64 (x.1.xid:Int),.bool x.1.odd]
abbrev AcA(w:World):={x:ActT×Value×Value // BytesV w x.2.1 x.1.ver.1∧BytesV w x.2.2 x.1.ver.2.1}
theorem A2{H:Type}{enc:TypeId×Value→H}{w:World}{n:Nat}{us:List Value}{y:DataW H×List MemPlace}(h:DataW.trod enc Tryz.prog w 0 (fun _=>true) true n 42 us=some y): ∃ a:AcA w,us=actU a.1:=by
 have hf:=fAct
 have hu:=uAct
 generalize Tryz.prog.fieldsOf 42=fs at hf hu
 obtain⟨xs,m,_,_,hl,hlen,hx⟩:=DataW.trod_struct hu h
 rw [cAct] at hl
 obtain⟨l⟩:=fs
 simp only at hf
 have hl6:l.length=6:=by simpa using congrArg List.length hf
 rcases l with _|⟨f0,_|⟨f1,_|⟨f2,_|⟨f3,_|⟨f4,_|⟨f5,_|⟨f6,l⟩⟩⟩⟩⟩⟩⟩
 ·simp at hl6
 ·simp at hl6
 ·simp at hl6
 ·simp at hl6
 ·simp at hl6
 ·simp at hl6
 ·rcases us with _|⟨u0,_|⟨u1,_|⟨u2,_|⟨u3,_|⟨u4,_|⟨u5,_|⟨u6,_|⟨u7,_|⟨u8,_|⟨u9,_|⟨u10,us⟩⟩⟩⟩⟩⟩⟩⟩⟩⟩⟩
  ·simp at hl
  ·simp at hl
  ·simp at hl
  ·simp at hl
  ·simp at hl
  ·simp at hl
  ·simp at hl
  ·simp at hl
  ·simp at hl
  ·simp at hl
  ·simp only [JM,List.map_nil,List.cons.injEq,Jz,and_true] at hf
   obtain⟨⟨a1,a2⟩,⟨b1,b2⟩,⟨c1,c2⟩,⟨d1,d2⟩,⟨e1,e2⟩,⟨i1,i2⟩⟩:=hf
   have hlen6:xs.length=6:=by simpa using hlen
   have h0:=hx 0 f0 rfl
   have h1:=hx 1 f1 rfl
   have h2:=hx 2 f2 rfl
   have h3:=hx 3 f3 rfl
   have h4:=hx 4 f4 rfl
   have h5:=hx 5 f5 rfl
   rw [a1,a2,cInt] at h0
   rw [b1,b2,cInt] at h1
   rw [c1,c2,cVer] at h2
   rw [d1,d2,cTid] at h3
   rw [e1,e2,cU64] at h4
   rw [i1,i2,cBool] at h5
   obtain⟨_,g0⟩: ∃ y,DataW.trod enc Tryz.prog w 0 (fun _=>true) true m 3 [u0]=some y:=⟨_,h0.trans (Ju (by omega))⟩
   obtain⟨_,g1⟩: ∃ y,DataW.trod enc Tryz.prog w 0 (fun _=>true) true m 3 [u1]=some y:=⟨_,h1.trans (Ju (by omega))⟩
   obtain⟨_,g2⟩: ∃ y,DataW.trod enc Tryz.prog w 0 (fun _=>true) true m 38 [u2,u3,u4,u5]=some y:=⟨_,h2.trans (Ju (by omega))⟩
   obtain⟨_,g3⟩: ∃ y,DataW.trod enc Tryz.prog w 0 (fun _=>true) true m 40 [u6,u7]=some y:=⟨_,h3.trans (Ju (by omega))⟩
   obtain⟨_,g4⟩: ∃ y,DataW.trod enc Tryz.prog w 0 (fun _=>true) true m 36 [u8]=some y:=⟨_,h4.trans (Ju (by omega))⟩
   obtain⟨_,g5⟩: ∃ y,DataW.trod enc Tryz.prog w 0 (fun _=>true) true m 4 [u9]=some y:=⟨_,h5.trans (Ju (by omega))⟩
   obtain⟨k,hk,_⟩:=fC (F.un 3 rfl) g0
   obtain⟨p,hp,_⟩:=fC (F.un 3 rfl) g1
   obtain⟨v1,v2,lk,lw,x,y,hv,hk1,hw1⟩:=A0 g2
   obtain⟨a,b,hab⟩:=A1 g3
   obtain⟨q,hq⟩:=qE g4
   obtain⟨bo,hbo⟩:=r8 (F.un 4 rfl) g5
   simp only [List.cons.injEq,and_true] at hk hp hv hab hq hbo
   obtain⟨rfl,rfl,rfl,rfl⟩:=hv
   obtain⟨rfl,rfl⟩:=hab
   subst hk hp hq hbo
   exact⟨⟨(⟨k,p,(lk,lw,x,y),(a,b),q,bo⟩,u2,u3),hk1,hw1⟩,rfl⟩
  ·simp at hl
 ·simp at hl6
theorem qu{A:Type}{w:World}{sz:Nat}{f:A→List Value}{v:Value}{l:List A}(h:ArgRow w sz f v l):l.length≤9223372036854775807:=by
 rcases h with ⟨_,rfl⟩|⟨b,o,len,cap,cs,tt,fz,_,_,h1,h2,h3,_⟩
 ·simp
 ·have:maxLen=9223372036854775807:=rfl
  omega
theorem BytesV.len{w:World}{v:Value}{l:List UInt8}(h:BytesV w v l):l.length≤9223372036854775807:=by
 rcases h with ⟨_,_,_,rfl⟩|⟨_,h⟩
 ·simp
 ·exact qu h
def sOf(v:Value)(l:List UInt8)(m:Nat):SV:=if l= [] then .sc v else .slu m 0 l.length
abbrev rowB(l:List UInt8):VO:=dat true l.length 1 5 (byV l)
def CL(l:List UInt8):Option VO:=if l= [] then none else some (rowB l)
abbrev XtA(w:World):={x:Value×List UInt8 // ArgRow w 1 bV x.1 x.2}
def kw{w:World}(b:Nat):Nat→List (AcA w)→List ow
 | _,[]=> []
 | k,x :: L=>(x.1.1,sOf x.1.2.1 x.1.1.ver.1 (b+2*k),sOf x.1.2.2 x.1.1.ver.2.1 (b+2*k+1)) :: kw b (k+1) L
theorem iT{w:World}(b:Nat): ∀ (k:Nat) (L:List (AcA w)),(kw b k L).length=L.length
 | _,[]=>rfl
 | k,x :: L=>by simp [kw,iT b (k+1) L]
theorem nq{w:World}(b:Nat): ∀ (k:Nat) (L:List (AcA w)) (i:Nat) (x:AcA w),L[i]? =some x→(kw b k L)[i]? =some (x.1.1,sOf x.1.2.1 x.1.1.ver.1 (b+2*(k+i)),sOf x.1.2.2 x.1.1.ver.2.1 (b+2*(k+i)+1))
 | k,[],i,x,h=>by simp at h
 | k,y :: L,0,x,h=>by
   simp at h
   subst h
   simp [kw]
 | k,y :: L,i+1,x,h=>by
   have:=nq b (k+1) L i x (by simpa using h)
   simp only [kw,List.getElem?_cons_succ,this]
   rw [show k+1+i=k+(i+1) by omega]
section
variable {w:World} (X:List (XtA w)) (L:List (AcA w))
section
variable {i:Nat}{a:AcA w}{v0:Value}
def Ak(v0:Value):Env:=fun m=>if m=0 then some (ib 10 v0) else match X[m-1]? with
 | some x=>some (ib 1 x.1.1)
 | none=>match L[(m-(1+X.length)) / 2]? with
   | some a=>some (ib 1 (if(m-(1+X.length)) % 2=0 then a.1.2.1 else a.1.2.2))
   | none=>none
def lN:au:=fun m=>if m=0 then some (EW true (kw (1+X.length) 0 L)) else match X[m-1]? with
 | some x=>some (rowB x.1.2)
 | none=>match L[(m-(1+X.length)) / 2]? with
   | some a=>if(m-(1+X.length)) % 2=0 then CL a.1.1.ver.1 else CL a.1.1.ver.2.1
   | none=>none
theorem Ey:(lN X L).at' 0=some (EW true (kw (1+X.length) 0 L)):=rfl
theorem Ex{x:XtA w}(hx:X[i]? =some x):(lN X L).at' (1+i)=some (rowB x.1.2):=by
 show lN X L (1+i)=_
 unfold lN
 rw [JV (by omega),show 1+i-1=i by omega,hx]
theorem v3{m:Nat}:X[1+X.length+m-1]? =none:=Kj (by omega)
theorem Ab(ha:L[i]? =some a):(lN X L).at' (1+X.length+2*i)=CL a.1.1.ver.1:=by
 show lN X L (1+X.length+2*i)=_
 unfold lN
 rw [JV (by omega),v3,show 1+X.length+2*i-(1+X.length)=2*i by omega,show 2*i / 2=i by omega,ha]
 simp only
 rw [JW (by omega)]
theorem Aa(ha:L[i]? =some a):(lN X L).at' (1+X.length+2*i+1)=CL a.1.1.ver.2.1:=by
 show lN X L (1+X.length+2*i+1)=_
 unfold lN
 rw [JV (by omega),Nat.add_assoc (1+X.length),v3,show 1+X.length+(2*i+1)-(1+X.length)=2*i+1 by omega,show(2*i+1) / 2=i by omega,ha]
 simp only
 rw [JV (by omega)]
theorem HW{x:XtA w}(hx:X[i]? =some x):Ak X L v0 (1+i)=some (ib 1 x.1.1):=by
 unfold Ak
 rw [JV (by omega),show 1+i-1=i by omega,hx]
theorem C8(ha:L[i]? =some a):Ak X L v0 (1+X.length+2*i)=some (ib 1 a.1.2.1):=by
 unfold Ak
 rw [JV (by omega),v3,show 1+X.length+2*i-(1+X.length)=2*i by omega,show 2*i / 2=i by omega,ha]
 simp only
 rw [JW (by omega)]
theorem C7(ha:L[i]? =some a):Ak X L v0 (1+X.length+2*i+1)=some (ib 1 a.1.2.2):=by
 unfold Ak
 rw [JV (by omega),Nat.add_assoc (1+X.length),v3,show 1+X.length+(2*i+1)-(1+X.length)=2*i+1 by omega,show(2*i+1) / 2=i by omega,ha]
 simp only
 rw [JV (by omega)]
end
end
section
variable {v:Value}{w:World}{l:List UInt8}
theorem we(h:ArgRow w 1 bV v l)(e:Env):Lies (ik w) w e (rowB l) (ib 1 v):=by
 have:=h.lies (fun _=>rfl) (by decide) 5 e
 rwa [show l.flatMap bV=byV l from Ay l] at this
theorem CK{m:Nat}{H:au}(h:BytesV w v l)(hm:H.at' m=CL l):BsIs H (sOf v l m) (byV l):=by
 unfold sOf
 by_cases hp:l= []
 ·rw [JW hp]
  rcases h with ⟨a,c,rfl,_⟩|⟨h1,_⟩
  ·subst hp
   exact⟨fun v hv=>by simp at hv,.inl ⟨rfl,a,c,rfl⟩⟩
  ·exact absurd hp h1
 ·rw [JV hp]
  refine jx (ro:=true) ?_ rfl
  rw [hm]
  unfold CL
  rw [JV hp]
theorem vB{m:Nat}{e:Env}(h:BytesV w v l)(hm:e m=some (ib 1 v)):(sOf v l m).conc e=some v:=by
 unfold sOf
 by_cases hp:l= []
 ·rw [JW hp]
  rfl
 ·rw [JV hp]
  rcases h with ⟨_,_,_,h2⟩|⟨_,h2⟩
  ·exact absurd h2 hp
  ·exact h2.conc hm
theorem vz{vo:VO}(h:BytesV w v l)(hv:CL l=some vo)(e:Env):vo.ro=true∧Lies (ik w) w e vo (ib 1 v):=by
 unfold CL at hv
 by_cases hp:l= []
 ·rw [JW hp] at hv;cases hv
 ·rw [JV hp] at hv
  cases hv
  rcases h with ⟨_,_,_,h2⟩|⟨_,h2⟩
  ·exact absurd h2 hp
  ·exact⟨rfl,we h2 e⟩
theorem EV(X:List (XtA w))(L:List (AcA w)): ∀ x∈kw (1+X.length) 0 L,ActIs (lN X L) x∧x.1.ver.1.length≤9223372036854775807∧x.1.ver.2.1.length≤9223372036854775807:=fun x hx=>by
 obtain⟨i,hi⟩:=List.mem_iff_getElem?.1 hx
 have hlt:i<L.length:=by
  have:=(Jv.1 hi).1
  rwa [iT] at this
 obtain⟨a,ha⟩: ∃ a,L[i]? =some a:=⟨_,Ju hlt⟩
 have hg:=nq (1+X.length) 0 L i a ha
 rw [hi,JX] at hg
 cases hg
 exact⟨⟨CK a.2.1 (Ab X L ha),CK a.2.2 (Aa X L ha)⟩,a.2.1.len,a.2.2.len⟩
theorem DK{v0:Value}(X:List (XtA w))(L:List (AcA w))(h0:ArgRow w 10 (fun a:AcA w=>actU a.1) v0 L):St (ik w) w (Ak X L v0) (lN X L) (1+X.length+2*L.length) w:=by
 refine St.init (fun id vo hv=>?_) (fun i hi=>?_)
 ·by_cases e0:id=0
  ·subst e0
   rw [Ey] at hv
   cases hv
   refine⟨rfl,ib 10 v0,rfl,?_⟩
   have hlen:=iT (1+X.length) 0 L
   rcases h0 with ⟨rfl,rfl⟩|⟨b,o,len,cap,cs,tt,fz,rfl,g2,g3,g4,g5,g6,g7⟩
   ·exact BI (by decide) _ _
   ·refine zX g2 (by omega) g5 g6 (by decide) _ _ fun i s hi hs=>?_
    have hdm:=Nat.div_add_mod i 10
    have hm:=Nat.mod_lt i (show 0<10 by decide)
    have hq:i / 10<L.length:=by omega
    have e1:i=i / 10*10+i % 10:=by omega
    obtain⟨a,ha⟩: ∃ a,L[i / 10]? =some a:=⟨_,Ju hq⟩
    have hx:=nq (1+X.length) 0 L (i / 10) a ha
    rw [JX] at hx
    have hq2:i / 10<(kw (1+X.length) 0 L).length:=by omega
    rw [e1,wX hq2 hm] at hs
    have hc:=g7 (i / 10) a ha (i % 10) hm
    rw [show o+i=o+i / 10*10+i % 10 by omega,hc]
    rw [Ju hq2,Jr] at hx
    rw [hx] at hs
    have hm6:i % 10=0∨i % 10=1∨i % 10=2∨i % 10=3∨i % 10=4∨i % 10=5∨i % 10=6∨i % 10=7∨i % 10=8∨i % 10=9:=by omega
    rcases hm6 with e|e|e|e|e|e|e|e|e|e <;> rw [e] at hs ⊢
    ·cases hs;exact⟨_,rfl,rfl⟩
    ·cases hs;exact⟨_,rfl,rfl⟩
    ·cases hs;exact⟨_,vB a.2.1 (C8 X L ha),rfl⟩
    ·cases hs;exact⟨_,vB a.2.2 (C7 X L ha),rfl⟩
    ·cases hs;exact⟨_,rfl,rfl⟩
    ·cases hs;exact⟨_,rfl,rfl⟩
    ·cases hs;exact⟨_,rfl,rfl⟩
    ·cases hs;exact⟨_,rfl,rfl⟩
    ·cases hs;exact⟨_,rfl,rfl⟩
    ·cases hs;exact⟨_,rfl,rfl⟩
  ·rcases JY (id-1) X.length with hX|hX
   ·obtain⟨x,hx⟩: ∃ x,X[id-1]? =some x:=⟨_,Ju hX⟩
    have e:id=1+(id-1):=by omega
    rw [e] at hv ⊢
    rw [Ex X L hx] at hv
    cases hv
    exact⟨rfl,_,HW X L hx,we x.2 _⟩
   ·have hv':lN X L id=some vo:=hv
    have: ∃ a,L[(id-(1+X.length)) / 2]? =some a:=by
     unfold lN at hv'
     rw [JV e0,Kj hX] at hv'
     cases hL:L[(id-(1+X.length)) / 2]? with
     | none=>rw [hL] at hv';cases hv'
     | some a=>exact⟨a,rfl⟩
    obtain⟨a,ha⟩:=this
    have hmod:=Nat.mod_two_eq_zero_or_one (id-(1+X.length))
    have hdm:=Nat.div_add_mod (id-(1+X.length)) 2
    generalize (id-(1+X.length)) / 2=i at *
    clear hv'
    rcases hmod with hz|hz
    ·obtain rfl:id=1+X.length+2*i:=by omega
     rw [Ab X L ha] at hv
     have:=vz a.2.1 hv (Ak X L v0)
     exact⟨this.1,_,C8 X L ha,this.2⟩
    ·obtain rfl:id=1+X.length+2*i+1:=by omega
     rw [Aa X L ha] at hv
     have:=vz a.2.2 hv (Ak X L v0)
     exact⟨this.1,_,C7 X L ha,this.2⟩
 ·unfold Ak
  rw [JV (by omega),Kj (by omega),Kj (by omega)]
end
end Go.Proofs.YtnhmbonmlfeifaaGreat
end
