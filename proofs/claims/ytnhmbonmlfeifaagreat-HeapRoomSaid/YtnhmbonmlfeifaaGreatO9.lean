import Derived.WalkKit
import Derived.ProofKit
import Derived.OpenShut
import Derived.Below
import Derived.ChangeSame
import Derived.Carry
import Derived.ChangeArms
import Derived.Test.YtnhmbonmlfeifaaGreatChecked
import Derived.Test.YtnhmbonmlfeifaaGreatO8
set_option linter.unusedVariables false
set_option linter.unusedSimpArgs false
set_option maxRecDepth 100000
set_option maxHeartbeats 0
section
namespace Go.Proofs.YtnhmbonmlfeifaaGreat
open Go Go.Sy Go.Sl Go.RowKit
section
variable {it p q:List UInt8}
def zs0:List Value:= [aP,aP,aP,aP,aP,aP,aP,aP,aP,aP,aP,aP,aP,aP,aP,aP,aP,aP,aP,aP,aP,aP,aP,aP,aP,aP,aP,aP,aP,aP,aP,aP,aP,aP,aP,aP,aP,aP,aP,aP,aP,aP,aP,aP,aP,aP,aP,aP]
theorem E7:zs0=List.replicate 48 aP:=rfl
def zs1:List Value:=List.append zs0 zs0
theorem E5:zs1=List.replicate 96 aP:=by
 show zs0 ++ zs0=_
 rw [E7,J6]
def zs2:List Value:=List.append zs1 zs1
theorem E4:zs2=List.replicate 192 aP:=by
 show zs1 ++ zs1=_
 rw [E5,J6]
def zs3:List Value:=List.append zs2 zs2
theorem E3:zs3=List.replicate 384 aP:=by
 show zs2 ++ zs2=_
 rw [E4,J6]
def zs4:List Value:=List.append zs3 zs3
theorem E2:zs4=List.replicate 768 aP:=by
 show zs3 ++ zs3=_
 rw [E3,J6]
def zs5:List Value:=List.append zs4 zs4
theorem E1:zs5=List.replicate 1536 aP:=by
 show zs4 ++ zs4=_
 rw [E2,J6]
def zs6:List Value:=List.append zs5 zs5
theorem E0:zs6=List.replicate 3072 aP:=by
 show zs5 ++ zs5=_
 rw [E1,J6]
def zs7:List Value:=List.append zs6 zs6
theorem EZ:zs7=List.replicate 6144 aP:=by
 show zs6 ++ zs6=_
 rw [E0,J6]
def zs8:List Value:=List.append zs7 zs7
theorem EY:zs8=List.replicate 12288 aP:=by
 show zs7 ++ zs7=_
 rw [EZ,J6]
def zs9:List Value:=List.append zs8 zs8
theorem EX:zs9=List.replicate 24576 aP:=by
 show zs8 ++ zs8=_
 rw [EY,J6]
def E6:List Value:=List.append zs9 zs9
theorem Dc:E6=List.replicate 49152 aP:=by
 show zs9 ++ zs9=_
 rw [EX,J6]
def zs11:List Value:=List.append E6 E6
theorem Db:zs11=List.replicate 98304 aP:=by
 show E6 ++ E6=_
 rw [Dc,J6]
theorem zHeap:dK Tryz.prog 33=some (.agg (List.toArray zs11)):=by kernel_rfl
def xK:List UInt8:=List.replicate 98304 0
theorem xM:((Value.agg (List.toArray zs11)).cells.toList.map SV.sc)=(byV xK).map SV.sc:=by
 refine(congrArg (List.map SV.sc) (List.toList_toArray ..)).trans ?_
 rw [Db]
 unfold xK
 rw [show byV (List.replicate 98304 (0:UInt8))=List.replicate 98304 aP from List.map_replicate]
theorem Df:nv Tryz.prog 33 []=some (.agg ((byV xK).map .sc)):=by
 have hs:bH Tryz.prog 27=some 1024:=F.sz _ rfl
 unfold nv
 rw [zHeap,show Tryz.prog.underlying 33=some (.array 96 27)from F.un _ rfl]
 simp only [hs,kU,JB]
 rw [xM]
abbrev kv1:gf:=([97],wm,1,0)
abbrev kv2:gf:=([98],wm,2,0)
def kp0:List UInt8:=fE 4
def kp1:List UInt8:=(iU kp0 (aO kv1)).1
def kp2:List UInt8:=(iU kp1 (aO kv2)).1
theorem vv{mem x:List UInt8}(hm:mem.length=131072){n:Nat}(hn:n<128)(hx:x.length=1024):az (f8 mem n x) n=x:=by
 unfold az f8 bf
 rw [JR,List.drop_left' (by rw [JK];omega),List.take_left' hx]
theorem y4:az zeroM 32=zeroP:=by
 unfold az zeroM zeroP
 rw [List.drop_replicate,List.take_replicate]
 rfl
theorem yM(h1:ia p=false)(h2:bg p=true)(h3:kP p=4)(h4:xw p=false):aU p=(p,0):=by
 unfold aU
 rw [JG (by rw [h1];decide),JG (by rw [h2,h3];decide),JG (by rw [h4];decide)]
theorem yL:aU zeroP=(kp0,0):=JH (by kernel_rfl)
theorem kl0:kp0.length=1024:=fR 4
theorem kl1:kp1.length=1024:=by kernel_rfl
theorem kl2:kp2.length=1024:=by kernel_rfl
theorem kr0:(aO kv1).length≤cv kp0:=Jh (by kernel_rfl)
theorem ki0:iU kp0 (aO kv1)=(kp1,0,0):=Prod.ext rfl (by kernel_rfl)
theorem kr1:(aO kv2).length≤cv kp1:=Jh (by kernel_rfl)
theorem ki1:iU kp1 (aO kv2)=(kp2,1,0):=Prod.ext rfl (by kernel_rfl)
theorem kd1:aU kp1=(kp1,0):=yM (by kernel_rfl) (by kernel_rfl) (by kernel_rfl) (by kernel_rfl)
theorem kg2:bg kp2=true:=by kernel_rfl
theorem kd2:aU kp2=(kp2,0):=yM (by kernel_rfl) kg2 (by kernel_rfl) (by kernel_rfl)
theorem ks2:1<ac kp2:=Jh (by kernel_rfl)
theorem kz2:ak kp2 1≠0:=fun h=>by
 have:Nat.beq (ak kp2 1) 0=false:=by kernel_rfl
 rw [h] at this
 cases this
theorem ko2:ofV (aV kp2 1)=some kv2:=by kernel_rfl
theorem km1:iT kv1=true:=by kernel_rfl
theorem km2:iT kv2=true:=by kernel_rfl
theorem Ha:EP Tryz.prog 30=some [(0,131072),(131072,1),(131073,1)]:=by kernel_rfl
theorem D9{H:au}{nx:Nat}:Fnc Tryz.prog 8 [] H nx (fun q=>q.1 = .sc (.bool true)∧nx≤q.2.2∧ ∀ m,m<nx→q.2.1.at' m=H.at' m):=by
 refine Ka Tryz.func8 rfl rfl ?_
 repeat first|refine cd (qE rfl Cn Ha v9) rfl rfl rfl ?_|apply ai;rfl
 have hb0:(H.set nx (cT zeroM (-1) 0)).at' nx=some (cT zeroM (-1) 0):=aj _ _ _
 have ho0: ∀ m,m<nx→(H.set nx (cT zeroM (-1) 0)).at' m=H.at' m:=fun m hm=>aa _ _ (by omega)
 refine cW (R:=fun H0 n0=>H0=H.set nx (cT zeroM (-1) 0)∧n0=nx+1) ⟨rfl,rfl⟩ ?_
 rintro H0 n0 ⟨hH0,rfl⟩
 rw [← hH0] at hb0 ho0
 clear hH0
 refine aI rfl rfl rfl (by kernel_rfl) (J9 (rR (k:=⟨#[97]⟩) (x:=1) (Jh rfl)) ?_)
 rintro⟨s1,H1,n1⟩ ⟨a1,a2,a3⟩
 dsimp only at a1 a2 a3 ⊢
 refine aI rfl rfl rfl (by kernel_rfl) (J9 (pZ (v:=kv1) (p:=kp0) (p':=kp1) (slot:=0) ((a3 nx (by omega)).trans hb0) ix a1 km1 kl0 (by decide) (by decide) (by decide) (by rw [y4];exact yL) kr0 ki0 kl1) ?_)
 rintro⟨_,H2,n2⟩ ⟨rfl,b1,b2,b3⟩
 dsimp only at b1 b2 b3 ⊢
 have bo: ∀ m,m<nx→H2.at' m=H.at' m:=fun m hm=>(b3 m (by omega) (by omega)).trans ((a3 m (by omega)).trans (ho0 m hm))
 clear a1 a3 b3 hb0 ho0
 repeat first|apply ai;rfl|apply aG;rfl;(focus((repeat(exact ae));done));rfl
 refine aI rfl rfl rfl (by kernel_rfl) (J9 (rR (k:=⟨#[98]⟩) (x:=2) (Jh rfl)) ?_)
 rintro⟨s2,H3,n3⟩ ⟨c1,c2,c3⟩
 dsimp only at c1 c2 c3 ⊢
 have cb:H3.at' nx=some (cT (f8 zeroM 32 kp1) (-1-1) (0+1)):=(c3 nx (by omega)).trans (by(repeat(refine ab (by omega) ?_));exact b1)
 have ct:H3.at' n2=some (eE 32 0):=(c3 n2 (by omega)).trans (by repeat(exact ae))
 have co: ∀ m,m<nx→H3.at' m=H.at' m:=fun m hm=>(c3 m (by omega)).trans (by(repeat(refine ab (by omega) ?_));exact bo m hm)
 clear c3 b1 bo
 refine aX fun hund=>?_
 have hmem1:=lP (n:=32) ix (by decide) kl1
 refine aI rfl rfl rfl (by kernel_rfl) (J9 (pZ (v:=kv2) (p:=kp1) (p':=kp2) (slot:=1) cb hmem1 c1 km2 kl1 (by decide) (by decide) (by decide) (by rw [vv ix (by decide) kl1];exact kd1) kr1 ki1 kl2) ?_)
 rintro⟨_,H4,n4⟩ ⟨rfl,d1,d2,d3⟩
 dsimp only at d1 d2 d3 ⊢
 have dt:H4.at' n2=some (eE 32 0):=(d3 n2 (by omega) (by omega)).trans ct
 have do': ∀ m,m<nx→H4.at' m=H.at' m:=fun m hm=>(d3 m (by omega) (by omega)).trans (co m hm)
 clear c1 cb ct co d3 hund
 repeat first|apply ai;rfl|apply aG;rfl;(focus((repeat(exact ae));done));rfl
 refine aI rfl rfl rfl (by kernel_rfl) (J9 (En (n:=32) (k:=1) (v:=kv2) (p:=kp2) (by(repeat(refine ab (by omega) ?_));exact d1) (lP hmem1 (by decide) kl2) kl2 (by decide) (by decide) (by rw [vv hmem1 (by decide) kl2];exact kd2) kg2 ks2 kz2 ko2) ?_)
 rintro⟨_,H5,n5⟩ ⟨s',r',rfl,⟨k0,w0,rfl,gk,gw⟩,e2,e3,e4⟩
 dsimp only at gk gw e2 e3 e4 ⊢
 have et:H5.at' n2=some (eE 32 0):=(e4 n2 (by omega)).trans (by(repeat(refine ab (by omega) ?_));exact dt)
 have eu:H5.at' n4=some (eE 32 1):=(e4 n4 (by omega)).trans (by repeat(exact ae))
 have eo: ∀ m,m<nx→H5.at' m=H.at' m:=fun m hm=>(e4 m (by omega)).trans (by(repeat(refine ab (by omega) ?_));exact do' m hm)
 clear e4 d1 dt do'
 refine aX fun hund=>?_
 have hr:r'<n5:=by
  rcases gk with ⟨_,h⟩|⟨o,C,_,vo,hv,_⟩
  ·cases h
  ·exact hund _ _ hv
 have hone: ∀ x y:Nat,bp (eF k0 w0 x y)=true:=fun x y=>by simp only [bp,cX gk.bs,cX gw.bs];rfl
 have hk: ∀ vo vo':VO,BsIs ((H5.set n5 vo).set n5 vo') k0 (u8L ⟨#[98]⟩):=fun vo vo'=>(gk.frame ((aa _ _ (by omega)).trans (aa _ _ (by omega)))).bs
 repeat first|refine dW rfl rfl rfl (F.sz _ rfl) (by repeat(first|assumption|exact ae)) rfl (by exact Jh rfl) (hone _ _) rfl ?_|apply od (a:=(32,0)) (b:=(32,0)) (r:=true);rfl;rfl;rfl;rfl;(focus(decide))|apply od (a:=(32,1)) (b:=(32,1)) (r:=true);rfl;rfl;rfl;rfl;(focus(decide))|apply ai;rfl|apply aG;rfl;(focus((repeat(first|assumption|exact ae|refine ab (by omega) ?_));done));rfl|apply dM;rfl;rfl|refine cd (lX (F.un _ rfl) (F.un _ rfl) (F.un _ rfl) rfl (hk _ _)) rfl rfl rfl ?_|apply uO (r:=true);rfl;rfl;rfl;rfl;(focus(decide))
 (apply bP Tryz.func8 Tryz.results8;rfl)
 exact⟨rfl,by dsimp only;omega,fun m hm=>(aa _ _ (by omega)).trans ((aa _ _ (by omega)).trans (eo m hm))⟩
theorem zE{H:au}{nx:Nat}:Fnc Tryz.prog 8 [] H nx (fun q=>q=(.sc (.bool true),H,nx)):=Fnc.bv (Free.sc _) D9
theorem pS{n:Nat}(h:n<128):az zeroM n=zeroP:=by
 unfold az zeroM zeroP
 rw [List.drop_replicate,List.take_replicate,Nat.min_eq_left (by omega)]
theorem Eh:Hv zeroM:=⟨ix,fun n h1 h2=> .inl (pS h2),fun n h=>pS (by omega)⟩
theorem BU:dD zeroM=xK:=by
 unfold dD zeroM xK
 rw [List.drop_replicate]
def mS(p:List UInt8):Nat→Nat
 | 0=>0
 | n+1=>mS p n+if ak p n=0 then 1 else 0
theorem iI{p:List UInt8}: ∀ {n},mS p n=0↔ ∀ j,j<n→ak p j≠0
 | 0=>⟨fun _ j hj=>absurd hj (Nat.not_lt_zero _),fun _=>rfl⟩
 | n+1=>by
   unfold mS
   constructor
   ·intro h j hj
    by_cases hz:ak p n=0
    ·rw [JH hz] at h;omega
    ·rw [JG hz] at h
     rcases JJ j n with h1|h1
     ·exact iI.1 (by omega) j h1
     ·obtain rfl:j=n:=by omega
      exact hz
   ·intro h
    rw [JG (h n (by omega)),iI.2 fun j hj=>h j (by omega)]
theorem qY{p q:List UInt8}: ∀ {n},(∀ j,j<n→ak q j=ak p j)→mS q n=mS p n
 | 0,_=>rfl
 | n+1,h=>by
   show mS q n+_=mS p n+_
   rw [qY fun j hj=>h j (by omega),h n (by omega)]
theorem p7{p q:List UInt8}{e:Nat}(hp:ak p e=0)(hq:ak q e≠0): ∀ {n},(∀ j,j<n→j≠e→ak q j=ak p j)→mS p n=mS q n+if e<n then 1 else 0
 | 0,_=>rfl
 | n+1,h=>by
   have ih:=p7 hp hq (n:=n) fun j hj hje=>h j (by omega) hje
   show mS p n+_=mS q n+_+_
   by_cases hen:e=n
   ·subst hen
    rw [JG (by omega)] at ih
    rw [JH hp,JG hq,JH (by omega)]
    omega
   ·rw [h n (by omega) (Ne.symm hen)]
    by_cases h1:e<n
    ·rw [JH h1] at ih
     rw [JH (show e<n+1 by omega)]
     omega
    ·rw [JG h1] at ih
     rw [JG (show ¬ e<n+1 by omega)]
     omega
theorem uT{p q:List UInt8}{e:Nat}(hp:ak p e=0): ∀ {n},(∀ j,j<n→j≠e→ak q j=ak p j)→bE q n=bE p n+if e<n then ak q e else 0
 | 0,_=>rfl
 | n+1,h=>by
   have ih:=uT hp (n:=n) fun j hj hje=>h j (by omega) hje
   show bE q n+_=bE p n+_+_
   by_cases hen:e=n
   ·subst hen
    rw [JG (by omega)] at ih
    rw [JH (by omega)]
    omega
   ·rw [h n (by omega) (Ne.symm hen)]
    by_cases h1:e<n
    ·rw [JH h1] at ih
     rw [JH (show e<n+1 by omega)]
     omega
    ·rw [JG h1] at ih
     rw [JG (show ¬ e<n+1 by omega)]
     omega
abbrev dE(p:List UInt8):Nat:=mS p (ac p)
theorem fF(p:List UInt8):aW p=ac p↔dE p=0:=by
 obtain⟨h1,h2,h3⟩:=eV p
 rw [iI]
 constructor
 ·intro h j hj
  exact h1 j (by omega)
 ·intro h
  rcases JJ (aW p) (ac p)with h4|h4
  ·exact absurd (h2 h4) (h _ h4)
  ·omega
def wo:Nat→Nat→Nat→Nat
 | 0,_,_=>0
 | n+1,f,e=>if(if e=0 then 184 else 180)≤f then 1+wo n (f-(if e=0 then 184 else 180)) (e-1) else 0
theorem o7(n f e:Nat):wo (n+1) f e=if(if e=0 then 184 else 180)≤f then 1+wo n (f-(if e=0 then 184 else 180)) (e-1) else 0:=rfl
theorem ti: ∀ {n f e:Nat},f<180*n→wo (n+1) f e=wo n f e
 | 0,f,e,h=>by omega
 | n+1,f,e,h=>by
   rw [o7 (n+1) f e,o7 n f e]
   by_cases h1:(if e=0 then 184 else 180)≤f
   ·have h2:f-(if e=0 then 184 else 180)<180*n:=by
     by_cases he:e=0
     ·rw [JH he] at h1 ⊢;omega
     ·rw [JG he] at h1 ⊢;omega
    rw [JH h1,JH h1,ti h2]
   ·rw [JG h1,JG h1]
theorem oL(h:Okp p)(hl:it.length=180)(hroom:it.length≤du p)(g:Laid p it q):bE q (ac q)=bE p (ac p)+180∧(if dE p=0 then ac q=ac p+1∧dE q=0 else ac q=ac p∧dE p=dE q+1):=by
 obtain⟨h1,h2,h3⟩:=eV p
 have hs:=g.slots
 have hz:=g.sizes
 rw [hl] at hz
 by_cases hh:dE p=0
 ·have he:=(fF p).2 hh
  rw [JH hh]
  unfold iG at hs
  rw [JH he] at hs
  rw [he] at hz
  have hsz: ∀ j,j<ac p→ak q j=ak p j:=fun j hj=>g.size' j (by omega) hj
  rw [hs]
  refine⟨?_,rfl,?_⟩
  ·show bE q (ac p)+ak q (ac p)=_
   rw [qv hsz,hz]
  ·refine iI.2 fun j hj=>?_
   rcases JJ j (ac p)with h4|h4
   ·rw [hsz j h4]
    exact iI.1 hh j h4
   ·obtain rfl:j=ac p:=by omega
    rw [hz]
    decide
 ·have he:aW p≠ac p:=fun e=>hh ((fF p).1 e)
  have hlt:aW p<ac p:=by omega
  rw [JG hh]
  unfold iG at hs
  rw [JG he] at hs
  have hsz: ∀ j,j<ac p→j≠aW p→ak q j=ak p j:=fun j hj hje=>g.size' j hje hj
  have e1:=uT (q:=q) (h2 hlt) hsz
  have e2:=p7 (h2 hlt) (by rw [hz];decide) hsz
  rw [JH hlt] at e1 e2
  unfold dE
  rw [hs]
  exact⟨by omega,rfl,e2⟩
abbrev zZ(p:List UInt8):Nat:=aD p-18-4*ac p
theorem ox(h:Okp p):180≤du p↔(if dE p=0 then 184 else 180)≤zZ p:=by
 unfold du zZ
 by_cases hh:dE p=0
 ·rw [JH hh,JH ((fF p).2 hh)];omega
 ·rw [JG hh,JG (fun e=>hh ((fF p).1 e))];omega
theorem zM(hr:bg p=true)(h1:1≤it.length)(h2:it.length≤1000)(h:it.length≤du p):iU p it=(mQ p it,aW p,0):=by
 unfold iU
 rw [JG (by rw [hr];decide),JG (fun g=>g ⟨h1,h2⟩),JG (by omega)]
theorem uY{it:List UInt8}(hl:it.length=180): ∀ n p,Okp p→gy it n p=wo n (zZ p) (dE p)
 | 0,p,_=>rfl
 | n+1,p,h=>by
   have hr:=(bi h.len).2 h
   have hre:cv p=du p:=by unfold cv;rw [JH hr]
   show(if it.length≤cv p then _ else _)=(if _ then _ else _)
   rw [hre,hl]
   by_cases hroom:180≤du p
   ·rw [JH hroom,JH ((ox h).1 hroom),zM (it:=it) hr (by omega) (by omega) (by omega)]
    have g:=laid (it:=it) h (by omega) (by rw [hl];exact hroom) (by omega)
    have hq:=g.ok h (by omega) (by rw [hl];exact hroom) (by omega)
    have hc:=oL h hl (by rw [hl];exact hroom) g
    have hb:=g.begins
    have hf:=(ox h).1 hroom
    dsimp only
    generalize mQ p it=q at g hq hc hb ⊢
    rw [uY hl n q hq]
    refine congrArg (1 + ·) ?_
    unfold zZ at hf ⊢
    by_cases hh:dE p=0
    ·rw [JH hh] at hc hf
     obtain⟨_,c1,c2⟩:=hc
     rw [JH hh,hb,hl,c1,c2,hh]
     exact congrArg (fun z=>wo n z 0) (by omega)
    ·rw [JG hh] at hc hf
     obtain⟨_,c1,c2⟩:=hc
     rw [JG hh,hb,hl,c1,c2,Nat.add_sub_cancel]
     exact congrArg (fun z=>wo n z (dE q)) (by omega)
   ·rw [JG hroom,JG (fun g=>hroom ((ox h).2 g))]
def C2(p:List UInt8):Nat:=gy itZ 1025 (dL p)
theorem C1(h:Okp p):C2 p=wo 1025 (1024-bE p (ac p)-18-4*ac p) (dE p):=by
 have g:=li h
 unfold C2
 rw [uY zJ _ _ (g.ok h)]
 unfold zZ
 have hh:dE (dL p)=dE p:=by
  unfold dE
  rw [g.slots]
  exact qY g.sizes
 rw [g.begins,g.slots,hh]
theorem Ee(h:GoodQ p)(hl:it.length=180):((fm p it).2.2=0→C2 p=C2 (fm p it).1+1)∧((fm p it).2.2≠0→C2 p=0):=by
 have hok:=h.ok
 have hr:=h.right
 have g:=li hok
 have hsum:=hok.sum_le
 have hh:=hok.head
 have h2:=Ed (it:=it) hok.len hr (by omega) (by omega)
 have hre:cv p=du p:=by unfold cv;rw [JH hr]
 have hrp:=yB hok
 have hle:cv p≤cv (dL p):=by
  rw [hrp,hre]
  unfold du
  omega
 have hone:180≤cv (dL p)↔(if dE p=0 then 184 else 180)≤1024-bE p (ac p)-18-4*ac p:=by
  rw [hrp]
  by_cases hq:dE p=0
  ·rw [JH hq,JH ((fF p).2 hq)];omega
  ·rw [JG hq,JG (fun e=>hq ((fF p).1 e))];omega
 have hG:C2 p=if 180≤cv (dL p) then 1+wo 1024 (1024-bE p (ac p)-18-4*ac p-(if dE p=0 then 184 else 180)) (dE p-1) else 0:=by
  refine(C1 hok).trans ((o7 1024 _ _).trans ?_)
  by_cases h3:180≤cv (dL p)
  ·rw [JH h3,JH (hone.1 h3)]
  ·rw [JG h3,JG (fun g=>h3 (hone.2 g))]
 by_cases h3:180≤cv (dL p)
 ·rw [JH (by rw [hl];exact .inr h3)] at h2
  have h0:(fm p it).2.2=0:=by rw [h2]
  refine⟨fun _=>?_,fun hne=>absurd h0 hne⟩
  rw [hG,JH h3,Nat.add_comm]
  refine congrArg (·+1) ?_
  have hq:=p9 (it:=it) h
  have hqs:ac (ff p it)=ac p∧bE (ff p it) (ac p)=bE p (ac p)∧dE (ff p it)=dE p:=by
   unfold ff gE
   rw [JH hr]
   split
   ·refine⟨g.slots,qv g.sizes,?_⟩
    show mS (dL p) (ac (dL p))=_
    rw [g.slots]
    exact qY g.sizes
   ·exact⟨rfl,rfl,rfl⟩
  unfold fm at h0 ⊢
  generalize ff p it=q at hq hqs h0 ⊢
  obtain⟨i1,i2,i3,i4,i5⟩:=zN h0
  have gl:=laid hq.ok i3 i4 i2
  have hx:=gl.ok hq.ok i3 i4 i2
  have hc:=oL hq.ok hl i4 gl
  rw [i5]
  dsimp only
  generalize mQ q it=x at gl hx hc ⊢
  have hf:=hone.1 h3
  have hfu: ∀ F E,F<180*1024→wo 1025 F E=wo 1024 F E:=fun F E h=>ti (n:=1024) h
  rw [C1 hx,hfu _ _ (by omega)]
  clear hfu
  obtain⟨q1,q2,q3⟩:=hqs
  rw [q1,q2,q3] at hc
  by_cases hz:dE p=0
  ·rw [JH hz] at hc hf
   obtain⟨c0,c1,c2⟩:=hc
   rw [JH hz,c0,c1,c2,hz]
   exact congrArg (fun z=>wo 1024 z 0) (by omega)
  ·rw [JG hz] at hc hf
   obtain⟨c0,c1,c2⟩:=hc
   rw [JG hz,c0,c1,c2,Nat.add_sub_cancel]
   exact congrArg (fun z=>wo 1024 z (dE x)) (by omega)
 ·rw [JG (by rw [hl];omega)] at h2
  refine⟨fun h0=>?_,fun _=>?_⟩
  ·rw [h2] at h0;cases h0
  ·rw [hG,JG h3]
def gu(pf:Nat→List UInt8):Nat→Nat→Nat
 | 0,_=>0
 | k+1,n=>C2 (aU (pf n)).1+gu pf k (n+1)
theorem qq{pf:Nat→List UInt8}(hG: ∀ n,32≤n→n<128→GoodP (pf n)): ∀ k n,32≤n→n+k≤128→jF pf k n=some (gu pf k n)
 | 0,_,_,_=>rfl
 | k+1,n,h1,h2=>by
   obtain⟨q,hq,_⟩:=(hG n h1 (by omega)).read
   unfold jF gu
   rw [hq,JG (fun h=>h rfl),qq hG k (n+1) (by omega) (by omega)]
   rfl
theorem pO{pf pf':Nat→List UInt8}: ∀ k n,(∀ m,n≤m→m<n+k→pf' m=pf m)→gu pf' k n=gu pf k n
 | 0,_,_=>rfl
 | k+1,n,h=>by
   unfold gu
   rw [h n (Jv _) (by omega),pO k (n+1) fun m h1 h2=>h m (by omega) (by omega)]
theorem x8{pf:Nat→List UInt8}{it:List UInt8}(hl:it.length=180)(hof:(ofV it).isSome=true)(hG: ∀ n,32≤n→n<128→GoodP (pf n)): ∀ k n,32≤n→n+k≤128 →
 ((cf pf it k n).1=5∧gu pf k n=0)∨((cf pf it k n).1=0∧GoodQ (cf pf it k n).2.2.2∧n≤(cf pf it k n).2.1∧(cf pf it k n).2.1<n+k∧ ∀ pf',(∀ m,m≠(cf pf it k n).2.1→pf' m=pf m)→pf' (cf pf it k n).2.1=(cf pf it k n).2.2.2→gu pf k n=gu pf' k n+1)
 | 0,_,_,_=> .inl ⟨rfl,rfl⟩
 | k+1,n,h1,h2=>by
   obtain⟨q,hq,hQ⟩:=(hG n h1 (by omega)).read
   obtain⟨c1,c2⟩:=Ee hQ hl
   unfold cf
   rw [hq,JG (fun h=>h rfl)]
   dsimp only
   by_cases he:(fm q it).2.2=0
   ·rw [JG (fun h=>h he)]
    refine .inr ⟨rfl,qZ hQ hof he,Jv _,by dsimp only;omega,fun pf' h3 h4=>?_⟩
    dsimp only at h3 h4
    have hx:=qZ hQ hof he
    unfold gu
    rw [hq,h4,hx.read,pO k (n+1) fun m h5 h6=>h3 m (by omega),c1 he]
    dsimp only
    omega
   ·rw [JH he]
    rcases x8 hl hof hG k (n+1) (by omega) (by omega)with ⟨g1,g2⟩|⟨g1,g2,g3,g4,g5⟩
    ·refine .inl ⟨g1,?_⟩
     unfold gu
     rw [hq,g2,c2 he]
    ·refine .inr ⟨g1,g2,by omega,by omega,fun pf' h3 h4=>?_⟩
     have:=g5 pf' h3 h4
     unfold gu
     rw [h3 n (by omega),this]
     omega
theorem r8{mem:List UInt8}(hv:Hv mem){v:gf}(hl:(aO v).length=180)(hm:iT v=true):((ju (az mem) v false).1.2.2=5∧(ju (az mem) v false).2=none∧gu (az mem) 96 32=0)∨((ju (az mem) v false).1.2.2=0∧ ∃ n y,(ju (az mem) v false).2=some (n,y)∧32≤n∧n<128∧GoodP y∧gu (az mem) 96 32=gu (az (f8 mem n y)) 96 32+1):=by
 have hof:(ofV (aO v)).isSome=true:=by rw [qL hm];rfl
 unfold ju
 rw [JG (by rw [hm];decide)]
 rcases x8 hl hof hv.good 96 32 (by decide) (by decide)with ⟨g1,g2⟩|⟨g1,g2,g3,g4,g5⟩
 ·rw [JH (by rw [g1];decide)]
  exact .inl ⟨g1,rfl,g2⟩
 ·rw [JG (fun h=>h g1),JG (by decide)]
  refine .inr ⟨rfl,_,_,rfl,g3,by omega,.inr g2,?_⟩
  have hx:=g2.ok.len
  refine(g5 (az (f8 mem _ _)) (fun m h=>?_) ?_)
  ·rw [gC (by rw [hv.len];omega) hx,JG h]
  ·rw [gC (by rw [hv.len];omega) hx,JH rfl]
theorem yC(it:List UInt8): ∀ (f:Nat) (p:List UInt8),gy it f p≤f
 | 0,_=>Jv _
 | f+1,p=>by
   unfold gy
   have:=yC it f (iU p it).1
   split <;> omega
theorem Ct(pf:Nat→List UInt8): ∀ k n,gu pf k n≤1025*k
 | 0,_=>Jv _
 | k+1,n=>by
   unfold gu
   have h1:C2 (aU (pf n)).1≤1025:=yC _ _ _
   have h2:=Ct pf k (n+1)
   omega
end
structure HidR (p:Prop):Prop where
 out:p
abbrev Dr:gf:=(List.replicate 32 0,List.replicate 128 0,1,0)
theorem qo:(aO Dr).length=180∧iT Dr=true:=⟨by kernel_rfl,by kernel_rfl⟩
abbrev EQ(n:Nat):VO:=dat false n 1 5 (List.replicate n (.int .u8 0))
abbrev GO(a b:Nat):VO:=ar 38 [.slu a 0 32,.slu b 0 128,.sc (.int .u64 1),.sc (.int .u64 0)]
theorem xl{H:au}{nx r:Nat}{ro:Bool}{ls:List nZ}(hr:H.at' r=some (EH ro ls))(hls:ls.length≤9223372036854775807)(hacts: ∀ x∈ls,ActIs H x∧x.1.ver.1.length≤9223372036854775807∧x.1.ver.2.1.length≤9223372036854775807):Fnc Tryz.prog 3 [.slu r 0 ls.length] H nx (fun q=>q.1 = .sc (.bool true)):=by
 refine Ka Tryz.func3 rfl rfl ?_
 refine aX fun hund=>?_
 have lr:=hund _ _ hr
 repeat first|apply ai;rfl|apply cx;rfl|apply bY;rfl;kernel_rfl;exact few_s hr hls hacts
 cases hf:CU ls with
 | false=>
   repeat first|apply ai;rfl|apply bY;rfl;kernel_rfl;exact zE
   (apply bP Tryz.func3 Tryz.results3;rfl)
   rfl
 | true=>
   obtain⟨hf1,hf2⟩:=Et hf
   repeat first|refine cd (op:=.build _ #[]) (db Df) rfl rfl rfl ?_|refine cd (qE rfl Cn Ha v9) rfl rfl rfl ?_|apply ai;rfl
   refine cW (R:=fun HB nB=>nB=nx+1+1∧HB.at' nx=some (cT zeroM (-1) 0)∧HB.at' (nx+1)=some (hpO (dD zeroM))∧ ∀ m,m<nx→HB.at' m=H.at' m) ⟨rfl,by repeat(first|exact ae|refine ab (by omega) ?_),by rw [BU];(focus((repeat(exact ae));done)),fun m hm=>by(repeat(refine ab (by omega) ?_));rfl⟩ ?_
   rintro HB nB ⟨rfl,s1,s2,s3⟩
   refine bC (α:=Nat×List UInt8×Int×Int) (fun x=> [(0,.slu r 0 ls.length),(3,.ptr nx 0),(4,.ptr (nx+1) 0),(5,.sc (.int .i64 (x.1:Int)))])
    (fun x H1 n1=>x.1≤ls.length∧Hv x.2.1∧(-1-96*(x.1:Int)≤x.2.2.1∧x.2.2.1 ≤ -1)∧(0≤x.2.2.2∧x.2.2.2≤96*(x.1:Int))∧nx+1+1≤n1∧H1.at' nx=some (cT x.2.1 x.2.2.1 x.2.2.2)∧H1.at' (nx+1)=some (hpO (dD x.2.1))∧ ∀ m,m<nx→H1.at' m=H.at' m) (fun x=>ls.length-x.1) (0,zeroM,-1,0)
    ⟨Jw _,Eh,⟨by decide,by decide⟩,⟨by decide,by decide⟩,Jv _,s1,s2,s3⟩ (Kg (Kj rfl)) ?_
   clear s1 s2 s3
   rintro⟨i,mem,left,puts⟩ H1 n1 ⟨i1,hv,⟨i2,i3⟩,⟨i4,i5⟩,i6,i7,i8,i9⟩ ih
   dsimp only at i1 hv i2 i3 i4 i5 i6 i7 i8 i9 ⊢
   have r1:H1.at' r=some (EH ro ls):=(i9 r lr).trans hr
   repeat apply ai;rfl
   refine bn rfl rfl rfl rfl (fun h5=>?_) (fun h5=>?_)
   ·have hi:i<ls.length:=by omega
    have hok:AC H1 n1 nx (nx+1) ls[i]:=fun H' hf'=>(hacts _ (JF hi)).1.frame fun b vo hb=>by
     have:=hund b vo hb
     exact(hf' b (by omega) (by omega) (by omega)).trans ((i9 b this).trans hb)
    repeat first|refine dq (q:=i) rfl rfl rfl rfl (F.un _ rfl) (F.sz _ rfl) r1 (by omega) (by omega) (Jv _) ?_|refine eU rfl rfl rfl (F.ag _ rfl) r1 (Ax hi) ?_|apply ai;rfl
    refine aI rfl rfl rfl (by kernel_rfl) (J9 (do_s i7 i8 (by omega) hv hok ⟨by omega,by omega⟩ ⟨by omega,by omega⟩) ?_)
    rintro⟨_,H2,n2⟩ ⟨hq,mem',left',puts',d1,d2,hv',⟨d3,d4⟩,⟨d5,d6⟩,d7,d8,_⟩
    dsimp only at hq d1 d2 d7 d8 ⊢
    subst hq
    have d9: ∀ m,m<nx→H2.at' m=H.at' m:=fun m hm=>(d8 m (by omega) (by omega) (by omega)).trans (i9 m hm)
    repeat first|apply ai;rfl|apply aL;rfl;omega;omega
    exact ih _ _ _ (i+1,mem',left',puts') ⟨hi,hv',⟨by first|omega|(dsimp only;omega),by first|omega|(dsimp only;omega)⟩,⟨by first|omega|(dsimp only;omega),by first|omega|(dsimp only;omega)⟩,by first|omega|(dsimp only;omega),d1,d2,d9⟩ (by dsimp only;omega) (Kg (Kj rfl))
   ·repeat apply ai;rfl
    refine aI rfl rfl rfl (by kernel_rfl) (J9 (CB (b:=nx) (mem:=mem) (left:=left) (puts:=puts) i7 hv.len) ?_)
    have hroom:pD (az mem)=some (gu (az mem) 96 32):=qq hv.good 96 32 (by decide) (by decide)
    rw [hroom]
    rintro⟨_,H2,n2⟩ ⟨w1,w2,rfl⟩
    dsimp only at w1 w2 ⊢
    repeat apply ai;rfl
    have g1:H2.at' nx=some (cT mem left puts):=(w2 _ (by omega)).trans i7
    have g2: ∀ m,m<nx→H2.at' m=H.at' m:=fun m hm=>(w2 _ (by omega)).trans (i9 m hm)
    have hn2:nx+1+1≤n2:=by omega
    (apply uP;(focus(kernel_rfl));(focus(kernel_rfl)))
    refine iL ?_
    (apply iM;rfl;rfl;exact(fun _ h=>by cases h);exact(jL (z:= .int .u8 0) (bb:=1) (n:=32) (m:=32) (F.un _ rfl) (F.sz _ rfl) (F.ze _ rfl) (by kernel_rfl) rfl rfl rfl (Jv _) (by decide) (by decide)))
    (apply iM;rfl;rfl;exact(fun _ h=>by cases h);exact(jL (z:= .int .u8 0) (bb:=1) (n:=128) (m:=128) (F.un _ rfl) (F.sz _ rfl) (F.ze _ rfl) (by kernel_rfl) rfl rfl rfl (Jv _) (by decide) (by decide)))
    repeat first|apply aS;rfl|refine oZ (ef (F.zl _ rfl)) rfl rfl rfl ?_|refine pJ (cI (F.sz _ rfl) rfl rfl rfl (by repeat(first|assumption|exact ae)) (by rfl) (by exact Jh rfl) (by rfl)) rfl rfl ?_
    refine aA ?_
    refine⟨[⟨0,fun n=> .slu n 0 32,EQ 32⟩,⟨1,fun n=> .slu n 0 128,EQ 128⟩,⟨3,fun n=> .ptr n 0,ar 38 [dC,dC,.sc (.int .u64 0),.sc (.int .u64 0)]⟩],[4],by kernel_rfl,by kernel_rfl,List.cons_ne_nil _ _,rfl,
     ⟨⟨⟨_,rfl,rfl,fun H n _ _=>ry (fun _ h=>(by cases h)) (jL (z:= .int .u8 0) (bb:=1) (n:=32) (m:=32) (F.un _ rfl) (F.sz _ rfl) (F.ze _ rfl) (by kernel_rfl) rfl rfl rfl (Jv _) (by decide) (by decide))⟩,fun _ _=>rfl,fun ρ=>lB _ _ _ _ _ _⟩,⟨⟨_,rfl,rfl,fun H n _ _=>ry (fun _ h=>(by cases h)) (jL (z:= .int .u8 0) (bb:=1) (n:=128) (m:=128) (F.un _ rfl) (F.sz _ rfl) (F.ze _ rfl) (by kernel_rfl) rfl rfl rfl (Jv _) (by decide) (by decide))⟩,fun _ _=>rfl,fun ρ=>lB _ _ _ _ _ _⟩,⟨⟨_,rfl,rfl,fun H n _ _=>ry (fun _ h=>(by cases h)) (ef (F.zl _ rfl))⟩,fun _ _=>rfl,fun ρ=>tZ (vs:= [.slice none 0 0,.slice none 0 0,.int .u64 0,.int .u64 0])⟩,trivial⟩,?_,?_⟩
    ·repeat first|exact Kk|apply fm_c;rfl|apply fm_p;rfl
    refine cW (R:=fun H3 n3=>n3=n2+1+1+1∧H3.at' n2=some (EQ 32)∧H3.at' (n2+1)=some (EQ 128)∧H3.at' (n2+1+1)=some (GO n2 (n2+1))∧H3.at' nx=some (cT mem left puts)∧ ∀ m,m<nx→H3.at' m=H.at' m) ⟨rfl,by repeat(first|exact ae|refine ab (by omega) ?_),by repeat(first|exact ae|refine ab (by omega) ?_),by repeat(exact ae),by(repeat(refine ab (by omega) ?_));exact g1,fun m hm=>by(repeat(refine ab (by omega) ?_));exact g2 m hm⟩ ?_
    rintro H3 n3 ⟨rfl,c1,c2,c3,c4,c5⟩
    dsimp only
    have hle:=Ct (az mem) 96 32
    clear hroom w2 g1 g2 i7 i8 i9 r1 ih
    repeat apply ai;rfl
    generalize ht:gu (az mem) 96 32=tot at hle ⊢
    refine bC (α:=Nat×List UInt8×Int×Int) (fun x=> [(3,.ptr nx 0),(6,.sc (.int .i64 (tot:Int))),(7,.sc (.int .i64 0)),(8,.ptr (n2+1+1) 0),(9,.sc (.int .i64 (x.1:Int)))])
     (fun x H4 n4=>x.1≤tot∧Hv x.2.1∧HidR (x.1+gu (az x.2.1) 96 32=tot)∧(left-(x.1:Int)≤x.2.2.1∧x.2.2.1≤left)∧(puts≤x.2.2.2∧x.2.2.2≤puts+(x.1:Int))∧n2+1+1+1≤n4∧H4.at' nx=some (cT x.2.1 x.2.2.1 x.2.2.2)∧ ∀ m,nx<m→m<n2+1+1+1→H4.at' m=H3.at' m) (fun x=>tot-x.1) (0,mem,left,puts)
     ⟨Jw _,hv,⟨by rw [JI];exact ht⟩,⟨by dsimp only;omega,Int.le_refl _⟩,⟨Int.le_refl _,by dsimp only;omega⟩,Jv _,c4,fun m _ _=>rfl⟩ (Kg (Kj rfl)) ?_
    clear ht
    rintro⟨q,mem2,left2,puts2⟩ H4 n4 ⟨e1,hv2,e2,⟨e3,e4⟩,⟨e5,e6⟩,e7,e8,e9⟩ ih2
    dsimp only at e1 e2 e3 e4 e5 e6 e7 e8 e9 hv2 ⊢
    have b1:H4.at' n2=some (EQ 32):=(e9 _ (by omega) (by omega)).trans c1
    have b2:H4.at' (n2+1)=some (EQ 128):=(e9 _ (by omega) (by omega)).trans c2
    have b3:H4.at' (n2+1+1)=some (GO n2 (n2+1)):=(e9 _ (by omega) (by omega)).trans c3
    have hvG:VerIs H4 (oh (.slu n2 0 32) (.slu (n2+1) 0 128) 1 0) Dr:=⟨_,_,rfl,hU (ro:=false) (n:=32) b1 rfl,hU (ro:=false) (n:=128) b2 rfl⟩
    repeat apply ai;rfl
    refine bn rfl rfl rfl rfl (fun h6=>?_) (fun h6=>?_)
    ·repeat first|apply ai;rfl|apply aG;rfl;assumption;rfl
     refine aI rfl rfl rfl (by kernel_rfl) (J9 (qU (b:=nx) (v:=Dr) (mem:=mem2) (left:=left2) (puts:=puts2) e8 hv2.len hvG ⟨by omega,by omega⟩ ⟨by omega,by omega⟩) ?_)
     rintro⟨_,H5,n5⟩ ⟨rfl,d2,d3,d4⟩
     dsimp only at d2 d3 d4 ⊢
     rw [J0 (show ¬ left2=0 by omega)] at d2 ⊢
     have hrs:=r8 hv2 qo.1 qo.2
     generalize ju (az mem2) Dr false=I at hrs d2 ⊢
     rcases hrs with ⟨_,_,z⟩|⟨f1,n',y,f2,f3,f4,f5,f6⟩
     ·have e2:=e2.out
      exfalso;omega
     rw [f2] at d2
     rw [f1]
     have d2':H5.at' nx=some (cT (f8 mem2 n' y) (left2-1) (puts2+1)):=d2
     have hfin:HidR (q+1+gu (az (f8 mem2 n' y)) 96 32=tot):=by
      have e2:=e2.out
      rw [f6,←Nat.add_assoc,Nat.add_right_comm] at e2
      exact⟨e2⟩
     clear hvG b1 b2 b3 d2 f2 e2 f6
     repeat first|apply dM;rfl;rfl|apply ai;rfl|apply aG;rfl;(focus((repeat(exact ae));done));rfl|apply aL;rfl;omega;omega
     exact ih2 _ _ _ (q+1,f8 mem2 n' y,left2-1,puts2+1) ⟨by dsimp only;omega,hv2.set f3 f4 f5,hfin,⟨by dsimp only;omega,by dsimp only;omega⟩,⟨by dsimp only;omega,by dsimp only;omega⟩,by first|omega|(dsimp only;omega),by(repeat(refine ab (by omega) ?_));exact d2',fun m h1 h2=>by(repeat(refine ab (by omega) ?_));exact(d4 m (by omega) (by omega)).trans (e9 m h1 h2)⟩ (by dsimp only;omega) (Kg (Kj rfl))
    ·repeat first|apply ai;rfl|apply aG;rfl;assumption;rfl
     have hA0:HidR (gu (az mem2) 96 32=0):=⟨by have e2:=e2.out;omega⟩
     refine aI rfl rfl rfl (by kernel_rfl) (J9 (qU (b:=nx) (v:=Dr) (mem:=mem2) (left:=left2) (puts:=puts2) e8 hv2.len hvG ⟨by omega,by omega⟩ ⟨by omega,by omega⟩) ?_)
     rintro⟨_,H5,n5⟩ ⟨rfl,d2,d3,d4⟩
     dsimp only at d2 d3 d4 ⊢
     rw [J0 (show ¬ left2=0 by omega)] at d2 ⊢
     have hrs:=r8 hv2 qo.1 qo.2
     generalize ju (az mem2) Dr false=I at hrs d2 ⊢
     rcases hrs with ⟨f1,f2,-⟩|⟨-,_,_,-,-,-,-,f6⟩
     rotate_left
     ·rw [hA0.out] at f6
      exact absurd f6.symm (Nat.succ_ne_zero _)
     rw [f2] at d2
     rw [f1]
     have d2':H5.at' nx=some (cT mem2 left2 puts2):=d2
     clear hvG b1 b2 b3 d2 f2 ih2
     repeat first|apply ai;rfl|apply aG;rfl;(focus((repeat(exact ae));done));rfl
     have hroom2:pD (az mem2)=some 0:=by
      have h1:pD (az mem2)=some (gu (az mem2) 96 32):=qq hv2.good 96 32 (by decide) (by decide)
      rw [hA0.out] at h1
      exact h1
     refine aI rfl rfl rfl (by kernel_rfl) (J9 (CB (b:=nx) (mem:=mem2) (left:=left2) (puts:=puts2) (by(repeat(refine ab (by omega) ?_));exact d2') hv2.len) ?_)
     rw [hroom2]
     rintro⟨_,H6,n6⟩ ⟨v1,v2,rfl⟩
     dsimp only
     repeat first|apply dM;rfl;rfl|apply bY;rfl;kernel_rfl;exact zE|apply ai;rfl
     (apply bP Tryz.func3 Tryz.results3;rfl)
     rfl
end Go.Proofs.YtnhmbonmlfeifaaGreat
end
section
namespace Go.Sl
open Go Go.RowKit Go.WideShapes Go.ChangeShapes
theorem post_new{H:Type}{enc:TypeId×Value→H}{P:Program}{f:Func}{s:ChangeSpec}{apart fresh handsOn again:Bool}{W W':World}{args:Array Value}{v:Value}{ds gs:List (DataW H)}{before pa pv:List MemPlace}
 (hW:DataW.Whole enc P f.params.toList s.vars apart W args.toList ds gs before) (hb:Below W.heap.size W W') (hps:before=pa ++ pv)
 (hres: ∀ (b:Nat) (sp:Nat→Bool) (hd:Bool),DataW.TrodAll enc P W' b sp hd f.resultTypes.toList (v.resultList f.resultTypes.size) (s.fn H (ds ++ gs)).results [])
 (hargs: ∀ sp:Nat→Bool,(∀ p∈before,sp p.block=true)→DataW.TrodAll enc P W' 0 sp true f.params.toList args.toList (s.fn H (ds ++ gs)).args pa)
 (hvars: ∀ sp:Nat→Bool,(∀ p∈before,sp p.block=true)→DataW.TrodVars enc P W' sp s.vars (s.fn H (ds ++ gs)).vars pv)
 (hok: ∀ (j:Nat) (t:TypeId) (r:Value),f.resultTypes[j]? =some t→(v.resultList f.resultTypes.size)[j]? =some r→Value.okWide P W' .any 0 t r) :
 s.post enc P f apart fresh handsOn again W args v W':=by
 have hsp: ∀ p∈before,(fun b=>decide (b<W.heap.size)) p.block=true:=fun p hp=>by simpa using hW.lt p hp
 have hmem: ∀ p,p∈pa ++ pv↔p∈before:=fun p=>by rw [hps]
 refine⟨ds,gs,before,[],pa,pv,hW,hres _ _ _,hargs _ hsp,hvars _ hsp,World.keptBut_mono (fun p hp=>⟨hp,?_⟩) (hb.frame (·∈before)),fun _=>?_⟩
 ·have:=(hmem p).2 hp
  rw [List.mem_append] at this
  exact .inr this
 obtain⟨_,_,_,_,_,hz,hn⟩:=id hW
 refine⟨hok,_,_,([] ++ pa) ++ pv,⟨[] ++ pa,pv,trodAll_append (hargs _ (fun _ _=>rfl)) (hres _ _ _),hvars _ (fun _ _=>rfl),rfl,fun b off hp=>?_,fun ha=>?_⟩,fun p hp _=>?_⟩
 ·have hin:MemPlace.cell b off∈before:=(hmem _).1 (by simpa using hp)
  rw [hb.frozen (hW.lt _ hin)]
  exact hz b off hin
 ·have:=hn ha
  rw [hps] at this
  simpa using this
 ·exact(hmem p).1 (by simpa using hp)
end Go.Sl
end
section
namespace Go.Sy
open Go Go.Sl Go.RowKit Go.WideShapes
section
variable {sz:Nat}{A:Type}{v:Value}{w:World}{f:A→List Value}
theorem yA(p:Program)(fits:TypeId→Bool)(d:Nat)(e:TypeId)(count off n:Nat)(h:rowAt p fits d e count off n=true):off≤count*p.cellsOf e:=by
 cases d with
 | zero=>simp [rowAt] at h
 | succ d=>
   unfold rowAt at h
   simp only at h
   split at h
   ·cases h
   ·rename_i hs
    have hdiv:=Nat.div_add_mod off (p.cellsOf e)
    rw [Bool.or_eq_true] at h
    rcases h with h|h
    ·simp only [Ju,beq_iff_eq,J7] at h
     obtain⟨⟨h1,h2⟩,_⟩:=h
     have:p.cellsOf e*(off / p.cellsOf e)≤p.cellsOf e*count:=Nat.mul_le_mul_left _ (by omega)
     rw [Nat.mul_comm count]
     omega
    ·rw [Ju,J7] at h
     have hm:=Nat.mod_lt off (Nat.pos_of_ne_zero hs)
     have:p.cellsOf e*(off / p.cellsOf e+1)≤p.cellsOf e*count:=Nat.mul_le_mul_left _ (by omega)
     rw [Nat.mul_add,Nat.mul_one] at this
     rw [Nat.mul_comm count]
     omega
theorem pX(p:Program): ∀ (d:Nat) (e:TypeId) (count off:Nat) (u:TypeId) (n:Nat),liesAt p d e count off u n=true→off≤count*p.cellsOf e
 | 0,_,_,_,_,_,h=>by simp [liesAt] at h
 | d+1,e,count,off,u,n,h=>by
   unfold liesAt at h
   rw [Bool.or_eq_true] at h
   rcases h with h|h
   ·exact yA p _ _ e count off n h
   ·split at h
    ·exact pX p d e count off _ _ h
    ·cases h
theorem mP{f:Nat→Option A}: ∀ {n:Nat} {l:List A},(List.range n).mapM f=some l→l.length=n∧ ∀ i,i<n→f i=l[i]? :=by
 intro n
 induction n with
 | zero=>intro l h;simp at h;subst h;exact⟨rfl,fun i hi=>by omega⟩
 | succ n ih=>
   intro l h
   rw [List.range_succ,List.mapM_append] at h
   simp only [Option.bind_eq_bind,Option.bind_eq_some_iff] at h
   obtain⟨a,ha,b,hb,hl⟩:=h
   obtain⟨h1,h2⟩:=ih ha
   cases hf:f n with
   | none=>simp [hf] at hb
   | some x=>
     simp [hf] at hb
     subst hb
     simp at hl
     subst hl
     refine⟨by simp [h1],fun i hi=>?_⟩
     rcases JJ i n with h|h
     ·rw [Js (by omega)];exact h2 i h
     ·obtain rfl:i=n:=by omega
      rw [hf,JQ (by omega),h1]
      simp
theorem yr{b0:Nat}{H:Type}{enc:TypeId×Value→H}{P:Program}{t e:TypeId}{dd:DataW H}{p:List MemPlace}(ht:P.underlying t=some (.slice e))(hc:P.cellsOf e=sz)(h0:0<sz)
 (hT:DataW.Trod enc P w 0 (fun _=>true) true t v dd p) (hok:Value.okWide P w .any b0 t v) :
 (v = .slice none 0 0)∨ ∃ (b o len cap:Nat) (cs:Array Value) (tt:TypeId) (fz:Nat×Nat),v = .slice (some ⟨b,o,none⟩) len cap∧w.heap[b]? =some (.cells cs tt fz)∧len≤cap∧cap≤maxLen∧o+cap*sz≤cs.size ∧
   ∀ i,i<len→ ∃ us:List Value,us.length=sz∧(∀ j,j<sz→cs[o+i*sz+j]? =us[j]?)∧ ∃ n y,DataW.trod enc P w 0 (fun _=>true) true n e us=some y:=by
 obtain⟨fuel,hT⟩:=hT
 obtain⟨a0,len0,cap0,rfl⟩:=okWide_slice ht hok
 have hcells:(Value.slice a0 len0 cap0).cells.toList= [.slice a0 len0 cap0]:=rfl
 rw [hcells] at hT
 rcases DataW.trod_slice ht hT with ⟨h1,_⟩|⟨a,len,cap,elems,rest,n,_,h1,_,_,h3,h4,h5,h6,h7,_⟩
 ·left
  simpa using h1
 ·right
  simp only [List.cons.injEq,and_true,Value.slice.injEq] at h1
  obtain⟨rfl,rfl,rfl⟩:=h1
  unfold Value.okWide at hok
  rw [ht] at hok
  simp only at hok
  unfold Cell.okWide at hok
  rw [ht] at hok
  simp only at hok
  unfold Cell.ok at hok
  rw [ht] at hok
  simp only at hok
  obtain⟨_,_,_,hsp,row,cells,hsh,hli⟩:=hok
  obtain⟨b,o,sp⟩:=a
  simp only at hsp hsh hli h6 h7
  subst hsp
  unfold World.shape? at hsh
  cases hob:w.heap[b]? with
  | none=>rw [hob] at hsh;cases hsh
  | some ob=>
    rw [hob] at hsh
    cases ob with
    | cells cs tt fz=>
      simp only [Jc,Jk] at hsh
      obtain⟨rfl,rfl⟩:=hsh
      have hoff:=pX P _ _ _ _ _ _ hli
      have hoff2:o≤cs.size:=JD hoff (Nat.div_mul_le_self _ _)
      have hcell: ∀ q:Nat,w.cell? ⟨b,q,none⟩=cs[q]? :=fun q=>by simp [World.cell?,hob]
      have hget: ∀ (q:Nat) (us:List Value),w.cells? 0 ((⟨b,o,none⟩:Addr).add (q*P.cellsOf e)) (P.cellsOf e)=some us→us.length=sz∧ ∀ j,j<sz→cs[o+q*sz+j]? =us[j]? :=by
       intro q us hus
       rw [add_plain] at hus
       unfold World.cells? at hus
       rw [JH (Jw _)] at hus
       obtain⟨g1,g2⟩:=mP hus
       rw [hc] at g1 g2 hus
       refine⟨g1,fun j hj=>?_⟩
       have:=g2 j hj
       rw [add_plain,hcell] at this
       exact this
      refine⟨b,o,len0,cap0,cs,tt,fz,rfl,hob,h3,h4,?_,fun i hi=>?_⟩
      ·rcases Nat.eq_zero_or_pos cap0 with hz|hz
       ·subst hz;simpa using hoff2
       ·have hlast: ∃ us,w.cells? 0 ((⟨b,o,none⟩:Addr).add ((cap0-1)*P.cellsOf e)) (P.cellsOf e)=some us:=by
         rcases JJ (cap0-1) len0 with hl|hl
         ·have h8:=h6 (cap0-1) hl
          rw [Jf (by omega)] at h8
          cases hcs:w.cells? 0 ((⟨b,o,none⟩:Addr).add ((cap0-1)*P.cellsOf e)) (P.cellsOf e)with
          | none=>rw [hcs] at h8;cases h8
          | some us=>exact⟨us,rfl⟩
         ·obtain⟨h9,h10⟩:=h7 trivial
          have h8:=h10 (cap0-1-len0) (by omega)
          rw [Jf (by omega),show len0+(cap0-1-len0)=cap0-1 by omega] at h8
          cases hcs:w.cells? 0 ((⟨b,o,none⟩:Addr).add ((cap0-1)*P.cellsOf e)) (P.cellsOf e)with
          | none=>rw [hcs] at h8;cases h8
          | some us=>exact⟨us,rfl⟩
        obtain⟨us,hus⟩:=hlast
        obtain⟨g1,g2⟩:=hget _ _ hus
        have g3:=g2 (sz-1) (by omega)
        rw [Jf (show sz-1<us.length by omega)] at g3
        have g4:=(Jm.1 g3).1
        have:cap0*sz=(cap0-1)*sz+sz:=by
         conv=>lhs;rw [show cap0=cap0-1+1 by omega,Nat.add_mul,Nat.one_mul]
        omega
      ·have h8:=h6 i hi
       rw [Jf (by omega)] at h8
       cases hcs:w.cells? 0 ((⟨b,o,none⟩:Addr).add (i*P.cellsOf e)) (P.cellsOf e)with
       | none=>rw [hcs] at h8;cases h8
       | some us=>
         rw [hcs] at h8
         simp only [JC] at h8
         obtain⟨g1,g2⟩:=hget _ _ hcs
         exact⟨us,g1,g2,n,_,h8⟩
    | _=>cases hsh
def ii(w:World):Zone:=⟨fun j=>j<w.heap.size,fun j=>j<w.heap.size,fun _ h=>h⟩
theorem zF(w:World):Kept (ii w) w w:=⟨rfl,rfl,rfl,Jv _,fun _ h=>h,fun _ _=>rfl⟩
theorem B3{w0:World}(h:Kept (ii w0) w0 w):Below w0.heap.size w0 w:=⟨h.os,h.tape,h.output,h.size,fun j hj=>h.block j hj⟩
def hY(sz:Nat):Value→Ent
 | .slice (some a) _ cap=>⟨a.block,a.off,cap,sz,false⟩
 | _=>⟨0,0,0,sz,true⟩
def ArgRow{A:Type}(w:World)(sz:Nat)(f:A→List Value)(v:Value)(l:List A):Prop:=
 (v = .slice none 0 0∧l= [])∨ ∃ (b o len cap:Nat) (cs:Array Value) (tt:TypeId) (fz:Nat×Nat),v = .slice (some ⟨b,o,none⟩) len cap∧w.heap[b]? =some (.cells cs tt fz)∧len=l.length∧len≤cap∧cap≤maxLen∧o+cap*sz≤cs.size ∧
   ∀ i c,l[i]? =some c→ ∀ j,j<sz→cs[o+i*sz+j]? =(f c)[j]?
theorem Av{b0:Nat}{H:Type}{enc:TypeId×Value→H}{P:Program}{t e:TypeId}{dd:DataW H}{p:List MemPlace}(ht:P.underlying t=some (.slice e))(hc:P.cellsOf e=sz)(h0:0<sz)
 (hT:DataW.Trod enc P w 0 (fun _=>true) true t v dd p) (hok:Value.okWide P w .any b0 t v) (hf: ∀ n us y,DataW.trod enc P w 0 (fun _=>true) true n e us=some y→ ∃ a,us=f a): ∃ l:List A,ArgRow w sz f v l:=by
 rcases yr ht hc h0 hT hok with h|⟨b,o,len,cap,cs,tt,fz,h1,h2,h3,h4,h5,h6⟩
 ·exact⟨[],.inl ⟨h,rfl⟩⟩
 ·have hex: ∀ i,i<len→ ∃ a:A,∀ j,j<sz→cs[o+i*sz+j]? =(f a)[j]? :=by
   intro i hi
   obtain⟨us,g1,g2,n,y,g3⟩:=h6 i hi
   obtain⟨a,rfl⟩:=hf n us y g3
   exact⟨a,g2⟩
  refine⟨(List.range len).attach.map (fun i=>Classical.choose (hex i.1 (J2.1 i.2))),.inr ⟨b,o,len,cap,cs,tt,fz,h1,h2,by simp,h3,h4,h5,?_⟩⟩
  intro i c hi j hj
  rw [JX] at hi
  obtain⟨q,hq,rfl⟩:=Jl.1 hi
  have hq1:q.1=i:=by
   obtain⟨hlt,hh⟩:=Jg.1 hq
   rw [← hh]
   simp
  have:=Classical.choose_spec (hex q.1 (J2.1 q.2)) j hj
  rw [← hq1]
  exact this
theorem ArgRow.conc{l:List A}(h:ArgRow w sz f v l){e:Env}{b:Nat}(he:e b=some (hY sz v)):(SV.slu b 0 l.length).conc e=some v:=by
 rcases h with ⟨rfl,rfl⟩|⟨b',o,len,cap,cs,tt,fz,rfl,h2,rfl,h3,h4,h5,h6⟩
 ·simp [SV.conc,he,hY,Ent.at]
 ·simp [SV.conc,he,hY,Ent.at]
theorem v7{A:Type}{f:A→List Value}{sz:Nat}(hf: ∀ a,(f a).length=sz): ∀ (l:List A) (i j:Nat),j<sz→(l.flatMap f)[i*sz+j]? =(l[i]?).bind (fun c=>(f c)[j]?)
 | [],i,j,_=>by simp
 | a :: l,0,j,hj=>by
   rw [List.flatMap_cons,Js (by rw [hf];omega)]
   simp
 | a :: l,i+1,j,hj=>by
   rw [List.flatMap_cons,JQ (by rw [hf,Nat.add_mul];omega),hf,show(i+1)*sz+j-sz=i*sz+j by rw [Nat.add_mul];omega,v7 hf l i j hj]
   simp
theorem ArgRow.lies{l:List A}(h:ArgRow w sz f v l)(hf: ∀ a,(f a).length=sz)(h0:0<sz)(rt:TypeId)(e:Env):Lies (ii w) w e (dat true l.length sz rt (l.flatMap f)) (hY sz v):=by
 rcases h with ⟨rfl,rfl⟩|⟨b,o,len,cap,cs,tt,fz,rfl,h2,rfl,h3,h4,h5,h6⟩
 ·exact .inr ⟨rfl,rfl,true,rt,_,rfl,h0⟩
 ·refine .inl ⟨rfl,.cells cs tt fz,⟨fun _=>fD h2,fun h=>by cases h⟩,h2,rfl,cs,fz,tt,rfl,h3,h5,h4,(fun h=>by cases h),h0,fun i hi s hs=>?_⟩
  have hs':((l.flatMap f)[i]?).map SV.sc=some s:=hs
  obtain⟨u,hu,rfl⟩:=Jl.1 hs'
  refine⟨u,rfl,?_⟩
  have hdm:=Nat.div_add_mod i sz
  have hm:=Nat.mod_lt i h0
  have e1:i=i / sz*sz+i % sz:=by rw [Nat.mul_comm];omega
  rw [e1,v7 hf l _ _ hm] at hu
  obtain⟨c,hc,hcu⟩:=Option.bind_eq_some_iff.1 hu
  have:=h6 (i / sz) c hc (i % sz) hm
  show cs[o+i]? =some u
  rw [e1,←Nat.add_assoc,this]
  exact hcu
theorem St.init{e:Env}{H:au}{nx:Nat}(h1: ∀ id vo,H.at' id=some vo→vo.ro=true∧ ∃ x,e id=some x∧Lies (ii w) w e vo x)(h2: ∀ i,nx≤i→e i=none):St (ii w) w e H nx w:=
 ⟨zF w,fun id vo h=>(h1 id vo h).2,fun id id' vo vo' x x' h _ _ _ _ _ _ hr _=>by(rw [(h1 id vo h).1] at hr;cases hr),h2⟩
end
end Go.Sy
end
section
namespace Go.Proofs.YtnhmbonmlfeifaaGreat
open Go Go.Sy Go.ChangeShapes Go.WideShapes Go.ChangeAt Go.RowKit
section
variable {H:Type} {enc:TypeId×Value→H} {P:Program} {w:World} {base:Nat} {sp:Nat→Bool} {held:Bool} {n:Nat} {t:TypeId} {cs:List Value} {y:DataW H×List MemPlace}
theorem fA{k:IntKind}(hu:P.underlying t=some (.int k))(h:DataW.trod enc P w base sp held n t cs=some y): ∃ x,cs= [.int k x]∧(Lit.int k x).wf=true:=by
 cases n with
 | zero=>simp [DataW.trod] at h
 | succ n=>
   unfold DataW.trod at h
   rw [hu] at h
   split at h <;> simp_all
end
theorem own:ownKnob Tryz.prog.godebug=none:=by kernel_rfl
theorem laidH:laidOutB Tryz.prog=true:=by kernel_rfl
abbrev bV:UInt8→List Value:=fun c=> [.int .u8 (c.toNat:Int)]
theorem Dt{H:Type}{enc:TypeId×Value→H}{w:World}{n:Nat}{us:List Value}{y:DataW H×List MemPlace}(h:DataW.trod enc Tryz.prog w 0 (fun _=>true) true n 5 us=some y): ∃ c:UInt8,us=bV c:=by
 obtain⟨x,rfl,hx⟩:=fA (F.un 5 rfl) h
 have hx:0≤x∧x≤255:=by
  simpa [Lit.wf,IntKind.has,IntKind.min,IntKind.max,show IntKind.u8.signed=false from rfl,show IntKind.u8.bits=8 from rfl] using hx
 refine⟨UInt8.ofNat x.toNat,?_⟩
 have:((UInt8.ofNat x.toNat).toNat:Int)=x:=by
  rw [UInt8.toNat_ofNat']
  omega
 show [Value.int .u8 x]= [Value.int .u8 ((UInt8.ofNat x.toNat).toNat:Int)]
 rw [this]
theorem qp{H:Type}{enc:TypeId×Value→H}{w:World}{n:Nat}{us:List Value}{y:DataW H×List MemPlace}(h:DataW.trod enc Tryz.prog w 0 (fun _=>true) true n 36 us=some y): ∃ c:Nat,us= [.int .u64 (c:Int)]:=by
 obtain⟨x,rfl,hx⟩:=fA (F.un 36 rfl) h
 have hx:0≤x:=by
  simp only [Lit.wf,IntKind.has,IntKind.min,show IntKind.u64.signed=false from rfl,Ju,J7] at hx
  first|exact hx.1|(simp at hx;omega)
 exact⟨x.toNat,by rw [Int.toNat_of_nonneg hx]⟩
theorem uVer:Tryz.prog.underlying 38=some (.struct (Tryz.prog.fieldsOf 38)):=by kernel_rfl
theorem fVer:(Tryz.prog.fieldsOf 38).toList.map (fun f=>(f.type,f.offset))= [(35,0),(35,1),(36,2),(36,3)]:=by kernel_rfl
end Go.Proofs.YtnhmbonmlfeifaaGreat
end
section
namespace Go.Sy
open Go Go.Sl Go.RowKit Go.WideShapes
section
variable {sz:Nat}{w:World}
theorem AZ{H:Type}{enc:TypeId×Value→H}{P:Program}{t e:TypeId}{n:Nat}{v:Value}{y:DataW H×List MemPlace}(ht:P.underlying t=some (.slice e))(hc:P.cellsOf e=sz)(h0:0<sz)
 (hT:DataW.trod enc P w 0 (fun _=>true) true n t [v]=some y) :
 (∃ a c,v = .slice a 0 c)∨ ∃ (b o len cap:Nat) (cs:Array Value) (tt:TypeId) (fz:Nat×Nat),v = .slice (some ⟨b,o,none⟩) len cap∧0<len∧w.heap[b]? =some (.cells cs tt fz)∧len≤cap∧cap≤maxLen∧o+cap*sz≤cs.size ∧
   ∀ i,i<len→ ∃ us:List Value,us.length=sz∧(∀ j,j<sz→cs[o+i*sz+j]? =us[j]?)∧ ∃ n y,DataW.trod enc P w 0 (fun _=>true) true n e us=some y:=by
 rcases DataW.trod_slice ht hT with ⟨h1,_⟩|⟨a,len,cap,elems,rest,n,_,h1,_,_,h3,h4,h5,h6,h7,_⟩
 ·simp only [List.cons.injEq,and_true] at h1
  exact .inl ⟨none,0,h1⟩
 ·simp only [List.cons.injEq,and_true] at h1
  subst h1
  rcases Nat.eq_zero_or_pos len with hz|hpos
  ·subst hz
   exact .inl ⟨some a,cap,rfl⟩
  ·right
   have h8:=h6 0 hpos
   rw [Jf (by omega)] at h8
   obtain⟨b,o,sp⟩:=a
   cases hcs:w.cells? 0 ((⟨b,o,sp⟩:Addr).add (0*P.cellsOf e)) (P.cellsOf e)with
   | none=>rw [hcs] at h8;cases h8
   | some us=>
     unfold World.cells? at hcs
     rw [JH (Jw _)] at hcs
     obtain⟨g1,g2⟩:=mP hcs
     have g3:=g2 0 (by omega)
     rw [Jf (show 0<us.length by omega)] at g3
     have ha:((⟨b,o,sp⟩:Addr).add (0*P.cellsOf e)).add 0=⟨b,o,sp⟩:=by simp [Addr.add]
     rw [ha] at g3
     unfold World.cell? at g3
     cases hob:w.heap[b]? with
     | none=>simp only [hob] at g3;cases g3
     | some ob=>
       simp only [hob] at g3
       cases ob with
       | cells cs tt fz=>
         simp only at g3
         have hsp:sp=none:=by
          cases sp with
          | none=>rfl
          | some s=>simp at g3
         subst hsp
         have hcell: ∀ q:Nat,w.cell? ⟨b,q,none⟩=cs[q]? :=fun q=>by simp [World.cell?,hob]
         have hget: ∀ (q:Nat) (us:List Value),w.cells? 0 ((⟨b,o,none⟩:Addr).add (q*P.cellsOf e)) (P.cellsOf e)=some us→us.length=sz∧ ∀ j,j<sz→cs[o+q*sz+j]? =us[j]? :=by
          intro q us hus
          rw [add_plain] at hus
          unfold World.cells? at hus
          rw [JH (Jw _)] at hus
          obtain⟨g1,g2⟩:=mP hus
          rw [hc] at g1 g2 hus
          refine⟨g1,fun j hj=>?_⟩
          have:=g2 j hj
          rw [add_plain,hcell] at this
          exact this
         refine⟨b,o,len,cap,cs,tt,fz,rfl,hpos,hob,h3,h4,?_,fun i hi=>?_⟩
         ·have hlast: ∃ us,w.cells? 0 ((⟨b,o,none⟩:Addr).add ((cap-1)*P.cellsOf e)) (P.cellsOf e)=some us:=by
           rcases JJ (cap-1) len with hl|hl
           ·have h8:=h6 (cap-1) hl
            rw [Jf (by omega)] at h8
            cases hcs:w.cells? 0 ((⟨b,o,none⟩:Addr).add ((cap-1)*P.cellsOf e)) (P.cellsOf e)with
            | none=>rw [hcs] at h8;cases h8
            | some us=>exact⟨us,rfl⟩
           ·obtain⟨h9,h10⟩:=h7 rfl
            have h8:=h10 (cap-1-len) (by omega)
            rw [Jf (by omega),show len+(cap-1-len)=cap-1 by omega] at h8
            cases hcs:w.cells? 0 ((⟨b,o,none⟩:Addr).add ((cap-1)*P.cellsOf e)) (P.cellsOf e)with
            | none=>rw [hcs] at h8;cases h8
            | some us=>exact⟨us,rfl⟩
          obtain⟨us,hus⟩:=hlast
          obtain⟨g1,g2⟩:=hget _ _ hus
          have g3:=g2 (sz-1) (by omega)
          rw [Jf (show sz-1<us.length by omega)] at g3
          have g4:=(Jm.1 g3).1
          have:cap*sz=(cap-1)*sz+sz:=by
           conv=>lhs;rw [show cap=cap-1+1 by omega,Nat.add_mul,Nat.one_mul]
          omega
         ·have h8:=h6 i hi
          rw [Jf (by omega)] at h8
          cases hcs:w.cells? 0 ((⟨b,o,none⟩:Addr).add (i*P.cellsOf e)) (P.cellsOf e)with
          | none=>rw [hcs] at h8;cases h8
          | some us=>
            rw [hcs] at h8
            simp only [JC] at h8
            obtain⟨g1,g2⟩:=hget _ _ hcs
            exact⟨us,g1,g2,n,_,h8⟩
       | _=>simp only at g3;cases g3
theorem zD{e:Env}{b o len cap:Nat}{cs:Array Value}{tt:TypeId}{fz:Nat×Nat}(h2:w.heap[b]? =some (.cells cs tt fz))(h3:len≤cap)(h4:cap≤maxLen)(h5:o+cap*sz≤cs.size)(h0:0<sz)(rt:TypeId)(l:List SV)
 (hc: ∀ i s,i<len*sz→l[i]? =some s→ ∃ u,s.conc e=some u∧cs[o+i]? =some u):Lies (ii w) w e (nz true len sz rt l) ⟨b,o,cap,sz,false⟩:=
 .inl ⟨rfl,.cells cs tt fz,⟨fun _=>fD h2,fun h=>by cases h⟩,h2,rfl,cs,fz,tt,rfl,h3,h5,h4,(fun h=>by cases h),h0,fun i hi s hs=>hc i s hi hs⟩
theorem Bx{e:Env}(h0:0<sz)(rt:TypeId)(l:List SV):Lies (ii w) w e (nz true 0 sz rt l) ⟨0,0,0,sz,true⟩:= .inr ⟨rfl,rfl,true,rt,_,rfl,h0⟩
end
end Go.Sy
end
section
namespace Go.Proofs.YtnhmbonmlfeifaaGreat
open Go Go.Sy Go.ChangeShapes Go.WideShapes Go.ChangeAt Go.RowKit
theorem rT{H:Type}{enc:TypeId×Value→H}{P:Program}{w:World}{base:Nat}{sp:Nat→Bool}{held:Bool}{n:Nat}{t:TypeId}{cs:List Value}{y:DataW H×List MemPlace}(hu:P.underlying t=some .bool)(h:DataW.trod enc P w base sp held n t cs=some y): ∃ b,cs= [.bool b]:=by
 cases n with
 | zero=>simp [DataW.trod] at h
 | succ n=>
   unfold DataW.trod at h
   rw [hu] at h
   split at h <;> simp_all
theorem len2{A:Type}: ∀ {l:List A},l.length=2→ ∃ a b,l= [a,b]
 | [a,b],_=>⟨a,b,rfl⟩
 | [],h=>by cases h
 | [_],h=>by cases h
 | _ :: _ :: _ :: _,h=>by simp at h
theorem B6{A:Type}{f:A→List Value}{sz len o:Nat}{cs:Array Value}(hex: ∀ i,i<len→ ∃ a:A,∀ j,j<sz→cs[o+i*sz+j]? =(f a)[j]?): ∃ l:List A,l.length=len∧ ∀ i c,l[i]? =some c→ ∀ j,j<sz→cs[o+i*sz+j]? =(f c)[j]? :=by
 refine⟨(List.range len).attach.map (fun i=>Classical.choose (hex i.1 (J2.1 i.2))),by simp,?_⟩
 intro i c hi j hj
 rw [JX] at hi
 obtain⟨q,hq,rfl⟩:=Jl.1 hi
 have hq1:q.1=i:=by
  obtain⟨hlt,hh⟩:=Jg.1 hq
  rw [← hh]
  simp
 have:=Classical.choose_spec (hex q.1 (J2.1 q.2)) j hj
 rw [← hq1]
 exact this
def BytesV(w:World)(v:Value)(l:List UInt8):Prop:=(∃ a c,v = .slice a 0 c∧l= [])∨(l≠ []∧ArgRow w 1 bV v l)
theorem wu{H:Type}{enc:TypeId×Value→H}{w:World}{n:Nat}{v:Value}{y:DataW H×List MemPlace}(h:DataW.trod enc Tryz.prog w 0 (fun _=>true) true n 35 [v]=some y): ∃ l,BytesV w v l:=by
 rcases AZ (F.un 35 rfl) (by kernel_rfl:Tryz.prog.cellsOf 5=1) (by decide) h with ⟨a,c,rfl⟩|⟨b,o,len,cap,cs,tt,fz,rfl,h1,h2,h3,h4,h5,h6⟩
 ·exact⟨[],.inl ⟨a,c,rfl,rfl⟩⟩
 ·obtain⟨l,hl,hc⟩:=B6 (f:=bV) (sz:=1) (o:=o) (cs:=cs) (len:=len) fun i hi=>by
   obtain⟨us,g1,g2,n,y,g3⟩:=h6 i hi
   obtain⟨x,rfl⟩:=Dt g3
   exact⟨x,g2⟩
  refine⟨l,.inr ⟨fun e=>by rw [e] at hl;simp at hl;omega,.inr ⟨b,o,len,cap,cs,tt,fz,rfl,h2,hl.symm,h3,h4,h5,hc⟩⟩⟩
theorem uTid:Tryz.prog.underlying 40=some (.struct (Tryz.prog.fieldsOf 40)):=by kernel_rfl
theorem fTid:(Tryz.prog.fieldsOf 40).toList.map (fun f=>(f.type,f.offset))= [(3,0),(3,1)]:=by kernel_rfl
theorem uAct:Tryz.prog.underlying 42=some (.struct (Tryz.prog.fieldsOf 42)):=by kernel_rfl
theorem fAct:(Tryz.prog.fieldsOf 42).toList.map (fun f=>(f.type,f.offset))= [(3,0),(3,1),(38,2),(40,6),(36,8),(4,9)]:=by kernel_rfl
theorem cInt:Tryz.prog.cellsOf 3=1:=by kernel_rfl
theorem cU64:Tryz.prog.cellsOf 36=1:=by kernel_rfl
theorem cBool:Tryz.prog.cellsOf 4=1:=by kernel_rfl
theorem cSl:Tryz.prog.cellsOf 35=1:=by kernel_rfl
theorem cTid:Tryz.prog.cellsOf 40=2:=by kernel_rfl
theorem cVer:Tryz.prog.cellsOf 38=4:=by kernel_rfl
theorem cAct:Tryz.prog.cellsOf 42=10:=by kernel_rfl
section
variable {H:Type} {enc:TypeId×Value→H} {w:World} {n:Nat} {us:List Value} {y:DataW H×List MemPlace}
theorem AO(h:DataW.trod enc Tryz.prog w 0 (fun _=>true) true n 40 us=some y): ∃ a b:Int,us= [.int .i64 a,.int .i64 b]:=by
 have hf:=fTid
 have hu:=uTid
 generalize Tryz.prog.fieldsOf 40=fs at hf hu
 obtain⟨xs,m,_,_,hl,hlen,hx⟩:=DataW.trod_struct hu h
 rw [cTid] at hl
 obtain⟨l⟩:=fs
 simp only at hf
 have hl2:l.length=2:=by simpa using congrArg List.length hf
 obtain⟨f0,f1,rfl⟩:=len2 hl2
 simp only [Jx,List.map_nil,List.cons.injEq,Jk,and_true] at hf
 obtain⟨⟨a1,a2⟩,⟨b1,b2⟩⟩:=hf
 have hlen2:xs.length=2:=by simpa using hlen
 obtain⟨u0,u1,rfl⟩:=len2 hl
 have h0:=hx 0 f0 rfl
 have h1:=hx 1 f1 rfl
 rw [a1,a2,cInt] at h0
 rw [b1,b2,cInt] at h1
 obtain⟨_,g0⟩: ∃ y,DataW.trod enc Tryz.prog w 0 (fun _=>true) true m 3 [u0]=some y:=⟨_,h0.trans (Jf (by omega))⟩
 obtain⟨_,g1⟩: ∃ y,DataW.trod enc Tryz.prog w 0 (fun _=>true) true m 3 [u1]=some y:=⟨_,h1.trans (Jf (by omega))⟩
 obtain⟨a,ha,_⟩:=fA (F.un 3 rfl) g0
 obtain⟨b,hb,_⟩:=fA (F.un 3 rfl) g1
 simp only [List.cons.injEq,and_true] at ha hb
 exact⟨a,b,by rw [ha,hb]⟩
theorem AN(h:DataW.trod enc Tryz.prog w 0 (fun _=>true) true n 38 us=some y): ∃ (k u:Value) (lk lw:List UInt8) (x y:Nat),us= [k,u,.int .u64 (x:Int),.int .u64 (y:Int)]∧BytesV w k lk∧BytesV w u lw:=by
 have hf:=fVer
 have hu:=uVer
 generalize Tryz.prog.fieldsOf 38=fs at hf hu
 obtain⟨xs,m,_,_,hl,hlen,hx⟩:=DataW.trod_struct hu h
 rw [cVer] at hl
 obtain⟨l⟩:=fs
 simp only at hf
 have hl4:l.length=4:=by simpa using congrArg List.length hf
 rcases l with _|⟨f0,_|⟨f1,_|⟨f2,_|⟨f3,_|⟨f4,l⟩⟩⟩⟩⟩
 ·simp at hl4
 ·simp at hl4
 ·simp at hl4
 ·simp at hl4
 ·rcases us with _|⟨u0,_|⟨u1,_|⟨u2,_|⟨u3,_|⟨u4,us⟩⟩⟩⟩⟩
  ·simp at hl
  ·simp at hl
  ·simp at hl
  ·simp at hl
  ·simp only [Jx,List.map_nil,List.cons.injEq,Jk,and_true] at hf
   obtain⟨⟨a1,a2⟩,⟨b1,b2⟩,⟨c1,c2⟩,⟨d1,d2⟩⟩:=hf
   have hlen4:xs.length=4:=by simpa using hlen
   have h0:=hx 0 f0 rfl
   have h1:=hx 1 f1 rfl
   have h2:=hx 2 f2 rfl
   have h3:=hx 3 f3 rfl
   rw [a1,a2,cSl] at h0
   rw [b1,b2,cSl] at h1
   rw [c1,c2,cU64] at h2
   rw [d1,d2,cU64] at h3
   obtain⟨z0,g0⟩: ∃ y,DataW.trod enc Tryz.prog w 0 (fun _=>true) true m 35 [u0]=some y:=⟨_,h0.trans (Jf (by omega))⟩
   obtain⟨z1,g1⟩: ∃ y,DataW.trod enc Tryz.prog w 0 (fun _=>true) true m 35 [u1]=some y:=⟨_,h1.trans (Jf (by omega))⟩
   obtain⟨_,g2⟩: ∃ y,DataW.trod enc Tryz.prog w 0 (fun _=>true) true m 36 [u2]=some y:=⟨_,h2.trans (Jf (by omega))⟩
   obtain⟨_,g3⟩: ∃ y,DataW.trod enc Tryz.prog w 0 (fun _=>true) true m 36 [u3]=some y:=⟨_,h3.trans (Jf (by omega))⟩
   obtain⟨lk,hk⟩:=wu g0
   obtain⟨lw,hw⟩:=wu g1
   obtain⟨x,hx2⟩:=qp g2
   obtain⟨y,hy3⟩:=qp g3
   simp only [List.cons.injEq,and_true] at hx2 hy3
   subst hx2 hy3
   exact⟨u0,u1,lk,lw,x,y,rfl,hk,hw⟩
  ·simp at hl
 ·simp at hl4
end
abbrev actU(x:ActT×Value×Value):List Value:= [.int .i64 x.1.kind,.int .i64 x.1.place,x.2.1,x.2.2,.int .u64 (x.1.ver.2.2.1:Int),.int .u64 (x.1.ver.2.2.2:Int),.int .i64 x.1.tid.1,.int .i64 x.1.tid.2,.int .u64 (x.1.xid:Int),.bool x.1.odd]
abbrev AcA(w:World):={x:ActT×Value×Value // BytesV w x.2.1 x.1.ver.1∧BytesV w x.2.2 x.1.ver.2.1}
theorem AP{H:Type}{enc:TypeId×Value→H}{w:World}{n:Nat}{us:List Value}{y:DataW H×List MemPlace}(h:DataW.trod enc Tryz.prog w 0 (fun _=>true) true n 42 us=some y): ∃ a:AcA w,us=actU a.1:=by
 have hf:=fAct
 have hu:=uAct
 generalize Tryz.prog.fieldsOf 42=fs at hf hu
 obtain⟨xs,m,_,_,hl,hlen,hx⟩:=DataW.trod_struct hu h
 rw [cAct] at hl
 obtain⟨l⟩:=fs
 simp only at hf
 have hl6:l.length=6:=by simpa using congrArg List.length hf
 rcases l with _|⟨f0,_|⟨f1,_|⟨f2,_|⟨f3,_|⟨f4,_|⟨f5,_|⟨f6,l⟩⟩⟩⟩⟩⟩⟩
 ·simp at hl6
 ·simp at hl6
 ·simp at hl6
 ·simp at hl6
 ·simp at hl6
 ·simp at hl6
 ·rcases us with _|⟨u0,_|⟨u1,_|⟨u2,_|⟨u3,_|⟨u4,_|⟨u5,_|⟨u6,_|⟨u7,_|⟨u8,_|⟨u9,_|⟨u10,us⟩⟩⟩⟩⟩⟩⟩⟩⟩⟩⟩
  ·simp at hl
  ·simp at hl
  ·simp at hl
  ·simp at hl
  ·simp at hl
  ·simp at hl
  ·simp at hl
  ·simp at hl
  ·simp at hl
  ·simp at hl
  ·simp only [Jx,List.map_nil,List.cons.injEq,Jk,and_true] at hf
   obtain⟨⟨a1,a2⟩,⟨b1,b2⟩,⟨c1,c2⟩,⟨d1,d2⟩,⟨e1,e2⟩,⟨i1,i2⟩⟩:=hf
   have hlen6:xs.length=6:=by simpa using hlen
   have h0:=hx 0 f0 rfl
   have h1:=hx 1 f1 rfl
   have h2:=hx 2 f2 rfl
   have h3:=hx 3 f3 rfl
   have h4:=hx 4 f4 rfl
   have h5:=hx 5 f5 rfl
   rw [a1,a2,cInt] at h0
   rw [b1,b2,cInt] at h1
   rw [c1,c2,cVer] at h2
   rw [d1,d2,cTid] at h3
   rw [e1,e2,cU64] at h4
   rw [i1,i2,cBool] at h5
   obtain⟨_,g0⟩: ∃ y,DataW.trod enc Tryz.prog w 0 (fun _=>true) true m 3 [u0]=some y:=⟨_,h0.trans (Jf (by omega))⟩
   obtain⟨_,g1⟩: ∃ y,DataW.trod enc Tryz.prog w 0 (fun _=>true) true m 3 [u1]=some y:=⟨_,h1.trans (Jf (by omega))⟩
   obtain⟨_,g2⟩: ∃ y,DataW.trod enc Tryz.prog w 0 (fun _=>true) true m 38 [u2,u3,u4,u5]=some y:=⟨_,h2.trans (Jf (by omega))⟩
   obtain⟨_,g3⟩: ∃ y,DataW.trod enc Tryz.prog w 0 (fun _=>true) true m 40 [u6,u7]=some y:=⟨_,h3.trans (Jf (by omega))⟩
   obtain⟨_,g4⟩: ∃ y,DataW.trod enc Tryz.prog w 0 (fun _=>true) true m 36 [u8]=some y:=⟨_,h4.trans (Jf (by omega))⟩
   obtain⟨_,g5⟩: ∃ y,DataW.trod enc Tryz.prog w 0 (fun _=>true) true m 4 [u9]=some y:=⟨_,h5.trans (Jf (by omega))⟩
   obtain⟨k,hk,_⟩:=fA (F.un 3 rfl) g0
   obtain⟨p,hp,_⟩:=fA (F.un 3 rfl) g1
   obtain⟨v1,v2,lk,lw,x,y,hv,hk1,hw1⟩:=AN g2
   obtain⟨a,b,hab⟩:=AO g3
   obtain⟨q,hq⟩:=qp g4
   obtain⟨bo,hbo⟩:=rT (F.un 4 rfl) g5
   simp only [List.cons.injEq,and_true] at hk hp hv hab hq hbo
   obtain⟨rfl,rfl,rfl,rfl⟩:=hv
   obtain⟨rfl,rfl⟩:=hab
   subst hk hp hq hbo
   exact⟨⟨(⟨k,p,(lk,lw,x,y),(a,b),q,bo⟩,u2,u3),hk1,hw1⟩,rfl⟩
  ·simp at hl
 ·simp at hl6
theorem qg{A:Type}{w:World}{sz:Nat}{f:A→List Value}{v:Value}{l:List A}(h:ArgRow w sz f v l):l.length≤9223372036854775807:=by
 rcases h with ⟨_,rfl⟩|⟨b,o,len,cap,cs,tt,fz,_,_,h1,h2,h3,_⟩
 ·simp
 ·have:maxLen=9223372036854775807:=rfl
  omega
theorem BytesV.len{w:World}{v:Value}{l:List UInt8}(h:BytesV w v l):l.length≤9223372036854775807:=by
 rcases h with ⟨_,_,_,rfl⟩|⟨_,h⟩
 ·simp
 ·exact qg h
def sOf(v:Value)(l:List UInt8)(m:Nat):SV:=if l= [] then .sc v else .slu m 0 l.length
abbrev rowB(l:List UInt8):VO:=dat true l.length 1 5 (byV l)
def Cy(l:List UInt8):Option VO:=if l= [] then none else some (rowB l)
abbrev XtA(w:World):={x:Value×List UInt8 // ArgRow w 1 bV x.1 x.2}
def kp{w:World}(b:Nat):Nat→List (AcA w)→List nZ
 | _,[]=> []
 | k,x :: L=>(x.1.1,sOf x.1.2.1 x.1.1.ver.1 (b+2*k),sOf x.1.2.2 x.1.1.ver.2.1 (b+2*k+1)) :: kp b (k+1) L
theorem iR{w:World}(b:Nat): ∀ (k:Nat) (L:List (AcA w)),(kp b k L).length=L.length
 | _,[]=>rfl
 | k,x :: L=>by simp [kp,iR b (k+1) L]
theorem nh{w:World}(b:Nat): ∀ (k:Nat) (L:List (AcA w)) (i:Nat) (x:AcA w),L[i]? =some x→(kp b k L)[i]? =some (x.1.1,sOf x.1.2.1 x.1.1.ver.1 (b+2*(k+i)),sOf x.1.2.2 x.1.1.ver.2.1 (b+2*(k+i)+1))
 | k,[],i,x,h=>by simp at h
 | k,y :: L,0,x,h=>by
   simp at h
   subst h
   simp [kp]
 | k,y :: L,i+1,x,h=>by
   have:=nh b (k+1) L i x (by simpa using h)
   simp only [kp,List.getElem?_cons_succ,this]
   rw [show k+1+i=k+(i+1) by omega]
section
variable {w:World} (X:List (XtA w)) (L:List (AcA w))
section
variable {i:Nat}{a:AcA w}{v0:Value}
def z7(v0:Value):Env:=fun m=>if m=0 then some (hY 10 v0) else match X[m-1]? with
 | some x=>some (hY 1 x.1.1)
 | none=>match L[(m-(1+X.length)) / 2]? with
   | some a=>some (hY 1 (if(m-(1+X.length)) % 2=0 then a.1.2.1 else a.1.2.2))
   | none=>none
def lE:au:=fun m=>if m=0 then some (EH true (kp (1+X.length) 0 L)) else match X[m-1]? with
 | some x=>some (rowB x.1.2)
 | none=>match L[(m-(1+X.length)) / 2]? with
   | some a=>if(m-(1+X.length)) % 2=0 then Cy a.1.1.ver.1 else Cy a.1.1.ver.2.1
   | none=>none
theorem Ek:(lE X L).at' 0=some (EH true (kp (1+X.length) 0 L)):=rfl
theorem Ej{x:XtA w}(hx:X[i]? =some x):(lE X L).at' (1+i)=some (rowB x.1.2):=by
 show lE X L (1+i)=_
 unfold lE
 rw [JG (by omega),show 1+i-1=i by omega,hx]
theorem vH{m:Nat}:X[1+X.length+m-1]? =none:=J4 (by omega)
theorem zU(ha:L[i]? =some a):(lE X L).at' (1+X.length+2*i)=Cy a.1.1.ver.1:=by
 show lE X L (1+X.length+2*i)=_
 unfold lE
 rw [JG (by omega),vH,show 1+X.length+2*i-(1+X.length)=2*i by omega,show 2*i / 2=i by omega,ha]
 simp only
 rw [JH (by omega)]
theorem zT(ha:L[i]? =some a):(lE X L).at' (1+X.length+2*i+1)=Cy a.1.1.ver.2.1:=by
 show lE X L (1+X.length+2*i+1)=_
 unfold lE
 rw [JG (by omega),Nat.add_assoc (1+X.length),vH,show 1+X.length+(2*i+1)-(1+X.length)=2*i+1 by omega,show(2*i+1) / 2=i by omega,ha]
 simp only
 rw [JG (by omega)]
theorem HI{x:XtA w}(hx:X[i]? =some x):z7 X L v0 (1+i)=some (hY 1 x.1.1):=by
 unfold z7
 rw [JG (by omega),show 1+i-1=i by omega,hx]
theorem CW(ha:L[i]? =some a):z7 X L v0 (1+X.length+2*i)=some (hY 1 a.1.2.1):=by
 unfold z7
 rw [JG (by omega),vH,show 1+X.length+2*i-(1+X.length)=2*i by omega,show 2*i / 2=i by omega,ha]
 simp only
 rw [JH (by omega)]
theorem CV(ha:L[i]? =some a):z7 X L v0 (1+X.length+2*i+1)=some (hY 1 a.1.2.2):=by
 unfold z7
 rw [JG (by omega),Nat.add_assoc (1+X.length),vH,show 1+X.length+(2*i+1)-(1+X.length)=2*i+1 by omega,show(2*i+1) / 2=i by omega,ha]
 simp only
 rw [JG (by omega)]
end
end
section
variable {v:Value}{w:World}{l:List UInt8}
theorem vR(h:ArgRow w 1 bV v l)(e:Env):Lies (ii w) w e (rowB l) (hY 1 v):=by
 have:=h.lies (fun _=>rfl) (by decide) 5 e
 rwa [show l.flatMap bV=byV l from Al l] at this
theorem Cw{m:Nat}{H:au}(h:BytesV w v l)(hm:H.at' m=Cy l):BsIs H (sOf v l m) (byV l):=by
 unfold sOf
 by_cases hp:l= []
 ·rw [JH hp]
  rcases h with ⟨a,c,rfl,_⟩|⟨h1,_⟩
  ·subst hp
   exact⟨fun v hv=>by simp at hv,.inl ⟨rfl,a,c,rfl⟩⟩
  ·exact absurd hp h1
 ·rw [JG hp]
  refine hU (ro:=true) ?_ rfl
  rw [hm]
  unfold Cy
  rw [JG hp]
theorem uX{m:Nat}{e:Env}(h:BytesV w v l)(hm:e m=some (hY 1 v)):(sOf v l m).conc e=some v:=by
 unfold sOf
 by_cases hp:l= []
 ·rw [JH hp]
  rfl
 ·rw [JG hp]
  rcases h with ⟨_,_,_,h2⟩|⟨_,h2⟩
  ·exact absurd h2 hp
  ·exact h2.conc hm
theorem uW{vo:VO}(h:BytesV w v l)(hv:Cy l=some vo)(e:Env):vo.ro=true∧Lies (ii w) w e vo (hY 1 v):=by
 unfold Cy at hv
 by_cases hp:l= []
 ·rw [JH hp] at hv;cases hv
 ·rw [JG hp] at hv
  cases hv
  rcases h with ⟨_,_,_,h2⟩|⟨_,h2⟩
  ·exact absurd h2 hp
  ·exact⟨rfl,vR h2 e⟩
theorem EG(X:List (XtA w))(L:List (AcA w)): ∀ x∈kp (1+X.length) 0 L,ActIs (lE X L) x∧x.1.ver.1.length≤9223372036854775807∧x.1.ver.2.1.length≤9223372036854775807:=fun x hx=>by
 obtain⟨i,hi⟩:=List.mem_iff_getElem?.1 hx
 have hlt:i<L.length:=by
  have:=(Jg.1 hi).1
  rwa [iR] at this
 obtain⟨a,ha⟩: ∃ a,L[i]? =some a:=⟨_,Jf hlt⟩
 have hg:=nh (1+X.length) 0 L i a ha
 rw [hi,JI] at hg
 cases hg
 exact⟨⟨Cw a.2.1 (zU X L ha),Cw a.2.2 (zT X L ha)⟩,a.2.1.len,a.2.2.len⟩
theorem Dy{v0:Value}(X:List (XtA w))(L:List (AcA w))(h0:ArgRow w 10 (fun a:AcA w=>actU a.1) v0 L):St (ii w) w (z7 X L v0) (lE X L) (1+X.length+2*L.length) w:=by
 refine St.init (fun id vo hv=>?_) (fun i hi=>?_)
 ·by_cases e0:id=0
  ·subst e0
   rw [Ek] at hv
   cases hv
   refine⟨rfl,hY 10 v0,rfl,?_⟩
   have hlen:=iR (1+X.length) 0 L
   rcases h0 with ⟨rfl,rfl⟩|⟨b,o,len,cap,cs,tt,fz,rfl,g2,g3,g4,g5,g6,g7⟩
   ·exact Bx (by decide) _ _
   ·refine zD g2 (by omega) g5 g6 (by decide) _ _ fun i s hi hs=>?_
    have hdm:=Nat.div_add_mod i 10
    have hm:=Nat.mod_lt i (show 0<10 by decide)
    have hq:i / 10<L.length:=by omega
    have e1:i=i / 10*10+i % 10:=by omega
    obtain⟨a,ha⟩: ∃ a,L[i / 10]? =some a:=⟨_,Jf hq⟩
    have hx:=nh (1+X.length) 0 L (i / 10) a ha
    rw [JI] at hx
    have hq2:i / 10<(kp (1+X.length) 0 L).length:=by omega
    rw [e1,wF hq2 hm] at hs
    have hc:=g7 (i / 10) a ha (i % 10) hm
    rw [show o+i=o+i / 10*10+i % 10 by omega,hc]
    rw [Jf hq2,Jc] at hx
    rw [hx] at hs
    have hm6:i % 10=0∨i % 10=1∨i % 10=2∨i % 10=3∨i % 10=4∨i % 10=5∨i % 10=6∨i % 10=7∨i % 10=8∨i % 10=9:=by omega
    rcases hm6 with e|e|e|e|e|e|e|e|e|e <;> rw [e] at hs ⊢
    ·cases hs;exact⟨_,rfl,rfl⟩
    ·cases hs;exact⟨_,rfl,rfl⟩
    ·cases hs;exact⟨_,uX a.2.1 (CW X L ha),rfl⟩
    ·cases hs;exact⟨_,uX a.2.2 (CV X L ha),rfl⟩
    ·cases hs;exact⟨_,rfl,rfl⟩
    ·cases hs;exact⟨_,rfl,rfl⟩
    ·cases hs;exact⟨_,rfl,rfl⟩
    ·cases hs;exact⟨_,rfl,rfl⟩
    ·cases hs;exact⟨_,rfl,rfl⟩
    ·cases hs;exact⟨_,rfl,rfl⟩
  ·rcases JJ (id-1) X.length with hX|hX
   ·obtain⟨x,hx⟩: ∃ x,X[id-1]? =some x:=⟨_,Jf hX⟩
    have e:id=1+(id-1):=by omega
    rw [e] at hv ⊢
    rw [Ej X L hx] at hv
    cases hv
    exact⟨rfl,_,HI X L hx,vR x.2 _⟩
   ·have hv':lE X L id=some vo:=hv
    have: ∃ a,L[(id-(1+X.length)) / 2]? =some a:=by
     unfold lE at hv'
     rw [JG e0,J4 hX] at hv'
     cases hL:L[(id-(1+X.length)) / 2]? with
     | none=>rw [hL] at hv';cases hv'
     | some a=>exact⟨a,rfl⟩
    obtain⟨a,ha⟩:=this
    have hmod:=Nat.mod_two_eq_zero_or_one (id-(1+X.length))
    have hdm:=Nat.div_add_mod (id-(1+X.length)) 2
    generalize (id-(1+X.length)) / 2=i at *
    clear hv'
    rcases hmod with hz|hz
    ·obtain rfl:id=1+X.length+2*i:=by omega
     rw [zU X L ha] at hv
     have:=uW a.2.1 hv (z7 X L v0)
     exact⟨this.1,_,CW X L ha,this.2⟩
    ·obtain rfl:id=1+X.length+2*i+1:=by omega
     rw [zT X L ha] at hv
     have:=uW a.2.2 hv (z7 X L v0)
     exact⟨this.1,_,CV X L ha,this.2⟩
 ·unfold z7
  rw [JG (by omega),J4 (by omega),J4 (by omega)]
end
end Go.Proofs.YtnhmbonmlfeifaaGreat
end
