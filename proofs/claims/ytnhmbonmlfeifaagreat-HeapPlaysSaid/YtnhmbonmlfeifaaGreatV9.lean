import Derived.WalkKit
import Derived.ProofKit
import Derived.OpenShut
import Derived.Below
import Derived.ChangeSame
import Derived.Carry
import Derived.ChangeArms
import Derived.Test.YtnhmbonmlfeifaaGreatChecked
import Derived.Test.YtnhmbonmlfeifaaGreatV8
set_option linter.unusedVariables false
set_option linter.unusedSimpArgs false
set_option maxRecDepth 100000
set_option maxHeartbeats 0
section
namespace Go.Proofs.YtnhmbonmlfeifaaGreat
open Go Go.Sy Go.Sl Go.RowKit
section
variable {H:au}{nx:Nat}{p:List UInt8}
def zs0:List Value:= [aP,aP,aP,aP,aP,aP,aP,aP,aP,aP,aP,aP,aP,aP,aP,aP,aP,aP,aP,aP,aP,aP,aP,aP,aP,aP,aP,aP,aP,aP,aP,aP,aP,aP,aP,aP,aP,aP,aP,aP,aP,aP,aP,aP,aP,aP,aP,aP]
theorem EE:zs0=List.replicate 48 aP:=rfl
def zs1:List Value:=List.append zs0 zs0
theorem EC:zs1=List.replicate 96 aP:=by
 show zs0 ++ zs0=_
 rw [EE,JD]
def zs2:List Value:=List.append zs1 zs1
theorem EB:zs2=List.replicate 192 aP:=by
 show zs1 ++ zs1=_
 rw [EC,JD]
def zs3:List Value:=List.append zs2 zs2
theorem EA:zs3=List.replicate 384 aP:=by
 show zs2 ++ zs2=_
 rw [EB,JD]
def zs4:List Value:=List.append zs3 zs3
theorem Ez:zs4=List.replicate 768 aP:=by
 show zs3 ++ zs3=_
 rw [EA,JD]
def zs5:List Value:=List.append zs4 zs4
theorem Ey:zs5=List.replicate 1536 aP:=by
 show zs4 ++ zs4=_
 rw [Ez,JD]
def zs6:List Value:=List.append zs5 zs5
theorem Ex:zs6=List.replicate 3072 aP:=by
 show zs5 ++ zs5=_
 rw [Ey,JD]
def zs7:List Value:=List.append zs6 zs6
theorem Ew:zs7=List.replicate 6144 aP:=by
 show zs6 ++ zs6=_
 rw [Ex,JD]
def zs8:List Value:=List.append zs7 zs7
theorem Ev:zs8=List.replicate 12288 aP:=by
 show zs7 ++ zs7=_
 rw [Ew,JD]
def zs9:List Value:=List.append zs8 zs8
theorem Eu:zs9=List.replicate 24576 aP:=by
 show zs8 ++ zs8=_
 rw [Ev,JD]
def ED:List Value:=List.append zs9 zs9
theorem CL:ED=List.replicate 49152 aP:=by
 show zs9 ++ zs9=_
 rw [Eu,JD]
def zs11:List Value:=List.append ED ED
theorem CK:zs11=List.replicate 98304 aP:=by
 show ED ++ ED=_
 rw [CL,JD]
theorem zHeap:dM Tryz.prog 33=some (.agg (List.toArray zs11)):=by kernel_rfl
def xx:List UInt8:=List.replicate 98304 0
theorem xz:((Value.agg (List.toArray zs11)).cells.toList.map SV.sc)=(byV xx).map SV.sc:=by
 refine(congrArg (List.map SV.sc) (List.toList_toArray ..)).trans ?_
 rw [CK]
 unfold xx
 rw [show byV (List.replicate 98304 (0:UInt8))=List.replicate 98304 aP from List.map_replicate]
theorem CO:nj Tryz.prog 33 []=some (.agg ((byV xx).map .sc)):=by
 have hs:bH Tryz.prog 27=some 1024:=F.sz _ rfl
 unfold nj
 rw [zHeap,show Tryz.prog.underlying 33=some (.array 96 27)from F.un _ rfl]
 simp only [hs,kK,HY]
 rw [xz]
abbrev kv1:fY:=([97],v8,1,0)
abbrev kv2:fY:=([98],v8,2,0)
def kp0:List UInt8:=fy 4
def kp1:List UInt8:=(nf kp0 (aR kv1)).1
def kp2:List UInt8:=(nf kp1 (aR kv2)).1
theorem uY{mem x:List UInt8}(hm:mem.length=131072){n:Nat}(hn:n<128)(hx:x.length=1024):az (gH mem n x) n=x:=by
 unfold az gH bf
 rw [Jo,List.drop_left' (by rw [Jh];omega),List.take_left' hx]
theorem yJ:az zeroM 32=zeroP:=by
 unfold az zeroM zeroP
 rw [List.drop_replicate,List.take_replicate]
 rfl
theorem yu(h1:gU p=false)(h2:bl p=true)(h3:kP p=4)(h4:xg p=false):aX p=(p,0):=by
 unfold aX
 rw [Jd (by rw [h1];decide),Jd (by rw [h2,h3];decide),Jd (by rw [h4];decide)]
theorem yr:aX zeroP=(kp0,0):=Je (by kernel_rfl)
theorem kl0:kp0.length=1024:=fL 4
theorem kl1:kp1.length=1024:=by kernel_rfl
theorem kl2:kp2.length=1024:=by kernel_rfl
theorem kr0:(aR kv1).length≤eY kp0:=Hz (by kernel_rfl)
theorem ki0:nf kp0 (aR kv1)=(kp1,0,0):=Prod.ext rfl (by kernel_rfl)
theorem kr1:(aR kv2).length≤eY kp1:=Hz (by kernel_rfl)
theorem ki1:nf kp1 (aR kv2)=(kp2,1,0):=Prod.ext rfl (by kernel_rfl)
theorem kd1:aX kp1=(kp1,0):=yu (by kernel_rfl) (by kernel_rfl) (by kernel_rfl) (by kernel_rfl)
theorem kg2:bl kp2=true:=by kernel_rfl
theorem kd2:aX kp2=(kp2,0):=yu (by kernel_rfl) kg2 (by kernel_rfl) (by kernel_rfl)
theorem ks2:1<ae kp2:=Hz (by kernel_rfl)
theorem kz2:ar kp2 1≠0:=fun h=>by
 have:Nat.beq (ar kp2 1) 0=false:=by kernel_rfl
 rw [h] at this
 cases this
theorem ko2:ofV (aS kp2 1)=some kv2:=by kernel_rfl
theorem km1:iS kv1=true:=by kernel_rfl
theorem km2:iS kv2=true:=by kernel_rfl
theorem GE:Em Tryz.prog 30=some [(0,131072),(131072,1),(131073,1)]:=by kernel_rfl
theorem DG:Fnc Tryz.prog 8 [] H nx (fun q=>q.1 = .sc (.bool true)∧nx≤q.2.2∧ ∀ m,m<nx→q.2.1.at' m=H.at' m):=by
 refine JH Tryz.func8 rfl rfl ?_
 repeat first|refine cc (qk rfl BW GE vU) rfl rfl rfl ?_|apply aj;rfl
 have hb0:(H.set nx (cX zeroM (-1) 0)).at' nx=some (cX zeroM (-1) 0):=ah _ _ _
 have ho0: ∀ m,m<nx→(H.set nx (cX zeroM (-1) 0)).at' m=H.at' m:=fun m hm=>aa _ _ (by omega)
 refine cL (R:=fun H0 n0=>H0=H.set nx (cX zeroM (-1) 0)∧n0=nx+1) ⟨rfl,rfl⟩ ?_
 rintro H0 n0 ⟨hH0,rfl⟩
 rw [← hH0] at hb0 ho0
 clear hH0
 refine aL rfl rfl rfl (by kernel_rfl) (JG (rz (k:=⟨#[97]⟩) (x:=1) (Hz rfl)) ?_)
 rintro⟨s1,H1,n1⟩ ⟨a1,a2,a3⟩
 dsimp only at a1 a2 a3 ⊢
 refine aL rfl rfl rfl (by kernel_rfl) (JG (pJ (v:=kv1) (p:=kp0) (p':=kp1) (slot:=0) ((a3 nx (by omega)).trans hb0) ik a1 km1 kl0 (by decide) (by decide) (by decide) (by rw [yJ];exact yr) kr0 ki0 kl1) ?_)
 rintro⟨_,H2,n2⟩ ⟨rfl,b1,b2,b3⟩
 dsimp only at b1 b2 b3 ⊢
 have bo: ∀ m,m<nx→H2.at' m=H.at' m:=fun m hm=>(b3 m (by omega) (by omega)).trans ((a3 m (by omega)).trans (ho0 m hm))
 clear a1 a3 b3 hb0 ho0
 repeat first|apply aj;rfl|apply aG;rfl;(focus((repeat(exact ac));done));rfl
 refine aL rfl rfl rfl (by kernel_rfl) (JG (rz (k:=⟨#[98]⟩) (x:=2) (Hz rfl)) ?_)
 rintro⟨s2,H3,n3⟩ ⟨c1,c2,c3⟩
 dsimp only at c1 c2 c3 ⊢
 have cb:H3.at' nx=some (cX (gH zeroM 32 kp1) (-1-1) (0+1)):=(c3 nx (by omega)).trans (by(repeat(refine ab (by omega) ?_));exact b1)
 have ct:H3.at' n2=some (ez 32 0):=(c3 n2 (by omega)).trans (by repeat(exact ac))
 have co: ∀ m,m<nx→H3.at' m=H.at' m:=fun m hm=>(c3 m (by omega)).trans (by(repeat(refine ab (by omega) ?_));exact bo m hm)
 clear c3 b1 bo
 refine aW fun hund=>?_
 have hmem1:=lI (n:=32) ik (by decide) kl1
 refine aL rfl rfl rfl (by kernel_rfl) (JG (pJ (v:=kv2) (p:=kp1) (p':=kp2) (slot:=1) cb hmem1 c1 km2 kl1 (by decide) (by decide) (by decide) (by rw [uY ik (by decide) kl1];exact kd1) kr1 ki1 kl2) ?_)
 rintro⟨_,H4,n4⟩ ⟨rfl,d1,d2,d3⟩
 dsimp only at d1 d2 d3 ⊢
 have dt:H4.at' n2=some (ez 32 0):=(d3 n2 (by omega) (by omega)).trans ct
 have do': ∀ m,m<nx→H4.at' m=H.at' m:=fun m hm=>(d3 m (by omega) (by omega)).trans (co m hm)
 clear c1 cb ct co d3 hund
 repeat first|apply aj;rfl|apply aG;rfl;(focus((repeat(exact ac));done));rfl
 refine aL rfl rfl rfl (by kernel_rfl) (JG (DU (n:=32) (k:=1) (v:=kv2) (p:=kp2) (by(repeat(refine ab (by omega) ?_));exact d1) (lI hmem1 (by decide) kl2) kl2 (by decide) (by decide) (by rw [uY hmem1 (by decide) kl2];exact kd2) kg2 ks2 kz2 ko2) ?_)
 rintro⟨_,H5,n5⟩ ⟨s',r',rfl,⟨k0,w0,rfl,gk,gw⟩,e2,e3,e4⟩
 dsimp only at gk gw e2 e3 e4 ⊢
 have et:H5.at' n2=some (ez 32 0):=(e4 n2 (by omega)).trans (by(repeat(refine ab (by omega) ?_));exact dt)
 have eu:H5.at' n4=some (ez 32 1):=(e4 n4 (by omega)).trans (by repeat(exact ac))
 have eo: ∀ m,m<nx→H5.at' m=H.at' m:=fun m hm=>(e4 m (by omega)).trans (by(repeat(refine ab (by omega) ?_));exact do' m hm)
 clear e4 d1 dt do'
 refine aW fun hund=>?_
 have hr:r'<n5:=by
  rcases gk with ⟨_,h⟩|⟨o,C,_,vo,hv,_⟩
  ·cases h
  ·exact hund _ _ hv
 have hone: ∀ x y:Nat,bh (ew k0 w0 x y)=true:=fun x y=>by simp only [bh,cC gk.bs,cC gw.bs];rfl
 have hk: ∀ vo vo':VO,BsIs ((H5.set n5 vo).set n5 vo') k0 (u8L ⟨#[98]⟩):=fun vo vo'=>(gk.frame ((aa _ _ (by omega)).trans (aa _ _ (by omega)))).bs
 repeat first|refine dm rfl rfl rfl (F.sz _ rfl) (by repeat(first|assumption|exact ac)) rfl (by exact Hz rfl) (hone _ _) rfl ?_|apply nS (a:=(32,0)) (b:=(32,0)) (r:=true);rfl;rfl;rfl;rfl;(focus(decide))|apply nS (a:=(32,1)) (b:=(32,1)) (r:=true);rfl;rfl;rfl;rfl;(focus(decide))|apply aj;rfl|apply aG;rfl;(focus((repeat(first|assumption|exact ac|refine ab (by omega) ?_));done));rfl|apply dH;rfl;rfl|refine cc (lO (F.un _ rfl) (F.un _ rfl) (F.un _ rfl) rfl (hk _ _)) rfl rfl rfl ?_|apply uA (r:=true);rfl;rfl;rfl;rfl;(focus(decide))
 (apply bP Tryz.func8 Tryz.results8;rfl)
 exact⟨rfl,by dsimp only;omega,fun m hm=>(aa _ _ (by omega)).trans ((aa _ _ (by omega)).trans (eo m hm))⟩
theorem zm:Fnc Tryz.prog 8 [] H nx (fun q=>q=(.sc (.bool true),H,nx)):=Fnc.bu (Free.sc _) DG
theorem uz{ro:Option Nat}{fn nt i:Nat}{T:Tr SV}{k:List AIt}{dfs:List ADf}{Q:Pst}{ops:Array Oper}{l:List Oper}{ty:TypeId}{pos:String}{af:Array Edge}{gd:Option (Nat×Bool)}{x y:Operand}{yt:TypeId}{a:List UInt8}{dd:Nat}(hw:aF T ops ⟨some dd,.binOp .neq 27 x y yt,ty,pos,af,gd⟩=some true)(hd:Nat.blt dd nt=true)(hx:ak T x=some (.agg (pgS a)))(hy:ak T y=some (.agg (pgS a)))(ha:a.length=1024)
 (h:Wp Tryz.prog ro ⟨fn,nt,T.set dd (.sc (.bool false)),.inReg ops (i+1) l :: k,dfs,H,nx⟩ Q):Wp Tryz.prog ro ⟨fn,nt,T,.inReg ops i (⟨some dd,.binOp .neq 27 x y yt,ty,pos,af,gd⟩ :: l) :: k,dfs,H,nx⟩ Q:=by
 have hr:=yw (P:=Tryz.prog) (H:=H) (T:=T) (d:=some dd) (ty:=ty) (pos:=pos) (af:=af) (gd:=gd) (t:=27) (e:=5) (n:=1024) (k:= .u8) (x:=x) (y:=y) (yt:=yt) (xs:=a.map fun c=>(c.toNat:Int)) (ys:=a.map fun c=>(c.toNat:Int)) (F.un _ rfl) (by rfl) (by kernel_rfl) (F.un _ rfl) (by kernel_rfl) (by rw [Ji];exact ha) (by rw [Ji];exact ha) (hx.trans (by rw [qp])) (hy.trans (by rw [qp]))
 rw [Jw rfl] at hr
 exact cZ hw (.inr (fun _ h=>by cases h)) hr.does (by rw [aI hd];exact h)
theorem pC{n:Nat}(h:n<128):az zeroM n=zeroP:=by
 unfold az zeroM zeroP
 rw [List.drop_replicate,List.take_replicate,Nat.min_eq_left (by omega)]
theorem DN:Hv zeroM:=⟨ik,fun n h1 h2=> .inl (pC h2),fun n h=>pC (by omega)⟩
theorem Bu:dk zeroM=xx:=by
 unfold dk zeroM xx
 rw [List.drop_replicate]
theorem pz{k:Nat}(h:p[k]? =some 0):(pgS p).set k (.sc (.int .u8 0))=pgS p:=by
 have h1:p.set k 0=p:=by
  refine Jy fun j=>?_
  rw [List.getElem?_set]
  by_cases hj:k=j
  ·subst hj
   rw [Je rfl,Je (Hy.1 h).1,h]
  ·rw [Jd hj]
 have h2:=lG p k 0
 rw [h1] at h2
 exact h2
theorem s6(h:GoodP p){i:Nat}(hi:i<12):p[i]? =some 0:=by
 rcases h with rfl|h
 ·unfold zeroP
  rw [List.getElem?_replicate,Je (by omega)]
 ·exact h.bare i hi
theorem ud{r:Nat}{ro:Bool}{ls:List nP}(hr:H.at' r=some (Ee ro ls))(hls:ls.length≤9223372036854775807)(hacts: ∀ x∈ls,ActIs H x∧x.1.ver.1.length≤9223372036854775807∧x.1.ver.2.1.length≤9223372036854775807):Fnc Tryz.prog 4 [.slu r 0 ls.length] H nx (fun q=>q.1 = .sc (.bool true)):=by
 refine JH Tryz.func4 rfl rfl ?_
 refine aW fun hund=>?_
 have lr:=hund _ _ hr
 repeat first|apply aj;rfl|apply cw;rfl|apply bY;rfl;kernel_rfl;exact few_s hr hls hacts
 cases hf:Ct ls with
 | false=>
   repeat first|apply aj;rfl|apply bY;rfl;kernel_rfl;exact zm
   (apply bP Tryz.func4 Tryz.results4;rfl)
   rfl
 | true=>
   obtain⟨hf1,hf2⟩:=DZ hf
   repeat first|refine cc (op:=.build _ #[]) (cS CO) rfl rfl rfl ?_|refine cc (qk rfl BW GE vU) rfl rfl rfl ?_|apply aj;rfl
   refine cL (R:=fun HB nB=>nB=nx+1+1∧HB.at' nx=some (cX zeroM (-1) 0)∧HB.at' (nx+1)=some (hpO (dk zeroM))∧ ∀ m,m<nx→HB.at' m=H.at' m) ⟨rfl,by repeat(first|exact ac|refine ab (by omega) ?_),by rw [Bu];(focus((repeat(exact ac));done)),fun m hm=>by(repeat(refine ab (by omega) ?_));rfl⟩ ?_
   rintro HB nB ⟨rfl,s1,s2,s3⟩
   refine bv (α:=Nat×List UInt8×Int×Int) (fun x=> [(0,.slu r 0 ls.length),(3,.ptr nx 0),(4,.ptr (nx+1) 0),(5,.sc (.int .i64 (x.1:Int)))])
    (fun x H1 n1=>x.1≤ls.length∧Hv x.2.1∧(-1-96*(x.1:Int)≤x.2.2.1∧x.2.2.1 ≤ -1)∧(0≤x.2.2.2∧x.2.2.2≤96*(x.1:Int))∧nx+1+1≤n1∧H1.at' nx=some (cX x.2.1 x.2.2.1 x.2.2.2)∧H1.at' (nx+1)=some (hpO (dk x.2.1))∧ ∀ m,m<nx→H1.at' m=H.at' m) (fun x=>ls.length-x.1) (0,zeroM,-1,0)
    ⟨HT _,DN,⟨by decide,by decide⟩,⟨by decide,by decide⟩,HS _,s1,s2,s3⟩ (JN (JQ rfl)) ?_
   clear s1 s2 s3
   rintro⟨i,mem,left,puts⟩ H1 n1 ⟨i1,hv,⟨i2,i3⟩,⟨i4,i5⟩,i6,i7,i8,i9⟩ ih
   dsimp only at i1 hv i2 i3 i4 i5 i6 i7 i8 i9 ⊢
   have r1:H1.at' r=some (Ee ro ls):=(i9 r lr).trans hr
   repeat apply aj;rfl
   refine bi rfl rfl rfl rfl (fun h5=>?_) (fun h5=>?_)
   ·have hi:i<ls.length:=by omega
    have hok:Ae H1 n1 nx (nx+1) ls[i]:=fun H' hf'=>(hacts _ (Jc hi)).1.frame fun b vo hb=>by
     have:=hund b vo hb
     exact(hf' b (by omega) (by omega) (by omega)).trans ((i9 b this).trans hb)
    repeat first|refine dw (q:=i) rfl rfl rfl rfl (F.un _ rfl) (F.sz _ rfl) r1 (by omega) (by omega) (HS _) ?_|refine dG rfl rfl rfl (F.ag _ rfl) r1 (z7 hi) ?_|apply aj;rfl
    refine aL rfl rfl rfl (by kernel_rfl) (JG (do_s i7 i8 (by omega) hv hok ⟨by omega,by omega⟩ ⟨by omega,by omega⟩) ?_)
    rintro⟨_,H2,n2⟩ ⟨hq,mem',left',puts',d1,d2,hv',⟨d3,d4⟩,⟨d5,d6⟩,d7,d8,_⟩
    dsimp only at hq d1 d2 d7 d8 ⊢
    subst hq
    obtain⟨rows,hal,hrl,hrn⟩:=iE hv'
    have hdoc:pW (dfH (dk mem'))=some rows:=(kG fun n a b=>fh hv' a b).trans hal
    have d9: ∀ m,m<nx→H2.at' m=H.at' m:=fun m hm=>(d8 m (by omega) (by omega) (by omega)).trans (i9 m hm)
    clear i7 i8 i9 r1 d8 hok
    repeat apply aj;rfl
    refine aL rfl rfl rfl (by kernel_rfl) (JG (mV (hm:=dk mem') (by exact d2) (dh hv'.len)) ?_)
    rintro⟨_,H3,n3⟩ ⟨u1,u2,⟨u3,_⟩|⟨rows',s,rr,u3,rfl,u4⟩⟩
    ·rw [hdoc] at u3
     cases u3
    rw [hdoc] at u3
    cases u3
    dsimp only at u1 u2 u4 ⊢
    have hone1:=u4.len
    repeat apply aj;rfl
    refine aL rfl rfl rfl (by kernel_rfl) (JG (all_g (b:=nx) (mem:=mem') (left:=left') (puts:=puts') ((u2 _ (by omega)).trans d1) hv'.len) ?_)
    rintro⟨_,H4,n4⟩ ⟨w1,w2,⟨w3,_⟩|⟨rows',s',rr',w3,rfl,w4⟩⟩
    ·rw [hal] at w3
     cases w3
    rw [hal] at w3
    cases w3
    dsimp only at w1 w2 w4 ⊢
    have u5:RowsAt H4 (fun m=>m<n3) rr s rows:=u4.grow fun m hm=>⟨hm.2,w2 m hm.2⟩
    have hsm:=fun(nx:Nat)=>ye (nx:=nx) w4 u5 (by omega)
    repeat first|apply dH;rfl;rfl|apply bY;rfl;kernel_rfl;exact hsm _|apply aj;rfl
    have z1:H4.at' nx=some (cX mem' left' puts'):=(w2 _ (by omega)).trans ((u2 _ (by omega)).trans d1)
    have z2:H4.at' (nx+1)=some (hpO (dk mem')):=(w2 _ (by omega)).trans ((u2 _ (by omega)).trans d2)
    have z3: ∀ m,m<nx→H4.at' m=H.at' m:=fun m hm=>(w2 _ (by omega)).trans ((u2 _ (by omega)).trans (d9 m hm))
    refine bv (α:=Nat) (fun n=> [(0,.slu r 0 ls.length),(3,.ptr nx 0),(4,.ptr (nx+1) 0),(5,.sc (.int .i64 (i:Int))),(10,.sc (.int .i64 (n:Int)))])
     (fun n H5 n5=>n≤128∧nx+1+1≤n5∧H5.at' nx=some (cX mem' left' puts')∧H5.at' (nx+1)=some (hpO (dk mem'))∧ ∀ m,m<nx→H5.at' m=H.at' m) (fun n=>128-n) 0
     ⟨HT _,by omega,z1,z2,z3⟩ (JN (JQ rfl)) ?_
    clear z1 z2 z3 u1 u2 u4 u5 w1 w2 w4 hsm d1 d2 d9 hdoc hal hrl hrn
    rintro n H5 n5 ⟨j1,j2,j3,j4,j5⟩ ih2
    repeat apply aj;rfl
    refine bi rfl rfl rfl rfl (fun h6=>?_) (fun h6=>?_)
    ·have hn:n<128:=by omega
     have hc:=rW hv'.len hn left' puts'
     have hpl:=dx hv'.len hn
     repeat apply aj;rfl
     refine er rfl rfl rfl rfl (fun h7=>?_) (fun h7=>?_)
     ·have h32:32≤n:=by omega
      have hgp:=hv'.good n h32 hn
      have hc2:=vL (hm:=dk mem') (dh hv'.len) (n:=n-32) (by omega)
      rw [sR h32] at hc2
      generalize az mem' n=p at hc hpl hgp hc2
      repeat first|refine aY rfl rfl ce ?_|refine dG rfl rfl rfl (F.ag _ rfl) j3 hc ?_|apply eR (q:=n);rfl;rfl;rfl;rfl;exact(F.un _ rfl);exact(F.sz _ rfl);(focus(omega));(focus(omega))|apply bC hpl ai;rfl;(focus((repeat(exact ac));done))|apply aj;rfl
      refine bv (α:=Nat) (fun k=> [(0,.slu r 0 ls.length),(3,.ptr nx 0),(4,.ptr (nx+1) 0),(5,.sc (.int .i64 (i:Int))),(10,.sc (.int .i64 (n:Int))),(11,.ptr n5 0),(12,.sc (.int .i64 (k:Int)))])
       (fun k H6 n6=>k≤12∧n6=n5+1∧H6.at' n5=some (pgO p)∧ ∀ m,m<n5→H6.at' m=H5.at' m) (fun k=>12-k) 0
       ⟨HT _,rfl,by repeat(exact ac),fun m hm=>by(repeat(refine ab (by omega) ?_));rfl⟩ (JN (JQ rfl)) ?_
      rintro k H6 n6 ⟨b1,rfl,b2,b3⟩ ihk
      repeat apply aj;rfl
      refine bi rfl rfl rfl rfl (fun h8=>?_) (fun h8=>?_)
      ·have hk0:=s6 hgp (i:=k) (by omega)
       have hs0:=pz hk0
       repeat first|apply aj;rfl|apply eR (q:=k);rfl;rfl;rfl;rfl;exact(F.un _ rfl);exact(F.sz _ rfl);(focus(omega));(focus(omega))
       rw [show 0+k*1=k by omega]
       refine dg (cs:=pgS p) rfl rfl rfl (F.sz _ rfl) b2 rfl (HG (by rw [be hpl];omega)) ?_
       rw [hs0]
       repeat first|apply aj;rfl|apply aK;rfl;omega;omega
       refine cL (R:=fun HE nE=>nE=n5+1∧HE.at' n5=some (pgO p)∧ ∀ m,m<n5→HE.at' m=H6.at' m) ⟨rfl,by repeat(exact ac),fun m hm=>by(repeat(refine ab (by omega) ?_));rfl⟩ ?_
       rintro HE nE ⟨rfl,e1,e2⟩
       exact ihk _ _ _ (k+1) ⟨by omega,rfl,e1,fun m hm=>(e2 m hm).trans (b3 m hm)⟩ (by omega) (JN (JQ rfl))
      ·repeat first|apply aj;rfl|apply aK;rfl;omega;omega
       rw [show(n:Int)-32=((n-32:Nat):Int) by omega]
       have c4:H6.at' (nx+1)=some (hpO (dk mem')):=(b3 _ (by omega)).trans j4
       repeat first|refine aY rfl rfl ce ?_|refine dG rfl rfl rfl (F.ag _ rfl) c4 hc2 ?_|apply eR (q:=(n-32));rfl;rfl;rfl;rfl;exact(F.un _ rfl);exact(F.sz _ rfl);(focus(omega));(focus(omega))|apply bC hpl ai;rfl;(focus((repeat(exact ac));done))|apply aj;rfl
       refine cL (R:=fun HD nD=>nD=n5+1+1∧HD.at' (n5+1)=some (pgO p)∧ ∀ m,m<n5+1→HD.at' m=H6.at' m) ⟨rfl,by repeat(exact ac),fun m hm=>by(repeat(refine ab (by omega) ?_));rfl⟩ ?_
       rintro HD nD ⟨rfl,x1,x2⟩
       refine bv (α:=Nat) (fun k=> [(0,.slu r 0 ls.length),(3,.ptr nx 0),(4,.ptr (nx+1) 0),(5,.sc (.int .i64 (i:Int))),(10,.sc (.int .i64 (n:Int))),(11,.ptr n5 0),(13,.ptr (n5+1) 0),(14,.sc (.int .i64 (k:Int)))])
        (fun k H7 n7=>k≤12∧n7=n5+1+1∧H7.at' (n5+1)=some (pgO p)∧ ∀ m,m<n5+1→H7.at' m=HD.at' m) (fun k=>12-k) 0
        ⟨HT _,rfl,x1,fun m hm=>rfl⟩ (JN (JQ rfl)) ?_
       rintro k2 H7 n7 ⟨y1,rfl,y2,y3⟩ ihk2
       repeat apply aj;rfl
       refine bi rfl rfl rfl rfl (fun h9=>?_) (fun h9=>?_)
       ·have hk0:=s6 hgp (i:=k2) (by omega)
        have hs0:=pz hk0
        repeat first|apply aj;rfl|apply eR (q:=k2);rfl;rfl;rfl;rfl;exact(F.un _ rfl);exact(F.sz _ rfl);(focus(omega));(focus(omega))
        rw [show 0+k2*1=k2 by omega]
        refine dg (cs:=pgS p) rfl rfl rfl (F.sz _ rfl) y2 rfl (HG (by rw [be hpl];omega)) ?_
        rw [hs0]
        repeat first|apply aj;rfl|apply aK;rfl;omega;omega
        refine cL (R:=fun HE nE=>nE=n5+1+1∧HE.at' (n5+1)=some (pgO p)∧ ∀ m,m<n5+1→HE.at' m=H7.at' m) ⟨rfl,by repeat(exact ac),fun m hm=>by(repeat(refine ab (by omega) ?_));rfl⟩ ?_
        rintro HE nE ⟨rfl,e1,e2⟩
        exact ihk2 _ _ _ (k2+1) ⟨by omega,rfl,e1,fun m hm=>(e2 m hm).trans (y3 m hm)⟩ (by omega) (JN (JQ rfl))
       ·have v1:H7.at' n5=some (pgO p):=(y3 _ (by omega)).trans ((x2 _ (by omega)).trans b2)
        repeat first|apply bq hpl;rfl;assumption|refine uz rfl rfl rfl rfl hpl ?_|apply aj;rfl|apply aK;rfl;omega;omega
        have v2: ∀ m,m<n5→H7.at' m=H5.at' m:=fun m hm=>(y3 _ (by omega)).trans ((x2 _ (by omega)).trans (b3 m hm))
        exact ih2 _ _ _ (n+1) ⟨by omega,by omega,(v2 _ (by omega)).trans j3,(v2 _ (by omega)).trans j4,fun m hm=>(v2 _ (by omega)).trans (j5 m hm)⟩ (by omega) (JN (JQ rfl))
     ·rw [hv'.low n (by omega)] at hc
      repeat first|refine dG rfl rfl rfl (F.ag _ rfl) j3 hc ?_|apply eR (q:=n);rfl;rfl;rfl;rfl;exact(F.un _ rfl);exact(F.sz _ rfl);(focus(omega));(focus(omega))|refine cc (cS gE) rfl rfl rfl ?_|refine uz rfl rfl rfl rfl ai ?_|apply aj;rfl|apply aK;rfl;omega;omega
      exact ih2 _ _ _ (n+1) ⟨by omega,j2,j3,j4,j5⟩ (by omega) (JN (JQ rfl))
    ·repeat first|apply aj;rfl|apply aK;rfl;omega;omega
     exact ih _ _ _ (i+1,mem',left',puts') ⟨hi,hv',⟨by dsimp only;omega,by dsimp only;omega⟩,⟨by dsimp only;omega,by dsimp only;omega⟩,j2,j3,j4,j5⟩ (by dsimp only;omega) (JN (JQ rfl))
   ·repeat first|apply aj;rfl|apply bY;rfl;kernel_rfl;exact zm
    (apply bP Tryz.func4 Tryz.results4;rfl)
    rfl
end
end Go.Proofs.YtnhmbonmlfeifaaGreat
end
section
namespace Go.Sl
open Go Go.RowKit Go.WideShapes Go.ChangeShapes
theorem post_new{H:Type}{enc:TypeId×Value→H}{P:Program}{f:Func}{s:ChangeSpec}{apart fresh handsOn again:Bool}{W W':World}{args:Array Value}{v:Value}{ds gs:List (DataW H)}{before pa pv:List MemPlace}
 (hW:DataW.Whole enc P f.params.toList s.vars apart W args.toList ds gs before) (hb:Below W.heap.size W W') (hps:before=pa ++ pv)
 (hres: ∀ (b:Nat) (sp:Nat→Bool) (hd:Bool),DataW.TrodAll enc P W' b sp hd f.resultTypes.toList (v.resultList f.resultTypes.size) (s.fn H (ds ++ gs)).results [])
 (hargs: ∀ sp:Nat→Bool,(∀ p∈before,sp p.block=true)→DataW.TrodAll enc P W' 0 sp true f.params.toList args.toList (s.fn H (ds ++ gs)).args pa)
 (hvars: ∀ sp:Nat→Bool,(∀ p∈before,sp p.block=true)→DataW.TrodVars enc P W' sp s.vars (s.fn H (ds ++ gs)).vars pv)
 (hok: ∀ (j:Nat) (t:TypeId) (r:Value),f.resultTypes[j]? =some t→(v.resultList f.resultTypes.size)[j]? =some r→Value.okWide P W' .any 0 t r) :
 s.post enc P f apart fresh handsOn again W args v W':=by
 have hsp: ∀ p∈before,(fun b=>decide (b<W.heap.size)) p.block=true:=fun p hp=>by simpa using hW.lt p hp
 have hmem: ∀ p,p∈pa ++ pv↔p∈before:=fun p=>by rw [hps]
 refine⟨ds,gs,before,[],pa,pv,hW,hres _ _ _,hargs _ hsp,hvars _ hsp,World.keptBut_mono (fun p hp=>⟨hp,?_⟩) (hb.frame (·∈before)),fun _=>?_⟩
 ·have:=(hmem p).2 hp
  rw [List.mem_append] at this
  exact .inr this
 obtain⟨_,_,_,_,_,hz,hn⟩:=id hW
 refine⟨hok,_,_,([] ++ pa) ++ pv,⟨[] ++ pa,pv,trodAll_append (hargs _ (fun _ _=>rfl)) (hres _ _ _),hvars _ (fun _ _=>rfl),rfl,fun b off hp=>?_,fun ha=>?_⟩,fun p hp _=>?_⟩
 ·have hin:MemPlace.cell b off∈before:=(hmem _).1 (by simpa using hp)
  rw [hb.frozen (hW.lt _ hin)]
  exact hz b off hin
 ·have:=hn ha
  rw [hps] at this
  simpa using this
 ·exact(hmem p).1 (by simpa using hp)
end Go.Sl
end
section
namespace Go.Sy
open Go Go.Sl Go.RowKit Go.WideShapes
section
variable {sz:Nat}{A:Type}{v:Value}{w:World}{f:A→List Value}
theorem yh(p:Program)(fits:TypeId→Bool)(d:Nat)(e:TypeId)(count off n:Nat)(h:rowAt p fits d e count off n=true):off≤count*p.cellsOf e:=by
 cases d with
 | zero=>simp [rowAt] at h
 | succ d=>
   unfold rowAt at h
   simp only at h
   split at h
   ·cases h
   ·rename_i hs
    have hdiv:=Nat.div_add_mod off (p.cellsOf e)
    rw [Bool.or_eq_true] at h
    rcases h with h|h
    ·simp only [HR,beq_iff_eq,JE] at h
     obtain⟨⟨h1,h2⟩,_⟩:=h
     have:p.cellsOf e*(off / p.cellsOf e)≤p.cellsOf e*count:=Nat.mul_le_mul_left _ (by omega)
     rw [Nat.mul_comm count]
     omega
    ·rw [HR,JE] at h
     have hm:=Nat.mod_lt off (Nat.pos_of_ne_zero hs)
     have:p.cellsOf e*(off / p.cellsOf e+1)≤p.cellsOf e*count:=Nat.mul_le_mul_left _ (by omega)
     rw [Nat.mul_add,Nat.mul_one] at this
     rw [Nat.mul_comm count]
     omega
theorem pH(p:Program): ∀ (d:Nat) (e:TypeId) (count off:Nat) (u:TypeId) (n:Nat),liesAt p d e count off u n=true→off≤count*p.cellsOf e
 | 0,_,_,_,_,_,h=>by simp [liesAt] at h
 | d+1,e,count,off,u,n,h=>by
   unfold liesAt at h
   rw [Bool.or_eq_true] at h
   rcases h with h|h
   ·exact yh p _ _ e count off n h
   ·split at h
    ·exact pH p d e count off _ _ h
    ·cases h
theorem mH{f:Nat→Option A}: ∀ {n:Nat} {l:List A},(List.range n).mapM f=some l→l.length=n∧ ∀ i,i<n→f i=l[i]? :=by
 intro n
 induction n with
 | zero=>intro l h;simp at h;subst h;exact⟨rfl,fun i hi=>by omega⟩
 | succ n ih=>
   intro l h
   rw [List.range_succ,List.mapM_append] at h
   simp only [Option.bind_eq_bind,Option.bind_eq_some_iff] at h
   obtain⟨a,ha,b,hb,hl⟩:=h
   obtain⟨h1,h2⟩:=ih ha
   cases hf:f n with
   | none=>simp [hf] at hb
   | some x=>
     simp [hf] at hb
     subst hb
     simp at hl
     subst hl
     refine⟨by simp [h1],fun i hi=>?_⟩
     rcases Jg i n with h|h
     ·rw [HP (by omega)];exact h2 i h
     ·obtain rfl:i=n:=by omega
      rw [hf,Jn (by omega),h1]
      simp
theorem yb{b0:Nat}{H:Type}{enc:TypeId×Value→H}{P:Program}{t e:TypeId}{dd:DataW H}{p:List MemPlace}(ht:P.underlying t=some (.slice e))(hc:P.cellsOf e=sz)(h0:0<sz)
 (hT:DataW.Trod enc P w 0 (fun _=>true) true t v dd p) (hok:Value.okWide P w .any b0 t v) :
 (v = .slice none 0 0)∨ ∃ (b o len cap:Nat) (cs:Array Value) (tt:TypeId) (fz:Nat×Nat),v = .slice (some ⟨b,o,none⟩) len cap∧w.heap[b]? =some (.cells cs tt fz)∧len≤cap∧cap≤maxLen∧o+cap*sz≤cs.size ∧
   ∀ i,i<len→ ∃ us:List Value,us.length=sz∧(∀ j,j<sz→cs[o+i*sz+j]? =us[j]?)∧ ∃ n y,DataW.trod enc P w 0 (fun _=>true) true n e us=some y:=by
 obtain⟨fuel,hT⟩:=hT
 obtain⟨a0,len0,cap0,rfl⟩:=okWide_slice ht hok
 have hcells:(Value.slice a0 len0 cap0).cells.toList= [.slice a0 len0 cap0]:=rfl
 rw [hcells] at hT
 rcases DataW.trod_slice ht hT with ⟨h1,_⟩|⟨a,len,cap,elems,rest,n,_,h1,_,_,h3,h4,h5,h6,h7,_⟩
 ·left
  simpa using h1
 ·right
  simp only [List.cons.injEq,and_true,Value.slice.injEq] at h1
  obtain⟨rfl,rfl,rfl⟩:=h1
  unfold Value.okWide at hok
  rw [ht] at hok
  simp only at hok
  unfold Cell.okWide at hok
  rw [ht] at hok
  simp only at hok
  unfold Cell.ok at hok
  rw [ht] at hok
  simp only at hok
  obtain⟨_,_,_,hsp,row,cells,hsh,hli⟩:=hok
  obtain⟨b,o,sp⟩:=a
  simp only at hsp hsh hli h6 h7
  subst hsp
  unfold World.shape? at hsh
  cases hob:w.heap[b]? with
  | none=>rw [hob] at hsh;cases hsh
  | some ob=>
    rw [hob] at hsh
    cases ob with
    | cells cs tt fz=>
      simp only [Ht,HH] at hsh
      obtain⟨rfl,rfl⟩:=hsh
      have hoff:=pH P _ _ _ _ _ _ hli
      have hoff2:o≤cs.size:=Ja hoff (Nat.div_mul_le_self _ _)
      have hcell: ∀ q:Nat,w.cell? ⟨b,q,none⟩=cs[q]? :=fun q=>by simp [World.cell?,hob]
      have hget: ∀ (q:Nat) (us:List Value),w.cells? 0 ((⟨b,o,none⟩:Addr).add (q*P.cellsOf e)) (P.cellsOf e)=some us→us.length=sz∧ ∀ j,j<sz→cs[o+q*sz+j]? =us[j]? :=by
       intro q us hus
       rw [add_plain] at hus
       unfold World.cells? at hus
       rw [Je (HT _)] at hus
       obtain⟨g1,g2⟩:=mH hus
       rw [hc] at g1 g2 hus
       refine⟨g1,fun j hj=>?_⟩
       have:=g2 j hj
       rw [add_plain,hcell] at this
       exact this
      refine⟨b,o,len0,cap0,cs,tt,fz,rfl,hob,h3,h4,?_,fun i hi=>?_⟩
      ·rcases Nat.eq_zero_or_pos cap0 with hz|hz
       ·subst hz;simpa using hoff2
       ·have hlast: ∃ us,w.cells? 0 ((⟨b,o,none⟩:Addr).add ((cap0-1)*P.cellsOf e)) (P.cellsOf e)=some us:=by
         rcases Jg (cap0-1) len0 with hl|hl
         ·have h8:=h6 (cap0-1) hl
          rw [Hx (by omega)] at h8
          cases hcs:w.cells? 0 ((⟨b,o,none⟩:Addr).add ((cap0-1)*P.cellsOf e)) (P.cellsOf e)with
          | none=>rw [hcs] at h8;cases h8
          | some us=>exact⟨us,rfl⟩
         ·obtain⟨h9,h10⟩:=h7 trivial
          have h8:=h10 (cap0-1-len0) (by omega)
          rw [Hx (by omega),show len0+(cap0-1-len0)=cap0-1 by omega] at h8
          cases hcs:w.cells? 0 ((⟨b,o,none⟩:Addr).add ((cap0-1)*P.cellsOf e)) (P.cellsOf e)with
          | none=>rw [hcs] at h8;cases h8
          | some us=>exact⟨us,rfl⟩
        obtain⟨us,hus⟩:=hlast
        obtain⟨g1,g2⟩:=hget _ _ hus
        have g3:=g2 (sz-1) (by omega)
        rw [Hx (show sz-1<us.length by omega)] at g3
        have g4:=(HJ.1 g3).1
        have:cap0*sz=(cap0-1)*sz+sz:=by
         conv=>lhs;rw [show cap0=cap0-1+1 by omega,Nat.add_mul,Nat.one_mul]
        omega
      ·have h8:=h6 i hi
       rw [Hx (by omega)] at h8
       cases hcs:w.cells? 0 ((⟨b,o,none⟩:Addr).add (i*P.cellsOf e)) (P.cellsOf e)with
       | none=>rw [hcs] at h8;cases h8
       | some us=>
         rw [hcs] at h8
         simp only [HZ] at h8
         obtain⟨g1,g2⟩:=hget _ _ hcs
         exact⟨us,g1,g2,n,_,h8⟩
    | _=>cases hsh
def gX(w:World):Zone:=⟨fun j=>j<w.heap.size,fun j=>j<w.heap.size,fun _ h=>h⟩
theorem zn(w:World):Kept (gX w) w w:=⟨rfl,rfl,rfl,HS _,fun _ h=>h,fun _ _=>rfl⟩
theorem BD{w0:World}(h:Kept (gX w0) w0 w):Below w0.heap.size w0 w:=⟨h.os,h.tape,h.output,h.size,fun j hj=>h.block j hj⟩
def gS(sz:Nat):Value→Ent
 | .slice (some a) _ cap=>⟨a.block,a.off,cap,sz,false⟩
 | _=>⟨0,0,0,sz,true⟩
def ArgRow{A:Type}(w:World)(sz:Nat)(f:A→List Value)(v:Value)(l:List A):Prop:=
 (v = .slice none 0 0∧l= [])∨ ∃ (b o len cap:Nat) (cs:Array Value) (tt:TypeId) (fz:Nat×Nat),v = .slice (some ⟨b,o,none⟩) len cap∧w.heap[b]? =some (.cells cs tt fz)∧len=l.length∧len≤cap∧cap≤maxLen∧o+cap*sz≤cs.size ∧
   ∀ i c,l[i]? =some c→ ∀ j,j<sz→cs[o+i*sz+j]? =(f c)[j]?
theorem z6{b0:Nat}{H:Type}{enc:TypeId×Value→H}{P:Program}{t e:TypeId}{dd:DataW H}{p:List MemPlace}(ht:P.underlying t=some (.slice e))(hc:P.cellsOf e=sz)(h0:0<sz)
 (hT:DataW.Trod enc P w 0 (fun _=>true) true t v dd p) (hok:Value.okWide P w .any b0 t v) (hf: ∀ n us y,DataW.trod enc P w 0 (fun _=>true) true n e us=some y→ ∃ a,us=f a): ∃ l:List A,ArgRow w sz f v l:=by
 rcases yb ht hc h0 hT hok with h|⟨b,o,len,cap,cs,tt,fz,h1,h2,h3,h4,h5,h6⟩
 ·exact⟨[],.inl ⟨h,rfl⟩⟩
 ·have hex: ∀ i,i<len→ ∃ a:A,∀ j,j<sz→cs[o+i*sz+j]? =(f a)[j]? :=by
   intro i hi
   obtain⟨us,g1,g2,n,y,g3⟩:=h6 i hi
   obtain⟨a,rfl⟩:=hf n us y g3
   exact⟨a,g2⟩
  refine⟨(List.range len).attach.map (fun i=>Classical.choose (hex i.1 (Jz.1 i.2))),.inr ⟨b,o,len,cap,cs,tt,fz,h1,h2,by simp,h3,h4,h5,?_⟩⟩
  intro i c hi j hj
  rw [Ju] at hi
  obtain⟨q,hq,rfl⟩:=HI.1 hi
  have hq1:q.1=i:=by
   obtain⟨hlt,hh⟩:=Hy.1 hq
   rw [← hh]
   simp
  have:=Classical.choose_spec (hex q.1 (Jz.1 q.2)) j hj
  rw [← hq1]
  exact this
theorem ArgRow.conc{l:List A}(h:ArgRow w sz f v l){e:Env}{b:Nat}(he:e b=some (gS sz v)):(SV.slu b 0 l.length).conc e=some v:=by
 rcases h with ⟨rfl,rfl⟩|⟨b',o,len,cap,cs,tt,fz,rfl,h2,rfl,h3,h4,h5,h6⟩
 ·simp [SV.conc,he,gS,Ent.at]
 ·simp [SV.conc,he,gS,Ent.at]
theorem vS{A:Type}{f:A→List Value}{sz:Nat}(hf: ∀ a,(f a).length=sz): ∀ (l:List A) (i j:Nat),j<sz→(l.flatMap f)[i*sz+j]? =(l[i]?).bind (fun c=>(f c)[j]?)
 | [],i,j,_=>by simp
 | a :: l,0,j,hj=>by
   rw [List.flatMap_cons,HP (by rw [hf];omega)]
   simp
 | a :: l,i+1,j,hj=>by
   rw [List.flatMap_cons,Jn (by rw [hf,Nat.add_mul];omega),hf,show(i+1)*sz+j-sz=i*sz+j by rw [Nat.add_mul];omega,vS hf l i j hj]
   simp
theorem ArgRow.lies{l:List A}(h:ArgRow w sz f v l)(hf: ∀ a,(f a).length=sz)(h0:0<sz)(rt:TypeId)(e:Env):Lies (gX w) w e (dat true l.length sz rt (l.flatMap f)) (gS sz v):=by
 rcases h with ⟨rfl,rfl⟩|⟨b,o,len,cap,cs,tt,fz,rfl,h2,rfl,h3,h4,h5,h6⟩
 ·exact .inr ⟨rfl,rfl,true,rt,_,rfl,h0⟩
 ·refine .inl ⟨rfl,.cells cs tt fz,⟨fun _=>fx h2,fun h=>by cases h⟩,h2,rfl,cs,fz,tt,rfl,h3,h5,h4,(fun h=>by cases h),h0,fun i hi s hs=>?_⟩
  have hs':((l.flatMap f)[i]?).map SV.sc=some s:=hs
  obtain⟨u,hu,rfl⟩:=HI.1 hs'
  refine⟨u,rfl,?_⟩
  have hdm:=Nat.div_add_mod i sz
  have hm:=Nat.mod_lt i h0
  have e1:i=i / sz*sz+i % sz:=by rw [Nat.mul_comm];omega
  rw [e1,vS hf l _ _ hm] at hu
  obtain⟨c,hc,hcu⟩:=Option.bind_eq_some_iff.1 hu
  have:=h6 (i / sz) c hc (i % sz) hm
  show cs[o+i]? =some u
  rw [e1,←Nat.add_assoc,this]
  exact hcu
theorem St.init{e:Env}{H:au}{nx:Nat}(h1: ∀ id vo,H.at' id=some vo→vo.ro=true∧ ∃ x,e id=some x∧Lies (gX w) w e vo x)(h2: ∀ i,nx≤i→e i=none):St (gX w) w e H nx w:=
 ⟨zn w,fun id vo h=>(h1 id vo h).2,fun id id' vo vo' x x' h _ _ _ _ _ _ hr _=>by(rw [(h1 id vo h).1] at hr;cases hr),h2⟩
end
end Go.Sy
end
section
namespace Go.Proofs.YtnhmbonmlfeifaaGreat
open Go Go.Sy Go.ChangeShapes Go.WideShapes Go.ChangeAt Go.RowKit
section
variable {H:Type} {enc:TypeId×Value→H} {P:Program} {w:World} {base:Nat} {sp:Nat→Bool} {held:Bool} {n:Nat} {t:TypeId} {cs:List Value} {y:DataW H×List MemPlace}
theorem ft{k:IntKind}(hu:P.underlying t=some (.int k))(h:DataW.trod enc P w base sp held n t cs=some y): ∃ x,cs= [.int k x]∧(Lit.int k x).wf=true:=by
 cases n with
 | zero=>simp [DataW.trod] at h
 | succ n=>
   unfold DataW.trod at h
   rw [hu] at h
   split at h <;> simp_all
end
theorem own:ownKnob Tryz.prog.godebug=none:=by kernel_rfl
theorem laidH:laidOutB Tryz.prog=true:=by kernel_rfl
abbrev bV:UInt8→List Value:=fun c=> [.int .u8 (c.toNat:Int)]
theorem C2{H:Type}{enc:TypeId×Value→H}{w:World}{n:Nat}{us:List Value}{y:DataW H×List MemPlace}(h:DataW.trod enc Tryz.prog w 0 (fun _=>true) true n 5 us=some y): ∃ c:UInt8,us=bV c:=by
 obtain⟨x,rfl,hx⟩:=ft (F.un 5 rfl) h
 have hx:0≤x∧x≤255:=by
  simpa [Lit.wf,IntKind.has,IntKind.min,IntKind.max,show IntKind.u8.signed=false from rfl,show IntKind.u8.bits=8 from rfl] using hx
 refine⟨UInt8.ofNat x.toNat,?_⟩
 have:((UInt8.ofNat x.toNat).toNat:Int)=x:=by
  rw [UInt8.toNat_ofNat']
  omega
 show [Value.int .u8 x]= [Value.int .u8 ((UInt8.ofNat x.toNat).toNat:Int)]
 rw [this]
theorem p8{H:Type}{enc:TypeId×Value→H}{w:World}{n:Nat}{us:List Value}{y:DataW H×List MemPlace}(h:DataW.trod enc Tryz.prog w 0 (fun _=>true) true n 36 us=some y): ∃ c:Nat,us= [.int .u64 (c:Int)]:=by
 obtain⟨x,rfl,hx⟩:=ft (F.un 36 rfl) h
 have hx:0≤x:=by
  simp only [Lit.wf,IntKind.has,IntKind.min,show IntKind.u64.signed=false from rfl,HR,JE] at hx
  first|exact hx.1|(simp at hx;omega)
 exact⟨x.toNat,by rw [Int.toNat_of_nonneg hx]⟩
theorem uVer:Tryz.prog.underlying 38=some (.struct (Tryz.prog.fieldsOf 38)):=by kernel_rfl
theorem fVer:(Tryz.prog.fieldsOf 38).toList.map (fun f=>(f.type,f.offset))= [(35,0),(35,1),(36,2),(36,3)]:=by kernel_rfl
end Go.Proofs.YtnhmbonmlfeifaaGreat
end
section
namespace Go.Sy
open Go Go.Sl Go.RowKit Go.WideShapes
section
variable {sz:Nat}{w:World}
theorem AB{H:Type}{enc:TypeId×Value→H}{P:Program}{t e:TypeId}{n:Nat}{v:Value}{y:DataW H×List MemPlace}(ht:P.underlying t=some (.slice e))(hc:P.cellsOf e=sz)(h0:0<sz)
 (hT:DataW.trod enc P w 0 (fun _=>true) true n t [v]=some y) :
 (∃ a c,v = .slice a 0 c)∨ ∃ (b o len cap:Nat) (cs:Array Value) (tt:TypeId) (fz:Nat×Nat),v = .slice (some ⟨b,o,none⟩) len cap∧0<len∧w.heap[b]? =some (.cells cs tt fz)∧len≤cap∧cap≤maxLen∧o+cap*sz≤cs.size ∧
   ∀ i,i<len→ ∃ us:List Value,us.length=sz∧(∀ j,j<sz→cs[o+i*sz+j]? =us[j]?)∧ ∃ n y,DataW.trod enc P w 0 (fun _=>true) true n e us=some y:=by
 rcases DataW.trod_slice ht hT with ⟨h1,_⟩|⟨a,len,cap,elems,rest,n,_,h1,_,_,h3,h4,h5,h6,h7,_⟩
 ·simp only [List.cons.injEq,and_true] at h1
  exact .inl ⟨none,0,h1⟩
 ·simp only [List.cons.injEq,and_true] at h1
  subst h1
  rcases Nat.eq_zero_or_pos len with hz|hpos
  ·subst hz
   exact .inl ⟨some a,cap,rfl⟩
  ·right
   have h8:=h6 0 hpos
   rw [Hx (by omega)] at h8
   obtain⟨b,o,sp⟩:=a
   cases hcs:w.cells? 0 ((⟨b,o,sp⟩:Addr).add (0*P.cellsOf e)) (P.cellsOf e)with
   | none=>rw [hcs] at h8;cases h8
   | some us=>
     unfold World.cells? at hcs
     rw [Je (HT _)] at hcs
     obtain⟨g1,g2⟩:=mH hcs
     have g3:=g2 0 (by omega)
     rw [Hx (show 0<us.length by omega)] at g3
     have ha:((⟨b,o,sp⟩:Addr).add (0*P.cellsOf e)).add 0=⟨b,o,sp⟩:=by simp [Addr.add]
     rw [ha] at g3
     unfold World.cell? at g3
     cases hob:w.heap[b]? with
     | none=>simp only [hob] at g3;cases g3
     | some ob=>
       simp only [hob] at g3
       cases ob with
       | cells cs tt fz=>
         simp only at g3
         have hsp:sp=none:=by
          cases sp with
          | none=>rfl
          | some s=>simp at g3
         subst hsp
         have hcell: ∀ q:Nat,w.cell? ⟨b,q,none⟩=cs[q]? :=fun q=>by simp [World.cell?,hob]
         have hget: ∀ (q:Nat) (us:List Value),w.cells? 0 ((⟨b,o,none⟩:Addr).add (q*P.cellsOf e)) (P.cellsOf e)=some us→us.length=sz∧ ∀ j,j<sz→cs[o+q*sz+j]? =us[j]? :=by
          intro q us hus
          rw [add_plain] at hus
          unfold World.cells? at hus
          rw [Je (HT _)] at hus
          obtain⟨g1,g2⟩:=mH hus
          rw [hc] at g1 g2 hus
          refine⟨g1,fun j hj=>?_⟩
          have:=g2 j hj
          rw [add_plain,hcell] at this
          exact this
         refine⟨b,o,len,cap,cs,tt,fz,rfl,hpos,hob,h3,h4,?_,fun i hi=>?_⟩
         ·have hlast: ∃ us,w.cells? 0 ((⟨b,o,none⟩:Addr).add ((cap-1)*P.cellsOf e)) (P.cellsOf e)=some us:=by
           rcases Jg (cap-1) len with hl|hl
           ·have h8:=h6 (cap-1) hl
            rw [Hx (by omega)] at h8
            cases hcs:w.cells? 0 ((⟨b,o,none⟩:Addr).add ((cap-1)*P.cellsOf e)) (P.cellsOf e)with
            | none=>rw [hcs] at h8;cases h8
            | some us=>exact⟨us,rfl⟩
           ·obtain⟨h9,h10⟩:=h7 rfl
            have h8:=h10 (cap-1-len) (by omega)
            rw [Hx (by omega),show len+(cap-1-len)=cap-1 by omega] at h8
            cases hcs:w.cells? 0 ((⟨b,o,none⟩:Addr).add ((cap-1)*P.cellsOf e)) (P.cellsOf e)with
            | none=>rw [hcs] at h8;cases h8
            | some us=>exact⟨us,rfl⟩
          obtain⟨us,hus⟩:=hlast
          obtain⟨g1,g2⟩:=hget _ _ hus
          have g3:=g2 (sz-1) (by omega)
          rw [Hx (show sz-1<us.length by omega)] at g3
          have g4:=(HJ.1 g3).1
          have:cap*sz=(cap-1)*sz+sz:=by
           conv=>lhs;rw [show cap=cap-1+1 by omega,Nat.add_mul,Nat.one_mul]
          omega
         ·have h8:=h6 i hi
          rw [Hx (by omega)] at h8
          cases hcs:w.cells? 0 ((⟨b,o,none⟩:Addr).add (i*P.cellsOf e)) (P.cellsOf e)with
          | none=>rw [hcs] at h8;cases h8
          | some us=>
            rw [hcs] at h8
            simp only [HZ] at h8
            obtain⟨g1,g2⟩:=hget _ _ hcs
            exact⟨us,g1,g2,n,_,h8⟩
       | _=>simp only at g3;cases g3
theorem zk{e:Env}{b o len cap:Nat}{cs:Array Value}{tt:TypeId}{fz:Nat×Nat}(h2:w.heap[b]? =some (.cells cs tt fz))(h3:len≤cap)(h4:cap≤maxLen)(h5:o+cap*sz≤cs.size)(h0:0<sz)(rt:TypeId)(l:List SV)
 (hc: ∀ i s,i<len*sz→l[i]? =some s→ ∃ u,s.conc e=some u∧cs[o+i]? =some u):Lies (gX w) w e (nn true len sz rt l) ⟨b,o,cap,sz,false⟩:=
 .inl ⟨rfl,.cells cs tt fz,⟨fun _=>fx h2,fun h=>by cases h⟩,h2,rfl,cs,fz,tt,rfl,h3,h5,h4,(fun h=>by cases h),h0,fun i hi s hs=>hc i s hi hs⟩
theorem A7{e:Env}(h0:0<sz)(rt:TypeId)(l:List SV):Lies (gX w) w e (nn true 0 sz rt l) ⟨0,0,0,sz,true⟩:= .inr ⟨rfl,rfl,true,rt,_,rfl,h0⟩
end
end Go.Sy
end
section
namespace Go.Proofs.YtnhmbonmlfeifaaGreat
open Go Go.Sy Go.ChangeShapes Go.WideShapes Go.ChangeAt Go.RowKit
theorem rB{H:Type}{enc:TypeId×Value→H}{P:Program}{w:World}{base:Nat}{sp:Nat→Bool}{held:Bool}{n:Nat}{t:TypeId}{cs:List Value}{y:DataW H×List MemPlace}(hu:P.underlying t=some .bool)(h:DataW.trod enc P w base sp held n t cs=some y): ∃ b,cs= [.bool b]:=by
 cases n with
 | zero=>simp [DataW.trod] at h
 | succ n=>
   unfold DataW.trod at h
   rw [hu] at h
   split at h <;> simp_all
theorem len2{A:Type}: ∀ {l:List A},l.length=2→ ∃ a b,l= [a,b]
 | [a,b],_=>⟨a,b,rfl⟩
 | [],h=>by cases h
 | [_],h=>by cases h
 | _ :: _ :: _ :: _,h=>by simp at h
theorem BG{A:Type}{f:A→List Value}{sz len o:Nat}{cs:Array Value}(hex: ∀ i,i<len→ ∃ a:A,∀ j,j<sz→cs[o+i*sz+j]? =(f a)[j]?): ∃ l:List A,l.length=len∧ ∀ i c,l[i]? =some c→ ∀ j,j<sz→cs[o+i*sz+j]? =(f c)[j]? :=by
 refine⟨(List.range len).attach.map (fun i=>Classical.choose (hex i.1 (Jz.1 i.2))),by simp,?_⟩
 intro i c hi j hj
 rw [Ju] at hi
 obtain⟨q,hq,rfl⟩:=HI.1 hi
 have hq1:q.1=i:=by
  obtain⟨hlt,hh⟩:=Hy.1 hq
  rw [← hh]
  simp
 have:=Classical.choose_spec (hex q.1 (Jz.1 q.2)) j hj
 rw [← hq1]
 exact this
def BytesV(w:World)(v:Value)(l:List UInt8):Prop:=(∃ a c,v = .slice a 0 c∧l= [])∨(l≠ []∧ArgRow w 1 bV v l)
theorem we{H:Type}{enc:TypeId×Value→H}{w:World}{n:Nat}{v:Value}{y:DataW H×List MemPlace}(h:DataW.trod enc Tryz.prog w 0 (fun _=>true) true n 35 [v]=some y): ∃ l,BytesV w v l:=by
 rcases AB (F.un 35 rfl) (by kernel_rfl:Tryz.prog.cellsOf 5=1) (by decide) h with ⟨a,c,rfl⟩|⟨b,o,len,cap,cs,tt,fz,rfl,h1,h2,h3,h4,h5,h6⟩
 ·exact⟨[],.inl ⟨a,c,rfl,rfl⟩⟩
 ·obtain⟨l,hl,hc⟩:=BG (f:=bV) (sz:=1) (o:=o) (cs:=cs) (len:=len) fun i hi=>by
   obtain⟨us,g1,g2,n,y,g3⟩:=h6 i hi
   obtain⟨x,rfl⟩:=C2 g3
   exact⟨x,g2⟩
  refine⟨l,.inr ⟨fun e=>by rw [e] at hl;simp at hl;omega,.inr ⟨b,o,len,cap,cs,tt,fz,rfl,h2,hl.symm,h3,h4,h5,hc⟩⟩⟩
theorem uTid:Tryz.prog.underlying 40=some (.struct (Tryz.prog.fieldsOf 40)):=by kernel_rfl
theorem fTid:(Tryz.prog.fieldsOf 40).toList.map (fun f=>(f.type,f.offset))= [(3,0),(3,1)]:=by kernel_rfl
theorem uAct:Tryz.prog.underlying 42=some (.struct (Tryz.prog.fieldsOf 42)):=by kernel_rfl
theorem fAct:(Tryz.prog.fieldsOf 42).toList.map (fun f=>(f.type,f.offset))= [(3,0),(3,1),(38,2),(40,6),(36,8),(4,9)]:=by kernel_rfl
theorem cInt:Tryz.prog.cellsOf 3=1:=by kernel_rfl
theorem cU64:Tryz.prog.cellsOf 36=1:=by kernel_rfl
theorem cBool:Tryz.prog.cellsOf 4=1:=by kernel_rfl
theorem cSl:Tryz.prog.cellsOf 35=1:=by kernel_rfl
theorem cTid:Tryz.prog.cellsOf 40=2:=by kernel_rfl
theorem cVer:Tryz.prog.cellsOf 38=4:=by kernel_rfl
theorem cAct:Tryz.prog.cellsOf 42=10:=by kernel_rfl
section
variable {H:Type} {enc:TypeId×Value→H} {w:World} {n:Nat} {us:List Value} {y:DataW H×List MemPlace}
theorem Aq(h:DataW.trod enc Tryz.prog w 0 (fun _=>true) true n 40 us=some y): ∃ a b:Int,us= [.int .i64 a,.int .i64 b]:=by
 have hf:=fTid
 have hu:=uTid
 generalize Tryz.prog.fieldsOf 40=fs at hf hu
 obtain⟨xs,m,_,_,hl,hlen,hx⟩:=DataW.trod_struct hu h
 rw [cTid] at hl
 obtain⟨l⟩:=fs
 simp only at hf
 have hl2:l.length=2:=by simpa using congrArg List.length hf
 obtain⟨f0,f1,rfl⟩:=len2 hl2
 simp only [HU,List.map_nil,List.cons.injEq,HH,and_true] at hf
 obtain⟨⟨a1,a2⟩,⟨b1,b2⟩⟩:=hf
 have hlen2:xs.length=2:=by simpa using hlen
 obtain⟨u0,u1,rfl⟩:=len2 hl
 have h0:=hx 0 f0 rfl
 have h1:=hx 1 f1 rfl
 rw [a1,a2,cInt] at h0
 rw [b1,b2,cInt] at h1
 obtain⟨_,g0⟩: ∃ y,DataW.trod enc Tryz.prog w 0 (fun _=>true) true m 3 [u0]=some y:=⟨_,h0.trans (Hx (by omega))⟩
 obtain⟨_,g1⟩: ∃ y,DataW.trod enc Tryz.prog w 0 (fun _=>true) true m 3 [u1]=some y:=⟨_,h1.trans (Hx (by omega))⟩
 obtain⟨a,ha,_⟩:=ft (F.un 3 rfl) g0
 obtain⟨b,hb,_⟩:=ft (F.un 3 rfl) g1
 simp only [List.cons.injEq,and_true] at ha hb
 exact⟨a,b,by rw [ha,hb]⟩
theorem Ap(h:DataW.trod enc Tryz.prog w 0 (fun _=>true) true n 38 us=some y): ∃ (k u:Value) (lk lw:List UInt8) (x y:Nat),us= [k,u,.int .u64 (x:Int),.int .u64 (y:Int)]∧BytesV w k lk∧BytesV w u lw:=by
 have hf:=fVer
 have hu:=uVer
 generalize Tryz.prog.fieldsOf 38=fs at hf hu
 obtain⟨xs,m,_,_,hl,hlen,hx⟩:=DataW.trod_struct hu h
 rw [cVer] at hl
 obtain⟨l⟩:=fs
 simp only at hf
 have hl4:l.length=4:=by simpa using congrArg List.length hf
 rcases l with _|⟨f0,_|⟨f1,_|⟨f2,_|⟨f3,_|⟨f4,l⟩⟩⟩⟩⟩
 ·simp at hl4
 ·simp at hl4
 ·simp at hl4
 ·simp at hl4
 ·rcases us with _|⟨u0,_|⟨u1,_|⟨u2,_|⟨u3,_|⟨u4,us⟩⟩⟩⟩⟩
  ·simp at hl
  ·simp at hl
  ·simp at hl
  ·simp at hl
  ·simp only [HU,List.map_nil,List.cons.injEq,HH,and_true] at hf
   obtain⟨⟨a1,a2⟩,⟨b1,b2⟩,⟨c1,c2⟩,⟨d1,d2⟩⟩:=hf
   have hlen4:xs.length=4:=by simpa using hlen
   have h0:=hx 0 f0 rfl
   have h1:=hx 1 f1 rfl
   have h2:=hx 2 f2 rfl
   have h3:=hx 3 f3 rfl
   rw [a1,a2,cSl] at h0
   rw [b1,b2,cSl] at h1
   rw [c1,c2,cU64] at h2
   rw [d1,d2,cU64] at h3
   obtain⟨z0,g0⟩: ∃ y,DataW.trod enc Tryz.prog w 0 (fun _=>true) true m 35 [u0]=some y:=⟨_,h0.trans (Hx (by omega))⟩
   obtain⟨z1,g1⟩: ∃ y,DataW.trod enc Tryz.prog w 0 (fun _=>true) true m 35 [u1]=some y:=⟨_,h1.trans (Hx (by omega))⟩
   obtain⟨_,g2⟩: ∃ y,DataW.trod enc Tryz.prog w 0 (fun _=>true) true m 36 [u2]=some y:=⟨_,h2.trans (Hx (by omega))⟩
   obtain⟨_,g3⟩: ∃ y,DataW.trod enc Tryz.prog w 0 (fun _=>true) true m 36 [u3]=some y:=⟨_,h3.trans (Hx (by omega))⟩
   obtain⟨lk,hk⟩:=we g0
   obtain⟨lw,hw⟩:=we g1
   obtain⟨x,hx2⟩:=p8 g2
   obtain⟨y,hy3⟩:=p8 g3
   simp only [List.cons.injEq,and_true] at hx2 hy3
   subst hx2 hy3
   exact⟨u0,u1,lk,lw,x,y,rfl,hk,hw⟩
  ·simp at hl
 ·simp at hl4
end
abbrev actU(x:ActT×Value×Value):List Value:= [.int .i64 x.1.kind,.int .i64 x.1.place,x.2.1,x.2.2,.int .u64 (x.1.ver.2.2.1:Int),.int .u64 (x.1.ver.2.2.2:Int),.int .i64 x.1.tid.1,.int .i64 x.1.tid.2,.int .u64 (x.1.xid:Int),.bool x.1.odd]
abbrev AcA(w:World):={x:ActT×Value×Value // BytesV w x.2.1 x.1.ver.1∧BytesV w x.2.2 x.1.ver.2.1}
theorem Ar{H:Type}{enc:TypeId×Value→H}{w:World}{n:Nat}{us:List Value}{y:DataW H×List MemPlace}(h:DataW.trod enc Tryz.prog w 0 (fun _=>true) true n 42 us=some y): ∃ a:AcA w,us=actU a.1:=by
 have hf:=fAct
 have hu:=uAct
 generalize Tryz.prog.fieldsOf 42=fs at hf hu
 obtain⟨xs,m,_,_,hl,hlen,hx⟩:=DataW.trod_struct hu h
 rw [cAct] at hl
 obtain⟨l⟩:=fs
 simp only at hf
 have hl6:l.length=6:=by simpa using congrArg List.length hf
 rcases l with _|⟨f0,_|⟨f1,_|⟨f2,_|⟨f3,_|⟨f4,_|⟨f5,_|⟨f6,l⟩⟩⟩⟩⟩⟩⟩
 ·simp at hl6
 ·simp at hl6
 ·simp at hl6
 ·simp at hl6
 ·simp at hl6
 ·simp at hl6
 ·rcases us with _|⟨u0,_|⟨u1,_|⟨u2,_|⟨u3,_|⟨u4,_|⟨u5,_|⟨u6,_|⟨u7,_|⟨u8,_|⟨u9,_|⟨u10,us⟩⟩⟩⟩⟩⟩⟩⟩⟩⟩⟩
  ·simp at hl
  ·simp at hl
  ·simp at hl
  ·simp at hl
  ·simp at hl
  ·simp at hl
  ·simp at hl
  ·simp at hl
  ·simp at hl
  ·simp at hl
  ·simp only [HU,List.map_nil,List.cons.injEq,HH,and_true] at hf
   obtain⟨⟨a1,a2⟩,⟨b1,b2⟩,⟨c1,c2⟩,⟨d1,d2⟩,⟨e1,e2⟩,⟨i1,i2⟩⟩:=hf
   have hlen6:xs.length=6:=by simpa using hlen
   have h0:=hx 0 f0 rfl
   have h1:=hx 1 f1 rfl
   have h2:=hx 2 f2 rfl
   have h3:=hx 3 f3 rfl
   have h4:=hx 4 f4 rfl
   have h5:=hx 5 f5 rfl
   rw [a1,a2,cInt] at h0
   rw [b1,b2,cInt] at h1
   rw [c1,c2,cVer] at h2
   rw [d1,d2,cTid] at h3
   rw [e1,e2,cU64] at h4
   rw [i1,i2,cBool] at h5
   obtain⟨_,g0⟩: ∃ y,DataW.trod enc Tryz.prog w 0 (fun _=>true) true m 3 [u0]=some y:=⟨_,h0.trans (Hx (by omega))⟩
   obtain⟨_,g1⟩: ∃ y,DataW.trod enc Tryz.prog w 0 (fun _=>true) true m 3 [u1]=some y:=⟨_,h1.trans (Hx (by omega))⟩
   obtain⟨_,g2⟩: ∃ y,DataW.trod enc Tryz.prog w 0 (fun _=>true) true m 38 [u2,u3,u4,u5]=some y:=⟨_,h2.trans (Hx (by omega))⟩
   obtain⟨_,g3⟩: ∃ y,DataW.trod enc Tryz.prog w 0 (fun _=>true) true m 40 [u6,u7]=some y:=⟨_,h3.trans (Hx (by omega))⟩
   obtain⟨_,g4⟩: ∃ y,DataW.trod enc Tryz.prog w 0 (fun _=>true) true m 36 [u8]=some y:=⟨_,h4.trans (Hx (by omega))⟩
   obtain⟨_,g5⟩: ∃ y,DataW.trod enc Tryz.prog w 0 (fun _=>true) true m 4 [u9]=some y:=⟨_,h5.trans (Hx (by omega))⟩
   obtain⟨k,hk,_⟩:=ft (F.un 3 rfl) g0
   obtain⟨p,hp,_⟩:=ft (F.un 3 rfl) g1
   obtain⟨v1,v2,lk,lw,x,y,hv,hk1,hw1⟩:=Ap g2
   obtain⟨a,b,hab⟩:=Aq g3
   obtain⟨q,hq⟩:=p8 g4
   obtain⟨bo,hbo⟩:=rB (F.un 4 rfl) g5
   simp only [List.cons.injEq,and_true] at hk hp hv hab hq hbo
   obtain⟨rfl,rfl,rfl,rfl⟩:=hv
   obtain⟨rfl,rfl⟩:=hab
   subst hk hp hq hbo
   exact⟨⟨(⟨k,p,(lk,lw,x,y),(a,b),q,bo⟩,u2,u3),hk1,hw1⟩,rfl⟩
  ·simp at hl
 ·simp at hl6
theorem pT{A:Type}{w:World}{sz:Nat}{f:A→List Value}{v:Value}{l:List A}(h:ArgRow w sz f v l):l.length≤9223372036854775807:=by
 rcases h with ⟨_,rfl⟩|⟨b,o,len,cap,cs,tt,fz,_,_,h1,h2,h3,_⟩
 ·simp
 ·have:maxLen=9223372036854775807:=rfl
  omega
theorem BytesV.len{w:World}{v:Value}{l:List UInt8}(h:BytesV w v l):l.length≤9223372036854775807:=by
 rcases h with ⟨_,_,_,rfl⟩|⟨_,h⟩
 ·simp
 ·exact pT h
def sOf(v:Value)(l:List UInt8)(m:Nat):SV:=if l= [] then .sc v else .slu m 0 l.length
abbrev rowB(l:List UInt8):VO:=dat true l.length 1 5 (byV l)
def B7(l:List UInt8):Option VO:=if l= [] then none else some (rowB l)
abbrev XtA(w:World):={x:Value×List UInt8 // ArgRow w 1 bV x.1 x.2}
def jW{w:World}(b:Nat):Nat→List (AcA w)→List nP
 | _,[]=> []
 | k,x :: L=>(x.1.1,sOf x.1.2.1 x.1.1.ver.1 (b+2*k),sOf x.1.2.2 x.1.1.ver.2.1 (b+2*k+1)) :: jW b (k+1) L
theorem iF{w:World}(b:Nat): ∀ (k:Nat) (L:List (AcA w)),(jW b k L).length=L.length
 | _,[]=>rfl
 | k,x :: L=>by simp [jW,iF b (k+1) L]
theorem mW{w:World}(b:Nat): ∀ (k:Nat) (L:List (AcA w)) (i:Nat) (x:AcA w),L[i]? =some x→(jW b k L)[i]? =some (x.1.1,sOf x.1.2.1 x.1.1.ver.1 (b+2*(k+i)),sOf x.1.2.2 x.1.1.ver.2.1 (b+2*(k+i)+1))
 | k,[],i,x,h=>by simp at h
 | k,y :: L,0,x,h=>by
   simp at h
   subst h
   simp [jW]
 | k,y :: L,i+1,x,h=>by
   have:=mW b (k+1) L i x (by simpa using h)
   simp only [jW,List.getElem?_cons_succ,this]
   rw [show k+1+i=k+(i+1) by omega]
section
variable {w:World} (X:List (XtA w)) (L:List (AcA w))
section
variable {i:Nat}{a:AcA w}{v0:Value}
def zH(v0:Value):Env:=fun m=>if m=0 then some (gS 10 v0) else match X[m-1]? with
 | some x=>some (gS 1 x.1.1)
 | none=>match L[(m-(1+X.length)) / 2]? with
   | some a=>some (gS 1 (if(m-(1+X.length)) % 2=0 then a.1.2.1 else a.1.2.2))
   | none=>none
def lq:au:=fun m=>if m=0 then some (Ee true (jW (1+X.length) 0 L)) else match X[m-1]? with
 | some x=>some (rowB x.1.2)
 | none=>match L[(m-(1+X.length)) / 2]? with
   | some a=>if(m-(1+X.length)) % 2=0 then B7 a.1.1.ver.1 else B7 a.1.1.ver.2.1
   | none=>none
theorem DQ:(lq X L).at' 0=some (Ee true (jW (1+X.length) 0 L)):=rfl
theorem DP{x:XtA w}(hx:X[i]? =some x):(lq X L).at' (1+i)=some (rowB x.1.2):=by
 show lq X L (1+i)=_
 unfold lq
 rw [Jd (by omega),show 1+i-1=i by omega,hx]
theorem vj{m:Nat}:X[1+X.length+m-1]? =none:=JB (by omega)
theorem zy(ha:L[i]? =some a):(lq X L).at' (1+X.length+2*i)=B7 a.1.1.ver.1:=by
 show lq X L (1+X.length+2*i)=_
 unfold lq
 rw [Jd (by omega),vj,show 1+X.length+2*i-(1+X.length)=2*i by omega,show 2*i / 2=i by omega,ha]
 simp only
 rw [Je (by omega)]
theorem zx(ha:L[i]? =some a):(lq X L).at' (1+X.length+2*i+1)=B7 a.1.1.ver.2.1:=by
 show lq X L (1+X.length+2*i+1)=_
 unfold lq
 rw [Jd (by omega),Nat.add_assoc (1+X.length),vj,show 1+X.length+(2*i+1)-(1+X.length)=2*i+1 by omega,show(2*i+1) / 2=i by omega,ha]
 simp only
 rw [Jd (by omega)]
theorem G5{x:XtA w}(hx:X[i]? =some x):zH X L v0 (1+i)=some (gS 1 x.1.1):=by
 unfold zH
 rw [Jd (by omega),show 1+i-1=i by omega,hx]
theorem Cv(ha:L[i]? =some a):zH X L v0 (1+X.length+2*i)=some (gS 1 a.1.2.1):=by
 unfold zH
 rw [Jd (by omega),vj,show 1+X.length+2*i-(1+X.length)=2*i by omega,show 2*i / 2=i by omega,ha]
 simp only
 rw [Je (by omega)]
theorem Cu(ha:L[i]? =some a):zH X L v0 (1+X.length+2*i+1)=some (gS 1 a.1.2.2):=by
 unfold zH
 rw [Jd (by omega),Nat.add_assoc (1+X.length),vj,show 1+X.length+(2*i+1)-(1+X.length)=2*i+1 by omega,show(2*i+1) / 2=i by omega,ha]
 simp only
 rw [Jd (by omega)]
end
end
section
variable {v:Value}{w:World}{l:List UInt8}
theorem vD(h:ArgRow w 1 bV v l)(e:Env):Lies (gX w) w e (rowB l) (gS 1 v):=by
 have:=h.lies (fun _=>rfl) (by decide) 5 e
 rwa [show l.flatMap bV=byV l from zS l] at this
theorem B6{m:Nat}{H:au}(h:BytesV w v l)(hm:H.at' m=B7 l):BsIs H (sOf v l m) (byV l):=by
 unfold sOf
 by_cases hp:l= []
 ·rw [Je hp]
  rcases h with ⟨a,c,rfl,_⟩|⟨h1,_⟩
  ·subst hp
   exact⟨fun v hv=>by simp at hv,.inl ⟨rfl,a,c,rfl⟩⟩
  ·exact absurd hp h1
 ·rw [Jd hp]
  refine jg (ro:=true) ?_ rfl
  rw [hm]
  unfold B7
  rw [Jd hp]
theorem uI{m:Nat}{e:Env}(h:BytesV w v l)(hm:e m=some (gS 1 v)):(sOf v l m).conc e=some v:=by
 unfold sOf
 by_cases hp:l= []
 ·rw [Je hp]
  rfl
 ·rw [Jd hp]
  rcases h with ⟨_,_,_,h2⟩|⟨_,h2⟩
  ·exact absurd h2 hp
  ·exact h2.conc hm
theorem uH{vo:VO}(h:BytesV w v l)(hv:B7 l=some vo)(e:Env):vo.ro=true∧Lies (gX w) w e vo (gS 1 v):=by
 unfold B7 at hv
 by_cases hp:l= []
 ·rw [Je hp] at hv;cases hv
 ·rw [Jd hp] at hv
  cases hv
  rcases h with ⟨_,_,_,h2⟩|⟨_,h2⟩
  ·exact absurd h2 hp
  ·exact⟨rfl,vD h2 e⟩
theorem Ed(X:List (XtA w))(L:List (AcA w)): ∀ x∈jW (1+X.length) 0 L,ActIs (lq X L) x∧x.1.ver.1.length≤9223372036854775807∧x.1.ver.2.1.length≤9223372036854775807:=fun x hx=>by
 obtain⟨i,hi⟩:=List.mem_iff_getElem?.1 hx
 have hlt:i<L.length:=by
  have:=(Hy.1 hi).1
  rwa [iF] at this
 obtain⟨a,ha⟩: ∃ a,L[i]? =some a:=⟨_,Hx hlt⟩
 have hg:=mW (1+X.length) 0 L i a ha
 rw [hi,Jf] at hg
 cases hg
 exact⟨⟨B6 a.2.1 (zy X L ha),B6 a.2.2 (zx X L ha)⟩,a.2.1.len,a.2.2.len⟩
theorem C7{v0:Value}(X:List (XtA w))(L:List (AcA w))(h0:ArgRow w 10 (fun a:AcA w=>actU a.1) v0 L):St (gX w) w (zH X L v0) (lq X L) (1+X.length+2*L.length) w:=by
 refine St.init (fun id vo hv=>?_) (fun i hi=>?_)
 ·by_cases e0:id=0
  ·subst e0
   rw [DQ] at hv
   cases hv
   refine⟨rfl,gS 10 v0,rfl,?_⟩
   have hlen:=iF (1+X.length) 0 L
   rcases h0 with ⟨rfl,rfl⟩|⟨b,o,len,cap,cs,tt,fz,rfl,g2,g3,g4,g5,g6,g7⟩
   ·exact A7 (by decide) _ _
   ·refine zk g2 (by omega) g5 g6 (by decide) _ _ fun i s hi hs=>?_
    have hdm:=Nat.div_add_mod i 10
    have hm:=Nat.mod_lt i (show 0<10 by decide)
    have hq:i / 10<L.length:=by omega
    have e1:i=i / 10*10+i % 10:=by omega
    obtain⟨a,ha⟩: ∃ a,L[i / 10]? =some a:=⟨_,Hx hq⟩
    have hx:=mW (1+X.length) 0 L (i / 10) a ha
    rw [Jf] at hx
    have hq2:i / 10<(jW (1+X.length) 0 L).length:=by omega
    rw [e1,wo hq2 hm] at hs
    have hc:=g7 (i / 10) a ha (i % 10) hm
    rw [show o+i=o+i / 10*10+i % 10 by omega,hc]
    rw [Hx hq2,Ht] at hx
    rw [hx] at hs
    have hm6:i % 10=0∨i % 10=1∨i % 10=2∨i % 10=3∨i % 10=4∨i % 10=5∨i % 10=6∨i % 10=7∨i % 10=8∨i % 10=9:=by omega
    rcases hm6 with e|e|e|e|e|e|e|e|e|e <;> rw [e] at hs ⊢
    ·cases hs;exact⟨_,rfl,rfl⟩
    ·cases hs;exact⟨_,rfl,rfl⟩
    ·cases hs;exact⟨_,uI a.2.1 (Cv X L ha),rfl⟩
    ·cases hs;exact⟨_,uI a.2.2 (Cu X L ha),rfl⟩
    ·cases hs;exact⟨_,rfl,rfl⟩
    ·cases hs;exact⟨_,rfl,rfl⟩
    ·cases hs;exact⟨_,rfl,rfl⟩
    ·cases hs;exact⟨_,rfl,rfl⟩
    ·cases hs;exact⟨_,rfl,rfl⟩
    ·cases hs;exact⟨_,rfl,rfl⟩
  ·rcases Jg (id-1) X.length with hX|hX
   ·obtain⟨x,hx⟩: ∃ x,X[id-1]? =some x:=⟨_,Hx hX⟩
    have e:id=1+(id-1):=by omega
    rw [e] at hv ⊢
    rw [DP X L hx] at hv
    cases hv
    exact⟨rfl,_,G5 X L hx,vD x.2 _⟩
   ·have hv':lq X L id=some vo:=hv
    have: ∃ a,L[(id-(1+X.length)) / 2]? =some a:=by
     unfold lq at hv'
     rw [Jd e0,JB hX] at hv'
     cases hL:L[(id-(1+X.length)) / 2]? with
     | none=>rw [hL] at hv';cases hv'
     | some a=>exact⟨a,rfl⟩
    obtain⟨a,ha⟩:=this
    have hmod:=Nat.mod_two_eq_zero_or_one (id-(1+X.length))
    have hdm:=Nat.div_add_mod (id-(1+X.length)) 2
    generalize (id-(1+X.length)) / 2=i at *
    clear hv'
    rcases hmod with hz|hz
    ·obtain rfl:id=1+X.length+2*i:=by omega
     rw [zy X L ha] at hv
     have:=uH a.2.1 hv (zH X L v0)
     exact⟨this.1,_,Cv X L ha,this.2⟩
    ·obtain rfl:id=1+X.length+2*i+1:=by omega
     rw [zx X L ha] at hv
     have:=uH a.2.2 hv (zH X L v0)
     exact⟨this.1,_,Cu X L ha,this.2⟩
 ·unfold zH
  rw [Jd (by omega),JB (by omega),JB (by omega)]
end
end Go.Proofs.YtnhmbonmlfeifaaGreat
end
