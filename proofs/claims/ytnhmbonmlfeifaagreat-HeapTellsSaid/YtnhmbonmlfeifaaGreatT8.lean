import Derived.Test.YtnhmbonmlfeifaaGreatT7
set_option linter.unusedVariables false
set_option linter.unusedSimpArgs false
set_option maxRecDepth 100000
set_option maxHeartbeats 0
section
namespace Go.Proofs.YtnhmbonmlfeifaaGreat
open Go Go.Sy Go.Sl Go.RowKit
structure Hv (mem:List UInt8):Prop where
 len:mem.length=131072
 good: ∀ n,32≤n→n<128→GoodP (ay mem n)
 low: ∀ n,n<32→ay mem n=zeroP
section
variable {n:Nat}{mem:List UInt8}
abbrev dC(mem:List UInt8):List UInt8:=mem.drop 32768
theorem dy(h:mem.length=131072):(dC mem).length=98304:=by rw [J2,h]
theorem Ar(h:32≤n):ay (dC mem) (n-32)=ay mem n:=by
 unfold ay
 rw [List.drop_drop,show 32768+1024*(n-32)=1024*n by omega]
theorem fq(h:Hv mem)(h1:32≤n)(h2:n<128):dfH (dC mem) n=ay mem n:=by
 unfold dfH
 rw [Ar h1]
 exact(h.good n h1 h2).bareP
theorem mt{x:List UInt8}(hm:mem.length=131072)(h1:32≤n)(h2:n<128)(hx:x.length=1024):dC (gD mem n x)=gD (dC mem) (n-32) x:=by
 unfold dC gD be
 have e1:(mem.take (1024*n)).length=1024*n:=by rw [JZ,hm];omega
 rw [J6,List.drop_append_of_le_length (by omega),List.drop_take,hx,List.drop_drop,←J6]
 rw [show 1024*n-32768=1024*(n-32) by omega,show 32768+(1024*(n-32)+1024)=1024*n+1024 by omega]
theorem Hv.set{x:List UInt8}(h:Hv mem)(h1:32≤n)(h2:n<128)(hx:GoodP x):Hv (gD mem n x):=
 ⟨kE h.len h2 hx.len,fun k a b=>by
   rw [iG (by rw [h.len];omega) hx.len]
   split
   ·exact hx
   ·exact h.good k a b,fun k hk=>by
   rw [iG (by rw [h.len];omega) hx.len,JV (by omega)]
   exact h.low k hk⟩
end
section
variable {pf pg:Nat→List UInt8}
theorem th{it:List UInt8}: ∀ (k n:Nat),(∀ m,n≤m→m<n+k→pf m=pg m)→cu pf it k n=cu pg it k n
 | 0,n,_=>rfl
 | k+1,n,h=>by
   unfold cu
   rw [h n (JK _) (by omega),th k (n+1) fun m a b=>h m (by omega) (by omega)]
theorem BR(h: ∀ n,32≤n→n<128→pf n=pg n)(v:gt)(d:Bool):lg pf v d=lg pg v d:=by
 unfold lg
 rw [th 96 32 fun m a b=>h m a (by omega)]
theorem v9{n k:Int}(h:mH n k≠false):32≤n.toNat∧n.toNat<128:=by
 have h2:mH n k=true:=by simpa using h
 have:=J7 h2
 omega
theorem BW(h: ∀ n,32≤n→n<128→pf n=pg n)(n k:Int):pN pf n k=pN pg n k:=by
 unfold pN
 by_cases hm:mH n k=false
 ·rw [JW hm,JW hm]
 ·rw [JV hm,JV hm,h _ (v9 hm).1 (v9 hm).2]
theorem rG(h: ∀ n,32≤n→n<128→pf n=pg n)(n k:Int)(x:Nat):kM pf n k x=kM pg n k x:=by
 unfold kM
 by_cases hm:4000<x∨mH n k=false
 ·rw [JW hm,JW hm]
 ·have h2:=v9 (fun e=>hm (.inr e))
  have h3:px pf n.toNat (jZ k.toNat x)=px pg n.toNat (jZ k.toNat x):=by
   unfold px
   rw [h _ h2.1 h2.2]
  rw [JV hm,JV hm,h3]
theorem nY(h: ∀ n,32≤n→n<128→pf n=pg n)(l:List (Int×Int)):fD pf l=fD pg l:=by
 unfold fD
 by_cases hm:s6 l
 ·have h1:lM pf l↔lM pg l:=by
   unfold lM
   refine forall_congr' fun t=>forall_congr' fun ht=>?_
   have h2:=J7 (hm.1 t ht)
   rw [h t.1.toNat (by omega) (by omega)]
  have h2:((b7 l).map fun n=>(n,rI (aS (pf n)).1 (aM l n)))=((b7 l).map fun n=>(n,rI (aS (pg n)).1 (aM l n))):=by
   refine List.map_congr_left fun n hn=>?_
   obtain⟨a,b,_⟩:=cY.1 hn
   rw [h n a b]
  by_cases h3:lM pf l
  ·rw [JV (show ¬¬s6 l from fun e=>e hm),JV (show ¬¬lM pf l from fun e=>e h3),JV (show ¬¬s6 l from fun e=>e hm),JV (show ¬¬lM pg l from fun e=>e (h1.1 h3)),h2]
  ·rw [JV (show ¬¬s6 l from fun e=>e hm),JW h3,JV (show ¬¬s6 l from fun e=>e hm),JW (show ¬lM pg l from fun e=>h3 (h1.2 e))]
 ·rw [JW hm,JW hm]
theorem tQ: ∀ (k n:Nat),(∀ m,n≤m→m<n+k→pf m=pg m)→iS pf k n=iS pg k n
 | 0,n,_=>rfl
 | k+1,n,h=>by
   unfold iS
   rw [h n (JK _) (by omega),tQ k (n+1) fun m a b=>h m (by omega) (by omega)]
theorem kU(h: ∀ n,32≤n→n<128→pf n=pg n):mI pf=mI pg:=tQ 96 32 fun m a b=>h m a (by omega)
theorem qj{it:List UInt8}(hit:(ofV it).isSome=true): ∀ (k n:Nat),(∀ m,n≤m→m<n+k→GoodP (pf m))→(cu pf it k n).1=0→GoodP (cu pf it k n).2.2.2
 | 0,n,_,h=>by cases h
 | k+1,n,hG,h=>by
   obtain⟨q,hq,hQ⟩:=(hG n (JK _) (by omega)).read
   unfold cu at h ⊢
   rw [hq] at h ⊢
   rw [JV (fun e=>e rfl)] at h ⊢
   dsimp only at h ⊢
   by_cases he:(f8 q it).2.2≠0
   ·rw [JW he] at h ⊢
    exact qj hit k (n+1) (fun m a b=>hG m (by omega) (by omega)) h
   ·rw [JV he]
    exact .inr (BU hQ hit (Decidable.not_not.1 he))
end
section
variable {H:au}{v:gt}{x:ow}{b h:Nat}{left:Int}{n nx:Nat}{puts:Int}{mem:List UInt8}{l:List (Int×Int)}
theorem BP(h:Hv mem){d:Bool}{x:List UInt8}(e:(lg (ay mem) v d).2=some (n,x)):32≤n∧n<128∧GoodP x:=by
 unfold lg at e
 by_cases h1:iJ v=false
 ·rw [JW h1] at e
  cases e
 ·rw [JV h1] at e
  have h1:iJ v=true:=by simpa using h1
  by_cases h2:(cu (ay mem) (aO v) 96 32).1≠0
  ·rw [JW h2] at e
   cases e
  ·rw [JV h2] at e
   have h2:=Decidable.not_not.1 h2
   by_cases h3:d=true
   ·rw [JW h3] at e
    cases e
   ·rw [JV h3] at e
    have hp:=m8 (ay mem) (aO v) 96 32 h2
    have hg:=qj (pf:=ay mem) (it:=aO v) (by rw [vV h1];rfl) 96 32 (fun m a b=>h.good m a (by omega)) h2
    cases e
    exact⟨hp.1,by omega,hg⟩
theorem An{x:Nat}:be (aO v) 8 (beB x 8)=aO (v.1,v.2.1,v.2.2.1,x):=by
 unfold be aO
 have e1: ∀ n,(beB n 8).length=8:=fun n=>bp n 8
 rw [List.take_left' (e1 _),e1,←List.drop_drop,List.drop_left' (e1 _),List.drop_left' (e1 _),J6]
theorem B0(h:Hv mem){n k:Int}{x m:Nat}{y:List UInt8}(e:(kM (ay mem) n k x).2=some (m,y)):32≤m∧m<128∧GoodP y:=by
 unfold kM at e
 by_cases h1:4000<x∨mH n k=false
 ·rw [JW h1] at e
  cases e
 ·rw [JV h1] at e
  have h2:=v9 (fun e=>h1 (.inr e))
  obtain⟨q,hq,hQ⟩:=(h.good _ h2.1 h2.2).read
  have hc:px (ay mem) n.toNat (jZ k.toNat x)=jZ k.toNat x q:=by
   unfold px
   rw [hq,JV (fun e=>e rfl)]
  rw [hc] at e
  cases hh:jB q k.toNat with
  | false=>
    have hE:jZ k.toNat x q=(zeroP,6):=by
     unfold jZ
     rw [pd hh]
     rfl
    rw [hE] at e
    dsimp only at e
    rw [JW (show(6:Nat)≠0 by decide)] at e
    cases e
  | true=>
    have hE:jZ k.toNat x q=(be q (az q k.toNat) (be (aT q k.toNat) 8 (beB x 8)),0):=by
     unfold jZ
     rw [rA hh]
     rfl
    rw [hE] at e
    dsimp only at e
    rw [JV (show ¬((0:Nat)≠0)from fun h=>h rfl)] at e
    cases e
    have h3:=J7 hh
    have hs:=hQ.items _ h3.1 h3.2
    obtain⟨v,hv⟩:=Option.isSome_iff_exists.1 hs
    have hb:=CR hv
    have hmv:=uv hv
    have hmv2:=J7 hmv
    have hm2:iJ (v.1,v.2.1,v.2.2.1,x)=true:=Ke ⟨hmv2.1,hmv2.2.1,hmv2.2.2.1,by dsimp only;omega⟩
    have hle:(aT q k.toNat).length=aq q k.toNat:=dB hQ.ok.len (cV hQ.right h3.1 h3.2).2.2.2
    refine⟨h2.1,h2.2,.inr (BT hQ h3.1 h3.2 ?_ ?_)⟩
    ·rw [hb,An,←hle,hb,ez,ez]
    ·rw [hb,An,vV hm2]
     rfl
theorem ga(h:Hv mem): ∀ x∈(fD (ay mem) l).2,32≤x.1∧x.1<128∧GoodP x.2:=by
 unfold fD
 by_cases h1:s6 l
 ·rw [JV (fun e=>e h1)]
  by_cases h2:lM (ay mem) l
  ·rw [JV (fun e=>e h2)]
   intro x hx
   obtain⟨n,hn,rfl⟩:=Ki.1 hx
   obtain⟨a,b,_⟩:=cY.1 hn
   refine⟨a,b,.inr ?_⟩
   obtain⟨q,hq,hQ⟩:=(h.good n a b).read
   have hh:=(jW h1).1 h2 n hn
   dsimp only
   rw [hq] at hh ⊢
   exact wq hQ ⟨er h1 n,fun k hk=>J7 (hh k hk)⟩
  ·rw [JW h2]
   intro x hx
   cases hx
 ·rw [JW h1]
  intro x hx
  cases hx
def ld(mem:List UInt8)(ps:List (Nat×List UInt8)):List UInt8:=ps.foldl (fun m x=>gD m x.1 x.2) mem
theorem iF: ∀ (ps:List (Nat×List UInt8)) (mem:List UInt8) (left puts:Int),left<0→fy ps mem left puts=(0,ld mem ps,left-ps.length,puts+ps.length)
 | [],mem,left,puts,_=>by simp [fy,ld]
 | (n,x) :: ps,mem,left,puts,h=>by
   show(if left=0 then(8,mem,left,puts) else fy ps (gD mem n x) (left-1) (puts+1))=_
   rw [JV (by omega),iF ps _ _ _ (by omega)]
   rw [show left-1-(ps.length:Int)=left-(((n,x) :: ps).length:Int) by simp only [JN];omega,show puts+1+(ps.length:Int)=puts+(((n,x) :: ps).length:Int) by simp only [JN];omega]
   rfl
theorem mQ: ∀ {ps:List (Nat×List UInt8)} {mem:List UInt8},Hv mem→(∀ x∈ps,32≤x.1∧x.1<128∧GoodP x.2)→Hv (ld mem ps)∧dC (ld mem ps)=jM (dC mem) ps
 | [],mem,h,_=>⟨h,rfl⟩
 | (n,x) :: ps,mem,h,hp=>by
   obtain⟨a,b,g⟩:=hp _ J3
   have ih:=mQ (ps:=ps) (h.set a b g) fun y hy=>hp y (J4 _ hy)
   refine⟨ih.1,ih.2.trans ?_⟩
   rw [mt h.len a b g.len]
   rfl
theorem oP{pf:Nat→List UInt8}:(fD pf l).2.length≤96:=by
 have hl:(b7 l).length≤96:=by
  unfold b7
  refine JS (List.length_filter_le _ _) ?_
  simp
 unfold fD
 split
 ·exact JL _
 ·split
  ·exact JL _
  ·rw [J0]
   exact hl
theorem nZ{p:List UInt8}(h:(aS (bareP p)).2=0):sB p=((aS (bareP p)).1,true):=JW h
theorem vC{p:List UInt8}(h:(aS (bareP p)).2≠0):sB p=(bareP p,false):=JV h
theorem uL{hb:Nat}{n k:Int}{hm:List UInt8}(hH:H.at' hb=some (hpO hm))(hl:hm.length=98304):Fnc Tryz.prog 16 [.ptr hb 0,yB (n,k)] H nx
 (fun q=> ∃ s' r,q.1 = .tup [s',.sc (.int .i64 ((pN (dfH hm) n k).2:Int))]∧VerAt q.2.1 s' r (pN (dfH hm) n k).1∧nx≤r∧nx≤q.2.2∧ ∀ m,m<nx→q.2.1.at' m=H.at' m):=by
 refine Kp Tryz.func16 rfl rfl ?_
 refine aX fun hund=>?_
 have lH:=hund _ _ hH
 repeat first|apply ai;rfl|apply aH;rfl;(focus((repeat(first|exact ac|refine ab (by omega) ?_));done));rfl
 cases hmay:mH n k with
 | false=>
   have hg:pN (dfH hm) n k=(iV,2):=by unfold pN;rw [JW hmay]
   have hmd:=of_decide_eq_false hmay
   rw [hg]
   refine cT (R:=fun H1 n1=>n1=nx+1+1∧H1.at' nx=some (eH n k)∧H1.at' (nx+1)=some (fx (eF dA dA 0 0))∧ ∀ m,m<nx→H1.at' m=H.at' m) ⟨rfl,by repeat(first|exact ac|refine ab (by omega) ?_),by repeat(exact ac),fun m hm=>by(repeat(refine ab (by omega) ?_));rfl⟩ ?_
   rintro H1 n1 ⟨rfl,a1,a2,a3⟩
   by_cases h1:n<32
   ·repeat first|apply pK;rfl;omega|apply ai;rfl|apply aH;rfl;assumption;rfl
    ((apply bn Tryz.func16 (congrArg Array.toList Tryz.results16));(focus(repeat(first|exact Kq|apply Ks rfl|apply Kr rfl (Kt (F.ag _ rfl) (by repeat(exact ac)) (am _ 0 rfl rfl))))))
    exact⟨_,nx,rfl,gv _ nx,JK _,by dsimp only;omega,fun m hm=>by(repeat(refine ab (by omega) ?_));exact a3 m hm⟩
   ·by_cases h2:127<n
    ·repeat first|apply pK;rfl;omega|apply kY;rfl;omega|apply ai;rfl|apply aH;rfl;assumption;rfl
     ((apply bn Tryz.func16 (congrArg Array.toList Tryz.results16));(focus(repeat(first|exact Kq|apply Ks rfl|apply Kr rfl (Kt (F.ag _ rfl) (by repeat(exact ac)) (am _ 0 rfl rfl))))))
     exact⟨_,nx,rfl,gv _ nx,JK _,by dsimp only;omega,fun m hm=>by(repeat(refine ab (by omega) ?_));exact a3 m hm⟩
    ·have h3:k<0:=by omega
     repeat first|apply pK;rfl;omega|apply kY;rfl;omega|apply ai;rfl|apply aH;rfl;assumption;rfl
     ((apply bn Tryz.func16 (congrArg Array.toList Tryz.results16));(focus(repeat(first|exact Kq|apply Ks rfl|apply Kr rfl (Kt (F.ag _ rfl) (by repeat(exact ac)) (am _ 0 rfl rfl))))))
     exact⟨_,nx,rfl,gv _ nx,JK _,by dsimp only;omega,fun m hm=>by(repeat(refine ab (by omega) ?_));exact a3 m hm⟩
 | true=>
   have hmd:32≤n∧n<128∧0≤k:=J7 hmay
   obtain⟨N,rfl⟩: ∃ N:Nat,n=((32+N:Nat):Int):=⟨(n-32).toNat,by omega⟩
   obtain⟨K,rfl⟩: ∃ K:Nat,k=(K:Int):=⟨k.toNat,by omega⟩
   have hN:N<96:=by omega
   have hdf:dfH hm (32+N)=bareP (ay hm N):=by unfold dfH;rw [show 32+N-32=N by omega]
   have hg:pN (dfH hm) ((32+N:Nat):Int) (K:Int)=if(aS (bareP (ay hm N))).2≠0 then(iV,(aS (bareP (ay hm N))).2) else if(cq (aS (bareP (ay hm N))).1 K).2.2≠0 then(iV,6) else
    ((ofV (aT (aS (bareP (ay hm N))).1 K)).getD iV,BD (ofV (aT (aS (bareP (ay hm N))).1 K))):=by unfold pN;rw [JV (by rw [hmay];decide),Kd,Kd,hdf]
   rw [hg]
   clear hg hmay hdf
   have hpl:=gK hl hN
   have hrs:=fun(H:au) nx (h:H.at' hb=some (hpO hm))=>l5 (nx:=nx) h hl hN
   have hrl:=sA hpl
   have hno:=l0 (p:=bareP (ay hm N))
   refine cT (R:=fun H1 n1=>n1=nx+1+1∧H1.at' nx=some (eH ((32+N:Nat):Int) (K:Int))∧H1.at' (nx+1)=some (fx (eF dA dA 0 0))∧H1.at' hb=some (hpO hm)∧ ∀ m,m<nx→H1.at' m=H.at' m) ⟨rfl,by repeat(first|exact ac|refine ab (by omega) ?_),by repeat(exact ac),by(repeat(refine ab (by omega) ?_));exact hH,fun m hm=>by(repeat(refine ab (by omega) ?_));rfl⟩ ?_
   rintro H1 n1 ⟨rfl,a1,a2,a4,a3⟩
   repeat first|apply kY;rfl;omega|apply ai;rfl|apply aH;rfl;assumption;rfl|apply aL;rfl;omega;omega
   rw [show((32+N:Nat):Int)-32=(N:Int) by omega]
   by_cases he:(aS (bareP (ay hm N))).2=0
   ·rw [nZ he] at hrs hrl
    rw [JV (fun h=>h he)]
    obtain⟨hpp,hr,hof⟩:=cQ (p:=bareP (ay hm N)) (q:=(aS (bareP (ay hm N))).1) (Prod.ext rfl he) (dY hpl)
    generalize (aS (bareP (ay hm N))).1=p at hrs hrl hpp hr hof ⊢
    dsimp only [Bs] at hrs
    repeat first|apply bE hpp aj;rfl;(focus((repeat(exact ac));done))|refine aZ rfl rfl cj ?_|apply ai;rfl|apply aH;rfl;(focus((repeat(first|assumption|exact ac|refine ab (by omega) ?_));done));rfl|apply bU;rfl;kernel_rfl;exact hrs _ _ a4|apply bv hpp;rfl;(focus((repeat(exact ac));done))
    by_cases hK:ae p≤K∨aq p K=0
    ·have hfd:cq p K=(0,0,6):=by unfold cq;split;rfl;rw [JW (by omega)]
     rw [hfd,JW (by decide)]
     refine aI rfl rfl rfl (by kernel_rfl) (Ko (xI hpp hr hK) ?_)
     rintro⟨_,H2,n2⟩ ⟨rfl,b3,b4⟩
     dsimp only at b3 b4 ⊢
     have c2:H2.at' (nx+1)=some (fx (eF dA dA 0 0)):=(b4 _ (by omega)).trans (by repeat(first|assumption|refine ab (by omega) ?_))
     have co: ∀ m,m<nx→H2.at' m=H.at' m:=fun m hm=>(b4 _ (by omega)).trans (by(repeat(refine ab (by omega) ?_));exact a3 m hm)
     clear b4
     repeat first|apply ai;rfl|apply aH;rfl;assumption;rfl|apply ig;rfl;decide
     ((apply bn Tryz.func16 (congrArg Array.toList Tryz.results16));(focus(repeat(first|exact Kq|apply Ks rfl|apply Kr rfl (Kt (F.ag _ rfl) (by repeat(exact ac)) (am _ 0 rfl rfl))))))
     exact⟨_,nx,rfl,gv _ nx,JK _,by dsimp only;omega,fun m hm=>by(repeat(refine ab (by omega) ?_));exact co m hm⟩
    ·have hs:aq p K≠0:=fun h=>hK (.inr h)
     have hn:K<ae p:=by omega
     have hfd:cq p K=(az p K,aq p K,0):=by unfold cq;rw [JV (by omega),JV hs]
     rw [hfd,JV (fun h=>h rfl)]
     have hil:(aT p K).length≤1024:=by unfold aT;rw [JZ,J2];omega
     have hos:=hof K hn hs
     obtain⟨v,hv⟩: ∃ v,ofV (aT p K)=some v:=by cases h:ofV (aT p K)with|some v=>exact⟨v,rfl⟩|none=>rw [h] at hos;cases hos
     refine aI rfl rfl rfl (by kernel_rfl) (Ko (BN hpp hr hn hs) ?_)
     rintro⟨_,H2,n2⟩ ⟨r,rfl,b1,b2,b3,b4⟩
     dsimp only at b1 b3 b4 ⊢
     have c2:H2.at' (nx+1)=some (fx (eF dA dA 0 0)):=(b4 _ (by omega)).trans (by repeat(first|assumption|refine ab (by omega) ?_))
     have co: ∀ m,m<nx→H2.at' m=H.at' m:=fun m hm=>(b4 _ (by omega)).trans (by(repeat(refine ab (by omega) ?_));exact a3 m hm)
     clear b4
     repeat first|apply ai;rfl|apply dK;rfl;rfl
     refine aI rfl rfl rfl (by kernel_rfl) (Ko (ofr_s (r:=r) (ro:=false) (l:=aT p K) (by rw [← r7];(focus(skip;exact b1))) (by omega)) ?_)
     rintro⟨_,H3,n3⟩ ⟨s',rfl,hF,hat,d3,d4⟩
     rw [← of_eq,hv]
     have hat:=hat v (by rw [← of_eq];exact hv)
     obtain⟨vk,vw,vx,vy,rfl,hk1,hw1⟩:=hF
     have hone:bi (eF vk vw vx vy)=true:=by simp only [bi,hk1,hw1];rfl
     dsimp only [Option.getD,BD] at hat d3 d4 ⊢
     have e2:H3.at' (nx+1)=some (fx (eF dA dA 0 0)):=(d4 _ (by omega)).trans (by assumption)
     have eo: ∀ m,m<nx→H3.at' m=H.at' m:=fun m hm=>(d4 _ (by omega)).trans (by exact co m hm)
     clear d4 co b1 c2
     repeat first|apply ai;rfl|apply aH;rfl;(focus((repeat(first|assumption|exact ac|refine ab (by omega) ?_));done));rfl|refine dp rfl rfl rfl (F.sz _ rfl) (by repeat(first|assumption|exact ac|refine ab (by omega) ?_)) rfl (by exact Jw rfl) hone rfl ?_
     ((apply bn Tryz.func16 (congrArg Array.toList Tryz.results16));(focus(repeat(first|exact Kq|apply Ks rfl|apply Kr rfl (Kt (F.ag _ rfl) (by repeat(exact ac)) (am _ 0 rfl rfl))))))
     exact⟨_,r,rfl,hat.frame (by(repeat(refine ab (by omega) ?_));rfl),by omega,by dsimp only;omega,fun m hm=>by(repeat(refine ab (by omega) ?_));exact eo m hm⟩
   ·rw [vC he] at hrs hrl
    rw [JW he]
    have h13:(aS (bareP (ay hm N))).2=13:=by
     rcases hno with h|h
     ·exact absurd h he
     ·rw [h]
    rw [h13]
    generalize bareP (ay hm N)=p at hrs hrl
    dsimp only [Bs] at hrs hrl
    repeat first|apply bE hrl aj;rfl;(focus((repeat(exact ac));done))|refine aZ rfl rfl cj ?_|apply ai;rfl|apply aH;rfl;(focus((repeat(first|assumption|refine ab (by omega) ?_));done));rfl|apply bU;rfl;kernel_rfl;exact hrs _ _ a4
    ((apply bn Tryz.func16 (congrArg Array.toList Tryz.results16));(focus(repeat(first|exact Kq|apply Ks rfl|apply Kr rfl (Kt (F.ag _ rfl) (by repeat(exact ac)) (am _ 0 rfl rfl))))))
    exact⟨_,nx,rfl,gv _ nx,JK _,by dsimp only;omega,fun m hm=>by(repeat(refine ab (by omega) ?_));exact a3 m hm⟩
theorem np{hb:Nat}{hm:List UInt8}(hH:H.at' hb=some (hpO hm))(hl:hm.length=98304):Fnc Tryz.prog 12 [.ptr hb 0] H nx
 (fun q=>nx≤q.2.2∧(∀ m,m<nx→q.2.1.at' m=H.at' m)∧((mI (dfH hm)=none∧q.1 = .tup [dA,.sc (.bool false)])∨ ∃ l s r,mI (dfH hm)=some l∧q.1 = .tup [s,.sc (.bool true)]∧RowsAt q.2.1 (fun m=>nx≤m∧m<q.2.2) r s l)):=by
 refine Kp Tryz.func12 rfl rfl ?_
 refine aX fun hund=>?_
 have lH:=hund _ _ hH
 clear hund
 have hA:mI (dfH hm)=iS (dfH hm) 96 32:=rfl
 repeat apply ai;rfl
 refine bu (α:=Nat×List lE×SV×Nat) (fun x=> [(0,.ptr hb 0),(4,x.2.2.1),(5,.sc (.int .i64 (x.1:Int)))])
  (fun x H1 n1=>x.1≤96∧iS (dfH hm) 96 32=(iS (dfH hm) (96-x.1) (32+x.1)).map (x.2.1 ++ ·)∧x.2.1.length≤256*x.1∧(nx≤n1∧x.2.2.2<n1)∧RowsAt H1 (fun m=>nx≤m∧m<n1) x.2.2.2 x.2.2.1 x.2.1∧H1.at' hb=some (hpO hm)∧ ∀ m,m<nx→H1.at' m=H.at' m) (fun x=>96-x.1) (0,[],dA,0)
  ⟨JL _,by dsimp only;cases iS (dfH hm) (96-0) (32+0) <;> rfl,by decide,⟨JK _,by dsimp only;omega⟩,.inl ⟨rfl,rfl⟩,hH,fun m hm=>rfl⟩ (Kv (Ky rfl)) ?_
 rintro⟨i,l,s,r0⟩ H1 n1 ⟨i1,i2,i3,i4,i5,i6,i7⟩ ih
 dsimp only at i1 i2 i3 i4 i5 i6 i7 ⊢
 repeat apply ai;rfl
 refine bh rfl rfl rfl rfl (fun h5=>?_) (fun h5=>?_)
 ·have hi:i<96:=by omega
  have hgo:iS (dfH hm) (96-i) (32+i)=if(aS (dfH hm (32+i))).2≠0 then none else(iS (dfH hm) (96-(i+1)) (32+(i+1))).map (oM (32+i) (aS (dfH hm (32+i))).1 ++ ·):=by
   rw [show 96-i=(96-(i+1))+1 by omega]
   rfl
  have hdf:dfH hm (32+i)=bareP (ay hm i):=by unfold dfH;rw [show 32+i-32=i by omega]
  have hpl:=gK hl hi
  rw [hdf] at hgo
  have hrs:=fun(H:au) nx (h:H.at' hb=some (hpO hm))=>l5 (nx:=nx) h hl hi
  by_cases he:(aS (bareP (ay hm i))).2=0
  ·rw [JV (fun g=>g he)] at hgo
   rw [nZ he] at hrs
   obtain⟨hpp,hr,hof⟩:=cQ (p:=bareP (ay hm i)) (q:=(aS (bareP (ay hm i))).1) (Prod.ext rfl he) (dY hpl)
   generalize (aS (bareP (ay hm i))).1=p at hrs hpp hr hof hgo
   dsimp only [Bs] at hrs
   clear he hpl hdf
   have hok:=(bw hpp).1 hr
   have hh:=hok.head
   have ht:=hok.top
   have hll:=eO p (ae p)
   repeat first|apply bE hpp aj;rfl;(focus((repeat(exact ac));done))|refine aZ rfl rfl cj ?_|apply ai;rfl|apply bU;rfl;kernel_rfl;exact hrs _ _ i6|apply bv hpp;rfl;(focus((repeat(exact ac));done))
   refine aI rfl rfl rfl (by kernel_rfl) (Ko (qf hpp) ?_)
   rintro⟨_,H2,n2⟩ ⟨g1,g2,(⟨hr2,rfl⟩|⟨_,rs,rfl,g3,g4,g5⟩)⟩
   ·rw [hr] at hr2;cases hr2
   dsimp only at g1 g2 g3 g4 g5 ⊢
   have k1:H2.at' n1=some (pgO p):=(g2 _ (by omega)).trans (by repeat(exact ac))
   have k2:H2.at' hb=some (hpO hm):=(g2 _ (by omega)).trans (by repeat(first|assumption|refine ab (by omega) ?_))
   have k3:RowsAt H2 (fun m=>nx≤m∧m<n1) r0 s l:=i5.grow fun m hm=>⟨hm,(g2 _ (by omega)).trans (by(repeat(refine ab (by omega) ?_));rfl)⟩
   have ko: ∀ m,m<nx→H2.at' m=H.at' m:=fun m hm=>(g2 m (by omega)).trans (by(repeat(refine ab (by omega) ?_));exact i7 m hm)
   clear g2 i5 i6 i7
   repeat apply ai;rfl
   refine bu (α:=Nat×SV×Nat) (fun x=> [(0,.ptr hb 0),(4,x.2.1),(5,.sc (.int .i64 (i:Int))),(6,.ptr n1 0),(8,.slu rs 0 (eJ p (ae p)).length),(10,.sc (.int .i64 (x.1:Int)))])
    (fun x H3 n3=>x.1≤ae p∧(n2≤n3∧x.2.2≠n1∧x.2.2<n3)∧RowsAt H3 (fun m=>nx≤m∧m<n3∧m≠rs∧(m<rs∨n2≤m)) x.2.2 x.2.1 (l ++ dk (32+i) p x.1)∧H3.at' n1=some (pgO p)∧H3.at' rs=some (slO (eJ p (ae p)))∧H3.at' hb=some (hpO hm)∧ ∀ m,m<nx→H3.at' m=H.at' m) (fun x=>ae p-x.1) (0,s,r0)
    ⟨JL _,⟨JK _,by dsimp only;omega,by dsimp only;omega⟩,by show RowsAt _ _ _ _ (l ++ []);rw [J9];exact k3.grow fun m hm=>⟨⟨hm.1,by omega,by omega,by omega⟩,rfl⟩,k1,g5,k2,ko⟩ (Kv (Ky rfl)) ?_
   clear k1 k2 k3 ko g5
   rintro⟨j,sj,rj⟩ H3 n3 ⟨j1,j2,j3,j4,j5,j6,j7⟩ ih2
   dsimp only at j1 j2 j3 j4 j5 j6 j7 ⊢
   repeat apply ai;rfl
   refine bh rfl rfl rfl rfl (fun h6=>?_) (fun h6=>?_)
   ·have hj:j<ae p:=by omega
    have hcS:=iA p hj
    have hcF:=jI p hj
    have hg:aq p j<65536:=cL p _
    repeat first|refine di (q:=j) rfl rfl rfl rfl (F.un _ rfl) (F.sz _ rfl) (by assumption) (by omega) (by(omega)) (JK _) ?_|refine cd (an (F.ag _ rfl) rfl j5 hcS) rfl rfl rfl ?_|apply ai;rfl
    by_cases hs:aq p j=0
    ·have e1:dk (32+i) p (j+1)=dk (32+i) p j:=by show _ ++ (if _ then _ else _)=_;rw [JW hs,J9]
     rw [← e1] at j3
     repeat first|apply kY;rfl;omega|apply ai;rfl|apply aL;rfl;omega;omega
     exact ih2 _ _ _ (j+1,sj,rj) ⟨hj,j2,j3,j4,j5,j6,j7⟩ (by dsimp only;omega) (Kv (Ky rfl))
    ·have hsl:=cV hr hj hs
     have hil:=dB hpp (j:=j) hsl.2.2.2
     have hba: ∀ H:au,H.at' n1=some (pgO p)→BlkAt H n1 (az p j) (aT p j):=fun H h=>⟨_,h,by
      rw [hil]
      refine am _ _ ?_ (by simp only [J0];omega)
      unfold aT
      simp [List.map_take,List.map_drop]⟩
     have hos:=hof j hj hs
     obtain⟨v,hv⟩: ∃ v,ofV (aT p j)=some v:=by cases h:ofV (aT p j)with|some v=>exact⟨v,rfl⟩|none=>rw [h] at hos;cases hos
     have hof2: ∀ (H:au) nx',H.at' n1=some (pgO p)→Fnc Tryz.prog 36 [.sl n1 (az p j) (aq p j) (1024-az p j)] H nx' (fun q=>q=(.tup [yy n1 (az p j) (1024-az p j) (aT p j),.sc (.bool true)],H,nx')):=fun H nx' h=>by
      have:=Hy (H:=H) (nx:=nx') (r:=n1) (o:=az p j) (C:=1024-az p j) (l:=aT p j) (hba H h) (by omega) (by omega)
      rwa [hil,←of_eq,hv] at this
     obtain⟨vk,vw,hve,hk1,hw1⟩:=DD (hba H3 j4) (C:=1024-az p j) (by omega) (by rw [← of_eq];exact hv)
     rw [hve] at hof2
     have hone:bi (eF vk vw v.2.2.1 v.2.2.2)=true:=by simp only [bi,cF hk1.bs,cF hw1.bs];rfl
     have hone6:bi (rS (32+i) j vk vw v.2.2.1 v.2.2.2)=true:=by simp only [bi,cF hk1.bs,cF hw1.bs];rfl
     have e1:l ++ dk (32+i) p (j+1)=(l ++ dk (32+i) p j) ++ [((32+i,j),v)]:=by
      show l ++ (_ ++ if _ then _ else _)=_
      rw [JV hs,hv,J6]
      rfl
     have hrl:(l ++ dk (32+i) p j).length≤200000:=by have:=iE (32+i) p j;rw [JO];omega
     clear hve hos
     repeat first|apply pK;rfl;omega|apply ai;rfl
     (apply gB;(focus(kernel_rfl));(focus(kernel_rfl)))
     refine dW 17 (Jw rfl) ?_
     repeat first|refine aJ (q:=j) rfl rfl rfl rfl (F.un _ rfl) (F.sz _ rfl) (by assumption) (by omega) (by(omega)) (JK _) ?_|refine bk (an (F.ag _ rfl) rfl j5 hcF) rfl rfl rfl ?_|refine bk (an (F.ag _ rfl) rfl j5 hcS) rfl rfl rfl ?_|apply bH;rfl;rfl;exact(fun _ h=>by cases h);exact(fZ (l:=az p j) (h:=az p j+aq p j) (F.un _ rfl) (F.sz _ rfl) rfl rfl rfl (by omega) (by omega) (by omega) (show az p j+aq p j-az p j=aq p j by omega) rfl (JX _))|apply aU;rfl|refine bk (aw rfl rfl (.inl ⟨rfl,(Js _ ⟨(by focus(omega)),(by focus(omega))⟩).symm⟩)) rfl rfl rfl ?_
     refine aA ?_;(apply dX;rfl;rfl;rfl;(focus(kernel_rfl));exact(hof2 _ _ j4))
     refine jw ?_
     repeat first|refine bY rfl rfl rfl (F.sz _ rfl) (by repeat(first|assumption|exact ac)) rfl (by exact Jw rfl) hone rfl ?_|apply aU;rfl|refine pW (fj (F.zl _ rfl)) rfl rfl rfl ?_
     refine aA ⟨by kernel_rfl,?_,?_⟩;(focus(repeat(first|exact Kz|refine⟨.inl rfl,?_⟩|refine⟨.inr (.inl (by(repeat(refine⟨(by first|exact mO rfl|exact aw rfl rfl (.inl ⟨rfl,(Js _ ⟨by omega,by omega⟩).symm⟩)|exact an (F.ag _ rfl) rfl (by(repeat(refine ab (by omega) ?_));exact j5) hcF|exact an (F.ag _ rfl) rfl (by(repeat(refine ab (by omega) ?_));exact j5) hcS|exact aQ (F.un _ rfl) (F.sz _ rfl) rfl rfl (by(repeat(refine ab (by omega) ?_));exact j5) rfl (by omega) (JK _)|exact fZ (l:=az p j) (h:=az p j+aq p j) (F.un _ rfl) (F.sz _ rfl) rfl rfl rfl (by omega) (by omega) (by omega) (show az p j+aq p j-az p j=aq p j by omega) rfl (JX _)),?_⟩));exact Kz)),?_⟩|refine⟨.inr (.inr (by(repeat(refine⟨(by exact ew rfl (by kernel_rfl) (by exact hof2 _ _ (by(repeat(refine ab (by omega) ?_));exact j4))),?_⟩));exact Kz)),?_⟩)))
     refine cT (R:=fun H4 n4=>n4=n3+1∧H4.at' n3=some (fx (eF vk vw v.2.2.1 v.2.2.2))∧RowsAt H4 (fun m=>nx≤m∧m<n3∧m≠rs∧(m<rs∨n2≤m)) rj sj (l ++ dk (32+i) p j)∧BlkS H4 vk n1 v.1∧BlkS H4 vw n1 v.2.1∧H4.at' n1=some (pgO p)∧H4.at' rs=some (slO (eJ p (ae p)))∧H4.at' hb=some (hpO hm)∧ ∀ m,m<nx→H4.at' m=H.at' m)
      ⟨rfl,by repeat(exact ac),j3.grow fun m hm=>⟨hm,by(repeat(refine ab (by omega) ?_));rfl⟩,hk1.frame (by(repeat(refine ab (by omega) ?_));rfl),hw1.frame (by(repeat(refine ab (by omega) ?_));rfl),by repeat(first|assumption|refine ab (by omega) ?_),by repeat(first|assumption|refine ab (by omega) ?_),by repeat(first|assumption|refine ab (by omega) ?_),fun m hm=>by(repeat(refine ab (by omega) ?_));exact j7 m hm⟩ ?_
     rintro H4 n4 ⟨rfl,m0,m1,m2,m3,m4,m5,m6,m7⟩
     clear j3 j4 j5 j6 j7 hba hof2 hk1 hw1 hcS hcF
     dsimp only
     generalize l ++ dk (32+i) p j=lj at m1 hrl e1
     rcases m1 with ⟨rfl,rfl⟩|⟨ws,L,h0,rfl,h2,h3,h4,h6'⟩
     ·repeat first|apply ai;rfl|apply aH;rfl;assumption;rfl|apply aL;rfl;omega;omega|refine bq (cs:=rS (32+i) j vk vw v.2.2.1 v.2.2.2) rfl rfl (F.un _ rfl) (F.sz _ rfl) rfl (F.ze _ rfl) rfl rfl hone6 rfl rfl ?_
      refine vj (b:=80) (n:=1) (cs:=rS (32+i) j vk vw v.2.2.1 v.2.2.2) rfl rfl rfl rfl (F.un _ rfl) (.inl ⟨_,F.un _ rfl⟩) (F.sz _ rfl) rfl (by kernel_rfl) (by kernel_rfl) (SlOf.row (by repeat(exact ac)) rfl) hone6 (by decide) (by decide) ?_
      rintro _ _ _ (⟨h,_⟩|⟨_,rfl,rfl,rfl⟩)
      ·exact absurd h (by decide)
      repeat first|apply ai;rfl|apply aL;rfl;omega;omega
      refine ih2 _ _ _ (j+1,_,n3+1+1) ⟨hj,⟨by first|omega|(dsimp only;omega),by first|omega|(dsimp only;omega),by first|omega|(dsimp only;omega)⟩,?_,by repeat(first|assumption|refine ab (by omega) ?_),by repeat(first|assumption|refine ab (by omega) ?_),by repeat(first|assumption|refine ab (by omega) ?_),fun m hm=>by(repeat(refine ab (by omega) ?_));exact m7 m hm⟩ (by dsimp only;omega) (Kv (Ky rfl))
      dsimp only
      rw [e1]
      refine .inr ⟨rS (32+i) j vk vw v.2.2.1 v.2.2.2,[n1],by simp,rfl,by repeat(exact ac),fun m hm=>?_,⟨by omega,by omega,by omega,by omega⟩,vk,vw,[],n1,rfl,J1.2 rfl,m2.frame (by(repeat(refine ab (by omega) ?_));rfl),m3.frame (by(repeat(refine ab (by omega) ?_));rfl),rfl⟩
      obtain rfl:=J1.1 hm
      exact⟨⟨by omega,by omega,by omega,by omega⟩,by omega⟩
     ·repeat first|apply ai;rfl|apply aH;rfl;assumption;rfl|apply aL;rfl;omega;omega|refine bq (cs:=rS (32+i) j vk vw v.2.2.1 v.2.2.2) rfl rfl (F.un _ rfl) (F.sz _ rfl) rfl (F.ze _ rfl) rfl rfl hone6 rfl rfl ?_
      refine CG (b:=80) (m:=1) (r:=rj) (ws:=ws) (cs:=rS (32+i) j vk vw v.2.2.1 v.2.2.2) rfl rfl rfl rfl (F.un _ rfl) (.inl ⟨_,F.un _ rfl⟩) (F.sz _ rfl) rfl (by kernel_rfl) (by kernel_rfl) (by(repeat(refine ab (by omega) ?_));exact h2) h6'.len (SlOf.cells (SlOf.row (by repeat(exact ac)) rfl)) hone6 (by decide) (by omega) (by omega) ?_
      repeat first|apply ai;rfl|apply aL;rfl;omega;omega
      have hlen1:(lj ++ [((32+i,j),v)]).length=lj.length+1:=by simp
      refine ih2 _ _ _ (j+1,_,n3+1+1) ⟨hj,⟨by first|omega|(dsimp only;omega),by first|omega|(dsimp only;omega),by first|omega|(dsimp only;omega)⟩,?_,by repeat(first|assumption|refine ab (by omega) ?_|refine bQ (by omega) ?_),by repeat(first|assumption|refine ab (by omega) ?_|refine bQ (by omega) ?_),by repeat(first|assumption|refine ab (by omega) ?_|refine bQ (by omega) ?_),fun m hm=>by(repeat(first|refine ab (by omega) ?_|refine bQ (by omega) ?_));exact m7 m hm⟩ (by dsimp only;omega) (Kv (Ky rfl))
      dsimp only
      rw [e1]
      refine .inr ⟨ws ++ rS (32+i) j vk vw v.2.2.1 v.2.2.2,n1 :: L,by omega,by rw [hlen1],by rw [hlen1];(focus((repeat(exact ac));done)),fun m hm=>?_,⟨by omega,by omega,by omega,by omega⟩,?_⟩
      ·rcases Ka.1 hm with rfl|hm
       ·exact⟨⟨by omega,by omega,by omega,by omega⟩,by omega⟩
       ·have:=h3 m hm
        exact⟨⟨by omega,by omega,by omega,by omega⟩,by omega⟩
      ·refine RowsC.snoc (y:=((32+i,j),v)) (s1:=vk) (s2:=vw) (r:=n1) J3 (m2.frame (by(repeat(first|refine ab (by omega) ?_|refine bQ (by omega) ?_));rfl)) (m3.frame (by(repeat(first|refine ab (by omega) ?_|refine bQ (by omega) ?_));rfl)) (h6'.frame fun m hm=>⟨J4 _ hm,?_⟩)
       have:=h3 m hm
       (focus((repeat(first|refine ab (by omega) ?_|refine bQ (by omega) ?_));rfl))
   ·have hj:j=ae p:=by omega
    subst hj
    repeat first|apply ai;rfl|apply aL;rfl;omega;omega
    refine ih _ _ _ (i+1,l ++ oM (32+i) p,sj,rj) ⟨hi,?_,?_,⟨by first|omega|(dsimp only;omega),by first|omega|(dsimp only;omega)⟩,j3.grow fun m hm=>⟨⟨hm.1,hm.2.1⟩,rfl⟩,j6,j7⟩ (by dsimp only;omega) (Kv (Ky rfl))
    ·dsimp only
     rw [i2,hgo,Option.map_map]
     congr 1
     funext x
     simp
    ·have:(oM (32+i) p).length≤ae p:=iE (32+i) p (ae p)
     dsimp only
     rw [JO]
     omega
  ·rw [JW he] at hgo
   rw [vC he] at hrs
   have hbl:=dY hpl
   generalize bareP (ay hm i)=p at hrs hbl
   dsimp only [Bs] at hrs
   repeat first|apply bE hbl aj;rfl;(focus((repeat(exact ac));done))|refine aZ rfl rfl cj ?_|apply ai;rfl|apply bU;rfl;kernel_rfl;exact hrs _ _ i6
   (apply bP Tryz.func12 Tryz.results12;rfl)
   exact⟨by first|omega|(dsimp only;omega),fun m hm=>by(repeat(refine ab (by omega) ?_));exact i7 m hm,.inl ⟨by rw [hA,i2,hgo];rfl,rfl⟩⟩
 ·have hi:i=96:=by omega
  subst hi
  repeat apply ai;rfl
  (apply bP Tryz.func12 Tryz.results12;rfl)
  exact⟨i4.1,i7,.inr ⟨l,s,r0,by rw [hA,i2];show some (l ++ [])=_;rw [J9],rfl,i5⟩⟩
theorem oL(n:Nat)(p:List UInt8): ∀ j,∀ x∈dk n p j,x.1.1=n
 | 0,x,h=>by cases h
 | j+1,x,h=>by
   unfold dk at h
   rcases List.mem_append.1 h with h|h
   ·exact oL n p j x h
   ·split at h
    ·cases h
    ·rw [J1.1 h]
theorem wV{pf:Nat→List UInt8}: ∀ (k n:Nat),(∀ m,n≤m→m<n+k→GoodP (pf m))→ ∃ l,iS pf k n=some l∧l.length≤300*k∧ ∀ x∈l,n≤x.1.1∧x.1.1<n+k
 | 0,n,_=>⟨[],rfl,JL _,fun x hx=>by cases hx⟩
 | k+1,n,h=>by
   obtain⟨q,hq,hQ⟩:=(h n (JK _) (by omega)).read
   obtain⟨l,h1,h2,h3⟩:=wV k (n+1) fun m a b=>h m (by omega) (by omega)
   have hs:ae q≤300:=by
    have h1:=hQ.ok.head
    have h2:=hQ.ok.top
    omega
   have hr:(oM n q).length≤ae q:=iE n q (ae q)
   refine⟨oM n q ++ l,?_,?_,fun x hx=>?_⟩
   ·unfold iS
    rw [hq,JV (fun e=>e rfl),h1]
    rfl
   ·rw [JO]
    omega
   ·rcases List.mem_append.1 hx with hx|hx
    ·have:=oL n q (ae q) x hx
     omega
    ·have:=h3 x hx
     omega
theorem gS(h:Hv mem): ∃ l,mI (ay mem)=some l∧l.length≤28800∧ ∀ x∈l,32≤x.1.1∧x.1.1<128:=by
 obtain⟨l,h1,h2,h3⟩:=wV (pf:=ay mem) 96 32 fun m a b=>h.good m a (by omega)
 exact⟨l,h1,by omega,fun x hx=>by have:=h3 x hx;omega⟩
def Tch(mem mem':List UInt8):Prop:= ∃ n0,∀ n,n≠n0→ay mem n=zeroP→ay mem' n=zeroP
theorem iZ(mem:List UInt8):Tch mem mem:=⟨0,fun _ _ h=>h⟩
theorem qH{x:List UInt8}(hm:mem.length=131072)(h2:n<128)(hx:x.length=1024):Tch mem (gD mem n x):=⟨n,fun k hk h0=>by
 rw [iG (by omega) hx,JV hk]
 exact h0⟩
theorem w7:ae (aS zeroP).1=0:=by kernel_rfl
theorem qb: ∀ {ps:List (Nat×List UInt8)} {mem:List UInt8} {n:Nat},mem.length=131072→(∀ x∈ps,x.1<128∧x.2.length=1024)→(∀ x∈ps,x.1≠n)→ay (ld mem ps) n=ay mem n
 | [],_,_,_,_,_=>rfl
 | (a,x) :: ps,mem,n,hm,hp,hn=>by
   have h1:=hp _ J3
   dsimp only at h1
   have h2:=qb (ps:=ps) (mem:=gD mem a x) (n:=n) (kE hm h1.1 h1.2) (fun y hy=>hp y (J4 _ hy)) (fun y hy=>hn y (J4 _ hy))
   have h3:a≠n:=hn _ J3
   show ay (ld (gD mem a x) ps) n=_
   rw [h2,iG (by omega) h1.2,JV (fun e=>h3 e.symm)]
theorem Bi(h0:ay mem n=zeroP): ∀ x∈(fD (ay mem) l).2,x.1≠n:=by
 unfold fD
 by_cases h1:s6 l
 ·rw [JV (fun e=>e h1)]
  by_cases h2:lM (ay mem) l
  ·rw [JV (fun e=>e h2)]
   intro x hx e
   obtain⟨k,hk,rfl⟩:=Ki.1 hx
   dsimp only at e
   subst e
   obtain⟨_,_,hs⟩:=cY.1 hk
   obtain⟨j,hj⟩:=List.exists_mem_of_ne_nil _ hs
   have h3:=J7 ((jW h1).1 h2 _ hk j hj)
   rw [h0,w7] at h3
   omega
  ·rw [JW h2]
   intro x hx
   cases hx
 ·rw [JW h1]
  intro x hx
  cases hx
theorem qI(hv:Hv mem)(l:List (Int×Int)):Tch mem (ld mem (fD (ay mem) l).2):=⟨0,fun n _ h0=>by
 rw [qb hv.len (fun x hx=>⟨(ga hv x hx).2.1,(ga hv x hx).2.2.len⟩) (Bi h0)]
 exact h0⟩
def qy(H:au)(nx b h:Nat)(mem:List UInt8)(left puts:Int)(q:Res):Prop:=q.1 = .sc (.bool true)∧ ∃ (mem':List UInt8) (left' puts':Int),q.2.1.at' b=some (cC mem' left' puts')∧q.2.1.at' h=some (hpO (dC mem'))∧Hv mem'∧(left-96≤left'∧left'≤left)∧(puts≤puts'∧puts'≤puts+96)∧nx≤q.2.2∧(∀ m,m<nx→m≠b→m≠h→q.2.1.at' m=H.at' m)∧Tch mem mem'
def AP(H:au)(nx b h:Nat)(x:ow):Prop:= ∀ H':au,(∀ m,m<nx→m≠b→m≠h→H'.at' m=H.at' m)→ActIs H' x
abbrev tR(x:ow):VO:=ar 42 (rT x)
theorem do0_s(hb:H.at' b=some (cC mem left puts))(hh:H.at' h=some (hpO (dC mem)))(hv:Hv mem)(hx:ActIs H x)(hk:x.1.kind≠1∧x.1.kind≠2∧x.1.kind≠3∧x.1.kind≠4):Fnc Tryz.prog 9 [.ptr b 0,.ptr h 0,.agg (rT x)] H nx (qy H nx b h mem left puts):=by
 have hone:bi (rT x)=true:=by simp only [bi,cF hx.1,cF hx.2];rfl
 refine Kp Tryz.func9 rfl rfl ?_
 refine aX fun hund=>?_
 have lb:=hund _ _ hb
 have lh:=hund _ _ hh
 obtain⟨rows,hal,hrl,hrn⟩:=gS hv
 have hdoc:mI (dfH (dC mem))=some rows:=(kU fun n a b=>fq hv a b).trans hal
 repeat apply ai;rfl
 refine aI rfl rfl rfl (by kernel_rfl) (Ko (np (hm:=dC mem) (by repeat(first|assumption|refine ab (by omega) ?_)) (dy hv.len)) ?_)
 rintro⟨_,H1,n1⟩ ⟨u1,u2,⟨u3,_⟩|⟨rows',s,rr,u3,rfl,u4⟩⟩
 ·rw [hdoc] at u3
  cases u3
 rw [hdoc] at u3
 cases u3
 dsimp only at u1 u2 u4 ⊢
 have c1:H1.at' nx=some (tR x):=(u2 nx (by omega)).trans (by repeat(exact ac))
 have cb:H1.at' b=some (cC mem left puts):=(u2 b (by omega)).trans (by repeat(first|assumption|refine ab (by omega) ?_))
 have ch:H1.at' h=some (hpO (dC mem)):=(u2 h (by omega)).trans (by repeat(first|assumption|refine ab (by omega) ?_))
 have co: ∀ m,m<nx→H1.at' m=H.at' m:=fun m hm=>(u2 m (by omega)).trans (by(repeat(refine ab (by omega) ?_));rfl)
 repeat first|refine cZ rfl rfl rfl (F.ag _ rfl) cb (dv hv.len _ _) ?_|apply ai;rfl|apply aH;rfl;assumption;rfl
 obtain⟨k1,k2,k3,k4⟩:=hk
 repeat first|apply ai;rfl|apply ig;rfl;omega
 (apply bP Tryz.func9 Tryz.results9;rfl)
 exact⟨rfl,mem,left,puts,cb,ch,hv,⟨by omega,by omega⟩,⟨by omega,by omega⟩,by first|omega|(dsimp only;omega),fun m hm _ _=>co m hm,iZ _⟩
theorem iR(x:ow):(tR x).cellsFrom (0+6) 2=some [.sc (.int .i64 x.1.tid.1),.sc (.int .i64 x.1.tid.2)]:=am 2 6 rfl rfl
theorem pz(x:ow):(tR x).cellsFrom (0+2) 4=some [x.2.1,x.2.2,.sc (.int .u64 (x.1.ver.2.2.1:Int)),.sc (.int .u64 (x.1.ver.2.2.2:Int))]:=am 4 2 rfl rfl
theorem zE{k w:SV}(hk:BsIs H k (byV v.1))(hw:BsIs H w (byV v.2.1))(x y:Nat):bi [k,w,.sc (.int .u64 (x:Int)),.sc (.int .u64 (y:Int))]=true:=by
 simp only [bi,cF hk,cF hw]
 rfl
theorem do4_s(hb:H.at' b=some (cC mem left puts))(hh:H.at' h=some (hpO (dC mem)))(hv:Hv mem)(hx:ActIs H x)(hk:x.1.kind=4):Fnc Tryz.prog 9 [.ptr b 0,.ptr h 0,.agg (rT x)] H nx (qy H nx b h mem left puts):=by
 have hone:bi (rT x)=true:=by simp only [bi,cF hx.1,cF hx.2];rfl
 refine Kp Tryz.func9 rfl rfl ?_
 refine aX fun hund=>?_
 have lb:=hund _ _ hb
 have lh:=hund _ _ hh
 obtain⟨rows,hal,hrl,hrn⟩:=gS hv
 have hdoc:mI (dfH (dC mem))=some rows:=(kU fun n a b=>fq hv a b).trans hal
 repeat apply ai;rfl
 refine aI rfl rfl rfl (by kernel_rfl) (Ko (np (hm:=dC mem) (by repeat(first|assumption|refine ab (by omega) ?_)) (dy hv.len)) ?_)
 rintro⟨_,H1,n1⟩ ⟨u1,u2,⟨u3,_⟩|⟨rows',s,rr,u3,rfl,u4⟩⟩
 ·rw [hdoc] at u3
  cases u3
 rw [hdoc] at u3
 cases u3
 dsimp only at u1 u2 u4 ⊢
 have c1:H1.at' nx=some (tR x):=(u2 nx (by omega)).trans (by repeat(exact ac))
 have cb:H1.at' b=some (cC mem left puts):=(u2 b (by omega)).trans (by repeat(first|assumption|refine ab (by omega) ?_))
 have ch:H1.at' h=some (hpO (dC mem)):=(u2 h (by omega)).trans (by repeat(first|assumption|refine ab (by omega) ?_))
 have co: ∀ m,m<nx→H1.at' m=H.at' m:=fun m hm=>(u2 m (by omega)).trans (by(repeat(refine ab (by omega) ?_));rfl)
 repeat first|refine cZ rfl rfl rfl (F.ag _ rfl) cb (dv hv.len _ _) ?_|apply ai;rfl|apply aH;rfl;assumption;rfl
 repeat first|apply ai;rfl|apply ig;rfl;omega
 refine cI rfl rfl rfl rfl (fun _=>?_) (fun e=>absurd hk (by omega))
 repeat first|refine dP rfl rfl rfl (F.ag _ rfl) c1 (iR x) ?_|apply ai;rfl
 refine aI rfl rfl rfl (by kernel_rfl) (Ko (get_g (b:=b) (mem:=mem) (left:=left) (puts:=puts) (by assumption) hv.len) ?_)
 rintro⟨_,H2,n2⟩ ⟨s1,r1,rfl,d1,d2,d3,d4⟩
 dsimp only at d1 d2 d3 d4 ⊢
 refine aX fun hund2=>?_
 have e1:H2.at' nx=some (tR x):=(d4 _ (by omega)).trans c1
 have e2:H2.at' h=some (hpO (dC mem)):=(d4 _ (by omega)).trans ch
 have e3: ∀ m,m<nx→H2.at' m=H.at' m:=fun m hm=>(d4 _ (by omega)).trans (co m hm)
 generalize hG:pN (ay mem) x.1.tid.1 x.1.tid.2=G at d1
 obtain⟨kA,wA,rfl,hkA,hwA⟩:=d1
 have oA:=zE hkA.bs hwA.bs
 repeat first|refine dP rfl rfl rfl (F.ag _ rfl) (by(repeat(refine ab (by omega) ?_));exact e1) (iR x) ?_|refine dp rfl rfl rfl (F.sz _ rfl) (by repeat(first|assumption|exact ac)) rfl (by exact Jw rfl) (oA _ _) rfl ?_|apply ai;rfl
 refine aI rfl rfl rfl (by kernel_rfl) (Ko (uL (hb:=h) (hm:=dC mem) (by(repeat(refine ab (by omega) ?_));exact e2) (dy hv.len)) ?_)
 rintro⟨_,H3,n3⟩ ⟨s3,r3,rfl,f1,f2,f3,f4⟩
 dsimp only at f1 f2 f3 f4 ⊢
 rw [BW (fun n a b=>fq hv a b),hG] at f1 ⊢
 refine aX fun hund3=>?_
 have vA:VerIs H2 (pM kA wA G.1.2.2.1 G.1.2.2.2) G.1:=⟨kA,wA,rfl,hkA.bs,hwA.bs⟩
 have vA3:VerIs H3 (pM kA wA G.1.2.2.1 G.1.2.2.2) G.1:=vA.frame fun m vo hm=>by
  have:=hund2 m vo hm
  exact(f4 m (by omega)).trans (by(repeat(refine ab (by omega) ?_));exact hm)
 have vB3:=f1.is
 obtain⟨kB,wB,rfl,hkB,hwB⟩:=f1
 have oB:=zE hkB.bs hwB.bs
 have g1:H3.at' n2=some (ar 38 [kA,wA,.sc (.int .u64 (G.1.2.2.1:Int)),.sc (.int .u64 (G.1.2.2.2:Int))]):=(f4 _ (by omega)).trans (by repeat(exact ac))
 have g3: ∀ m,m<nx→H3.at' m=H.at' m:=fun m hm=>(f4 _ (by omega)).trans (by(repeat(refine ab (by omega) ?_));exact e3 m hm)
 have hs: ∀ (H':au) (nx':Nat),(∀ m,m<n3→H'.at' m=H3.at' m)→Fnc Tryz.prog 17 [pM kA wA G.1.2.2.1 G.1.2.2.2,pM kB wB G.1.2.2.1 G.1.2.2.2] H' nx' (fun q=>q=(.sc (.bool true),H',nx')):=fun H' nx' hh=>Hb (vA3.frame fun m vo hm=>(hh m (hund3 m vo hm)).trans hm) (vB3.frame fun m vo hm=>(hh m (hund3 m vo hm)).trans hm)
 repeat first|refine dp rfl rfl rfl (F.sz _ rfl) (by repeat(first|assumption|exact ac)) rfl (by exact Jw rfl) (oB _ _) rfl ?_|apply dK;rfl;rfl|refine dP rfl rfl rfl (F.ag _ rfl) (by repeat(first|assumption|exact ac|refine ab (by omega) ?_)) (am 4 0 rfl rfl) ?_|apply ai;rfl
 refine aI rfl rfl rfl (by kernel_rfl) (Ko (hs _ _ fun m hm=>by(repeat(refine ab (by omega) ?_));rfl) ?_)
 rintro _ rfl
 dsimp only
 repeat apply ai;rfl
 (apply bP Tryz.func9 Tryz.results9;rfl)
 exact⟨rfl,mem,left,puts,by(repeat(refine ab (by omega) ?_));exact(g3 b lb).trans hb,by(repeat(refine ab (by omega) ?_));exact(g3 h lh).trans hh,hv,⟨by omega,by omega⟩,⟨by omega,by omega⟩,by first|omega|(dsimp only;omega),fun m hm _ _=>by(repeat(refine ab (by omega) ?_));exact g3 m hm,iZ _⟩
theorem z4(hv:Hv mem)(v:gt):((lg (ay mem) v false).1.2.2≠0∧(lg (ay mem) v false).2=none)∨((lg (ay mem) v false).1.2.2=0∧ ∃ n y,(lg (ay mem) v false).2=some (n,y)∧32≤n∧n<128∧GoodP y):=by
 have hg:=fun n y=>BP (n:=n) (x:=y) (d:=false) (v:=v) hv
 generalize hI:lg (ay mem) v false=I at hg
 unfold lg at hI
 by_cases h1:iJ v=false
 ·rw [JW h1] at hI
  subst hI
  exact .inl ⟨by decide,rfl⟩
 ·rw [JV h1] at hI
  by_cases h2:(cu (ay mem) (aO v) 96 32).1≠0
  ·rw [JW h2] at hI
   subst hI
   exact .inl ⟨h2,rfl⟩
  ·rw [JV h2,JV (by decide)] at hI
   subst hI
   exact .inr ⟨rfl,_,_,rfl,hg _ _ rfl⟩
theorem HK(h:iJ v=false):lg (ay mem) v false=((0,0,2),none):=by
 unfold lg
 rw [JW h]
theorem do1_s(hb:H.at' b=some (cC mem left puts))(hh:H.at' h=some (hpO (dC mem)))(hne:b≠h)(hv:Hv mem)(hx:AP H nx b h x)(hk:x.1.kind=1)(hl : -1000000≤left∧left<0)(hp:0≤puts∧puts≤1000000):Fnc Tryz.prog 9 [.ptr b 0,.ptr h 0,.agg (rT x)] H nx (qy H nx b h mem left puts):=by
 have hx0:=hx H fun _ _ _ _=>rfl
 have hone:bi (rT x)=true:=by simp only [bi,cF hx0.1,cF hx0.2];rfl
 have hd:decide (left=0)=false:=Kf (by omega)
 refine Kp Tryz.func9 rfl rfl ?_
 refine aX fun hund=>?_
 have lb:=hund _ _ hb
 have lh:=hund _ _ hh
 obtain⟨rows,hal,hrl,hrn⟩:=gS hv
 have hdoc:mI (dfH (dC mem))=some rows:=(kU fun n a b=>fq hv a b).trans hal
 repeat apply ai;rfl
 refine aI rfl rfl rfl (by kernel_rfl) (Ko (np (hm:=dC mem) (by repeat(first|assumption|refine ab (by omega) ?_)) (dy hv.len)) ?_)
 rintro⟨_,H1,n1⟩ ⟨u1,u2,⟨u3,_⟩|⟨rows',s,rr,u3,rfl,u4⟩⟩
 ·rw [hdoc] at u3
  cases u3
 rw [hdoc] at u3
 cases u3
 dsimp only at u1 u2 u4 ⊢
 have c1:H1.at' nx=some (tR x):=(u2 nx (by omega)).trans (by repeat(exact ac))
 have cb:H1.at' b=some (cC mem left puts):=(u2 b (by omega)).trans (by repeat(first|assumption|refine ab (by omega) ?_))
 have ch:H1.at' h=some (hpO (dC mem)):=(u2 h (by omega)).trans (by repeat(first|assumption|refine ab (by omega) ?_))
 have co: ∀ m,m<nx→H1.at' m=H.at' m:=fun m hm=>(u2 m (by omega)).trans (by(repeat(refine ab (by omega) ?_));rfl)
 repeat first|refine cZ rfl rfl rfl (F.ag _ rfl) cb (dv hv.len _ _) ?_|apply ai;rfl|apply aH;rfl;assumption;rfl
 refine cI rfl rfl rfl rfl (fun _=>?_) (fun e=>absurd hk (by omega))
 have vr: ∀ (H':au),(∀ m,m<nx→m≠b→m≠h→H'.at' m=H.at' m)→VerIs H' (pM x.2.1 x.2.2 x.1.ver.2.2.1 x.1.ver.2.2.2) x.1.ver:=fun H' hf=>⟨_,_,rfl,(hx H' hf).1,(hx H' hf).2⟩
 repeat first|refine dP rfl rfl rfl (F.ag _ rfl) c1 (pz x) ?_|apply ai;rfl
 refine aI rfl rfl rfl (by kernel_rfl) (Ko (wk (b:=b) (mem:=mem) (left:=left) (puts:=puts) cb hv.len (vr H1 fun m hm _ _=>co m hm) (by omega) (by omega)) ?_)
 rintro⟨_,H2,n2⟩ ⟨rfl,d2,d3,d4⟩
 dsimp only at d2 d3 d4 ⊢
 rw [hd] at d2 ⊢
 have e1:H2.at' nx=some (tR x):=(d4 _ (by omega) (by omega)).trans c1
 have e2:H2.at' h=some (hpO (dC mem)):=(d4 _ (by omega) (Ne.symm hne)).trans ch
 have e3: ∀ m,m<nx→m≠b→H2.at' m=H.at' m:=fun m hm hmb=>(d4 _ (by omega) hmb).trans (co m hm)
 have hc:=z4 hv x.1.ver
 have hno:=HK (mem:=mem) (v:=x.1.ver)
 have hdI:lg (dfH (dC mem)) x.1.ver false=lg (ay mem) x.1.ver false:=BR (fun n a b=>fq hv a b) _ _
 generalize lg (ay mem) x.1.ver false=I at hc hno hdI d2 ⊢
 repeat first|refine dP rfl rfl rfl (F.ag _ rfl) (by(repeat(refine ab (by omega) ?_));exact e1) (pz x) ?_|apply ai;rfl|apply aH;rfl;(focus((repeat(exact ac));done));rfl
 refine aI rfl rfl rfl (by kernel_rfl) (Ko (zR (vr _ fun m hm hmb _=>by(repeat(refine ab (by omega) ?_));exact e3 m hm hmb)) ?_)
 rintro _ rfl
 dsimp only
 cases hm:iJ x.1.ver with
 | false=>
   rw [hno hm] at d2 ⊢
   have d2':H2.at' b=some (cC mem left puts):=d2
   repeat first|refine cZ rfl rfl rfl (F.ag _ rfl) (by(repeat(refine ab (by omega) ?_));exact d2') (dv hv.len _ _) ?_|apply dK;rfl;rfl|apply oz (r:=true) (a:=(0,0)) (b:=(0,0)) (hr:=gj.2 rfl);rfl;rfl;rfl;rfl|apply ai;rfl|apply aH;rfl;(focus((repeat(exact ac));done));rfl
   (apply bP Tryz.func9 Tryz.results9;rfl)
   exact⟨rfl,mem,left,puts,by(repeat(refine ab (by omega) ?_));exact d2',by(repeat(refine ab (by omega) ?_));exact e2,hv,⟨by omega,by omega⟩,⟨by omega,by omega⟩,by first|omega|(dsimp only;omega),fun m hm hmb _=>by(repeat(refine ab (by omega) ?_));exact e3 m hm hmb,iZ _⟩
 | true=>
   repeat first|refine dP rfl rfl rfl (F.ag _ rfl) (by(repeat(refine ab (by omega) ?_));exact e1) (pz x) ?_|apply ai;rfl
   refine aI rfl rfl rfl (by kernel_rfl) (Ko (Et (hb:=h) (hm:=dC mem) (by(repeat(refine ab (by omega) ?_));exact e2) (dy hv.len) (vr _ fun m hm hmb _=>by(repeat(refine ab (by omega) ?_));exact e3 m hm hmb) hm) ?_)
   rintro⟨_,H3,n3⟩ ⟨rfl,f2,f3,f4⟩
   dsimp only at f2 f3 f4 ⊢
   rw [hdI] at f2 ⊢
   have g1:H3.at' n2=some (eH (I.1.1:Int) (I.1.2.1:Int)):=(f4 _ (by omega) (by omega)).trans (by repeat(exact ac))
   have g2:H3.at' b=some (putO mem left puts I.2):=(f4 _ (by omega) hne).trans (by(repeat(refine ab (by omega) ?_));exact d2)
   have g3: ∀ m,m<nx→m≠b→m≠h→H3.at' m=H.at' m:=fun m hm hmb hmh=>(f4 _ (by omega) hmh).trans (by(repeat(refine ab (by omega) ?_));exact e3 m hm hmb)
   clear d4 f4
   rcases hc with ⟨hc1,hc2⟩|⟨hc1,n,y,hc2,hc3,hc4,hc5⟩
   ·rw [hc2] at f2 g2
    have g2':H3.at' b=some (cC mem left puts):=g2
    have f2':H3.at' h=some (hpO (dC mem)):=f2
    repeat first|apply dK;rfl;rfl|apply ig;rfl;omega|apply oz (r:=true) (a:=((I.1.1:Int),(I.1.2.1:Int))) (b:=((I.1.1:Int),(I.1.2.1:Int))) (hr:=gj.2 rfl);rfl;rfl;rfl;rfl|apply ai;rfl|apply aH;rfl;(focus((repeat(first|assumption|exact ac|refine ab (by omega) ?_));done));rfl
    (apply bP Tryz.func9 Tryz.results9;rfl)
    exact⟨rfl,mem,left,puts,by(repeat(refine ab (by omega) ?_));exact g2',by(repeat(refine ab (by omega) ?_));exact f2',hv,⟨by omega,by omega⟩,⟨by omega,by omega⟩,by first|omega|(dsimp only;omega),fun m hm hmb hmh=>by(repeat(refine ab (by omega) ?_));exact g3 m hm hmb hmh,iZ _⟩
   ·rw [hc2] at f2 g2
    have g2':H3.at' b=some (cC (gD mem n y) (left-1) (puts+1)):=g2
    have f2':H3.at' h=some (hpO (gD (dC mem) (n-32) y)):=f2
    rw [← mt hv.len hc3 hc4 hc5.len] at f2'
    have hv2:=hv.set hc3 hc4 hc5
    repeat first|refine cZ rfl rfl rfl (F.ag _ rfl) (by(repeat(refine ab (by omega) ?_));exact g2') (dv hv2.len _ _) ?_|apply dK;rfl;rfl|apply dK;rfl;omega|apply oz (r:=true) (a:=((I.1.1:Int),(I.1.2.1:Int))) (b:=((I.1.1:Int),(I.1.2.1:Int))) (hr:=gj.2 rfl);rfl;rfl;rfl;rfl|apply ai;rfl|apply aH;rfl;(focus((repeat(first|assumption|exact ac|refine ab (by omega) ?_));done));rfl|apply aL;rfl;omega;omega
    (apply bP Tryz.func9 Tryz.results9;rfl)
    exact⟨rfl,gD mem n y,left-1,puts+1,by(repeat(refine ab (by omega) ?_));exact g2',by(repeat(refine ab (by omega) ?_));exact f2',hv2,⟨by omega,by omega⟩,⟨by omega,by omega⟩,by first|omega|(dsimp only;omega),fun m hm hmb hmh=>by(repeat(refine ab (by omega) ?_));exact g3 m hm hmb hmh,qH hv.len hc4 hc5.len⟩
end
end Go.Proofs.YtnhmbonmlfeifaaGreat
end
section
namespace Go.Sy
open Go Go.Sl Go.RowKit
theorem EO{vF:Nat→SV}(h: ∀ (ρ:Nat→Nat) n,(vF n).ren ρ=vF (ρ n)){e e':Env}{a b:Nat}(hab:e a=e' b):(vF a).conc e=(vF b).conc e':=by
 have k: ∀ (e:Env) a,(vF a).conc e=(vF 0).conc (pull e fun _=>a):=fun e a=>by
  have:=ey (ρ:=fun _=>a) (e:=e) (vF 0)
  rw [h] at this
  exact this
 rw [k e a,k e' b,show pull e (fun _=>a)=pull e' (fun _=>b)from funext fun _=>hab]
theorem BJ{K:Zone}{w:World}{vo:VO}{x:Ent}{e e':Env}{a b:Nat}(h: ∀ ρ,vo.ren ρ=vo)(hab:e a=e' b)(hl:Lies K w e vo x):Lies K w e' vo x:=by
 have k: ∀ (e:Env) a,Lies K w e vo x↔Lies K w (pull e fun _=>a) vo x:=fun e a=>by
  have:=kV (K:=K) (w:=w) (vo:=vo) (x:=x) (ρ:=fun _=>a) (e:=e)
  rw [h] at this
  exact this
 rw [k e a,show pull e (fun _=>a)=pull e' (fun _=>b)from funext fun _=>hab] at hl
 exact(k e' b).2 hl
structure Mk where
 c:Nat
 vF:Nat→SV
 vo:VO
structure MkOne (P:Program) (rn:Rn) (R:List Rec) (H0:au) (n0 p:Nat) (m:Mk):Prop where
 ex: ∃ r,R[m.c]? =some r∧r.val=m.vF (n0+p)∧ ∀ (H:au) (n:Nat),n0≤n→(∀ i,i<n0→H.at' i=H0.at' i)→iv P rn r.T H n r.o (m.vF n,H.set n m.vo,n+1)
 ren: ∀ (ρ:Nat→Nat) n,(m.vF n).ren ρ=m.vF (ρ n)
 na: ∀ ρ,m.vo.ren ρ=m.vo
def tV(P:Program)(rn:Rn)(r:Rec)(H:au)(n:Nat):Prop:=ReadDoes P r.T H r.o r.val∨(Free r.val∧iv P rn r.T H n r.o (r.val,H,n))
structure MkOk (P:Program) (rn:Rn) (ops:Array Oper) (R:List Rec) (Q:List (au×Nat)) (C:List Nat) (ms:List Mk) (H0:au) (n0:Nat):Prop where
 c: ∀ (p:Nat) m,ms[p]? =some m→C[p]? =some m.c
 one: ∀ (p:Nat) m,ms[p]? =some m→MkOne P rn R H0 n0 p m
 q: ∃ Hk,Q[ms.length]? =some (Hk,n0+ms.length)∧(∀ i,i<n0∨n0+ms.length≤i→Hk.at' i=H0.at' i)∧ ∀ (p:Nat) m,ms[p]? =some m→Hk.at' (n0+p)=some m.vo
 behind: ∀ (j c:Nat),ms.length≤j→C[j]? =some c→ ∀ m∈ms,Anc ops c m.c
 fl: ∀ r∈R,r.chain=false→r.wanted=true→(∃ m∈ms,¬ Anc ops r.i m.c)→ ∀ H,(∀ i,i<n0→H.at' i=H0.at' i)→(∀ (p:Nat) m,ms[p]? =some m→Anc ops r.i m.c→H.at' (n0+p)=some m.vo)→tV P rn r H (n0+ms.length)
def EZ(ms:List Mk)(C:List Nat)(H0:au)(n0:Nat):Mem:=fun L e H n=>(∃ m∈ms,¬ L m.c)∧n=n0+ms.length∧(∀ (j c:Nat),ms.length≤j→C[j]? =some c→ ¬ L c)∧(∀ i,i<n0∨n0+ms.length≤i→H.at' i=H0.at' i) ∧
 ∀ (p:Nat) m,ms[p]? =some m→(L m.c→H.at' (n0+p)=some m.vo)∧(¬ L m.c→H.at' (n0+p)=none∧e (n0+p)=none)
section
variable {P:Program} {K:Zone} {w0:World} {rn:Rn} {nt:Nat} {ops:Array Oper} {T0:Tr SV} {R:List Rec} {Q:List (au×Nat)} {C:List Nat} {ms:List Mk} {H0:au} {n0:Nat}
theorem xh(hrn:nT P K w0 rn)(hR:RegOK P rn nt ops T0 R Q C)(hk:MkOk P rn ops R Q C ms H0 n0)(hl:Dh P rn ops R Q C ms.length):tS P K w0 nt ops R (fun L e H n=>EZ ms C H0 n0 L e H n∨Jo Q C ms.length L e H n):=by
 intro L i o r e w tr H n fn rest k ds kd rof cs ho hr hro hni hanc hcl hT hwant hM hS
 rcases hM with hM|hM
 rotate_left
 ·obtain⟨e',w',u,H',n',g1,g2,g⟩:=sg hrn hR hl L i o r e w tr H n fn rest k ds kd rof cs ho hr hro hni hanc hcl hT hwant hM hS
  exact⟨e',w',u,H',n',g1,.inr g2,g⟩
 obtain⟨⟨m0,hm0,hm0L⟩,rfl,hlate,hold,hmk⟩:=hM
 have hrec:=hR.recs i r hr
 have stay:r.chain=false→EZ ms C H0 n0 (fun j=>L j∨j=i) e H (n0+ms.length):=fun hc=>by
  have hne: ∀ {j c:Nat},C[j]? =some c→c≠i:=fun {j c} hj he=>by
   subst he
   rw [hR.at_chain hj hr] at hc
   cases hc
  refine⟨⟨m0,hm0,?_⟩,rfl,fun j c hj hc'=>?_,hold,fun p m hp=>?_⟩
  ·obtain⟨p,hp⟩:=List.mem_iff_getElem?.1 hm0
   exact fun h=>h.elim hm0L (hne (hk.c p m0 hp))
  ·exact fun h=>h.elim (hlate j c hj hc') (hne hc')
  ·have hn:=hne (hk.c p m hp)
   exact⟨fun h=>(hmk p m hp).1 (h.resolve_right hn),fun h=>(hmk p m hp).2 fun h'=>h (.inl h')⟩
 cases hwd:r.wanted with
 | false=>
   rw [hwd] at hwant
   obtain⟨h1,h2⟩:=hrec.skip hwd
   exact⟨e,w,undef,H,_,Kw e,.inl (stay h2),hS,by rw [h1];rfl,.one (jH ho hwant)⟩
 | true=>
   rw [hwd] at hwant
   cases hc:r.chain with
   | false=>
     have hri:=hrec.idx
     rcases hk.fl r (JE hr) hc hwd ⟨m0,hm0,fun h=>hm0L (hanc _ (hri ▸ h))⟩ H (fun i hi=>hold i (.inl hi)) (fun p m hp ha=>(hmk p m hp).1 (hanc _ (hri ▸ ha)))with hf|⟨hfree,hf⟩
     ·rw [hro] at hf
      obtain⟨u,hu,hst⟩:=pb (P:=P) (fn:=fn) (rest:=rest) (k:=k) (ds:=ds) (kd:=kd) (rof:=rof) (cs:=cs) hS hT ho hwant (hro ▸ (hrec.float hwd hc).1) hf
      exact⟨e,w,u,H,_,Kw e,.inl (stay hc),hS,hu,hst⟩
     ·rw [hro] at hf
      obtain⟨e1,w1,u,hle,hS1,hu,hst⟩:=mm (P:=P) hrn (fn:=fn) (rest:=rest) (k:=k) (ds:=ds) (kd:=kd) (rof:=rof) (cs:=cs) hS hT ho hwant hf
      exact⟨e,w1,u,H,_,Kw e,.inl (stay hc),hS.drop hle hS1 (fun _ _=>rfl),hfree _ _ _ hu,hst⟩
   | true=>
     obtain⟨_,hC,_⟩:=hrec.eff hc
     have hlt:r.stg<ms.length:=by
      rcases JY r.stg ms.length with h|h
      ·exact h
      ·exact absurd (hanc _ (hk.behind r.stg i h hC m0 hm0)) hm0L
     obtain⟨m,hm⟩: ∃ m,ms[r.stg]? =some m:=⟨_,Ju hlt⟩
     generalize r.stg=p at hC hlt hm
     have hmc:m.c=i:=by
      have:=hk.c _ m hm
      rw [hC] at this
      exact(Option.some.inj this).symm
     have h1:=hk.one p m hm
     obtain⟨r',hr',hv,hef⟩:=h1.ex
     rw [hmc,hr] at hr'
     cases hr'
     have hef:=hef H (n0+ms.length) (Nat.le_add_right _ _) (fun i hi=>hold i (.inl hi))
     rw [hro] at hef
     obtain⟨e1,w1,u,hle,hS1,hu,hst⟩:=mm (P:=P) hrn (fn:=fn) (rest:=rest) (k:=k) (ds:=ds) (kd:=kd) (rof:=rof) (cs:=cs) hS hT ho hwant hef
     obtain⟨_,heN⟩:=(hmk p m hm).2 (by rw [hmc];exact hni)
     have hle':e.le (fun j=>if j=n0+p then e1 (n0+ms.length) else e j):=fun j x hx=>by
      by_cases hj:j=n0+p
      ·rw [hj,heN] at hx;cases hx
      ·exact(JV hj).trans hx
     have hlow: ∀ {j:Nat} {v:VO},H.at' j=some v→j<n0+ms.length:=fun {j v} h=>by
      obtain⟨x,hx,_⟩:=hS.rel j v h
      rcases JY j (n0+ms.length)with q|q
      ·exact q
      ·rw [hS.fresh j q] at hx;cases hx
     have up: ∀ {j:Nat} {v:VO},(H.set (n0+p) m.vo).at' j=some v→(H.set (n0+ms.length) m.vo).at' (if j=n0+p then n0+ms.length else j)=some v:=fun {j v} h=>by
      rcases bK h with ⟨rfl,rfl⟩|⟨hne,h⟩
      ·rw [JW rfl];exact ac
      ·rw [JV hne];exact ab (Nat.ne_of_lt (hlow h)) h
     have upe: ∀ {j:Nat} {v:VO} {x:Ent},(H.set (n0+p) m.vo).at' j=some v→(if j=n0+p then e1 (n0+ms.length) else e j)=some x→e1 (if j=n0+p then n0+ms.length else j)=some x:=fun {j v x} h hx=>by
      by_cases hj:j=n0+p
      ·rw [JW hj] at hx ⊢;exact hx
      ·rw [JV hj] at hx ⊢;exact hle j x hx
     have hS':St K w0 (fun j=>if j=n0+p then e1 (n0+ms.length) else e j) (H.set (n0+p) m.vo) (n0+ms.length) w1:=by
      refine⟨hS1.below,fun j v h=>?_,fun j j' v v' x x' a b c d hne q1 q2 q3 q4=>hS1.inj _ _ v v' x x' (up a) (up b) (upe a c) (upe b d) (fun he=>hne ?_) q1 q2 q3 q4,fun j hj=>(JV (by omega)).trans (hS.fresh j hj)⟩
      ·obtain⟨x,hx,hlx⟩:=hS1.rel _ v (up h)
       rcases bK h with ⟨rfl,rfl⟩|⟨hne,h⟩
       ·rw [JW rfl] at hx
        exact⟨x,(JW rfl).trans hx,BJ (a:=n0+ms.length+1) (b:=n0+ms.length+1) h1.na (by rw [hS1.fresh _ (JK _),JV (by omega),hS.fresh _ (JT _)]) hlx⟩
       ·rw [JV hne] at hx
        obtain⟨x0,hx0,hl0⟩:=hS.rel j v h
        have:=hle j x0 hx0
        rw [hx] at this
        cases this
        exact⟨x,(JV hne).trans hx0,ov hle hle' hl0 hlx⟩
      ·by_cases g1:j=n0+p
       ·by_cases g2:j'=n0+p
        ·rw [g1,g2]
        ·rw [JW g1,JV g2] at he
         rcases bK b with ⟨q,_⟩|⟨_,q⟩
         ·exact absurd q g2
         ·have:=hlow q
          omega
       ·by_cases g2:j'=n0+p
        ·rw [JV g1,JW g2] at he
         rcases bK a with ⟨q,_⟩|⟨_,q⟩
         ·exact absurd q g1
         ·have:=hlow q
          omega
        ·rw [JV g1,JV g2] at he
         exact he
     have hval:r.val.conc (fun j=>if j=n0+p then e1 (n0+ms.length) else e j)=some u:=by
      rw [hv,EO h1.ren (e':=e1) (b:=n0+ms.length) (JW rfl)]
      exact hu
     refine⟨_,w1,u,H.set (n0+p) m.vo,n0+ms.length,hle',?_,hS',hval,hst⟩
     have hqp: ∀ {q:Nat} {mq:Mk},ms[q]? =some mq→mq.c=i→q=p:=fun {q mq} hq he=>py hR (by rw [← he];exact hk.c q mq hq) hC
     have hinj: ∀ {j:Nat},C[j]? =some i→j=p:=fun {j} hj=>py hR hj hC
     by_cases hall: ∀ m'∈ms,L m'.c∨m'.c=i
     ·obtain⟨Hk,hQ,g1,g2⟩:=hk.q
      have hH:H.set (n0+p) m.vo=Hk:=funext fun j=>by
       show(H.set (n0+p) m.vo).at' j=Hk.at' j
       by_cases hj:j<n0∨n0+ms.length≤j
       ·exact(ab (by omega) (hold j hj)).trans (g1 j hj).symm
       ·obtain⟨q,rfl⟩: ∃ q,j=n0+q:=⟨j-n0,by omega⟩
        obtain⟨mq,hq⟩: ∃ mq,ms[q]? =some mq:=⟨_,Ju (by omega)⟩
        rw [g2 q mq hq]
        by_cases hqe:q=p
        ·subst hqe
         rw [hm] at hq
         cases hq
         exact ac
        ·exact ab (by omega) ((hmk q mq hq).1 ((hall mq (JE hq)).resolve_right fun he=>hqe (hqp hq he)))
      refine .inr ⟨ms.length,JK _,by rw [hH];exact hQ,fun j c hj=>⟨fun h=>?_,fun h=>?_⟩⟩
      ·rcases JY j ms.length with g|g
       ·exact g
       ·exact h.elim (fun h=>absurd h (hlate j c g hj)) fun h=>by
         subst h
         have:=hinj hj
         omega
      ·obtain⟨m',hm'⟩: ∃ m',ms[j]? =some m':=⟨_,Ju h⟩
       have:=hk.c j m' hm'
       rw [hj] at this
       cases this
       exact hall m' (JE hm')
     ·refine .inl ⟨?_,rfl,fun j c hj hc'=>?_,fun j hj=>ab (by omega) (hold j hj),fun q mq hq=>⟨fun h=>?_,fun h=>?_⟩⟩
      ·apply Classical.byContradiction
       intro hno
       exact hall fun m' hm'=>Classical.byContradiction fun h=>hno ⟨m',hm',h⟩
      ·rintro(h|h)
       ·exact hlate j c hj hc' h
       ·subst h
        have:=hinj hc'
        omega
      ·by_cases hqe:q=p
       ·subst hqe
        rw [hm] at hq
        cases hq
        exact ac
       ·exact ab (by omega) ((hmk q mq hq).1 (h.resolve_right fun he=>hqe (hqp hq he)))
      ·have hqe:q≠p:=fun he=>by
        subst he
        rw [hm] at hq
        cases hq
        exact h (.inr hmc)
       have:=(hmk q mq hq).2 fun h'=>h (.inl h')
       exact⟨ab (by omega) this.1,(JV (by omega)).trans this.2⟩
end
def addL(H:au):Nat→List VO→au
 | _,[]=>H
 | n,vo :: l=>addL (H.set n vo) (n+1) l
theorem pE: ∀ (l:List VO) (H:au) (n i:Nat),(addL H n l).at' i=if n≤i∧i<n+l.length then l[i-n]? else H.at' i
 | [],H,n,i=>by
   rw [JV (by simp only [List.length_nil];omega)]
   rfl
 | x :: l,H,n,i=>by
   show(addL (H.set n x) (n+1) l).at' i=_
   rw [pE l]
   by_cases h1:n+1≤i∧i<n+1+l.length
   ·rw [JW h1,JW (by simp only [JN];omega),show i-n=(i-(n+1))+1 by omega]
    rfl
   ·rw [JV h1]
    by_cases h2:i=n
    ·subst h2
     rw [JW (by simp only [JN];omega),Nat.sub_self]
     exact ac
    ·rw [JV (by simp only [JN];omega)]
     exact ab h2 rfl
def MkAll(P:Program)(rn:Rn)(R:List Rec)(H0:au)(n0:Nat):Nat→List Mk→Prop
 | _,[]=>True
 | p,m :: l=>MkOne P rn R H0 n0 p m∧MkAll P rn R H0 n0 (p+1) l
theorem MkAll.get{P:Program}{rn:Rn}{R:List Rec}{H0:au}{n0:Nat}: ∀ {l:List Mk} {p:Nat},MkAll P rn R H0 n0 p l→ ∀ (j:Nat) m,l[j]? =some m→MkOne P rn R H0 n0 (p+j) m
 | [],_,_,j,m,h=>by simp at h
 | x :: l,p,hh,0,m,h=>by
   cases h
   exact hh.1
 | x :: l,p,hh,j+1,m,h=>by
   rw [show p+(j+1)=p+1+j by omega]
   exact hh.2.get j m (by simpa using h)
def Jn(b:Nat)(H:au):Nat→List Mk→Prop
 | _,[]=>True
 | n,m :: l=>(b.testBit m.c=true→H.at' n=some m.vo)∧Jn b H (n+1) l
theorem uD{b:Nat}{H:au}: ∀ {l:List Mk} {n:Nat},(∀ (p:Nat) m,l[p]? =some m→b.testBit m.c=true→H.at' (n+p)=some m.vo)→Jn b H n l
 | [],_,_=>trivial
 | m :: l,n,h=>⟨fun hb=>h 0 m rfl hb,uD fun p m' hp hb=>by
    rw [show n+1+p=n+(p+1) by omega]
    exact h (p+1) m' hp hb⟩
def FlM(P:Program)(ancs chain:List Nat)(ms:List Mk)(H0:au)(n0:Nat)(Q:List (au×Nat)):List Rec→Prop
 | []=>True
 | r :: l=>((r.chain || !r.wanted || (Nat.beq (jV (ancs.getD r.i 0) chain) r.stg && Nat.beq (eS ancs r.i chain) r.stg && ms.all fun m=>(ancs.getD r.i 0).testBit m.c))=true ∨
    ((∀ H n,(∀ i,i<n0→H.at' i=H0.at' i)→Jn (ancs.getD r.i 0) H n0 ms→tV P (wpr P) r H n)∧AllHQ (Q.take (chain.length-ms.length)) (fun H n=>tV P (wpr P) r H n)))∧FlM P ancs chain ms H0 n0 Q l
theorem FlM.ok{P:Program}{ancs chain:List Nat}{ms:List Mk}{H0:au}{n0:Nat}{Q:List (au×Nat)}: ∀ {l:List Rec},FlM P ancs chain ms H0 n0 Q l→ ∀ r∈l,r.chain=false→r.wanted=true →
 (jV (ancs.getD r.i 0) chain=r.stg∧eS ancs r.i chain=r.stg∧ ∀ m∈ms,(ancs.getD r.i 0).testBit m.c=true)∨((∀ H n,(∀ i,i<n0→H.at' i=H0.at' i)→Jn (ancs.getD r.i 0) H n0 ms→tV P (wpr P) r H n)∧AllHQ (Q.take (chain.length-ms.length)) (fun H n=>tV P (wpr P) r H n))
 | [],_,r,hm,_,_=>by cases hm
 | r0 :: l,hh,r,hm,hc,hw=>by
   rcases Ka.1 hm with rfl|hm
   ·rcases hh.1 with h|h
    ·rw [hc,hw] at h
     simp only [Bool.not_true,Bool.false_or,JJ] at h
     exact .inl ⟨Kb h.1.1,Kb h.1.2,fun m hm=>List.all_eq_true.1 h.2 m hm⟩
    ·exact .inr h
   ·exact FlM.ok hh.2 r hm hc hw
theorem yU{P:Program}{rn:Rn}{nt:Nat}{ops:Array Oper}: ∀ {l:List Oper} {i:Nat} {s s':DS},DrawRun P rn nt ops i l s s'→s'.recs.length=s.recs.length+l.length
 | [],i,s,s',h=>by
   cases h
   rfl
 | o :: l,i,s,s',h=>by
   cases h with
   | cons h1 h2=>
     rw [yU h2,JN]
     rcases h1 with ⟨_,rfl⟩|⟨_,_,v,_,rfl⟩|⟨_,v,H,nx,_,rfl⟩ <;> simp only [JN] <;> omega
def Dc(ancs cs l:List Nat):Bool:=kn ancs l && l.all fun d=>cs.all fun c=>(ancs.getD d 0).testBit c
section
variable {P:Program} {ro:Option Nat} {fn nt nx:Nat} {T:Tr SV} {k:List AIt} {dfs:List ADf} {H:au} {Q:Pst}
theorem AY{id:Nat}{opl:List Oper}(hm:P.follows .mixedOrders=true)(hr:ge nt opl=true)
 (h:pJ P nt opl.toArray 0 opl ⟨T,H,nx,[],[(H,nx)],0⟩ (fun s=> ∃ (ms:List Mk) (l:List Nat),eM s=ms.map (·.c) ++ l∧Dc (eN [] opl) (ms.map (·.c)) l=true∧ms≠ []∧s.Hs.reverse[ms.length]? =some (addL H nx (ms.map (·.vo)),nx+ms.length) ∧
   MkAll P (wpr P) s.recs.reverse H nx 0 ms∧FlM P (eN [] opl) (eM s) ms H nx s.Hs s.recs∧Wp P ro ⟨fn,nt,s.T,k,dfs,s.H,s.nx⟩ Q)) :
 Wp P ro ⟨fn,nt,T,.code (.region id opl.toArray true) :: k,dfs,H,nx⟩ Q:=by
 obtain⟨s,hs,ms,l,h1,h2,h3,h4,h5,h6,h7⟩:=h.ex
 refine⟨fun K w0 e w tmps todo ds' kd rof cs' hS hT ht hd hc=>?_⟩
 obtain⟨it,k',rfl,hi,hk⟩:=ht.cons
 have hi:it=Item.code (.region id opl.toArray true):=hi
 subst hi
 simp only [Dc,JJ] at h2
 have hcl: ∀ (p:Nat) m,ms[p]? =some m→(eM s)[p]? =some m.c:=fun p m hp=>by
  rw [h1,JH (by rw [J0];exact(Jv.1 hp).1),Kc,hp]
  rfl
 have hrest: ∀ (j c:Nat),ms.length≤j→(eM s)[j]? =some c→l[j-ms.length]? =some c:=fun j c hj hc=>by
  rw [h1,J5 (by rw [J0];exact hj),J0] at hc
  exact hc
 have hlow: ∀ {i:Nat} {v:VO},H.at' i=some v→i<nx:=fun {i v} hi=>by
  obtain⟨x,hx,_⟩:=hS.rel i v hi
  rcases JY i nx with q|q
  ·exact q
  ·rw [hS.fresh i q] at hx;cases hx
 have hnone: ∀ i,nx≤i→H.at' i=none:=fun i hi=>by
  cases hv:H.at' i with
  | none=>rfl
  | some v=>have:=hlow hv;omega
 have hpos:0<ms.length:=List.length_pos_iff.2 h3
 obtain⟨m0,hm0⟩: ∃ m0,m0∈ms:=List.exists_mem_of_ne_nil ms h3
 obtain⟨e',w',tmps',H',n',L,g1,g2,g3,g4,g5,g6⟩:=wJ (K:=K) (w0:=w0) (rn:=wpr P) hm (ops:=opl.toArray) (w:={w with drawn:=w.drawn+1}) hr hs
  (M:=fun L e H' n=>EZ ms (eM s) H nx L e H' n∨Jo s.Hs.reverse (eM s) ms.length L e H' n)
  (fun hR=>by
    have hfl:=FlM.ok h6
    refine xh (ox K w0) hR ⟨hcl,fun p m hp=>by have:=h5.get p m hp;rwa [JX] at this,⟨_,h4,fun i hi=>?_,fun p m hp=>?_⟩,fun j c hj hc m hm=>?_,fun r hr hc hw ⟨m,hm,hb⟩ H1 q1 q2=>?_⟩ ⟨fun j c c' hj q1 q2=>?_,fun r hr hc hw st hst hlo hhi H1 n1 hQ1=>sL hR hr hc hw hQ1 fun hne=>?_⟩
    ·rw [pE,JV (by rw [J0];omega)]
    ·have:=(Jv.1 hp).1
     rw [pE,JW (by rw [J0];omega),Nat.add_sub_cancel_left,Kc,hp]
     rfl
    ·exact List.all_eq_true.1 (List.all_eq_true.1 h2.2 c (JE (hrest j c hj hc))) m.c (List.mem_map_of_mem hm)
    ·rcases hfl r (by simpa using hr) hc hw with ⟨_,_,h⟩|h
     ·exact absurd (h m hm) hb
     ·exact h.1 H1 _ q1 (uD q2)
    ·exact nj h2.1 (j-ms.length) c c' (hrest j c hj q1) (by rw [show j-ms.length+1=j+1-ms.length by omega];exact hrest (j+1) c' (by omega) q2)
    ·have both:tV P (wpr P) r H1 n1→tU P (wpr P) r.T H1 n1 r.o r.val:=fun h=>h.elim .inl fun h=> .inr h.2
     rcases hfl r (by simpa using hr) hc hw with ⟨q1,q2,_⟩|h
     ·exact absurd (Nat.le_antisymm (q2 ▸ hhi) (q1 ▸ hlo)) hne
     ·refine both ?_
      have hlen:=hR.stages
      change s.Hs.reverse.length=(eM s).length+1 at hlen
      have hst1:=(Jv.1 hQ1).1
      rw [List.length_reverse] at hlen hst1
      rcases JY ms.length st with hg|hg
      ·refine AllHQ.get h.2 (i:=s.Hs.length-1-st) ?_
       rw [List.getElem?_take,JW (by omega),←List.getElem?_reverse hst1]
       exact hQ1
      ·have hst2:st=ms.length:=by omega
       subst hst2
       rw [h4] at hQ1
       cases hQ1
       refine h.1 _ _ (fun i hi=>?_) (uD fun p m hp _=>?_)
       ·rw [pE,JV (by omega)]
       ·have:=(Jv.1 hp).1
        rw [pE,JW (by rw [J0];omega),Nat.add_sub_cancel_left,Kc,hp]
        rfl)
  (n:=nx+ms.length) (.inl ⟨⟨m0,hm0,fun h=>h⟩,rfl,fun _ _ _ _ h=>h,fun _ _=>rfl,fun p m hp=>⟨fun h=>h.elim,fun _=>⟨hnone _ (Nat.le_add_right _ _),hS.fresh _ (Nat.le_add_right _ _)⟩⟩⟩)
  (by
    have h:=hS.drew (w:=w)
    exact⟨h.below,h.rel,h.inj,fun i hi=>h.fresh i (by show nx≤i;omega)⟩) hT (w.tape w.drawn (.order fn id)) fn k' ds' kd rof cs'
 rcases g3 with ⟨⟨m,hm,hno⟩,_⟩|g3
 ·exfalso
  obtain⟨p,hp⟩:=List.mem_iff_getElem?.1 hm
  have:=hcl p m hp
  obtain⟨r,hr1,_⟩:=(h5.get p m hp).ex
  have hlt:=(Jv.1 hr1).1
  rw [List.length_reverse,yU hs] at hlt
  exact hno (g2 _ (by simpa using hlt))
 obtain⟨rfl,rfl⟩:=wi hr hs g3 g2
 exact(h7.run K w0 e' w' tmps' k' ds' kd rof cs' g4 g5 (hk.mono g1) (hd.mono g1) (hc.mono g1)).pre (.head yK (g6.trans (.one jG))) g1 rfl rfl (fun _ hr=>hr)
end
section
variable {P:Program} {tb:Tbl} {ancs chain:List Nat} {ms:List Mk} {H0:au} {n0:Nat} {Q:List (au×Nat)} {r:Rec} {l:List Rec}
theorem fm_c(h:r.chain=true)(k:FlM P ancs chain ms H0 n0 Q l):FlM P ancs chain ms H0 n0 Q (r :: l):=⟨.inl (pw h),k⟩
theorem HR(h1: ∀ H n,(∀ i,i<n0→H.at' i=H0.at' i)→Jn (ancs.getD r.i 0) H n0 ms→tV P (wpr P) r H n)(h2:AllHQ (Q.take (chain.length-ms.length)) (fun H n=>tV P (wpr P) r H n))(k:FlM P ancs chain ms H0 n0 Q l):FlM P ancs chain ms H0 n0 Q (r :: l):=⟨.inr ⟨h1,h2⟩,k⟩
theorem Ji{p:au→Nat→Prop}(h: ∀ H n,p H n): ∀ Q:List (au×Nat),AllHQ Q p
 | []=>trivial
 | q :: l=>⟨h q.1 q.2,Ji h l⟩
theorem fm_pG(ht:TblOk P tb)(h:nQ tb r.T r.o.op=some r.val)(k:FlM P ancs chain ms H0 n0 Q l):FlM P ancs chain ms H0 n0 Q (r :: l):=HR (fun _ _ _ _=> .inl (je ht h)) (Ji (fun _ _=> .inl (je ht h)) _) k
end
end Go.Sy
namespace Go.Proofs.YtnhmbonmlfeifaaGreat
open Go Go.Sy
theorem fm_p{ancs chain:List Nat}{ms:List Mk}{H0:au}{n0:Nat}{Q:List (au×Nat)}{r:Rec}{l:List Rec}(h:nQ xS r.T r.o.op=some r.val)(k:FlM Tryz.prog ancs chain ms H0 n0 Q l):FlM Tryz.prog ancs chain ms H0 n0 Q (r :: l):=fm_pG jF h k
end Go.Proofs.YtnhmbonmlfeifaaGreat
end
section
namespace Go.Proofs.YtnhmbonmlfeifaaGreat
open Go Go.Sy Go.Sl Go.RowKit
section
variable {H:au}{i nx:Nat}{l:List (Int×Int)}{pf:Nat→List UInt8}
theorem Cc{s:SV}{v:gt}(hv:VerIs H s v)(hm:iJ v=true):Fnc Tryz.prog 46 [s] H nx (fun q=>q=(.slu nx 0 (aO v).length,H.set nx (dat false (aO v).length 1 5 (byV (aO v))),nx+1)):=Fnc.next (wN hv hm)
theorem xO(v:gt)(x:Nat):aO (v.1,v.2.1,v.2.2.1,x)=be (aO v) 8 (beB x 8):=by
 have h8:=bp v.2.2.1 8
 have hx:=bp x 8
 have hy:=bp v.2.2.2 8
 unfold aO be
 dsimp only
 rw [List.take_left' h8,hx,←List.drop_drop,List.drop_left' h8,List.drop_left' hy,J6]
theorem uP{hb x:Nat}{n k:Int}{hm:List UInt8}(hH:H.at' hb=some (hpO hm))(hl:hm.length=98304):Fnc Tryz.prog 23 [.ptr hb 0,yB (n,k),.sc (.int .u64 (x:Int))] H nx
 (fun q=>q.1 = .sc (.int .i64 ((kM (dfH hm) n k x).1:Int))∧q.2.1.at' hb=some (hpO (Hn hm (kM (dfH hm) n k x).2))∧nx≤q.2.2∧ ∀ m,m<nx→m≠hb→q.2.1.at' m=H.at' m):=by
 refine Kp Tryz.func23 rfl rfl ?_
 refine aX fun hund=>?_
 have lH:=hund _ _ hH
 repeat first|apply ai;rfl|apply aH;rfl;(focus((repeat(exact ac));done));rfl
 refine cT (R:=fun H1 n1=>n1=nx+1∧H1.at' nx=some (eH n k)∧H1.at' hb=some (hpO hm)∧ ∀ m,m<nx→H1.at' m=H.at' m) ⟨rfl,by repeat(exact ac),by(repeat(refine ab (by omega) ?_));exact hH,fun m hm=>by(repeat(refine ab (by omega) ?_));rfl⟩ ?_
 rintro H1 n1 ⟨rfl,a1,a4,a3⟩
 by_cases hbad:4000<x∨mH n k=false
 ·have hM:kM (dfH hm) n k x=(2,none):=by unfold kM;rw [JW hbad]
  rw [hM]
  have hb2:n<32∨127<n∨k<0∨4000<x:=by
   rcases hbad with h|h
   ·exact .inr (.inr (.inr h))
   ·have:=of_decide_eq_false h
    omega
  clear hbad hM
  by_cases h1:n<32
  ·clear hb2
   repeat first|apply pK;rfl;omega|apply ai;rfl
   (apply bP Tryz.func23 Tryz.results23;rfl)
   exact⟨rfl,a4,JT _,fun m hm _=>a3 m hm⟩
  ·by_cases h2:127<n
   ·clear hb2
    repeat first|apply pK;rfl;omega|apply kY;rfl;omega|apply ai;rfl|apply aH;rfl;assumption;rfl
    (apply bP Tryz.func23 Tryz.results23;rfl)
    exact⟨rfl,a4,JT _,fun m hm _=>a3 m hm⟩
   ·by_cases h3:k<0
    ·clear hb2
     repeat first|apply pK;rfl;omega|apply kY;rfl;omega|apply ai;rfl|apply aH;rfl;assumption;rfl
     (apply bP Tryz.func23 Tryz.results23;rfl)
     exact⟨rfl,a4,JT _,fun m hm _=>a3 m hm⟩
    ·have h4:4000<x:=by omega
     clear hb2
     repeat first|apply pK;rfl;omega|apply kY;rfl;omega|apply ai;rfl|apply aH;rfl;assumption;rfl
     (apply bP Tryz.func23 Tryz.results23;rfl)
     exact⟨rfl,a4,JT _,fun m hm _=>a3 m hm⟩
 ·have hx:x≤4000:=by omega
  have hmay:mH n k=true:=by cases h:mH n k with|true=>rfl|false=>exact absurd (.inr h) hbad
  have hmd:32≤n∧n<128∧0≤k:=J7 hmay
  obtain⟨N,rfl⟩: ∃ N:Nat,n=((32+N:Nat):Int):=⟨(n-32).toNat,by omega⟩
  obtain⟨K,rfl⟩: ∃ K:Nat,k=(K:Int):=⟨k.toNat,by omega⟩
  have hN:N<96:=by omega
  have hdf:dfH hm (32+N)=bareP (ay hm N):=by unfold dfH;rw [show 32+N-32=N by omega]
  have hM:kM (dfH hm) ((32+N:Nat):Int) (K:Int) x=if(px (dfH hm) (32+N) (jZ K x)).2≠0 then((px (dfH hm) (32+N) (jZ K x)).2,none) else(0,some (32+N,(px (dfH hm) (32+N) (jZ K x)).1)):=by
   unfold kM
   rw [JV hbad,Kd,Kd]
  have hch:px (dfH hm) (32+N) (jZ K x)=if(aS (bareP (ay hm N))).2≠0 then(zeroP,13) else jZ K x (aS (bareP (ay hm N))).1:=by unfold px;rw [hdf]
  rw [hM]
  clear hM hdf
  have hg:pN (dfH hm) ((32+N:Nat):Int) (K:Int)=if(aS (bareP (ay hm N))).2≠0 then(iV,(aS (bareP (ay hm N))).2) else if(cq (aS (bareP (ay hm N))).1 K).2.2≠0 then(iV,6) else
   ((ofV (aT (aS (bareP (ay hm N))).1 K)).getD iV,BD (ofV (aT (aS (bareP (ay hm N))).1 K))):=by
   have hdf:dfH hm (32+N)=bareP (ay hm N):=by unfold dfH;rw [show 32+N-32=N by omega]
   unfold pN
   rw [JV (by rw [hmay];decide),Kd,Kd,hdf]
  have hpl:=gK hl hN
  have hrs:=fun(H:au) nx (h:H.at' hb=some (hpO hm))=>l5 (nx:=nx) h hl hN
  have hno:=l0 (p:=bareP (ay hm N))
  clear hbad
  repeat first|apply kY;rfl;omega|apply ai;rfl|apply aH;rfl;assumption;rfl
  refine aI rfl rfl rfl (by kernel_rfl) (Ko (uL (n:=((32+N:Nat):Int)) (k:=(K:Int)) a4 hl) ?_)
  rintro⟨_,H2,n2⟩ ⟨s',r,rfl,b1,b2,b3,b4⟩
  dsimp only at b1 b2 b3 b4 ⊢
  refine aX fun hund2=>?_
  have c1:H2.at' nx=some (eH ((32+N:Nat):Int) (K:Int)):=(b4 _ (by omega)).trans a1
  have c2:H2.at' hb=some (hpO hm):=(b4 _ (by omega)).trans a4
  have co: ∀ m,m<nx→H2.at' m=H.at' m:=fun m hm=>(b4 _ (by omega)).trans (a3 m hm)
  clear b4 a1 a4 a3
  obtain⟨vk,vw,rfl,hk1,hw1⟩:=b1
  have hone: ∀ x y:Nat,bi (eF vk vw x y)=true:=fun x y=>by simp only [bi,cF hk1.bs,cF hw1.bs];rfl
  rw [hg] at hk1 hw1 ⊢
  clear hg
  clear hmay hund
  by_cases he:(aS (bareP (ay hm N))).2=0
  ·rw [JV (fun h=>h he)] at hch hk1 hw1 ⊢
   rw [nZ he] at hrs
   obtain⟨hpp,hr,hof⟩:=cQ (p:=bareP (ay hm N)) (q:=(aS (bareP (ay hm N))).1) (Prod.ext rfl he) (dY hpl)
   generalize (aS (bareP (ay hm N))).1=p at hrs hpp hr hof hch hk1 hw1 ⊢
   dsimp only [Bs] at hrs
   by_cases hK:ae p≤K∨aq p K=0
   ·have hfd:cq p K=(0,0,6):=by unfold cq;split;rfl;rw [JW (by omega)]
    rw [hfd,JW (by decide)]
    have hch2:px (dfH hm) (32+N) (jZ K x)=(zeroP,6):=by rw [hch];unfold jZ;rw [hfd,JW (by decide)]
    rw [hch2,JW (by decide)]
    dsimp only
    repeat first|apply ai;rfl|refine dp rfl rfl rfl (F.sz _ rfl) (by repeat(first|assumption|exact ac)) rfl (by exact Jw rfl) (hone _ _) rfl ?_|apply ig;rfl;omega
    (apply bP Tryz.func23 Tryz.results23;rfl)
    exact⟨rfl,by repeat(first|assumption|refine ab (by omega) ?_),by dsimp only;omega,fun m hm _=>by(repeat(refine ab (by omega) ?_));exact co m hm⟩
   ·have hs:aq p K≠0:=fun h=>hK (.inr h)
    have hn:K<ae p:=by omega
    have hfd:cq p K=(az p K,aq p K,0):=by unfold cq;rw [JV (by omega),JV hs]
    have hbs:=cV hr hn hs
    have hil:=dB hpp hbs.2.2.2
    have hos:=hof K hn hs
    obtain⟨v,hv⟩: ∃ v,ofV (aT p K)=some v:=by cases h:ofV (aT p K)with|some v=>exact⟨v,rfl⟩|none=>rw [h] at hos;cases hos
    have hiv:=CR hv
    rw [hfd,JV (fun h=>h rfl),hv] at hk1 hw1 ⊢
    have hmv:iJ v=true:=uv hv
    have hmv2:iJ (v.1,v.2.1,v.2.2.1,x)=true:=by
     have:=J7 hmv
     exact Ke ⟨this.1,this.2.1,this.2.2.1,hx⟩
    have hbl:=ez (v.1,v.2.1,v.2.2.1,x)
    have hbe:=xO v x
    have h8:=bp x 8
    have hbv:=ez v
    have hlen:(aO (v.1,v.2.1,v.2.2.1,x)).length=aq p K:=by rw [← hil,hiv,hbl,hbv]
    have hch2:px (dfH hm) (32+N) (jZ K x)=(be p (az p K) (aO (v.1,v.2.1,v.2.2.1,x)),0):=by rw [hch,hbe,←hiv];unfold jZ;rw [hfd,JV (fun h=>h rfl)]
    rw [hch2,JV (fun h=>h rfl)]
    dsimp only [Hn,Option.getD,BD] at hk1 hw1 ⊢
    rw [show 32+N-32=N by omega]
    clear hch hch2 hbe hiv hv hos hof hfd
    repeat first|apply ai;rfl|apply aH;rfl;(focus((repeat(first|assumption|exact ac|refine ab (by omega) ?_));done));rfl|apply aL;rfl;omega;omega|refine dp rfl rfl rfl (F.sz _ rfl) (by repeat(first|assumption|exact ac)) rfl (by exact Jw rfl) (hone _ _) rfl ?_|apply dK;rfl;(rfl)
    rw [show((32+N:Nat):Int)-32=(N:Int) by omega]
    have hrs2:=fun(H:au) nx (h:H.at' hb=some (hpO hm))=>hrs H nx h
    repeat first|apply bE hpp aj;rfl;(focus((repeat(exact ac));done))|refine aZ rfl rfl cj ?_|apply ai;rfl|apply bU;rfl;kernel_rfl;exact hrs _ _ (by repeat(first|assumption|refine ab (by omega) ?_))
    have hvk:v.1≠ []:=fun h=>by
     have:=J7 hmv
     rw [h] at this
     exact absurd this.1.1 (by decide)
    have hrn:r<n2:=by
     obtain⟨vo,h⟩:=hk1.there hvk
     exact hund2 _ _ h
    refine cT (R:=fun H4 n4=>n4=n2+1+1∧H4.at' n2=some (fx (eF vk vw v.2.2.1 x))∧H4.at' (n2+1)=some (pgO p)∧H4.at' nx=some (eH ((32+N:Nat):Int) (K:Int))∧H4.at' hb=some (hpO hm)∧BlkS H4 vk r v.1∧BlkS H4 vw r v.2.1∧ ∀ m,m<nx→H4.at' m=H.at' m)
     ⟨by omega,by repeat(first|exact ac|refine ab (by omega) ?_),by repeat(exact ac),by repeat(first|assumption|refine ab (by omega) ?_),by repeat(first|assumption|refine ab (by omega) ?_),hk1.frame (by(repeat(refine ab (by omega) ?_));rfl),hw1.frame (by(repeat(refine ab (by omega) ?_));rfl),fun m hm=>by(repeat(refine ab (by omega) ?_));exact co m hm⟩ ?_
    rintro H4 n4 ⟨rfl,d1,d2,d3,d4,d5,d6,d7⟩
    clear c1 c2 co hk1 hw1 hrs hrs2 hno hmd hund2 hbl hbv h8 hvk
    have hby: ∀ (H5:au) n5,H5.at' r=H4.at' r→Fnc Tryz.prog 46 [pM vk vw v.2.2.1 x] H5 n5 (fun q=>q=(.slu n5 0 (aO (v.1,v.2.1,v.2.2.1,x)).length,H5.set n5 (dat false (aO (v.1,v.2.1,v.2.2.1,x)).length 1 5 (byV (aO (v.1,v.2.1,v.2.2.1,x)))),n5+1)):=fun H5 n5 h=>
     Cc (v:=(v.1,v.2.1,v.2.2.1,x)) (BlkS.Dk (v:=(v.1,v.2.1,v.2.2.1,x)) (d5.frame h) (d6.frame h)) hmv2
    have hxl:(be p (az p K) (aO (v.1,v.2.1,v.2.2.1,x))).length=1024:=(bM (by omega)).trans hpp
    have hset: ∀ (rb:Nat) (H5:au) n5,H5.at' rb=some (dat false (aO (v.1,v.2.1,v.2.2.1,x)).length 1 5 (byV (aO (v.1,v.2.1,v.2.2.1,x))))→Fnc Tryz.prog 61 [.agg (pgS p),.sc (.int .i64 (K:Int)),.slu rb 0 (aO (v.1,v.2.1,v.2.2.1,x)).length] H5 n5 (fun q=>q=(pgE (be p (az p K) (aO (v.1,v.2.1,v.2.2.1,x)),0),H5,n5)):=fun rb H5 n5 h=>
     DN hpp hr hn hs (by rw [r7];exact h) hlen
    generalize aO (v.1,v.2.1,v.2.2.1,x)=it at hby hset hlen hxl ⊢
    generalize be p (az p K) it=y at hset hxl ⊢
    (apply AY;(focus(kernel_rfl));(focus(kernel_rfl)))
    refine dW 5 (Jw rfl) ?_
    repeat first|refine cg rfl rfl rfl (F.ag _ rfl) d2 (bf hpp) ?_|apply b8;rfl;rfl;rfl;(focus(kernel_rfl));exact(hby _ _ rfl)|apply dD;rfl;assumption;rfl|apply aU;rfl
    refine aA ?_;refine dX rfl rfl rfl (by kernel_rfl) (hset _ _ _ (by repeat(exact ac))) ?_
    refine jw ?_
    repeat first|refine pW (fj cj) rfl rfl rfl ?_|refine bY rfl rfl rfl (F.sz _ rfl) (by repeat(exact ac)) (bf hxl) (by rw [bf aj];exact JK _) (iH _) (lx _ _ aj hxl) ?_|apply aU;rfl
    refine aA ?_
    refine⟨[⟨4,fun n=> .slu n 0 it.length,dat false it.length 1 5 (byV it)⟩,⟨9,fun n=> .ptr n 0,pgO zeroP⟩],[10],by kernel_rfl,by kernel_rfl,List.cons_ne_nil _ _,rfl,
     ⟨⟨⟨_,rfl,rfl,fun H5 n5 _ h2=>po rfl (by kernel_rfl) (hby _ _ (h2 _ (by omega)))⟩,fun _ _=>rfl,fun ρ=>oO _ _ _ _ _ _⟩,⟨⟨_,rfl,rfl,fun H5 n5 _ _=>EL (fun _ h=>(by cases h)) (fj cj)⟩,fun _ _=>rfl,fun ρ=>yX⟩,trivial⟩,?_,?_⟩
    ·repeat first|exact Kz|apply fm_c;rfl|apply fm_p;rfl|refine HR (fun H5 n5 g1 g2=> .inl (aW (F.ag _ rfl) rfl ((g1 _ (by omega)).trans d2) (bm hpp))) ⟨.inl (aW (F.ag _ rfl) rfl (by(repeat(refine ab (by omega) ?_));exact d2) (bm hpp)),trivial⟩ ?_|refine HR (fun H5 n5 g1 g2=> .inl (aW (F.ag _ rfl) rfl ((g1 _ (by omega)).trans d1) (am _ 0 rfl rfl))) ⟨.inl (aW (F.ag _ rfl) rfl (by(repeat(refine ab (by omega) ?_));exact d1) (am _ 0 rfl rfl)),trivial⟩ ?_|refine HR (fun H5 n5 g1 g2=> .inl (an (F.ag _ rfl) rfl ((g1 _ (by omega)).trans d3) (aC rfl))) ⟨.inl (an (F.ag _ rfl) rfl (by(repeat(refine ab (by omega) ?_));exact d3) (aC rfl)),trivial⟩ ?_|refine HR (fun H5 n5 g1 g2=> .inr ⟨Free.two (Free.agg (byV y)) (Free.sc _),po rfl (by kernel_rfl) (hset _ _ _ (g2.1 (by kernel_rfl)))⟩) ⟨.inr ⟨Free.two (Free.agg (byV y)) (Free.sc _),po rfl (by kernel_rfl) (hset _ _ _ (by repeat(first|exact ac|refine ab (by omega) ?_)))⟩,trivial⟩ ?_
    dsimp only
    refine cT (R:=fun H5 n5=>n2+1+1+1<n5∧H5.at' (n2+1+1+1)=some (pgO y)∧H5.at' nx=some (eH ((32+N:Nat):Int) (K:Int))∧H5.at' hb=some (hpO hm)∧ ∀ m,m<nx→H5.at' m=H.at' m) ⟨by omega,by repeat(exact ac),by repeat(first|assumption|refine ab (by omega) ?_),by repeat(first|assumption|refine ab (by omega) ?_),fun m hm=>by(repeat(refine ab (by omega) ?_));exact d7 m hm⟩ ?_
    rintro H5 n5 ⟨e0,e1,e2,e3,e4⟩
    repeat apply ai;rfl
    (apply bg;(focus(kernel_rfl));(focus(kernel_rfl)))
    repeat first|refine cg rfl rfl rfl (F.ag _ rfl) e1 (bf hxl) ?_|apply dD;rfl;assumption;rfl|apply aU;rfl|refine bk (aw rfl rfl (.inr (.inl ⟨rfl,(Js _ ⟨(by focus(omega)),(by focus(omega))⟩).symm⟩))) rfl rfl rfl ?_
    rw [show((32+N:Nat):Int)-32=(N:Int) by omega]
    repeat first|refine bY rfl rfl rfl (F.sz _ rfl) e3 (bf hxl) (by rw [J0,J0,hl];omega) (iH _) (wn hl hN hxl) ?_|apply jl (q:=N);rfl;rfl;rfl;rfl;exact(F.un _ rfl);exact(F.sz _ rfl);(focus(omega));(focus(omega))
    refine aA ⟨by kernel_rfl,?_,?_⟩;(focus(repeat(first|exact Kz|apply li;rfl|apply gq;rfl;kernel_rfl|refine f9 0 rfl (by kernel_rfl) (by(repeat(refine⟨(by first|exact an (F.ag _ rfl) rfl (by repeat(first|assumption|refine ab (by omega) ?_)) (aC rfl)|exact aW (F.ag _ rfl) rfl (by(repeat(refine ab (by omega) ?_));exact e1) (bm hxl)|exact gI (q:=N) rfl rfl (F.un _ rfl) (F.sz _ rfl) (by omega) (by omega)),?_⟩));exact Kz) ?_|apply ml;kernel_rfl)))
    repeat apply ai;rfl
    (apply bP Tryz.func23 Tryz.results23;rfl)
    exact⟨rfl,by repeat(exact ac),by dsimp only;omega,fun m h1 h2=>by(repeat(refine ab (by omega) ?_));exact e4 m h1⟩
  ·rw [JW he] at hch ⊢
   have h13:(aS (bareP (ay hm N))).2=13:=by
    rcases hno with h|h
    ·exact absurd h he
    ·rw [h]
   rw [h13]
   rw [hch,JW (by decide)]
   dsimp only
   repeat first|apply ai;rfl|refine dp rfl rfl rfl (F.sz _ rfl) (by repeat(first|assumption|exact ac)) rfl (by exact Jw rfl) (hone _ _) rfl ?_|apply ig;rfl;decide
   (apply bP Tryz.func23 Tryz.results23;rfl)
   exact⟨rfl,by repeat(first|assumption|refine ab (by omega) ?_),by dsimp only;omega,fun m hm _=>by(repeat(refine ab (by omega) ?_));exact co m hm⟩
theorem pk{mem:List UInt8}(hv:Hv mem)(n k:Int)(x:Nat):((kM (ay mem) n k x).1≠0∧(kM (ay mem) n k x).2=none)∨((kM (ay mem) n k x).1=0∧ ∃ n' y,(kM (ay mem) n k x).2=some (n',y)∧32≤n'∧n'<128∧GoodP y):=by
 have hg:=fun n' y=>B0 (n:=n) (k:=k) (x:=x) (m:=n') (y:=y) hv
 generalize hI:kM (ay mem) n k x=I at hg
 unfold kM at hI
 by_cases h1:4000<x∨mH n k=false
 ·rw [JW h1] at hI
  subst hI
  exact .inl ⟨by decide,rfl⟩
 ·rw [JV h1] at hI
  by_cases h2:(px (ay mem) n.toNat (jZ k.toNat x)).2≠0
  ·rw [JW h2] at hI
   subst hI
   exact .inl ⟨h2,rfl⟩
  ·rw [JV h2] at hI
   subst hI
   exact .inr ⟨rfl,_,_,rfl,hg _ _ rfl⟩
theorem y2(a:Int){L:Nat}(h:0<L) : -(L:Int)<a.tmod L∧a.tmod L<L:=⟨Int.lt_tmod_of_pos a (by omega),Int.tmod_lt_of_pos a (by omega)⟩
theorem CN(a:Int){L:Nat}(h:0<L)(h0:0≤a): ∃ j:Nat,j<L∧a.tmod L=(j:Int):=by
 have h1:=Int.tmod_nonneg (L:Int) h0
 have h2:=(y2 a h).2
 exact⟨(a.tmod L).toNat,by omega,by omega⟩
theorem do2_s{b h:Nat}{mem:List UInt8}{left puts:Int}{x:ow}(hb:H.at' b=some (cC mem left puts))(hh:H.at' h=some (hpO (dC mem)))(hne:b≠h)(hv:Hv mem)(hx:AP H nx b h x)(hk:x.1.kind=2)(hl : -1000000≤left∧left<0)(hp:0≤puts∧puts≤1000000):Fnc Tryz.prog 9 [.ptr b 0,.ptr h 0,.agg (rT x)] H nx (qy H nx b h mem left puts):=by
 have hx0:=hx H fun _ _ _ _=>rfl
 have hone:bi (rT x)=true:=by simp only [bi,cF hx0.1,cF hx0.2];rfl
 refine Kp Tryz.func9 rfl rfl ?_
 refine aX fun hund=>?_
 have lb:=hund _ _ hb
 have lh:=hund _ _ hh
 obtain⟨rows,hal,hrl,hrn⟩:=gS hv
 have hdoc:mI (dfH (dC mem))=some rows:=(kU fun n a b=>fq hv a b).trans hal
 repeat apply ai;rfl
 refine aI rfl rfl rfl (by kernel_rfl) (Ko (np (hm:=dC mem) (by repeat(first|assumption|refine ab (by omega) ?_)) (dy hv.len)) ?_)
 rintro⟨_,H1,n1⟩ ⟨u1,u2,⟨u3,_⟩|⟨rows',s,rr,u3,rfl,u4⟩⟩
 ·rw [hdoc] at u3
  cases u3
 rw [hdoc] at u3
 cases u3
 dsimp only at u1 u2 u4 ⊢
 have c1:H1.at' nx=some (tR x):=(u2 nx (by omega)).trans (by repeat(exact ac))
 have cb:H1.at' b=some (cC mem left puts):=(u2 b (by omega)).trans (by repeat(first|assumption|refine ab (by omega) ?_))
 have ch:H1.at' h=some (hpO (dC mem)):=(u2 h (by omega)).trans (by repeat(first|assumption|refine ab (by omega) ?_))
 have co: ∀ m,m<nx→H1.at' m=H.at' m:=fun m hm=>(u2 m (by omega)).trans (by(repeat(refine ab (by omega) ?_));rfl)
 repeat first|refine cZ rfl rfl rfl (F.ag _ rfl) cb (dv hv.len _ _) ?_|apply ai;rfl|apply aH;rfl;assumption;rfl
 repeat first|apply ai;rfl|apply ig;rfl;omega
 refine cI rfl rfl rfl rfl (fun _=>?_) (fun e=>absurd hk (by omega))
 rcases u4 with ⟨rfl,rfl⟩|⟨ws,L,hL0,rfl,hrw,hrL,_,hC⟩
 ·repeat first|refine dP rfl rfl rfl (F.ag _ rfl) (by(repeat(refine ab (by omega) ?_));exact c1) (iR x) ?_|refine cd (jL (F.un _ rfl) rfl) rfl rfl rfl ?_|apply kY;rfl;decide|apply ai;rfl|apply aH;rfl;(focus((repeat(first|assumption|exact ac|refine ab (by omega) ?_));done));rfl
  refine cT (R:=fun HB nB=>nB=n1+1∧HB.at' n1=some (eH x.1.tid.1 x.1.tid.2)∧ ∀ m,m<n1→HB.at' m=H1.at' m) ⟨rfl,by repeat(exact ac),fun m hm=>by(repeat(refine ab (by omega) ?_));rfl⟩ ?_
  rintro HB nB ⟨rfl,kT,kF⟩
  have kA:HB.at' nx=some (tR x):=(kF nx (by omega)).trans c1
  have kb:HB.at' b=some (cC mem left puts):=(kF b (by omega)).trans cb
  have kh:HB.at' h=some (hpO (dC mem)):=(kF h (by omega)).trans ch
  have ko: ∀ m,m<nx→HB.at' m=H.at' m:=fun m hm=>(kF m (by omega)).trans (co m hm)
  refine aI rfl rfl rfl (by kernel_rfl) (Ko (EJ (b:=b) (n:=x.1.tid.1) (k:=x.1.tid.2) (x:=x.1.xid) (mem:=mem) (left:=left) (puts:=puts) kb hv.len (by omega) (by omega) (by omega)) ?_)
  rintro⟨_,H2,n2⟩ ⟨rfl,d2,d3,d4⟩
  dsimp only at d2 d3 d4 ⊢
  have e0:H2.at' n1=some (eH x.1.tid.1 x.1.tid.2):=(d4 _ (by omega) (by omega)).trans kT
  have e1:H2.at' nx=some (tR x):=(d4 _ (by omega) (by omega)).trans kA
  have e2:H2.at' h=some (hpO (dC mem)):=(d4 _ (by omega) (Ne.symm hne)).trans kh
  have e3: ∀ m,m<nx→m≠b→H2.at' m=H.at' m:=fun m hm hmb=>(d4 _ (by omega) hmb).trans (ko m hm)
  have hc:=pk hv x.1.tid.1 x.1.tid.2 x.1.xid
  have hdI:kM (dfH (dC mem)) x.1.tid.1 x.1.tid.2 x.1.xid=kM (ay mem) x.1.tid.1 x.1.tid.2 x.1.xid:=rG (fun n a b=>fq hv a b) _ _ _
  generalize kM (ay mem) x.1.tid.1 x.1.tid.2 x.1.xid=I at hc hdI d2 ⊢
  repeat first|apply ai;rfl|apply aH;rfl;assumption;rfl
  refine aI rfl rfl rfl (by kernel_rfl) (Ko (uP (hb:=h) (n:=x.1.tid.1) (k:=x.1.tid.2) (x:=x.1.xid) (hm:=dC mem) (by exact e2) (dy hv.len)) ?_)
  rintro⟨_,H3,n3⟩ ⟨rfl,f2,f3,f4⟩
  dsimp only at f2 f3 f4 ⊢
  rw [hdI] at f2 ⊢
  have g2:H3.at' b=some (putO mem left puts I.2):=(f4 _ (by omega) hne).trans (by exact d2)
  have g3: ∀ m,m<nx→m≠b→m≠h→H3.at' m=H.at' m:=fun m hm hmb hmh=>(f4 _ (by omega) hmh).trans (by exact e3 m hm hmb)
  clear d4 f4
  rcases hc with ⟨hc1,hc2⟩|⟨hc1,n,y,hc2,hc3,hc4,hc5⟩
  ·rw [hc2] at f2 g2
   have g2':H3.at' b=some (cC mem left puts):=g2
   have f2':H3.at' h=some (hpO (dC mem)):=f2
   repeat first|apply dK;rfl;rfl|apply ig;rfl;omega|apply ai;rfl
   (apply bP Tryz.func9 Tryz.results9;rfl)
   exact⟨rfl,mem,left,puts,by exact g2',by exact f2',hv,⟨by omega,by omega⟩,⟨by omega,by omega⟩,by first|omega|(dsimp only;omega),fun m hm hmb hmh=>by exact g3 m hm hmb hmh,iZ _⟩
  ·rw [hc2] at f2 g2
   have g2':H3.at' b=some (cC (gD mem n y) (left-1) (puts+1)):=g2
   have f2':H3.at' h=some (hpO (gD (dC mem) (n-32) y)):=f2
   rw [← mt hv.len hc3 hc4 hc5.len] at f2'
   have hv2:=hv.set hc3 hc4 hc5
   repeat first|refine cZ rfl rfl rfl (F.ag _ rfl) (by exact g2') (dv hv2.len _ _) ?_|apply dK;rfl;rfl|apply dK;rfl;omega|apply ai;rfl|apply aL;rfl;omega;omega
   (apply bP Tryz.func9 Tryz.results9;rfl)
   exact⟨rfl,gD mem n y,left-1,puts+1,by exact g2',by exact f2',hv2,⟨by omega,by omega⟩,⟨by omega,by omega⟩,by first|omega|(dsimp only;omega),fun m hm hmb hmh=>by exact g3 m hm hmb hmh,qH hv.len hc4 hc5.len⟩
 ·repeat first|refine dP rfl rfl rfl (F.ag _ rfl) (by(repeat(refine ab (by omega) ?_));exact c1) (iR x) ?_|apply pK;rfl;omega|apply ai;rfl|apply cD;rfl|apply aH;rfl;(focus((repeat(first|assumption|exact ac|refine ab (by omega) ?_));done));rfl
  cases hod:x.1.odd with
  | true=>
    repeat first|apply ai;rfl|apply aH;rfl;(focus((repeat(first|assumption|exact ac|refine ab (by omega) ?_));done));rfl
    refine cT (R:=fun HB nB=>nB=n1+1∧HB.at' n1=some (eH x.1.tid.1 x.1.tid.2)∧ ∀ m,m<n1→HB.at' m=H1.at' m) ⟨rfl,by repeat(exact ac),fun m hm=>by(repeat(refine ab (by omega) ?_));rfl⟩ ?_
    rintro HB nB ⟨rfl,kT,kF⟩
    have kA:HB.at' nx=some (tR x):=(kF nx (by omega)).trans c1
    have kb:HB.at' b=some (cC mem left puts):=(kF b (by omega)).trans cb
    have kh:HB.at' h=some (hpO (dC mem)):=(kF h (by omega)).trans ch
    have ko: ∀ m,m<nx→HB.at' m=H.at' m:=fun m hm=>(kF m (by omega)).trans (co m hm)
    refine aI rfl rfl rfl (by kernel_rfl) (Ko (EJ (b:=b) (n:=x.1.tid.1) (k:=x.1.tid.2) (x:=x.1.xid) (mem:=mem) (left:=left) (puts:=puts) kb hv.len (by omega) (by omega) (by omega)) ?_)
    rintro⟨_,H2,n2⟩ ⟨rfl,d2,d3,d4⟩
    dsimp only at d2 d3 d4 ⊢
    have e0:H2.at' n1=some (eH x.1.tid.1 x.1.tid.2):=(d4 _ (by omega) (by omega)).trans kT
    have e1:H2.at' nx=some (tR x):=(d4 _ (by omega) (by omega)).trans kA
    have e2:H2.at' h=some (hpO (dC mem)):=(d4 _ (by omega) (Ne.symm hne)).trans kh
    have e3: ∀ m,m<nx→m≠b→H2.at' m=H.at' m:=fun m hm hmb=>(d4 _ (by omega) hmb).trans (ko m hm)
    have hc:=pk hv x.1.tid.1 x.1.tid.2 x.1.xid
    have hdI:kM (dfH (dC mem)) x.1.tid.1 x.1.tid.2 x.1.xid=kM (ay mem) x.1.tid.1 x.1.tid.2 x.1.xid:=rG (fun n a b=>fq hv a b) _ _ _
    generalize kM (ay mem) x.1.tid.1 x.1.tid.2 x.1.xid=I at hc hdI d2 ⊢
    repeat first|apply ai;rfl|apply aH;rfl;assumption;rfl
    refine aI rfl rfl rfl (by kernel_rfl) (Ko (uP (hb:=h) (n:=x.1.tid.1) (k:=x.1.tid.2) (x:=x.1.xid) (hm:=dC mem) (by exact e2) (dy hv.len)) ?_)
    rintro⟨_,H3,n3⟩ ⟨rfl,f2,f3,f4⟩
    dsimp only at f2 f3 f4 ⊢
    rw [hdI] at f2 ⊢
    have g2:H3.at' b=some (putO mem left puts I.2):=(f4 _ (by omega) hne).trans (by exact d2)
    have g3: ∀ m,m<nx→m≠b→m≠h→H3.at' m=H.at' m:=fun m hm hmb hmh=>(f4 _ (by omega) hmh).trans (by exact e3 m hm hmb)
    clear d4 f4
    rcases hc with ⟨hc1,hc2⟩|⟨hc1,n,y,hc2,hc3,hc4,hc5⟩
    ·rw [hc2] at f2 g2
     have g2':H3.at' b=some (cC mem left puts):=g2
     have f2':H3.at' h=some (hpO (dC mem)):=f2
     repeat first|apply dK;rfl;rfl|apply ig;rfl;omega|apply ai;rfl
     (apply bP Tryz.func9 Tryz.results9;rfl)
     exact⟨rfl,mem,left,puts,by exact g2',by exact f2',hv,⟨by omega,by omega⟩,⟨by omega,by omega⟩,by first|omega|(dsimp only;omega),fun m hm hmb hmh=>by exact g3 m hm hmb hmh,iZ _⟩
    ·rw [hc2] at f2 g2
     have g2':H3.at' b=some (cC (gD mem n y) (left-1) (puts+1)):=g2
     have f2':H3.at' h=some (hpO (gD (dC mem) (n-32) y)):=f2
     rw [← mt hv.len hc3 hc4 hc5.len] at f2'
     have hv2:=hv.set hc3 hc4 hc5
     repeat first|refine cZ rfl rfl rfl (F.ag _ rfl) (by exact g2') (dv hv2.len _ _) ?_|apply dK;rfl;rfl|apply dK;rfl;omega|apply ai;rfl|apply aL;rfl;omega;omega
     (apply bP Tryz.func9 Tryz.results9;rfl)
     exact⟨rfl,gD mem n y,left-1,puts+1,by exact g2',by exact f2',hv2,⟨by omega,by omega⟩,⟨by omega,by omega⟩,by first|omega|(dsimp only;omega),fun m hm hmb hmh=>by exact g3 m hm hmb hmh,qH hv.len hc4 hc5.len⟩
  | false=>
    repeat first|apply ai;rfl|apply aH;rfl;(focus((repeat(first|assumption|refine ab (by omega) ?_));done));rfl
    have hr0:=y2 x.1.place hL0
    generalize hr1:x.1.place.tmod (rows.length:Int)=p1 at hr0
    obtain⟨j,hj,hr2⟩:=CN (p1+(rows.length:Int)) hL0 (by omega)
    obtain⟨a1,a2,ra,_,x1,x2,x3,x4⟩:=hC.cells hj
    refine r6 (c:=p1) rfl rfl rfl rfl (by omega) hr1 ?_
    repeat first|apply ai;rfl|apply aL;rfl;omega;omega
    refine r6 (c:=(j:Int)) rfl rfl rfl rfl (by omega) hr2 ?_
    repeat first|refine di (q:=j) rfl rfl rfl rfl (F.un _ rfl) (F.sz _ rfl) (by(repeat(refine ab (by omega) ?_));exact hrw) (by omega) (by omega) (JK _) ?_|refine dP rfl rfl rfl (F.ag _ rfl) (by(repeat(refine ab (by omega) ?_));exact hrw) x3 ?_|apply ai;rfl|apply aH;rfl;(focus((repeat(first|assumption|exact ac|refine ab (by omega) ?_));done));rfl
    refine cT (R:=fun HB nB=>nB=n1+1∧HB.at' n1=some (eH ((rows[j]).1.1:Int) ((rows[j]).1.2:Int))∧ ∀ m,m<n1→HB.at' m=H1.at' m) ⟨rfl,by repeat(exact ac),fun m hm=>by(repeat(refine ab (by omega) ?_));rfl⟩ ?_
    rintro HB nB ⟨rfl,kT,kF⟩
    have kA:HB.at' nx=some (tR x):=(kF nx (by omega)).trans c1
    have kb:HB.at' b=some (cC mem left puts):=(kF b (by omega)).trans cb
    have kh:HB.at' h=some (hpO (dC mem)):=(kF h (by omega)).trans ch
    have ko: ∀ m,m<nx→HB.at' m=H.at' m:=fun m hm=>(kF m (by omega)).trans (co m hm)
    refine aI rfl rfl rfl (by kernel_rfl) (Ko (EJ (b:=b) (n:=((rows[j]).1.1:Int)) (k:=((rows[j]).1.2:Int)) (x:=x.1.xid) (mem:=mem) (left:=left) (puts:=puts) kb hv.len (by omega) (by omega) (by omega)) ?_)
    rintro⟨_,H2,n2⟩ ⟨rfl,d2,d3,d4⟩
    dsimp only at d2 d3 d4 ⊢
    have e0:H2.at' n1=some (eH ((rows[j]).1.1:Int) ((rows[j]).1.2:Int)):=(d4 _ (by omega) (by omega)).trans kT
    have e1:H2.at' nx=some (tR x):=(d4 _ (by omega) (by omega)).trans kA
    have e2:H2.at' h=some (hpO (dC mem)):=(d4 _ (by omega) (Ne.symm hne)).trans kh
    have e3: ∀ m,m<nx→m≠b→H2.at' m=H.at' m:=fun m hm hmb=>(d4 _ (by omega) hmb).trans (ko m hm)
    have hc:=pk hv ((rows[j]).1.1:Int) ((rows[j]).1.2:Int) x.1.xid
    have hdI:kM (dfH (dC mem)) ((rows[j]).1.1:Int) ((rows[j]).1.2:Int) x.1.xid=kM (ay mem) ((rows[j]).1.1:Int) ((rows[j]).1.2:Int) x.1.xid:=rG (fun n a b=>fq hv a b) _ _ _
    generalize kM (ay mem) ((rows[j]).1.1:Int) ((rows[j]).1.2:Int) x.1.xid=I at hc hdI d2 ⊢
    repeat first|apply ai;rfl|apply aH;rfl;assumption;rfl
    refine aI rfl rfl rfl (by kernel_rfl) (Ko (uP (hb:=h) (n:=((rows[j]).1.1:Int)) (k:=((rows[j]).1.2:Int)) (x:=x.1.xid) (hm:=dC mem) (by exact e2) (dy hv.len)) ?_)
    rintro⟨_,H3,n3⟩ ⟨rfl,f2,f3,f4⟩
    dsimp only at f2 f3 f4 ⊢
    rw [hdI] at f2 ⊢
    have g2:H3.at' b=some (putO mem left puts I.2):=(f4 _ (by omega) hne).trans (by exact d2)
    have g3: ∀ m,m<nx→m≠b→m≠h→H3.at' m=H.at' m:=fun m hm hmb hmh=>(f4 _ (by omega) hmh).trans (by exact e3 m hm hmb)
    clear d4 f4
    rcases hc with ⟨hc1,hc2⟩|⟨hc1,n,y,hc2,hc3,hc4,hc5⟩
    ·rw [hc2] at f2 g2
     have g2':H3.at' b=some (cC mem left puts):=g2
     have f2':H3.at' h=some (hpO (dC mem)):=f2
     repeat first|apply dK;rfl;rfl|apply ig;rfl;omega|apply ai;rfl
     (apply bP Tryz.func9 Tryz.results9;rfl)
     exact⟨rfl,mem,left,puts,by exact g2',by exact f2',hv,⟨by omega,by omega⟩,⟨by omega,by omega⟩,by first|omega|(dsimp only;omega),fun m hm hmb hmh=>by exact g3 m hm hmb hmh,iZ _⟩
    ·rw [hc2] at f2 g2
     have g2':H3.at' b=some (cC (gD mem n y) (left-1) (puts+1)):=g2
     have f2':H3.at' h=some (hpO (gD (dC mem) (n-32) y)):=f2
     rw [← mt hv.len hc3 hc4 hc5.len] at f2'
     have hv2:=hv.set hc3 hc4 hc5
     repeat first|refine cZ rfl rfl rfl (F.ag _ rfl) (by exact g2') (dv hv2.len _ _) ?_|apply dK;rfl;rfl|apply dK;rfl;omega|apply ai;rfl|apply aL;rfl;omega;omega
     (apply bP Tryz.func9 Tryz.results9;rfl)
     exact⟨rfl,gD mem n y,left-1,puts+1,by exact g2',by exact f2',hv2,⟨by omega,by omega⟩,⟨by omega,by omega⟩,by first|omega|(dsimp only;omega),fun m hm hmb hmh=>by exact g3 m hm hmb hmh,qH hv.len hc4 hc5.len⟩
abbrev OK1(l:List (Int×Int))(i:Nat):Prop:=(∀ t∈l.take i,mH t.1 t.2=true)∧(l.take i).Nodup
theorem wY(hi:i<l.length)(h:OK1 l i)(h1:mH (l[i]).1 (l[i]).2=true)(h2:l[i]∉l.take i):OK1 l (i+1):=by
 unfold OK1
 rw [fO hi]
 refine⟨fun t ht=>?_,?_⟩
 ·rcases List.mem_append.1 ht with h3|h3
  ·exact h.1 t h3
  ·rw [J1.1 h3];exact h1
 ·rw [List.nodup_append]
  exact⟨h.2,List.nodup_cons.2 ⟨fun h=>(by cases h),List.nodup_nil⟩,fun a ha b hb=>by rw [J1.1 hb];exact fun e=>h2 (e ▸ ha)⟩
theorem vZ(hi:i<l.length)(h:mH (l[i]).1 (l[i]).2=false): ¬ s6 l:=fun g=>by
 have:=g.1 _ (JU hi)
 rw [h] at this
 cases this
theorem vY{k:Nat}(hi:i<l.length)(hk:k<i)(h:l[k]=l[i]): ¬ s6 l:=fun g=>by
 have:=List.pairwise_iff_getElem.1 g.2 k i (by omega) hi hk
 exact this h
abbrev tidB(t:Int×Int):VO:=eH t.1 t.2
def Wr(pf:Nat→List UInt8)(l:List (Int×Int))(i:Nat)(w a b:Int):Prop:=((∀ t∈l.take i,jB (aS (pf t.1.toNat)).1 t.2.toNat=true)∧w=0∧a=1000)∨((∃ t∈l.take i,jB (aS (pf t.1.toNat)).1 t.2.toNat=false)∧w=6)
theorem Jk{w a b:Int}(h:Wr pf l i w a b)(hi:i<l.length)(h1:jB (aS (pf (l[i]).1.toNat)).1 (l[i]).2.toNat=true):Wr pf l (i+1) w a b:=by
 unfold Wr at h ⊢
 rw [fO hi]
 rcases h with ⟨h2,h3⟩|⟨⟨t,h2,h3⟩,h4⟩
 ·refine .inl ⟨fun t ht=>?_,h3⟩
  rcases List.mem_append.1 ht with h5|h5
  ·exact h2 t h5
  ·rw [J1.1 h5];exact h1
 ·exact .inr ⟨⟨t,List.mem_append_left _ h2,h3⟩,h4⟩
theorem Cl(a b:Int)(hi:i<l.length)(h1:jB (aS (pf (l[i]).1.toNat)).1 (l[i]).2.toNat=false):Wr pf l (i+1) 6 a b:=by
 unfold Wr
 rw [fO hi]
 exact .inr ⟨⟨_,List.mem_append_right _ (J1.2 rfl),h1⟩,rfl⟩
theorem BV(hG: ∀ n,32≤n→n<128→GoodP (pf n)){t:Int×Int}(h:mH t.1 t.2=true):(pN pf t.1 t.2).2=if jB (aS (pf t.1.toNat)).1 t.2.toNat=true then 0 else 6:=by
 have hm:=J7 h
 obtain⟨q,hq,hQ⟩:=(hG t.1.toNat (by omega) (by omega)).read
 unfold pN
 rw [JV (by rw [h];decide),hq,JV (fun h=>h rfl)]
 cases hh:jB q t.2.toNat with
 | true=>
   rw [rA hh,JV (fun h=>h rfl),JW rfl]
   have h2:=J7 hh
   have:=hQ.items _ h2.1 h2.2
   dsimp only [BD]
   rw [JW this]
 | false=>rw [pd hh,JW (by decide),JV (by decide)]
theorem oa{T:Tr SV}{d:Option Tmp}{ty:TypeId}{pos:String}{af:Array Edge}{gd:Option (Nat×Bool)}{x y:Operand}{yt:TypeId}{a b:Int×Int}{r:Bool}(hr:iC a b=r)(hx:ak T x=some (yB a))(hy:ak T y=some (yB b)):ReadDoes Tryz.prog T H ⟨d,.binOp .eql 40 x y yt,ty,pos,af,gd⟩ (.sc (.bool r)):=hr ▸ vH hx hy
theorem qO{hb r:Nat}{hm:List UInt8}(hH:H.at' hb=some (hpO hm))(hl:hm.length=98304)(hrow:H.at' r=some (oI l))(hne:r≠hb)(hll:l.length≤50000)(hG: ∀ n,32≤n→n<128→GoodP (dfH hm n)):Fnc Tryz.prog 24 [.ptr hb 0,.slu r 0 l.length] H nx
 (fun q=>q.1 = .sc (.int .i64 ((fD (dfH hm) l).1:Int))∧q.2.1.at' hb=some (hpO (jM hm (fD (dfH hm) l).2))∧nx≤q.2.2∧ ∀ m,m<nx→m≠hb→q.2.1.at' m=H.at' m):=by
 refine Kp Tryz.func24 rfl rfl ?_
 refine aX fun hund=>?_
 have lH:=hund _ _ hH
 have lR:=hund _ _ hrow
 clear hund
 repeat apply ai;rfl
 refine bu (α:=Nat) (fun i=> [(0,.ptr hb 0),(1,.slu r 0 l.length),(5,.sc (.int .i64 (i:Int)))])
  (fun i H1 n1=>i≤l.length∧OK1 l i∧nx≤n1∧ ∀ m,m<nx→H1.at' m=H.at' m) (fun i=>l.length-i) 0
  ⟨JL _,⟨fun t ht=>by simp at ht,by simp⟩,JK _,fun m _=>rfl⟩ (Kv (Ky rfl)) ?_
 rintro i H1 n1 ⟨i1,i2,i3,i4⟩ ih
 have r1:H1.at' r=some (oI l):=(i4 r lR).trans hrow
 have b1:H1.at' hb=some (hpO hm):=(i4 hb lH).trans hH
 repeat apply ai;rfl
 refine bh rfl rfl rfl rfl (fun h5=>?_) (fun h5=>?_)
 ·have hi:i<l.length:=by omega
  have hcc:=vq hi
  repeat first|refine di (q:=i) rfl rfl rfl rfl (F.un _ rfl) (F.sz _ rfl) (by assumption) (by omega) (by(omega)) (JK _) ?_|(refine cS rfl (.inr (fun _ h=>by cases h)) ((aW (F.ag _ rfl) rfl r1 hcc).does) ?_);rw [aG rfl]|apply ai;rfl|apply aH;rfl;(focus((repeat(exact ac));done));rfl
  cases hmay:mH (l[i]).1 (l[i]).2 with
  | false=>
    have hM:fD (dfH hm) l=(2,[]):=JW (vZ hi hmay)
    have hmd:=of_decide_eq_false hmay
    rw [hM]
    generalize (l[i]).1=ta at hmd ⊢
    generalize (l[i]).2=tb at hmd ⊢
    by_cases c1:ta<32
    ·clear hmd
     repeat first|apply pK;rfl;omega|apply ai;rfl
     (apply bP Tryz.func24 Tryz.results24;rfl)
     exact⟨rfl,by(repeat(refine ab (by omega) ?_));exact b1,by dsimp only;omega,fun m hm _=>by(repeat(refine ab (by omega) ?_));exact i4 m hm⟩
    ·by_cases c2:127<ta
     ·clear hmd
      repeat first|apply pK;rfl;omega|apply kY;rfl;omega|apply ai;rfl|apply aH;rfl;(focus((repeat(exact ac));done));rfl
      (apply bP Tryz.func24 Tryz.results24;rfl)
      exact⟨rfl,by(repeat(refine ab (by omega) ?_));exact b1,by dsimp only;omega,fun m hm _=>by(repeat(refine ab (by omega) ?_));exact i4 m hm⟩
     ·have c3:tb<0:=by omega
      clear hmd
      repeat first|apply pK;rfl;omega|apply kY;rfl;omega|apply ai;rfl|apply aH;rfl;(focus((repeat(exact ac));done));rfl
      (apply bP Tryz.func24 Tryz.results24;rfl)
      exact⟨rfl,by(repeat(refine ab (by omega) ?_));exact b1,by dsimp only;omega,fun m hm _=>by(repeat(refine ab (by omega) ?_));exact i4 m hm⟩
  | true=>
    have hmd:32≤(l[i]).1∧(l[i]).1<128∧0≤(l[i]).2:=J7 hmay
    repeat first|apply kY;rfl;omega|apply ai;rfl|apply aH;rfl;(focus((repeat(exact ac));done));rfl
    refine bu (α:=Nat) (fun k=> [(0,.ptr hb 0),(1,.slu r 0 l.length),(5,.sc (.int .i64 (i:Int))),(6,.ptr n1 0),(7,.sc (.int .i64 (k:Int)))])
     (fun k H2 n2=>k≤i∧l[i]∉l.take k∧n2=n1+1∧H2.at' n1=some (tidB l[i])∧ ∀ m,m<nx→H2.at' m=H.at' m) (fun k=>i-k) 0
     ⟨JL _,by simp,rfl,by repeat(exact ac),fun m hm=>by(repeat(refine ab (by omega) ?_));exact i4 m hm⟩ (Kv (Ky rfl)) ?_
    rintro k H2 n2 ⟨k1,k2,rfl,k3,k4⟩ ih2
    have r2:H2.at' r=some (oI l):=(k4 r lR).trans hrow
    have b2:H2.at' hb=some (hpO hm):=(k4 hb lH).trans hH
    repeat apply ai;rfl
    refine bh rfl rfl rfl rfl (fun h6=>?_) (fun h6=>?_)
    ·have hk:k<i:=by omega
     have hcck:=vq (l:=l) (i:=k) (by omega)
     repeat apply ai;rfl
     cases hs:iC (l[k]'(by omega)) l[i] with
     | true=>
       have he:=gj.1 hs
       have hM:fD (dfH hm) l=(2,[]):=JW (vY hi hk he)
       rw [hM]
       (apply bg;(focus(kernel_rfl));(focus(kernel_rfl)))
       repeat first|refine aJ (q:=k) rfl rfl rfl rfl (F.un _ rfl) (F.sz _ rfl) (by assumption) (by omega) (by(omega)) (JK _) ?_|apply bH;rfl;rfl;exact(fun _ h=>by cases h);exact(aW (F.ag _ rfl) rfl r2 hcck)|apply dD;rfl;assumption;rfl|apply bH;rfl;rfl;exact(fun _ h=>by cases h);exact(oa hs rfl rfl)|apply aU;rfl
       refine aA ⟨by kernel_rfl,?_,?_⟩;(focus(repeat(first|exact Kz|apply gq;rfl;kernel_rfl|refine f9 0 rfl (by kernel_rfl) (by(repeat(refine⟨(by first|exact aW (F.ag _ rfl) rfl (by assumption) (am _ 0 rfl rfl)|exact aW (F.ag _ rfl) rfl r2 hcck|exact oa hs rfl rfl|exact aQ (F.un _ rfl) (F.sz _ rfl) rfl rfl r2 rfl (by omega) (JK _)),?_⟩));exact Kz) ?_)))
       repeat apply ai;rfl
       (apply bP Tryz.func24 Tryz.results24;rfl)
       exact⟨rfl,b2,by dsimp only;omega,fun m hm _=>k4 m hm⟩
     | false=>
       have hne2:l[k]'(by omega)≠l[i]:=fun e=>by rw [gj.2 e] at hs;cases hs
       (apply bg;(focus(kernel_rfl));(focus(kernel_rfl)))
       repeat first|refine aJ (q:=k) rfl rfl rfl rfl (F.un _ rfl) (F.sz _ rfl) (by assumption) (by omega) (by(omega)) (JK _) ?_|apply bH;rfl;rfl;exact(fun _ h=>by cases h);exact(aW (F.ag _ rfl) rfl r2 hcck)|apply dD;rfl;assumption;rfl|apply bH;rfl;rfl;exact(fun _ h=>by cases h);exact(oa hs rfl rfl)|apply aU;rfl
       refine aA ⟨by kernel_rfl,?_,?_⟩;(focus(repeat(first|exact Kz|apply gq;rfl;kernel_rfl|refine f9 0 rfl (by kernel_rfl) (by(repeat(refine⟨(by first|exact aW (F.ag _ rfl) rfl (by assumption) (am _ 0 rfl rfl)|exact aW (F.ag _ rfl) rfl r2 hcck|exact oa hs rfl rfl|exact aQ (F.un _ rfl) (F.sz _ rfl) rfl rfl r2 rfl (by omega) (JK _)),?_⟩));exact Kz) ?_)))
       repeat first|apply ai;rfl|apply aL;rfl;omega;omega
       exact ih2 _ _ _ (k+1) ⟨hk,fun h=>(by
        rw [fO (by omega)] at h
        rcases List.mem_append.1 h with h|h
        ·exact k2 h
        ·exact hne2 (J1.1 h).symm),rfl,k3,k4⟩ (by omega) (Kv (Ky rfl))
    ·have hk:k=i:=by omega
     subst hk
     repeat first|apply ai;rfl|apply aL;rfl;omega;omega
     exact ih _ _ _ (k+1) ⟨hi,wY hi i2 hmay k2,by first|omega|(dsimp only;omega),k4⟩ (by omega) (Kv (Ky rfl))
 ·have hi:i=l.length:=by omega
  subst hi
  have hmay:s6 l:=by
   have:=i2
   unfold OK1 at this
   rw [List.take_length] at this
   exact this
  clear ih i1 i2 h5
  repeat first|apply ai;rfl|apply aH;rfl;(focus((repeat(exact ac));done));rfl
  refine bu (α:=Nat×Int×Int×Int) (fun x=> [(0,.ptr hb 0),(1,.slu r 0 l.length),(8,.ptr n1 0),(9,.sc (.int .i64 x.2.1)),(10,.sc (.int .i64 (x.1:Int)))])
   (fun x H2 n2=>x.1≤l.length∧Wr (dfH hm) l x.1 x.2.1 x.2.2.1 x.2.2.2∧n1+1≤n2∧H2.at' n1=some (eH x.2.2.1 x.2.2.2)∧ ∀ m,m<nx→H2.at' m=H.at' m) (fun x=>l.length-x.1) (0,0,1000,0)
   ⟨JL _,.inl ⟨fun t ht=>by simp at ht,rfl,rfl⟩,JK _,by repeat(exact ac),fun m hm=>by(repeat(refine ab (by omega) ?_));exact i4 m hm⟩ (Kv (Ky rfl)) ?_
  clear r1 b1 i4
  rintro⟨i,w,fa,fb⟩ H2 n2 ⟨i1,i2,i5,i6,i4⟩ ih
  dsimp only at i1 i2 i4 i5 i6 ⊢
  have r2:H2.at' r=some (oI l):=(i4 r lR).trans hrow
  have b2:H2.at' hb=some (hpO hm):=(i4 hb lH).trans hH
  repeat apply ai;rfl
  refine bh rfl rfl rfl rfl (fun h5=>?_) (fun h5=>?_)
  ·have hi:i<l.length:=by omega
   have hcc:=vq hi
   have hc0:=yA hi
   have hc1:=yz hi
   have hmi:=hmay.1 _ (JU hi)
   have hgg:=BV hG hmi
   repeat first|refine di (q:=i) rfl rfl rfl rfl (F.un _ rfl) (F.sz _ rfl) (by assumption) (by omega) (by(omega)) (JK _) ?_|(refine cS rfl (.inr (fun _ h=>by cases h)) ((aW (F.ag _ rfl) rfl r2 hcc).does) ?_);rw [aG rfl]|apply ai;rfl
   refine aI rfl rfl rfl (by kernel_rfl) (Ko (uL (n:=(l[i]).1) (k:=(l[i]).2) b2 hl) ?_)
   rintro⟨_,H3,n3⟩ ⟨s',rr,rfl,c1,c2,c3,c4⟩
   dsimp only at c1 c2 c3 c4 ⊢
   obtain⟨vk,vw,rfl,hk1,hw1⟩:=c1
   have hone: ∀ x y:Nat,bi (eF vk vw x y)=true:=fun x y=>by simp only [bi,cF hk1.bs,cF hw1.bs];rfl
   have d1:H3.at' n1=some (eH fa fb):=(c4 _ (by omega)).trans i6
   have d2:H3.at' r=some (oI l):=(c4 _ (by omega)).trans r2
   have d4: ∀ m,m<nx→H3.at' m=H.at' m:=fun m hm=>(c4 _ (by omega)).trans (i4 m hm)
   clear c4 i6 r2 b2 i4 hk1 hw1
   have hgen: ∀ e:Nat,(pN (dfH hm) (l[i]).1 (l[i]).2).2=e→(pN (dfH hm) (l[i]).1 (l[i]).2).2=e:=fun _ h=>h
   clear hgen
   rw [hgg]
   clear hgg
   cases hh:jB (aS (dfH hm (l[i]).1.toNat)).1 (l[i]).2.toNat with
   | true=>
     rw [JW rfl]
     have hw2:=Jk i2 hi hh
     clear i2 hmi
     repeat first|apply ai;rfl|refine dp rfl rfl rfl (F.sz _ rfl) (by repeat(first|assumption|exact ac)) rfl (by exact Jw rfl) (hone _ _) rfl ?_
     refine cT (R:=fun H4 n4=>n4=n3+1∧H4.at' n1=some (eH fa fb)∧H4.at' r=some (oI l)∧ ∀ m,m<nx→H4.at' m=H.at' m) ⟨rfl,by repeat(first|assumption|refine ab (by omega) ?_),by repeat(first|assumption|refine ab (by omega) ?_),fun m hm=>by(repeat(refine ab (by omega) ?_));exact d4 m hm⟩ ?_
     rintro H4 n4 ⟨rfl,m1,m2,m4⟩
     clear d1 d2 d4
     ((apply bg;(focus(kernel_rfl));(focus(kernel_rfl)));(repeat(first|refine nc rfl rfl rfl rfl (fun hq=>absurd hq (by omega)) (fun _=>?_)|apply aU;rfl|apply cv;rfl;rfl));refine aA ⟨by kernel_rfl,?_,?_⟩;(focus(repeat(first|exact Kz|apply uO;rfl|apply gq;rfl;kernel_rfl|apply ml;kernel_rfl))))
     repeat first|apply ai;rfl|apply aL;rfl;omega;omega
     exact ih _ _ _ (i+1,w,fa,fb) ⟨hi,hw2,by first|omega|(dsimp only;omega),by assumption,fun m hm=>by exact m4 m hm⟩ (by dsimp only;omega) (Kv (Ky rfl))
   | false=>
     rw [JV (by decide)]
     repeat first|apply ai;rfl|refine dp rfl rfl rfl (F.sz _ rfl) (by repeat(first|assumption|exact ac)) rfl (by exact Jw rfl) (hone _ _) rfl ?_
     refine cT (R:=fun H4 n4=>n4=n3+1∧H4.at' n1=some (eH fa fb)∧H4.at' r=some (oI l)∧ ∀ m,m<nx→H4.at' m=H.at' m) ⟨rfl,by repeat(first|assumption|refine ab (by omega) ?_),by repeat(first|assumption|refine ab (by omega) ?_),fun m hm=>by(repeat(refine ab (by omega) ?_));exact d4 m hm⟩ ?_
     rintro H4 n4 ⟨rfl,m1,m2,m4⟩
     clear d1 d2 d4
     by_cases q1:(l[i]).1<fa
     ·(((apply bg;(focus(kernel_rfl));(focus(kernel_rfl)));(repeat(first|refine aJ (q:=i) rfl rfl rfl rfl (F.un _ rfl) (F.sz _ rfl) (by assumption) (by omega) (by(omega)) (JK _) ?_|refine bk (an (F.ag _ rfl) rfl m2 hc0) rfl rfl rfl ?_|apply dD;rfl;assumption;rfl|refine nc rfl rfl rfl rfl (fun _=>?_) (fun hq=>absurd hq (by omega))|refine cN rfl rfl rfl rfl (fun _=>?_) (fun hq=>absurd hq (by omega))|apply aU;rfl|apply cv;rfl;rfl));refine aA ⟨by kernel_rfl,?_,?_⟩;(focus(repeat(first|exact Kz|apply uO;rfl|apply gq;rfl;kernel_rfl|refine f9 0 rfl (by kernel_rfl) (by(repeat(refine⟨(by first|exact an (F.ag _ rfl) rfl (by assumption) (aC rfl)|exact an (F.ag _ rfl) rfl m2 hc0|exact aQ (F.un _ rfl) (F.sz _ rfl) rfl rfl m2 rfl (by omega) (JK _)),?_⟩));exact Kz) ?_|apply ml;kernel_rfl))));(repeat(first|refine di (q:=i) rfl rfl rfl rfl (F.un _ rfl) (F.sz _ rfl) (by assumption) (by omega) (by(omega)) (JK _) ?_|(refine cS rfl (.inr (fun _ h=>by cases h)) ((aW (F.ag _ rfl) rfl m2 hcc).does) ?_);rw [aG rfl]|apply ai;rfl|apply aH;rfl;assumption;rfl|apply aL;rfl;omega;omega));exact ih _ _ _ (i+1,6,(l[i]).1,(l[i]).2) ⟨hi,Cl _ _ hi hh,by first|omega|(dsimp only;omega),by repeat(exact ac),fun m hm=>by(repeat(refine ab (by omega) ?_));exact m4 m hm⟩ (by dsimp only;omega) (Kv (Ky rfl)))
     ·by_cases q2:(l[i]).1=fa
      ·by_cases q3:(l[i]).2<fb
       ·(((apply bg;(focus(kernel_rfl));(focus(kernel_rfl)));(repeat(first|refine aJ (q:=i) rfl rfl rfl rfl (F.un _ rfl) (F.sz _ rfl) (by assumption) (by omega) (by(omega)) (JK _) ?_|refine bk (an (F.ag _ rfl) rfl m2 hc0) rfl rfl rfl ?_|refine bk (an (F.ag _ rfl) rfl m2 hc1) rfl rfl rfl ?_|apply dD;rfl;assumption;rfl|refine lQ rfl rfl rfl rfl (fun _=>?_) (fun hq=>absurd hq (by omega))|refine nc rfl rfl rfl rfl (fun _=>?_) (fun hq=>absurd hq (by omega))|refine cN rfl rfl rfl rfl (fun _=>?_) (fun hq=>absurd hq (by omega))|refine cN rfl rfl rfl rfl (fun hq=>absurd hq (by omega)) (fun _=>?_)|apply aU;rfl));refine aA ⟨by kernel_rfl,?_,?_⟩;(focus(repeat(first|exact Kz|apply gq;rfl;kernel_rfl|refine f9 0 rfl (by kernel_rfl) (by(repeat(refine⟨(by first|exact an (F.ag _ rfl) rfl (by assumption) (aC rfl)|exact an (F.ag _ rfl) rfl m2 hc0|exact an (F.ag _ rfl) rfl m2 hc1|exact aQ (F.un _ rfl) (F.sz _ rfl) rfl rfl m2 rfl (by omega) (JK _)),?_⟩));exact Kz) ?_|apply ml;kernel_rfl))));(repeat(first|refine di (q:=i) rfl rfl rfl rfl (F.un _ rfl) (F.sz _ rfl) (by assumption) (by omega) (by(omega)) (JK _) ?_|(refine cS rfl (.inr (fun _ h=>by cases h)) ((aW (F.ag _ rfl) rfl m2 hcc).does) ?_);rw [aG rfl]|apply ai;rfl|apply aH;rfl;assumption;rfl|apply aL;rfl;omega;omega));exact ih _ _ _ (i+1,6,(l[i]).1,(l[i]).2) ⟨hi,Cl _ _ hi hh,by first|omega|(dsimp only;omega),by repeat(exact ac),fun m hm=>by(repeat(refine ab (by omega) ?_));exact m4 m hm⟩ (by dsimp only;omega) (Kv (Ky rfl)))
       ·(rcases i2 with ⟨_,_,rfl⟩|⟨_,rfl⟩;exact absurd (J7 hmi:32≤(l[i]).1∧(l[i]).1<128∧0≤(l[i]).2) (by omega);((apply bg;(focus(kernel_rfl));(focus(kernel_rfl)));(repeat(first|refine aJ (q:=i) rfl rfl rfl rfl (F.un _ rfl) (F.sz _ rfl) (by assumption) (by omega) (by(omega)) (JK _) ?_|refine bk (an (F.ag _ rfl) rfl m2 hc0) rfl rfl rfl ?_|refine bk (an (F.ag _ rfl) rfl m2 hc1) rfl rfl rfl ?_|apply dD;rfl;assumption;rfl|refine lQ rfl rfl rfl rfl (fun _=>?_) (fun hq=>absurd hq (by omega))|refine nc rfl rfl rfl rfl (fun _=>?_) (fun hq=>absurd hq (by omega))|refine cN rfl rfl rfl rfl (fun hq=>absurd hq (by omega)) (fun _=>?_)|apply aU;rfl));refine aA ⟨by kernel_rfl,?_,?_⟩;(focus(repeat(first|exact Kz|apply gq;rfl;kernel_rfl|refine f9 0 rfl (by kernel_rfl) (by(repeat(refine⟨(by first|exact an (F.ag _ rfl) rfl (by assumption) (aC rfl)|exact an (F.ag _ rfl) rfl m2 hc0|exact an (F.ag _ rfl) rfl m2 hc1|exact aQ (F.un _ rfl) (F.sz _ rfl) rfl rfl m2 rfl (by omega) (JK _)),?_⟩));exact Kz) ?_|apply ml;kernel_rfl))));(repeat(first|apply ai;rfl|apply aL;rfl;omega;omega));exact ih _ _ _ (i+1,6,fa,fb) ⟨hi,Cl _ _ hi hh,by first|omega|(dsimp only;omega),by assumption,fun m hm=>by exact m4 m hm⟩ (by dsimp only;omega) (Kv (Ky rfl)))
      ·(rcases i2 with ⟨_,_,rfl⟩|⟨_,rfl⟩;exact absurd (J7 hmi:32≤(l[i]).1∧(l[i]).1<128∧0≤(l[i]).2) (by omega);((apply bg;(focus(kernel_rfl));(focus(kernel_rfl)));(repeat(first|refine aJ (q:=i) rfl rfl rfl rfl (F.un _ rfl) (F.sz _ rfl) (by assumption) (by omega) (by(omega)) (JK _) ?_|refine bk (an (F.ag _ rfl) rfl m2 hc0) rfl rfl rfl ?_|apply dD;rfl;assumption;rfl|refine lQ rfl rfl rfl rfl (fun hq=>absurd hq (by omega)) (fun _=>?_)|refine nc rfl rfl rfl rfl (fun _=>?_) (fun hq=>absurd hq (by omega))|refine cN rfl rfl rfl rfl (fun hq=>absurd hq (by omega)) (fun _=>?_)|apply aU;rfl|apply cv;rfl;rfl));refine aA ⟨by kernel_rfl,?_,?_⟩;(focus(repeat(first|exact Kz|apply uO;rfl|apply gq;rfl;kernel_rfl|refine f9 0 rfl (by kernel_rfl) (by(repeat(refine⟨(by first|exact an (F.ag _ rfl) rfl (by assumption) (aC rfl)|exact an (F.ag _ rfl) rfl m2 hc0|exact aQ (F.un _ rfl) (F.sz _ rfl) rfl rfl m2 rfl (by omega) (JK _)),?_⟩));exact Kz) ?_|apply ml;kernel_rfl))));(repeat(first|apply ai;rfl|apply aL;rfl;omega;omega));exact ih _ _ _ (i+1,6,fa,fb) ⟨hi,Cl _ _ hi hh,by first|omega|(dsimp only;omega),by assumption,fun m hm=>by exact m4 m hm⟩ (by dsimp only;omega) (Kv (Ky rfl)))
  ·have hi:i=l.length:=by omega
   subst hi
   have hw:(lM (dfH hm) l∧w=0)∨(¬ lM (dfH hm) l∧w=6):=by
    unfold Wr at i2
    rw [List.take_length] at i2
    rcases i2 with ⟨h1,h2,_⟩|⟨⟨t,h1,h2⟩,h3⟩
    ·exact .inl ⟨h1,h2⟩
    ·exact .inr ⟨fun h=>(by rw [h t h1] at h2;cases h2),h3⟩
   clear ih i2 i1 h5
   rcases hw with ⟨hw,rfl⟩|⟨hw,rfl⟩
   ·have hM:fD (dfH hm) l=(0,ij (dfH hm) l 96):=by
     rw [y5]
     unfold fD
     rw [JV (fun h=>h hmay),JV (fun h=>h hw)]
    rw [hM]
    have hHas: ∀ n q,n<96→aS (dfH hm (32+n))=(q,0)→Has q (aM l (32+n)):=fun n q hn hq=>by
     refine⟨er hmay _,fun k hk=>?_⟩
     have h1:=hw _ ((dU hmay.1).1 hk)
     rw [Kd,Kd,hq] at h1
     exact J7 h1
    have hps: ∀ n,n≤96→ ∀ x∈ij (dfH hm) l n,32≤x.1∧x.1<32+n∧x.2.length=1024:=fun n hn x hx=>by
     obtain⟨h1,h2,_,h3⟩:=zQ hx
     refine⟨h1,h2,?_⟩
     obtain⟨q,hq,hQ⟩:=(hG x.1 h1 (by omega)).read
     rw [h3,hq]
     have:=hHas (x.1-32) q (by omega) (by rw [show 32+(x.1-32)=x.1 by omega];exact hq)
     rw [show 32+(x.1-32)=x.1 by omega] at this
     exact(wq hQ this).ok.len
    have hpl: ∀ n,n≤96→(jM hm (ij (dfH hm) l n)).length=98304:=fun n hn=>zm hl fun x hx=>by
     have:=hps n hn x hx
     exact⟨this.1,by omega,this.2.2⟩
    have hpo: ∀ n,n<96→ay (jM hm (ij (dfH hm) l n)) n=ay hm n:=fun n hn=>uo hl fun x hx=>by
     have:=hps n (by omega) x hx
     exact⟨this.1,by omega,this.2.2,by omega⟩
    repeat first|apply dK;rfl;omega|apply ai;rfl
    refine bu (α:=Nat) (fun n=> [(0,.ptr hb 0),(1,.slu r 0 l.length),(13,.sc (.int .i64 (n:Int)))])
     (fun n H3 n3=>n≤96∧nx≤n3∧H3.at' hb=some (hpO (jM hm (ij (dfH hm) l n)))∧ ∀ m,m<nx→m≠hb→H3.at' m=H.at' m) (fun n=>96-n) 0
     ⟨JL _,by omega,b2,fun m hm _=>i4 m hm⟩ (Kv (Ky rfl)) ?_
    clear r2 b2 i4 i6
    rintro n H3 n3 ⟨j1,j2,j3,j4⟩ ih
    have r3:H3.at' r=some (oI l):=(j4 r lR hne).trans hrow
    repeat apply ai;rfl
    refine bh rfl rfl rfl rfl (fun h5=>?_) (fun h5=>?_)
    ·have hn:n<96:=by omega
     obtain⟨q,hq,hQ⟩:=(hG (32+n) (by omega) (by omega)).read
     have hql:=hQ.ok.len
     have hhas:=hHas n q hn hq
     have hrs:=fun(H:au) nx (h:H.at' hb=some (hpO (jM hm (ij (dfH hm) l n))))=>l5 (nx:=nx) h (hpl n j1) hn
     have hv5:sB (ay (jM hm (ij (dfH hm) l n)) n)=(q,true):=by
      rw [hpo n hn]
      have hdf:dfH hm (32+n)=bareP (ay hm n):=by unfold dfH;rw [show 32+n-32=n by omega]
      rw [hdf] at hq
      rw [nZ (by rw [hq]),hq]
     rw [hv5] at hrs
     dsimp only [Bs] at hrs
     repeat first|apply bE hql aj;rfl;(focus((repeat(exact ac));done))|refine aZ rfl rfl cj ?_|apply ai;rfl|apply bU;rfl;kernel_rfl;exact hrs _ _ j3
     refine bu (α:=Nat) (fun i=> [(0,.ptr hb 0),(1,.slu r 0 l.length),(13,.sc (.int .i64 (n:Int))),(14,.ptr n3 0),(16,.sc (.bool (!(aM (l.take i) (32+n)).isEmpty))),(17,.sc (.int .i64 (i:Int)))])
      (fun i H4 n4=>i≤l.length∧n3+1≤n4∧H4.at' n3=some (pgO (db q (aM (l.take i) (32+n))))∧H4.at' hb=some (hpO (jM hm (ij (dfH hm) l n)))∧ ∀ m,m<nx→m≠hb→H4.at' m=H.at' m) (fun i=>l.length-i) 0
      ⟨JL _,JK _,by show _=some (pgO q);(focus((repeat(exact ac));done)),by repeat(first|assumption|refine ab (by omega) ?_),fun m hm hmb=>by(repeat(refine ab (by omega) ?_));exact j4 m hm hmb⟩ (Kv (Ky rfl)) ?_
     rintro i H4 n4 ⟨k1,k2,k3,k4,k5⟩ ih2
     have r4:H4.at' r=some (oI l):=(k5 r lR hne).trans hrow
     repeat apply ai;rfl
     refine bh rfl rfl rfl rfl (fun h6=>?_) (fun h6=>?_)
     ·have hi:i<l.length:=by omega
      have hc0:=yA hi
      have hc1:=yz hi
      have hmi:=hmay.1 _ (JU hi)
      have hmd:32≤(l[i]).1∧(l[i]).1<128∧0≤(l[i]).2:=J7 hmi
      repeat first|refine di (q:=i) rfl rfl rfl rfl (F.un _ rfl) (F.sz _ rfl) (by assumption) (by omega) (by(omega)) (JK _) ?_|refine cd (an (F.ag _ rfl) rfl r4 hc0) rfl rfl rfl ?_|apply ai;rfl|apply aL;rfl;omega;omega
      have hsn:=sh (l.take i) l[i] (32+n)
      rw [← fO hi] at hsn
      refine cI rfl rfl rfl rfl (fun he=>?_) (fun he=>?_)
      ·have he2:(l[i]).1=((32+n:Nat):Int):=by omega
       rw [JW he2] at hsn
       obtain⟨k,hk⟩: ∃ k:Nat,(l[i]).2=(k:Int):=⟨(l[i]).2.toNat,by omega⟩
       have hkt:(l[i]).2.toNat=k:=by omega
       rw [hkt] at hsn
       have hat:=xk hi he2
       rw [hkt] at hat
       rw [hat] at hhas
       obtain⟨t1,t2,t3⟩:=Has.there hQ.ok hhas
       have hxr:=(bw t3.len).2 t3
       have hdr:=fun(H:au) nx=>B6 (H:=H) (nx:=nx) t3.len hxr t1 t2
       have hds:=uQ q (aM (l.take i) (32+n)) k
       rw [show pt (bL (db q (aM (l.take i) (32+n))) k 0 0)=db q (aM (l.take i) (32+n) ++ [k])from hds.symm] at hdr
       have hyl:(db q (aM (l.take i) (32+n) ++ [k])).length=1024:=by
        rw [hds]
        exact(pq t3 t1 t2).ok.len
       rw [← hsn] at hdr hyl
       rw [← hk] at hdr
       have hxl:=t3.len
       have hbt:(!(aM (l.take (i+1)) (32+n)).isEmpty)=true:=by rw [hsn];cases aM (l.take i) (32+n) <;> rfl
       rw [← hsn]at hds
       clear hsn hat hk hkt t1 t2 t3 hxr hhas hmi hmd he2 hds
       generalize db q (aM (l.take i) (32+n))=x at k3 hxl hdr
       generalize hy:db q (aM (l.take (i+1)) (32+n))=y at hdr hyl
       repeat apply ai;rfl
       (apply gB;(focus(kernel_rfl));(focus(kernel_rfl)))
       refine dW 6 (Jw rfl) ?_
       repeat first|refine cg rfl rfl rfl (F.ag _ rfl) k3 (bf hxl) ?_|refine aJ (q:=i) rfl rfl rfl rfl (F.un _ rfl) (F.sz _ rfl) (by assumption) (by omega) (by(omega)) (JK _) ?_|refine bk (an (F.ag _ rfl) rfl r4 hc1) rfl rfl rfl ?_|apply aU;rfl
       refine aA ?_;(apply dX;rfl;rfl;rfl;(focus(kernel_rfl));exact(hdr _ _))
       refine jw ?_
       repeat first|refine pW (fj cj) rfl rfl rfl ?_|refine bY rfl rfl rfl (F.sz _ rfl) (by repeat(exact ac)) (bf hyl) (by rw [bf aj];exact JK _) (iH _) (lx _ _ aj hyl) ?_|apply aU;rfl
       refine aA ⟨by kernel_rfl,?_,?_⟩;(focus(repeat(first|exact Kz|refine⟨.inl rfl,?_⟩|refine⟨.inr (.inl (by(repeat(refine⟨(by first|exact mO rfl|exact aW (F.ag _ rfl) rfl (by(repeat(refine ab (by omega) ?_));exact k3) (bm hxl)|exact an (F.ag _ rfl) rfl (by(repeat(refine ab (by omega) ?_));exact r4) hc1|exact aQ (F.un _ rfl) (F.sz _ rfl) rfl rfl (by(repeat(refine ab (by omega) ?_));exact r4) rfl (by omega) (JK _)),?_⟩));exact Kz)),?_⟩|refine⟨.inr (.inr (by(repeat(refine⟨(by exact ew rfl (by kernel_rfl) (by exact hdr _ _)),?_⟩));exact Kz)),?_⟩)))
       repeat first|apply bv hyl;rfl;(focus((repeat(exact ac));done))|apply bE hyl hxl;rfl;(focus((repeat(first|assumption|refine ab (by omega) ?_));done))|apply ai;rfl|apply aL;rfl;omega;omega
       exact ih2 _ _ _ (i+1) ⟨hi,by dsimp only;omega,by rw [hy];(focus((repeat(exact ac));done)),by repeat(first|assumption|refine ab (by omega) ?_),fun m hm hmb=>by(repeat(refine ab (by omega) ?_));exact k5 m hm hmb⟩ (by omega) (Kv ⟨rfl,rfl,rfl,rfl,(by rw [hbt];rfl),fP (by omega),trivial⟩)
      ·have he2:(l[i]).1≠((32+n:Nat):Int):=by omega
       rw [JV he2] at hsn
       repeat first|apply ai;rfl|apply aL;rfl;omega;omega
       exact ih2 _ _ _ (i+1) ⟨hi,k2,by rw [hsn];exact k3,k4,k5⟩ (by omega) (Kv ⟨rfl,rfl,rfl,rfl,(by rw [hsn];rfl),fP (by omega),trivial⟩)
     ·have hi:i=l.length:=by omega
      subst hi
      rw [List.take_length] at k3 ⊢
      clear ih2
      by_cases hs:aM l (32+n)= []
      ·rw [hs]
       have hrt:=Bj (pf:=dfH hm) hs
       repeat first|apply ai;rfl|apply aL;rfl;omega;omega
       exact ih _ _ _ (n+1) ⟨hn,by first|omega|(dsimp only;omega),by rw [hrt];exact k4,k5⟩ (by omega) (Kv (Ky rfl))
      ·have hbt:(!(aM l (32+n)).isEmpty)=true:=by
        cases h9:aM l (32+n)with
        | nil=>exact absurd h9 hs
        | cons a b=>rfl
       rw [hbt]
       have hrt:=y4 (pf:=dfH hm) hs
       rw [hq] at hrt
       have hxo:=mu hQ.ok hhas
       have hxr:=(bw hxo.len).2 hxo
       have hpk:=fun(H:au) nx=>zt (H:=H) (nx:=nx) hxo.len hxr
       have hyl:=(qc hxo).len
       have hxl:=hxo.len
       have hmem:jM hm (ij (dfH hm) l (n+1))=gD (jM hm (ij (dfH hm) l n)) n (lf (db q (aM l (32+n)))):=by
        rw [hrt,xw,show 32+n-32=n by omega]
        rfl
       generalize lf (db q (aM l (32+n)))=y at hpk hyl hmem
       generalize db q (aM l (32+n))=x at k3 hpk hxl
       clear hxo hxr hrt hbt
       repeat first|apply bv hxl;rfl;assumption|apply bE hyl aj;rfl;(focus((repeat(exact ac));done))|refine aZ rfl rfl cj ?_|apply ai;rfl|apply bU;rfl;kernel_rfl;exact hpk _ _
       refine cT (R:=fun H5 n5=>n4<n5∧H5.at' n4=some (pgO y)∧H5.at' hb=some (hpO (jM hm (ij (dfH hm) l n)))∧ ∀ m,m<nx→m≠hb→H5.at' m=H.at' m) ⟨by omega,by repeat(exact ac),by repeat(first|assumption|refine ab (by omega) ?_),fun m hm hmb=>by(repeat(refine ab (by omega) ?_));exact k5 m hm hmb⟩ ?_
       rintro H5 n5 ⟨e0,e1,e2,e3⟩
       have hhl:=hpl n j1
       generalize jM hm (ij (dfH hm) l n)=hm2 at e2 hmem hhl
       (apply bg;(focus(kernel_rfl));(focus(kernel_rfl)))
       repeat first|refine cg rfl rfl rfl (F.ag _ rfl) e1 (bf hyl) ?_|refine bY rfl rfl rfl (F.sz _ rfl) e2 (bf hyl) (by rw [J0,J0,hhl];omega) (iH _) (wn hhl hn hyl) ?_|apply jl (q:=n);rfl;rfl;rfl;rfl;exact(F.un _ rfl);exact(F.sz _ rfl);(focus(omega));(focus(omega))|apply aU;rfl
       refine aA ⟨by kernel_rfl,?_,?_⟩;(focus(repeat(first|exact Kz|apply li;rfl|apply gq;rfl;kernel_rfl|refine f9 0 rfl (by kernel_rfl) (by(repeat(refine⟨(by first|exact aW (F.ag _ rfl) rfl (by repeat(first|assumption|refine ab (by omega) ?_)) (bm hyl)|exact gI (q:=n) rfl rfl (F.un _ rfl) (F.sz _ rfl) (by omega) (by omega)),?_⟩));exact Kz) ?_)))
       repeat first|apply ai;rfl|apply aL;rfl;omega;omega
       exact ih _ _ _ (n+1) ⟨hn,by first|omega|(dsimp only;omega),by rw [hmem];(focus((repeat(exact ac));done)),fun m hm hmb=>by(repeat(refine ab (by omega) ?_));exact e3 m hm hmb⟩ (by omega) (Kv (Ky rfl))
    ·have hn:n=96:=by omega
     subst hn
     repeat apply ai;rfl
     (apply bP Tryz.func24 Tryz.results24;rfl)
     exact⟨rfl,j3,j2,j4⟩
   ·have hM:fD (dfH hm) l=(6,[]):=by
     unfold fD
     rw [JV (fun h=>h hmay),JW hw]
    rw [hM]
    repeat first|apply ai;rfl|apply ig;rfl;omega
    (apply bP Tryz.func24 Tryz.results24;rfl)
    exact⟨rfl,by exact b2,by dsimp only;omega,fun m hm _=>i4 m hm⟩
end
end Go.Proofs.YtnhmbonmlfeifaaGreat
end
section
namespace Go.Sy
open Go Go.Sl Go.RowKit
section
variable {P:Program} {ro:Option Nat} {fn nt nx:Nat} {T:Tr SV} {k:List AIt} {dfs:List ADf} {H:au} {Q:Pst} {ty:TypeId} {pos:String} {af:Array Edge} {gd:Option (Nat×Bool)} {d:Option Tmp}
theorem zA{x:Operand}{name:String}{as1:List Operand}{ats:Array TypeId}{t:TypeId}{v:SV}{args:List SV}{g:FuncId}(hx:ak T x=some (.ifc t v))(ha:dw T as1=some args)(hm:lK P t name=some g):OpDoes P T H nx ⟨d,.call {callee:= .invoke x name,args:=as1.toArray,argTypes:=ats},ty,pos,af,gd⟩ (.enter g (v :: args),H,nx):=by
 refine jk ?_
 have hc:ce P T {callee:= .invoke x name,args:=as1.toArray,argTypes:=ats}=some (.enter g (v :: args)):=by
  simp only [ce,ha,hx,hm]
 unfold fV
 simp only [hc,JQ]
theorem tD{ops:Array Oper}{i stg:Nat}{l:List Oper}{rs:List Rec}{Hs:List (au×Nat)}{K:DS→Prop}{x:Operand}{name:String}{t:TypeId}{v v':SV}(g:FuncId){as1:List Operand}{ats:Array TypeId}{args:List SV}{H':au}{nx' dd:Nat}
 (hw:aE (aY T (a9 ops.toList ⟨some dd,.call {callee:= .invoke x name,args:=as1.toArray,argTypes:=ats},ty,pos,af,gd⟩)) ops ⟨some dd,.call {callee:= .invoke x name,args:=as1.toArray,argTypes:=ats},ty,pos,af,gd⟩=some true) (hd:Nat.blt dd nt=true)
 (hx:ak (aY T (a9 ops.toList ⟨some dd,.call {callee:= .invoke x name,args:=as1.toArray,argTypes:=ats},ty,pos,af,gd⟩)) x=some (.ifc t v))
 (ha:dw (aY T (a9 ops.toList ⟨some dd,.call {callee:= .invoke x name,args:=as1.toArray,argTypes:=ats},ty,pos,af,gd⟩)) as1=some args) (hm:lK P t name=some g) (hr:Fnc P g (v :: args) H nx (fun r=>r=(v',H',nx')))
 (h:DrawK P nt ops (i+1) l ⟨T.set dd v',H',nx',⟨i,⟨some dd,.call {callee:= .invoke x name,args:=as1.toArray,argTypes:=ats},ty,pos,af,gd⟩,aY T (a9 ops.toList ⟨some dd,.call {callee:= .invoke x name,args:=as1.toArray,argTypes:=ats},ty,pos,af,gd⟩),stg,true,true,v'⟩ :: rs,(H',nx') :: Hs,stg+1⟩ K) :
 DrawK P nt ops i (⟨some dd,.call {callee:= .invoke x name,args:=as1.toArray,argTypes:=ats},ty,pos,af,gd⟩ :: l) ⟨T,H,nx,rs,Hs,stg⟩ K:=by
 obtain⟨s',h1,h2⟩:=h.ex
 refine⟨⟨s',.cons (.inr (.inr ⟨hw,v',H',nx',⟨_,zA hx ha hm,(fun c hc=>(by cases hc)),hr⟩,?_⟩)) h1,h2⟩⟩
 simp only [aG hd]
end
end Go.Sy
end
section
namespace Go.Proofs.YtnhmbonmlfeifaaGreat
open Go Go.Sy Go.Sl Go.RowKit
section
variable {H:au}{b:Nat}{left:Int}{nx:Nat}{puts:Int}{mem:List UInt8}
theorem yS(k:Int):mM false 1 1 3 (List.take (0*1) (List.map SV.sc (List.map (fun x=>(Value.int IntKind.i64 0).cells[x % (Value.int IntKind.i64 0).cells.size]!) (List.range (1*1)))) ++ (SV.sc (Value.int IntKind.i64 k)).cells ++ List.drop (0*1+1) (List.map SV.sc (List.map (fun x=>(Value.int IntKind.i64 0).cells[x % (Value.int IntKind.i64 0).cells.size]!) (List.range (1*1)))))=qh [k]:=by
 have h:(List.take (0*1) (List.map SV.sc (List.map (fun x=>(Value.int IntKind.i64 0).cells[x % (Value.int IntKind.i64 0).cells.size]!) (List.range (1*1)))) ++ (SV.sc (Value.int IntKind.i64 k)).cells ++ List.drop (0*1+1) (List.map SV.sc (List.map (fun x=>(Value.int IntKind.i64 0).cells[x % (Value.int IntKind.i64 0).cells.size]!) (List.range (1*1)))))= [SV.sc (.int .i64 k)]:=by kernel_rfl
 rw [h]
 refine congrArg (VO.row false 1 1 3) (funext fun i=>?_)
 cases i with
 | zero=>rfl
 | succ i=>rfl
theorem xx(mem:List UInt8)(left puts:Int)(ρ:Nat→Nat):(cC mem left puts).ren ρ=cC mem left puts:=by
 have h:qa mem left puts=(byV mem ++ [Value.int .i64 left,Value.int .i64 puts]).map SV.sc:=by rw [JP];rfl
 show(ar _ (qa mem left puts)).ren ρ=ar _ (qa mem left puts)
 rw [h]
 exact yX
theorem Ba(ks:List Int)(hl:ks.length<65536):Ctr Tryz.prog 53 [.slu 0 0 ks.length] [qh ks] (fun c=>c=⟨.tup [],[some (qh (hU ks))]⟩):=by
 have hs:=vW ks.length ks.toArray hl (by simp)
 have hrow:b9 ks.length (Sort.sort bj ks.toArray)=iQ false (hU ks):=by
  have:(hU ks).length=ks.length:=jh ks
  show dat false ks.length 1 3 _=dat false (hU ks).length 1 3 _
  rw [this]
  rfl
 rw [hrow] at hs
 exact hs
theorem ur(l:List (Int×Int)):(b7 l).length≤96:=by
 unfold b7
 refine JS (List.length_filter_le _ _) ?_
 simp
abbrev dlP(mem:List UInt8)(l:List (Int×Int))(n:Nat):List UInt8:=rI (aS (ay mem n)).1 (aM l n)
abbrev xf:Unit→SV:=fun _=> .agg []
theorem y3{r:Nat}{l:List (Int×Int)}(hb:H.at' b=some (cC mem left puts))(hm:mem.length=131072)(hrow:H.at' r=some (oI l))(hne:r≠b)(hll:l.length≤50000)(hG: ∀ n,32≤n→n<128→GoodP (ay mem n))(hl2 : -1000000≤left∧left≤1000000)(hputs : -1000000≤puts∧puts≤1000000):Fnc Tryz.prog 21 [tZ b,.slu r 0 l.length] H nx
 (fun q=>q.1 = .sc (.int .i64 ((if(fD (ay mem) l).1≠0 then(fD (ay mem) l).1 else(fy (fD (ay mem) l).2 mem left puts).1:Nat):Int))∧q.2.1.at' b=some (cC (fy (fD (ay mem) l).2 mem left puts).2.1 (fy (fD (ay mem) l).2 mem left puts).2.2.1 (fy (fD (ay mem) l).2 mem left puts).2.2.2)∧nx≤q.2.2∧ ∀ m,m<nx→m≠b→q.2.1.at' m=H.at' m):=by
 refine Kp Tryz.func21 rfl rfl ?_
 refine aX fun hund=>?_
 have lb:=hund _ _ hb
 have lR:=hund _ _ hrow
 clear hund
 repeat first|apply ai;rfl|apply aH;rfl;(focus((repeat(exact ac));done));rfl|refine GY (mW) rfl rfl rfl ?_|apply lF;rfl;rfl;rfl;(focus(kernel_rfl))|refine cd (fi rfl rfl Tryz.underlying75 rfl) rfl rfl rfl ?_
 refine bu (α:=Nat×List (Int×(Nat×List Int)×Nat)×Nat×List ((Int×Int)×Unit×Nat)×Nat) (fun x=> [(0,tZ b),(4,.ptr nx 0),(5,.ptr (nx+1+1) 0),(6,.mp (nx+1+1+1)),(25,.slu r 0 l.length),(26,.sc (.int .i64 (l.length:Int))),(27,.sc (.int .i64 (x.1:Int)))])
  (fun x H1 n1=>x.1≤l.length∧OK1 l x.1∧SlM H1 (nx+1+1+1+1) n1 (l.take x.1) x.2.1 x.2.2.1∧SeM (l.take x.1) x.2.2.2.1 x.2.2.2.2∧nx+1+1+1+1≤n1∧H1.at' nx=some (fA 0)∧H1.at' (nx+1)=some (gg wH jy x.2.1 x.2.2.1)∧H1.at' (nx+1+1)=some (E5 (nx+1))∧H1.at' (nx+1+1+1)=some (gg ub xf x.2.2.2.1 x.2.2.2.2)∧ ∀ m,m<nx→H1.at' m=H.at' m) (fun x=>l.length-x.1) (0,[],0,[],0)
  ⟨JL _,⟨fun t ht=>by simp at ht,by simp⟩,by show SlM _ _ _ (l.take 0) [] 0;rw [List.take_zero];exact SlM.zero,by show SeM (l.take 0) [] 0;rw [List.take_zero];exact SeM.zero,by first|omega|(dsimp only;omega),by repeat(first|exact ac|refine ab (by omega) ?_),by repeat(first|exact ac|refine ab (by omega) ?_),by repeat(first|exact ac|refine ab (by omega) ?_),by repeat(exact ac),fun m hm=>by(repeat(refine ab (by omega) ?_));rfl⟩ (Kv (Ky rfl)) ?_
 rintro⟨i,m,c,o,c2⟩ H1 n1 ⟨i1,i2,i3,i4,i5,i6,i7,i8,i9,i10⟩ ih
 dsimp only at i1 i2 i3 i4 i5 i6 i7 i8 i9 i10 ⊢
 have r1:H1.at' r=some (oI l):=(i10 r lR).trans hrow
 have b1:H1.at' b=some (cC mem left puts):=(i10 b lb).trans hb
 repeat apply ai;rfl
 refine bh rfl rfl rfl rfl (fun h5=>?_) (fun h5=>?_)
 ·have hi:i<l.length:=by omega
  have hcc:=vq hi
  repeat first|refine di (q:=i) rfl rfl rfl rfl (F.un _ rfl) (F.sz _ rfl) (by assumption) (by omega) (by(omega)) (JK _) ?_|(refine cS rfl (.inr (fun _ h=>by cases h)) ((aW (F.ag _ rfl) rfl r1 hcc).does) ?_);rw [aG rfl]|apply ai;rfl|apply aH;rfl;(focus((repeat(exact ac));done));rfl
  refine cT (R:=fun H2 n2=>n2=n1+1∧H2.at' n1=some (tidB l[i])∧SlM H2 (nx+1+1+1+1) n1 (l.take i) m c∧H2.at' nx=some (fA 0)∧H2.at' (nx+1)=some (gg wH jy m c)∧H2.at' (nx+1+1)=some (E5 (nx+1))∧H2.at' (nx+1+1+1)=some (gg ub xf o c2)∧ ∀ m,m<nx→H2.at' m=H.at' m) ⟨rfl,by repeat(exact ac),i3.frame (JK _) fun r h1 h2=>by(repeat(refine ab (by omega) ?_));rfl,by repeat(first|assumption|refine ab (by omega) ?_),by repeat(first|assumption|refine ab (by omega) ?_),by repeat(first|assumption|refine ab (by omega) ?_),by repeat(first|assumption|refine ab (by omega) ?_),fun m hm=>by(repeat(refine ab (by omega) ?_));exact i10 m hm⟩ ?_
  rintro H2 n2 ⟨rfl,j0,j3,j6,j7,j8,j9,j10⟩
  clear i3 i6 i7 i8 i9 i10 r1 b1
  by_cases hmem:l[i]∈l.take i
  ·have hM:fD (ay mem) l=(2,[]):=JW (by
    obtain⟨k,hk,he⟩:=List.getElem_of_mem hmem
    rw [JZ] at hk
    exact vY hi (k:=k) (by omega) (by rw [← he,List.getElem_take]))
   have hg:fX o l[i]=some ():=by
    cases h:fX o l[i] with
    | some u=>rfl
    | none=>exact absurd ((i4.keys _).2 hmem) (iK.1 h)
   refine AW (m:=o) (enc:=ub) (val:=xf) (c:=c2) rfl rfl rfl rfl (ua l[i]) (F.un _ rfl) uF (by assumption) hg ?_
   repeat first|apply ai;rfl|apply aH;rfl;(focus((repeat(first|assumption|exact ac|refine ab (by omega) ?_));done));rfl
   rw [hM,JW (by decide)]
   dsimp only [fy]
   (refine eE Tryz.func21 (congrArg Array.toList Tryz.results21) (by kernel_rfl) (Ko sx ?_);rintro _ rfl;refine⟨_,(by(repeat(first|exact Kq|apply Kr rfl (Ku (F.ag _ rfl) (by repeat(exact ac)) (aC rfl))))),?_⟩;dsimp only;exact⟨rfl,by(repeat(refine ab (by omega) ?_));exact(j10 b lb).trans hb,by first|omega|(dsimp only;omega),fun m hm _=>by(repeat(refine ab (by omega) ?_));exact j10 m hm⟩)
  ·have hg:fX o l[i]=none:=by
    cases h:fX o l[i] with
    | none=>rfl
    | some u=>exact absurd ((i4.keys _).1 (by
       apply Classical.byContradiction
       intro h2
       rw [iK.2 h2] at h
       cases h)) hmem
   refine AX (m:=o) (enc:=ub) (val:=xf) (c:=c2) rfl rfl rfl rfl (ua l[i]) (F.un _ rfl) uF (by assumption) hg (F.ze _ rfl) ?_
   have hmy:=fun(H:au) nx=>zS (H:=H) (nx:=nx) (n:=(l[i]).1) (k:=(l[i]).2)
   cases hmay:mH (l[i]).1 (l[i]).2 with
   | false=>
     rw [hmay] at hmy
     have hM:fD (ay mem) l=(2,[]):=JW (vZ hi hmay)
     rw [hM,JW (by decide)]
     dsimp only [fy]
     repeat first|apply ai;rfl|apply aH;rfl;(focus((repeat(first|assumption|exact ac|refine ab (by omega) ?_));done));rfl|refine GZ (da (F.sz _ rfl) rfl rfl rfl (by repeat(first|assumption|exact ac)) (by rfl) (by exact Jw rfl) (by rfl)) rfl rfl ?_|apply bU;rfl;kernel_rfl;exact hmy _ _
     (refine eE Tryz.func21 (congrArg Array.toList Tryz.results21) (by kernel_rfl) (Ko sx ?_);rintro _ rfl;refine⟨_,(by(repeat(first|exact Kq|apply Kr rfl (Ku (F.ag _ rfl) (by repeat(exact ac)) (aC rfl))))),?_⟩;dsimp only;exact⟨rfl,by(repeat(refine ab (by omega) ?_));exact(j10 b lb).trans hb,by first|omega|(dsimp only;omega),fun m hm _=>by(repeat(refine ab (by omega) ?_));exact j10 m hm⟩)
   | true=>
     rw [hmay] at hmy
     have hok:=wY hi i2 hmay hmem
     have hse:=i4.add l[i]
     rw [← fO hi] at hse
     repeat first|apply ai;rfl|apply aH;rfl;(focus((repeat(first|assumption|exact ac|refine ab (by omega) ?_));done));rfl|refine GZ (da (F.sz _ rfl) rfl rfl rfl (by repeat(first|assumption|exact ac)) (by rfl) (by exact Jw rfl) (by rfl)) rfl rfl ?_|apply bU;rfl;kernel_rfl;exact hmy _ _
     refine AV (m:=o) (enc:=ub) (val:=xf) (c:=c2) (v:=()) rfl rfl rfl (ua l[i]) (F.un _ rfl) uF (by repeat(first|assumption|refine ab (by omega) ?_)) rfl ?_
     repeat apply ai;rfl
     refine cT (R:=fun H3 n3=>n3=n1+1+1∧H3.at' n1=some (tidB l[i])∧SlM H3 (nx+1+1+1+1) n1 (l.take i) m c∧H3.at' nx=some (fA 0)∧H3.at' (nx+1)=some (gg wH jy m c)∧H3.at' (nx+1+1)=some (E5 (nx+1))∧H3.at' (nx+1+1+1)=some (gg ub xf (gN o l[i] () c2) (oq o l[i] c2))∧ ∀ m,m<nx→H3.at' m=H.at' m) ⟨rfl,by repeat(first|assumption|refine ab (by omega) ?_),j3.frame (JK _) fun r h1 h2=>by(repeat(refine ab (by omega) ?_));rfl,by repeat(first|assumption|refine ab (by omega) ?_),by repeat(first|assumption|refine ab (by omega) ?_),by repeat(first|assumption|refine ab (by omega) ?_),by repeat(exact ac),fun m hm=>by(repeat(refine ab (by omega) ?_));exact j10 m hm⟩ ?_
     rintro H3 n3 ⟨rfl,k0,k3,k6,k7,k8,k9,k10⟩
     clear j0 j3 j6 j7 j8 j9 j10 hmy
     rcases k3.get (l[i]).1 with ⟨g1,g2⟩|⟨rv,g1,g2,g3,g4⟩
     ·(apply bg;(focus(kernel_rfl));(focus(kernel_rfl)))
      repeat first|apply dD;rfl;assumption;rfl|refine B2 (m:=m) (enc:=wH) (val:=jy) rfl rfl rfl rfl (F.un _ rfl) (gh (F.un _ rfl)) (by assumption) (g1) (F.ze _ rfl) ?_|refine pW (jg (F.un _ rfl) (F.sz _ rfl) (bR rfl) (F.ze _ rfl) rfl rfl rfl rfl rfl) rfl rfl rfl ?_|refine kg rfl rfl (fun _ h=>by cases h) (mX (b:=8) (F.un _ rfl) (.inl ⟨_,F.un _ rfl⟩) (F.sz _ rfl) (by decide) (by kernel_rfl) (by kernel_rfl) rfl rfl (slRow (by repeat(exact ac)) rfl) (by rfl) (by omega) (by omega) (by omega)) ?_|refine wI (m:=m) (enc:=wH) (val:=jy) (kk:=(l[i]).1) (v:=(n1+1+1+1,[(l[i]).2])) rfl rfl rfl (F.un _ rfl) (gh (F.un _ rfl)) (by repeat(first|assumption|refine ab (by omega) ?_)) rfl ?_|apply aU;rfl
      refine aA ⟨by kernel_rfl,?_,?_⟩;(focus(repeat(first|exact Kz|apply li;rfl|apply gq;rfl;kernel_rfl|refine f9 0 rfl (by kernel_rfl) (by(repeat(refine⟨(by(exact an (F.ag _ rfl) rfl (by repeat(first|assumption|refine ab (by omega) ?_)) (aC rfl))),?_⟩));exact Kz) ?_|refine f9 1 rfl (by kernel_rfl) (by(repeat(refine⟨(by(exact qP (ok:=false) (enc:=wH) (val:=jy) (m:=m) (c:=c) rfl rfl (F.un _ rfl) (gh (F.un _ rfl)) (by((focus((repeat(first|assumption|refine ab (by omega) ?_));done)))) g1 (F.ze _ rfl))),?_⟩));exact Kz) ?_)))
      repeat first|apply ai;rfl|apply aL;rfl;omega;omega
      have hadd:=fun(H4:au) n4 (h1:n1+1+1+1<n4) (h2:H4.at' (n1+1+1+1)=some (qh [(l[i]).2])) (h3: ∀ x,x<n1→nx+1+1+1+1≤x→H4.at' x=H3.at' x)=>k3.add (H':=H4) (nx':=n4) (r':=n1+1+1+1) (l[i]).1 (l[i]).2 i5 (by omega) h1 (by rw [g2];exact h2) fun x q1 q2 _=>h3 x q2 q1
      rw [g2,←fO hi] at hadd
      exact ih _ _ _ (i+1,gN m (l[i]).1 (n1+1+1+1,[(l[i]).2]) c,oq m (l[i]).1 c,gN o l[i] () c2,oq o l[i] c2) ⟨hi,hok,hadd _ _ (by(dsimp only;omega)) (by refine(aa _ _ (by omega)).trans ?_;exact(ah _ _ _).trans (congrArg some (yS _))) (fun x q1 q2=>by(repeat(refine ab (by omega) ?_));rfl),hse,by first|omega|(dsimp only;omega),by repeat(first|assumption|refine ab (by omega) ?_),by repeat(exact ac),by repeat(first|assumption|refine ab (by omega) ?_),by repeat(first|assumption|refine ab (by omega) ?_),fun m hm=>by(repeat(refine ab (by omega) ?_));exact k10 m hm⟩ (by dsimp only;omega) (Kv (Ky rfl))
     ·have hrl:(jz (l.take i) (l[i]).1).length≤50000:=by
       unfold jz
       rw [J0]
       refine JS (List.length_filter_le _ _) ?_
       rw [JZ]
       omega
      generalize hlst:jz (l.take i) (l[i]).1=lst at g1 g4 hrl
      (apply bg;(focus(kernel_rfl));(focus(kernel_rfl)))
      repeat first|apply dD;rfl;assumption;rfl|refine B3 (m:=m) (enc:=wH) (val:=jy) rfl rfl rfl rfl (F.un _ rfl) (gh (F.un _ rfl)) (by assumption) (g1) ?_|refine pW (jg (F.un _ rfl) (F.sz _ rfl) (bR rfl) (F.ze _ rfl) rfl rfl rfl rfl rfl) rfl rfl rfl ?_|refine kg rfl rfl (fun _ h=>by cases h) (zx (A:=Int) (f:=rM) (xs:=lst) (a:=(l[i]).2) (b:=8) rfl rfl (F.un _ rfl) (.inl ⟨_,F.un _ rfl⟩) (F.sz _ rfl) (by decide) (by kernel_rfl) (by kernel_rfl) (by repeat(first|assumption|refine ab (by omega) ?_)) (by repeat(exact ac)) rfl tG (by omega) (by omega)) ?_|refine wI (m:=m) (enc:=wH) (val:=jy) (kk:=(l[i]).1) (v:=(n1+1+1+1,lst ++ [(l[i]).2])) rfl rfl rfl (F.un _ rfl) (gh (F.un _ rfl)) (by repeat(first|assumption|refine ab (by omega) ?_|refine bQ (by omega) ?_)) rfl ?_|apply aU;rfl
      refine aA ⟨by kernel_rfl,?_,?_⟩;(focus(repeat(first|exact Kz|apply li;rfl|apply gq;rfl;kernel_rfl|refine f9 0 rfl (by kernel_rfl) (by(repeat(refine⟨(by(exact an (F.ag _ rfl) rfl (by repeat(first|assumption|refine ab (by omega) ?_|refine bQ (by omega) ?_)) (aC rfl))),?_⟩));exact Kz) ?_|refine f9 1 rfl (by kernel_rfl) (by(repeat(refine⟨(by(exact ul (ok:=false) (enc:=wH) (val:=jy) (m:=m) (c:=c) rfl rfl (F.un _ rfl) (gh (F.un _ rfl)) (by((focus((repeat(first|assumption|refine ab (by omega) ?_|refine bQ (by omega) ?_));done)))) g1)),?_⟩));exact Kz) ?_)))
      repeat first|apply ai;rfl|apply aL;rfl;omega;omega
      have hadd:=fun(H4:au) n4 (h1:n1+1+1+1<n4) (h2:H4.at' (n1+1+1+1)=some (qh (lst ++ [(l[i]).2]))) (h3: ∀ x,x<n1→nx+1+1+1+1≤x→x≠rv→H4.at' x=H3.at' x)=>k3.add (H':=H4) (nx':=n4) (r':=n1+1+1+1) (l[i]).1 (l[i]).2 i5 (by omega) h1 (by rw [hlst];exact h2) fun x q1 q2 q3=>h3 x q2 q1 fun e=>q3 lst (by rw [e];exact g1)
      rw [hlst,←fO hi] at hadd
      exact ih _ _ _ (i+1,gN m (l[i]).1 (n1+1+1+1,lst ++ [(l[i]).2]) c,oq m (l[i]).1 c,gN o l[i] () c2,oq o l[i] c2) ⟨hi,hok,hadd _ _ (by(dsimp only;omega)) (by repeat(first|exact ac|refine ab (by omega) ?_)) (fun x q1 q2 q3=>by(repeat(first|refine ab (by omega) ?_|refine bQ (by omega) ?_));rfl),hse,by first|omega|(dsimp only;omega),by repeat(first|assumption|refine ab (by omega) ?_|refine bQ (by omega) ?_),by repeat(exact ac),by repeat(first|assumption|refine ab (by omega) ?_|refine bQ (by omega) ?_),by repeat(first|assumption|refine ab (by omega) ?_|refine bQ (by omega) ?_),fun m hm=>by(repeat(first|refine ab (by omega) ?_|refine bQ (by omega) ?_));exact k10 m hm⟩ (by dsimp only;omega) (Kv (Ky rfl))
 ·have hi:i=l.length:=by omega
  subst hi
  have hM:s6 l:=by
   unfold OK1 at i2
   rw [List.take_length] at i2
   exact i2
  rw [List.take_length] at i3
  have hkey:=fun(ks:List Int) hp hs=>xH (ks:=ks) hM (K:=m.map (·.1)) hp i3.ok.keys hs i3.keys
  have hml:=i3.len
  repeat first|apply bU;rfl;kernel_rfl;exact xN jy m c|apply ai;rfl|apply aH;rfl;assumption;rfl
  refine aI rfl rfl rfl (by kernel_rfl) (Ko (BE jy m c i3.ok (by omega) (by repeat(exact ac)) (b:=nx+1) (by repeat(first|assumption|refine ab (by omega) ?_)) (by omega) (by omega)) ?_)
  rintro⟨_,H7,n7⟩ hso
  obtain⟨nm,ks,hks,hsr,e1,u1,u2,u3,u4⟩:=hso
  dsimp only at e1
  subst e1
  dsimp only at u1 u2 u3 u4 ⊢
  have hk2:=hkey ks hks hsr
  subst hk2
  clear hkey hks hsr
  repeat apply ai;rfl
  refine iX 1024 27 (d:=12) (by repeat(first|exact ac|refine ab (by omega) ?_)) rfl ?_
  have hPL:=ur l
  have hnl:(jT (b7 l)).length=(b7 l).length:=J0 _
  generalize hPG:b7 l=PG at hPL hnl u3
  refine bu (α:=Nat×Nat) (fun x=> [(0,tZ b),(4,.ptr nx 0),(5,.ptr (nx+1+1) 0),(11,.slu nm 0 (jT PG).length),(12,.slu x.2 0 ((PG.take x.1).map (dlP mem l)).length),(61,.slu nm 0 (jT PG).length),(62,.sc (.int .i64 ((jT PG).length:Int))),(63,.sc (.int .i64 (x.1:Int)))])
   (fun x H8 n8=>x.1≤PG.length∧(∀ n∈PG.take x.1,∀ k∈aM l n,jB (aS (ay mem n)).1 k=true)∧n7≤x.2∧x.2<n8∧H8.at' x.2=some (pgR ((PG.take x.1).map (dlP mem l)))∧H8.at' nx=some (fA 0)∧H8.at' (nx+1)=some (gg wH jy m c)∧H8.at' (nx+1+1)=some (E5 (nx+1))∧H8.at' nm=some (qh (jT PG))∧(∀ n∈PG.drop x.1,∀ r ks,fX m (n:Int)=some (r,ks)→H8.at' r=some (qh ks))∧ ∀ m,m<nx→H8.at' m=H.at' m) (fun x=>PG.length-x.1) (0,n7)
   ⟨JL _,fun n hn=>by simp at hn,JK _,Nat.lt_succ_self _,ah _ _ _,by(repeat(refine ab (by omega) ?_));exact(u4 _ (by omega)).trans (by repeat(first|assumption|refine ab (by omega) ?_)),by(repeat(refine ab (by omega) ?_));exact(u4 _ (by omega)).trans (by repeat(first|assumption|refine ab (by omega) ?_)),by(repeat(refine ab (by omega) ?_));exact(u4 _ (by omega)).trans (by repeat(first|assumption|refine ab (by omega) ?_)),by(repeat(refine ab (by omega) ?_));exact u3,fun n _ r ks hg=>by
     obtain⟨_,q2,q3,q4⟩:=i3.val _ _ _ hg
     exact(aa _ _ (by omega)).trans ((u4 _ (by omega)).trans ((aa _ _ (by omega)).trans q4)),fun m hm=>by
     exact(aa _ _ (by omega)).trans ((u4 _ (by omega)).trans ((aa _ _ (by omega)).trans (i10 m hm)))⟩ (Kv (Ky rfl)) ?_
  clear u3 u4 i6 i7 i8 i9 i10 r1 b1
  rintro⟨j,rp⟩ H8 n8 ⟨j1,j2,j3,j4,j5,j6,j7,j8,j9,j10,j11⟩ ih2
  dsimp only at j1 j2 j3 j4 j5 j6 j7 j8 j9 j10 j11 ⊢
  repeat apply ai;rfl
  refine bh rfl rfl rfl rfl (fun h6=>?_) (fun h6=>?_)
  ·have hj:j<PG.length:=by omega
   have hcell:(qh (jT PG)).cell (j*1)=some (.sc (.int .i64 (PG[j]:Int))):=by
    have:=rh (l:=jT PG) (i:=j) (by omega)
    rwa [List.getElem_map] at this
   have hmemP:PG[j]∈b7 l:=by rw [hPG];exact JU hj
   obtain⟨p1,p2,p3⟩:=cY.1 hmemP
   have hdr:PG.drop j=PG[j] :: PG.drop (j+1):=List.drop_eq_getElem_cons hj
   have htk:PG.take (j+1)=PG.take j ++ [PG[j]]:=List.take_succ_eq_append_getElem hj
   have hsN:=yP hM.1 PG[j]
   generalize hn:PG[j]=N at hcell hmemP p1 p2 p3 hdr htk hsN
   obtain⟨g1,g2⟩|⟨rv,g1,g2,g3,g4⟩:=i3.get (N:Int)
   ·exfalso
    rw [hsN] at g2
    exact p3 (List.map_eq_nil_iff.1 g2)
   ·rw [hsN] at g1
    have hrv:=j10 N (by rw [hdr];exact J3) rv _ g1
    have hSl:(jT (aM l N)).length=(aM l N).length:=J0 _
    have hSb:(aM l N).length≤50000:=by
     unfold aM
     rw [J0]
     exact JS (List.length_filter_le _ _) hll
    have hsort:=Ba (jT (aM l N)) (by omega)
    rw [← A9] at hsort
    repeat first|refine di (q:=j) rfl rfl rfl rfl (F.un _ rfl) (F.sz _ rfl) j9 (by omega) (by omega) (by omega) ?_|refine cd (an (F.ag _ rfl) rfl j9 hcell) rfl rfl rfl ?_|apply ai;rfl|apply aH;rfl;(focus((repeat(first|assumption|exact ac|refine ab (by omega) ?_));done));rfl|refine t8 (m:=m) (enc:=wH) (val:=jy) rfl rfl rfl rfl (F.un _ rfl) (gh (F.un _ rfl)) (by repeat(first|assumption|refine ab (by omega) ?_)) (g1) ?_
    dsimp only [jy]
    rw [hSl,←(gC (aM l N)).length_eq]
    have hln:(jT (aM l N)).length=(yM (aM l N)).length:=hSl.trans (gC (aM l N)).length_eq.symm
    rw [hln] at hsort
    refine cT (R:=fun HB nB=>nB=n8+1∧HB.at' n8=some (intO N)∧ ∀ m,m<n8→HB.at' m=H8.at' m) ⟨rfl,by repeat(exact ac),fun m hm=>by(repeat(refine ab (by omega) ?_));rfl⟩ ?_
    rintro HB nB ⟨rfl,k1,k2⟩
    have hrvB:HB.at' rv=some (qh (jT (aM l N))):=(k2 _ (by omega)).trans hrv
    (refine aI rfl rfl rfl (by kernel_rfl) (Ctr.Dj (hsort) [rv] rfl ⟨by intro n hn;simp at hn;omega,by simp;try omega⟩ rfl (by repeat(first|exact Kz|refine⟨aB (by assumption),?_⟩)) ?_);rintro _ rfl;refine⟨_,0,[rv],[some _],rfl,(by repeat(first|exact Kz|refine⟨oO _ _ _ _ _ _,?_⟩)),rfl,rfl,?_⟩;dsimp only [wrL])
    repeat first|apply ai;rfl|apply aH;rfl;(focus((repeat(first|assumption|refine ab (by omega) ?_));done));rfl
    obtain⟨q,hq,hgq⟩:=(hG N p1 p2).read
    have hwl:=nW (yM (aM l N))
    refine aI rfl rfl rfl (by kernel_rfl) (Ko (tH (b:=b) (n:=N) (mem:=mem) (left:=left) (puts:=puts) (by(repeat(refine ab (by omega) ?_));exact(k2 _ (by omega)).trans ((j11 b lb).trans hb)) hm p2 (g:=55) (caps:= [.ptr (nx+1+1) 0,.ptr n8 0]) (by kernel_rfl) (rZ (yM (aM l N))) ?_) ?_)
    ·intro p HA nA hrd hnA ho
     rw [hq] at hrd
     cases hrd
     exact⟨hwl _ hgq.ok.len,Hf (mb:=nx+1) (tb:=nx+1+1) (nb:=n8) (rv:=rv) (n:=N) (c:=c) (m:=m) (ks:=jT (aM l N)) ((ho _ (by omega)).trans (by(repeat(refine ab (by omega) ?_));exact(k2 _ (by omega)).trans j8)) ((ho _ (by omega)).trans (by(repeat(refine ab (by omega) ?_));exact k1)) ((ho _ (by omega)).trans (by(repeat(refine ab (by omega) ?_));exact(k2 _ (by omega)).trans j7)) g1 ((ho _ (by omega)).trans (by repeat(exact ac))) hln (by omega) hgq.ok.len⟩
    ·rintro⟨_,H9,n9⟩ ⟨rfl,g5,g6⟩
     dsimp only at g5 g6 ⊢
     have hof:(aS (ay mem N)).1=q:=by rw [hq]
     rw [hq,JV (fun h=>h rfl)]
     dsimp only
     rw [qB hgq.ok (er hM N)]
     have hwo:=qB hgq.ok (er hM N)
     have hwq:=hwl q hgq.ok.len
     by_cases hall: ∀ k∈aM l N,jB q k=true
     ·rw [JW hall] at hwo ⊢
      rw [hwo] at hwq
      have hdl:rI q (aM l N)=dlP mem l N:=by unfold dlP;rw [hof]
      rw [hdl] at hwq ⊢
      generalize hy:dlP mem l N=y at hwq ⊢
      dsimp only at hwq
      have hyl:(pgS y).length=1024:=by rw [J0,J0,hwq]
      refine cT (R:=fun HC nC=>nC=n9∧HC.at' rp=some (pgR ((PG.take j).map (dlP mem l)))∧HC.at' nx=some (fA 0)∧HC.at' (nx+1)=some (gg wH jy m c)∧HC.at' (nx+1+1)=some (E5 (nx+1))∧HC.at' nm=some (qh (jT PG))∧(∀ x,x<n8→x≠rv→HC.at' x=H8.at' x)) ⟨rfl,(g6 _ (by omega)).trans ((aa _ _ (by omega)).trans ((k2 _ (by omega)).trans j5)),(g6 _ (by omega)).trans ((aa _ _ (by omega)).trans ((k2 _ (by omega)).trans j6)),(g6 _ (by omega)).trans ((aa _ _ (by omega)).trans ((k2 _ (by omega)).trans j7)),(g6 _ (by omega)).trans ((aa _ _ (by omega)).trans ((k2 _ (by omega)).trans j8)),(g6 _ (by omega)).trans ((aa _ _ (by omega)).trans ((k2 _ (by omega)).trans j9)),fun x hx hxr=>(g6 _ (by omega)).trans ((aa _ _ hxr).trans (k2 _ hx))⟩ ?_
      rintro HC nC ⟨rfl,c5,c6,c7,c8,c9,c10⟩
      repeat first|refine aZ rfl rfl cj ?_|apply bv hwq;rfl;(focus((repeat(exact ac));done))|apply bE hwq aj;rfl;(focus((repeat(exact ac));done))|apply dK;rfl;rfl|refine bq (cs:=pgS y) rfl rfl (F.un _ rfl) (F.sz _ rfl) rfl zPgV rfl (EG (by simp) hwq) (iH y) rfl hyl ?_|apply ai;rfl
      refine ll (b:=1024) (f:=pgV) (xs:=(PG.take j).map (dlP mem l)) (a:=y) rfl rfl rfl rfl (F.un _ rfl) (.inl ⟨_,F.un _ rfl⟩) (F.sz _ rfl) rfl (by kernel_rfl) (by kernel_rfl) (by repeat(first|assumption|refine ab (by omega) ?_)) (by repeat(exact ac)) (by show pgS y=(byV (HS y)).map .sc;rw [Ah hwq]) zp (by rw [J0,JZ];omega) (by rw [J0,JZ];omega) ?_
      have hxs:(PG.take j).map (dlP mem l) ++ [y]=(PG.take (j+1)).map (dlP mem l):=by rw [htk,JP,List.map_singleton,hy]
      rw [hxs]
      repeat first|apply ai;rfl|apply aL;rfl;omega;omega
      refine ih2 _ _ _ (j+1,_) ⟨hj,fun n hn=>?_,?_,Nat.lt_succ_self _,ah _ _ _,by repeat(first|assumption|refine ab (by omega) ?_|refine bQ (by omega) ?_),by repeat(first|assumption|refine ab (by omega) ?_|refine bQ (by omega) ?_),by repeat(first|assumption|refine ab (by omega) ?_|refine bQ (by omega) ?_),by repeat(first|assumption|refine ab (by omega) ?_|refine bQ (by omega) ?_),fun n hn r ks hg=>?_,fun m hm=>by(repeat(first|refine ab (by omega) ?_|refine bQ (by omega) ?_));exact(c10 m (by omega) (by omega)).trans (j11 m hm)⟩ (by dsimp only;omega) (Kv (Ky rfl))
      ·rw [htk] at hn
       rcases List.mem_append.1 hn with hn|hn
       ·exact j2 n hn
       ·rw [J1.1 hn,hof]
        exact hall
      ·first|omega|(dsimp only;omega)
      ·have hn2:n∈PG.drop j:=by rw [hdr];exact J4 _ hn
       have hne2:n≠N:=by
        intro e
        have hnd:(PG.drop j).Nodup:=by
         rw [← hPG]
         exact((eQ l).imp fun h=>Nat.ne_of_lt h).sublist (List.drop_sublist _ _)
        rw [hdr,List.nodup_cons] at hnd
        exact hnd.1 (e ▸ hn)
       obtain⟨_,q2,q3,_⟩:=i3.val _ _ _ hg
       have hrr:=i3.sep _ _ _ _ _ _ hg g1 (by omega)
       have hold:=(c10 r (by omega) hrr).trans (j10 n hn2 r ks hg)
       (focus((repeat(first|refine ab (by omega) ?_|refine bQ (by omega) ?_));exact hold))
     ·rw [JV hall]
      have hR:fD (ay mem) l=(6,[]):=by
       unfold fD
       rw [JV (fun h=>h hM),JW (fun h=>hall (by
        have:=(jW hM).1 h N hmemP
        rwa [hof] at this))]
      rw [hR,JW (by decide)]
      dsimp only [fy]
      have e6:H9.at' nx=some (fA 0):=(g6 _ (by omega)).trans ((aa _ _ (by omega)).trans ((k2 _ (by omega)).trans j6))
      have eb:H9.at' b=some (cC mem left puts):=(g6 _ (by omega)).trans ((aa _ _ (by omega)).trans ((k2 _ (by omega)).trans ((j11 b lb).trans hb)))
      have eo: ∀ x,x<nx→H9.at' x=H.at' x:=fun x hx=>(g6 _ (by omega)).trans ((aa _ _ (by omega)).trans ((k2 _ (by omega)).trans (j11 x hx)))
      repeat first|refine aZ rfl rfl cj ?_|apply bE aj aj;rfl;(focus((repeat(exact ac));done))|apply ig;rfl;decide|apply ai;rfl|apply aH;rfl;(focus((repeat(first|assumption|refine ab (by omega) ?_));done));rfl
      (refine eE Tryz.func21 (congrArg Array.toList Tryz.results21) (by kernel_rfl) (Ko sx ?_);rintro _ rfl;refine⟨_,(by(repeat(first|exact Kq|apply Kr rfl (Ku (F.ag _ rfl) (by repeat(exact ac)) (aC rfl))))),?_⟩;dsimp only;exact⟨rfl,by(repeat(refine ab (by omega) ?_));exact eb,by first|omega|(dsimp only;omega),fun m hm _=>by(repeat(refine ab (by omega) ?_));exact eo m hm⟩)
  ·have hj:j=PG.length:=by omega
   subst hj
   rw [List.take_length] at j2 j5
   clear j10 ih2 ih
   have hR:fD (ay mem) l=(0,PG.map fun n=>(n,dlP mem l n)):=by
    unfold fD
    rw [JV (fun h=>h hM),JV (fun h=>h ((jW hM).2 (by rw [hPG];exact j2))),hPG]
   rw [hR,JV (fun h=>h rfl)]
   dsimp only
   generalize hps:(PG.map fun n=>(n,dlP mem l n))=ps
   have hpl:ps.length=PG.length:=by rw [← hps,J0]
   have hpl2:(PG.map (dlP mem l)).length=PG.length:=J0 _
   repeat apply ai;rfl
   rw [List.take_length]
   refine bu (α:=Nat×List UInt8×Int×Int) (fun x=> [(0,tZ b),(4,.ptr nx 0),(12,.slu rp 0 (PG.map (dlP mem l)).length),(86,.slu nm 0 (jT PG).length),(87,.sc (.int .i64 ((jT PG).length:Int))),(88,.sc (.int .i64 (x.1:Int)))])
    (fun x H9 n9=>x.1≤PG.length∧fy (ps.drop x.1) x.2.1 x.2.2.1 x.2.2.2=fy ps mem left puts∧x.2.1.length=131072∧(left-x.1≤x.2.2.1∧x.2.2.1≤left)∧(puts≤x.2.2.2∧x.2.2.2≤puts+x.1)∧n8≤n9∧H9.at' b=some (cC x.2.1 x.2.2.1 x.2.2.2)∧H9.at' nx=some (fA 0)∧H9.at' nm=some (qh (jT PG))∧H9.at' rp=some (pgR (PG.map (dlP mem l)))∧ ∀ m,m<nx→m≠b→H9.at' m=H.at' m) (fun x=>PG.length-x.1) (0,mem,left,puts)
    ⟨JL _,rfl,hm,by dsimp only;omega,by dsimp only;omega,JK _,(j11 b lb).trans hb,j6,j9,j5,fun m hm _=>j11 m hm⟩ (Kv (Ky rfl)) ?_
   rintro⟨q,me,le,pu⟩ H9 n9 ⟨q1,q2,q3,⟨q4,q5⟩,⟨q6,q7⟩,q8,q9,q10,q11,q12,q13⟩ ih3
   dsimp only at q1 q2 q3 q4 q5 q6 q7 q8 q9 q10 q11 q12 q13 ⊢
   repeat apply ai;rfl
   refine bh rfl rfl rfl rfl (fun h7=>?_) (fun h7=>?_)
   ·have hj:q<PG.length:=by omega
    have hcell:(qh (jT PG)).cell (q*1)=some (.sc (.int .i64 (PG[q]:Int))):=by
     have:=rh (l:=jT PG) (i:=q) (by omega)
     rwa [List.getElem_map] at this
    have hmemP:PG[q]∈b7 l:=by rw [hPG];exact JU hj
    obtain⟨p1,p2,p3⟩:=cY.1 hmemP
    have hlen:(dlP mem l PG[q]).length=1024:=by
     obtain⟨z,hz,hgz⟩:=(hG PG[q] p1 p2).read
     have hwo:=qB hgz.ok (er hM PG[q])
     have hwq:=nW (yM (aM l PG[q])) z hgz.ok.len
     have hz2:(aS (ay mem PG[q])).1=z:=by rw [hz]
     have hall:=j2 PG[q] (JU hj)
     rw [hz2] at hall
     rw [hwo,JW hall] at hwq
     unfold dlP
     rw [hz2]
     exact hwq
    have hpc:=zq (l:=PG.map (dlP mem l)) (i:=q) (by omega) (by rw [List.getElem_map];exact hlen)
    rw [List.getElem_map] at hpc
    have hdr:ps.drop q=(PG[q],dlP mem l PG[q]) :: ps.drop (q+1):=by
     rw [List.drop_eq_getElem_cons (by omega)]
     congr 1
     subst hps
     rw [List.getElem_map]
    rw [hdr] at q2
    generalize PG[q]=N at hcell hmemP p1 p2 p3 hdr hlen hpc q2
    generalize dlP mem l N=y at hlen hpc q2
    have hput:fy ((N,y) :: ps.drop (q+1)) me le pu=if le=0 then(8,me,le,pu) else fy (ps.drop (q+1)) (gD me N y) (le-1) (pu+1):=rfl
    repeat first|refine di (q:=q) rfl rfl rfl rfl (F.un _ rfl) (F.sz _ rfl) q11 (by omega) (by omega) (by omega) ?_|refine cd (an (F.ag _ rfl) rfl q11 hcell) rfl rfl rfl ?_|apply ai;rfl
    (apply bg;(focus(kernel_rfl));(focus(kernel_rfl)))
    repeat first|apply aU;rfl|refine aJ (q:=q) rfl rfl rfl rfl (F.un _ rfl) (F.sz _ rfl) (by assumption) (by omega) (by(omega)) (JK _) ?_|refine bk (aW (F.ag _ rfl) rfl q12 hpc) rfl rfl rfl ?_
    by_cases hle:le=0
    ·subst hle
     rw [← q2,hput,JW rfl]
     refine tD 141 rfl rfl rfl rfl (by kernel_rfl) (vL (n:=N) (x:=y) q9 q3 p2 hlen) ?_
     repeat apply aU;rfl
     refine aA ⟨by kernel_rfl,?_,?_⟩;(focus(repeat(first|exact Kz|apply li;rfl|apply gq;rfl;kernel_rfl|apply ml;kernel_rfl)))
     dsimp only
     repeat first|apply ig;rfl;decide|apply ai;rfl|apply aH;rfl;assumption;rfl
     (refine eE Tryz.func21 (congrArg Array.toList Tryz.results21) (by kernel_rfl) (Ko sx ?_);rintro _ rfl;refine⟨_,(by(repeat(first|exact Kq|apply Kr rfl (Ku (F.ag _ rfl) (by repeat(exact ac)) (aC rfl))))),?_⟩;dsimp only;exact⟨rfl,by(repeat(refine ab (by omega) ?_));exact q9,by first|omega|(dsimp only;omega),fun m hm hmb=>by(repeat(refine ab (by omega) ?_));exact q13 m hm hmb⟩)
    ·rw [hput,JV hle] at q2
     refine tD 141 rfl rfl rfl rfl (by kernel_rfl) (Fnc.Ct q9 (xx _ _ _) (vJ (n:=N) (x:=y) q9 q3 p2 hlen hle (by omega) (by omega))) ?_
     repeat apply aU;rfl
     refine aA ⟨by kernel_rfl,?_,?_⟩;(focus(repeat(first|exact Kz|apply li;rfl|apply gq;rfl;kernel_rfl|apply ml;kernel_rfl)))
     dsimp only
     repeat first|apply dK;rfl;rfl|apply ai;rfl|apply aL;rfl;omega;omega
     exact ih3 _ _ _ (q+1,gD me N y,le-1,pu+1) ⟨hj,q2,kE q3 p2 hlen,by first|omega|(dsimp only;omega),by first|omega|(dsimp only;omega),by first|omega|(dsimp only;omega),by repeat(exact ac),by repeat(first|assumption|refine ab (by omega) ?_),by repeat(first|assumption|refine ab (by omega) ?_),by repeat(first|assumption|refine ab (by omega) ?_),fun m hm hmb=>by(repeat(refine ab (by omega) ?_));exact q13 m hm hmb⟩ (by dsimp only;omega) (Kv (Ky rfl))
   ·have hj:q=ps.length:=by omega
    subst hj
    rw [List.drop_length] at q2
    rw [← q2]
    dsimp only [fy]
    repeat first|apply ai;rfl|apply aH;rfl;assumption;rfl
    (refine eE Tryz.func21 (congrArg Array.toList Tryz.results21) (by kernel_rfl) (Ko sx ?_);rintro _ rfl;refine⟨_,(by(repeat(first|exact Kq|apply Kr rfl (Ku (F.ag _ rfl) (by repeat(exact ac)) (aC rfl))))),?_⟩;dsimp only;exact⟨rfl,by(repeat(refine ab (by omega) ?_));exact q9,by first|omega|(dsimp only;omega),fun m hm hmb=>by(repeat(refine ab (by omega) ?_));exact q13 m hm hmb⟩)
theorem ru(n:Nat):(if n≠0 then n else 0)=n:=by
 split <;> omega
theorem lZ(pf:Nat→List UInt8)(l:List (Int×Int)):((fD pf l).1≠0∧(fD pf l).2= [])∨(fD pf l).1=0:=by
 unfold fD
 split
 ·exact .inl ⟨by decide,rfl⟩
 ·split
  ·exact .inl ⟨by decide,rfl⟩
  ·exact .inr rfl
theorem do3_s{h:Nat}{x:ow}(hb:H.at' b=some (cC mem left puts))(hh:H.at' h=some (hpO (dC mem)))(hne:b≠h)(hv:Hv mem)(hx:AP H nx b h x)(hk:x.1.kind=3)(hl : -900000≤left∧left<0)(hp:0≤puts∧puts≤900000):Fnc Tryz.prog 9 [.ptr b 0,.ptr h 0,.agg (rT x)] H nx (qy H nx b h mem left puts):=by
 have hx0:=hx H fun _ _ _ _=>rfl
 have hone:bi (rT x)=true:=by simp only [bi,cF hx0.1,cF hx0.2];rfl
 refine Kp Tryz.func9 rfl rfl ?_
 refine aX fun hund=>?_
 have lb:=hund _ _ hb
 have lh:=hund _ _ hh
 obtain⟨rows,hal,hrl,hrn⟩:=gS hv
 have hdoc:mI (dfH (dC mem))=some rows:=(kU fun n a b=>fq hv a b).trans hal
 repeat apply ai;rfl
 refine aI rfl rfl rfl (by kernel_rfl) (Ko (np (hm:=dC mem) (by repeat(first|assumption|refine ab (by omega) ?_)) (dy hv.len)) ?_)
 rintro⟨_,H1,n1⟩ ⟨u1,u2,⟨u3,_⟩|⟨rows',s,rr,u3,rfl,u4⟩⟩
 ·rw [hdoc] at u3
  cases u3
 rw [hdoc] at u3
 cases u3
 dsimp only at u1 u2 u4 ⊢
 have c1:H1.at' nx=some (tR x):=(u2 nx (by omega)).trans (by repeat(exact ac))
 have cb:H1.at' b=some (cC mem left puts):=(u2 b (by omega)).trans (by repeat(first|assumption|refine ab (by omega) ?_))
 have ch:H1.at' h=some (hpO (dC mem)):=(u2 h (by omega)).trans (by repeat(first|assumption|refine ab (by omega) ?_))
 have co: ∀ m,m<nx→H1.at' m=H.at' m:=fun m hm=>(u2 m (by omega)).trans (by(repeat(refine ab (by omega) ?_));rfl)
 repeat first|refine cZ rfl rfl rfl (F.ag _ rfl) cb (dv hv.len _ _) ?_|apply ai;rfl|apply aH;rfl;assumption;rfl
 repeat first|apply ai;rfl|apply ig;rfl;omega
 refine cI rfl rfl rfl rfl (fun _=>?_) (fun e=>absurd hk (by omega))
 repeat first|apply ai;rfl|apply aH;rfl;assumption;rfl
 have hr0:=y2 x.1.place (L:=7) (by decide)
 generalize hr1:x.1.place.tmod ((7:Nat):Int)=p1 at hr0
 obtain⟨j,hj,hr2⟩:=CN (p1+7) (L:=7) (by decide) (by omega)
 refine r6 (c:=p1) rfl rfl rfl rfl (by decide) hr1 ?_
 repeat apply aL;rfl;omega;omega
 refine r6 (c:=(j:Int)) rfl rfl rfl rfl (by decide) hr2 ?_
 repeat first|apply ai;rfl|apply aL;rfl;omega;omega
 rw [show(2:Int)+(j:Int)=((j+2:Nat):Int) by omega,show((j+2:Nat):Int)-1=((j+2-1:Nat):Int) by omega]
 have hst1:2≤j+2:=by omega
 have hst2:j+2≤8:=by omega
 generalize j+2=st at hst1 hst2 ⊢
 rcases u4 with ⟨hrz,rfl⟩|⟨ws,L,hL0,rfl,hrw,hrL,hrr,hC⟩
 ·have hz:rows.length=0:=by rw [hrz];rfl
  refine iX 2 40 (d:=17) (by repeat(first|exact ac|refine ab (by omega) ?_)) rfl ?_
  refine bu (α:=Nat×Nat×List (Int×Int)) (fun x=> [(0,.ptr b 0),(1,.ptr h 0),(5,.ptr nx 0),(6,.sc (.bool false)),(7,dA),(9,.sc (.int .i64 puts)),(17,.slu x.2.1 0 x.2.2.length),(18,.sc (.int .i64 (st:Int))),(19,.sc (.int .i64 (x.1:Int)))])
   (fun x H8 n8=>x.2.2.length≤x.1∧x.1≤rows.length+8∧n1≤x.2.1∧x.2.1<n8∧H8.at' x.2.1=some (oI x.2.2)∧ ∀ m,m<n1→H8.at' m=H1.at' m) (fun x=>rows.length+8-x.1) (st-1,n1,[]) ⟨JL _,by dsimp only;omega,JK _,Nat.lt_succ_self _,ah _ _ _,fun m hm=>by(repeat(refine ab (by omega) ?_));rfl⟩ (Kv (Ky rfl)) ?_
  rintro⟨i,rp,l⟩ H8 n8 ⟨i1,i2,i3,i4,kr,kF⟩ ih
  dsimp only at i1 i2 i3 i4 kr kF ⊢
  have kA:H8.at' nx=some (tR x):=(kF nx (by omega)).trans c1
  have kb:H8.at' b=some (cC mem left puts):=(kF b (by omega)).trans cb
  have kh:H8.at' h=some (hpO (dC mem)):=(kF h (by omega)).trans ch
  have ko: ∀ m,m<nx→H8.at' m=H.at' m:=fun m hm=>(kF m (by omega)).trans (co m hm)
  repeat first|refine cd (jL (F.un _ rfl) rfl) rfl rfl rfl ?_|apply ai;rfl
  refine bh rfl rfl rfl rfl (fun e=>absurd e (by omega)) (fun _=>?_)
  repeat first|apply ai;rfl|apply cD;rfl|apply aH;rfl;assumption;rfl
  cases hod:x.1.odd with
  | false=>
    repeat apply ai;rfl
    refine aI rfl rfl rfl (by kernel_rfl) (Ko (y3 (b:=b) (r:=rp) (l:=l) (mem:=mem) (left:=left) (puts:=puts) kb hv.len kr (by omega) (by omega) hv.good (by omega) (by omega)) ?_)
    rintro⟨_,H2,n2⟩ ⟨rfl,d2,d3,d4⟩
    rw [iF _ _ _ _ hl.2] at d2 ⊢
    dsimp only at d2 d3 d4 ⊢
    have hif:=ru (fD (ay mem) l).1
    rw [hif]
    have e1:H2.at' rp=some (oI l):=(d4 _ (by omega) (by omega)).trans kr
    have e2:H2.at' h=some (hpO (dC mem)):=(d4 _ (by omega) (Ne.symm hne)).trans kh
    have e3: ∀ m,m<nx→m≠b→H2.at' m=H.at' m:=fun m hm hmb=>(d4 _ (by omega) hmb).trans (ko m hm)
    have hc:=lZ (ay mem) l
    have hdI:fD (dfH (dC mem)) l=fD (ay mem) l:=nY (fun n a b=>fq hv a b) _
    have htc:=qI hv (l:=l)
    have hgd:=ga hv (l:=l)
    have hle:=oP (pf:=ay mem) (l:=l)
    generalize fD (ay mem) l=I at hc hdI hgd hle htc d2 ⊢
    obtain⟨hv2,hdoc2⟩:=mQ hv hgd
    repeat apply ai;rfl
    refine aI rfl rfl rfl (by kernel_rfl) (Ko (qO (hb:=h) (r:=rp) (l:=l) (hm:=dC mem) e2 (dy hv.len) e1 (by omega) (by omega) (fun n a c=>by rw [fq hv a c];exact hv.good n a c)) ?_)
    rintro⟨_,H3,n3⟩ ⟨rfl,f2,f3,f4⟩
    dsimp only at f2 f3 f4 ⊢
    rw [hdI] at f2 ⊢
    rw [← hdoc2] at f2
    have g2:H3.at' b=some (cC (ld mem I.2) (left-I.2.length) (puts+I.2.length)):=(f4 _ (by omega) hne).trans d2
    have g3: ∀ m,m<nx→m≠b→m≠h→H3.at' m=H.at' m:=fun m hm hmb hmh=>(f4 _ (by omega) hmh).trans (e3 m hm hmb)
    clear d4 f4
    rcases hc with ⟨hc1,hc2⟩|hc1
    ·rw [hc2] at g2
     repeat first|refine cZ rfl rfl rfl (F.ag _ rfl) g2 (dv (by rw [← hc2];exact hv2.len) _ _) ?_|apply ig;rfl;omega|apply dK;rfl;rfl|refine cI rfl rfl rfl rfl (fun _=>?_) (fun e=>absurd (by simp) e)|apply ai;rfl
     (apply bP Tryz.func9 Tryz.results9;rfl)
     rw [← hc2] at g2
     exact⟨rfl,_,_,_,g2,f2,hv2,⟨by omega,by omega⟩,⟨by omega,by omega⟩,by first|omega|(dsimp only;omega),g3,htc⟩
    ·repeat first|apply dK;rfl;rfl|apply dK;rfl;omega|apply ai;rfl
     (apply bP Tryz.func9 Tryz.results9;rfl)
     exact⟨rfl,_,_,_,g2,f2,hv2,⟨by omega,by omega⟩,⟨by omega,by omega⟩,by first|omega|(dsimp only;omega),g3,htc⟩
  | true=>
    repeat first|refine dP rfl rfl rfl (F.ag _ rfl) kA (iR x) ?_|apply bq;rfl;rfl;exact(F.un _ rfl);exact(F.sz _ rfl);rfl;exact(F.ze _ rfl);rfl;rfl;rfl;rfl;rfl|apply ai;rfl
    refine ll (b:=16) (xs:=l) (a:=x.1.tid) rfl rfl rfl rfl (F.un _ rfl) (.inl ⟨_,F.un _ rfl⟩) (F.sz _ rfl) rfl (by kernel_rfl) (by kernel_rfl) (by repeat(first|assumption|refine ab (by omega) ?_)) (by repeat(exact ac)) (by rfl) (qF) (by omega) (by omega) ?_
    refine cT (R:=fun HC nC=>nC=n8+1+1∧HC.at' (n8+1)=some (oI (l ++ [x.1.tid]))∧HC.at' b=some (cC mem left puts)∧HC.at' h=some (hpO (dC mem))∧ ∀ m,m<nx→HC.at' m=H.at' m) ⟨rfl,by repeat(exact ac),by(repeat(first|refine ab (by omega) ?_|refine bQ (by omega) ?_));exact kb,by(repeat(first|refine ab (by omega) ?_|refine bQ (by omega) ?_));exact kh,fun m hm=>by(repeat(first|refine ab (by omega) ?_|refine bQ (by omega) ?_));exact ko m hm⟩ ?_
    rintro HC nC ⟨rfl,t1,t2,t3,t4⟩
    repeat apply ai;rfl
    refine aI rfl rfl rfl (by kernel_rfl) (Ko (y3 (b:=b) (r:=(n8+1)) (l:=(l ++ [x.1.tid])) (mem:=mem) (left:=left) (puts:=puts) t2 hv.len t1 (by omega) (by rw [JO,List.length_singleton];omega) hv.good (by omega) (by omega)) ?_)
    rintro⟨_,H2,n2⟩ ⟨rfl,d2,d3,d4⟩
    rw [iF _ _ _ _ hl.2] at d2 ⊢
    dsimp only at d2 d3 d4 ⊢
    have hif:=ru (fD (ay mem) (l ++ [x.1.tid])).1
    rw [hif]
    have e1:H2.at' (n8+1)=some (oI (l ++ [x.1.tid])):=(d4 _ (by omega) (by omega)).trans t1
    have e2:H2.at' h=some (hpO (dC mem)):=(d4 _ (by omega) (Ne.symm hne)).trans t3
    have e3: ∀ m,m<nx→m≠b→H2.at' m=H.at' m:=fun m hm hmb=>(d4 _ (by omega) hmb).trans (t4 m hm)
    have hc:=lZ (ay mem) (l ++ [x.1.tid])
    have hdI:fD (dfH (dC mem)) (l ++ [x.1.tid])=fD (ay mem) (l ++ [x.1.tid]):=nY (fun n a b=>fq hv a b) _
    have htc:=qI hv (l:=(l ++ [x.1.tid]))
    have hgd:=ga hv (l:=(l ++ [x.1.tid]))
    have hle:=oP (pf:=ay mem) (l:=(l ++ [x.1.tid]))
    generalize fD (ay mem) (l ++ [x.1.tid])=I at hc hdI hgd hle htc d2 ⊢
    obtain⟨hv2,hdoc2⟩:=mQ hv hgd
    repeat apply ai;rfl
    refine aI rfl rfl rfl (by kernel_rfl) (Ko (qO (hb:=h) (r:=(n8+1)) (l:=(l ++ [x.1.tid])) (hm:=dC mem) e2 (dy hv.len) e1 (by omega) (by rw [JO,List.length_singleton];omega) (fun n a c=>by rw [fq hv a c];exact hv.good n a c)) ?_)
    rintro⟨_,H3,n3⟩ ⟨rfl,f2,f3,f4⟩
    dsimp only at f2 f3 f4 ⊢
    rw [hdI] at f2 ⊢
    rw [← hdoc2] at f2
    have g2:H3.at' b=some (cC (ld mem I.2) (left-I.2.length) (puts+I.2.length)):=(f4 _ (by omega) hne).trans d2
    have g3: ∀ m,m<nx→m≠b→m≠h→H3.at' m=H.at' m:=fun m hm hmb hmh=>(f4 _ (by omega) hmh).trans (e3 m hm hmb)
    clear d4 f4
    rcases hc with ⟨hc1,hc2⟩|hc1
    ·rw [hc2] at g2
     repeat first|refine cZ rfl rfl rfl (F.ag _ rfl) g2 (dv (by rw [← hc2];exact hv2.len) _ _) ?_|apply ig;rfl;omega|apply dK;rfl;rfl|refine cI rfl rfl rfl rfl (fun _=>?_) (fun e=>absurd (by simp) e)|apply ai;rfl
     (apply bP Tryz.func9 Tryz.results9;rfl)
     rw [← hc2] at g2
     exact⟨rfl,_,_,_,g2,f2,hv2,⟨by omega,by omega⟩,⟨by omega,by omega⟩,by first|omega|(dsimp only;omega),g3,htc⟩
    ·repeat first|apply dK;rfl;rfl|apply dK;rfl;omega|apply ai;rfl
     (apply bP Tryz.func9 Tryz.results9;rfl)
     exact⟨rfl,_,_,_,g2,f2,hv2,⟨by omega,by omega⟩,⟨by omega,by omega⟩,by first|omega|(dsimp only;omega),g3,htc⟩
 ·skip
  refine iX 2 40 (d:=17) (by repeat(first|exact ac|refine ab (by omega) ?_)) rfl ?_
  refine bu (α:=Nat×Nat×List (Int×Int)) (fun x=> [(0,.ptr b 0),(1,.ptr h 0),(5,.ptr nx 0),(6,.sc (.bool false)),(7,.slu rr 0 rows.length),(9,.sc (.int .i64 puts)),(17,.slu x.2.1 0 x.2.2.length),(18,.sc (.int .i64 (st:Int))),(19,.sc (.int .i64 (x.1:Int)))])
   (fun x H8 n8=>x.2.2.length≤x.1∧x.1≤rows.length+8∧n1≤x.2.1∧x.2.1<n8∧H8.at' x.2.1=some (oI x.2.2)∧ ∀ m,m<n1→H8.at' m=H1.at' m) (fun x=>rows.length+8-x.1) (st-1,n1,[]) ⟨JL _,by dsimp only;omega,JK _,Nat.lt_succ_self _,ah _ _ _,fun m hm=>by(repeat(refine ab (by omega) ?_));rfl⟩ (Kv (Ky rfl)) ?_
  rintro⟨i,rp,l⟩ H8 n8 ⟨i1,i2,i3,i4,kr,kF⟩ ih
  dsimp only at i1 i2 i3 i4 kr kF ⊢
  have kA:H8.at' nx=some (tR x):=(kF nx (by omega)).trans c1
  have kb:H8.at' b=some (cC mem left puts):=(kF b (by omega)).trans cb
  have kh:H8.at' h=some (hpO (dC mem)):=(kF h (by omega)).trans ch
  have ko: ∀ m,m<nx→H8.at' m=H.at' m:=fun m hm=>(kF m (by omega)).trans (co m hm)
  repeat apply ai;rfl
  refine bh rfl rfl rfl rfl (fun h5=>?_) (fun h5=>?_)
  ·have hi:i<rows.length:=by omega
   obtain⟨a1,a2,ra,_,x1,x2,x3,x4⟩:=hC.cells hi
   have hrw8:H8.at' rr=some (mM false rows.length 6 67 ws):=(kF rr (by omega)).trans hrw
   repeat first|refine di (q:=i) rfl rfl rfl rfl (F.un _ rfl) (F.sz _ rfl) hrw8 (by omega) (by omega) (JK _) ?_|refine dP rfl rfl rfl (F.ag _ rfl) hrw8 x3 ?_|apply bq;rfl;rfl;exact(F.un _ rfl);exact(F.sz _ rfl);rfl;exact(F.ze _ rfl);rfl;rfl;rfl;rfl;rfl|apply ai;rfl
   refine ll (b:=16) (xs:=l) (a:=(((rows[i]).1.1:Int),((rows[i]).1.2:Int))) rfl rfl rfl rfl (F.un _ rfl) (.inl ⟨_,F.un _ rfl⟩) (F.sz _ rfl) rfl (by kernel_rfl) (by kernel_rfl) (by repeat(first|assumption|refine ab (by omega) ?_)) (by repeat(exact ac)) (by rfl) (qF) (by omega) (by omega) ?_
   repeat first|apply ai;rfl|apply aL;rfl;omega;omega
   exact ih _ _ _ (i+st,n8+1,l ++ [(((rows[i]).1.1:Int),((rows[i]).1.2:Int))]) ⟨by rw [JO,List.length_singleton];dsimp only;omega,by dsimp only;omega,by dsimp only;omega,by first|omega|(dsimp only;omega),by repeat(exact ac),fun m hm=>by(repeat(first|refine ab (by omega) ?_|refine bQ (by omega) ?_));exact kF m hm⟩ (by dsimp only;omega) (Kv (Ky rfl))
  ·skip
   repeat first|apply ai;rfl|apply cD;rfl|apply aH;rfl;assumption;rfl
   cases hod:x.1.odd with
   | false=>
     repeat apply ai;rfl
     refine aI rfl rfl rfl (by kernel_rfl) (Ko (y3 (b:=b) (r:=rp) (l:=l) (mem:=mem) (left:=left) (puts:=puts) kb hv.len kr (by omega) (by omega) hv.good (by omega) (by omega)) ?_)
     rintro⟨_,H2,n2⟩ ⟨rfl,d2,d3,d4⟩
     rw [iF _ _ _ _ hl.2] at d2 ⊢
     dsimp only at d2 d3 d4 ⊢
     have hif:=ru (fD (ay mem) l).1
     rw [hif]
     have e1:H2.at' rp=some (oI l):=(d4 _ (by omega) (by omega)).trans kr
     have e2:H2.at' h=some (hpO (dC mem)):=(d4 _ (by omega) (Ne.symm hne)).trans kh
     have e3: ∀ m,m<nx→m≠b→H2.at' m=H.at' m:=fun m hm hmb=>(d4 _ (by omega) hmb).trans (ko m hm)
     have hc:=lZ (ay mem) l
     have hdI:fD (dfH (dC mem)) l=fD (ay mem) l:=nY (fun n a b=>fq hv a b) _
     have htc:=qI hv (l:=l)
     have hgd:=ga hv (l:=l)
     have hle:=oP (pf:=ay mem) (l:=l)
     generalize fD (ay mem) l=I at hc hdI hgd hle htc d2 ⊢
     obtain⟨hv2,hdoc2⟩:=mQ hv hgd
     repeat apply ai;rfl
     refine aI rfl rfl rfl (by kernel_rfl) (Ko (qO (hb:=h) (r:=rp) (l:=l) (hm:=dC mem) e2 (dy hv.len) e1 (by omega) (by omega) (fun n a c=>by rw [fq hv a c];exact hv.good n a c)) ?_)
     rintro⟨_,H3,n3⟩ ⟨rfl,f2,f3,f4⟩
     dsimp only at f2 f3 f4 ⊢
     rw [hdI] at f2 ⊢
     rw [← hdoc2] at f2
     have g2:H3.at' b=some (cC (ld mem I.2) (left-I.2.length) (puts+I.2.length)):=(f4 _ (by omega) hne).trans d2
     have g3: ∀ m,m<nx→m≠b→m≠h→H3.at' m=H.at' m:=fun m hm hmb hmh=>(f4 _ (by omega) hmh).trans (e3 m hm hmb)
     clear d4 f4
     rcases hc with ⟨hc1,hc2⟩|hc1
     ·rw [hc2] at g2
      repeat first|refine cZ rfl rfl rfl (F.ag _ rfl) g2 (dv (by rw [← hc2];exact hv2.len) _ _) ?_|apply ig;rfl;omega|apply dK;rfl;rfl|refine cI rfl rfl rfl rfl (fun _=>?_) (fun e=>absurd (by simp) e)|apply ai;rfl
      (apply bP Tryz.func9 Tryz.results9;rfl)
      rw [← hc2] at g2
      exact⟨rfl,_,_,_,g2,f2,hv2,⟨by omega,by omega⟩,⟨by omega,by omega⟩,by first|omega|(dsimp only;omega),g3,htc⟩
     ·repeat first|apply dK;rfl;rfl|apply dK;rfl;omega|apply ai;rfl
      (apply bP Tryz.func9 Tryz.results9;rfl)
      exact⟨rfl,_,_,_,g2,f2,hv2,⟨by omega,by omega⟩,⟨by omega,by omega⟩,by first|omega|(dsimp only;omega),g3,htc⟩
   | true=>
     repeat first|refine dP rfl rfl rfl (F.ag _ rfl) kA (iR x) ?_|apply bq;rfl;rfl;exact(F.un _ rfl);exact(F.sz _ rfl);rfl;exact(F.ze _ rfl);rfl;rfl;rfl;rfl;rfl|apply ai;rfl
     refine ll (b:=16) (xs:=l) (a:=x.1.tid) rfl rfl rfl rfl (F.un _ rfl) (.inl ⟨_,F.un _ rfl⟩) (F.sz _ rfl) rfl (by kernel_rfl) (by kernel_rfl) (by repeat(first|assumption|refine ab (by omega) ?_)) (by repeat(exact ac)) (by rfl) (qF) (by omega) (by omega) ?_
     refine cT (R:=fun HC nC=>nC=n8+1+1∧HC.at' (n8+1)=some (oI (l ++ [x.1.tid]))∧HC.at' b=some (cC mem left puts)∧HC.at' h=some (hpO (dC mem))∧ ∀ m,m<nx→HC.at' m=H.at' m) ⟨rfl,by repeat(exact ac),by(repeat(first|refine ab (by omega) ?_|refine bQ (by omega) ?_));exact kb,by(repeat(first|refine ab (by omega) ?_|refine bQ (by omega) ?_));exact kh,fun m hm=>by(repeat(first|refine ab (by omega) ?_|refine bQ (by omega) ?_));exact ko m hm⟩ ?_
     rintro HC nC ⟨rfl,t1,t2,t3,t4⟩
     repeat apply ai;rfl
     refine aI rfl rfl rfl (by kernel_rfl) (Ko (y3 (b:=b) (r:=(n8+1)) (l:=(l ++ [x.1.tid])) (mem:=mem) (left:=left) (puts:=puts) t2 hv.len t1 (by omega) (by rw [JO,List.length_singleton];omega) hv.good (by omega) (by omega)) ?_)
     rintro⟨_,H2,n2⟩ ⟨rfl,d2,d3,d4⟩
     rw [iF _ _ _ _ hl.2] at d2 ⊢
     dsimp only at d2 d3 d4 ⊢
     have hif:=ru (fD (ay mem) (l ++ [x.1.tid])).1
     rw [hif]
     have e1:H2.at' (n8+1)=some (oI (l ++ [x.1.tid])):=(d4 _ (by omega) (by omega)).trans t1
     have e2:H2.at' h=some (hpO (dC mem)):=(d4 _ (by omega) (Ne.symm hne)).trans t3
     have e3: ∀ m,m<nx→m≠b→H2.at' m=H.at' m:=fun m hm hmb=>(d4 _ (by omega) hmb).trans (t4 m hm)
     have hc:=lZ (ay mem) (l ++ [x.1.tid])
     have hdI:fD (dfH (dC mem)) (l ++ [x.1.tid])=fD (ay mem) (l ++ [x.1.tid]):=nY (fun n a b=>fq hv a b) _
     have htc:=qI hv (l:=(l ++ [x.1.tid]))
     have hgd:=ga hv (l:=(l ++ [x.1.tid]))
     have hle:=oP (pf:=ay mem) (l:=(l ++ [x.1.tid]))
     generalize fD (ay mem) (l ++ [x.1.tid])=I at hc hdI hgd hle htc d2 ⊢
     obtain⟨hv2,hdoc2⟩:=mQ hv hgd
     repeat apply ai;rfl
     refine aI rfl rfl rfl (by kernel_rfl) (Ko (qO (hb:=h) (r:=(n8+1)) (l:=(l ++ [x.1.tid])) (hm:=dC mem) e2 (dy hv.len) e1 (by omega) (by rw [JO,List.length_singleton];omega) (fun n a c=>by rw [fq hv a c];exact hv.good n a c)) ?_)
     rintro⟨_,H3,n3⟩ ⟨rfl,f2,f3,f4⟩
     dsimp only at f2 f3 f4 ⊢
     rw [hdI] at f2 ⊢
     rw [← hdoc2] at f2
     have g2:H3.at' b=some (cC (ld mem I.2) (left-I.2.length) (puts+I.2.length)):=(f4 _ (by omega) hne).trans d2
     have g3: ∀ m,m<nx→m≠b→m≠h→H3.at' m=H.at' m:=fun m hm hmb hmh=>(f4 _ (by omega) hmh).trans (e3 m hm hmb)
     clear d4 f4
     rcases hc with ⟨hc1,hc2⟩|hc1
     ·rw [hc2] at g2
      repeat first|refine cZ rfl rfl rfl (F.ag _ rfl) g2 (dv (by rw [← hc2];exact hv2.len) _ _) ?_|apply ig;rfl;omega|apply dK;rfl;rfl|refine cI rfl rfl rfl rfl (fun _=>?_) (fun e=>absurd (by simp) e)|apply ai;rfl
      (apply bP Tryz.func9 Tryz.results9;rfl)
      rw [← hc2] at g2
      exact⟨rfl,_,_,_,g2,f2,hv2,⟨by omega,by omega⟩,⟨by omega,by omega⟩,by first|omega|(dsimp only;omega),g3,htc⟩
     ·repeat first|apply dK;rfl;rfl|apply dK;rfl;omega|apply ai;rfl
      (apply bP Tryz.func9 Tryz.results9;rfl)
      exact⟨rfl,_,_,_,g2,f2,hv2,⟨by omega,by omega⟩,⟨by omega,by omega⟩,by first|omega|(dsimp only;omega),g3,htc⟩
theorem do_s{h:Nat}{x:ow}(hb:H.at' b=some (cC mem left puts))(hh:H.at' h=some (hpO (dC mem)))(hne:b≠h)(hv:Hv mem)(hx:AP H nx b h x)(hl : -900000≤left∧left<0)(hp:0≤puts∧puts≤900000):Fnc Tryz.prog 9 [.ptr b 0,.ptr h 0,.agg (rT x)] H nx (qy H nx b h mem left puts):=by
 have hx0:=hx H fun _ _ _ _=>rfl
 by_cases h1:x.1.kind=1
 ·exact do1_s hb hh hne hv hx h1 ⟨by omega,hl.2⟩ ⟨hp.1,by omega⟩
 by_cases h2:x.1.kind=2
 ·exact do2_s hb hh hne hv hx h2 ⟨by omega,hl.2⟩ ⟨hp.1,by omega⟩
 by_cases h3:x.1.kind=3
 ·exact do3_s hb hh hne hv hx h3 hl hp
 by_cases h4:x.1.kind=4
 ·exact do4_s hb hh hv hx0 h4
 ·exact do0_s hb hh hv hx0 ⟨h1,h2,h3,h4⟩
end
end Go.Proofs.YtnhmbonmlfeifaaGreat
end
