import Derived.Test.YtnhmbonmlfeifaaGreatO7
set_option linter.unusedVariables false
set_option linter.unusedSimpArgs false
set_option maxRecDepth 100000
set_option maxHeartbeats 0
section
namespace Go.Proofs.YtnhmbonmlfeifaaGreat
open Go Go.Sy Go.Sl Go.RowKit
structure Hv (mem:List UInt8):Prop where
 len:mem.length=131072
 good: ∀ n,32≤n→n<128→GoodP (az mem n)
 low: ∀ n,n<32→az mem n=zeroP
section
variable {n:Nat}{mem:List UInt8}
abbrev dD(mem:List UInt8):List UInt8:=mem.drop 32768
theorem dG(h:mem.length=131072):(dD mem).length=98304:=by rw [JN,h]
theorem Ae(h:32≤n):az (dD mem) (n-32)=az mem n:=by
 unfold az
 rw [List.drop_drop,show 32768+1024*(n-32)=1024*n by omega]
theorem fx(h:Hv mem)(h1:32≤n)(h2:n<128):dfH (dD mem) n=az mem n:=by
 unfold dfH
 rw [Ae h1]
 exact(h.good n h1 h2).bareP
theorem ml{x:List UInt8}(hm:mem.length=131072)(h1:32≤n)(h2:n<128)(hx:x.length=1024):dD (f8 mem n x)=f8 (dD mem) (n-32) x:=by
 unfold dD f8 bf
 have e1:(mem.take (1024*n)).length=1024*n:=by rw [JK,hm];omega
 rw [JR,List.drop_append_of_le_length (by omega),List.drop_take,hx,List.drop_drop,←JR]
 rw [show 1024*n-32768=1024*(n-32) by omega,show 32768+(1024*(n-32)+1024)=1024*n+1024 by omega]
theorem Hv.set{x:List UInt8}(h:Hv mem)(h1:32≤n)(h2:n<128)(hx:GoodP x):Hv (f8 mem n x):=
 ⟨lP h.len h2 hx.len,fun k a b=>by
   rw [gC (by rw [h.len];omega) hx.len]
   split
   ·exact hx
   ·exact h.good k a b,fun k hk=>by
   rw [gC (by rw [h.len];omega) hx.len,JG (by omega)]
   exact h.low k hk⟩
end
section
variable {pf pg:Nat→List UInt8}
theorem sX{it:List UInt8}: ∀ (k n:Nat),(∀ m,n≤m→m<n+k→pf m=pg m)→cf pf it k n=cf pg it k n
 | 0,n,_=>rfl
 | k+1,n,h=>by
   unfold cf
   rw [h n (Jv _) (by omega),sX k (n+1) fun m a b=>h m (by omega) (by omega)]
theorem BF(h: ∀ n,32≤n→n<128→pf n=pg n)(v:gf)(d:Bool):ju pf v d=ju pg v d:=by
 unfold ju
 rw [sX 96 32 fun m a b=>h m a (by omega)]
theorem vN{n k:Int}(h:mD n k≠false):32≤n.toNat∧n.toNat<128:=by
 have h2:mD n k=true:=by simpa using h
 have:=JS h2
 omega
theorem BJ(h: ∀ n,32≤n→n<128→pf n=pg n)(n k:Int):pz pf n k=pz pg n k:=by
 unfold pz
 by_cases hm:mD n k=false
 ·rw [JH hm,JH hm]
 ·rw [JG hm,JG hm,h _ (vN hm).1 (vN hm).2]
theorem rx(h: ∀ n,32≤n→n<128→pf n=pg n)(n k:Int)(x:Nat):kJ pf n k x=kJ pg n k x:=by
 unfold kJ
 by_cases hm:4000<x∨mD n k=false
 ·rw [JH hm,JH hm]
 ·have h2:=vN (fun e=>hm (.inr e))
  have h3:o9 pf n.toNat (jV k.toNat x)=o9 pg n.toNat (jV k.toNat x):=by
   unfold o9
   rw [h _ h2.1 h2.2]
  rw [JG hm,JG hm,h3]
theorem nN(h: ∀ n,32≤n→n<128→pf n=pg n)(l:List (Int×Int)):fY pf l=fY pg l:=by
 unfold fY
 by_cases hm:tO l
 ·have h1:md pf l↔md pg l:=by
   unfold md
   refine forall_congr' fun t=>forall_congr' fun ht=>?_
   have h2:=JS (hm.1 t ht)
   rw [h t.1.toNat (by omega) (by omega)]
  have h2:((dm l).map fun n=>(n,rI (aU (pf n)).1 (aM l n)))=((dm l).map fun n=>(n,rI (aU (pg n)).1 (aM l n))):=by
   refine List.map_congr_left fun n hn=>?_
   obtain⟨a,b,_⟩:=dP.1 hn
   rw [h n a b]
  by_cases h3:md pf l
  ·rw [JG (show ¬¬tO l from fun e=>e hm),JG (show ¬¬md pf l from fun e=>e h3),JG (show ¬¬tO l from fun e=>e hm),JG (show ¬¬md pg l from fun e=>e (h1.1 h3)),h2]
  ·rw [JG (show ¬¬tO l from fun e=>e hm),JH h3,JG (show ¬¬tO l from fun e=>e hm),JH (show ¬md pg l from fun e=>h3 (h1.2 e))]
 ·rw [JH hm,JH hm]
theorem tD: ∀ (k n:Nat),(∀ m,n≤m→m<n+k→pf m=pg m)→ng pf k n=ng pg k n
 | 0,n,_=>rfl
 | k+1,n,h=>by
   unfold ng
   rw [h n (Jv _) (by omega),tD k (n+1) fun m a b=>h m (by omega) (by omega)]
theorem my(h: ∀ n,32≤n→n<128→pf n=pg n):Aw pf=Aw pg:=tD 96 32 fun m a b=>h m a (by omega)
theorem p5{it:List UInt8}(hit:(ofV it).isSome=true): ∀ (k n:Nat),(∀ m,n≤m→m<n+k→GoodP (pf m))→(cf pf it k n).1=0→GoodP (cf pf it k n).2.2.2
 | 0,n,_,h=>by cases h
 | k+1,n,hG,h=>by
   obtain⟨q,hq,hQ⟩:=(hG n (Jv _) (by omega)).read
   unfold cf at h ⊢
   rw [hq] at h ⊢
   rw [JG (fun e=>e rfl)] at h ⊢
   dsimp only at h ⊢
   by_cases he:(fm q it).2.2≠0
   ·rw [JH he] at h ⊢
    exact p5 hit k (n+1) (fun m a b=>hG m (by omega) (by omega)) h
   ·rw [JG he]
    exact .inr (qZ hQ hit (Decidable.not_not.1 he))
end
section
variable {H:au}{v:gf}{x:nZ}{b h:Nat}{left:Int}{n nx:Nat}{puts:Int}{mem:List UInt8}{l:List (Int×Int)}
theorem BE(h:Hv mem){d:Bool}{x:List UInt8}(e:(ju (az mem) v d).2=some (n,x)):32≤n∧n<128∧GoodP x:=by
 unfold ju at e
 by_cases h1:iT v=false
 ·rw [JH h1] at e
  cases e
 ·rw [JG h1] at e
  have h1:iT v=true:=by simpa using h1
  by_cases h2:(cf (az mem) (aO v) 96 32).1≠0
  ·rw [JH h2] at e
   cases e
  ·rw [JG h2] at e
   have h2:=Decidable.not_not.1 h2
   by_cases h3:d=true
   ·rw [JH h3] at e
    cases e
   ·rw [JG h3] at e
    have hp:=mR (az mem) (aO v) 96 32 h2
    have hg:=p5 (pf:=az mem) (it:=aO v) (by rw [qL h1];rfl) 96 32 (fun m a b=>h.good m a (by omega)) h2
    cases e
    exact⟨hp.1,by omega,hg⟩
theorem Aa{x:Nat}:bf (aO v) 8 (beB x 8)=aO (v.1,v.2.1,v.2.2.1,x):=by
 unfold bf aO
 have e1: ∀ n,(beB n 8).length=8:=fun n=>bq n 8
 rw [List.take_left' (e1 _),e1,←List.drop_drop,List.drop_left' (e1 _),List.drop_left' (e1 _),JR]
theorem BN(h:Hv mem){n k:Int}{x m:Nat}{y:List UInt8}(e:(kJ (az mem) n k x).2=some (m,y)):32≤m∧m<128∧GoodP y:=by
 unfold kJ at e
 by_cases h1:4000<x∨mD n k=false
 ·rw [JH h1] at e
  cases e
 ·rw [JG h1] at e
  have h2:=vN (fun e=>h1 (.inr e))
  obtain⟨q,hq,hQ⟩:=(h.good _ h2.1 h2.2).read
  have hc:o9 (az mem) n.toNat (jV k.toNat x)=jV k.toNat x q:=by
   unfold o9
   rw [hq,JG (fun e=>e rfl)]
  rw [hc] at e
  cases hh:ll q k.toNat with
  | false=>
    have hE:jV k.toNat x q=(zeroP,6):=by
     unfold jV
     rw [oR hh]
     rfl
    rw [hE] at e
    dsimp only at e
    rw [JH (show(6:Nat)≠0 by decide)] at e
    cases e
  | true=>
    have hE:jV k.toNat x q=(bf q (ay q k.toNat) (bf (aV q k.toNat) 8 (beB x 8)),0):=by
     unfold jV
     rw [rh hh]
     rfl
    rw [hE] at e
    dsimp only at e
    rw [JG (show ¬((0:Nat)≠0)from fun h=>h rfl)] at e
    cases e
    have h3:=JS hh
    have hs:=hQ.items _ h3.1 h3.2
    obtain⟨v,hv⟩:=Option.isSome_iff_exists.1 hs
    have hb:=CF hv
    have hmv:=zk hv
    have hmv2:=JS hmv
    have hm2:iT (v.1,v.2.1,v.2.2.1,x)=true:=JZ ⟨hmv2.1,hmv2.2.1,hmv2.2.2.1,by dsimp only;omega⟩
    have hle:(aV q k.toNat).length=ak q k.toNat:=dv hQ.ok.len (cQ hQ.right h3.1 h3.2).2.2.2
    refine⟨h2.1,h2.2,.inr (BH hQ h3.1 h3.2 ?_ ?_)⟩
    ·rw [hb,Aa,←hle,hb,er,er]
    ·rw [hb,Aa,qL hm2]
     rfl
theorem kD(h:Hv mem): ∀ x∈(fY (az mem) l).2,32≤x.1∧x.1<128∧GoodP x.2:=by
 unfold fY
 by_cases h1:tO l
 ·rw [JG (fun e=>e h1)]
  by_cases h2:md (az mem) l
  ·rw [JG (fun e=>e h2)]
   intro x hx
   obtain⟨n,hn,rfl⟩:=J3.1 hx
   obtain⟨a,b,_⟩:=dP.1 hn
   refine⟨a,b,.inr ?_⟩
   obtain⟨q,hq,hQ⟩:=(h.good n a b).read
   have hh:=(mc h1).1 h2 n hn
   dsimp only
   rw [hq] at hh ⊢
   exact vZ hQ ⟨fk h1 n,fun k hk=>JS (hh k hk)⟩
  ·rw [JH h2]
   intro x hx
   cases hx
 ·rw [JH h1]
  intro x hx
  cases hx
def oD(mem:List UInt8)(ps:List (Nat×List UInt8)):List UInt8:=ps.foldl (fun m x=>f8 m x.1 x.2) mem
theorem iD: ∀ (ps:List (Nat×List UInt8)) (mem:List UInt8) (left puts:Int),left<0→fZ ps mem left puts=(0,oD mem ps,left-ps.length,puts+ps.length)
 | [],mem,left,puts,_=>by simp [fZ,oD]
 | (n,x) :: ps,mem,left,puts,h=>by
   show(if left=0 then(8,mem,left,puts) else fZ ps (f8 mem n x) (left-1) (puts+1))=_
   rw [JG (by omega),iD ps _ _ _ (by omega)]
   rw [show left-1-(ps.length:Int)=left-(((n,x) :: ps).length:Int) by simp only [Jy];omega,show puts+1+(ps.length:Int)=puts+(((n,x) :: ps).length:Int) by simp only [Jy];omega]
   rfl
theorem oC: ∀ {ps:List (Nat×List UInt8)} {mem:List UInt8},Hv mem→(∀ x∈ps,32≤x.1∧x.1<128∧GoodP x.2)→Hv (oD mem ps)∧dD (oD mem ps)=jH (dD mem) ps
 | [],mem,h,_=>⟨h,rfl⟩
 | (n,x) :: ps,mem,h,hp=>by
   obtain⟨a,b,g⟩:=hp _ JO
   have ih:=oC (ps:=ps) (h.set a b g) fun y hy=>hp y (JP _ hy)
   refine⟨ih.1,ih.2.trans ?_⟩
   rw [ml h.len a b g.len]
   rfl
theorem qB{pf:Nat→List UInt8}:(fY pf l).2.length≤96:=by
 have hl:(dm l).length≤96:=by
  unfold dm
  refine JD (List.length_filter_le _ _) ?_
  simp
 unfold fY
 split
 ·exact Jw _
 ·split
  ·exact Jw _
  ·rw [JL]
   exact hl
theorem nO{p:List UInt8}(h:(aU (bareP p)).2=0):sg p=((aU (bareP p)).1,true):=JH h
theorem uZ{p:List UInt8}(h:(aU (bareP p)).2≠0):sg p=(bareP p,false):=JG h
theorem uv{hb:Nat}{n k:Int}{hm:List UInt8}(hH:H.at' hb=some (hpO hm))(hl:hm.length=98304):Fnc Tryz.prog 16 [.ptr hb 0,yc (n,k)] H nx
 (fun q=> ∃ s' r,q.1 = .tup [s',.sc (.int .i64 ((pz (dfH hm) n k).2:Int))]∧VerAt q.2.1 s' r (pz (dfH hm) n k).1∧nx≤r∧nx≤q.2.2∧ ∀ m,m<nx→q.2.1.at' m=H.at' m):=by
 refine Ka Tryz.func16 rfl rfl ?_
 refine aX fun hund=>?_
 have lH:=hund _ _ hH
 repeat first|apply ai;rfl|apply aG;rfl;(focus((repeat(first|exact ae|refine ab (by omega) ?_));done));rfl
 cases hmay:mD n k with
 | false=>
   have hg:pz (dfH hm) n k=(iV,2):=by unfold pz;rw [JH hmay]
   have hmd:=of_decide_eq_false hmay
   rw [hg]
   refine cW (R:=fun H1 n1=>n1=nx+1+1∧H1.at' nx=some (eE n k)∧H1.at' (nx+1)=some (fw (eF dC dC 0 0))∧ ∀ m,m<nx→H1.at' m=H.at' m) ⟨rfl,by repeat(first|exact ae|refine ab (by omega) ?_),by repeat(exact ae),fun m hm=>by(repeat(refine ab (by omega) ?_));rfl⟩ ?_
   rintro H1 n1 ⟨rfl,a1,a2,a3⟩
   by_cases h1:n<32
   ·repeat first|apply px;rfl;omega|apply ai;rfl|apply aG;rfl;assumption;rfl
    ((apply bm Tryz.func16 (congrArg Array.toList Tryz.results16));(focus(repeat(first|exact Kb|apply Kd rfl|apply Kc rfl (Ke (F.ag _ rfl) (by repeat(exact ae)) (aq _ 0 rfl rfl))))))
    exact⟨_,nx,rfl,gm _ nx,Jv _,by dsimp only;omega,fun m hm=>by(repeat(refine ab (by omega) ?_));exact a3 m hm⟩
   ·by_cases h2:127<n
    ·repeat first|apply px;rfl;omega|apply lx;rfl;omega|apply ai;rfl|apply aG;rfl;assumption;rfl
     ((apply bm Tryz.func16 (congrArg Array.toList Tryz.results16));(focus(repeat(first|exact Kb|apply Kd rfl|apply Kc rfl (Ke (F.ag _ rfl) (by repeat(exact ae)) (aq _ 0 rfl rfl))))))
     exact⟨_,nx,rfl,gm _ nx,Jv _,by dsimp only;omega,fun m hm=>by(repeat(refine ab (by omega) ?_));exact a3 m hm⟩
    ·have h3:k<0:=by omega
     repeat first|apply px;rfl;omega|apply lx;rfl;omega|apply ai;rfl|apply aG;rfl;assumption;rfl
     ((apply bm Tryz.func16 (congrArg Array.toList Tryz.results16));(focus(repeat(first|exact Kb|apply Kd rfl|apply Kc rfl (Ke (F.ag _ rfl) (by repeat(exact ae)) (aq _ 0 rfl rfl))))))
     exact⟨_,nx,rfl,gm _ nx,Jv _,by dsimp only;omega,fun m hm=>by(repeat(refine ab (by omega) ?_));exact a3 m hm⟩
 | true=>
   have hmd:32≤n∧n<128∧0≤k:=JS hmay
   obtain⟨N,rfl⟩: ∃ N:Nat,n=((32+N:Nat):Int):=⟨(n-32).toNat,by omega⟩
   obtain⟨K,rfl⟩: ∃ K:Nat,k=(K:Int):=⟨k.toNat,by omega⟩
   have hN:N<96:=by omega
   have hdf:dfH hm (32+N)=bareP (az hm N):=by unfold dfH;rw [show 32+N-32=N by omega]
   have hg:pz (dfH hm) ((32+N:Nat):Int) (K:Int)=if(aU (bareP (az hm N))).2≠0 then(iV,(aU (bareP (az hm N))).2) else if(cn (aU (bareP (az hm N))).1 K).2.2≠0 then(iV,6) else
    ((ofV (aV (aU (bareP (az hm N))).1 K)).getD iV,Bs (ofV (aV (aU (bareP (az hm N))).1 K))):=by unfold pz;rw [JG (by rw [hmay];decide),JY,JY,hdf]
   rw [hg]
   clear hg hmay hdf
   have hpl:=gD hl hN
   have hrs:=fun(H:au) nx (h:H.at' hb=some (hpO hm))=>lW (nx:=nx) h hl hN
   have hrl:=se hpl
   have hno:=lV (p:=bareP (az hm N))
   refine cW (R:=fun H1 n1=>n1=nx+1+1∧H1.at' nx=some (eE ((32+N:Nat):Int) (K:Int))∧H1.at' (nx+1)=some (fw (eF dC dC 0 0))∧H1.at' hb=some (hpO hm)∧ ∀ m,m<nx→H1.at' m=H.at' m) ⟨rfl,by repeat(first|exact ae|refine ab (by omega) ?_),by repeat(exact ae),by(repeat(refine ab (by omega) ?_));exact hH,fun m hm=>by(repeat(refine ab (by omega) ?_));rfl⟩ ?_
   rintro H1 n1 ⟨rfl,a1,a2,a4,a3⟩
   repeat first|apply lx;rfl;omega|apply ai;rfl|apply aG;rfl;assumption;rfl|apply aL;rfl;omega;omega
   rw [show((32+N:Nat):Int)-32=(N:Int) by omega]
   by_cases he:(aU (bareP (az hm N))).2=0
   ·rw [nO he] at hrs hrl
    rw [JG (fun h=>h he)]
    obtain⟨hpp,hr,hof⟩:=cN (p:=bareP (az hm N)) (q:=(aU (bareP (az hm N))).1) (Prod.ext rfl he) (dT hpl)
    generalize (aU (bareP (az hm N))).1=p at hrs hrl hpp hr hof ⊢
    dsimp only [Bg] at hrs
    repeat first|apply bA hpp ah;rfl;(focus((repeat(exact ae));done))|refine a9 rfl rfl ci ?_|apply ai;rfl|apply aG;rfl;(focus((repeat(first|assumption|exact ae|refine ab (by omega) ?_));done));rfl|apply bY;rfl;kernel_rfl;exact hrs _ _ a4|apply bu hpp;rfl;(focus((repeat(exact ae));done))
    by_cases hK:ac p≤K∨ak p K=0
    ·have hfd:cn p K=(0,0,6):=by unfold cn;split;rfl;rw [JH (by omega)]
     rw [hfd,JH (by decide)]
     refine aI rfl rfl rfl (by kernel_rfl) (J9 (xk hpp hr hK) ?_)
     rintro⟨_,H2,n2⟩ ⟨rfl,b3,b4⟩
     dsimp only at b3 b4 ⊢
     have c2:H2.at' (nx+1)=some (fw (eF dC dC 0 0)):=(b4 _ (by omega)).trans (by repeat(first|assumption|refine ab (by omega) ?_))
     have co: ∀ m,m<nx→H2.at' m=H.at' m:=fun m hm=>(b4 _ (by omega)).trans (by(repeat(refine ab (by omega) ?_));exact a3 m hm)
     clear b4
     repeat first|apply ai;rfl|apply aG;rfl;assumption;rfl|apply iv;rfl;decide
     ((apply bm Tryz.func16 (congrArg Array.toList Tryz.results16));(focus(repeat(first|exact Kb|apply Kd rfl|apply Kc rfl (Ke (F.ag _ rfl) (by repeat(exact ae)) (aq _ 0 rfl rfl))))))
     exact⟨_,nx,rfl,gm _ nx,Jv _,by dsimp only;omega,fun m hm=>by(repeat(refine ab (by omega) ?_));exact co m hm⟩
    ·have hs:ak p K≠0:=fun h=>hK (.inr h)
     have hn:K<ac p:=by omega
     have hfd:cn p K=(ay p K,ak p K,0):=by unfold cn;rw [JG (by omega),JG hs]
     rw [hfd,JG (fun h=>h rfl)]
     have hil:(aV p K).length≤1024:=by unfold aV;rw [JK,JN];omega
     have hos:=hof K hn hs
     obtain⟨v,hv⟩: ∃ v,ofV (aV p K)=some v:=by cases h:ofV (aV p K)with|some v=>exact⟨v,rfl⟩|none=>rw [h] at hos;cases hos
     refine aI rfl rfl rfl (by kernel_rfl) (J9 (BB hpp hr hn hs) ?_)
     rintro⟨_,H2,n2⟩ ⟨r,rfl,b1,b2,b3,b4⟩
     dsimp only at b1 b3 b4 ⊢
     have c2:H2.at' (nx+1)=some (fw (eF dC dC 0 0)):=(b4 _ (by omega)).trans (by repeat(first|assumption|refine ab (by omega) ?_))
     have co: ∀ m,m<nx→H2.at' m=H.at' m:=fun m hm=>(b4 _ (by omega)).trans (by(repeat(refine ab (by omega) ?_));exact a3 m hm)
     clear b4
     repeat first|apply ai;rfl|apply dM;rfl;rfl
     refine aI rfl rfl rfl (by kernel_rfl) (J9 (ofr_s (r:=r) (ro:=false) (l:=aV p K) (by rw [← rS];(focus(skip;exact b1))) (by omega)) ?_)
     rintro⟨_,H3,n3⟩ ⟨s',rfl,hF,hat,d3,d4⟩
     rw [← of_eq,hv]
     have hat:=hat v (by rw [← of_eq];exact hv)
     obtain⟨vk,vw,vx,vy,rfl,hk1,hw1⟩:=hF
     have hone:bp (eF vk vw vx vy)=true:=by simp only [bp,hk1,hw1];rfl
     dsimp only [Option.getD,Bs] at hat d3 d4 ⊢
     have e2:H3.at' (nx+1)=some (fw (eF dC dC 0 0)):=(d4 _ (by omega)).trans (by assumption)
     have eo: ∀ m,m<nx→H3.at' m=H.at' m:=fun m hm=>(d4 _ (by omega)).trans (by exact co m hm)
     clear d4 co b1 c2
     repeat first|apply ai;rfl|apply aG;rfl;(focus((repeat(first|assumption|exact ae|refine ab (by omega) ?_));done));rfl|refine dW rfl rfl rfl (F.sz _ rfl) (by repeat(first|assumption|exact ae|refine ab (by omega) ?_)) rfl (by exact Jh rfl) hone rfl ?_
     ((apply bm Tryz.func16 (congrArg Array.toList Tryz.results16));(focus(repeat(first|exact Kb|apply Kd rfl|apply Kc rfl (Ke (F.ag _ rfl) (by repeat(exact ae)) (aq _ 0 rfl rfl))))))
     exact⟨_,r,rfl,hat.frame (by(repeat(refine ab (by omega) ?_));rfl),by omega,by dsimp only;omega,fun m hm=>by(repeat(refine ab (by omega) ?_));exact eo m hm⟩
   ·rw [uZ he] at hrs hrl
    rw [JH he]
    have h13:(aU (bareP (az hm N))).2=13:=by
     rcases hno with h|h
     ·exact absurd h he
     ·rw [h]
    rw [h13]
    generalize bareP (az hm N)=p at hrs hrl
    dsimp only [Bg] at hrs hrl
    repeat first|apply bA hrl ah;rfl;(focus((repeat(exact ae));done))|refine a9 rfl rfl ci ?_|apply ai;rfl|apply aG;rfl;(focus((repeat(first|assumption|refine ab (by omega) ?_));done));rfl|apply bY;rfl;kernel_rfl;exact hrs _ _ a4
    ((apply bm Tryz.func16 (congrArg Array.toList Tryz.results16));(focus(repeat(first|exact Kb|apply Kd rfl|apply Kc rfl (Ke (F.ag _ rfl) (by repeat(exact ae)) (aq _ 0 rfl rfl))))))
    exact⟨_,nx,rfl,gm _ nx,Jv _,by dsimp only;omega,fun m hm=>by(repeat(refine ab (by omega) ?_));exact a3 m hm⟩
theorem pk{hb:Nat}{hm:List UInt8}(hH:H.at' hb=some (hpO hm))(hl:hm.length=98304):Fnc Tryz.prog 12 [.ptr hb 0] H nx
 (fun q=>nx≤q.2.2∧(∀ m,m<nx→q.2.1.at' m=H.at' m)∧((Aw (dfH hm)=none∧q.1 = .tup [dC,.sc (.bool false)])∨ ∃ l s r,Aw (dfH hm)=some l∧q.1 = .tup [s,.sc (.bool true)]∧RowsAt q.2.1 (fun m=>nx≤m∧m<q.2.2) r s l)):=by
 refine Ka Tryz.func12 rfl rfl ?_
 refine aX fun hund=>?_
 have lH:=hund _ _ hH
 clear hund
 have hA:Aw (dfH hm)=ng (dfH hm) 96 32:=rfl
 repeat apply ai;rfl
 refine bC (α:=Nat×List uI×SV×Nat) (fun x=> [(0,.ptr hb 0),(4,x.2.2.1),(5,.sc (.int .i64 (x.1:Int)))])
  (fun x H1 n1=>x.1≤96∧ng (dfH hm) 96 32=(ng (dfH hm) (96-x.1) (32+x.1)).map (x.2.1 ++ ·)∧x.2.1.length≤256*x.1∧(nx≤n1∧x.2.2.2<n1)∧RowsAt H1 (fun m=>nx≤m∧m<n1) x.2.2.2 x.2.2.1 x.2.1∧H1.at' hb=some (hpO hm)∧ ∀ m,m<nx→H1.at' m=H.at' m) (fun x=>96-x.1) (0,[],dC,0)
  ⟨Jw _,by dsimp only;cases ng (dfH hm) (96-0) (32+0) <;> rfl,by decide,⟨Jv _,by dsimp only;omega⟩,.inl ⟨rfl,rfl⟩,hH,fun m hm=>rfl⟩ (Kg (Kj rfl)) ?_
 rintro⟨i,l,s,r0⟩ H1 n1 ⟨i1,i2,i3,i4,i5,i6,i7⟩ ih
 dsimp only at i1 i2 i3 i4 i5 i6 i7 ⊢
 repeat apply ai;rfl
 refine bn rfl rfl rfl rfl (fun h5=>?_) (fun h5=>?_)
 ·have hi:i<96:=by omega
  have hgo:ng (dfH hm) (96-i) (32+i)=if(aU (dfH hm (32+i))).2≠0 then none else(ng (dfH hm) (96-(i+1)) (32+(i+1))).map (wZ (32+i) (aU (dfH hm (32+i))).1 ++ ·):=by
   rw [show 96-i=(96-(i+1))+1 by omega]
   rfl
  have hdf:dfH hm (32+i)=bareP (az hm i):=by unfold dfH;rw [show 32+i-32=i by omega]
  have hpl:=gD hl hi
  rw [hdf] at hgo
  have hrs:=fun(H:au) nx (h:H.at' hb=some (hpO hm))=>lW (nx:=nx) h hl hi
  by_cases he:(aU (bareP (az hm i))).2=0
  ·rw [JG (fun g=>g he)] at hgo
   rw [nO he] at hrs
   obtain⟨hpp,hr,hof⟩:=cN (p:=bareP (az hm i)) (q:=(aU (bareP (az hm i))).1) (Prod.ext rfl he) (dT hpl)
   generalize (aU (bareP (az hm i))).1=p at hrs hpp hr hof hgo
   dsimp only [Bg] at hrs
   clear he hpl hdf
   have hok:=(bi hpp).1 hr
   have hh:=hok.head
   have ht:=hok.top
   have hll:=eO p (ac p)
   repeat first|apply bA hpp ah;rfl;(focus((repeat(exact ae));done))|refine a9 rfl rfl ci ?_|apply ai;rfl|apply bY;rfl;kernel_rfl;exact hrs _ _ i6|apply bu hpp;rfl;(focus((repeat(exact ae));done))
   refine aI rfl rfl rfl (by kernel_rfl) (J9 (pW hpp) ?_)
   rintro⟨_,H2,n2⟩ ⟨g1,g2,(⟨hr2,rfl⟩|⟨_,rs,rfl,g3,g4,g5⟩)⟩
   ·rw [hr] at hr2;cases hr2
   dsimp only at g1 g2 g3 g4 g5 ⊢
   have k1:H2.at' n1=some (pgO p):=(g2 _ (by omega)).trans (by repeat(exact ae))
   have k2:H2.at' hb=some (hpO hm):=(g2 _ (by omega)).trans (by repeat(first|assumption|refine ab (by omega) ?_))
   have k3:RowsAt H2 (fun m=>nx≤m∧m<n1) r0 s l:=i5.grow fun m hm=>⟨hm,(g2 _ (by omega)).trans (by(repeat(refine ab (by omega) ?_));rfl)⟩
   have ko: ∀ m,m<nx→H2.at' m=H.at' m:=fun m hm=>(g2 m (by omega)).trans (by(repeat(refine ab (by omega) ?_));exact i7 m hm)
   clear g2 i5 i6 i7
   repeat apply ai;rfl
   refine bC (α:=Nat×SV×Nat) (fun x=> [(0,.ptr hb 0),(4,x.2.1),(5,.sc (.int .i64 (i:Int))),(6,.ptr n1 0),(8,.slu rs 0 (eH p (ac p)).length),(10,.sc (.int .i64 (x.1:Int)))])
    (fun x H3 n3=>x.1≤ac p∧(n2≤n3∧x.2.2≠n1∧x.2.2<n3)∧RowsAt H3 (fun m=>nx≤m∧m<n3∧m≠rs∧(m<rs∨n2≤m)) x.2.2 x.2.1 (l ++ gT (32+i) p x.1)∧H3.at' n1=some (pgO p)∧H3.at' rs=some (slO (eH p (ac p)))∧H3.at' hb=some (hpO hm)∧ ∀ m,m<nx→H3.at' m=H.at' m) (fun x=>ac p-x.1) (0,s,r0)
    ⟨Jw _,⟨Jv _,by dsimp only;omega,by dsimp only;omega⟩,by show RowsAt _ _ _ _ (l ++ []);rw [JU];exact k3.grow fun m hm=>⟨⟨hm.1,by omega,by omega,by omega⟩,rfl⟩,k1,g5,k2,ko⟩ (Kg (Kj rfl)) ?_
   clear k1 k2 k3 ko g5
   rintro⟨j,sj,rj⟩ H3 n3 ⟨j1,j2,j3,j4,j5,j6,j7⟩ ih2
   dsimp only at j1 j2 j3 j4 j5 j6 j7 ⊢
   repeat apply ai;rfl
   refine bn rfl rfl rfl rfl (fun h6=>?_) (fun h6=>?_)
   ·have hj:j<ac p:=by omega
    have hcS:=iz p hj
    have hcF:=jC p hj
    have hg:ak p j<65536:=cJ p _
    repeat first|refine dq (q:=j) rfl rfl rfl rfl (F.un _ rfl) (F.sz _ rfl) (by assumption) (by omega) (by(omega)) (Jv _) ?_|refine cd (am (F.ag _ rfl) rfl j5 hcS) rfl rfl rfl ?_|apply ai;rfl
    by_cases hs:ak p j=0
    ·have e1:gT (32+i) p (j+1)=gT (32+i) p j:=by show _ ++ (if _ then _ else _)=_;rw [JH hs,JU]
     rw [← e1] at j3
     repeat first|apply lx;rfl;omega|apply ai;rfl|apply aL;rfl;omega;omega
     exact ih2 _ _ _ (j+1,sj,rj) ⟨hj,j2,j3,j4,j5,j6,j7⟩ (by dsimp only;omega) (Kg (Kj rfl))
    ·have hsl:=cQ hr hj hs
     have hil:=dv hpp (j:=j) hsl.2.2.2
     have hba: ∀ H:au,H.at' n1=some (pgO p)→BlkAt H n1 (ay p j) (aV p j):=fun H h=>⟨_,h,by
      rw [hil]
      refine aq _ _ ?_ (by simp only [JL];omega)
      unfold aV
      simp [List.map_take,List.map_drop]⟩
     have hos:=hof j hj hs
     obtain⟨v,hv⟩: ∃ v,ofV (aV p j)=some v:=by cases h:ofV (aV p j)with|some v=>exact⟨v,rfl⟩|none=>rw [h] at hos;cases hos
     have hof2: ∀ (H:au) nx',H.at' n1=some (pgO p)→Fnc Tryz.prog 36 [.sl n1 (ay p j) (ak p j) (1024-ay p j)] H nx' (fun q=>q=(.tup [x7 n1 (ay p j) (1024-ay p j) (aV p j),.sc (.bool true)],H,nx')):=fun H nx' h=>by
      have:=Hi (H:=H) (nx:=nx') (r:=n1) (o:=ay p j) (C:=1024-ay p j) (l:=aV p j) (hba H h) (by omega) (by omega)
      rwa [hil,←of_eq,hv] at this
     obtain⟨vk,vw,hve,hk1,hw1⟩:=Ds (hba H3 j4) (C:=1024-ay p j) (by omega) (by rw [← of_eq];exact hv)
     rw [hve] at hof2
     have hone:bp (eF vk vw v.2.2.1 v.2.2.2)=true:=by simp only [bp,cX hk1.bs,cX hw1.bs];rfl
     have hone6:bp (yz (32+i) j vk vw v.2.2.1 v.2.2.2)=true:=by simp only [bp,cX hk1.bs,cX hw1.bs];rfl
     have e1:l ++ gT (32+i) p (j+1)=(l ++ gT (32+i) p j) ++ [((32+i,j),v)]:=by
      show l ++ (_ ++ if _ then _ else _)=_
      rw [JG hs,hv,JR]
      rfl
     have hrl:(l ++ gT (32+i) p j).length≤200000:=by have:=lT (32+i) p j;rw [Jz];omega
     clear hve hos
     repeat first|apply px;rfl;omega|apply ai;rfl
     (apply gt;(focus(kernel_rfl));(focus(kernel_rfl)))
     refine dR 17 (Jh rfl) ?_
     repeat first|refine aH (q:=j) rfl rfl rfl rfl (F.un _ rfl) (F.sz _ rfl) (by assumption) (by omega) (by(omega)) (Jv _) ?_|refine bj (am (F.ag _ rfl) rfl j5 hcF) rfl rfl rfl ?_|refine bj (am (F.ag _ rfl) rfl j5 hcS) rfl rfl rfl ?_|apply bS;rfl;rfl;exact(fun _ h=>by cases h);exact(fW (l:=ay p j) (h:=ay p j+ak p j) (F.un _ rfl) (F.sz _ rfl) rfl rfl rfl (by omega) (by omega) (by omega) (show ay p j+ak p j-ay p j=ak p j by omega) rfl (JI _))|apply aS;rfl|refine bj (aw rfl rfl (.inl ⟨rfl,(Jd _ ⟨(by focus(omega)),(by focus(omega))⟩).symm⟩)) rfl rfl rfl ?_
     refine aA ?_;(apply dS;rfl;rfl;rfl;(focus(kernel_rfl));exact(hof2 _ _ j4))
     refine iL ?_
     repeat first|refine bX rfl rfl rfl (F.sz _ rfl) (by repeat(first|assumption|exact ae)) rfl (by exact Jh rfl) hone rfl ?_|apply aS;rfl|refine oZ (ef (F.zl _ rfl)) rfl rfl rfl ?_
     refine aA ⟨by kernel_rfl,?_,?_⟩;(focus(repeat(first|exact Kk|refine⟨.inl rfl,?_⟩|refine⟨.inr (.inl (by(repeat(refine⟨(by first|exact mI rfl|exact aw rfl rfl (.inl ⟨rfl,(Jd _ ⟨by omega,by omega⟩).symm⟩)|exact am (F.ag _ rfl) rfl (by(repeat(refine ab (by omega) ?_));exact j5) hcF|exact am (F.ag _ rfl) rfl (by(repeat(refine ab (by omega) ?_));exact j5) hcS|exact aQ (F.un _ rfl) (F.sz _ rfl) rfl rfl (by(repeat(refine ab (by omega) ?_));exact j5) rfl (by omega) (Jv _)|exact fW (l:=ay p j) (h:=ay p j+ak p j) (F.un _ rfl) (F.sz _ rfl) rfl rfl rfl (by omega) (by omega) (by omega) (show ay p j+ak p j-ay p j=ak p j by omega) rfl (JI _)),?_⟩));exact Kk)),?_⟩|refine⟨.inr (.inr (by(repeat(refine⟨(by exact eg rfl (by kernel_rfl) (by exact hof2 _ _ (by(repeat(refine ab (by omega) ?_));exact j4))),?_⟩));exact Kk)),?_⟩)))
     refine cW (R:=fun H4 n4=>n4=n3+1∧H4.at' n3=some (fw (eF vk vw v.2.2.1 v.2.2.2))∧RowsAt H4 (fun m=>nx≤m∧m<n3∧m≠rs∧(m<rs∨n2≤m)) rj sj (l ++ gT (32+i) p j)∧BlkS H4 vk n1 v.1∧BlkS H4 vw n1 v.2.1∧H4.at' n1=some (pgO p)∧H4.at' rs=some (slO (eH p (ac p)))∧H4.at' hb=some (hpO hm)∧ ∀ m,m<nx→H4.at' m=H.at' m)
      ⟨rfl,by repeat(exact ae),j3.grow fun m hm=>⟨hm,by(repeat(refine ab (by omega) ?_));rfl⟩,hk1.frame (by(repeat(refine ab (by omega) ?_));rfl),hw1.frame (by(repeat(refine ab (by omega) ?_));rfl),by repeat(first|assumption|refine ab (by omega) ?_),by repeat(first|assumption|refine ab (by omega) ?_),by repeat(first|assumption|refine ab (by omega) ?_),fun m hm=>by(repeat(refine ab (by omega) ?_));exact j7 m hm⟩ ?_
     rintro H4 n4 ⟨rfl,m0,m1,m2,m3,m4,m5,m6,m7⟩
     clear j3 j4 j5 j6 j7 hba hof2 hk1 hw1 hcS hcF
     dsimp only
     generalize l ++ gT (32+i) p j=lj at m1 hrl e1
     rcases m1 with ⟨rfl,rfl⟩|⟨ws,L,h0,rfl,h2,h3,h4,h6'⟩
     ·repeat first|apply ai;rfl|apply aG;rfl;assumption;rfl|apply aL;rfl;omega;omega|refine bM (cs:=yz (32+i) j vk vw v.2.2.1 v.2.2.2) rfl rfl (F.un _ rfl) (F.sz _ rfl) rfl (F.ze _ rfl) rfl rfl hone6 rfl rfl ?_
      refine AM (b:=80) (n:=1) (cs:=yz (32+i) j vk vw v.2.2.1 v.2.2.2) rfl rfl rfl rfl (F.un _ rfl) (.inl ⟨_,F.un _ rfl⟩) (F.sz _ rfl) rfl (by kernel_rfl) (by kernel_rfl) (SlOf.row (by repeat(exact ae)) rfl) hone6 (by decide) (by decide) ?_
      rintro _ _ _ (⟨h,_⟩|⟨_,rfl,rfl,rfl⟩)
      ·exact absurd h (by decide)
      repeat first|apply ai;rfl|apply aL;rfl;omega;omega
      refine ih2 _ _ _ (j+1,_,n3+1+1) ⟨hj,⟨by first|omega|(dsimp only;omega),by first|omega|(dsimp only;omega),by first|omega|(dsimp only;omega)⟩,?_,by repeat(first|assumption|refine ab (by omega) ?_),by repeat(first|assumption|refine ab (by omega) ?_),by repeat(first|assumption|refine ab (by omega) ?_),fun m hm=>by(repeat(refine ab (by omega) ?_));exact m7 m hm⟩ (by dsimp only;omega) (Kg (Kj rfl))
      dsimp only
      rw [e1]
      refine .inr ⟨yz (32+i) j vk vw v.2.2.1 v.2.2.2,[n1],by simp,rfl,by repeat(exact ae),fun m hm=>?_,⟨by omega,by omega,by omega,by omega⟩,vk,vw,[],n1,rfl,JM.2 rfl,m2.frame (by(repeat(refine ab (by omega) ?_));rfl),m3.frame (by(repeat(refine ab (by omega) ?_));rfl),rfl⟩
      obtain rfl:=JM.1 hm
      exact⟨⟨by omega,by omega,by omega,by omega⟩,by omega⟩
     ·repeat first|apply ai;rfl|apply aG;rfl;assumption;rfl|apply aL;rfl;omega;omega|refine bM (cs:=yz (32+i) j vk vw v.2.2.1 v.2.2.2) rfl rfl (F.un _ rfl) (F.sz _ rfl) rfl (F.ze _ rfl) rfl rfl hone6 rfl rfl ?_
      refine GN (b:=80) (m:=1) (r:=rj) (ws:=ws) (cs:=yz (32+i) j vk vw v.2.2.1 v.2.2.2) rfl rfl rfl rfl (F.un _ rfl) (.inl ⟨_,F.un _ rfl⟩) (F.sz _ rfl) rfl (by kernel_rfl) (by kernel_rfl) (by(repeat(refine ab (by omega) ?_));exact h2) h6'.len (SlOf.cells (SlOf.row (by repeat(exact ae)) rfl)) hone6 (by decide) (by omega) (by omega) ?_
      repeat first|apply ai;rfl|apply aL;rfl;omega;omega
      have hlen1:(lj ++ [((32+i,j),v)]).length=lj.length+1:=by simp
      refine ih2 _ _ _ (j+1,_,n3+1+1) ⟨hj,⟨by first|omega|(dsimp only;omega),by first|omega|(dsimp only;omega),by first|omega|(dsimp only;omega)⟩,?_,by repeat(first|assumption|refine ab (by omega) ?_|refine cp (by omega) ?_),by repeat(first|assumption|refine ab (by omega) ?_|refine cp (by omega) ?_),by repeat(first|assumption|refine ab (by omega) ?_|refine cp (by omega) ?_),fun m hm=>by(repeat(first|refine ab (by omega) ?_|refine cp (by omega) ?_));exact m7 m hm⟩ (by dsimp only;omega) (Kg (Kj rfl))
      dsimp only
      rw [e1]
      refine .inr ⟨ws ++ yz (32+i) j vk vw v.2.2.1 v.2.2.2,n1 :: L,by omega,by rw [hlen1],by rw [hlen1];(focus((repeat(exact ae));done)),fun m hm=>?_,⟨by omega,by omega,by omega,by omega⟩,?_⟩
      ·rcases JV.1 hm with rfl|hm
       ·exact⟨⟨by omega,by omega,by omega,by omega⟩,by omega⟩
       ·have:=h3 m hm
        exact⟨⟨by omega,by omega,by omega,by omega⟩,by omega⟩
      ·refine RowsC.snoc (y:=((32+i,j),v)) (s1:=vk) (s2:=vw) (r:=n1) JO (m2.frame (by(repeat(first|refine ab (by omega) ?_|refine cp (by omega) ?_));rfl)) (m3.frame (by(repeat(first|refine ab (by omega) ?_|refine cp (by omega) ?_));rfl)) (h6'.frame fun m hm=>⟨JP _ hm,?_⟩)
       have:=h3 m hm
       (focus((repeat(first|refine ab (by omega) ?_|refine cp (by omega) ?_));rfl))
   ·have hj:j=ac p:=by omega
    subst hj
    repeat first|apply ai;rfl|apply aL;rfl;omega;omega
    refine ih _ _ _ (i+1,l ++ wZ (32+i) p,sj,rj) ⟨hi,?_,?_,⟨by first|omega|(dsimp only;omega),by first|omega|(dsimp only;omega)⟩,j3.grow fun m hm=>⟨⟨hm.1,hm.2.1⟩,rfl⟩,j6,j7⟩ (by dsimp only;omega) (Kg (Kj rfl))
    ·dsimp only
     rw [i2,hgo,Option.map_map]
     congr 1
     funext x
     simp
    ·have:(wZ (32+i) p).length≤ac p:=lT (32+i) p (ac p)
     dsimp only
     rw [Jz]
     omega
  ·rw [JH he] at hgo
   rw [uZ he] at hrs
   have hbl:=dT hpl
   generalize bareP (az hm i)=p at hrs hbl
   dsimp only [Bg] at hrs
   repeat first|apply bA hbl ah;rfl;(focus((repeat(exact ae));done))|refine a9 rfl rfl ci ?_|apply ai;rfl|apply bY;rfl;kernel_rfl;exact hrs _ _ i6
   (apply bP Tryz.func12 Tryz.results12;rfl)
   exact⟨by first|omega|(dsimp only;omega),fun m hm=>by(repeat(refine ab (by omega) ?_));exact i7 m hm,.inl ⟨by rw [hA,i2,hgo];rfl,rfl⟩⟩
 ·have hi:i=96:=by omega
  subst hi
  repeat apply ai;rfl
  (apply bP Tryz.func12 Tryz.results12;rfl)
  exact⟨i4.1,i7,.inr ⟨l,s,r0,by rw [hA,i2];show some (l ++ [])=_;rw [JU],rfl,i5⟩⟩
theorem ov(n:Nat)(p:List UInt8): ∀ j,∀ x∈gT n p j,x.1.1=n
 | 0,x,h=>by cases h
 | j+1,x,h=>by
   unfold gT at h
   rcases List.mem_append.1 h with h|h
   ·exact ov n p j x h
   ·split at h
    ·cases h
    ·rw [JM.1 h]
theorem wD{pf:Nat→List UInt8}: ∀ (k n:Nat),(∀ m,n≤m→m<n+k→GoodP (pf m))→ ∃ l,ng pf k n=some l∧l.length≤300*k∧ ∀ x∈l,n≤x.1.1∧x.1.1<n+k
 | 0,n,_=>⟨[],rfl,Jw _,fun x hx=>by cases hx⟩
 | k+1,n,h=>by
   obtain⟨q,hq,hQ⟩:=(h n (Jv _) (by omega)).read
   obtain⟨l,h1,h2,h3⟩:=wD k (n+1) fun m a b=>h m (by omega) (by omega)
   have hs:ac q≤300:=by
    have h1:=hQ.ok.head
    have h2:=hQ.ok.top
    omega
   have hr:(wZ n q).length≤ac q:=lT n q (ac q)
   refine⟨wZ n q ++ l,?_,?_,fun x hx=>?_⟩
   ·unfold ng
    rw [hq,JG (fun e=>e rfl),h1]
    rfl
   ·rw [Jz]
    omega
   ·rcases List.mem_append.1 hx with hx|hx
    ·have:=ov n q (ac q) x hx
     omega
    ·have:=h3 x hx
     omega
theorem kn(h:Hv mem): ∃ l,Aw (az mem)=some l∧l.length≤28800∧ ∀ x∈l,32≤x.1.1∧x.1.1<128:=by
 obtain⟨l,h1,h2,h3⟩:=wD (pf:=az mem) 96 32 fun m a b=>h.good m a (by omega)
 exact⟨l,h1,by omega,fun x hx=>by have:=h3 x hx;omega⟩
def Tch(mem mem':List UInt8):Prop:= ∃ n0,∀ n,n≠n0→az mem n=zeroP→az mem' n=zeroP
theorem iW(mem:List UInt8):Tch mem mem:=⟨0,fun _ _ h=>h⟩
theorem qt{x:List UInt8}(hm:mem.length=131072)(h2:n<128)(hx:x.length=1024):Tch mem (f8 mem n x):=⟨n,fun k hk h0=>by
 rw [gC (by omega) hx,JG hk]
 exact h0⟩
theorem wL:ac (aU zeroP).1=0:=by kernel_rfl
theorem pT: ∀ {ps:List (Nat×List UInt8)} {mem:List UInt8} {n:Nat},mem.length=131072→(∀ x∈ps,x.1<128∧x.2.length=1024)→(∀ x∈ps,x.1≠n)→az (oD mem ps) n=az mem n
 | [],_,_,_,_,_=>rfl
 | (a,x) :: ps,mem,n,hm,hp,hn=>by
   have h1:=hp _ JO
   dsimp only at h1
   have h2:=pT (ps:=ps) (mem:=f8 mem a x) (n:=n) (lP hm h1.1 h1.2) (fun y hy=>hp y (JP _ hy)) (fun y hy=>hn y (JP _ hy))
   have h3:a≠n:=hn _ JO
   show az (oD (f8 mem a x) ps) n=_
   rw [h2,gC (by omega) h1.2,JG (fun e=>h3 e.symm)]
theorem A6(h0:az mem n=zeroP): ∀ x∈(fY (az mem) l).2,x.1≠n:=by
 unfold fY
 by_cases h1:tO l
 ·rw [JG (fun e=>e h1)]
  by_cases h2:md (az mem) l
  ·rw [JG (fun e=>e h2)]
   intro x hx e
   obtain⟨k,hk,rfl⟩:=J3.1 hx
   dsimp only at e
   subst e
   obtain⟨_,_,hs⟩:=dP.1 hk
   obtain⟨j,hj⟩:=List.exists_mem_of_ne_nil _ hs
   have h3:=JS ((mc h1).1 h2 _ hk j hj)
   rw [h0,wL] at h3
   omega
  ·rw [JH h2]
   intro x hx
   cases hx
 ·rw [JH h1]
  intro x hx
  cases hx
theorem qu(hv:Hv mem)(l:List (Int×Int)):Tch mem (oD mem (fY (az mem) l).2):=⟨0,fun n _ h0=>by
 rw [pT hv.len (fun x hx=>⟨(kD hv x hx).2.1,(kD hv x hx).2.2.len⟩) (A6 h0)]
 exact h0⟩
def qk(H:au)(nx b h:Nat)(mem:List UInt8)(left puts:Int)(q:Res):Prop:=q.1 = .sc (.bool true)∧ ∃ (mem':List UInt8) (left' puts':Int),q.2.1.at' b=some (cT mem' left' puts')∧q.2.1.at' h=some (hpO (dD mem'))∧Hv mem'∧(left-96≤left'∧left'≤left)∧(puts≤puts'∧puts'≤puts+96)∧nx≤q.2.2∧(∀ m,m<nx→m≠b→m≠h→q.2.1.at' m=H.at' m)∧Tch mem mem'
def AC(H:au)(nx b h:Nat)(x:nZ):Prop:= ∀ H':au,(∀ m,m<nx→m≠b→m≠h→H'.at' m=H.at' m)→ActIs H' x
abbrev tE(x:nZ):VO:=ar 42 (rJ x)
theorem do0_s(hb:H.at' b=some (cT mem left puts))(hh:H.at' h=some (hpO (dD mem)))(hv:Hv mem)(hx:ActIs H x)(hk:x.1.kind≠1∧x.1.kind≠2∧x.1.kind≠3∧x.1.kind≠4):Fnc Tryz.prog 9 [.ptr b 0,.ptr h 0,.agg (rJ x)] H nx (qk H nx b h mem left puts):=by
 have hone:bp (rJ x)=true:=by simp only [bp,cX hx.1,cX hx.2];rfl
 refine Ka Tryz.func9 rfl rfl ?_
 refine aX fun hund=>?_
 have lb:=hund _ _ hb
 have lh:=hund _ _ hh
 obtain⟨rows,hal,hrl,hrn⟩:=kn hv
 have hdoc:Aw (dfH (dD mem))=some rows:=(my fun n a b=>fx hv a b).trans hal
 repeat apply ai;rfl
 refine aI rfl rfl rfl (by kernel_rfl) (J9 (pk (hm:=dD mem) (by repeat(first|assumption|refine ab (by omega) ?_)) (dG hv.len)) ?_)
 rintro⟨_,H1,n1⟩ ⟨u1,u2,⟨u3,_⟩|⟨rows',s,rr,u3,rfl,u4⟩⟩
 ·rw [hdoc] at u3
  cases u3
 rw [hdoc] at u3
 cases u3
 dsimp only at u1 u2 u4 ⊢
 have c1:H1.at' nx=some (tE x):=(u2 nx (by omega)).trans (by repeat(exact ae))
 have cb:H1.at' b=some (cT mem left puts):=(u2 b (by omega)).trans (by repeat(first|assumption|refine ab (by omega) ?_))
 have ch:H1.at' h=some (hpO (dD mem)):=(u2 h (by omega)).trans (by repeat(first|assumption|refine ab (by omega) ?_))
 have co: ∀ m,m<nx→H1.at' m=H.at' m:=fun m hm=>(u2 m (by omega)).trans (by(repeat(refine ab (by omega) ?_));rfl)
 repeat first|refine cV rfl rfl rfl (F.ag _ rfl) cb (dl hv.len _ _) ?_|apply ai;rfl|apply aG;rfl;assumption;rfl
 obtain⟨k1,k2,k3,k4⟩:=hk
 repeat first|apply ai;rfl|apply iv;rfl;omega
 (apply bP Tryz.func9 Tryz.results9;rfl)
 exact⟨rfl,mem,left,puts,cb,ch,hv,⟨by omega,by omega⟩,⟨by omega,by omega⟩,by first|omega|(dsimp only;omega),fun m hm _ _=>co m hm,iW _⟩
theorem iQ(x:nZ):(tE x).cellsFrom (0+6) 2=some [.sc (.int .i64 x.1.tid.1),.sc (.int .i64 x.1.tid.2)]:=aq 2 6 rfl rfl
theorem pc(x:nZ):(tE x).cellsFrom (0+2) 4=some [x.2.1,x.2.2,.sc (.int .u64 (x.1.ver.2.2.1:Int)),.sc (.int .u64 (x.1.ver.2.2.2:Int))]:=aq 4 2 rfl rfl
theorem zh{k w:SV}(hk:BsIs H k (byV v.1))(hw:BsIs H w (byV v.2.1))(x y:Nat):bp [k,w,.sc (.int .u64 (x:Int)),.sc (.int .u64 (y:Int))]=true:=by
 simp only [bp,cX hk,cX hw]
 rfl
theorem do4_s(hb:H.at' b=some (cT mem left puts))(hh:H.at' h=some (hpO (dD mem)))(hv:Hv mem)(hx:ActIs H x)(hk:x.1.kind=4):Fnc Tryz.prog 9 [.ptr b 0,.ptr h 0,.agg (rJ x)] H nx (qk H nx b h mem left puts):=by
 have hone:bp (rJ x)=true:=by simp only [bp,cX hx.1,cX hx.2];rfl
 refine Ka Tryz.func9 rfl rfl ?_
 refine aX fun hund=>?_
 have lb:=hund _ _ hb
 have lh:=hund _ _ hh
 obtain⟨rows,hal,hrl,hrn⟩:=kn hv
 have hdoc:Aw (dfH (dD mem))=some rows:=(my fun n a b=>fx hv a b).trans hal
 repeat apply ai;rfl
 refine aI rfl rfl rfl (by kernel_rfl) (J9 (pk (hm:=dD mem) (by repeat(first|assumption|refine ab (by omega) ?_)) (dG hv.len)) ?_)
 rintro⟨_,H1,n1⟩ ⟨u1,u2,⟨u3,_⟩|⟨rows',s,rr,u3,rfl,u4⟩⟩
 ·rw [hdoc] at u3
  cases u3
 rw [hdoc] at u3
 cases u3
 dsimp only at u1 u2 u4 ⊢
 have c1:H1.at' nx=some (tE x):=(u2 nx (by omega)).trans (by repeat(exact ae))
 have cb:H1.at' b=some (cT mem left puts):=(u2 b (by omega)).trans (by repeat(first|assumption|refine ab (by omega) ?_))
 have ch:H1.at' h=some (hpO (dD mem)):=(u2 h (by omega)).trans (by repeat(first|assumption|refine ab (by omega) ?_))
 have co: ∀ m,m<nx→H1.at' m=H.at' m:=fun m hm=>(u2 m (by omega)).trans (by(repeat(refine ab (by omega) ?_));rfl)
 repeat first|refine cV rfl rfl rfl (F.ag _ rfl) cb (dl hv.len _ _) ?_|apply ai;rfl|apply aG;rfl;assumption;rfl
 repeat first|apply ai;rfl|apply iv;rfl;omega
 refine cF rfl rfl rfl rfl (fun _=>?_) (fun e=>absurd hk (by omega))
 repeat first|refine eU rfl rfl rfl (F.ag _ rfl) c1 (iQ x) ?_|apply ai;rfl
 refine aI rfl rfl rfl (by kernel_rfl) (J9 (get_g (b:=b) (mem:=mem) (left:=left) (puts:=puts) (by assumption) hv.len) ?_)
 rintro⟨_,H2,n2⟩ ⟨s1,r1,rfl,d1,d2,d3,d4⟩
 dsimp only at d1 d2 d3 d4 ⊢
 refine aX fun hund2=>?_
 have e1:H2.at' nx=some (tE x):=(d4 _ (by omega)).trans c1
 have e2:H2.at' h=some (hpO (dD mem)):=(d4 _ (by omega)).trans ch
 have e3: ∀ m,m<nx→H2.at' m=H.at' m:=fun m hm=>(d4 _ (by omega)).trans (co m hm)
 generalize hG:pz (az mem) x.1.tid.1 x.1.tid.2=G at d1
 obtain⟨kA,wA,rfl,hkA,hwA⟩:=d1
 have oA:=zh hkA.bs hwA.bs
 repeat first|refine eU rfl rfl rfl (F.ag _ rfl) (by(repeat(refine ab (by omega) ?_));exact e1) (iQ x) ?_|refine dW rfl rfl rfl (F.sz _ rfl) (by repeat(first|assumption|exact ae)) rfl (by exact Jh rfl) (oA _ _) rfl ?_|apply ai;rfl
 refine aI rfl rfl rfl (by kernel_rfl) (J9 (uv (hb:=h) (hm:=dD mem) (by(repeat(refine ab (by omega) ?_));exact e2) (dG hv.len)) ?_)
 rintro⟨_,H3,n3⟩ ⟨s3,r3,rfl,f1,f2,f3,f4⟩
 dsimp only at f1 f2 f3 f4 ⊢
 rw [BJ (fun n a b=>fx hv a b),hG] at f1 ⊢
 refine aX fun hund3=>?_
 have vA:VerIs H2 (oh kA wA G.1.2.2.1 G.1.2.2.2) G.1:=⟨kA,wA,rfl,hkA.bs,hwA.bs⟩
 have vA3:VerIs H3 (oh kA wA G.1.2.2.1 G.1.2.2.2) G.1:=vA.frame fun m vo hm=>by
  have:=hund2 m vo hm
  exact(f4 m (by omega)).trans (by(repeat(refine ab (by omega) ?_));exact hm)
 have vB3:=f1.is
 obtain⟨kB,wB,rfl,hkB,hwB⟩:=f1
 have oB:=zh hkB.bs hwB.bs
 have g1:H3.at' n2=some (ar 38 [kA,wA,.sc (.int .u64 (G.1.2.2.1:Int)),.sc (.int .u64 (G.1.2.2.2:Int))]):=(f4 _ (by omega)).trans (by repeat(exact ae))
 have g3: ∀ m,m<nx→H3.at' m=H.at' m:=fun m hm=>(f4 _ (by omega)).trans (by(repeat(refine ab (by omega) ?_));exact e3 m hm)
 have hs: ∀ (H':au) (nx':Nat),(∀ m,m<n3→H'.at' m=H3.at' m)→Fnc Tryz.prog 17 [oh kA wA G.1.2.2.1 G.1.2.2.2,oh kB wB G.1.2.2.1 G.1.2.2.2] H' nx' (fun q=>q=(.sc (.bool true),H',nx')):=fun H' nx' hh=>GX (vA3.frame fun m vo hm=>(hh m (hund3 m vo hm)).trans hm) (vB3.frame fun m vo hm=>(hh m (hund3 m vo hm)).trans hm)
 repeat first|refine dW rfl rfl rfl (F.sz _ rfl) (by repeat(first|assumption|exact ae)) rfl (by exact Jh rfl) (oB _ _) rfl ?_|apply dM;rfl;rfl|refine eU rfl rfl rfl (F.ag _ rfl) (by repeat(first|assumption|exact ae|refine ab (by omega) ?_)) (aq 4 0 rfl rfl) ?_|apply ai;rfl
 refine aI rfl rfl rfl (by kernel_rfl) (J9 (hs _ _ fun m hm=>by(repeat(refine ab (by omega) ?_));rfl) ?_)
 rintro _ rfl
 dsimp only
 repeat apply ai;rfl
 (apply bP Tryz.func9 Tryz.results9;rfl)
 exact⟨rfl,mem,left,puts,by(repeat(refine ab (by omega) ?_));exact(g3 b lb).trans hb,by(repeat(refine ab (by omega) ?_));exact(g3 h lh).trans hh,hv,⟨by omega,by omega⟩,⟨by omega,by omega⟩,by first|omega|(dsimp only;omega),fun m hm _ _=>by(repeat(refine ab (by omega) ?_));exact g3 m hm,iW _⟩
theorem zL(hv:Hv mem)(v:gf):((ju (az mem) v false).1.2.2≠0∧(ju (az mem) v false).2=none)∨((ju (az mem) v false).1.2.2=0∧ ∃ n y,(ju (az mem) v false).2=some (n,y)∧32≤n∧n<128∧GoodP y):=by
 have hg:=fun n y=>BE (n:=n) (x:=y) (d:=false) (v:=v) hv
 generalize hI:ju (az mem) v false=I at hg
 unfold ju at hI
 by_cases h1:iT v=false
 ·rw [JH h1] at hI
  subst hI
  exact .inl ⟨by decide,rfl⟩
 ·rw [JG h1] at hI
  by_cases h2:(cf (az mem) (aO v) 96 32).1≠0
  ·rw [JH h2] at hI
   subst hI
   exact .inl ⟨h2,rfl⟩
  ·rw [JG h2,JG (by decide)] at hI
   subst hI
   exact .inr ⟨rfl,_,_,rfl,hg _ _ rfl⟩
theorem Ht(h:iT v=false):ju (az mem) v false=((0,0,2),none):=by
 unfold ju
 rw [JH h]
theorem do1_s(hb:H.at' b=some (cT mem left puts))(hh:H.at' h=some (hpO (dD mem)))(hne:b≠h)(hv:Hv mem)(hx:AC H nx b h x)(hk:x.1.kind=1)(hl : -1000000≤left∧left<0)(hp:0≤puts∧puts≤1000000):Fnc Tryz.prog 9 [.ptr b 0,.ptr h 0,.agg (rJ x)] H nx (qk H nx b h mem left puts):=by
 have hx0:=hx H fun _ _ _ _=>rfl
 have hone:bp (rJ x)=true:=by simp only [bp,cX hx0.1,cX hx0.2];rfl
 have hd:decide (left=0)=false:=J0 (by omega)
 refine Ka Tryz.func9 rfl rfl ?_
 refine aX fun hund=>?_
 have lb:=hund _ _ hb
 have lh:=hund _ _ hh
 obtain⟨rows,hal,hrl,hrn⟩:=kn hv
 have hdoc:Aw (dfH (dD mem))=some rows:=(my fun n a b=>fx hv a b).trans hal
 repeat apply ai;rfl
 refine aI rfl rfl rfl (by kernel_rfl) (J9 (pk (hm:=dD mem) (by repeat(first|assumption|refine ab (by omega) ?_)) (dG hv.len)) ?_)
 rintro⟨_,H1,n1⟩ ⟨u1,u2,⟨u3,_⟩|⟨rows',s,rr,u3,rfl,u4⟩⟩
 ·rw [hdoc] at u3
  cases u3
 rw [hdoc] at u3
 cases u3
 dsimp only at u1 u2 u4 ⊢
 have c1:H1.at' nx=some (tE x):=(u2 nx (by omega)).trans (by repeat(exact ae))
 have cb:H1.at' b=some (cT mem left puts):=(u2 b (by omega)).trans (by repeat(first|assumption|refine ab (by omega) ?_))
 have ch:H1.at' h=some (hpO (dD mem)):=(u2 h (by omega)).trans (by repeat(first|assumption|refine ab (by omega) ?_))
 have co: ∀ m,m<nx→H1.at' m=H.at' m:=fun m hm=>(u2 m (by omega)).trans (by(repeat(refine ab (by omega) ?_));rfl)
 repeat first|refine cV rfl rfl rfl (F.ag _ rfl) cb (dl hv.len _ _) ?_|apply ai;rfl|apply aG;rfl;assumption;rfl
 refine cF rfl rfl rfl rfl (fun _=>?_) (fun e=>absurd hk (by omega))
 have vr: ∀ (H':au),(∀ m,m<nx→m≠b→m≠h→H'.at' m=H.at' m)→VerIs H' (oh x.2.1 x.2.2 x.1.ver.2.2.1 x.1.ver.2.2.2) x.1.ver:=fun H' hf=>⟨_,_,rfl,(hx H' hf).1,(hx H' hf).2⟩
 repeat first|refine eU rfl rfl rfl (F.ag _ rfl) c1 (pc x) ?_|apply ai;rfl
 refine aI rfl rfl rfl (by kernel_rfl) (J9 (qU (b:=b) (mem:=mem) (left:=left) (puts:=puts) cb hv.len (vr H1 fun m hm _ _=>co m hm) (by omega) (by omega)) ?_)
 rintro⟨_,H2,n2⟩ ⟨rfl,d2,d3,d4⟩
 dsimp only at d2 d3 d4 ⊢
 rw [hd] at d2 ⊢
 have e1:H2.at' nx=some (tE x):=(d4 _ (by omega) (by omega)).trans c1
 have e2:H2.at' h=some (hpO (dD mem)):=(d4 _ (by omega) (Ne.symm hne)).trans ch
 have e3: ∀ m,m<nx→m≠b→H2.at' m=H.at' m:=fun m hm hmb=>(d4 _ (by omega) hmb).trans (co m hm)
 have hc:=zL hv x.1.ver
 have hno:=Ht (mem:=mem) (v:=x.1.ver)
 have hdI:ju (dfH (dD mem)) x.1.ver false=ju (az mem) x.1.ver false:=BF (fun n a b=>fx hv a b) _ _
 generalize ju (az mem) x.1.ver false=I at hc hno hdI d2 ⊢
 repeat first|refine eU rfl rfl rfl (F.ag _ rfl) (by(repeat(refine ab (by omega) ?_));exact e1) (pc x) ?_|apply ai;rfl|apply aG;rfl;(focus((repeat(exact ae));done));rfl
 refine aI rfl rfl rfl (by kernel_rfl) (J9 (zx (vr _ fun m hm hmb _=>by(repeat(refine ab (by omega) ?_));exact e3 m hm hmb)) ?_)
 rintro _ rfl
 dsimp only
 cases hm:iT x.1.ver with
 | false=>
   rw [hno hm] at d2 ⊢
   have d2':H2.at' b=some (cT mem left puts):=d2
   repeat first|refine cV rfl rfl rfl (F.ag _ rfl) (by(repeat(refine ab (by omega) ?_));exact d2') (dl hv.len _ _) ?_|apply dM;rfl;rfl|apply od (r:=true) (a:=(0,0)) (b:=(0,0)) (hr:=gg.2 rfl);rfl;rfl;rfl;rfl|apply ai;rfl|apply aG;rfl;(focus((repeat(exact ae));done));rfl
   (apply bP Tryz.func9 Tryz.results9;rfl)
   exact⟨rfl,mem,left,puts,by(repeat(refine ab (by omega) ?_));exact d2',by(repeat(refine ab (by omega) ?_));exact e2,hv,⟨by omega,by omega⟩,⟨by omega,by omega⟩,by first|omega|(dsimp only;omega),fun m hm hmb _=>by(repeat(refine ab (by omega) ?_));exact e3 m hm hmb,iW _⟩
 | true=>
   repeat first|refine eU rfl rfl rfl (F.ag _ rfl) (by(repeat(refine ab (by omega) ?_));exact e1) (pc x) ?_|apply ai;rfl
   refine aI rfl rfl rfl (by kernel_rfl) (J9 (Ef (hb:=h) (hm:=dD mem) (by(repeat(refine ab (by omega) ?_));exact e2) (dG hv.len) (vr _ fun m hm hmb _=>by(repeat(refine ab (by omega) ?_));exact e3 m hm hmb) hm) ?_)
   rintro⟨_,H3,n3⟩ ⟨rfl,f2,f3,f4⟩
   dsimp only at f2 f3 f4 ⊢
   rw [hdI] at f2 ⊢
   have g1:H3.at' n2=some (eE (I.1.1:Int) (I.1.2.1:Int)):=(f4 _ (by omega) (by omega)).trans (by repeat(exact ae))
   have g2:H3.at' b=some (putO mem left puts I.2):=(f4 _ (by omega) hne).trans (by(repeat(refine ab (by omega) ?_));exact d2)
   have g3: ∀ m,m<nx→m≠b→m≠h→H3.at' m=H.at' m:=fun m hm hmb hmh=>(f4 _ (by omega) hmh).trans (by(repeat(refine ab (by omega) ?_));exact e3 m hm hmb)
   clear d4 f4
   rcases hc with ⟨hc1,hc2⟩|⟨hc1,n,y,hc2,hc3,hc4,hc5⟩
   ·rw [hc2] at f2 g2
    have g2':H3.at' b=some (cT mem left puts):=g2
    have f2':H3.at' h=some (hpO (dD mem)):=f2
    repeat first|apply dM;rfl;rfl|apply iv;rfl;omega|apply od (r:=true) (a:=((I.1.1:Int),(I.1.2.1:Int))) (b:=((I.1.1:Int),(I.1.2.1:Int))) (hr:=gg.2 rfl);rfl;rfl;rfl;rfl|apply ai;rfl|apply aG;rfl;(focus((repeat(first|assumption|exact ae|refine ab (by omega) ?_));done));rfl
    (apply bP Tryz.func9 Tryz.results9;rfl)
    exact⟨rfl,mem,left,puts,by(repeat(refine ab (by omega) ?_));exact g2',by(repeat(refine ab (by omega) ?_));exact f2',hv,⟨by omega,by omega⟩,⟨by omega,by omega⟩,by first|omega|(dsimp only;omega),fun m hm hmb hmh=>by(repeat(refine ab (by omega) ?_));exact g3 m hm hmb hmh,iW _⟩
   ·rw [hc2] at f2 g2
    have g2':H3.at' b=some (cT (f8 mem n y) (left-1) (puts+1)):=g2
    have f2':H3.at' h=some (hpO (f8 (dD mem) (n-32) y)):=f2
    rw [← ml hv.len hc3 hc4 hc5.len] at f2'
    have hv2:=hv.set hc3 hc4 hc5
    repeat first|refine cV rfl rfl rfl (F.ag _ rfl) (by(repeat(refine ab (by omega) ?_));exact g2') (dl hv2.len _ _) ?_|apply dM;rfl;rfl|apply dM;rfl;omega|apply od (r:=true) (a:=((I.1.1:Int),(I.1.2.1:Int))) (b:=((I.1.1:Int),(I.1.2.1:Int))) (hr:=gg.2 rfl);rfl;rfl;rfl;rfl|apply ai;rfl|apply aG;rfl;(focus((repeat(first|assumption|exact ae|refine ab (by omega) ?_));done));rfl|apply aL;rfl;omega;omega
    (apply bP Tryz.func9 Tryz.results9;rfl)
    exact⟨rfl,f8 mem n y,left-1,puts+1,by(repeat(refine ab (by omega) ?_));exact g2',by(repeat(refine ab (by omega) ?_));exact f2',hv2,⟨by omega,by omega⟩,⟨by omega,by omega⟩,by first|omega|(dsimp only;omega),fun m hm hmb hmh=>by(repeat(refine ab (by omega) ?_));exact g3 m hm hmb hmh,qt hv.len hc4 hc5.len⟩
end
end Go.Proofs.YtnhmbonmlfeifaaGreat
end
section
namespace Go.Sy
open Go Go.Sl Go.RowKit
theorem Ez{vF:Nat→SV}(h: ∀ (ρ:Nat→Nat) n,(vF n).ren ρ=vF (ρ n)){e e':Env}{a b:Nat}(hab:e a=e' b):(vF a).conc e=(vF b).conc e':=by
 have k: ∀ (e:Env) a,(vF a).conc e=(vF 0).conc (pull e fun _=>a):=fun e a=>by
  have:=ej (ρ:=fun _=>a) (e:=e) (vF 0)
  rw [h] at this
  exact this
 rw [k e a,k e' b,show pull e (fun _=>a)=pull e' (fun _=>b)from funext fun _=>hab]
theorem By{K:Zone}{w:World}{vo:VO}{x:Ent}{e e':Env}{a b:Nat}(h: ∀ ρ,vo.ren ρ=vo)(hab:e a=e' b)(hl:Lies K w e vo x):Lies K w e' vo x:=by
 have k: ∀ (e:Env) a,Lies K w e vo x↔Lies K w (pull e fun _=>a) vo x:=fun e a=>by
  have:=kO (K:=K) (w:=w) (vo:=vo) (x:=x) (ρ:=fun _=>a) (e:=e)
  rw [h] at this
  exact this
 rw [k e a,show pull e (fun _=>a)=pull e' (fun _=>b)from funext fun _=>hab] at hl
 exact(k e' b).2 hl
structure Mk where
 c:Nat
 vF:Nat→SV
 vo:VO
structure MkOne (P:Program) (rn:Rn) (R:List Rec) (H0:au) (n0 p:Nat) (m:Mk):Prop where
 ex: ∃ r,R[m.c]? =some r∧r.val=m.vF (n0+p)∧ ∀ (H:au) (n:Nat),n0≤n→(∀ i,i<n0→H.at' i=H0.at' i)→iu P rn r.T H n r.o (m.vF n,H.set n m.vo,n+1)
 ren: ∀ (ρ:Nat→Nat) n,(m.vF n).ren ρ=m.vF (ρ n)
 na: ∀ ρ,m.vo.ren ρ=m.vo
def tI(P:Program)(rn:Rn)(r:Rec)(H:au)(n:Nat):Prop:=ReadDoes P r.T H r.o r.val∨(Free r.val∧iu P rn r.T H n r.o (r.val,H,n))
structure MkOk (P:Program) (rn:Rn) (ops:Array Oper) (R:List Rec) (Q:List (au×Nat)) (C:List Nat) (ms:List Mk) (H0:au) (n0:Nat):Prop where
 c: ∀ (p:Nat) m,ms[p]? =some m→C[p]? =some m.c
 one: ∀ (p:Nat) m,ms[p]? =some m→MkOne P rn R H0 n0 p m
 q: ∃ Hk,Q[ms.length]? =some (Hk,n0+ms.length)∧(∀ i,i<n0∨n0+ms.length≤i→Hk.at' i=H0.at' i)∧ ∀ (p:Nat) m,ms[p]? =some m→Hk.at' (n0+p)=some m.vo
 behind: ∀ (j c:Nat),ms.length≤j→C[j]? =some c→ ∀ m∈ms,Anc ops c m.c
 fl: ∀ r∈R,r.chain=false→r.wanted=true→(∃ m∈ms,¬ Anc ops r.i m.c)→ ∀ H,(∀ i,i<n0→H.at' i=H0.at' i)→(∀ (p:Nat) m,ms[p]? =some m→Anc ops r.i m.c→H.at' (n0+p)=some m.vo)→tI P rn r H (n0+ms.length)
def EK(ms:List Mk)(C:List Nat)(H0:au)(n0:Nat):Mem:=fun L e H n=>(∃ m∈ms,¬ L m.c)∧n=n0+ms.length∧(∀ (j c:Nat),ms.length≤j→C[j]? =some c→ ¬ L c)∧(∀ i,i<n0∨n0+ms.length≤i→H.at' i=H0.at' i) ∧
 ∀ (p:Nat) m,ms[p]? =some m→(L m.c→H.at' (n0+p)=some m.vo)∧(¬ L m.c→H.at' (n0+p)=none∧e (n0+p)=none)
section
variable {P:Program} {K:Zone} {w0:World} {rn:Rn} {nt:Nat} {ops:Array Oper} {T0:Tr SV} {R:List Rec} {Q:List (au×Nat)} {C:List Nat} {ms:List Mk} {H0:au} {n0:Nat}
theorem wS(hrn:nI P K w0 rn)(hR:RegOK P rn nt ops T0 R Q C)(hk:MkOk P rn ops R Q C ms H0 n0)(hl:C7 P rn ops R Q C ms.length):tF P K w0 nt ops R (fun L e H n=>EK ms C H0 n0 L e H n∨HZ Q C ms.length L e H n):=by
 intro L i o r e w tr H n fn rest k ds kd rof cs ho hr hro hni hanc hcl hT hwant hM hS
 rcases hM with hM|hM
 rotate_left
 ·obtain⟨e',w',u,H',n',g1,g2,g⟩:=rV hrn hR hl L i o r e w tr H n fn rest k ds kd rof cs ho hr hro hni hanc hcl hT hwant hM hS
  exact⟨e',w',u,H',n',g1,.inr g2,g⟩
 obtain⟨⟨m0,hm0,hm0L⟩,rfl,hlate,hold,hmk⟩:=hM
 have hrec:=hR.recs i r hr
 have stay:r.chain=false→EK ms C H0 n0 (fun j=>L j∨j=i) e H (n0+ms.length):=fun hc=>by
  have hne: ∀ {j c:Nat},C[j]? =some c→c≠i:=fun {j c} hj he=>by
   subst he
   rw [hR.at_chain hj hr] at hc
   cases hc
  refine⟨⟨m0,hm0,?_⟩,rfl,fun j c hj hc'=>?_,hold,fun p m hp=>?_⟩
  ·obtain⟨p,hp⟩:=List.mem_iff_getElem?.1 hm0
   exact fun h=>h.elim hm0L (hne (hk.c p m0 hp))
  ·exact fun h=>h.elim (hlate j c hj hc') (hne hc')
  ·have hn:=hne (hk.c p m hp)
   exact⟨fun h=>(hmk p m hp).1 (h.resolve_right hn),fun h=>(hmk p m hp).2 fun h'=>h (.inl h')⟩
 cases hwd:r.wanted with
 | false=>
   rw [hwd] at hwant
   obtain⟨h1,h2⟩:=hrec.skip hwd
   exact⟨e,w,undef,H,_,Kh e,.inl (stay h2),hS,by rw [h1];rfl,.one (jB ho hwant)⟩
 | true=>
   rw [hwd] at hwant
   cases hc:r.chain with
   | false=>
     have hri:=hrec.idx
     rcases hk.fl r (Jp hr) hc hwd ⟨m0,hm0,fun h=>hm0L (hanc _ (hri ▸ h))⟩ H (fun i hi=>hold i (.inl hi)) (fun p m hp ha=>(hmk p m hp).1 (hanc _ (hri ▸ ha)))with hf|⟨hfree,hf⟩
     ·rw [hro] at hf
      obtain⟨u,hu,hst⟩:=oP (P:=P) (fn:=fn) (rest:=rest) (k:=k) (ds:=ds) (kd:=kd) (rof:=rof) (cs:=cs) hS hT ho hwant (hro ▸ (hrec.float hwd hc).1) hf
      exact⟨e,w,u,H,_,Kh e,.inl (stay hc),hS,hu,hst⟩
     ·rw [hro] at hf
      obtain⟨e1,w1,u,hle,hS1,hu,hst⟩:=mh (P:=P) hrn (fn:=fn) (rest:=rest) (k:=k) (ds:=ds) (kd:=kd) (rof:=rof) (cs:=cs) hS hT ho hwant hf
      exact⟨e,w1,u,H,_,Kh e,.inl (stay hc),hS.drop hle hS1 (fun _ _=>rfl),hfree _ _ _ hu,hst⟩
   | true=>
     obtain⟨_,hC,_⟩:=hrec.eff hc
     have hlt:r.stg<ms.length:=by
      rcases JJ r.stg ms.length with h|h
      ·exact h
      ·exact absurd (hanc _ (hk.behind r.stg i h hC m0 hm0)) hm0L
     obtain⟨m,hm⟩: ∃ m,ms[r.stg]? =some m:=⟨_,Jf hlt⟩
     generalize r.stg=p at hC hlt hm
     have hmc:m.c=i:=by
      have:=hk.c _ m hm
      rw [hC] at this
      exact(Option.some.inj this).symm
     have h1:=hk.one p m hm
     obtain⟨r',hr',hv,hef⟩:=h1.ex
     rw [hmc,hr] at hr'
     cases hr'
     have hef:=hef H (n0+ms.length) (Nat.le_add_right _ _) (fun i hi=>hold i (.inl hi))
     rw [hro] at hef
     obtain⟨e1,w1,u,hle,hS1,hu,hst⟩:=mh (P:=P) hrn (fn:=fn) (rest:=rest) (k:=k) (ds:=ds) (kd:=kd) (rof:=rof) (cs:=cs) hS hT ho hwant hef
     obtain⟨_,heN⟩:=(hmk p m hm).2 (by rw [hmc];exact hni)
     have hle':e.le (fun j=>if j=n0+p then e1 (n0+ms.length) else e j):=fun j x hx=>by
      by_cases hj:j=n0+p
      ·rw [hj,heN] at hx;cases hx
      ·exact(JG hj).trans hx
     have hlow: ∀ {j:Nat} {v:VO},H.at' j=some v→j<n0+ms.length:=fun {j v} h=>by
      obtain⟨x,hx,_⟩:=hS.rel j v h
      rcases JJ j (n0+ms.length)with q|q
      ·exact q
      ·rw [hS.fresh j q] at hx;cases hx
     have up: ∀ {j:Nat} {v:VO},(H.set (n0+p) m.vo).at' j=some v→(H.set (n0+ms.length) m.vo).at' (if j=n0+p then n0+ms.length else j)=some v:=fun {j v} h=>by
      rcases bL h with ⟨rfl,rfl⟩|⟨hne,h⟩
      ·rw [JH rfl];exact ae
      ·rw [JG hne];exact ab (Nat.ne_of_lt (hlow h)) h
     have upe: ∀ {j:Nat} {v:VO} {x:Ent},(H.set (n0+p) m.vo).at' j=some v→(if j=n0+p then e1 (n0+ms.length) else e j)=some x→e1 (if j=n0+p then n0+ms.length else j)=some x:=fun {j v x} h hx=>by
      by_cases hj:j=n0+p
      ·rw [JH hj] at hx ⊢;exact hx
      ·rw [JG hj] at hx ⊢;exact hle j x hx
     have hS':St K w0 (fun j=>if j=n0+p then e1 (n0+ms.length) else e j) (H.set (n0+p) m.vo) (n0+ms.length) w1:=by
      refine⟨hS1.below,fun j v h=>?_,fun j j' v v' x x' a b c d hne q1 q2 q3 q4=>hS1.inj _ _ v v' x x' (up a) (up b) (upe a c) (upe b d) (fun he=>hne ?_) q1 q2 q3 q4,fun j hj=>(JG (by omega)).trans (hS.fresh j hj)⟩
      ·obtain⟨x,hx,hlx⟩:=hS1.rel _ v (up h)
       rcases bL h with ⟨rfl,rfl⟩|⟨hne,h⟩
       ·rw [JH rfl] at hx
        exact⟨x,(JH rfl).trans hx,By (a:=n0+ms.length+1) (b:=n0+ms.length+1) h1.na (by rw [hS1.fresh _ (Jv _),JG (by omega),hS.fresh _ (JE _)]) hlx⟩
       ·rw [JG hne] at hx
        obtain⟨x0,hx0,hl0⟩:=hS.rel j v h
        have:=hle j x0 hx0
        rw [hx] at this
        cases this
        exact⟨x,(JG hne).trans hx0,nY hle hle' hl0 hlx⟩
      ·by_cases g1:j=n0+p
       ·by_cases g2:j'=n0+p
        ·rw [g1,g2]
        ·rw [JH g1,JG g2] at he
         rcases bL b with ⟨q,_⟩|⟨_,q⟩
         ·exact absurd q g2
         ·have:=hlow q
          omega
       ·by_cases g2:j'=n0+p
        ·rw [JG g1,JH g2] at he
         rcases bL a with ⟨q,_⟩|⟨_,q⟩
         ·exact absurd q g1
         ·have:=hlow q
          omega
        ·rw [JG g1,JG g2] at he
         exact he
     have hval:r.val.conc (fun j=>if j=n0+p then e1 (n0+ms.length) else e j)=some u:=by
      rw [hv,Ez h1.ren (e':=e1) (b:=n0+ms.length) (JH rfl)]
      exact hu
     refine⟨_,w1,u,H.set (n0+p) m.vo,n0+ms.length,hle',?_,hS',hval,hst⟩
     have hqp: ∀ {q:Nat} {mq:Mk},ms[q]? =some mq→mq.c=i→q=p:=fun {q mq} hq he=>pb hR (by rw [← he];exact hk.c q mq hq) hC
     have hinj: ∀ {j:Nat},C[j]? =some i→j=p:=fun {j} hj=>pb hR hj hC
     by_cases hall: ∀ m'∈ms,L m'.c∨m'.c=i
     ·obtain⟨Hk,hQ,g1,g2⟩:=hk.q
      have hH:H.set (n0+p) m.vo=Hk:=funext fun j=>by
       show(H.set (n0+p) m.vo).at' j=Hk.at' j
       by_cases hj:j<n0∨n0+ms.length≤j
       ·exact(ab (by omega) (hold j hj)).trans (g1 j hj).symm
       ·obtain⟨q,rfl⟩: ∃ q,j=n0+q:=⟨j-n0,by omega⟩
        obtain⟨mq,hq⟩: ∃ mq,ms[q]? =some mq:=⟨_,Jf (by omega)⟩
        rw [g2 q mq hq]
        by_cases hqe:q=p
        ·subst hqe
         rw [hm] at hq
         cases hq
         exact ae
        ·exact ab (by omega) ((hmk q mq hq).1 ((hall mq (Jp hq)).resolve_right fun he=>hqe (hqp hq he)))
      refine .inr ⟨ms.length,Jv _,by rw [hH];exact hQ,fun j c hj=>⟨fun h=>?_,fun h=>?_⟩⟩
      ·rcases JJ j ms.length with g|g
       ·exact g
       ·exact h.elim (fun h=>absurd h (hlate j c g hj)) fun h=>by
         subst h
         have:=hinj hj
         omega
      ·obtain⟨m',hm'⟩: ∃ m',ms[j]? =some m':=⟨_,Jf h⟩
       have:=hk.c j m' hm'
       rw [hj] at this
       cases this
       exact hall m' (Jp hm')
     ·refine .inl ⟨?_,rfl,fun j c hj hc'=>?_,fun j hj=>ab (by omega) (hold j hj),fun q mq hq=>⟨fun h=>?_,fun h=>?_⟩⟩
      ·apply Classical.byContradiction
       intro hno
       exact hall fun m' hm'=>Classical.byContradiction fun h=>hno ⟨m',hm',h⟩
      ·rintro(h|h)
       ·exact hlate j c hj hc' h
       ·subst h
        have:=hinj hc'
        omega
      ·by_cases hqe:q=p
       ·subst hqe
        rw [hm] at hq
        cases hq
        exact ae
       ·exact ab (by omega) ((hmk q mq hq).1 (h.resolve_right fun he=>hqe (hqp hq he)))
      ·have hqe:q≠p:=fun he=>by
        subst he
        rw [hm] at hq
        cases hq
        exact h (.inr hmc)
       have:=(hmk q mq hq).2 fun h'=>h (.inl h')
       exact⟨ab (by omega) this.1,(JG (by omega)).trans this.2⟩
end
def addL(H:au):Nat→List VO→au
 | _,[]=>H
 | n,vo :: l=>addL (H.set n vo) (n+1) l
theorem pn: ∀ (l:List VO) (H:au) (n i:Nat),(addL H n l).at' i=if n≤i∧i<n+l.length then l[i-n]? else H.at' i
 | [],H,n,i=>by
   rw [JG (by simp only [List.length_nil];omega)]
   rfl
 | x :: l,H,n,i=>by
   show(addL (H.set n x) (n+1) l).at' i=_
   rw [pn l]
   by_cases h1:n+1≤i∧i<n+1+l.length
   ·rw [JH h1,JH (by simp only [Jy];omega),show i-n=(i-(n+1))+1 by omega]
    rfl
   ·rw [JG h1]
    by_cases h2:i=n
    ·subst h2
     rw [JH (by simp only [Jy];omega),Nat.sub_self]
     exact ae
    ·rw [JG (by simp only [Jy];omega)]
     exact ab h2 rfl
def MkAll(P:Program)(rn:Rn)(R:List Rec)(H0:au)(n0:Nat):Nat→List Mk→Prop
 | _,[]=>True
 | p,m :: l=>MkOne P rn R H0 n0 p m∧MkAll P rn R H0 n0 (p+1) l
theorem MkAll.get{P:Program}{rn:Rn}{R:List Rec}{H0:au}{n0:Nat}: ∀ {l:List Mk} {p:Nat},MkAll P rn R H0 n0 p l→ ∀ (j:Nat) m,l[j]? =some m→MkOne P rn R H0 n0 (p+j) m
 | [],_,_,j,m,h=>by simp at h
 | x :: l,p,hh,0,m,h=>by
   cases h
   exact hh.1
 | x :: l,p,hh,j+1,m,h=>by
   rw [show p+(j+1)=p+1+j by omega]
   exact hh.2.get j m (by simpa using h)
def HY(b:Nat)(H:au):Nat→List Mk→Prop
 | _,[]=>True
 | n,m :: l=>(b.testBit m.c=true→H.at' n=some m.vo)∧HY b H (n+1) l
theorem uo{b:Nat}{H:au}: ∀ {l:List Mk} {n:Nat},(∀ (p:Nat) m,l[p]? =some m→b.testBit m.c=true→H.at' (n+p)=some m.vo)→HY b H n l
 | [],_,_=>trivial
 | m :: l,n,h=>⟨fun hb=>h 0 m rfl hb,uo fun p m' hp hb=>by
    rw [show n+1+p=n+(p+1) by omega]
    exact h (p+1) m' hp hb⟩
def FlM(P:Program)(ancs chain:List Nat)(ms:List Mk)(H0:au)(n0:Nat)(Q:List (au×Nat)):List Rec→Prop
 | []=>True
 | r :: l=>((r.chain || !r.wanted || (Nat.beq (jR (ancs.getD r.i 0) chain) r.stg && Nat.beq (eR ancs r.i chain) r.stg && ms.all fun m=>(ancs.getD r.i 0).testBit m.c))=true ∨
    ((∀ H n,(∀ i,i<n0→H.at' i=H0.at' i)→HY (ancs.getD r.i 0) H n0 ms→tI P (wpr P) r H n)∧AllHQ (Q.take (chain.length-ms.length)) (fun H n=>tI P (wpr P) r H n)))∧FlM P ancs chain ms H0 n0 Q l
theorem FlM.ok{P:Program}{ancs chain:List Nat}{ms:List Mk}{H0:au}{n0:Nat}{Q:List (au×Nat)}: ∀ {l:List Rec},FlM P ancs chain ms H0 n0 Q l→ ∀ r∈l,r.chain=false→r.wanted=true →
 (jR (ancs.getD r.i 0) chain=r.stg∧eR ancs r.i chain=r.stg∧ ∀ m∈ms,(ancs.getD r.i 0).testBit m.c=true)∨((∀ H n,(∀ i,i<n0→H.at' i=H0.at' i)→HY (ancs.getD r.i 0) H n0 ms→tI P (wpr P) r H n)∧AllHQ (Q.take (chain.length-ms.length)) (fun H n=>tI P (wpr P) r H n))
 | [],_,r,hm,_,_=>by cases hm
 | r0 :: l,hh,r,hm,hc,hw=>by
   rcases JV.1 hm with rfl|hm
   ·rcases hh.1 with h|h
    ·rw [hc,hw] at h
     simp only [Bool.not_true,Bool.false_or,Ju] at h
     exact .inl ⟨JW h.1.1,JW h.1.2,fun m hm=>List.all_eq_true.1 h.2 m hm⟩
    ·exact .inr h
   ·exact FlM.ok hh.2 r hm hc hw
theorem yw{P:Program}{rn:Rn}{nt:Nat}{ops:Array Oper}: ∀ {l:List Oper} {i:Nat} {s s':DS},DrawRun P rn nt ops i l s s'→s'.recs.length=s.recs.length+l.length
 | [],i,s,s',h=>by
   cases h
   rfl
 | o :: l,i,s,s',h=>by
   cases h with
   | cons h1 h2=>
     rw [yw h2,Jy]
     rcases h1 with ⟨_,rfl⟩|⟨_,_,v,_,rfl⟩|⟨_,v,H,nx,_,rfl⟩ <;> simp only [Jy] <;> omega
def C3(ancs cs l:List Nat):Bool:=kf ancs l && l.all fun d=>cs.all fun c=>(ancs.getD d 0).testBit c
section
variable {P:Program} {ro:Option Nat} {fn nt nx:Nat} {T:Tr SV} {k:List AIt} {dfs:List ADf} {H:au} {Q:Pst}
theorem uP{id:Nat}{opl:List Oper}(hm:P.follows .mixedOrders=true)(hr:f9 nt opl=true)
 (h:pw P nt opl.toArray 0 opl ⟨T,H,nx,[],[(H,nx)],0⟩ (fun s=> ∃ (ms:List Mk) (l:List Nat),eL s=ms.map (·.c) ++ l∧C3 (eM [] opl) (ms.map (·.c)) l=true∧ms≠ []∧s.Hs.reverse[ms.length]? =some (addL H nx (ms.map (·.vo)),nx+ms.length) ∧
   MkAll P (wpr P) s.recs.reverse H nx 0 ms∧FlM P (eM [] opl) (eL s) ms H nx s.Hs s.recs∧Wp P ro ⟨fn,nt,s.T,k,dfs,s.H,s.nx⟩ Q)) :
 Wp P ro ⟨fn,nt,T,.code (.region id opl.toArray true) :: k,dfs,H,nx⟩ Q:=by
 obtain⟨s,hs,ms,l,h1,h2,h3,h4,h5,h6,h7⟩:=h.ex
 refine⟨fun K w0 e w tmps todo ds' kd rof cs' hS hT ht hd hc=>?_⟩
 obtain⟨it,k',rfl,hi,hk⟩:=ht.cons
 have hi:it=Item.code (.region id opl.toArray true):=hi
 subst hi
 simp only [C3,Ju] at h2
 have hcl: ∀ (p:Nat) m,ms[p]? =some m→(eL s)[p]? =some m.c:=fun p m hp=>by
  rw [h1,Js (by rw [JL];exact(Jg.1 hp).1),JX,hp]
  rfl
 have hrest: ∀ (j c:Nat),ms.length≤j→(eL s)[j]? =some c→l[j-ms.length]? =some c:=fun j c hj hc=>by
  rw [h1,JQ (by rw [JL];exact hj),JL] at hc
  exact hc
 have hlow: ∀ {i:Nat} {v:VO},H.at' i=some v→i<nx:=fun {i v} hi=>by
  obtain⟨x,hx,_⟩:=hS.rel i v hi
  rcases JJ i nx with q|q
  ·exact q
  ·rw [hS.fresh i q] at hx;cases hx
 have hnone: ∀ i,nx≤i→H.at' i=none:=fun i hi=>by
  cases hv:H.at' i with
  | none=>rfl
  | some v=>have:=hlow hv;omega
 have hpos:0<ms.length:=List.length_pos_iff.2 h3
 obtain⟨m0,hm0⟩: ∃ m0,m0∈ms:=List.exists_mem_of_ne_nil ms h3
 obtain⟨e',w',tmps',H',n',L,g1,g2,g3,g4,g5,g6⟩:=wl (K:=K) (w0:=w0) (rn:=wpr P) hm (ops:=opl.toArray) (w:={w with drawn:=w.drawn+1}) hr hs
  (M:=fun L e H' n=>EK ms (eL s) H nx L e H' n∨HZ s.Hs.reverse (eL s) ms.length L e H' n)
  (fun hR=>by
    have hfl:=FlM.ok h6
    refine wS (oa K w0) hR ⟨hcl,fun p m hp=>by have:=h5.get p m hp;rwa [JI] at this,⟨_,h4,fun i hi=>?_,fun p m hp=>?_⟩,fun j c hj hc m hm=>?_,fun r hr hc hw ⟨m,hm,hb⟩ H1 q1 q2=>?_⟩ ⟨fun j c c' hj q1 q2=>?_,fun r hr hc hw st hst hlo hhi H1 n1 hQ1=>sx hR hr hc hw hQ1 fun hne=>?_⟩
    ·rw [pn,JG (by rw [JL];omega)]
    ·have:=(Jg.1 hp).1
     rw [pn,JH (by rw [JL];omega),Nat.add_sub_cancel_left,JX,hp]
     rfl
    ·exact List.all_eq_true.1 (List.all_eq_true.1 h2.2 c (Jp (hrest j c hj hc))) m.c (List.mem_map_of_mem hm)
    ·rcases hfl r (by simpa using hr) hc hw with ⟨_,_,h⟩|h
     ·exact absurd (h m hm) hb
     ·exact h.1 H1 _ q1 (uo q2)
    ·exact m8 h2.1 (j-ms.length) c c' (hrest j c hj q1) (by rw [show j-ms.length+1=j+1-ms.length by omega];exact hrest (j+1) c' (by omega) q2)
    ·have both:tI P (wpr P) r H1 n1→tH P (wpr P) r.T H1 n1 r.o r.val:=fun h=>h.elim .inl fun h=> .inr h.2
     rcases hfl r (by simpa using hr) hc hw with ⟨q1,q2,_⟩|h
     ·exact absurd (Nat.le_antisymm (q2 ▸ hhi) (q1 ▸ hlo)) hne
     ·refine both ?_
      have hlen:=hR.stages
      change s.Hs.reverse.length=(eL s).length+1 at hlen
      have hst1:=(Jg.1 hQ1).1
      rw [List.length_reverse] at hlen hst1
      rcases JJ ms.length st with hg|hg
      ·refine AllHQ.get h.2 (i:=s.Hs.length-1-st) ?_
       rw [List.getElem?_take,JH (by omega),←List.getElem?_reverse hst1]
       exact hQ1
      ·have hst2:st=ms.length:=by omega
       subst hst2
       rw [h4] at hQ1
       cases hQ1
       refine h.1 _ _ (fun i hi=>?_) (uo fun p m hp _=>?_)
       ·rw [pn,JG (by omega)]
       ·have:=(Jg.1 hp).1
        rw [pn,JH (by rw [JL];omega),Nat.add_sub_cancel_left,JX,hp]
        rfl)
  (n:=nx+ms.length) (.inl ⟨⟨m0,hm0,fun h=>h⟩,rfl,fun _ _ _ _ h=>h,fun _ _=>rfl,fun p m hp=>⟨fun h=>h.elim,fun _=>⟨hnone _ (Nat.le_add_right _ _),hS.fresh _ (Nat.le_add_right _ _)⟩⟩⟩)
  (by
    have h:=hS.drew (w:=w)
    exact⟨h.below,h.rel,h.inj,fun i hi=>h.fresh i (by show nx≤i;omega)⟩) hT (w.tape w.drawn (.order fn id)) fn k' ds' kd rof cs'
 rcases g3 with ⟨⟨m,hm,hno⟩,_⟩|g3
 ·exfalso
  obtain⟨p,hp⟩:=List.mem_iff_getElem?.1 hm
  have:=hcl p m hp
  obtain⟨r,hr1,_⟩:=(h5.get p m hp).ex
  have hlt:=(Jg.1 hr1).1
  rw [List.length_reverse,yw hs] at hlt
  exact hno (g2 _ (by simpa using hlt))
 obtain⟨rfl,rfl⟩:=vU hr hs g3 g2
 exact(h7.run K w0 e' w' tmps' k' ds' kd rof cs' g4 g5 (hk.mono g1) (hd.mono g1) (hc.mono g1)).pre (.head yk (g6.trans (.one jA))) g1 rfl rfl (fun _ hr=>hr)
end
section
variable {P:Program} {tb:Tbl} {ancs chain:List Nat} {ms:List Mk} {H0:au} {n0:Nat} {Q:List (au×Nat)} {r:Rec} {l:List Rec}
theorem fm_c(h:r.chain=true)(k:FlM P ancs chain ms H0 n0 Q l):FlM P ancs chain ms H0 n0 Q (r :: l):=⟨.inl (o8 h),k⟩
theorem HE(h1: ∀ H n,(∀ i,i<n0→H.at' i=H0.at' i)→HY (ancs.getD r.i 0) H n0 ms→tI P (wpr P) r H n)(h2:AllHQ (Q.take (chain.length-ms.length)) (fun H n=>tI P (wpr P) r H n))(k:FlM P ancs chain ms H0 n0 Q l):FlM P ancs chain ms H0 n0 Q (r :: l):=⟨.inr ⟨h1,h2⟩,k⟩
theorem HU{p:au→Nat→Prop}(h: ∀ H n,p H n): ∀ Q:List (au×Nat),AllHQ Q p
 | []=>trivial
 | q :: l=>⟨h q.1 q.2,HU h l⟩
theorem fm_pG(ht:TblOk P tb)(h:nE tb r.T r.o.op=some r.val)(k:FlM P ancs chain ms H0 n0 Q l):FlM P ancs chain ms H0 n0 Q (r :: l):=HE (fun _ _ _ _=> .inl (jb ht h)) (HU (fun _ _=> .inl (jb ht h)) _) k
end
end Go.Sy
namespace Go.Proofs.YtnhmbonmlfeifaaGreat
open Go Go.Sy
theorem fm_p{ancs chain:List Nat}{ms:List Mk}{H0:au}{n0:Nat}{Q:List (au×Nat)}{r:Rec}{l:List Rec}(h:nE xx r.T r.o.op=some r.val)(k:FlM Tryz.prog ancs chain ms H0 n0 Q l):FlM Tryz.prog ancs chain ms H0 n0 Q (r :: l):=fm_pG jz h k
end Go.Proofs.YtnhmbonmlfeifaaGreat
end
section
namespace Go.Proofs.YtnhmbonmlfeifaaGreat
open Go Go.Sy Go.Sl Go.RowKit
section
variable {H:au}{i nx:Nat}{l:List (Int×Int)}{pf:Nat→List UInt8}
theorem BZ{s:SV}{v:gf}(hv:VerIs H s v)(hm:iT v=true):Fnc Tryz.prog 46 [s] H nx (fun q=>q=(.slu nx 0 (aO v).length,H.set nx (dat false (aO v).length 1 5 (byV (aO v))),nx+1)):=Fnc.next (wt hv hm)
theorem xt(v:gf)(x:Nat):aO (v.1,v.2.1,v.2.2.1,x)=bf (aO v) 8 (beB x 8):=by
 have h8:=bq v.2.2.1 8
 have hx:=bq x 8
 have hy:=bq v.2.2.2 8
 unfold aO bf
 dsimp only
 rw [List.take_left' h8,hx,←List.drop_drop,List.drop_left' h8,List.drop_left' hy,JR]
theorem uz{hb x:Nat}{n k:Int}{hm:List UInt8}(hH:H.at' hb=some (hpO hm))(hl:hm.length=98304):Fnc Tryz.prog 23 [.ptr hb 0,yc (n,k),.sc (.int .u64 (x:Int))] H nx
 (fun q=>q.1 = .sc (.int .i64 ((kJ (dfH hm) n k x).1:Int))∧q.2.1.at' hb=some (hpO (G7 hm (kJ (dfH hm) n k x).2))∧nx≤q.2.2∧ ∀ m,m<nx→m≠hb→q.2.1.at' m=H.at' m):=by
 refine Ka Tryz.func23 rfl rfl ?_
 refine aX fun hund=>?_
 have lH:=hund _ _ hH
 repeat first|apply ai;rfl|apply aG;rfl;(focus((repeat(exact ae));done));rfl
 refine cW (R:=fun H1 n1=>n1=nx+1∧H1.at' nx=some (eE n k)∧H1.at' hb=some (hpO hm)∧ ∀ m,m<nx→H1.at' m=H.at' m) ⟨rfl,by repeat(exact ae),by(repeat(refine ab (by omega) ?_));exact hH,fun m hm=>by(repeat(refine ab (by omega) ?_));rfl⟩ ?_
 rintro H1 n1 ⟨rfl,a1,a4,a3⟩
 by_cases hbad:4000<x∨mD n k=false
 ·have hM:kJ (dfH hm) n k x=(2,none):=by unfold kJ;rw [JH hbad]
  rw [hM]
  have hb2:n<32∨127<n∨k<0∨4000<x:=by
   rcases hbad with h|h
   ·exact .inr (.inr (.inr h))
   ·have:=of_decide_eq_false h
    omega
  clear hbad hM
  by_cases h1:n<32
  ·clear hb2
   repeat first|apply px;rfl;omega|apply ai;rfl
   (apply bP Tryz.func23 Tryz.results23;rfl)
   exact⟨rfl,a4,JE _,fun m hm _=>a3 m hm⟩
  ·by_cases h2:127<n
   ·clear hb2
    repeat first|apply px;rfl;omega|apply lx;rfl;omega|apply ai;rfl|apply aG;rfl;assumption;rfl
    (apply bP Tryz.func23 Tryz.results23;rfl)
    exact⟨rfl,a4,JE _,fun m hm _=>a3 m hm⟩
   ·by_cases h3:k<0
    ·clear hb2
     repeat first|apply px;rfl;omega|apply lx;rfl;omega|apply ai;rfl|apply aG;rfl;assumption;rfl
     (apply bP Tryz.func23 Tryz.results23;rfl)
     exact⟨rfl,a4,JE _,fun m hm _=>a3 m hm⟩
    ·have h4:4000<x:=by omega
     clear hb2
     repeat first|apply px;rfl;omega|apply lx;rfl;omega|apply ai;rfl|apply aG;rfl;assumption;rfl
     (apply bP Tryz.func23 Tryz.results23;rfl)
     exact⟨rfl,a4,JE _,fun m hm _=>a3 m hm⟩
 ·have hx:x≤4000:=by omega
  have hmay:mD n k=true:=by cases h:mD n k with|true=>rfl|false=>exact absurd (.inr h) hbad
  have hmd:32≤n∧n<128∧0≤k:=JS hmay
  obtain⟨N,rfl⟩: ∃ N:Nat,n=((32+N:Nat):Int):=⟨(n-32).toNat,by omega⟩
  obtain⟨K,rfl⟩: ∃ K:Nat,k=(K:Int):=⟨k.toNat,by omega⟩
  have hN:N<96:=by omega
  have hdf:dfH hm (32+N)=bareP (az hm N):=by unfold dfH;rw [show 32+N-32=N by omega]
  have hM:kJ (dfH hm) ((32+N:Nat):Int) (K:Int) x=if(o9 (dfH hm) (32+N) (jV K x)).2≠0 then((o9 (dfH hm) (32+N) (jV K x)).2,none) else(0,some (32+N,(o9 (dfH hm) (32+N) (jV K x)).1)):=by
   unfold kJ
   rw [JG hbad,JY,JY]
  have hch:o9 (dfH hm) (32+N) (jV K x)=if(aU (bareP (az hm N))).2≠0 then(zeroP,13) else jV K x (aU (bareP (az hm N))).1:=by unfold o9;rw [hdf]
  rw [hM]
  clear hM hdf
  have hg:pz (dfH hm) ((32+N:Nat):Int) (K:Int)=if(aU (bareP (az hm N))).2≠0 then(iV,(aU (bareP (az hm N))).2) else if(cn (aU (bareP (az hm N))).1 K).2.2≠0 then(iV,6) else
   ((ofV (aV (aU (bareP (az hm N))).1 K)).getD iV,Bs (ofV (aV (aU (bareP (az hm N))).1 K))):=by
   have hdf:dfH hm (32+N)=bareP (az hm N):=by unfold dfH;rw [show 32+N-32=N by omega]
   unfold pz
   rw [JG (by rw [hmay];decide),JY,JY,hdf]
  have hpl:=gD hl hN
  have hrs:=fun(H:au) nx (h:H.at' hb=some (hpO hm))=>lW (nx:=nx) h hl hN
  have hno:=lV (p:=bareP (az hm N))
  clear hbad
  repeat first|apply lx;rfl;omega|apply ai;rfl|apply aG;rfl;assumption;rfl
  refine aI rfl rfl rfl (by kernel_rfl) (J9 (uv (n:=((32+N:Nat):Int)) (k:=(K:Int)) a4 hl) ?_)
  rintro⟨_,H2,n2⟩ ⟨s',r,rfl,b1,b2,b3,b4⟩
  dsimp only at b1 b2 b3 b4 ⊢
  refine aX fun hund2=>?_
  have c1:H2.at' nx=some (eE ((32+N:Nat):Int) (K:Int)):=(b4 _ (by omega)).trans a1
  have c2:H2.at' hb=some (hpO hm):=(b4 _ (by omega)).trans a4
  have co: ∀ m,m<nx→H2.at' m=H.at' m:=fun m hm=>(b4 _ (by omega)).trans (a3 m hm)
  clear b4 a1 a4 a3
  obtain⟨vk,vw,rfl,hk1,hw1⟩:=b1
  have hone: ∀ x y:Nat,bp (eF vk vw x y)=true:=fun x y=>by simp only [bp,cX hk1.bs,cX hw1.bs];rfl
  rw [hg] at hk1 hw1 ⊢
  clear hg
  clear hmay hund
  by_cases he:(aU (bareP (az hm N))).2=0
  ·rw [JG (fun h=>h he)] at hch hk1 hw1 ⊢
   rw [nO he] at hrs
   obtain⟨hpp,hr,hof⟩:=cN (p:=bareP (az hm N)) (q:=(aU (bareP (az hm N))).1) (Prod.ext rfl he) (dT hpl)
   generalize (aU (bareP (az hm N))).1=p at hrs hpp hr hof hch hk1 hw1 ⊢
   dsimp only [Bg] at hrs
   by_cases hK:ac p≤K∨ak p K=0
   ·have hfd:cn p K=(0,0,6):=by unfold cn;split;rfl;rw [JH (by omega)]
    rw [hfd,JH (by decide)]
    have hch2:o9 (dfH hm) (32+N) (jV K x)=(zeroP,6):=by rw [hch];unfold jV;rw [hfd,JH (by decide)]
    rw [hch2,JH (by decide)]
    dsimp only
    repeat first|apply ai;rfl|refine dW rfl rfl rfl (F.sz _ rfl) (by repeat(first|assumption|exact ae)) rfl (by exact Jh rfl) (hone _ _) rfl ?_|apply iv;rfl;omega
    (apply bP Tryz.func23 Tryz.results23;rfl)
    exact⟨rfl,by repeat(first|assumption|refine ab (by omega) ?_),by dsimp only;omega,fun m hm _=>by(repeat(refine ab (by omega) ?_));exact co m hm⟩
   ·have hs:ak p K≠0:=fun h=>hK (.inr h)
    have hn:K<ac p:=by omega
    have hfd:cn p K=(ay p K,ak p K,0):=by unfold cn;rw [JG (by omega),JG hs]
    have hbs:=cQ hr hn hs
    have hil:=dv hpp hbs.2.2.2
    have hos:=hof K hn hs
    obtain⟨v,hv⟩: ∃ v,ofV (aV p K)=some v:=by cases h:ofV (aV p K)with|some v=>exact⟨v,rfl⟩|none=>rw [h] at hos;cases hos
    have hiv:=CF hv
    rw [hfd,JG (fun h=>h rfl),hv] at hk1 hw1 ⊢
    have hmv:iT v=true:=zk hv
    have hmv2:iT (v.1,v.2.1,v.2.2.1,x)=true:=by
     have:=JS hmv
     exact JZ ⟨this.1,this.2.1,this.2.2.1,hx⟩
    have hbl:=er (v.1,v.2.1,v.2.2.1,x)
    have hbe:=xt v x
    have h8:=bq x 8
    have hbv:=er v
    have hlen:(aO (v.1,v.2.1,v.2.2.1,x)).length=ak p K:=by rw [← hil,hiv,hbl,hbv]
    have hch2:o9 (dfH hm) (32+N) (jV K x)=(bf p (ay p K) (aO (v.1,v.2.1,v.2.2.1,x)),0):=by rw [hch,hbe,←hiv];unfold jV;rw [hfd,JG (fun h=>h rfl)]
    rw [hch2,JG (fun h=>h rfl)]
    dsimp only [G7,Option.getD,Bs] at hk1 hw1 ⊢
    rw [show 32+N-32=N by omega]
    clear hch hch2 hbe hiv hv hos hof hfd
    repeat first|apply ai;rfl|apply aG;rfl;(focus((repeat(first|assumption|exact ae|refine ab (by omega) ?_));done));rfl|apply aL;rfl;omega;omega|refine dW rfl rfl rfl (F.sz _ rfl) (by repeat(first|assumption|exact ae)) rfl (by exact Jh rfl) (hone _ _) rfl ?_|apply dM;rfl;(rfl)
    rw [show((32+N:Nat):Int)-32=(N:Int) by omega]
    have hrs2:=fun(H:au) nx (h:H.at' hb=some (hpO hm))=>hrs H nx h
    repeat first|apply bA hpp ah;rfl;(focus((repeat(exact ae));done))|refine a9 rfl rfl ci ?_|apply ai;rfl|apply bY;rfl;kernel_rfl;exact hrs _ _ (by repeat(first|assumption|refine ab (by omega) ?_))
    have hvk:v.1≠ []:=fun h=>by
     have:=JS hmv
     rw [h] at this
     exact absurd this.1.1 (by decide)
    have hrn:r<n2:=by
     obtain⟨vo,h⟩:=hk1.there hvk
     exact hund2 _ _ h
    refine cW (R:=fun H4 n4=>n4=n2+1+1∧H4.at' n2=some (fw (eF vk vw v.2.2.1 x))∧H4.at' (n2+1)=some (pgO p)∧H4.at' nx=some (eE ((32+N:Nat):Int) (K:Int))∧H4.at' hb=some (hpO hm)∧BlkS H4 vk r v.1∧BlkS H4 vw r v.2.1∧ ∀ m,m<nx→H4.at' m=H.at' m)
     ⟨by omega,by repeat(first|exact ae|refine ab (by omega) ?_),by repeat(exact ae),by repeat(first|assumption|refine ab (by omega) ?_),by repeat(first|assumption|refine ab (by omega) ?_),hk1.frame (by(repeat(refine ab (by omega) ?_));rfl),hw1.frame (by(repeat(refine ab (by omega) ?_));rfl),fun m hm=>by(repeat(refine ab (by omega) ?_));exact co m hm⟩ ?_
    rintro H4 n4 ⟨rfl,d1,d2,d3,d4,d5,d6,d7⟩
    clear c1 c2 co hk1 hw1 hrs hrs2 hno hmd hund2 hbl hbv h8 hvk
    have hby: ∀ (H5:au) n5,H5.at' r=H4.at' r→Fnc Tryz.prog 46 [oh vk vw v.2.2.1 x] H5 n5 (fun q=>q=(.slu n5 0 (aO (v.1,v.2.1,v.2.2.1,x)).length,H5.set n5 (dat false (aO (v.1,v.2.1,v.2.2.1,x)).length 1 5 (byV (aO (v.1,v.2.1,v.2.2.1,x)))),n5+1)):=fun H5 n5 h=>
     BZ (v:=(v.1,v.2.1,v.2.2.1,x)) (BlkS.Da (v:=(v.1,v.2.1,v.2.2.1,x)) (d5.frame h) (d6.frame h)) hmv2
    have hxl:(bf p (ay p K) (aO (v.1,v.2.1,v.2.2.1,x))).length=1024:=(bN (by omega)).trans hpp
    have hset: ∀ (rb:Nat) (H5:au) n5,H5.at' rb=some (dat false (aO (v.1,v.2.1,v.2.2.1,x)).length 1 5 (byV (aO (v.1,v.2.1,v.2.2.1,x))))→Fnc Tryz.prog 61 [.agg (pgS p),.sc (.int .i64 (K:Int)),.slu rb 0 (aO (v.1,v.2.1,v.2.2.1,x)).length] H5 n5 (fun q=>q=(pgE (bf p (ay p K) (aO (v.1,v.2.1,v.2.2.1,x)),0),H5,n5)):=fun rb H5 n5 h=>
     DB hpp hr hn hs (by rw [rS];exact h) hlen
    generalize aO (v.1,v.2.1,v.2.2.1,x)=it at hby hset hlen hxl ⊢
    generalize bf p (ay p K) it=y at hset hxl ⊢
    (apply uP;(focus(kernel_rfl));(focus(kernel_rfl)))
    refine dR 5 (Jh rfl) ?_
    repeat first|refine b8 rfl rfl rfl (F.ag _ rfl) d2 (be hpp) ?_|apply bT;rfl;rfl;rfl;(focus(kernel_rfl));exact(hby _ _ rfl)|apply dw;rfl;assumption;rfl|apply aS;rfl
    refine aA ?_;refine dS rfl rfl rfl (by kernel_rfl) (hset _ _ _ (by repeat(exact ae))) ?_
    refine iL ?_
    repeat first|refine oZ (ef ci) rfl rfl rfl ?_|refine bX rfl rfl rfl (F.sz _ rfl) (by repeat(exact ae)) (be hxl) (by rw [be ah];exact Jv _) (iE _) (lc _ _ ah hxl) ?_|apply aS;rfl
    refine aA ?_
    refine⟨[⟨4,fun n=> .slu n 0 it.length,dat false it.length 1 5 (byV it)⟩,⟨9,fun n=> .ptr n 0,pgO zeroP⟩],[10],by kernel_rfl,by kernel_rfl,List.cons_ne_nil _ _,rfl,
     ⟨⟨⟨_,rfl,rfl,fun H5 n5 _ h2=>oX rfl (by kernel_rfl) (hby _ _ (h2 _ (by omega)))⟩,fun _ _=>rfl,fun ρ=>lB _ _ _ _ _ _⟩,⟨⟨_,rfl,rfl,fun H5 n5 _ _=>ry (fun _ h=>(by cases h)) (ef ci)⟩,fun _ _=>rfl,fun ρ=>tZ⟩,trivial⟩,?_,?_⟩
    ·repeat first|exact Kk|apply fm_c;rfl|apply fm_p;rfl|refine HE (fun H5 n5 g1 g2=> .inl (ba (F.ag _ rfl) rfl ((g1 _ (by omega)).trans d2) (bk hpp))) ⟨.inl (ba (F.ag _ rfl) rfl (by(repeat(refine ab (by omega) ?_));exact d2) (bk hpp)),trivial⟩ ?_|refine HE (fun H5 n5 g1 g2=> .inl (ba (F.ag _ rfl) rfl ((g1 _ (by omega)).trans d1) (aq _ 0 rfl rfl))) ⟨.inl (ba (F.ag _ rfl) rfl (by(repeat(refine ab (by omega) ?_));exact d1) (aq _ 0 rfl rfl)),trivial⟩ ?_|refine HE (fun H5 n5 g1 g2=> .inl (am (F.ag _ rfl) rfl ((g1 _ (by omega)).trans d3) (aB rfl))) ⟨.inl (am (F.ag _ rfl) rfl (by(repeat(refine ab (by omega) ?_));exact d3) (aB rfl)),trivial⟩ ?_|refine HE (fun H5 n5 g1 g2=> .inr ⟨Free.two (Free.agg (byV y)) (Free.sc _),oX rfl (by kernel_rfl) (hset _ _ _ (g2.1 (by kernel_rfl)))⟩) ⟨.inr ⟨Free.two (Free.agg (byV y)) (Free.sc _),oX rfl (by kernel_rfl) (hset _ _ _ (by repeat(first|exact ae|refine ab (by omega) ?_)))⟩,trivial⟩ ?_
    dsimp only
    refine cW (R:=fun H5 n5=>n2+1+1+1<n5∧H5.at' (n2+1+1+1)=some (pgO y)∧H5.at' nx=some (eE ((32+N:Nat):Int) (K:Int))∧H5.at' hb=some (hpO hm)∧ ∀ m,m<nx→H5.at' m=H.at' m) ⟨by omega,by repeat(exact ae),by repeat(first|assumption|refine ab (by omega) ?_),by repeat(first|assumption|refine ab (by omega) ?_),fun m hm=>by(repeat(refine ab (by omega) ?_));exact d7 m hm⟩ ?_
    rintro H5 n5 ⟨e0,e1,e2,e3,e4⟩
    repeat apply ai;rfl
    (apply bh;(focus(kernel_rfl));(focus(kernel_rfl)))
    repeat first|refine b8 rfl rfl rfl (F.ag _ rfl) e1 (be hxl) ?_|apply dw;rfl;assumption;rfl|apply aS;rfl|refine bj (aw rfl rfl (.inr (.inl ⟨rfl,(Jd _ ⟨(by focus(omega)),(by focus(omega))⟩).symm⟩))) rfl rfl rfl ?_
    rw [show((32+N:Nat):Int)-32=(N:Int) by omega]
    repeat first|refine bX rfl rfl rfl (F.sz _ rfl) e3 (be hxl) (by rw [JL,JL,hl];omega) (iE _) (vX hl hN hxl) ?_|apply jX (q:=N);rfl;rfl;rfl;rfl;exact(F.un _ rfl);exact(F.sz _ rfl);(focus(omega));(focus(omega))
    refine aA ⟨by kernel_rfl,?_,?_⟩;(focus(repeat(first|exact Kk|apply jU;rfl|apply gi;rfl;kernel_rfl|refine fX 0 rfl (by kernel_rfl) (by(repeat(refine⟨(by first|exact am (F.ag _ rfl) rfl (by repeat(first|assumption|refine ab (by omega) ?_)) (aB rfl)|exact ba (F.ag _ rfl) rfl (by(repeat(refine ab (by omega) ?_));exact e1) (bk hxl)|exact ig (q:=N) rfl rfl (F.un _ rfl) (F.sz _ rfl) (by omega) (by omega)),?_⟩));exact Kk) ?_|apply lJ;kernel_rfl)))
    repeat apply ai;rfl
    (apply bP Tryz.func23 Tryz.results23;rfl)
    exact⟨rfl,by repeat(exact ae),by dsimp only;omega,fun m h1 h2=>by(repeat(refine ab (by omega) ?_));exact e4 m h1⟩
  ·rw [JH he] at hch ⊢
   have h13:(aU (bareP (az hm N))).2=13:=by
    rcases hno with h|h
    ·exact absurd h he
    ·rw [h]
   rw [h13]
   rw [hch,JH (by decide)]
   dsimp only
   repeat first|apply ai;rfl|refine dW rfl rfl rfl (F.sz _ rfl) (by repeat(first|assumption|exact ae)) rfl (by exact Jh rfl) (hone _ _) rfl ?_|apply iv;rfl;decide
   (apply bP Tryz.func23 Tryz.results23;rfl)
   exact⟨rfl,by repeat(first|assumption|refine ab (by omega) ?_),by dsimp only;omega,fun m hm _=>by(repeat(refine ab (by omega) ?_));exact co m hm⟩
theorem oV{mem:List UInt8}(hv:Hv mem)(n k:Int)(x:Nat):((kJ (az mem) n k x).1≠0∧(kJ (az mem) n k x).2=none)∨((kJ (az mem) n k x).1=0∧ ∃ n' y,(kJ (az mem) n k x).2=some (n',y)∧32≤n'∧n'<128∧GoodP y):=by
 have hg:=fun n' y=>BN (n:=n) (k:=k) (x:=x) (m:=n') (y:=y) hv
 generalize hI:kJ (az mem) n k x=I at hg
 unfold kJ at hI
 by_cases h1:4000<x∨mD n k=false
 ·rw [JH h1] at hI
  subst hI
  exact .inl ⟨by decide,rfl⟩
 ·rw [JG h1] at hI
  by_cases h2:(o9 (az mem) n.toNat (jV k.toNat x)).2≠0
  ·rw [JH h2] at hI
   subst hI
   exact .inl ⟨h2,rfl⟩
  ·rw [JG h2] at hI
   subst hI
   exact .inr ⟨rfl,_,_,rfl,hg _ _ rfl⟩
theorem yG(a:Int){L:Nat}(h:0<L) : -(L:Int)<a.tmod L∧a.tmod L<L:=⟨Int.lt_tmod_of_pos a (by omega),Int.tmod_lt_of_pos a (by omega)⟩
theorem CC(a:Int){L:Nat}(h:0<L)(h0:0≤a): ∃ j:Nat,j<L∧a.tmod L=(j:Int):=by
 have h1:=Int.tmod_nonneg (L:Int) h0
 have h2:=(yG a h).2
 exact⟨(a.tmod L).toNat,by omega,by omega⟩
theorem do2_s{b h:Nat}{mem:List UInt8}{left puts:Int}{x:nZ}(hb:H.at' b=some (cT mem left puts))(hh:H.at' h=some (hpO (dD mem)))(hne:b≠h)(hv:Hv mem)(hx:AC H nx b h x)(hk:x.1.kind=2)(hl : -1000000≤left∧left<0)(hp:0≤puts∧puts≤1000000):Fnc Tryz.prog 9 [.ptr b 0,.ptr h 0,.agg (rJ x)] H nx (qk H nx b h mem left puts):=by
 have hx0:=hx H fun _ _ _ _=>rfl
 have hone:bp (rJ x)=true:=by simp only [bp,cX hx0.1,cX hx0.2];rfl
 refine Ka Tryz.func9 rfl rfl ?_
 refine aX fun hund=>?_
 have lb:=hund _ _ hb
 have lh:=hund _ _ hh
 obtain⟨rows,hal,hrl,hrn⟩:=kn hv
 have hdoc:Aw (dfH (dD mem))=some rows:=(my fun n a b=>fx hv a b).trans hal
 repeat apply ai;rfl
 refine aI rfl rfl rfl (by kernel_rfl) (J9 (pk (hm:=dD mem) (by repeat(first|assumption|refine ab (by omega) ?_)) (dG hv.len)) ?_)
 rintro⟨_,H1,n1⟩ ⟨u1,u2,⟨u3,_⟩|⟨rows',s,rr,u3,rfl,u4⟩⟩
 ·rw [hdoc] at u3
  cases u3
 rw [hdoc] at u3
 cases u3
 dsimp only at u1 u2 u4 ⊢
 have c1:H1.at' nx=some (tE x):=(u2 nx (by omega)).trans (by repeat(exact ae))
 have cb:H1.at' b=some (cT mem left puts):=(u2 b (by omega)).trans (by repeat(first|assumption|refine ab (by omega) ?_))
 have ch:H1.at' h=some (hpO (dD mem)):=(u2 h (by omega)).trans (by repeat(first|assumption|refine ab (by omega) ?_))
 have co: ∀ m,m<nx→H1.at' m=H.at' m:=fun m hm=>(u2 m (by omega)).trans (by(repeat(refine ab (by omega) ?_));rfl)
 repeat first|refine cV rfl rfl rfl (F.ag _ rfl) cb (dl hv.len _ _) ?_|apply ai;rfl|apply aG;rfl;assumption;rfl
 repeat first|apply ai;rfl|apply iv;rfl;omega
 refine cF rfl rfl rfl rfl (fun _=>?_) (fun e=>absurd hk (by omega))
 rcases u4 with ⟨rfl,rfl⟩|⟨ws,L,hL0,rfl,hrw,hrL,_,hC⟩
 ·repeat first|refine eU rfl rfl rfl (F.ag _ rfl) (by(repeat(refine ab (by omega) ?_));exact c1) (iQ x) ?_|refine cd (oz (F.un _ rfl) rfl) rfl rfl rfl ?_|apply lx;rfl;decide|apply ai;rfl|apply aG;rfl;(focus((repeat(first|assumption|exact ae|refine ab (by omega) ?_));done));rfl
  refine cW (R:=fun HB nB=>nB=n1+1∧HB.at' n1=some (eE x.1.tid.1 x.1.tid.2)∧ ∀ m,m<n1→HB.at' m=H1.at' m) ⟨rfl,by repeat(exact ae),fun m hm=>by(repeat(refine ab (by omega) ?_));rfl⟩ ?_
  rintro HB nB ⟨rfl,kT,kF⟩
  have kA:HB.at' nx=some (tE x):=(kF nx (by omega)).trans c1
  have kb:HB.at' b=some (cT mem left puts):=(kF b (by omega)).trans cb
  have kh:HB.at' h=some (hpO (dD mem)):=(kF h (by omega)).trans ch
  have ko: ∀ m,m<nx→HB.at' m=H.at' m:=fun m hm=>(kF m (by omega)).trans (co m hm)
  refine aI rfl rfl rfl (by kernel_rfl) (J9 (Ev (b:=b) (n:=x.1.tid.1) (k:=x.1.tid.2) (x:=x.1.xid) (mem:=mem) (left:=left) (puts:=puts) kb hv.len (by omega) (by omega) (by omega)) ?_)
  rintro⟨_,H2,n2⟩ ⟨rfl,d2,d3,d4⟩
  dsimp only at d2 d3 d4 ⊢
  have e0:H2.at' n1=some (eE x.1.tid.1 x.1.tid.2):=(d4 _ (by omega) (by omega)).trans kT
  have e1:H2.at' nx=some (tE x):=(d4 _ (by omega) (by omega)).trans kA
  have e2:H2.at' h=some (hpO (dD mem)):=(d4 _ (by omega) (Ne.symm hne)).trans kh
  have e3: ∀ m,m<nx→m≠b→H2.at' m=H.at' m:=fun m hm hmb=>(d4 _ (by omega) hmb).trans (ko m hm)
  have hc:=oV hv x.1.tid.1 x.1.tid.2 x.1.xid
  have hdI:kJ (dfH (dD mem)) x.1.tid.1 x.1.tid.2 x.1.xid=kJ (az mem) x.1.tid.1 x.1.tid.2 x.1.xid:=rx (fun n a b=>fx hv a b) _ _ _
  generalize kJ (az mem) x.1.tid.1 x.1.tid.2 x.1.xid=I at hc hdI d2 ⊢
  repeat first|apply ai;rfl|apply aG;rfl;assumption;rfl
  refine aI rfl rfl rfl (by kernel_rfl) (J9 (uz (hb:=h) (n:=x.1.tid.1) (k:=x.1.tid.2) (x:=x.1.xid) (hm:=dD mem) (by exact e2) (dG hv.len)) ?_)
  rintro⟨_,H3,n3⟩ ⟨rfl,f2,f3,f4⟩
  dsimp only at f2 f3 f4 ⊢
  rw [hdI] at f2 ⊢
  have g2:H3.at' b=some (putO mem left puts I.2):=(f4 _ (by omega) hne).trans (by exact d2)
  have g3: ∀ m,m<nx→m≠b→m≠h→H3.at' m=H.at' m:=fun m hm hmb hmh=>(f4 _ (by omega) hmh).trans (by exact e3 m hm hmb)
  clear d4 f4
  rcases hc with ⟨hc1,hc2⟩|⟨hc1,n,y,hc2,hc3,hc4,hc5⟩
  ·rw [hc2] at f2 g2
   have g2':H3.at' b=some (cT mem left puts):=g2
   have f2':H3.at' h=some (hpO (dD mem)):=f2
   repeat first|apply dM;rfl;rfl|apply iv;rfl;omega|apply ai;rfl
   (apply bP Tryz.func9 Tryz.results9;rfl)
   exact⟨rfl,mem,left,puts,by exact g2',by exact f2',hv,⟨by omega,by omega⟩,⟨by omega,by omega⟩,by first|omega|(dsimp only;omega),fun m hm hmb hmh=>by exact g3 m hm hmb hmh,iW _⟩
  ·rw [hc2] at f2 g2
   have g2':H3.at' b=some (cT (f8 mem n y) (left-1) (puts+1)):=g2
   have f2':H3.at' h=some (hpO (f8 (dD mem) (n-32) y)):=f2
   rw [← ml hv.len hc3 hc4 hc5.len] at f2'
   have hv2:=hv.set hc3 hc4 hc5
   repeat first|refine cV rfl rfl rfl (F.ag _ rfl) (by exact g2') (dl hv2.len _ _) ?_|apply dM;rfl;rfl|apply dM;rfl;omega|apply ai;rfl|apply aL;rfl;omega;omega
   (apply bP Tryz.func9 Tryz.results9;rfl)
   exact⟨rfl,f8 mem n y,left-1,puts+1,by exact g2',by exact f2',hv2,⟨by omega,by omega⟩,⟨by omega,by omega⟩,by first|omega|(dsimp only;omega),fun m hm hmb hmh=>by exact g3 m hm hmb hmh,qt hv.len hc4 hc5.len⟩
 ·repeat first|refine eU rfl rfl rfl (F.ag _ rfl) (by(repeat(refine ab (by omega) ?_));exact c1) (iQ x) ?_|apply px;rfl;omega|apply ai;rfl|apply cx;rfl|apply aG;rfl;(focus((repeat(first|assumption|exact ae|refine ab (by omega) ?_));done));rfl
  cases hod:x.1.odd with
  | true=>
    repeat first|apply ai;rfl|apply aG;rfl;(focus((repeat(first|assumption|exact ae|refine ab (by omega) ?_));done));rfl
    refine cW (R:=fun HB nB=>nB=n1+1∧HB.at' n1=some (eE x.1.tid.1 x.1.tid.2)∧ ∀ m,m<n1→HB.at' m=H1.at' m) ⟨rfl,by repeat(exact ae),fun m hm=>by(repeat(refine ab (by omega) ?_));rfl⟩ ?_
    rintro HB nB ⟨rfl,kT,kF⟩
    have kA:HB.at' nx=some (tE x):=(kF nx (by omega)).trans c1
    have kb:HB.at' b=some (cT mem left puts):=(kF b (by omega)).trans cb
    have kh:HB.at' h=some (hpO (dD mem)):=(kF h (by omega)).trans ch
    have ko: ∀ m,m<nx→HB.at' m=H.at' m:=fun m hm=>(kF m (by omega)).trans (co m hm)
    refine aI rfl rfl rfl (by kernel_rfl) (J9 (Ev (b:=b) (n:=x.1.tid.1) (k:=x.1.tid.2) (x:=x.1.xid) (mem:=mem) (left:=left) (puts:=puts) kb hv.len (by omega) (by omega) (by omega)) ?_)
    rintro⟨_,H2,n2⟩ ⟨rfl,d2,d3,d4⟩
    dsimp only at d2 d3 d4 ⊢
    have e0:H2.at' n1=some (eE x.1.tid.1 x.1.tid.2):=(d4 _ (by omega) (by omega)).trans kT
    have e1:H2.at' nx=some (tE x):=(d4 _ (by omega) (by omega)).trans kA
    have e2:H2.at' h=some (hpO (dD mem)):=(d4 _ (by omega) (Ne.symm hne)).trans kh
    have e3: ∀ m,m<nx→m≠b→H2.at' m=H.at' m:=fun m hm hmb=>(d4 _ (by omega) hmb).trans (ko m hm)
    have hc:=oV hv x.1.tid.1 x.1.tid.2 x.1.xid
    have hdI:kJ (dfH (dD mem)) x.1.tid.1 x.1.tid.2 x.1.xid=kJ (az mem) x.1.tid.1 x.1.tid.2 x.1.xid:=rx (fun n a b=>fx hv a b) _ _ _
    generalize kJ (az mem) x.1.tid.1 x.1.tid.2 x.1.xid=I at hc hdI d2 ⊢
    repeat first|apply ai;rfl|apply aG;rfl;assumption;rfl
    refine aI rfl rfl rfl (by kernel_rfl) (J9 (uz (hb:=h) (n:=x.1.tid.1) (k:=x.1.tid.2) (x:=x.1.xid) (hm:=dD mem) (by exact e2) (dG hv.len)) ?_)
    rintro⟨_,H3,n3⟩ ⟨rfl,f2,f3,f4⟩
    dsimp only at f2 f3 f4 ⊢
    rw [hdI] at f2 ⊢
    have g2:H3.at' b=some (putO mem left puts I.2):=(f4 _ (by omega) hne).trans (by exact d2)
    have g3: ∀ m,m<nx→m≠b→m≠h→H3.at' m=H.at' m:=fun m hm hmb hmh=>(f4 _ (by omega) hmh).trans (by exact e3 m hm hmb)
    clear d4 f4
    rcases hc with ⟨hc1,hc2⟩|⟨hc1,n,y,hc2,hc3,hc4,hc5⟩
    ·rw [hc2] at f2 g2
     have g2':H3.at' b=some (cT mem left puts):=g2
     have f2':H3.at' h=some (hpO (dD mem)):=f2
     repeat first|apply dM;rfl;rfl|apply iv;rfl;omega|apply ai;rfl
     (apply bP Tryz.func9 Tryz.results9;rfl)
     exact⟨rfl,mem,left,puts,by exact g2',by exact f2',hv,⟨by omega,by omega⟩,⟨by omega,by omega⟩,by first|omega|(dsimp only;omega),fun m hm hmb hmh=>by exact g3 m hm hmb hmh,iW _⟩
    ·rw [hc2] at f2 g2
     have g2':H3.at' b=some (cT (f8 mem n y) (left-1) (puts+1)):=g2
     have f2':H3.at' h=some (hpO (f8 (dD mem) (n-32) y)):=f2
     rw [← ml hv.len hc3 hc4 hc5.len] at f2'
     have hv2:=hv.set hc3 hc4 hc5
     repeat first|refine cV rfl rfl rfl (F.ag _ rfl) (by exact g2') (dl hv2.len _ _) ?_|apply dM;rfl;rfl|apply dM;rfl;omega|apply ai;rfl|apply aL;rfl;omega;omega
     (apply bP Tryz.func9 Tryz.results9;rfl)
     exact⟨rfl,f8 mem n y,left-1,puts+1,by exact g2',by exact f2',hv2,⟨by omega,by omega⟩,⟨by omega,by omega⟩,by first|omega|(dsimp only;omega),fun m hm hmb hmh=>by exact g3 m hm hmb hmh,qt hv.len hc4 hc5.len⟩
  | false=>
    repeat first|apply ai;rfl|apply aG;rfl;(focus((repeat(first|assumption|refine ab (by omega) ?_));done));rfl
    have hr0:=yG x.1.place hL0
    generalize hr1:x.1.place.tmod (rows.length:Int)=p1 at hr0
    obtain⟨j,hj,hr2⟩:=CC (p1+(rows.length:Int)) hL0 (by omega)
    obtain⟨a1,a2,ra,_,x1,x2,x3,x4⟩:=hC.cells hj
    refine rQ (c:=p1) rfl rfl rfl rfl (by omega) hr1 ?_
    repeat first|apply ai;rfl|apply aL;rfl;omega;omega
    refine rQ (c:=(j:Int)) rfl rfl rfl rfl (by omega) hr2 ?_
    repeat first|refine dq (q:=j) rfl rfl rfl rfl (F.un _ rfl) (F.sz _ rfl) (by(repeat(refine ab (by omega) ?_));exact hrw) (by omega) (by omega) (Jv _) ?_|refine eU rfl rfl rfl (F.ag _ rfl) (by(repeat(refine ab (by omega) ?_));exact hrw) x3 ?_|apply ai;rfl|apply aG;rfl;(focus((repeat(first|assumption|exact ae|refine ab (by omega) ?_));done));rfl
    refine cW (R:=fun HB nB=>nB=n1+1∧HB.at' n1=some (eE ((rows[j]).1.1:Int) ((rows[j]).1.2:Int))∧ ∀ m,m<n1→HB.at' m=H1.at' m) ⟨rfl,by repeat(exact ae),fun m hm=>by(repeat(refine ab (by omega) ?_));rfl⟩ ?_
    rintro HB nB ⟨rfl,kT,kF⟩
    have kA:HB.at' nx=some (tE x):=(kF nx (by omega)).trans c1
    have kb:HB.at' b=some (cT mem left puts):=(kF b (by omega)).trans cb
    have kh:HB.at' h=some (hpO (dD mem)):=(kF h (by omega)).trans ch
    have ko: ∀ m,m<nx→HB.at' m=H.at' m:=fun m hm=>(kF m (by omega)).trans (co m hm)
    refine aI rfl rfl rfl (by kernel_rfl) (J9 (Ev (b:=b) (n:=((rows[j]).1.1:Int)) (k:=((rows[j]).1.2:Int)) (x:=x.1.xid) (mem:=mem) (left:=left) (puts:=puts) kb hv.len (by omega) (by omega) (by omega)) ?_)
    rintro⟨_,H2,n2⟩ ⟨rfl,d2,d3,d4⟩
    dsimp only at d2 d3 d4 ⊢
    have e0:H2.at' n1=some (eE ((rows[j]).1.1:Int) ((rows[j]).1.2:Int)):=(d4 _ (by omega) (by omega)).trans kT
    have e1:H2.at' nx=some (tE x):=(d4 _ (by omega) (by omega)).trans kA
    have e2:H2.at' h=some (hpO (dD mem)):=(d4 _ (by omega) (Ne.symm hne)).trans kh
    have e3: ∀ m,m<nx→m≠b→H2.at' m=H.at' m:=fun m hm hmb=>(d4 _ (by omega) hmb).trans (ko m hm)
    have hc:=oV hv ((rows[j]).1.1:Int) ((rows[j]).1.2:Int) x.1.xid
    have hdI:kJ (dfH (dD mem)) ((rows[j]).1.1:Int) ((rows[j]).1.2:Int) x.1.xid=kJ (az mem) ((rows[j]).1.1:Int) ((rows[j]).1.2:Int) x.1.xid:=rx (fun n a b=>fx hv a b) _ _ _
    generalize kJ (az mem) ((rows[j]).1.1:Int) ((rows[j]).1.2:Int) x.1.xid=I at hc hdI d2 ⊢
    repeat first|apply ai;rfl|apply aG;rfl;assumption;rfl
    refine aI rfl rfl rfl (by kernel_rfl) (J9 (uz (hb:=h) (n:=((rows[j]).1.1:Int)) (k:=((rows[j]).1.2:Int)) (x:=x.1.xid) (hm:=dD mem) (by exact e2) (dG hv.len)) ?_)
    rintro⟨_,H3,n3⟩ ⟨rfl,f2,f3,f4⟩
    dsimp only at f2 f3 f4 ⊢
    rw [hdI] at f2 ⊢
    have g2:H3.at' b=some (putO mem left puts I.2):=(f4 _ (by omega) hne).trans (by exact d2)
    have g3: ∀ m,m<nx→m≠b→m≠h→H3.at' m=H.at' m:=fun m hm hmb hmh=>(f4 _ (by omega) hmh).trans (by exact e3 m hm hmb)
    clear d4 f4
    rcases hc with ⟨hc1,hc2⟩|⟨hc1,n,y,hc2,hc3,hc4,hc5⟩
    ·rw [hc2] at f2 g2
     have g2':H3.at' b=some (cT mem left puts):=g2
     have f2':H3.at' h=some (hpO (dD mem)):=f2
     repeat first|apply dM;rfl;rfl|apply iv;rfl;omega|apply ai;rfl
     (apply bP Tryz.func9 Tryz.results9;rfl)
     exact⟨rfl,mem,left,puts,by exact g2',by exact f2',hv,⟨by omega,by omega⟩,⟨by omega,by omega⟩,by first|omega|(dsimp only;omega),fun m hm hmb hmh=>by exact g3 m hm hmb hmh,iW _⟩
    ·rw [hc2] at f2 g2
     have g2':H3.at' b=some (cT (f8 mem n y) (left-1) (puts+1)):=g2
     have f2':H3.at' h=some (hpO (f8 (dD mem) (n-32) y)):=f2
     rw [← ml hv.len hc3 hc4 hc5.len] at f2'
     have hv2:=hv.set hc3 hc4 hc5
     repeat first|refine cV rfl rfl rfl (F.ag _ rfl) (by exact g2') (dl hv2.len _ _) ?_|apply dM;rfl;rfl|apply dM;rfl;omega|apply ai;rfl|apply aL;rfl;omega;omega
     (apply bP Tryz.func9 Tryz.results9;rfl)
     exact⟨rfl,f8 mem n y,left-1,puts+1,by exact g2',by exact f2',hv2,⟨by omega,by omega⟩,⟨by omega,by omega⟩,by first|omega|(dsimp only;omega),fun m hm hmb hmh=>by exact g3 m hm hmb hmh,qt hv.len hc4 hc5.len⟩
abbrev OK1(l:List (Int×Int))(i:Nat):Prop:=(∀ t∈l.take i,mD t.1 t.2=true)∧(l.take i).Nodup
theorem wH(hi:i<l.length)(h:OK1 l i)(h1:mD (l[i]).1 (l[i]).2=true)(h2:l[i]∉l.take i):OK1 l (i+1):=by
 unfold OK1
 rw [fN hi]
 refine⟨fun t ht=>?_,?_⟩
 ·rcases List.mem_append.1 ht with h3|h3
  ·exact h.1 t h3
  ·rw [JM.1 h3];exact h1
 ·rw [List.nodup_append]
  exact⟨h.2,List.nodup_cons.2 ⟨fun h=>(by cases h),List.nodup_nil⟩,fun a ha b hb=>by rw [JM.1 hb];exact fun e=>h2 (e ▸ ha)⟩
theorem vG(hi:i<l.length)(h:mD (l[i]).1 (l[i]).2=false): ¬ tO l:=fun g=>by
 have:=g.1 _ (JF hi)
 rw [h] at this
 cases this
theorem vE{k:Nat}(hi:i<l.length)(hk:k<i)(h:l[k]=l[i]): ¬ tO l:=fun g=>by
 have:=List.pairwise_iff_getElem.1 g.2 k i (by omega) hi hk
 exact this h
abbrev tidB(t:Int×Int):VO:=eE t.1 t.2
def Wr(pf:Nat→List UInt8)(l:List (Int×Int))(i:Nat)(w a b:Int):Prop:=((∀ t∈l.take i,ll (aU (pf t.1.toNat)).1 t.2.toNat=true)∧w=0∧a=1000)∨((∃ t∈l.take i,ll (aU (pf t.1.toNat)).1 t.2.toNat=false)∧w=6)
theorem HV{w a b:Int}(h:Wr pf l i w a b)(hi:i<l.length)(h1:ll (aU (pf (l[i]).1.toNat)).1 (l[i]).2.toNat=true):Wr pf l (i+1) w a b:=by
 unfold Wr at h ⊢
 rw [fN hi]
 rcases h with ⟨h2,h3⟩|⟨⟨t,h2,h3⟩,h4⟩
 ·refine .inl ⟨fun t ht=>?_,h3⟩
  rcases List.mem_append.1 ht with h5|h5
  ·exact h2 t h5
  ·rw [JM.1 h5];exact h1
 ·exact .inr ⟨⟨t,List.mem_append_left _ h2,h3⟩,h4⟩
theorem B7(a b:Int)(hi:i<l.length)(h1:ll (aU (pf (l[i]).1.toNat)).1 (l[i]).2.toNat=false):Wr pf l (i+1) 6 a b:=by
 unfold Wr
 rw [fN hi]
 exact .inr ⟨⟨_,List.mem_append_right _ (JM.2 rfl),h1⟩,rfl⟩
theorem BI(hG: ∀ n,32≤n→n<128→GoodP (pf n)){t:Int×Int}(h:mD t.1 t.2=true):(pz pf t.1 t.2).2=if ll (aU (pf t.1.toNat)).1 t.2.toNat=true then 0 else 6:=by
 have hm:=JS h
 obtain⟨q,hq,hQ⟩:=(hG t.1.toNat (by omega) (by omega)).read
 unfold pz
 rw [JG (by rw [h];decide),hq,JG (fun h=>h rfl)]
 cases hh:ll q t.2.toNat with
 | true=>
   rw [rh hh,JG (fun h=>h rfl),JH rfl]
   have h2:=JS hh
   have:=hQ.items _ h2.1 h2.2
   dsimp only [Bs]
   rw [JH this]
 | false=>rw [oR hh,JH (by decide),JG (by decide)]
theorem nP{T:Tr SV}{d:Option Tmp}{ty:TypeId}{pos:String}{af:Array Edge}{gd:Option (Nat×Bool)}{x y:Operand}{yt:TypeId}{a b:Int×Int}{r:Bool}(hr:iB a b=r)(hx:an T x=some (yc a))(hy:an T y=some (yc b)):ReadDoes Tryz.prog T H ⟨d,.binOp .eql 40 x y yt,ty,pos,af,gd⟩ (.sc (.bool r)):=hr ▸ vh hx hy
theorem qC{hb r:Nat}{hm:List UInt8}(hH:H.at' hb=some (hpO hm))(hl:hm.length=98304)(hrow:H.at' r=some (py l))(hne:r≠hb)(hll:l.length≤50000)(hG: ∀ n,32≤n→n<128→GoodP (dfH hm n)):Fnc Tryz.prog 24 [.ptr hb 0,.slu r 0 l.length] H nx
 (fun q=>q.1 = .sc (.int .i64 ((fY (dfH hm) l).1:Int))∧q.2.1.at' hb=some (hpO (jH hm (fY (dfH hm) l).2))∧nx≤q.2.2∧ ∀ m,m<nx→m≠hb→q.2.1.at' m=H.at' m):=by
 refine Ka Tryz.func24 rfl rfl ?_
 refine aX fun hund=>?_
 have lH:=hund _ _ hH
 have lR:=hund _ _ hrow
 clear hund
 repeat apply ai;rfl
 refine bC (α:=Nat) (fun i=> [(0,.ptr hb 0),(1,.slu r 0 l.length),(5,.sc (.int .i64 (i:Int)))])
  (fun i H1 n1=>i≤l.length∧OK1 l i∧nx≤n1∧ ∀ m,m<nx→H1.at' m=H.at' m) (fun i=>l.length-i) 0
  ⟨Jw _,⟨fun t ht=>by simp at ht,by simp⟩,Jv _,fun m _=>rfl⟩ (Kg (Kj rfl)) ?_
 rintro i H1 n1 ⟨i1,i2,i3,i4⟩ ih
 have r1:H1.at' r=some (py l):=(i4 r lR).trans hrow
 have b1:H1.at' hb=some (hpO hm):=(i4 hb lH).trans hH
 repeat apply ai;rfl
 refine bn rfl rfl rfl rfl (fun h5=>?_) (fun h5=>?_)
 ·have hi:i<l.length:=by omega
  have hcc:=uR hi
  repeat first|refine dq (q:=i) rfl rfl rfl rfl (F.un _ rfl) (F.sz _ rfl) (by assumption) (by omega) (by(omega)) (Jv _) ?_|(refine de rfl (.inr (fun _ h=>by cases h)) ((ba (F.ag _ rfl) rfl r1 hcc).does) ?_);rw [aK rfl]|apply ai;rfl|apply aG;rfl;(focus((repeat(exact ae));done));rfl
  cases hmay:mD (l[i]).1 (l[i]).2 with
  | false=>
    have hM:fY (dfH hm) l=(2,[]):=JH (vG hi hmay)
    have hmd:=of_decide_eq_false hmay
    rw [hM]
    generalize (l[i]).1=ta at hmd ⊢
    generalize (l[i]).2=tb at hmd ⊢
    by_cases c1:ta<32
    ·clear hmd
     repeat first|apply px;rfl;omega|apply ai;rfl
     (apply bP Tryz.func24 Tryz.results24;rfl)
     exact⟨rfl,by(repeat(refine ab (by omega) ?_));exact b1,by dsimp only;omega,fun m hm _=>by(repeat(refine ab (by omega) ?_));exact i4 m hm⟩
    ·by_cases c2:127<ta
     ·clear hmd
      repeat first|apply px;rfl;omega|apply lx;rfl;omega|apply ai;rfl|apply aG;rfl;(focus((repeat(exact ae));done));rfl
      (apply bP Tryz.func24 Tryz.results24;rfl)
      exact⟨rfl,by(repeat(refine ab (by omega) ?_));exact b1,by dsimp only;omega,fun m hm _=>by(repeat(refine ab (by omega) ?_));exact i4 m hm⟩
     ·have c3:tb<0:=by omega
      clear hmd
      repeat first|apply px;rfl;omega|apply lx;rfl;omega|apply ai;rfl|apply aG;rfl;(focus((repeat(exact ae));done));rfl
      (apply bP Tryz.func24 Tryz.results24;rfl)
      exact⟨rfl,by(repeat(refine ab (by omega) ?_));exact b1,by dsimp only;omega,fun m hm _=>by(repeat(refine ab (by omega) ?_));exact i4 m hm⟩
  | true=>
    have hmd:32≤(l[i]).1∧(l[i]).1<128∧0≤(l[i]).2:=JS hmay
    repeat first|apply lx;rfl;omega|apply ai;rfl|apply aG;rfl;(focus((repeat(exact ae));done));rfl
    refine bC (α:=Nat) (fun k=> [(0,.ptr hb 0),(1,.slu r 0 l.length),(5,.sc (.int .i64 (i:Int))),(6,.ptr n1 0),(7,.sc (.int .i64 (k:Int)))])
     (fun k H2 n2=>k≤i∧l[i]∉l.take k∧n2=n1+1∧H2.at' n1=some (tidB l[i])∧ ∀ m,m<nx→H2.at' m=H.at' m) (fun k=>i-k) 0
     ⟨Jw _,by simp,rfl,by repeat(exact ae),fun m hm=>by(repeat(refine ab (by omega) ?_));exact i4 m hm⟩ (Kg (Kj rfl)) ?_
    rintro k H2 n2 ⟨k1,k2,rfl,k3,k4⟩ ih2
    have r2:H2.at' r=some (py l):=(k4 r lR).trans hrow
    have b2:H2.at' hb=some (hpO hm):=(k4 hb lH).trans hH
    repeat apply ai;rfl
    refine bn rfl rfl rfl rfl (fun h6=>?_) (fun h6=>?_)
    ·have hk:k<i:=by omega
     have hcck:=uR (l:=l) (i:=k) (by omega)
     repeat apply ai;rfl
     cases hs:iB (l[k]'(by omega)) l[i] with
     | true=>
       have he:=gg.1 hs
       have hM:fY (dfH hm) l=(2,[]):=JH (vE hi hk he)
       rw [hM]
       (apply bh;(focus(kernel_rfl));(focus(kernel_rfl)))
       repeat first|refine aH (q:=k) rfl rfl rfl rfl (F.un _ rfl) (F.sz _ rfl) (by assumption) (by omega) (by(omega)) (Jv _) ?_|apply bS;rfl;rfl;exact(fun _ h=>by cases h);exact(ba (F.ag _ rfl) rfl r2 hcck)|apply dw;rfl;assumption;rfl|apply bS;rfl;rfl;exact(fun _ h=>by cases h);exact(nP hs rfl rfl)|apply aS;rfl
       refine aA ⟨by kernel_rfl,?_,?_⟩;(focus(repeat(first|exact Kk|apply gi;rfl;kernel_rfl|refine fX 0 rfl (by kernel_rfl) (by(repeat(refine⟨(by first|exact ba (F.ag _ rfl) rfl (by assumption) (aq _ 0 rfl rfl)|exact ba (F.ag _ rfl) rfl r2 hcck|exact nP hs rfl rfl|exact aQ (F.un _ rfl) (F.sz _ rfl) rfl rfl r2 rfl (by omega) (Jv _)),?_⟩));exact Kk) ?_)))
       repeat apply ai;rfl
       (apply bP Tryz.func24 Tryz.results24;rfl)
       exact⟨rfl,b2,by dsimp only;omega,fun m hm _=>k4 m hm⟩
     | false=>
       have hne2:l[k]'(by omega)≠l[i]:=fun e=>by rw [gg.2 e] at hs;cases hs
       (apply bh;(focus(kernel_rfl));(focus(kernel_rfl)))
       repeat first|refine aH (q:=k) rfl rfl rfl rfl (F.un _ rfl) (F.sz _ rfl) (by assumption) (by omega) (by(omega)) (Jv _) ?_|apply bS;rfl;rfl;exact(fun _ h=>by cases h);exact(ba (F.ag _ rfl) rfl r2 hcck)|apply dw;rfl;assumption;rfl|apply bS;rfl;rfl;exact(fun _ h=>by cases h);exact(nP hs rfl rfl)|apply aS;rfl
       refine aA ⟨by kernel_rfl,?_,?_⟩;(focus(repeat(first|exact Kk|apply gi;rfl;kernel_rfl|refine fX 0 rfl (by kernel_rfl) (by(repeat(refine⟨(by first|exact ba (F.ag _ rfl) rfl (by assumption) (aq _ 0 rfl rfl)|exact ba (F.ag _ rfl) rfl r2 hcck|exact nP hs rfl rfl|exact aQ (F.un _ rfl) (F.sz _ rfl) rfl rfl r2 rfl (by omega) (Jv _)),?_⟩));exact Kk) ?_)))
       repeat first|apply ai;rfl|apply aL;rfl;omega;omega
       exact ih2 _ _ _ (k+1) ⟨hk,fun h=>(by
        rw [fN (by omega)] at h
        rcases List.mem_append.1 h with h|h
        ·exact k2 h
        ·exact hne2 (JM.1 h).symm),rfl,k3,k4⟩ (by omega) (Kg (Kj rfl))
    ·have hk:k=i:=by omega
     subst hk
     repeat first|apply ai;rfl|apply aL;rfl;omega;omega
     exact ih _ _ _ (k+1) ⟨hi,wH hi i2 hmay k2,by first|omega|(dsimp only;omega),k4⟩ (by omega) (Kg (Kj rfl))
 ·have hi:i=l.length:=by omega
  subst hi
  have hmay:tO l:=by
   have:=i2
   unfold OK1 at this
   rw [List.take_length] at this
   exact this
  clear ih i1 i2 h5
  repeat first|apply ai;rfl|apply aG;rfl;(focus((repeat(exact ae));done));rfl
  refine bC (α:=Nat×Int×Int×Int) (fun x=> [(0,.ptr hb 0),(1,.slu r 0 l.length),(8,.ptr n1 0),(9,.sc (.int .i64 x.2.1)),(10,.sc (.int .i64 (x.1:Int)))])
   (fun x H2 n2=>x.1≤l.length∧Wr (dfH hm) l x.1 x.2.1 x.2.2.1 x.2.2.2∧n1+1≤n2∧H2.at' n1=some (eE x.2.2.1 x.2.2.2)∧ ∀ m,m<nx→H2.at' m=H.at' m) (fun x=>l.length-x.1) (0,0,1000,0)
   ⟨Jw _,.inl ⟨fun t ht=>by simp at ht,rfl,rfl⟩,Jv _,by repeat(exact ae),fun m hm=>by(repeat(refine ab (by omega) ?_));exact i4 m hm⟩ (Kg (Kj rfl)) ?_
  clear r1 b1 i4
  rintro⟨i,w,fa,fb⟩ H2 n2 ⟨i1,i2,i5,i6,i4⟩ ih
  dsimp only at i1 i2 i4 i5 i6 ⊢
  have r2:H2.at' r=some (py l):=(i4 r lR).trans hrow
  have b2:H2.at' hb=some (hpO hm):=(i4 hb lH).trans hH
  repeat apply ai;rfl
  refine bn rfl rfl rfl rfl (fun h5=>?_) (fun h5=>?_)
  ·have hi:i<l.length:=by omega
   have hcc:=uR hi
   have hc0:=yb hi
   have hc1:=x9 hi
   have hmi:=hmay.1 _ (JF hi)
   have hgg:=BI hG hmi
   repeat first|refine dq (q:=i) rfl rfl rfl rfl (F.un _ rfl) (F.sz _ rfl) (by assumption) (by omega) (by(omega)) (Jv _) ?_|(refine de rfl (.inr (fun _ h=>by cases h)) ((ba (F.ag _ rfl) rfl r2 hcc).does) ?_);rw [aK rfl]|apply ai;rfl
   refine aI rfl rfl rfl (by kernel_rfl) (J9 (uv (n:=(l[i]).1) (k:=(l[i]).2) b2 hl) ?_)
   rintro⟨_,H3,n3⟩ ⟨s',rr,rfl,c1,c2,c3,c4⟩
   dsimp only at c1 c2 c3 c4 ⊢
   obtain⟨vk,vw,rfl,hk1,hw1⟩:=c1
   have hone: ∀ x y:Nat,bp (eF vk vw x y)=true:=fun x y=>by simp only [bp,cX hk1.bs,cX hw1.bs];rfl
   have d1:H3.at' n1=some (eE fa fb):=(c4 _ (by omega)).trans i6
   have d2:H3.at' r=some (py l):=(c4 _ (by omega)).trans r2
   have d4: ∀ m,m<nx→H3.at' m=H.at' m:=fun m hm=>(c4 _ (by omega)).trans (i4 m hm)
   clear c4 i6 r2 b2 i4 hk1 hw1
   have hgen: ∀ e:Nat,(pz (dfH hm) (l[i]).1 (l[i]).2).2=e→(pz (dfH hm) (l[i]).1 (l[i]).2).2=e:=fun _ h=>h
   clear hgen
   rw [hgg]
   clear hgg
   cases hh:ll (aU (dfH hm (l[i]).1.toNat)).1 (l[i]).2.toNat with
   | true=>
     rw [JH rfl]
     have hw2:=HV i2 hi hh
     clear i2 hmi
     repeat first|apply ai;rfl|refine dW rfl rfl rfl (F.sz _ rfl) (by repeat(first|assumption|exact ae)) rfl (by exact Jh rfl) (hone _ _) rfl ?_
     refine cW (R:=fun H4 n4=>n4=n3+1∧H4.at' n1=some (eE fa fb)∧H4.at' r=some (py l)∧ ∀ m,m<nx→H4.at' m=H.at' m) ⟨rfl,by repeat(first|assumption|refine ab (by omega) ?_),by repeat(first|assumption|refine ab (by omega) ?_),fun m hm=>by(repeat(refine ab (by omega) ?_));exact d4 m hm⟩ ?_
     rintro H4 n4 ⟨rfl,m1,m2,m4⟩
     clear d1 d2 d4
     ((apply bh;(focus(kernel_rfl));(focus(kernel_rfl)));(repeat(first|refine oY rfl rfl rfl rfl (fun hq=>absurd hq (by omega)) (fun _=>?_)|apply aS;rfl|apply cq;rfl;rfl));refine aA ⟨by kernel_rfl,?_,?_⟩;(focus(repeat(first|exact Kk|apply uy;rfl|apply gi;rfl;kernel_rfl|apply lJ;kernel_rfl))))
     repeat first|apply ai;rfl|apply aL;rfl;omega;omega
     exact ih _ _ _ (i+1,w,fa,fb) ⟨hi,hw2,by first|omega|(dsimp only;omega),by assumption,fun m hm=>by exact m4 m hm⟩ (by dsimp only;omega) (Kg (Kj rfl))
   | false=>
     rw [JG (by decide)]
     repeat first|apply ai;rfl|refine dW rfl rfl rfl (F.sz _ rfl) (by repeat(first|assumption|exact ae)) rfl (by exact Jh rfl) (hone _ _) rfl ?_
     refine cW (R:=fun H4 n4=>n4=n3+1∧H4.at' n1=some (eE fa fb)∧H4.at' r=some (py l)∧ ∀ m,m<nx→H4.at' m=H.at' m) ⟨rfl,by repeat(first|assumption|refine ab (by omega) ?_),by repeat(first|assumption|refine ab (by omega) ?_),fun m hm=>by(repeat(refine ab (by omega) ?_));exact d4 m hm⟩ ?_
     rintro H4 n4 ⟨rfl,m1,m2,m4⟩
     clear d1 d2 d4
     by_cases q1:(l[i]).1<fa
     ·(((apply bh;(focus(kernel_rfl));(focus(kernel_rfl)));(repeat(first|refine aH (q:=i) rfl rfl rfl rfl (F.un _ rfl) (F.sz _ rfl) (by assumption) (by omega) (by(omega)) (Jv _) ?_|refine bj (am (F.ag _ rfl) rfl m2 hc0) rfl rfl rfl ?_|apply dw;rfl;assumption;rfl|refine oY rfl rfl rfl rfl (fun _=>?_) (fun hq=>absurd hq (by omega))|refine cK rfl rfl rfl rfl (fun _=>?_) (fun hq=>absurd hq (by omega))|apply aS;rfl|apply cq;rfl;rfl));refine aA ⟨by kernel_rfl,?_,?_⟩;(focus(repeat(first|exact Kk|apply uy;rfl|apply gi;rfl;kernel_rfl|refine fX 0 rfl (by kernel_rfl) (by(repeat(refine⟨(by first|exact am (F.ag _ rfl) rfl (by assumption) (aB rfl)|exact am (F.ag _ rfl) rfl m2 hc0|exact aQ (F.un _ rfl) (F.sz _ rfl) rfl rfl m2 rfl (by omega) (Jv _)),?_⟩));exact Kk) ?_|apply lJ;kernel_rfl))));(repeat(first|refine dq (q:=i) rfl rfl rfl rfl (F.un _ rfl) (F.sz _ rfl) (by assumption) (by omega) (by(omega)) (Jv _) ?_|(refine de rfl (.inr (fun _ h=>by cases h)) ((ba (F.ag _ rfl) rfl m2 hcc).does) ?_);rw [aK rfl]|apply ai;rfl|apply aG;rfl;assumption;rfl|apply aL;rfl;omega;omega));exact ih _ _ _ (i+1,6,(l[i]).1,(l[i]).2) ⟨hi,B7 _ _ hi hh,by first|omega|(dsimp only;omega),by repeat(exact ae),fun m hm=>by(repeat(refine ab (by omega) ?_));exact m4 m hm⟩ (by dsimp only;omega) (Kg (Kj rfl)))
     ·by_cases q2:(l[i]).1=fa
      ·by_cases q3:(l[i]).2<fb
       ·(((apply bh;(focus(kernel_rfl));(focus(kernel_rfl)));(repeat(first|refine aH (q:=i) rfl rfl rfl rfl (F.un _ rfl) (F.sz _ rfl) (by assumption) (by omega) (by(omega)) (Jv _) ?_|refine bj (am (F.ag _ rfl) rfl m2 hc0) rfl rfl rfl ?_|refine bj (am (F.ag _ rfl) rfl m2 hc1) rfl rfl rfl ?_|apply dw;rfl;assumption;rfl|refine ji rfl rfl rfl rfl (fun _=>?_) (fun hq=>absurd hq (by omega))|refine oY rfl rfl rfl rfl (fun _=>?_) (fun hq=>absurd hq (by omega))|refine cK rfl rfl rfl rfl (fun _=>?_) (fun hq=>absurd hq (by omega))|refine cK rfl rfl rfl rfl (fun hq=>absurd hq (by omega)) (fun _=>?_)|apply aS;rfl));refine aA ⟨by kernel_rfl,?_,?_⟩;(focus(repeat(first|exact Kk|apply gi;rfl;kernel_rfl|refine fX 0 rfl (by kernel_rfl) (by(repeat(refine⟨(by first|exact am (F.ag _ rfl) rfl (by assumption) (aB rfl)|exact am (F.ag _ rfl) rfl m2 hc0|exact am (F.ag _ rfl) rfl m2 hc1|exact aQ (F.un _ rfl) (F.sz _ rfl) rfl rfl m2 rfl (by omega) (Jv _)),?_⟩));exact Kk) ?_|apply lJ;kernel_rfl))));(repeat(first|refine dq (q:=i) rfl rfl rfl rfl (F.un _ rfl) (F.sz _ rfl) (by assumption) (by omega) (by(omega)) (Jv _) ?_|(refine de rfl (.inr (fun _ h=>by cases h)) ((ba (F.ag _ rfl) rfl m2 hcc).does) ?_);rw [aK rfl]|apply ai;rfl|apply aG;rfl;assumption;rfl|apply aL;rfl;omega;omega));exact ih _ _ _ (i+1,6,(l[i]).1,(l[i]).2) ⟨hi,B7 _ _ hi hh,by first|omega|(dsimp only;omega),by repeat(exact ae),fun m hm=>by(repeat(refine ab (by omega) ?_));exact m4 m hm⟩ (by dsimp only;omega) (Kg (Kj rfl)))
       ·(rcases i2 with ⟨_,_,rfl⟩|⟨_,rfl⟩;exact absurd (JS hmi:32≤(l[i]).1∧(l[i]).1<128∧0≤(l[i]).2) (by omega);((apply bh;(focus(kernel_rfl));(focus(kernel_rfl)));(repeat(first|refine aH (q:=i) rfl rfl rfl rfl (F.un _ rfl) (F.sz _ rfl) (by assumption) (by omega) (by(omega)) (Jv _) ?_|refine bj (am (F.ag _ rfl) rfl m2 hc0) rfl rfl rfl ?_|refine bj (am (F.ag _ rfl) rfl m2 hc1) rfl rfl rfl ?_|apply dw;rfl;assumption;rfl|refine ji rfl rfl rfl rfl (fun _=>?_) (fun hq=>absurd hq (by omega))|refine oY rfl rfl rfl rfl (fun _=>?_) (fun hq=>absurd hq (by omega))|refine cK rfl rfl rfl rfl (fun hq=>absurd hq (by omega)) (fun _=>?_)|apply aS;rfl));refine aA ⟨by kernel_rfl,?_,?_⟩;(focus(repeat(first|exact Kk|apply gi;rfl;kernel_rfl|refine fX 0 rfl (by kernel_rfl) (by(repeat(refine⟨(by first|exact am (F.ag _ rfl) rfl (by assumption) (aB rfl)|exact am (F.ag _ rfl) rfl m2 hc0|exact am (F.ag _ rfl) rfl m2 hc1|exact aQ (F.un _ rfl) (F.sz _ rfl) rfl rfl m2 rfl (by omega) (Jv _)),?_⟩));exact Kk) ?_|apply lJ;kernel_rfl))));(repeat(first|apply ai;rfl|apply aL;rfl;omega;omega));exact ih _ _ _ (i+1,6,fa,fb) ⟨hi,B7 _ _ hi hh,by first|omega|(dsimp only;omega),by assumption,fun m hm=>by exact m4 m hm⟩ (by dsimp only;omega) (Kg (Kj rfl)))
      ·(rcases i2 with ⟨_,_,rfl⟩|⟨_,rfl⟩;exact absurd (JS hmi:32≤(l[i]).1∧(l[i]).1<128∧0≤(l[i]).2) (by omega);((apply bh;(focus(kernel_rfl));(focus(kernel_rfl)));(repeat(first|refine aH (q:=i) rfl rfl rfl rfl (F.un _ rfl) (F.sz _ rfl) (by assumption) (by omega) (by(omega)) (Jv _) ?_|refine bj (am (F.ag _ rfl) rfl m2 hc0) rfl rfl rfl ?_|apply dw;rfl;assumption;rfl|refine ji rfl rfl rfl rfl (fun hq=>absurd hq (by omega)) (fun _=>?_)|refine oY rfl rfl rfl rfl (fun _=>?_) (fun hq=>absurd hq (by omega))|refine cK rfl rfl rfl rfl (fun hq=>absurd hq (by omega)) (fun _=>?_)|apply aS;rfl|apply cq;rfl;rfl));refine aA ⟨by kernel_rfl,?_,?_⟩;(focus(repeat(first|exact Kk|apply uy;rfl|apply gi;rfl;kernel_rfl|refine fX 0 rfl (by kernel_rfl) (by(repeat(refine⟨(by first|exact am (F.ag _ rfl) rfl (by assumption) (aB rfl)|exact am (F.ag _ rfl) rfl m2 hc0|exact aQ (F.un _ rfl) (F.sz _ rfl) rfl rfl m2 rfl (by omega) (Jv _)),?_⟩));exact Kk) ?_|apply lJ;kernel_rfl))));(repeat(first|apply ai;rfl|apply aL;rfl;omega;omega));exact ih _ _ _ (i+1,6,fa,fb) ⟨hi,B7 _ _ hi hh,by first|omega|(dsimp only;omega),by assumption,fun m hm=>by exact m4 m hm⟩ (by dsimp only;omega) (Kg (Kj rfl)))
  ·have hi:i=l.length:=by omega
   subst hi
   have hw:(md (dfH hm) l∧w=0)∨(¬ md (dfH hm) l∧w=6):=by
    unfold Wr at i2
    rw [List.take_length] at i2
    rcases i2 with ⟨h1,h2,_⟩|⟨⟨t,h1,h2⟩,h3⟩
    ·exact .inl ⟨h1,h2⟩
    ·exact .inr ⟨fun h=>(by rw [h t h1] at h2;cases h2),h3⟩
   clear ih i2 i1 h5
   rcases hw with ⟨hw,rfl⟩|⟨hw,rfl⟩
   ·have hM:fY (dfH hm) l=(0,ib (dfH hm) l 96):=by
     rw [yI]
     unfold fY
     rw [JG (fun h=>h hmay),JG (fun h=>h hw)]
    rw [hM]
    have hHas: ∀ n q,n<96→aU (dfH hm (32+n))=(q,0)→Has q (aM l (32+n)):=fun n q hn hq=>by
     refine⟨fk hmay _,fun k hk=>?_⟩
     have h1:=hw _ ((gF hmay.1).1 hk)
     rw [JY,JY,hq] at h1
     exact JS h1
    have hps: ∀ n,n≤96→ ∀ x∈ib (dfH hm) l n,32≤x.1∧x.1<32+n∧x.2.length=1024:=fun n hn x hx=>by
     obtain⟨h1,h2,_,h3⟩:=zw hx
     refine⟨h1,h2,?_⟩
     obtain⟨q,hq,hQ⟩:=(hG x.1 h1 (by omega)).read
     rw [h3,hq]
     have:=hHas (x.1-32) q (by omega) (by rw [show 32+(x.1-32)=x.1 by omega];exact hq)
     rw [show 32+(x.1-32)=x.1 by omega] at this
     exact(vZ hQ this).ok.len
    have hpl: ∀ n,n≤96→(jH hm (ib (dfH hm) l n)).length=98304:=fun n hn=>yV hl fun x hx=>by
     have:=hps n hn x hx
     exact⟨this.1,by omega,this.2.2⟩
    have hpo: ∀ n,n<96→az (jH hm (ib (dfH hm) l n)) n=az hm n:=fun n hn=>uc hl fun x hx=>by
     have:=hps n (by omega) x hx
     exact⟨this.1,by omega,this.2.2,by omega⟩
    repeat first|apply dM;rfl;omega|apply ai;rfl
    refine bC (α:=Nat) (fun n=> [(0,.ptr hb 0),(1,.slu r 0 l.length),(13,.sc (.int .i64 (n:Int)))])
     (fun n H3 n3=>n≤96∧nx≤n3∧H3.at' hb=some (hpO (jH hm (ib (dfH hm) l n)))∧ ∀ m,m<nx→m≠hb→H3.at' m=H.at' m) (fun n=>96-n) 0
     ⟨Jw _,by omega,b2,fun m hm _=>i4 m hm⟩ (Kg (Kj rfl)) ?_
    clear r2 b2 i4 i6
    rintro n H3 n3 ⟨j1,j2,j3,j4⟩ ih
    have r3:H3.at' r=some (py l):=(j4 r lR hne).trans hrow
    repeat apply ai;rfl
    refine bn rfl rfl rfl rfl (fun h5=>?_) (fun h5=>?_)
    ·have hn:n<96:=by omega
     obtain⟨q,hq,hQ⟩:=(hG (32+n) (by omega) (by omega)).read
     have hql:=hQ.ok.len
     have hhas:=hHas n q hn hq
     have hrs:=fun(H:au) nx (h:H.at' hb=some (hpO (jH hm (ib (dfH hm) l n))))=>lW (nx:=nx) h (hpl n j1) hn
     have hv5:sg (az (jH hm (ib (dfH hm) l n)) n)=(q,true):=by
      rw [hpo n hn]
      have hdf:dfH hm (32+n)=bareP (az hm n):=by unfold dfH;rw [show 32+n-32=n by omega]
      rw [hdf] at hq
      rw [nO (by rw [hq]),hq]
     rw [hv5] at hrs
     dsimp only [Bg] at hrs
     repeat first|apply bA hql ah;rfl;(focus((repeat(exact ae));done))|refine a9 rfl rfl ci ?_|apply ai;rfl|apply bY;rfl;kernel_rfl;exact hrs _ _ j3
     refine bC (α:=Nat) (fun i=> [(0,.ptr hb 0),(1,.slu r 0 l.length),(13,.sc (.int .i64 (n:Int))),(14,.ptr n3 0),(16,.sc (.bool (!(aM (l.take i) (32+n)).isEmpty))),(17,.sc (.int .i64 (i:Int)))])
      (fun i H4 n4=>i≤l.length∧n3+1≤n4∧H4.at' n3=some (pgO (dh q (aM (l.take i) (32+n))))∧H4.at' hb=some (hpO (jH hm (ib (dfH hm) l n)))∧ ∀ m,m<nx→m≠hb→H4.at' m=H.at' m) (fun i=>l.length-i) 0
      ⟨Jw _,Jv _,by show _=some (pgO q);(focus((repeat(exact ae));done)),by repeat(first|assumption|refine ab (by omega) ?_),fun m hm hmb=>by(repeat(refine ab (by omega) ?_));exact j4 m hm hmb⟩ (Kg (Kj rfl)) ?_
     rintro i H4 n4 ⟨k1,k2,k3,k4,k5⟩ ih2
     have r4:H4.at' r=some (py l):=(k5 r lR hne).trans hrow
     repeat apply ai;rfl
     refine bn rfl rfl rfl rfl (fun h6=>?_) (fun h6=>?_)
     ·have hi:i<l.length:=by omega
      have hc0:=yb hi
      have hc1:=x9 hi
      have hmi:=hmay.1 _ (JF hi)
      have hmd:32≤(l[i]).1∧(l[i]).1<128∧0≤(l[i]).2:=JS hmi
      repeat first|refine dq (q:=i) rfl rfl rfl rfl (F.un _ rfl) (F.sz _ rfl) (by assumption) (by omega) (by(omega)) (Jv _) ?_|refine cd (am (F.ag _ rfl) rfl r4 hc0) rfl rfl rfl ?_|apply ai;rfl|apply aL;rfl;omega;omega
      have hsn:=rW (l.take i) l[i] (32+n)
      rw [← fN hi] at hsn
      refine cF rfl rfl rfl rfl (fun he=>?_) (fun he=>?_)
      ·have he2:(l[i]).1=((32+n:Nat):Int):=by omega
       rw [JH he2] at hsn
       obtain⟨k,hk⟩: ∃ k:Nat,(l[i]).2=(k:Int):=⟨(l[i]).2.toNat,by omega⟩
       have hkt:(l[i]).2.toNat=k:=by omega
       rw [hkt] at hsn
       have hat:=wV hi he2
       rw [hkt] at hat
       rw [hat] at hhas
       obtain⟨t1,t2,t3⟩:=Has.there hQ.ok hhas
       have hxr:=(bi t3.len).2 t3
       have hdr:=fun(H:au) nx=>BT (H:=H) (nx:=nx) t3.len hxr t1 t2
       have hds:=uA q (aM (l.take i) (32+n)) k
       rw [show o6 (bJ (dh q (aM (l.take i) (32+n))) k 0 0)=dh q (aM (l.take i) (32+n) ++ [k])from hds.symm] at hdr
       have hyl:(dh q (aM (l.take i) (32+n) ++ [k])).length=1024:=by
        rw [hds]
        exact(o5 t3 t1 t2).ok.len
       rw [← hsn] at hdr hyl
       rw [← hk] at hdr
       have hxl:=t3.len
       have hbt:(!(aM (l.take (i+1)) (32+n)).isEmpty)=true:=by rw [hsn];cases aM (l.take i) (32+n) <;> rfl
       rw [← hsn]at hds
       clear hsn hat hk hkt t1 t2 t3 hxr hhas hmi hmd he2 hds
       generalize dh q (aM (l.take i) (32+n))=x at k3 hxl hdr
       generalize hy:dh q (aM (l.take (i+1)) (32+n))=y at hdr hyl
       repeat apply ai;rfl
       (apply gt;(focus(kernel_rfl));(focus(kernel_rfl)))
       refine dR 6 (Jh rfl) ?_
       repeat first|refine b8 rfl rfl rfl (F.ag _ rfl) k3 (be hxl) ?_|refine aH (q:=i) rfl rfl rfl rfl (F.un _ rfl) (F.sz _ rfl) (by assumption) (by omega) (by(omega)) (Jv _) ?_|refine bj (am (F.ag _ rfl) rfl r4 hc1) rfl rfl rfl ?_|apply aS;rfl
       refine aA ?_;(apply dS;rfl;rfl;rfl;(focus(kernel_rfl));exact(hdr _ _))
       refine iL ?_
       repeat first|refine oZ (ef ci) rfl rfl rfl ?_|refine bX rfl rfl rfl (F.sz _ rfl) (by repeat(exact ae)) (be hyl) (by rw [be ah];exact Jv _) (iE _) (lc _ _ ah hyl) ?_|apply aS;rfl
       refine aA ⟨by kernel_rfl,?_,?_⟩;(focus(repeat(first|exact Kk|refine⟨.inl rfl,?_⟩|refine⟨.inr (.inl (by(repeat(refine⟨(by first|exact mI rfl|exact ba (F.ag _ rfl) rfl (by(repeat(refine ab (by omega) ?_));exact k3) (bk hxl)|exact am (F.ag _ rfl) rfl (by(repeat(refine ab (by omega) ?_));exact r4) hc1|exact aQ (F.un _ rfl) (F.sz _ rfl) rfl rfl (by(repeat(refine ab (by omega) ?_));exact r4) rfl (by omega) (Jv _)),?_⟩));exact Kk)),?_⟩|refine⟨.inr (.inr (by(repeat(refine⟨(by exact eg rfl (by kernel_rfl) (by exact hdr _ _)),?_⟩));exact Kk)),?_⟩)))
       repeat first|apply bu hyl;rfl;(focus((repeat(exact ae));done))|apply bA hyl hxl;rfl;(focus((repeat(first|assumption|refine ab (by omega) ?_));done))|apply ai;rfl|apply aL;rfl;omega;omega
       exact ih2 _ _ _ (i+1) ⟨hi,by dsimp only;omega,by rw [hy];(focus((repeat(exact ae));done)),by repeat(first|assumption|refine ab (by omega) ?_),fun m hm hmb=>by(repeat(refine ab (by omega) ?_));exact k5 m hm hmb⟩ (by omega) (Kg ⟨rfl,rfl,rfl,rfl,(by rw [hbt];rfl),fO (by omega),trivial⟩)
      ·have he2:(l[i]).1≠((32+n:Nat):Int):=by omega
       rw [JG he2] at hsn
       repeat first|apply ai;rfl|apply aL;rfl;omega;omega
       exact ih2 _ _ _ (i+1) ⟨hi,k2,by rw [hsn];exact k3,k4,k5⟩ (by omega) (Kg ⟨rfl,rfl,rfl,rfl,(by rw [hsn];rfl),fO (by omega),trivial⟩)
     ·have hi:i=l.length:=by omega
      subst hi
      rw [List.take_length] at k3 ⊢
      clear ih2
      by_cases hs:aM l (32+n)= []
      ·rw [hs]
       have hrt:=A8 (pf:=dfH hm) hs
       repeat first|apply ai;rfl|apply aL;rfl;omega;omega
       exact ih _ _ _ (n+1) ⟨hn,by first|omega|(dsimp only;omega),by rw [hrt];exact k4,k5⟩ (by omega) (Kg (Kj rfl))
      ·have hbt:(!(aM l (32+n)).isEmpty)=true:=by
        cases h9:aM l (32+n)with
        | nil=>exact absurd h9 hs
        | cons a b=>rfl
       rw [hbt]
       have hrt:=yH (pf:=dfH hm) hs
       rw [hq] at hrt
       have hxo:=mm hQ.ok hhas
       have hxr:=(bi hxo.len).2 hxo
       have hpk:=fun(H:au) nx=>y6 (H:=H) (nx:=nx) hxo.len hxr
       have hyl:=(li hxo).len
       have hxl:=hxo.len
       have hmem:jH hm (ib (dfH hm) l (n+1))=f8 (jH hm (ib (dfH hm) l n)) n (dL (dh q (aM l (32+n)))):=by
        rw [hrt,w6,show 32+n-32=n by omega]
        rfl
       generalize dL (dh q (aM l (32+n)))=y at hpk hyl hmem
       generalize dh q (aM l (32+n))=x at k3 hpk hxl
       clear hxo hxr hrt hbt
       repeat first|apply bu hxl;rfl;assumption|apply bA hyl ah;rfl;(focus((repeat(exact ae));done))|refine a9 rfl rfl ci ?_|apply ai;rfl|apply bY;rfl;kernel_rfl;exact hpk _ _
       refine cW (R:=fun H5 n5=>n4<n5∧H5.at' n4=some (pgO y)∧H5.at' hb=some (hpO (jH hm (ib (dfH hm) l n)))∧ ∀ m,m<nx→m≠hb→H5.at' m=H.at' m) ⟨by omega,by repeat(exact ae),by repeat(first|assumption|refine ab (by omega) ?_),fun m hm hmb=>by(repeat(refine ab (by omega) ?_));exact k5 m hm hmb⟩ ?_
       rintro H5 n5 ⟨e0,e1,e2,e3⟩
       have hhl:=hpl n j1
       generalize jH hm (ib (dfH hm) l n)=hm2 at e2 hmem hhl
       (apply bh;(focus(kernel_rfl));(focus(kernel_rfl)))
       repeat first|refine b8 rfl rfl rfl (F.ag _ rfl) e1 (be hyl) ?_|refine bX rfl rfl rfl (F.sz _ rfl) e2 (be hyl) (by rw [JL,JL,hhl];omega) (iE _) (vX hhl hn hyl) ?_|apply jX (q:=n);rfl;rfl;rfl;rfl;exact(F.un _ rfl);exact(F.sz _ rfl);(focus(omega));(focus(omega))|apply aS;rfl
       refine aA ⟨by kernel_rfl,?_,?_⟩;(focus(repeat(first|exact Kk|apply jU;rfl|apply gi;rfl;kernel_rfl|refine fX 0 rfl (by kernel_rfl) (by(repeat(refine⟨(by first|exact ba (F.ag _ rfl) rfl (by repeat(first|assumption|refine ab (by omega) ?_)) (bk hyl)|exact ig (q:=n) rfl rfl (F.un _ rfl) (F.sz _ rfl) (by omega) (by omega)),?_⟩));exact Kk) ?_)))
       repeat first|apply ai;rfl|apply aL;rfl;omega;omega
       exact ih _ _ _ (n+1) ⟨hn,by first|omega|(dsimp only;omega),by rw [hmem];(focus((repeat(exact ae));done)),fun m hm hmb=>by(repeat(refine ab (by omega) ?_));exact e3 m hm hmb⟩ (by omega) (Kg (Kj rfl))
    ·have hn:n=96:=by omega
     subst hn
     repeat apply ai;rfl
     (apply bP Tryz.func24 Tryz.results24;rfl)
     exact⟨rfl,j3,j2,j4⟩
   ·have hM:fY (dfH hm) l=(6,[]):=by
     unfold fY
     rw [JG (fun h=>h hmay),JH hw]
    rw [hM]
    repeat first|apply ai;rfl|apply iv;rfl;omega
    (apply bP Tryz.func24 Tryz.results24;rfl)
    exact⟨rfl,by exact b2,by dsimp only;omega,fun m hm _=>i4 m hm⟩
end
end Go.Proofs.YtnhmbonmlfeifaaGreat
end
section
namespace Go.Sy
open Go Go.Sl Go.RowKit
section
variable {P:Program} {ro:Option Nat} {fn nt nx:Nat} {T:Tr SV} {k:List AIt} {dfs:List ADf} {H:au} {Q:Pst} {ty:TypeId} {pos:String} {af:Array Edge} {gd:Option (Nat×Bool)} {d:Option Tmp}
theorem zc{x:Operand}{name:String}{as1:List Operand}{ats:Array TypeId}{t:TypeId}{v:SV}{args:List SV}{g:FuncId}(hx:an T x=some (.ifc t v))(ha:dn T as1=some args)(hm:lD P t name=some g):OpDoes P T H nx ⟨d,.call {callee:= .invoke x name,args:=as1.toArray,argTypes:=ats},ty,pos,af,gd⟩ (.enter g (v :: args),H,nx):=by
 refine jh ?_
 have hc:cc P T {callee:= .invoke x name,args:=as1.toArray,argTypes:=ats}=some (.enter g (v :: args)):=by
  simp only [cc,ha,hx,hm]
 unfold fT
 simp only [hc,JB]
theorem te{ops:Array Oper}{i stg:Nat}{l:List Oper}{rs:List Rec}{Hs:List (au×Nat)}{K:DS→Prop}{x:Operand}{name:String}{t:TypeId}{v v':SV}(g:FuncId){as1:List Operand}{ats:Array TypeId}{args:List SV}{H':au}{nx' dd:Nat}
 (hw:aF (aY T (aZ ops.toList ⟨some dd,.call {callee:= .invoke x name,args:=as1.toArray,argTypes:=ats},ty,pos,af,gd⟩)) ops ⟨some dd,.call {callee:= .invoke x name,args:=as1.toArray,argTypes:=ats},ty,pos,af,gd⟩=some true) (hd:Nat.blt dd nt=true)
 (hx:an (aY T (aZ ops.toList ⟨some dd,.call {callee:= .invoke x name,args:=as1.toArray,argTypes:=ats},ty,pos,af,gd⟩)) x=some (.ifc t v))
 (ha:dn (aY T (aZ ops.toList ⟨some dd,.call {callee:= .invoke x name,args:=as1.toArray,argTypes:=ats},ty,pos,af,gd⟩)) as1=some args) (hm:lD P t name=some g) (hr:Fnc P g (v :: args) H nx (fun r=>r=(v',H',nx')))
 (h:DrawK P nt ops (i+1) l ⟨T.set dd v',H',nx',⟨i,⟨some dd,.call {callee:= .invoke x name,args:=as1.toArray,argTypes:=ats},ty,pos,af,gd⟩,aY T (aZ ops.toList ⟨some dd,.call {callee:= .invoke x name,args:=as1.toArray,argTypes:=ats},ty,pos,af,gd⟩),stg,true,true,v'⟩ :: rs,(H',nx') :: Hs,stg+1⟩ K) :
 DrawK P nt ops i (⟨some dd,.call {callee:= .invoke x name,args:=as1.toArray,argTypes:=ats},ty,pos,af,gd⟩ :: l) ⟨T,H,nx,rs,Hs,stg⟩ K:=by
 obtain⟨s',h1,h2⟩:=h.ex
 refine⟨⟨s',.cons (.inr (.inr ⟨hw,v',H',nx',⟨_,zc hx ha hm,(fun c hc=>(by cases hc)),hr⟩,?_⟩)) h1,h2⟩⟩
 simp only [aK hd]
end
end Go.Sy
end
section
namespace Go.Proofs.YtnhmbonmlfeifaaGreat
open Go Go.Sy Go.Sl Go.RowKit
section
variable {H:au}{b:Nat}{left:Int}{nx:Nat}{puts:Int}{mem:List UInt8}
theorem yv(k:Int):nz false 1 1 3 (List.take (0*1) (List.map SV.sc (List.map (fun x=>(Value.int IntKind.i64 0).cells[x % (Value.int IntKind.i64 0).cells.size]!) (List.range (1*1)))) ++ (SV.sc (Value.int IntKind.i64 k)).cells ++ List.drop (0*1+1) (List.map SV.sc (List.map (fun x=>(Value.int IntKind.i64 0).cells[x % (Value.int IntKind.i64 0).cells.size]!) (List.range (1*1)))))=pY [k]:=by
 have h:(List.take (0*1) (List.map SV.sc (List.map (fun x=>(Value.int IntKind.i64 0).cells[x % (Value.int IntKind.i64 0).cells.size]!) (List.range (1*1)))) ++ (SV.sc (Value.int IntKind.i64 k)).cells ++ List.drop (0*1+1) (List.map SV.sc (List.map (fun x=>(Value.int IntKind.i64 0).cells[x % (Value.int IntKind.i64 0).cells.size]!) (List.range (1*1)))))= [SV.sc (.int .i64 k)]:=by kernel_rfl
 rw [h]
 refine congrArg (VO.row false 1 1 3) (funext fun i=>?_)
 cases i with
 | zero=>rfl
 | succ i=>rfl
theorem w7(mem:List UInt8)(left puts:Int)(ρ:Nat→Nat):(cT mem left puts).ren ρ=cT mem left puts:=by
 have h:sr mem left puts=(byV mem ++ [Value.int .i64 left,Value.int .i64 puts]).map SV.sc:=by rw [JA];rfl
 show(ar _ (sr mem left puts)).ren ρ=ar _ (sr mem left puts)
 rw [h]
 exact tZ
theorem AX(ks:List Int)(hl:ks.length<65536):Ctr Tryz.prog 53 [.slu 0 0 ks.length] [pY ks] (fun c=>c=⟨.tup [],[some (pY (gV ks))]⟩):=by
 have hs:=vC ks.length ks.toArray hl (by simp)
 have hrow:b7 ks.length (Sort.sort bl ks.toArray)=iP false (gV ks):=by
  have:(gV ks).length=ks.length:=jd ks
  show dat false ks.length 1 3 _=dat false (gV ks).length 1 3 _
  rw [this]
  rfl
 rw [hrow] at hs
 exact hs
theorem ud(l:List (Int×Int)):(dm l).length≤96:=by
 unfold dm
 refine JD (List.length_filter_le _ _) ?_
 simp
abbrev dlP(mem:List UInt8)(l:List (Int×Int))(n:Nat):List UInt8:=rI (aU (az mem n)).1 (aM l n)
abbrev wR:Unit→SV:=fun _=> .agg []
theorem A7{r:Nat}{l:List (Int×Int)}(hb:H.at' b=some (cT mem left puts))(hm:mem.length=131072)(hrow:H.at' r=some (py l))(hne:r≠b)(hll:l.length≤50000)(hG: ∀ n,32≤n→n<128→GoodP (az mem n))(hl2 : -1000000≤left∧left≤1000000)(hputs : -1000000≤puts∧puts≤1000000):Fnc Tryz.prog 21 [tM b,.slu r 0 l.length] H nx
 (fun q=>q.1 = .sc (.int .i64 ((if(fY (az mem) l).1≠0 then(fY (az mem) l).1 else(fZ (fY (az mem) l).2 mem left puts).1:Nat):Int))∧q.2.1.at' b=some (cT (fZ (fY (az mem) l).2 mem left puts).2.1 (fZ (fY (az mem) l).2 mem left puts).2.2.1 (fZ (fY (az mem) l).2 mem left puts).2.2.2)∧nx≤q.2.2∧ ∀ m,m<nx→m≠b→q.2.1.at' m=H.at' m):=by
 refine Ka Tryz.func21 rfl rfl ?_
 refine aX fun hund=>?_
 have lb:=hund _ _ hb
 have lR:=hund _ _ hrow
 clear hund
 repeat first|apply ai;rfl|apply aG;rfl;(focus((repeat(exact ae));done));rfl|refine w_vl (xa) rfl rfl rfl ?_|apply lu;rfl;rfl;rfl;(focus(kernel_rfl))|refine cd (fi rfl rfl Tryz.underlying75 rfl) rfl rfl rfl ?_
 refine bC (α:=Nat×List (Int×(Nat×List Int)×Nat)×Nat×List ((Int×Int)×Unit×Nat)×Nat) (fun x=> [(0,tM b),(4,.ptr nx 0),(5,.ptr (nx+1+1) 0),(6,.mp (nx+1+1+1)),(25,.slu r 0 l.length),(26,.sc (.int .i64 (l.length:Int))),(27,.sc (.int .i64 (x.1:Int)))])
  (fun x H1 n1=>x.1≤l.length∧OK1 l x.1∧SlM H1 (nx+1+1+1+1) n1 (l.take x.1) x.2.1 x.2.2.1∧SeM (l.take x.1) x.2.2.2.1 x.2.2.2.2∧nx+1+1+1+1≤n1∧H1.at' nx=some (fJ 0)∧H1.at' (nx+1)=some (je wj js x.2.1 x.2.2.1)∧H1.at' (nx+1+1)=some (ER (nx+1))∧H1.at' (nx+1+1+1)=some (je tU wR x.2.2.2.1 x.2.2.2.2)∧ ∀ m,m<nx→H1.at' m=H.at' m) (fun x=>l.length-x.1) (0,[],0,[],0)
  ⟨Jw _,⟨fun t ht=>by simp at ht,by simp⟩,by show SlM _ _ _ (l.take 0) [] 0;rw [List.take_zero];exact SlM.zero,by show SeM (l.take 0) [] 0;rw [List.take_zero];exact SeM.zero,by first|omega|(dsimp only;omega),by repeat(first|exact ae|refine ab (by omega) ?_),by repeat(first|exact ae|refine ab (by omega) ?_),by repeat(first|exact ae|refine ab (by omega) ?_),by repeat(exact ae),fun m hm=>by(repeat(refine ab (by omega) ?_));rfl⟩ (Kg (Kj rfl)) ?_
 rintro⟨i,m,c,o,c2⟩ H1 n1 ⟨i1,i2,i3,i4,i5,i6,i7,i8,i9,i10⟩ ih
 dsimp only at i1 i2 i3 i4 i5 i6 i7 i8 i9 i10 ⊢
 have r1:H1.at' r=some (py l):=(i10 r lR).trans hrow
 have b1:H1.at' b=some (cT mem left puts):=(i10 b lb).trans hb
 repeat apply ai;rfl
 refine bn rfl rfl rfl rfl (fun h5=>?_) (fun h5=>?_)
 ·have hi:i<l.length:=by omega
  have hcc:=uR hi
  repeat first|refine dq (q:=i) rfl rfl rfl rfl (F.un _ rfl) (F.sz _ rfl) (by assumption) (by omega) (by(omega)) (Jv _) ?_|(refine de rfl (.inr (fun _ h=>by cases h)) ((ba (F.ag _ rfl) rfl r1 hcc).does) ?_);rw [aK rfl]|apply ai;rfl|apply aG;rfl;(focus((repeat(exact ae));done));rfl
  refine cW (R:=fun H2 n2=>n2=n1+1∧H2.at' n1=some (tidB l[i])∧SlM H2 (nx+1+1+1+1) n1 (l.take i) m c∧H2.at' nx=some (fJ 0)∧H2.at' (nx+1)=some (je wj js m c)∧H2.at' (nx+1+1)=some (ER (nx+1))∧H2.at' (nx+1+1+1)=some (je tU wR o c2)∧ ∀ m,m<nx→H2.at' m=H.at' m) ⟨rfl,by repeat(exact ae),i3.frame (Jv _) fun r h1 h2=>by(repeat(refine ab (by omega) ?_));rfl,by repeat(first|assumption|refine ab (by omega) ?_),by repeat(first|assumption|refine ab (by omega) ?_),by repeat(first|assumption|refine ab (by omega) ?_),by repeat(first|assumption|refine ab (by omega) ?_),fun m hm=>by(repeat(refine ab (by omega) ?_));exact i10 m hm⟩ ?_
  rintro H2 n2 ⟨rfl,j0,j3,j6,j7,j8,j9,j10⟩
  clear i3 i6 i7 i8 i9 i10 r1 b1
  by_cases hmem:l[i]∈l.take i
  ·have hM:fY (az mem) l=(2,[]):=JH (by
    obtain⟨k,hk,he⟩:=List.getElem_of_mem hmem
    rw [JK] at hk
    exact vE hi (k:=k) (by omega) (by rw [← he,List.getElem_take]))
   have hg:gM o l[i]=some ():=by
    cases h:gM o l[i] with
    | some u=>rfl
    | none=>exact absurd ((i4.keys _).2 hmem) (ma.1 h)
   refine AJ (m:=o) (enc:=tU) (val:=wR) (c:=c2) rfl rfl rfl rfl (tT l[i]) (F.un _ rfl) ur (by assumption) hg ?_
   repeat first|apply ai;rfl|apply aG;rfl;(focus((repeat(first|assumption|exact ae|refine ab (by omega) ?_));done));rfl
   rw [hM,JH (by decide)]
   dsimp only [fZ]
   (refine ew Tryz.func21 (congrArg Array.toList Tryz.results21) (by kernel_rfl) (J9 sb ?_);rintro _ rfl;refine⟨_,(by(repeat(first|exact Kb|apply Kc rfl (Kf (F.ag _ rfl) (by repeat(exact ae)) (aB rfl))))),?_⟩;dsimp only;exact⟨rfl,by(repeat(refine ab (by omega) ?_));exact(j10 b lb).trans hb,by first|omega|(dsimp only;omega),fun m hm _=>by(repeat(refine ab (by omega) ?_));exact j10 m hm⟩)
  ·have hg:gM o l[i]=none:=by
    cases h:gM o l[i] with
    | none=>rfl
    | some u=>exact absurd ((i4.keys _).1 (by
       apply Classical.byContradiction
       intro h2
       rw [ma.2 h2] at h
       cases h)) hmem
   refine AK (m:=o) (enc:=tU) (val:=wR) (c:=c2) rfl rfl rfl rfl (tT l[i]) (F.un _ rfl) ur (by assumption) hg (F.ze _ rfl) ?_
   have hmy:=fun(H:au) nx=>zy (H:=H) (nx:=nx) (n:=(l[i]).1) (k:=(l[i]).2)
   cases hmay:mD (l[i]).1 (l[i]).2 with
   | false=>
     rw [hmay] at hmy
     have hM:fY (az mem) l=(2,[]):=JH (vG hi hmay)
     rw [hM,JH (by decide)]
     dsimp only [fZ]
     repeat first|apply ai;rfl|apply aG;rfl;(focus((repeat(first|assumption|exact ae|refine ab (by omega) ?_));done));rfl|refine GJ (cI (F.sz _ rfl) rfl rfl rfl (by repeat(first|assumption|exact ae)) (by rfl) (by exact Jh rfl) (by rfl)) rfl rfl ?_|apply bY;rfl;kernel_rfl;exact hmy _ _
     (refine ew Tryz.func21 (congrArg Array.toList Tryz.results21) (by kernel_rfl) (J9 sb ?_);rintro _ rfl;refine⟨_,(by(repeat(first|exact Kb|apply Kc rfl (Kf (F.ag _ rfl) (by repeat(exact ae)) (aB rfl))))),?_⟩;dsimp only;exact⟨rfl,by(repeat(refine ab (by omega) ?_));exact(j10 b lb).trans hb,by first|omega|(dsimp only;omega),fun m hm _=>by(repeat(refine ab (by omega) ?_));exact j10 m hm⟩)
   | true=>
     rw [hmay] at hmy
     have hok:=wH hi i2 hmay hmem
     have hse:=i4.add l[i]
     rw [← fN hi] at hse
     repeat first|apply ai;rfl|apply aG;rfl;(focus((repeat(first|assumption|exact ae|refine ab (by omega) ?_));done));rfl|refine GJ (cI (F.sz _ rfl) rfl rfl rfl (by repeat(first|assumption|exact ae)) (by rfl) (by exact Jh rfl) (by rfl)) rfl rfl ?_|apply bY;rfl;kernel_rfl;exact hmy _ _
     refine AI (m:=o) (enc:=tU) (val:=wR) (c:=c2) (v:=()) rfl rfl rfl (tT l[i]) (F.un _ rfl) ur (by repeat(first|assumption|refine ab (by omega) ?_)) rfl ?_
     repeat apply ai;rfl
     refine cW (R:=fun H3 n3=>n3=n1+1+1∧H3.at' n1=some (tidB l[i])∧SlM H3 (nx+1+1+1+1) n1 (l.take i) m c∧H3.at' nx=some (fJ 0)∧H3.at' (nx+1)=some (je wj js m c)∧H3.at' (nx+1+1)=some (ER (nx+1))∧H3.at' (nx+1+1+1)=some (je tU wR (gX o l[i] () c2) (pG o l[i] c2))∧ ∀ m,m<nx→H3.at' m=H.at' m) ⟨rfl,by repeat(first|assumption|refine ab (by omega) ?_),j3.frame (Jv _) fun r h1 h2=>by(repeat(refine ab (by omega) ?_));rfl,by repeat(first|assumption|refine ab (by omega) ?_),by repeat(first|assumption|refine ab (by omega) ?_),by repeat(first|assumption|refine ab (by omega) ?_),by repeat(exact ae),fun m hm=>by(repeat(refine ab (by omega) ?_));exact j10 m hm⟩ ?_
     rintro H3 n3 ⟨rfl,k0,k3,k6,k7,k8,k9,k10⟩
     clear j0 j3 j6 j7 j8 j9 j10 hmy
     rcases k3.get (l[i]).1 with ⟨g1,g2⟩|⟨rv,g1,g2,g3,g4⟩
     ·(apply bh;(focus(kernel_rfl));(focus(kernel_rfl)))
      repeat first|apply dw;rfl;assumption;rfl|refine BP (m:=m) (enc:=wj) (val:=js) rfl rfl rfl rfl (F.un _ rfl) (gY (F.un _ rfl)) (by assumption) (g1) (F.ze _ rfl) ?_|refine oZ (jc (F.un _ rfl) (F.sz _ rfl) (bQ rfl) (F.ze _ rfl) rfl rfl rfl rfl rfl) rfl rfl rfl ?_|refine iM rfl rfl (fun _ h=>by cases h) (mN (b:=8) (F.un _ rfl) (.inl ⟨_,F.un _ rfl⟩) (F.sz _ rfl) (by decide) (by kernel_rfl) (by kernel_rfl) rfl rfl (slRow (by repeat(exact ae)) rfl) (by rfl) (by omega) (by omega) (by omega)) ?_|refine wk (m:=m) (enc:=wj) (val:=js) (kk:=(l[i]).1) (v:=(n1+1+1+1,[(l[i]).2])) rfl rfl rfl (F.un _ rfl) (gY (F.un _ rfl)) (by repeat(first|assumption|refine ab (by omega) ?_)) rfl ?_|apply aS;rfl
      refine aA ⟨by kernel_rfl,?_,?_⟩;(focus(repeat(first|exact Kk|apply jU;rfl|apply gi;rfl;kernel_rfl|refine fX 0 rfl (by kernel_rfl) (by(repeat(refine⟨(by(exact am (F.ag _ rfl) rfl (by repeat(first|assumption|refine ab (by omega) ?_)) (aB rfl))),?_⟩));exact Kk) ?_|refine fX 1 rfl (by kernel_rfl) (by(repeat(refine⟨(by(exact ve (ok:=false) (enc:=wj) (val:=js) (m:=m) (c:=c) rfl rfl (F.un _ rfl) (gY (F.un _ rfl)) (by((focus((repeat(first|assumption|refine ab (by omega) ?_));done)))) g1 (F.ze _ rfl))),?_⟩));exact Kk) ?_)))
      repeat first|apply ai;rfl|apply aL;rfl;omega;omega
      have hadd:=fun(H4:au) n4 (h1:n1+1+1+1<n4) (h2:H4.at' (n1+1+1+1)=some (pY [(l[i]).2])) (h3: ∀ x,x<n1→nx+1+1+1+1≤x→H4.at' x=H3.at' x)=>k3.add (H':=H4) (nx':=n4) (r':=n1+1+1+1) (l[i]).1 (l[i]).2 i5 (by omega) h1 (by rw [g2];exact h2) fun x q1 q2 _=>h3 x q2 q1
      rw [g2,←fN hi] at hadd
      exact ih _ _ _ (i+1,gX m (l[i]).1 (n1+1+1+1,[(l[i]).2]) c,pG m (l[i]).1 c,gX o l[i] () c2,pG o l[i] c2) ⟨hi,hok,hadd _ _ (by(dsimp only;omega)) (by refine(aa _ _ (by omega)).trans ?_;exact(aj _ _ _).trans (congrArg some (yv _))) (fun x q1 q2=>by(repeat(refine ab (by omega) ?_));rfl),hse,by first|omega|(dsimp only;omega),by repeat(first|assumption|refine ab (by omega) ?_),by repeat(exact ae),by repeat(first|assumption|refine ab (by omega) ?_),by repeat(first|assumption|refine ab (by omega) ?_),fun m hm=>by(repeat(refine ab (by omega) ?_));exact k10 m hm⟩ (by dsimp only;omega) (Kg (Kj rfl))
     ·have hrl:(jt (l.take i) (l[i]).1).length≤50000:=by
       unfold jt
       rw [JL]
       refine JD (List.length_filter_le _ _) ?_
       rw [JK]
       omega
      generalize hlst:jt (l.take i) (l[i]).1=lst at g1 g4 hrl
      (apply bh;(focus(kernel_rfl));(focus(kernel_rfl)))
      repeat first|apply dw;rfl;assumption;rfl|refine BQ (m:=m) (enc:=wj) (val:=js) rfl rfl rfl rfl (F.un _ rfl) (gY (F.un _ rfl)) (by assumption) (g1) ?_|refine oZ (jc (F.un _ rfl) (F.sz _ rfl) (bQ rfl) (F.ze _ rfl) rfl rfl rfl rfl rfl) rfl rfl rfl ?_|refine iM rfl rfl (fun _ h=>by cases h) (za (A:=Int) (f:=rC) (xs:=lst) (a:=(l[i]).2) (b:=8) rfl rfl (F.un _ rfl) (.inl ⟨_,F.un _ rfl⟩) (F.sz _ rfl) (by decide) (by kernel_rfl) (by kernel_rfl) (by repeat(first|assumption|refine ab (by omega) ?_)) (by repeat(exact ae)) rfl th (by omega) (by omega)) ?_|refine wk (m:=m) (enc:=wj) (val:=js) (kk:=(l[i]).1) (v:=(n1+1+1+1,lst ++ [(l[i]).2])) rfl rfl rfl (F.un _ rfl) (gY (F.un _ rfl)) (by repeat(first|assumption|refine ab (by omega) ?_|refine cp (by omega) ?_)) rfl ?_|apply aS;rfl
      refine aA ⟨by kernel_rfl,?_,?_⟩;(focus(repeat(first|exact Kk|apply jU;rfl|apply gi;rfl;kernel_rfl|refine fX 0 rfl (by kernel_rfl) (by(repeat(refine⟨(by(exact am (F.ag _ rfl) rfl (by repeat(first|assumption|refine ab (by omega) ?_|refine cp (by omega) ?_)) (aB rfl))),?_⟩));exact Kk) ?_|refine fX 1 rfl (by kernel_rfl) (by(repeat(refine⟨(by(exact ua (ok:=false) (enc:=wj) (val:=js) (m:=m) (c:=c) rfl rfl (F.un _ rfl) (gY (F.un _ rfl)) (by((focus((repeat(first|assumption|refine ab (by omega) ?_|refine cp (by omega) ?_));done)))) g1)),?_⟩));exact Kk) ?_)))
      repeat first|apply ai;rfl|apply aL;rfl;omega;omega
      have hadd:=fun(H4:au) n4 (h1:n1+1+1+1<n4) (h2:H4.at' (n1+1+1+1)=some (pY (lst ++ [(l[i]).2]))) (h3: ∀ x,x<n1→nx+1+1+1+1≤x→x≠rv→H4.at' x=H3.at' x)=>k3.add (H':=H4) (nx':=n4) (r':=n1+1+1+1) (l[i]).1 (l[i]).2 i5 (by omega) h1 (by rw [hlst];exact h2) fun x q1 q2 q3=>h3 x q2 q1 fun e=>q3 lst (by rw [e];exact g1)
      rw [hlst,←fN hi] at hadd
      exact ih _ _ _ (i+1,gX m (l[i]).1 (n1+1+1+1,lst ++ [(l[i]).2]) c,pG m (l[i]).1 c,gX o l[i] () c2,pG o l[i] c2) ⟨hi,hok,hadd _ _ (by(dsimp only;omega)) (by repeat(first|exact ae|refine ab (by omega) ?_)) (fun x q1 q2 q3=>by(repeat(first|refine ab (by omega) ?_|refine cp (by omega) ?_));rfl),hse,by first|omega|(dsimp only;omega),by repeat(first|assumption|refine ab (by omega) ?_|refine cp (by omega) ?_),by repeat(exact ae),by repeat(first|assumption|refine ab (by omega) ?_|refine cp (by omega) ?_),by repeat(first|assumption|refine ab (by omega) ?_|refine cp (by omega) ?_),fun m hm=>by(repeat(first|refine ab (by omega) ?_|refine cp (by omega) ?_));exact k10 m hm⟩ (by dsimp only;omega) (Kg (Kj rfl))
 ·have hi:i=l.length:=by omega
  subst hi
  have hM:tO l:=by
   unfold OK1 at i2
   rw [List.take_length] at i2
   exact i2
  rw [List.take_length] at i3
  have hkey:=fun(ks:List Int) hp hs=>xj (ks:=ks) hM (K:=m.map (·.1)) hp i3.ok.keys hs i3.keys
  have hml:=i3.len
  repeat first|apply bY;rfl;kernel_rfl;exact xq js m c|apply ai;rfl|apply aG;rfl;assumption;rfl
  refine aI rfl rfl rfl (by kernel_rfl) (J9 (Bt js m c i3.ok (by omega) (by repeat(exact ae)) (b:=nx+1) (by repeat(first|assumption|refine ab (by omega) ?_)) (by omega) (by omega)) ?_)
  rintro⟨_,H7,n7⟩ hso
  obtain⟨nm,ks,hks,hsr,e1,u1,u2,u3,u4⟩:=hso
  dsimp only at e1
  subst e1
  dsimp only at u1 u2 u3 u4 ⊢
  have hk2:=hkey ks hks hsr
  subst hk2
  clear hkey hks hsr
  repeat apply ai;rfl
  refine kq 1024 27 (d:=12) (by repeat(first|exact ae|refine ab (by omega) ?_)) rfl ?_
  have hPL:=ud l
  have hnl:(jP (dm l)).length=(dm l).length:=JL _
  generalize hPG:dm l=PG at hPL hnl u3
  refine bC (α:=Nat×Nat) (fun x=> [(0,tM b),(4,.ptr nx 0),(5,.ptr (nx+1+1) 0),(11,.slu nm 0 (jP PG).length),(12,.slu x.2 0 ((PG.take x.1).map (dlP mem l)).length),(61,.slu nm 0 (jP PG).length),(62,.sc (.int .i64 ((jP PG).length:Int))),(63,.sc (.int .i64 (x.1:Int)))])
   (fun x H8 n8=>x.1≤PG.length∧(∀ n∈PG.take x.1,∀ k∈aM l n,ll (aU (az mem n)).1 k=true)∧n7≤x.2∧x.2<n8∧H8.at' x.2=some (pgR ((PG.take x.1).map (dlP mem l)))∧H8.at' nx=some (fJ 0)∧H8.at' (nx+1)=some (je wj js m c)∧H8.at' (nx+1+1)=some (ER (nx+1))∧H8.at' nm=some (pY (jP PG))∧(∀ n∈PG.drop x.1,∀ r ks,gM m (n:Int)=some (r,ks)→H8.at' r=some (pY ks))∧ ∀ m,m<nx→H8.at' m=H.at' m) (fun x=>PG.length-x.1) (0,n7)
   ⟨Jw _,fun n hn=>by simp at hn,Jv _,Nat.lt_succ_self _,aj _ _ _,by(repeat(refine ab (by omega) ?_));exact(u4 _ (by omega)).trans (by repeat(first|assumption|refine ab (by omega) ?_)),by(repeat(refine ab (by omega) ?_));exact(u4 _ (by omega)).trans (by repeat(first|assumption|refine ab (by omega) ?_)),by(repeat(refine ab (by omega) ?_));exact(u4 _ (by omega)).trans (by repeat(first|assumption|refine ab (by omega) ?_)),by(repeat(refine ab (by omega) ?_));exact u3,fun n _ r ks hg=>by
     obtain⟨_,q2,q3,q4⟩:=i3.val _ _ _ hg
     exact(aa _ _ (by omega)).trans ((u4 _ (by omega)).trans ((aa _ _ (by omega)).trans q4)),fun m hm=>by
     exact(aa _ _ (by omega)).trans ((u4 _ (by omega)).trans ((aa _ _ (by omega)).trans (i10 m hm)))⟩ (Kg (Kj rfl)) ?_
  clear u3 u4 i6 i7 i8 i9 i10 r1 b1
  rintro⟨j,rp⟩ H8 n8 ⟨j1,j2,j3,j4,j5,j6,j7,j8,j9,j10,j11⟩ ih2
  dsimp only at j1 j2 j3 j4 j5 j6 j7 j8 j9 j10 j11 ⊢
  repeat apply ai;rfl
  refine bn rfl rfl rfl rfl (fun h6=>?_) (fun h6=>?_)
  ·have hj:j<PG.length:=by omega
   have hcell:(pY (jP PG)).cell (j*1)=some (.sc (.int .i64 (PG[j]:Int))):=by
    have:=qT (l:=jP PG) (i:=j) (by omega)
    rwa [List.getElem_map] at this
   have hmemP:PG[j]∈dm l:=by rw [hPG];exact JF hj
   obtain⟨p1,p2,p3⟩:=dP.1 hmemP
   have hdr:PG.drop j=PG[j] :: PG.drop (j+1):=List.drop_eq_getElem_cons hj
   have htk:PG.take (j+1)=PG.take j ++ [PG[j]]:=List.take_succ_eq_append_getElem hj
   have hsN:=yq hM.1 PG[j]
   generalize hn:PG[j]=N at hcell hmemP p1 p2 p3 hdr htk hsN
   obtain⟨g1,g2⟩|⟨rv,g1,g2,g3,g4⟩:=i3.get (N:Int)
   ·exfalso
    rw [hsN] at g2
    exact p3 (List.map_eq_nil_iff.1 g2)
   ·rw [hsN] at g1
    have hrv:=j10 N (by rw [hdr];exact JO) rv _ g1
    have hSl:(jP (aM l N)).length=(aM l N).length:=JL _
    have hSb:(aM l N).length≤50000:=by
     unfold aM
     rw [JL]
     exact JD (List.length_filter_le _ _) hll
    have hsort:=AX (jP (aM l N)) (by omega)
    rw [← AW] at hsort
    repeat first|refine dq (q:=j) rfl rfl rfl rfl (F.un _ rfl) (F.sz _ rfl) j9 (by omega) (by omega) (by omega) ?_|refine cd (am (F.ag _ rfl) rfl j9 hcell) rfl rfl rfl ?_|apply ai;rfl|apply aG;rfl;(focus((repeat(first|assumption|exact ae|refine ab (by omega) ?_));done));rfl|refine xW (m:=m) (enc:=wj) (val:=js) rfl rfl rfl rfl (F.un _ rfl) (gY (F.un _ rfl)) (by repeat(first|assumption|refine ab (by omega) ?_)) (g1) ?_
    dsimp only [js]
    rw [hSl,←(gv (aM l N)).length_eq]
    have hln:(jP (aM l N)).length=(ym (aM l N)).length:=hSl.trans (gv (aM l N)).length_eq.symm
    rw [hln] at hsort
    refine cW (R:=fun HB nB=>nB=n8+1∧HB.at' n8=some (BC N)∧ ∀ m,m<n8→HB.at' m=H8.at' m) ⟨rfl,by repeat(exact ae),fun m hm=>by(repeat(refine ab (by omega) ?_));rfl⟩ ?_
    rintro HB nB ⟨rfl,k1,k2⟩
    have hrvB:HB.at' rv=some (pY (jP (aM l N))):=(k2 _ (by omega)).trans hrv
    (refine aI rfl rfl rfl (by kernel_rfl) (Ctr.C9 (hsort) [rv] rfl ⟨by intro n hn;simp at hn;omega,by simp;try omega⟩ rfl (by repeat(first|exact Kk|refine⟨aC (by assumption),?_⟩)) ?_);rintro _ rfl;refine⟨_,0,[rv],[some _],rfl,(by repeat(first|exact Kk|refine⟨lB _ _ _ _ _ _,?_⟩)),rfl,rfl,?_⟩;dsimp only [wrL])
    repeat first|apply ai;rfl|apply aG;rfl;(focus((repeat(first|assumption|refine ab (by omega) ?_));done));rfl
    obtain⟨q,hq,hgq⟩:=(hG N p1 p2).read
    have hwl:=nL (ym (aM l N))
    refine aI rfl rfl rfl (by kernel_rfl) (J9 (tj (b:=b) (n:=N) (mem:=mem) (left:=left) (puts:=puts) (by(repeat(refine ab (by omega) ?_));exact(k2 _ (by omega)).trans ((j11 b lb).trans hb)) hm p2 (g:=55) (caps:= [.ptr (nx+1+1) 0,.ptr n8 0]) (by kernel_rfl) (rP (ym (aM l N))) ?_) ?_)
    ·intro p HA nA hrd hnA ho
     rw [hq] at hrd
     cases hrd
     exact⟨hwl _ hgq.ok.len,G0 (mb:=nx+1) (tb:=nx+1+1) (nb:=n8) (rv:=rv) (n:=N) (c:=c) (m:=m) (ks:=jP (aM l N)) ((ho _ (by omega)).trans (by(repeat(refine ab (by omega) ?_));exact(k2 _ (by omega)).trans j8)) ((ho _ (by omega)).trans (by(repeat(refine ab (by omega) ?_));exact k1)) ((ho _ (by omega)).trans (by(repeat(refine ab (by omega) ?_));exact(k2 _ (by omega)).trans j7)) g1 ((ho _ (by omega)).trans (by repeat(exact ae))) hln (by omega) hgq.ok.len⟩
    ·rintro⟨_,H9,n9⟩ ⟨rfl,g5,g6⟩
     dsimp only at g5 g6 ⊢
     have hof:(aU (az mem N)).1=q:=by rw [hq]
     rw [hq,JG (fun h=>h rfl)]
     dsimp only
     rw [qm hgq.ok (fk hM N)]
     have hwo:=qm hgq.ok (fk hM N)
     have hwq:=hwl q hgq.ok.len
     by_cases hall: ∀ k∈aM l N,ll q k=true
     ·rw [JH hall] at hwo ⊢
      rw [hwo] at hwq
      have hdl:rI q (aM l N)=dlP mem l N:=by unfold dlP;rw [hof]
      rw [hdl] at hwq ⊢
      generalize hy:dlP mem l N=y at hwq ⊢
      dsimp only at hwq
      have hyl:(pgS y).length=1024:=by rw [JL,JL,hwq]
      refine cW (R:=fun HC nC=>nC=n9∧HC.at' rp=some (pgR ((PG.take j).map (dlP mem l)))∧HC.at' nx=some (fJ 0)∧HC.at' (nx+1)=some (je wj js m c)∧HC.at' (nx+1+1)=some (ER (nx+1))∧HC.at' nm=some (pY (jP PG))∧(∀ x,x<n8→x≠rv→HC.at' x=H8.at' x)) ⟨rfl,(g6 _ (by omega)).trans ((aa _ _ (by omega)).trans ((k2 _ (by omega)).trans j5)),(g6 _ (by omega)).trans ((aa _ _ (by omega)).trans ((k2 _ (by omega)).trans j6)),(g6 _ (by omega)).trans ((aa _ _ (by omega)).trans ((k2 _ (by omega)).trans j7)),(g6 _ (by omega)).trans ((aa _ _ (by omega)).trans ((k2 _ (by omega)).trans j8)),(g6 _ (by omega)).trans ((aa _ _ (by omega)).trans ((k2 _ (by omega)).trans j9)),fun x hx hxr=>(g6 _ (by omega)).trans ((aa _ _ hxr).trans (k2 _ hx))⟩ ?_
      rintro HC nC ⟨rfl,c5,c6,c7,c8,c9,c10⟩
      repeat first|refine a9 rfl rfl ci ?_|apply bu hwq;rfl;(focus((repeat(exact ae));done))|apply bA hwq ah;rfl;(focus((repeat(exact ae));done))|apply dM;rfl;rfl|refine bM (cs:=pgS y) rfl rfl (F.un _ rfl) (F.sz _ rfl) rfl zPgV rfl (Es (by simp) hwq) (iE y) rfl hyl ?_|apply ai;rfl
      refine lL (b:=1024) (f:=pgV) (xs:=(PG.take j).map (dlP mem l)) (a:=y) rfl rfl rfl rfl (F.un _ rfl) (.inl ⟨_,F.un _ rfl⟩) (F.sz _ rfl) rfl (by kernel_rfl) (by kernel_rfl) (by repeat(first|assumption|refine ab (by omega) ?_)) (by repeat(exact ae)) (by show pgS y=(byV (HF y)).map .sc;rw [z4 hwq]) y2 (by rw [JL,JK];omega) (by rw [JL,JK];omega) ?_
      have hxs:(PG.take j).map (dlP mem l) ++ [y]=(PG.take (j+1)).map (dlP mem l):=by rw [htk,JA,List.map_singleton,hy]
      rw [hxs]
      repeat first|apply ai;rfl|apply aL;rfl;omega;omega
      refine ih2 _ _ _ (j+1,_) ⟨hj,fun n hn=>?_,?_,Nat.lt_succ_self _,aj _ _ _,by repeat(first|assumption|refine ab (by omega) ?_|refine cp (by omega) ?_),by repeat(first|assumption|refine ab (by omega) ?_|refine cp (by omega) ?_),by repeat(first|assumption|refine ab (by omega) ?_|refine cp (by omega) ?_),by repeat(first|assumption|refine ab (by omega) ?_|refine cp (by omega) ?_),fun n hn r ks hg=>?_,fun m hm=>by(repeat(first|refine ab (by omega) ?_|refine cp (by omega) ?_));exact(c10 m (by omega) (by omega)).trans (j11 m hm)⟩ (by dsimp only;omega) (Kg (Kj rfl))
      ·rw [htk] at hn
       rcases List.mem_append.1 hn with hn|hn
       ·exact j2 n hn
       ·rw [JM.1 hn,hof]
        exact hall
      ·first|omega|(dsimp only;omega)
      ·have hn2:n∈PG.drop j:=by rw [hdr];exact JP _ hn
       have hne2:n≠N:=by
        intro e
        have hnd:(PG.drop j).Nodup:=by
         rw [← hPG]
         exact((lg l).imp fun h=>Nat.ne_of_lt h).sublist (List.drop_sublist _ _)
        rw [hdr,List.nodup_cons] at hnd
        exact hnd.1 (e ▸ hn)
       obtain⟨_,q2,q3,_⟩:=i3.val _ _ _ hg
       have hrr:=i3.sep _ _ _ _ _ _ hg g1 (by omega)
       have hold:=(c10 r (by omega) hrr).trans (j10 n hn2 r ks hg)
       (focus((repeat(first|refine ab (by omega) ?_|refine cp (by omega) ?_));exact hold))
     ·rw [JG hall]
      have hR:fY (az mem) l=(6,[]):=by
       unfold fY
       rw [JG (fun h=>h hM),JH (fun h=>hall (by
        have:=(mc hM).1 h N hmemP
        rwa [hof] at this))]
      rw [hR,JH (by decide)]
      dsimp only [fZ]
      have e6:H9.at' nx=some (fJ 0):=(g6 _ (by omega)).trans ((aa _ _ (by omega)).trans ((k2 _ (by omega)).trans j6))
      have eb:H9.at' b=some (cT mem left puts):=(g6 _ (by omega)).trans ((aa _ _ (by omega)).trans ((k2 _ (by omega)).trans ((j11 b lb).trans hb)))
      have eo: ∀ x,x<nx→H9.at' x=H.at' x:=fun x hx=>(g6 _ (by omega)).trans ((aa _ _ (by omega)).trans ((k2 _ (by omega)).trans (j11 x hx)))
      repeat first|refine a9 rfl rfl ci ?_|apply bA ah ah;rfl;(focus((repeat(exact ae));done))|apply iv;rfl;decide|apply ai;rfl|apply aG;rfl;(focus((repeat(first|assumption|refine ab (by omega) ?_));done));rfl
      (refine ew Tryz.func21 (congrArg Array.toList Tryz.results21) (by kernel_rfl) (J9 sb ?_);rintro _ rfl;refine⟨_,(by(repeat(first|exact Kb|apply Kc rfl (Kf (F.ag _ rfl) (by repeat(exact ae)) (aB rfl))))),?_⟩;dsimp only;exact⟨rfl,by(repeat(refine ab (by omega) ?_));exact eb,by first|omega|(dsimp only;omega),fun m hm _=>by(repeat(refine ab (by omega) ?_));exact eo m hm⟩)
  ·have hj:j=PG.length:=by omega
   subst hj
   rw [List.take_length] at j2 j5
   clear j10 ih2 ih
   have hR:fY (az mem) l=(0,PG.map fun n=>(n,dlP mem l n)):=by
    unfold fY
    rw [JG (fun h=>h hM),JG (fun h=>h ((mc hM).2 (by rw [hPG];exact j2))),hPG]
   rw [hR,JG (fun h=>h rfl)]
   dsimp only
   generalize hps:(PG.map fun n=>(n,dlP mem l n))=ps
   have hpl:ps.length=PG.length:=by rw [← hps,JL]
   have hpl2:(PG.map (dlP mem l)).length=PG.length:=JL _
   repeat apply ai;rfl
   rw [List.take_length]
   refine bC (α:=Nat×List UInt8×Int×Int) (fun x=> [(0,tM b),(4,.ptr nx 0),(12,.slu rp 0 (PG.map (dlP mem l)).length),(86,.slu nm 0 (jP PG).length),(87,.sc (.int .i64 ((jP PG).length:Int))),(88,.sc (.int .i64 (x.1:Int)))])
    (fun x H9 n9=>x.1≤PG.length∧fZ (ps.drop x.1) x.2.1 x.2.2.1 x.2.2.2=fZ ps mem left puts∧x.2.1.length=131072∧(left-x.1≤x.2.2.1∧x.2.2.1≤left)∧(puts≤x.2.2.2∧x.2.2.2≤puts+x.1)∧n8≤n9∧H9.at' b=some (cT x.2.1 x.2.2.1 x.2.2.2)∧H9.at' nx=some (fJ 0)∧H9.at' nm=some (pY (jP PG))∧H9.at' rp=some (pgR (PG.map (dlP mem l)))∧ ∀ m,m<nx→m≠b→H9.at' m=H.at' m) (fun x=>PG.length-x.1) (0,mem,left,puts)
    ⟨Jw _,rfl,hm,by dsimp only;omega,by dsimp only;omega,Jv _,(j11 b lb).trans hb,j6,j9,j5,fun m hm _=>j11 m hm⟩ (Kg (Kj rfl)) ?_
   rintro⟨q,me,le,pu⟩ H9 n9 ⟨q1,q2,q3,⟨q4,q5⟩,⟨q6,q7⟩,q8,q9,q10,q11,q12,q13⟩ ih3
   dsimp only at q1 q2 q3 q4 q5 q6 q7 q8 q9 q10 q11 q12 q13 ⊢
   repeat apply ai;rfl
   refine bn rfl rfl rfl rfl (fun h7=>?_) (fun h7=>?_)
   ·have hj:q<PG.length:=by omega
    have hcell:(pY (jP PG)).cell (q*1)=some (.sc (.int .i64 (PG[q]:Int))):=by
     have:=qT (l:=jP PG) (i:=q) (by omega)
     rwa [List.getElem_map] at this
    have hmemP:PG[q]∈dm l:=by rw [hPG];exact JF hj
    obtain⟨p1,p2,p3⟩:=dP.1 hmemP
    have hlen:(dlP mem l PG[q]).length=1024:=by
     obtain⟨z,hz,hgz⟩:=(hG PG[q] p1 p2).read
     have hwo:=qm hgz.ok (fk hM PG[q])
     have hwq:=nL (ym (aM l PG[q])) z hgz.ok.len
     have hz2:(aU (az mem PG[q])).1=z:=by rw [hz]
     have hall:=j2 PG[q] (JF hj)
     rw [hz2] at hall
     rw [hwo,JH hall] at hwq
     unfold dlP
     rw [hz2]
     exact hwq
    have hpc:=y3 (l:=PG.map (dlP mem l)) (i:=q) (by omega) (by rw [List.getElem_map];exact hlen)
    rw [List.getElem_map] at hpc
    have hdr:ps.drop q=(PG[q],dlP mem l PG[q]) :: ps.drop (q+1):=by
     rw [List.drop_eq_getElem_cons (by omega)]
     congr 1
     subst hps
     rw [List.getElem_map]
    rw [hdr] at q2
    generalize PG[q]=N at hcell hmemP p1 p2 p3 hdr hlen hpc q2
    generalize dlP mem l N=y at hlen hpc q2
    have hput:fZ ((N,y) :: ps.drop (q+1)) me le pu=if le=0 then(8,me,le,pu) else fZ (ps.drop (q+1)) (f8 me N y) (le-1) (pu+1):=rfl
    repeat first|refine dq (q:=q) rfl rfl rfl rfl (F.un _ rfl) (F.sz _ rfl) q11 (by omega) (by omega) (by omega) ?_|refine cd (am (F.ag _ rfl) rfl q11 hcell) rfl rfl rfl ?_|apply ai;rfl
    (apply bh;(focus(kernel_rfl));(focus(kernel_rfl)))
    repeat first|apply aS;rfl|refine aH (q:=q) rfl rfl rfl rfl (F.un _ rfl) (F.sz _ rfl) (by assumption) (by omega) (by(omega)) (Jv _) ?_|refine bj (ba (F.ag _ rfl) rfl q12 hpc) rfl rfl rfl ?_
    by_cases hle:le=0
    ·subst hle
     rw [← q2,hput,JH rfl]
     refine te 141 rfl rfl rfl rfl (by kernel_rfl) (vp (n:=N) (x:=y) q9 q3 p2 hlen) ?_
     repeat apply aS;rfl
     refine aA ⟨by kernel_rfl,?_,?_⟩;(focus(repeat(first|exact Kk|apply jU;rfl|apply gi;rfl;kernel_rfl|apply lJ;kernel_rfl)))
     dsimp only
     repeat first|apply iv;rfl;decide|apply ai;rfl|apply aG;rfl;assumption;rfl
     (refine ew Tryz.func21 (congrArg Array.toList Tryz.results21) (by kernel_rfl) (J9 sb ?_);rintro _ rfl;refine⟨_,(by(repeat(first|exact Kb|apply Kc rfl (Kf (F.ag _ rfl) (by repeat(exact ae)) (aB rfl))))),?_⟩;dsimp only;exact⟨rfl,by(repeat(refine ab (by omega) ?_));exact q9,by first|omega|(dsimp only;omega),fun m hm hmb=>by(repeat(refine ab (by omega) ?_));exact q13 m hm hmb⟩)
    ·rw [hput,JG hle] at q2
     refine te 141 rfl rfl rfl rfl (by kernel_rfl) (Fnc.Cg q9 (w7 _ _ _) (vj (n:=N) (x:=y) q9 q3 p2 hlen hle (by omega) (by omega))) ?_
     repeat apply aS;rfl
     refine aA ⟨by kernel_rfl,?_,?_⟩;(focus(repeat(first|exact Kk|apply jU;rfl|apply gi;rfl;kernel_rfl|apply lJ;kernel_rfl)))
     dsimp only
     repeat first|apply dM;rfl;rfl|apply ai;rfl|apply aL;rfl;omega;omega
     exact ih3 _ _ _ (q+1,f8 me N y,le-1,pu+1) ⟨hj,q2,lP q3 p2 hlen,by first|omega|(dsimp only;omega),by first|omega|(dsimp only;omega),by first|omega|(dsimp only;omega),by repeat(exact ae),by repeat(first|assumption|refine ab (by omega) ?_),by repeat(first|assumption|refine ab (by omega) ?_),by repeat(first|assumption|refine ab (by omega) ?_),fun m hm hmb=>by(repeat(refine ab (by omega) ?_));exact q13 m hm hmb⟩ (by dsimp only;omega) (Kg (Kj rfl))
   ·have hj:q=ps.length:=by omega
    subst hj
    rw [List.drop_length] at q2
    rw [← q2]
    dsimp only [fZ]
    repeat first|apply ai;rfl|apply aG;rfl;assumption;rfl
    (refine ew Tryz.func21 (congrArg Array.toList Tryz.results21) (by kernel_rfl) (J9 sb ?_);rintro _ rfl;refine⟨_,(by(repeat(first|exact Kb|apply Kc rfl (Kf (F.ag _ rfl) (by repeat(exact ae)) (aB rfl))))),?_⟩;dsimp only;exact⟨rfl,by(repeat(refine ab (by omega) ?_));exact q9,by first|omega|(dsimp only;omega),fun m hm hmb=>by(repeat(refine ab (by omega) ?_));exact q13 m hm hmb⟩)
theorem qX(n:Nat):(if n≠0 then n else 0)=n:=by
 split <;> omega
theorem lU(pf:Nat→List UInt8)(l:List (Int×Int)):((fY pf l).1≠0∧(fY pf l).2= [])∨(fY pf l).1=0:=by
 unfold fY
 split
 ·exact .inl ⟨by decide,rfl⟩
 ·split
  ·exact .inl ⟨by decide,rfl⟩
  ·exact .inr rfl
theorem do3_s{h:Nat}{x:nZ}(hb:H.at' b=some (cT mem left puts))(hh:H.at' h=some (hpO (dD mem)))(hne:b≠h)(hv:Hv mem)(hx:AC H nx b h x)(hk:x.1.kind=3)(hl : -900000≤left∧left<0)(hp:0≤puts∧puts≤900000):Fnc Tryz.prog 9 [.ptr b 0,.ptr h 0,.agg (rJ x)] H nx (qk H nx b h mem left puts):=by
 have hx0:=hx H fun _ _ _ _=>rfl
 have hone:bp (rJ x)=true:=by simp only [bp,cX hx0.1,cX hx0.2];rfl
 refine Ka Tryz.func9 rfl rfl ?_
 refine aX fun hund=>?_
 have lb:=hund _ _ hb
 have lh:=hund _ _ hh
 obtain⟨rows,hal,hrl,hrn⟩:=kn hv
 have hdoc:Aw (dfH (dD mem))=some rows:=(my fun n a b=>fx hv a b).trans hal
 repeat apply ai;rfl
 refine aI rfl rfl rfl (by kernel_rfl) (J9 (pk (hm:=dD mem) (by repeat(first|assumption|refine ab (by omega) ?_)) (dG hv.len)) ?_)
 rintro⟨_,H1,n1⟩ ⟨u1,u2,⟨u3,_⟩|⟨rows',s,rr,u3,rfl,u4⟩⟩
 ·rw [hdoc] at u3
  cases u3
 rw [hdoc] at u3
 cases u3
 dsimp only at u1 u2 u4 ⊢
 have c1:H1.at' nx=some (tE x):=(u2 nx (by omega)).trans (by repeat(exact ae))
 have cb:H1.at' b=some (cT mem left puts):=(u2 b (by omega)).trans (by repeat(first|assumption|refine ab (by omega) ?_))
 have ch:H1.at' h=some (hpO (dD mem)):=(u2 h (by omega)).trans (by repeat(first|assumption|refine ab (by omega) ?_))
 have co: ∀ m,m<nx→H1.at' m=H.at' m:=fun m hm=>(u2 m (by omega)).trans (by(repeat(refine ab (by omega) ?_));rfl)
 repeat first|refine cV rfl rfl rfl (F.ag _ rfl) cb (dl hv.len _ _) ?_|apply ai;rfl|apply aG;rfl;assumption;rfl
 repeat first|apply ai;rfl|apply iv;rfl;omega
 refine cF rfl rfl rfl rfl (fun _=>?_) (fun e=>absurd hk (by omega))
 repeat first|apply ai;rfl|apply aG;rfl;assumption;rfl
 have hr0:=yG x.1.place (L:=7) (by decide)
 generalize hr1:x.1.place.tmod ((7:Nat):Int)=p1 at hr0
 obtain⟨j,hj,hr2⟩:=CC (p1+7) (L:=7) (by decide) (by omega)
 refine rQ (c:=p1) rfl rfl rfl rfl (by decide) hr1 ?_
 repeat apply aL;rfl;omega;omega
 refine rQ (c:=(j:Int)) rfl rfl rfl rfl (by decide) hr2 ?_
 repeat first|apply ai;rfl|apply aL;rfl;omega;omega
 rw [show(2:Int)+(j:Int)=((j+2:Nat):Int) by omega,show((j+2:Nat):Int)-1=((j+2-1:Nat):Int) by omega]
 have hst1:2≤j+2:=by omega
 have hst2:j+2≤8:=by omega
 generalize j+2=st at hst1 hst2 ⊢
 rcases u4 with ⟨hrz,rfl⟩|⟨ws,L,hL0,rfl,hrw,hrL,hrr,hC⟩
 ·have hz:rows.length=0:=by rw [hrz];rfl
  refine kq 2 40 (d:=17) (by repeat(first|exact ae|refine ab (by omega) ?_)) rfl ?_
  refine bC (α:=Nat×Nat×List (Int×Int)) (fun x=> [(0,.ptr b 0),(1,.ptr h 0),(5,.ptr nx 0),(6,.sc (.bool false)),(7,dC),(9,.sc (.int .i64 puts)),(17,.slu x.2.1 0 x.2.2.length),(18,.sc (.int .i64 (st:Int))),(19,.sc (.int .i64 (x.1:Int)))])
   (fun x H8 n8=>x.2.2.length≤x.1∧x.1≤rows.length+8∧n1≤x.2.1∧x.2.1<n8∧H8.at' x.2.1=some (py x.2.2)∧ ∀ m,m<n1→H8.at' m=H1.at' m) (fun x=>rows.length+8-x.1) (st-1,n1,[]) ⟨Jw _,by dsimp only;omega,Jv _,Nat.lt_succ_self _,aj _ _ _,fun m hm=>by(repeat(refine ab (by omega) ?_));rfl⟩ (Kg (Kj rfl)) ?_
  rintro⟨i,rp,l⟩ H8 n8 ⟨i1,i2,i3,i4,kr,kF⟩ ih
  dsimp only at i1 i2 i3 i4 kr kF ⊢
  have kA:H8.at' nx=some (tE x):=(kF nx (by omega)).trans c1
  have kb:H8.at' b=some (cT mem left puts):=(kF b (by omega)).trans cb
  have kh:H8.at' h=some (hpO (dD mem)):=(kF h (by omega)).trans ch
  have ko: ∀ m,m<nx→H8.at' m=H.at' m:=fun m hm=>(kF m (by omega)).trans (co m hm)
  repeat first|refine cd (oz (F.un _ rfl) rfl) rfl rfl rfl ?_|apply ai;rfl
  refine bn rfl rfl rfl rfl (fun e=>absurd e (by omega)) (fun _=>?_)
  repeat first|apply ai;rfl|apply cx;rfl|apply aG;rfl;assumption;rfl
  cases hod:x.1.odd with
  | false=>
    repeat apply ai;rfl
    refine aI rfl rfl rfl (by kernel_rfl) (J9 (A7 (b:=b) (r:=rp) (l:=l) (mem:=mem) (left:=left) (puts:=puts) kb hv.len kr (by omega) (by omega) hv.good (by omega) (by omega)) ?_)
    rintro⟨_,H2,n2⟩ ⟨rfl,d2,d3,d4⟩
    rw [iD _ _ _ _ hl.2] at d2 ⊢
    dsimp only at d2 d3 d4 ⊢
    have hif:=qX (fY (az mem) l).1
    rw [hif]
    have e1:H2.at' rp=some (py l):=(d4 _ (by omega) (by omega)).trans kr
    have e2:H2.at' h=some (hpO (dD mem)):=(d4 _ (by omega) (Ne.symm hne)).trans kh
    have e3: ∀ m,m<nx→m≠b→H2.at' m=H.at' m:=fun m hm hmb=>(d4 _ (by omega) hmb).trans (ko m hm)
    have hc:=lU (az mem) l
    have hdI:fY (dfH (dD mem)) l=fY (az mem) l:=nN (fun n a b=>fx hv a b) _
    have htc:=qu hv (l:=l)
    have hgd:=kD hv (l:=l)
    have hle:=qB (pf:=az mem) (l:=l)
    generalize fY (az mem) l=I at hc hdI hgd hle htc d2 ⊢
    obtain⟨hv2,hdoc2⟩:=oC hv hgd
    repeat apply ai;rfl
    refine aI rfl rfl rfl (by kernel_rfl) (J9 (qC (hb:=h) (r:=rp) (l:=l) (hm:=dD mem) e2 (dG hv.len) e1 (by omega) (by omega) (fun n a c=>by rw [fx hv a c];exact hv.good n a c)) ?_)
    rintro⟨_,H3,n3⟩ ⟨rfl,f2,f3,f4⟩
    dsimp only at f2 f3 f4 ⊢
    rw [hdI] at f2 ⊢
    rw [← hdoc2] at f2
    have g2:H3.at' b=some (cT (oD mem I.2) (left-I.2.length) (puts+I.2.length)):=(f4 _ (by omega) hne).trans d2
    have g3: ∀ m,m<nx→m≠b→m≠h→H3.at' m=H.at' m:=fun m hm hmb hmh=>(f4 _ (by omega) hmh).trans (e3 m hm hmb)
    clear d4 f4
    rcases hc with ⟨hc1,hc2⟩|hc1
    ·rw [hc2] at g2
     repeat first|refine cV rfl rfl rfl (F.ag _ rfl) g2 (dl (by rw [← hc2];exact hv2.len) _ _) ?_|apply iv;rfl;omega|apply dM;rfl;rfl|refine cF rfl rfl rfl rfl (fun _=>?_) (fun e=>absurd (by simp) e)|apply ai;rfl
     (apply bP Tryz.func9 Tryz.results9;rfl)
     rw [← hc2] at g2
     exact⟨rfl,_,_,_,g2,f2,hv2,⟨by omega,by omega⟩,⟨by omega,by omega⟩,by first|omega|(dsimp only;omega),g3,htc⟩
    ·repeat first|apply dM;rfl;rfl|apply dM;rfl;omega|apply ai;rfl
     (apply bP Tryz.func9 Tryz.results9;rfl)
     exact⟨rfl,_,_,_,g2,f2,hv2,⟨by omega,by omega⟩,⟨by omega,by omega⟩,by first|omega|(dsimp only;omega),g3,htc⟩
  | true=>
    repeat first|refine eU rfl rfl rfl (F.ag _ rfl) kA (iQ x) ?_|apply bM;rfl;rfl;exact(F.un _ rfl);exact(F.sz _ rfl);rfl;exact(F.ze _ rfl);rfl;rfl;rfl;rfl;rfl|apply ai;rfl
    refine lL (b:=16) (xs:=l) (a:=x.1.tid) rfl rfl rfl rfl (F.un _ rfl) (.inl ⟨_,F.un _ rfl⟩) (F.sz _ rfl) rfl (by kernel_rfl) (by kernel_rfl) (by repeat(first|assumption|refine ab (by omega) ?_)) (by repeat(exact ae)) (by rfl) (tS) (by omega) (by omega) ?_
    refine cW (R:=fun HC nC=>nC=n8+1+1∧HC.at' (n8+1)=some (py (l ++ [x.1.tid]))∧HC.at' b=some (cT mem left puts)∧HC.at' h=some (hpO (dD mem))∧ ∀ m,m<nx→HC.at' m=H.at' m) ⟨rfl,by repeat(exact ae),by(repeat(first|refine ab (by omega) ?_|refine cp (by omega) ?_));exact kb,by(repeat(first|refine ab (by omega) ?_|refine cp (by omega) ?_));exact kh,fun m hm=>by(repeat(first|refine ab (by omega) ?_|refine cp (by omega) ?_));exact ko m hm⟩ ?_
    rintro HC nC ⟨rfl,t1,t2,t3,t4⟩
    repeat apply ai;rfl
    refine aI rfl rfl rfl (by kernel_rfl) (J9 (A7 (b:=b) (r:=(n8+1)) (l:=(l ++ [x.1.tid])) (mem:=mem) (left:=left) (puts:=puts) t2 hv.len t1 (by omega) (by rw [Jz,List.length_singleton];omega) hv.good (by omega) (by omega)) ?_)
    rintro⟨_,H2,n2⟩ ⟨rfl,d2,d3,d4⟩
    rw [iD _ _ _ _ hl.2] at d2 ⊢
    dsimp only at d2 d3 d4 ⊢
    have hif:=qX (fY (az mem) (l ++ [x.1.tid])).1
    rw [hif]
    have e1:H2.at' (n8+1)=some (py (l ++ [x.1.tid])):=(d4 _ (by omega) (by omega)).trans t1
    have e2:H2.at' h=some (hpO (dD mem)):=(d4 _ (by omega) (Ne.symm hne)).trans t3
    have e3: ∀ m,m<nx→m≠b→H2.at' m=H.at' m:=fun m hm hmb=>(d4 _ (by omega) hmb).trans (t4 m hm)
    have hc:=lU (az mem) (l ++ [x.1.tid])
    have hdI:fY (dfH (dD mem)) (l ++ [x.1.tid])=fY (az mem) (l ++ [x.1.tid]):=nN (fun n a b=>fx hv a b) _
    have htc:=qu hv (l:=(l ++ [x.1.tid]))
    have hgd:=kD hv (l:=(l ++ [x.1.tid]))
    have hle:=qB (pf:=az mem) (l:=(l ++ [x.1.tid]))
    generalize fY (az mem) (l ++ [x.1.tid])=I at hc hdI hgd hle htc d2 ⊢
    obtain⟨hv2,hdoc2⟩:=oC hv hgd
    repeat apply ai;rfl
    refine aI rfl rfl rfl (by kernel_rfl) (J9 (qC (hb:=h) (r:=(n8+1)) (l:=(l ++ [x.1.tid])) (hm:=dD mem) e2 (dG hv.len) e1 (by omega) (by rw [Jz,List.length_singleton];omega) (fun n a c=>by rw [fx hv a c];exact hv.good n a c)) ?_)
    rintro⟨_,H3,n3⟩ ⟨rfl,f2,f3,f4⟩
    dsimp only at f2 f3 f4 ⊢
    rw [hdI] at f2 ⊢
    rw [← hdoc2] at f2
    have g2:H3.at' b=some (cT (oD mem I.2) (left-I.2.length) (puts+I.2.length)):=(f4 _ (by omega) hne).trans d2
    have g3: ∀ m,m<nx→m≠b→m≠h→H3.at' m=H.at' m:=fun m hm hmb hmh=>(f4 _ (by omega) hmh).trans (e3 m hm hmb)
    clear d4 f4
    rcases hc with ⟨hc1,hc2⟩|hc1
    ·rw [hc2] at g2
     repeat first|refine cV rfl rfl rfl (F.ag _ rfl) g2 (dl (by rw [← hc2];exact hv2.len) _ _) ?_|apply iv;rfl;omega|apply dM;rfl;rfl|refine cF rfl rfl rfl rfl (fun _=>?_) (fun e=>absurd (by simp) e)|apply ai;rfl
     (apply bP Tryz.func9 Tryz.results9;rfl)
     rw [← hc2] at g2
     exact⟨rfl,_,_,_,g2,f2,hv2,⟨by omega,by omega⟩,⟨by omega,by omega⟩,by first|omega|(dsimp only;omega),g3,htc⟩
    ·repeat first|apply dM;rfl;rfl|apply dM;rfl;omega|apply ai;rfl
     (apply bP Tryz.func9 Tryz.results9;rfl)
     exact⟨rfl,_,_,_,g2,f2,hv2,⟨by omega,by omega⟩,⟨by omega,by omega⟩,by first|omega|(dsimp only;omega),g3,htc⟩
 ·skip
  refine kq 2 40 (d:=17) (by repeat(first|exact ae|refine ab (by omega) ?_)) rfl ?_
  refine bC (α:=Nat×Nat×List (Int×Int)) (fun x=> [(0,.ptr b 0),(1,.ptr h 0),(5,.ptr nx 0),(6,.sc (.bool false)),(7,.slu rr 0 rows.length),(9,.sc (.int .i64 puts)),(17,.slu x.2.1 0 x.2.2.length),(18,.sc (.int .i64 (st:Int))),(19,.sc (.int .i64 (x.1:Int)))])
   (fun x H8 n8=>x.2.2.length≤x.1∧x.1≤rows.length+8∧n1≤x.2.1∧x.2.1<n8∧H8.at' x.2.1=some (py x.2.2)∧ ∀ m,m<n1→H8.at' m=H1.at' m) (fun x=>rows.length+8-x.1) (st-1,n1,[]) ⟨Jw _,by dsimp only;omega,Jv _,Nat.lt_succ_self _,aj _ _ _,fun m hm=>by(repeat(refine ab (by omega) ?_));rfl⟩ (Kg (Kj rfl)) ?_
  rintro⟨i,rp,l⟩ H8 n8 ⟨i1,i2,i3,i4,kr,kF⟩ ih
  dsimp only at i1 i2 i3 i4 kr kF ⊢
  have kA:H8.at' nx=some (tE x):=(kF nx (by omega)).trans c1
  have kb:H8.at' b=some (cT mem left puts):=(kF b (by omega)).trans cb
  have kh:H8.at' h=some (hpO (dD mem)):=(kF h (by omega)).trans ch
  have ko: ∀ m,m<nx→H8.at' m=H.at' m:=fun m hm=>(kF m (by omega)).trans (co m hm)
  repeat apply ai;rfl
  refine bn rfl rfl rfl rfl (fun h5=>?_) (fun h5=>?_)
  ·have hi:i<rows.length:=by omega
   obtain⟨a1,a2,ra,_,x1,x2,x3,x4⟩:=hC.cells hi
   have hrw8:H8.at' rr=some (nz false rows.length 6 67 ws):=(kF rr (by omega)).trans hrw
   repeat first|refine dq (q:=i) rfl rfl rfl rfl (F.un _ rfl) (F.sz _ rfl) hrw8 (by omega) (by omega) (Jv _) ?_|refine eU rfl rfl rfl (F.ag _ rfl) hrw8 x3 ?_|apply bM;rfl;rfl;exact(F.un _ rfl);exact(F.sz _ rfl);rfl;exact(F.ze _ rfl);rfl;rfl;rfl;rfl;rfl|apply ai;rfl
   refine lL (b:=16) (xs:=l) (a:=(((rows[i]).1.1:Int),((rows[i]).1.2:Int))) rfl rfl rfl rfl (F.un _ rfl) (.inl ⟨_,F.un _ rfl⟩) (F.sz _ rfl) rfl (by kernel_rfl) (by kernel_rfl) (by repeat(first|assumption|refine ab (by omega) ?_)) (by repeat(exact ae)) (by rfl) (tS) (by omega) (by omega) ?_
   repeat first|apply ai;rfl|apply aL;rfl;omega;omega
   exact ih _ _ _ (i+st,n8+1,l ++ [(((rows[i]).1.1:Int),((rows[i]).1.2:Int))]) ⟨by rw [Jz,List.length_singleton];dsimp only;omega,by dsimp only;omega,by dsimp only;omega,by first|omega|(dsimp only;omega),by repeat(exact ae),fun m hm=>by(repeat(first|refine ab (by omega) ?_|refine cp (by omega) ?_));exact kF m hm⟩ (by dsimp only;omega) (Kg (Kj rfl))
  ·skip
   repeat first|apply ai;rfl|apply cx;rfl|apply aG;rfl;assumption;rfl
   cases hod:x.1.odd with
   | false=>
     repeat apply ai;rfl
     refine aI rfl rfl rfl (by kernel_rfl) (J9 (A7 (b:=b) (r:=rp) (l:=l) (mem:=mem) (left:=left) (puts:=puts) kb hv.len kr (by omega) (by omega) hv.good (by omega) (by omega)) ?_)
     rintro⟨_,H2,n2⟩ ⟨rfl,d2,d3,d4⟩
     rw [iD _ _ _ _ hl.2] at d2 ⊢
     dsimp only at d2 d3 d4 ⊢
     have hif:=qX (fY (az mem) l).1
     rw [hif]
     have e1:H2.at' rp=some (py l):=(d4 _ (by omega) (by omega)).trans kr
     have e2:H2.at' h=some (hpO (dD mem)):=(d4 _ (by omega) (Ne.symm hne)).trans kh
     have e3: ∀ m,m<nx→m≠b→H2.at' m=H.at' m:=fun m hm hmb=>(d4 _ (by omega) hmb).trans (ko m hm)
     have hc:=lU (az mem) l
     have hdI:fY (dfH (dD mem)) l=fY (az mem) l:=nN (fun n a b=>fx hv a b) _
     have htc:=qu hv (l:=l)
     have hgd:=kD hv (l:=l)
     have hle:=qB (pf:=az mem) (l:=l)
     generalize fY (az mem) l=I at hc hdI hgd hle htc d2 ⊢
     obtain⟨hv2,hdoc2⟩:=oC hv hgd
     repeat apply ai;rfl
     refine aI rfl rfl rfl (by kernel_rfl) (J9 (qC (hb:=h) (r:=rp) (l:=l) (hm:=dD mem) e2 (dG hv.len) e1 (by omega) (by omega) (fun n a c=>by rw [fx hv a c];exact hv.good n a c)) ?_)
     rintro⟨_,H3,n3⟩ ⟨rfl,f2,f3,f4⟩
     dsimp only at f2 f3 f4 ⊢
     rw [hdI] at f2 ⊢
     rw [← hdoc2] at f2
     have g2:H3.at' b=some (cT (oD mem I.2) (left-I.2.length) (puts+I.2.length)):=(f4 _ (by omega) hne).trans d2
     have g3: ∀ m,m<nx→m≠b→m≠h→H3.at' m=H.at' m:=fun m hm hmb hmh=>(f4 _ (by omega) hmh).trans (e3 m hm hmb)
     clear d4 f4
     rcases hc with ⟨hc1,hc2⟩|hc1
     ·rw [hc2] at g2
      repeat first|refine cV rfl rfl rfl (F.ag _ rfl) g2 (dl (by rw [← hc2];exact hv2.len) _ _) ?_|apply iv;rfl;omega|apply dM;rfl;rfl|refine cF rfl rfl rfl rfl (fun _=>?_) (fun e=>absurd (by simp) e)|apply ai;rfl
      (apply bP Tryz.func9 Tryz.results9;rfl)
      rw [← hc2] at g2
      exact⟨rfl,_,_,_,g2,f2,hv2,⟨by omega,by omega⟩,⟨by omega,by omega⟩,by first|omega|(dsimp only;omega),g3,htc⟩
     ·repeat first|apply dM;rfl;rfl|apply dM;rfl;omega|apply ai;rfl
      (apply bP Tryz.func9 Tryz.results9;rfl)
      exact⟨rfl,_,_,_,g2,f2,hv2,⟨by omega,by omega⟩,⟨by omega,by omega⟩,by first|omega|(dsimp only;omega),g3,htc⟩
   | true=>
     repeat first|refine eU rfl rfl rfl (F.ag _ rfl) kA (iQ x) ?_|apply bM;rfl;rfl;exact(F.un _ rfl);exact(F.sz _ rfl);rfl;exact(F.ze _ rfl);rfl;rfl;rfl;rfl;rfl|apply ai;rfl
     refine lL (b:=16) (xs:=l) (a:=x.1.tid) rfl rfl rfl rfl (F.un _ rfl) (.inl ⟨_,F.un _ rfl⟩) (F.sz _ rfl) rfl (by kernel_rfl) (by kernel_rfl) (by repeat(first|assumption|refine ab (by omega) ?_)) (by repeat(exact ae)) (by rfl) (tS) (by omega) (by omega) ?_
     refine cW (R:=fun HC nC=>nC=n8+1+1∧HC.at' (n8+1)=some (py (l ++ [x.1.tid]))∧HC.at' b=some (cT mem left puts)∧HC.at' h=some (hpO (dD mem))∧ ∀ m,m<nx→HC.at' m=H.at' m) ⟨rfl,by repeat(exact ae),by(repeat(first|refine ab (by omega) ?_|refine cp (by omega) ?_));exact kb,by(repeat(first|refine ab (by omega) ?_|refine cp (by omega) ?_));exact kh,fun m hm=>by(repeat(first|refine ab (by omega) ?_|refine cp (by omega) ?_));exact ko m hm⟩ ?_
     rintro HC nC ⟨rfl,t1,t2,t3,t4⟩
     repeat apply ai;rfl
     refine aI rfl rfl rfl (by kernel_rfl) (J9 (A7 (b:=b) (r:=(n8+1)) (l:=(l ++ [x.1.tid])) (mem:=mem) (left:=left) (puts:=puts) t2 hv.len t1 (by omega) (by rw [Jz,List.length_singleton];omega) hv.good (by omega) (by omega)) ?_)
     rintro⟨_,H2,n2⟩ ⟨rfl,d2,d3,d4⟩
     rw [iD _ _ _ _ hl.2] at d2 ⊢
     dsimp only at d2 d3 d4 ⊢
     have hif:=qX (fY (az mem) (l ++ [x.1.tid])).1
     rw [hif]
     have e1:H2.at' (n8+1)=some (py (l ++ [x.1.tid])):=(d4 _ (by omega) (by omega)).trans t1
     have e2:H2.at' h=some (hpO (dD mem)):=(d4 _ (by omega) (Ne.symm hne)).trans t3
     have e3: ∀ m,m<nx→m≠b→H2.at' m=H.at' m:=fun m hm hmb=>(d4 _ (by omega) hmb).trans (t4 m hm)
     have hc:=lU (az mem) (l ++ [x.1.tid])
     have hdI:fY (dfH (dD mem)) (l ++ [x.1.tid])=fY (az mem) (l ++ [x.1.tid]):=nN (fun n a b=>fx hv a b) _
     have htc:=qu hv (l:=(l ++ [x.1.tid]))
     have hgd:=kD hv (l:=(l ++ [x.1.tid]))
     have hle:=qB (pf:=az mem) (l:=(l ++ [x.1.tid]))
     generalize fY (az mem) (l ++ [x.1.tid])=I at hc hdI hgd hle htc d2 ⊢
     obtain⟨hv2,hdoc2⟩:=oC hv hgd
     repeat apply ai;rfl
     refine aI rfl rfl rfl (by kernel_rfl) (J9 (qC (hb:=h) (r:=(n8+1)) (l:=(l ++ [x.1.tid])) (hm:=dD mem) e2 (dG hv.len) e1 (by omega) (by rw [Jz,List.length_singleton];omega) (fun n a c=>by rw [fx hv a c];exact hv.good n a c)) ?_)
     rintro⟨_,H3,n3⟩ ⟨rfl,f2,f3,f4⟩
     dsimp only at f2 f3 f4 ⊢
     rw [hdI] at f2 ⊢
     rw [← hdoc2] at f2
     have g2:H3.at' b=some (cT (oD mem I.2) (left-I.2.length) (puts+I.2.length)):=(f4 _ (by omega) hne).trans d2
     have g3: ∀ m,m<nx→m≠b→m≠h→H3.at' m=H.at' m:=fun m hm hmb hmh=>(f4 _ (by omega) hmh).trans (e3 m hm hmb)
     clear d4 f4
     rcases hc with ⟨hc1,hc2⟩|hc1
     ·rw [hc2] at g2
      repeat first|refine cV rfl rfl rfl (F.ag _ rfl) g2 (dl (by rw [← hc2];exact hv2.len) _ _) ?_|apply iv;rfl;omega|apply dM;rfl;rfl|refine cF rfl rfl rfl rfl (fun _=>?_) (fun e=>absurd (by simp) e)|apply ai;rfl
      (apply bP Tryz.func9 Tryz.results9;rfl)
      rw [← hc2] at g2
      exact⟨rfl,_,_,_,g2,f2,hv2,⟨by omega,by omega⟩,⟨by omega,by omega⟩,by first|omega|(dsimp only;omega),g3,htc⟩
     ·repeat first|apply dM;rfl;rfl|apply dM;rfl;omega|apply ai;rfl
      (apply bP Tryz.func9 Tryz.results9;rfl)
      exact⟨rfl,_,_,_,g2,f2,hv2,⟨by omega,by omega⟩,⟨by omega,by omega⟩,by first|omega|(dsimp only;omega),g3,htc⟩
theorem do_s{h:Nat}{x:nZ}(hb:H.at' b=some (cT mem left puts))(hh:H.at' h=some (hpO (dD mem)))(hne:b≠h)(hv:Hv mem)(hx:AC H nx b h x)(hl : -900000≤left∧left<0)(hp:0≤puts∧puts≤900000):Fnc Tryz.prog 9 [.ptr b 0,.ptr h 0,.agg (rJ x)] H nx (qk H nx b h mem left puts):=by
 have hx0:=hx H fun _ _ _ _=>rfl
 by_cases h1:x.1.kind=1
 ·exact do1_s hb hh hne hv hx h1 ⟨by omega,hl.2⟩ ⟨hp.1,by omega⟩
 by_cases h2:x.1.kind=2
 ·exact do2_s hb hh hne hv hx h2 ⟨by omega,hl.2⟩ ⟨hp.1,by omega⟩
 by_cases h3:x.1.kind=3
 ·exact do3_s hb hh hne hv hx h3 hl hp
 by_cases h4:x.1.kind=4
 ·exact do4_s hb hh hv hx0 h4
 ·exact do0_s hb hh hv hx0 ⟨h1,h2,h3,h4⟩
end
end Go.Proofs.YtnhmbonmlfeifaaGreat
end
