import Derived.Test.YtnhmbonmlfeifaaGreatV7
set_option linter.unusedVariables false
set_option linter.unusedSimpArgs false
set_option maxRecDepth 100000
set_option maxHeartbeats 0
section
namespace Go.Proofs.YtnhmbonmlfeifaaGreat
open Go Go.Sy Go.Sl Go.RowKit
structure Hv (mem:List UInt8):Prop where
 len:mem.length=131072
 good: ∀ n,32≤n→n<128→GoodP (az mem n)
 low: ∀ n,n<32→az mem n=zeroP
section
variable {n:Nat}{mem:List UInt8}
abbrev dk(mem:List UInt8):List UInt8:=mem.drop 32768
theorem dh(h:mem.length=131072):(dk mem).length=98304:=by rw [Jk,h]
theorem sR(h:32≤n):az (dk mem) (n-32)=az mem n:=by
 unfold az
 rw [List.drop_drop,show 32768+1024*(n-32)=1024*n by omega]
theorem fh(h:Hv mem)(h1:32≤n)(h2:n<128):dfH (dk mem) n=az mem n:=by
 unfold dfH
 rw [sR h1]
 exact(h.good n h1 h2).bareP
theorem mc{x:List UInt8}(hm:mem.length=131072)(h1:32≤n)(h2:n<128)(hx:x.length=1024):dk (gH mem n x)=gH (dk mem) (n-32) x:=by
 unfold dk gH bf
 have e1:(mem.take (1024*n)).length=1024*n:=by rw [Jh,hm];omega
 rw [Jo,List.drop_append_of_le_length (by omega),List.drop_take,hx,List.drop_drop,←Jo]
 rw [show 1024*n-32768=1024*(n-32) by omega,show 32768+(1024*(n-32)+1024)=1024*n+1024 by omega]
theorem Hv.set{x:List UInt8}(h:Hv mem)(h1:32≤n)(h2:n<128)(hx:GoodP x):Hv (gH mem n x):=
 ⟨lI h.len h2 hx.len,fun k a b=>by
   rw [jB (by rw [h.len];omega) hx.len]
   split
   ·exact hx
   ·exact h.good k a b,fun k hk=>by
   rw [jB (by rw [h.len];omega) hx.len,Jd (by omega)]
   exact h.low k hk⟩
end
section
variable {pf pg:Nat→List UInt8}
theorem sG{it:List UInt8}: ∀ (k n:Nat),(∀ m,n≤m→m<n+k→pf m=pg m)→cu pf it k n=cu pg it k n
 | 0,n,_=>rfl
 | k+1,n,h=>by
   unfold cu
   rw [h n (HS _) (by omega),sG k (n+1) fun m a b=>h m (by omega) (by omega)]
theorem Bf(h: ∀ n,32≤n→n<128→pf n=pg n)(v:fY)(d:Bool):lB pf v d=lB pg v d:=by
 unfold lB
 rw [sG 96 32 fun m a b=>h m a (by omega)]
theorem vv{n k:Int}(h:mu n k≠false):32≤n.toNat∧n.toNat<128:=by
 have h2:mu n k=true:=by simpa using h
 have:=Jp h2
 omega
theorem Bj(h: ∀ n,32≤n→n<128→pf n=pg n)(n k:Int):pc pf n k=pc pg n k:=by
 unfold pc
 by_cases hm:mu n k=false
 ·rw [Je hm,Je hm]
 ·rw [Jd hm,Jd hm,h _ (vv hm).1 (vv hm).2]
theorem qN(h: ∀ n,32≤n→n<128→pf n=pg n)(n k:Int)(x:Nat):ku pf n k x=ku pg n k x:=by
 unfold ku
 by_cases hm:4000<x∨mu n k=false
 ·rw [Je hm,Je hm]
 ·have h2:=vv (fun e=>hm (.inr e))
  have h3:oS pf n.toNat (jK k.toNat x)=oS pg n.toNat (jK k.toNat x):=by
   unfold oS
   rw [h _ h2.1 h2.2]
  rw [Jd hm,Jd hm,h3]
theorem nz(h: ∀ n,32≤n→n<128→pf n=pg n)(l:List (Int×Int)):fR pf l=fR pg l:=by
 unfold fR
 by_cases hm:tz l
 ·have h1:l0 pf l↔l0 pg l:=by
   unfold l0
   refine forall_congr' fun t=>forall_congr' fun ht=>?_
   have h2:=Jp (hm.1 t ht)
   rw [h t.1.toNat (by omega) (by omega)]
  have h2:((dq l).map fun n=>(n,rd (aX (pf n)).1 (aM l n)))=((dq l).map fun n=>(n,rd (aX (pg n)).1 (aM l n))):=by
   refine List.map_congr_left fun n hn=>?_
   obtain⟨a,b,_⟩:=dP.1 hn
   rw [h n a b]
  by_cases h3:l0 pf l
  ·rw [Jd (show ¬¬tz l from fun e=>e hm),Jd (show ¬¬l0 pf l from fun e=>e h3),Jd (show ¬¬tz l from fun e=>e hm),Jd (show ¬¬l0 pg l from fun e=>e (h1.1 h3)),h2]
  ·rw [Jd (show ¬¬tz l from fun e=>e hm),Je h3,Jd (show ¬¬tz l from fun e=>e hm),Je (show ¬l0 pg l from fun e=>h3 (h1.2 e))]
 ·rw [Je hm,Je hm]
theorem td: ∀ (k n:Nat),(∀ m,n≤m→m<n+k→pf m=pg m)→jV pf k n=jV pg k n
 | 0,n,_=>rfl
 | k+1,n,h=>by
   unfold jV
   rw [h n (HS _) (by omega),td k (n+1) fun m a b=>h m (by omega) (by omega)]
theorem kG(h: ∀ n,32≤n→n<128→pf n=pg n):pW pf=pW pg:=td 96 32 fun m a b=>h m a (by omega)
theorem pK{it:List UInt8}(hit:(ofV it).isSome=true): ∀ (k n:Nat),(∀ m,n≤m→m<n+k→GoodP (pf m))→(cu pf it k n).1=0→GoodP (cu pf it k n).2.2.2
 | 0,n,_,h=>by cases h
 | k+1,n,hG,h=>by
   obtain⟨q,hq,hQ⟩:=(hG n (HS _) (by omega)).read
   unfold cu at h ⊢
   rw [hq] at h ⊢
   rw [Jd (fun e=>e rfl)] at h ⊢
   dsimp only at h ⊢
   by_cases he:(hY q it).2.2≠0
   ·rw [Je he] at h ⊢
    exact pK hit k (n+1) (fun m a b=>hG m (by omega) (by omega)) h
   ·rw [Jd he]
    exact .inr (Bh hQ hit (Decidable.not_not.1 he))
end
section
variable {H:au}{v:fY}{x:nP}{b h:Nat}{left:Int}{n nx:Nat}{puts:Int}{mem:List UInt8}{l:List (Int×Int)}
theorem Be(h:Hv mem){d:Bool}{x:List UInt8}(e:(lB (az mem) v d).2=some (n,x)):32≤n∧n<128∧GoodP x:=by
 unfold lB at e
 by_cases h1:iS v=false
 ·rw [Je h1] at e
  cases e
 ·rw [Jd h1] at e
  have h1:iS v=true:=by simpa using h1
  by_cases h2:(cu (az mem) (aR v) 96 32).1≠0
  ·rw [Je h2] at e
   cases e
  ·rw [Jd h2] at e
   have h2:=Decidable.not_not.1 h2
   by_cases h3:d=true
   ·rw [Je h3] at e
    cases e
   ·rw [Jd h3] at e
    have hp:=mI (az mem) (aR v) 96 32 h2
    have hg:=pK (pf:=az mem) (it:=aR v) (by rw [ve h1];rfl) 96 32 (fun m a b=>h.good m a (by omega)) h2
    cases e
    exact⟨hp.1,by omega,hg⟩
theorem zK{x:Nat}:bf (aR v) 8 (beB x 8)=aR (v.1,v.2.1,v.2.2.1,x):=by
 unfold bf aR
 have e1: ∀ n,(beB n 8).length=8:=fun n=>bp n 8
 rw [List.take_left' (e1 _),e1,←List.drop_drop,List.drop_left' (e1 _),List.drop_left' (e1 _),Jo]
theorem Bn(h:Hv mem){n k:Int}{x m:Nat}{y:List UInt8}(e:(ku (az mem) n k x).2=some (m,y)):32≤m∧m<128∧GoodP y:=by
 unfold ku at e
 by_cases h1:4000<x∨mu n k=false
 ·rw [Je h1] at e
  cases e
 ·rw [Jd h1] at e
  have h2:=vv (fun e=>h1 (.inr e))
  obtain⟨q,hq,hQ⟩:=(h.good _ h2.1 h2.2).read
  have hc:oS (az mem) n.toNat (jK k.toNat x)=jK k.toNat x q:=by
   unfold oS
   rw [hq,Jd (fun e=>e rfl)]
  rw [hc] at e
  cases hh:kY q k.toNat with
  | false=>
    have hE:jK k.toNat x q=(zeroP,6):=by
     unfold jK
     rw [oG hh]
     rfl
    rw [hE] at e
    dsimp only at e
    rw [Je (show(6:Nat)≠0 by decide)] at e
    cases e
  | true=>
    have hE:jK k.toNat x q=(bf q (ay q k.toNat) (bf (aS q k.toNat) 8 (beB x 8)),0):=by
     unfold jK
     rw [qI hh]
     rfl
    rw [hE] at e
    dsimp only at e
    rw [Jd (show ¬((0:Nat)≠0)from fun h=>h rfl)] at e
    cases e
    have h3:=Jp hh
    have hs:=hQ.items _ h3.1 h3.2
    obtain⟨v,hv⟩:=Option.isSome_iff_exists.1 hs
    have hb:=Cd hv
    have hmv:=tU hv
    have hmv2:=Jp hmv
    have hm2:iS (v.1,v.2.1,v.2.2.1,x)=true:=Jw ⟨hmv2.1,hmv2.2.1,hmv2.2.2.1,by dsimp only;omega⟩
    have hle:(aS q k.toNat).length=ar q k.toNat:=dz hQ.ok.len (cQ hQ.right h3.1 h3.2).2.2.2
    refine⟨h2.1,h2.2,.inr (Bg hQ h3.1 h3.2 ?_ ?_)⟩
    ·rw [hb,zK,←hle,hb,ef,ef]
    ·rw [hb,zK,ve hm2]
     rfl
theorem kg(h:Hv mem): ∀ x∈(fR (az mem) l).2,32≤x.1∧x.1<128∧GoodP x.2:=by
 unfold fR
 by_cases h1:tz l
 ·rw [Jd (fun e=>e h1)]
  by_cases h2:l0 (az mem) l
  ·rw [Jd (fun e=>e h2)]
   intro x hx
   obtain⟨n,hn,rfl⟩:=JA.1 hx
   obtain⟨a,b,_⟩:=dP.1 hn
   refine⟨a,b,.inr ?_⟩
   obtain⟨q,hq,hQ⟩:=(h.good n a b).read
   have hh:=(lZ h1).1 h2 n hn
   dsimp only
   rw [hq] at hh ⊢
   exact vN hQ ⟨fe h1 n,fun k hk=>Jp (hh k hk)⟩
  ·rw [Je h2]
   intro x hx
   cases hx
 ·rw [Je h1]
  intro x hx
  cases hx
def oh(mem:List UInt8)(ps:List (Nat×List UInt8)):List UInt8:=ps.foldl (fun m x=>gH m x.1 x.2) mem
theorem iu: ∀ (ps:List (Nat×List UInt8)) (mem:List UInt8) (left puts:Int),left<0→fS ps mem left puts=(0,oh mem ps,left-ps.length,puts+ps.length)
 | [],mem,left,puts,_=>by simp [fS,oh]
 | (n,x) :: ps,mem,left,puts,h=>by
   show(if left=0 then(8,mem,left,puts) else fS ps (gH mem n x) (left-1) (puts+1))=_
   rw [Jd (by omega),iu ps _ _ _ (by omega)]
   rw [show left-1-(ps.length:Int)=left-(((n,x) :: ps).length:Int) by simp only [HV];omega,show puts+1+(ps.length:Int)=puts+(((n,x) :: ps).length:Int) by simp only [HV];omega]
   rfl
theorem og: ∀ {ps:List (Nat×List UInt8)} {mem:List UInt8},Hv mem→(∀ x∈ps,32≤x.1∧x.1<128∧GoodP x.2)→Hv (oh mem ps)∧dk (oh mem ps)=jx (dk mem) ps
 | [],mem,h,_=>⟨h,rfl⟩
 | (n,x) :: ps,mem,h,hp=>by
   obtain⟨a,b,g⟩:=hp _ Jl
   have ih:=og (ps:=ps) (h.set a b g) fun y hy=>hp y (Jm _ hy)
   refine⟨ih.1,ih.2.trans ?_⟩
   rw [mc h.len a b g.len]
   rfl
theorem qh{pf:Nat→List UInt8}:(fR pf l).2.length≤96:=by
 have hl:(dq l).length≤96:=by
  unfold dq
  refine Ja (List.length_filter_le _ _) ?_
  simp
 unfold fR
 split
 ·exact HT _
 ·split
  ·exact HT _
  ·rw [Ji]
   exact hl
theorem nF{p:List UInt8}(h:(aX (bareP p)).2=0):rP p=((aX (bareP p)).1,true):=Je h
theorem uK{p:List UInt8}(h:(aX (bareP p)).2≠0):rP p=(bareP p,false):=Jd h
theorem uf{hb:Nat}{n k:Int}{hm:List UInt8}(hH:H.at' hb=some (hpO hm))(hl:hm.length=98304):Fnc Tryz.prog 16 [.ptr hb 0,wE (n,k)] H nx
 (fun q=> ∃ s' r,q.1 = .tup [s',.sc (.int .i64 ((pc (dfH hm) n k).2:Int))]∧VerAt q.2.1 s' r (pc (dfH hm) n k).1∧nx≤r∧nx≤q.2.2∧ ∀ m,m<nx→q.2.1.at' m=H.at' m):=by
 refine JH Tryz.func16 rfl rfl ?_
 refine aW fun hund=>?_
 have lH:=hund _ _ hH
 repeat first|apply aj;rfl|apply aG;rfl;(focus((repeat(first|exact ac|refine ab (by omega) ?_));done));rfl
 cases hmay:mu n k with
 | false=>
   have hg:pc (dfH hm) n k=(iH,2):=by unfold pc;rw [Je hmay]
   have hmd:=of_decide_eq_false hmay
   rw [hg]
   refine cL (R:=fun H1 n1=>n1=nx+1+1∧H1.at' nx=some (ez n k)∧H1.at' (nx+1)=some (fm (ew dy dy 0 0))∧ ∀ m,m<nx→H1.at' m=H.at' m) ⟨rfl,by repeat(first|exact ac|refine ab (by omega) ?_),by repeat(exact ac),fun m hm=>by(repeat(refine ab (by omega) ?_));rfl⟩ ?_
   rintro H1 n1 ⟨rfl,a1,a2,a3⟩
   by_cases h1:n<32
   ·repeat first|apply o9;rfl;omega|apply aj;rfl|apply aG;rfl;assumption;rfl
    ((apply bn Tryz.func16 (congrArg Array.toList Tryz.results16));(focus(repeat(first|exact JI|apply JK rfl|apply JJ rfl (JL (F.ag _ rfl) (by repeat(exact ac)) (am _ 0 rfl rfl))))))
    exact⟨_,nx,rfl,f8 _ nx,HS _,by dsimp only;omega,fun m hm=>by(repeat(refine ab (by omega) ?_));exact a3 m hm⟩
   ·by_cases h2:127<n
    ·repeat first|apply o9;rfl;omega|apply kM;rfl;omega|apply aj;rfl|apply aG;rfl;assumption;rfl
     ((apply bn Tryz.func16 (congrArg Array.toList Tryz.results16));(focus(repeat(first|exact JI|apply JK rfl|apply JJ rfl (JL (F.ag _ rfl) (by repeat(exact ac)) (am _ 0 rfl rfl))))))
     exact⟨_,nx,rfl,f8 _ nx,HS _,by dsimp only;omega,fun m hm=>by(repeat(refine ab (by omega) ?_));exact a3 m hm⟩
    ·have h3:k<0:=by omega
     repeat first|apply o9;rfl;omega|apply kM;rfl;omega|apply aj;rfl|apply aG;rfl;assumption;rfl
     ((apply bn Tryz.func16 (congrArg Array.toList Tryz.results16));(focus(repeat(first|exact JI|apply JK rfl|apply JJ rfl (JL (F.ag _ rfl) (by repeat(exact ac)) (am _ 0 rfl rfl))))))
     exact⟨_,nx,rfl,f8 _ nx,HS _,by dsimp only;omega,fun m hm=>by(repeat(refine ab (by omega) ?_));exact a3 m hm⟩
 | true=>
   have hmd:32≤n∧n<128∧0≤k:=Jp hmay
   obtain⟨N,rfl⟩: ∃ N:Nat,n=((32+N:Nat):Int):=⟨(n-32).toNat,by omega⟩
   obtain⟨K,rfl⟩: ∃ K:Nat,k=(K:Int):=⟨k.toNat,by omega⟩
   have hN:N<96:=by omega
   have hdf:dfH hm (32+N)=bareP (az hm N):=by unfold dfH;rw [show 32+N-32=N by omega]
   have hg:pc (dfH hm) ((32+N:Nat):Int) (K:Int)=if(aX (bareP (az hm N))).2≠0 then(iH,(aX (bareP (az hm N))).2) else if(cn (aX (bareP (az hm N))).1 K).2.2≠0 then(iH,6) else
    ((ofV (aS (aX (bareP (az hm N))).1 K)).getD iH,A2 (ofV (aS (aX (bareP (az hm N))).1 K))):=by unfold pc;rw [Jd (by rw [hmay];decide),Jv,Jv,hdf]
   rw [hg]
   clear hg hmay hdf
   have hpl:=gp hl hN
   have hrs:=fun(H:au) nx (h:H.at' hb=some (hpO hm))=>lN (nx:=nx) h hl hN
   have hrl:=rO hpl
   have hno:=lM (p:=bareP (az hm N))
   refine cL (R:=fun H1 n1=>n1=nx+1+1∧H1.at' nx=some (ez ((32+N:Nat):Int) (K:Int))∧H1.at' (nx+1)=some (fm (ew dy dy 0 0))∧H1.at' hb=some (hpO hm)∧ ∀ m,m<nx→H1.at' m=H.at' m) ⟨rfl,by repeat(first|exact ac|refine ab (by omega) ?_),by repeat(exact ac),by(repeat(refine ab (by omega) ?_));exact hH,fun m hm=>by(repeat(refine ab (by omega) ?_));rfl⟩ ?_
   rintro H1 n1 ⟨rfl,a1,a2,a4,a3⟩
   repeat first|apply kM;rfl;omega|apply aj;rfl|apply aG;rfl;assumption;rfl|apply aK;rfl;omega;omega
   rw [show((32+N:Nat):Int)-32=(N:Int) by omega]
   by_cases he:(aX (bareP (az hm N))).2=0
   ·rw [nF he] at hrs hrl
    rw [Jd (fun h=>h he)]
    obtain⟨hpp,hr,hof⟩:=cN (p:=bareP (az hm N)) (q:=(aX (bareP (az hm N))).1) (Prod.ext rfl he) (dT hpl)
    generalize (aX (bareP (az hm N))).1=p at hrs hrl hpp hr hof ⊢
    dsimp only [AQ] at hrs
    repeat first|apply bC hpp ai;rfl;(focus((repeat(exact ac));done))|refine aY rfl rfl ce ?_|apply aj;rfl|apply aG;rfl;(focus((repeat(first|assumption|exact ac|refine ab (by omega) ?_));done));rfl|apply bY;rfl;kernel_rfl;exact hrs _ _ a4|apply bq hpp;rfl;(focus((repeat(exact ac));done))
    by_cases hK:ae p≤K∨ar p K=0
    ·have hfd:cn p K=(0,0,6):=by unfold cn;split;rfl;rw [Je (by omega)]
     rw [hfd,Je (by decide)]
     refine aL rfl rfl rfl (by kernel_rfl) (JG (w6 hpp hr hK) ?_)
     rintro⟨_,H2,n2⟩ ⟨rfl,b3,b4⟩
     dsimp only at b3 b4 ⊢
     have c2:H2.at' (nx+1)=some (fm (ew dy dy 0 0)):=(b4 _ (by omega)).trans (by repeat(first|assumption|refine ab (by omega) ?_))
     have co: ∀ m,m<nx→H2.at' m=H.at' m:=fun m hm=>(b4 _ (by omega)).trans (by(repeat(refine ab (by omega) ?_));exact a3 m hm)
     clear b4
     repeat first|apply aj;rfl|apply aG;rfl;assumption;rfl|apply ii;rfl;decide
     ((apply bn Tryz.func16 (congrArg Array.toList Tryz.results16));(focus(repeat(first|exact JI|apply JK rfl|apply JJ rfl (JL (F.ag _ rfl) (by repeat(exact ac)) (am _ 0 rfl rfl))))))
     exact⟨_,nx,rfl,f8 _ nx,HS _,by dsimp only;omega,fun m hm=>by(repeat(refine ab (by omega) ?_));exact co m hm⟩
    ·have hs:ar p K≠0:=fun h=>hK (.inr h)
     have hn:K<ae p:=by omega
     have hfd:cn p K=(ay p K,ar p K,0):=by unfold cn;rw [Jd (by omega),Jd hs]
     rw [hfd,Jd (fun h=>h rfl)]
     have hil:(aS p K).length≤1024:=by unfold aS;rw [Jh,Jk];omega
     have hos:=hof K hn hs
     obtain⟨v,hv⟩: ∃ v,ofV (aS p K)=some v:=by cases h:ofV (aS p K)with|some v=>exact⟨v,rfl⟩|none=>rw [h] at hos;cases hos
     refine aL rfl rfl rfl (by kernel_rfl) (JG (Bb hpp hr hn hs) ?_)
     rintro⟨_,H2,n2⟩ ⟨r,rfl,b1,b2,b3,b4⟩
     dsimp only at b1 b3 b4 ⊢
     have c2:H2.at' (nx+1)=some (fm (ew dy dy 0 0)):=(b4 _ (by omega)).trans (by repeat(first|assumption|refine ab (by omega) ?_))
     have co: ∀ m,m<nx→H2.at' m=H.at' m:=fun m hm=>(b4 _ (by omega)).trans (by(repeat(refine ab (by omega) ?_));exact a3 m hm)
     clear b4
     repeat first|apply aj;rfl|apply dH;rfl;rfl
     refine aL rfl rfl rfl (by kernel_rfl) (JG (ofr_s (r:=r) (ro:=false) (l:=aS p K) (by rw [← rA];(focus(skip;exact b1))) (by omega)) ?_)
     rintro⟨_,H3,n3⟩ ⟨s',rfl,hF,hat,d3,d4⟩
     rw [← of_eq,hv]
     have hat:=hat v (by rw [← of_eq];exact hv)
     obtain⟨vk,vw,vx,vy,rfl,hk1,hw1⟩:=hF
     have hone:bh (ew vk vw vx vy)=true:=by simp only [bh,hk1,hw1];rfl
     dsimp only [Option.getD,A2] at hat d3 d4 ⊢
     have e2:H3.at' (nx+1)=some (fm (ew dy dy 0 0)):=(d4 _ (by omega)).trans (by assumption)
     have eo: ∀ m,m<nx→H3.at' m=H.at' m:=fun m hm=>(d4 _ (by omega)).trans (by exact co m hm)
     clear d4 co b1 c2
     repeat first|apply aj;rfl|apply aG;rfl;(focus((repeat(first|assumption|exact ac|refine ab (by omega) ?_));done));rfl|refine dm rfl rfl rfl (F.sz _ rfl) (by repeat(first|assumption|exact ac|refine ab (by omega) ?_)) rfl (by exact Hz rfl) hone rfl ?_
     ((apply bn Tryz.func16 (congrArg Array.toList Tryz.results16));(focus(repeat(first|exact JI|apply JK rfl|apply JJ rfl (JL (F.ag _ rfl) (by repeat(exact ac)) (am _ 0 rfl rfl))))))
     exact⟨_,r,rfl,hat.frame (by(repeat(refine ab (by omega) ?_));rfl),by omega,by dsimp only;omega,fun m hm=>by(repeat(refine ab (by omega) ?_));exact eo m hm⟩
   ·rw [uK he] at hrs hrl
    rw [Je he]
    have h13:(aX (bareP (az hm N))).2=13:=by
     rcases hno with h|h
     ·exact absurd h he
     ·rw [h]
    rw [h13]
    generalize bareP (az hm N)=p at hrs hrl
    dsimp only [AQ] at hrs hrl
    repeat first|apply bC hrl ai;rfl;(focus((repeat(exact ac));done))|refine aY rfl rfl ce ?_|apply aj;rfl|apply aG;rfl;(focus((repeat(first|assumption|refine ab (by omega) ?_));done));rfl|apply bY;rfl;kernel_rfl;exact hrs _ _ a4
    ((apply bn Tryz.func16 (congrArg Array.toList Tryz.results16));(focus(repeat(first|exact JI|apply JK rfl|apply JJ rfl (JL (F.ag _ rfl) (by repeat(exact ac)) (am _ 0 rfl rfl))))))
    exact⟨_,nx,rfl,f8 _ nx,HS _,by dsimp only;omega,fun m hm=>by(repeat(refine ab (by omega) ?_));exact a3 m hm⟩
theorem mV{hb:Nat}{hm:List UInt8}(hH:H.at' hb=some (hpO hm))(hl:hm.length=98304):Fnc Tryz.prog 12 [.ptr hb 0] H nx
 (fun q=>nx≤q.2.2∧(∀ m,m<nx→q.2.1.at' m=H.at' m)∧((pW (dfH hm)=none∧q.1 = .tup [dy,.sc (.bool false)])∨ ∃ l s r,pW (dfH hm)=some l∧q.1 = .tup [s,.sc (.bool true)]∧RowsAt q.2.1 (fun m=>nx≤m∧m<q.2.2) r s l)):=by
 refine JH Tryz.func12 rfl rfl ?_
 refine aW fun hund=>?_
 have lH:=hund _ _ hH
 clear hund
 have hA:pW (dfH hm)=jV (dfH hm) 96 32:=rfl
 repeat apply aj;rfl
 refine bv (α:=Nat×List th×SV×Nat) (fun x=> [(0,.ptr hb 0),(4,x.2.2.1),(5,.sc (.int .i64 (x.1:Int)))])
  (fun x H1 n1=>x.1≤96∧jV (dfH hm) 96 32=(jV (dfH hm) (96-x.1) (32+x.1)).map (x.2.1 ++ ·)∧x.2.1.length≤256*x.1∧(nx≤n1∧x.2.2.2<n1)∧RowsAt H1 (fun m=>nx≤m∧m<n1) x.2.2.2 x.2.2.1 x.2.1∧H1.at' hb=some (hpO hm)∧ ∀ m,m<nx→H1.at' m=H.at' m) (fun x=>96-x.1) (0,[],dy,0)
  ⟨HT _,by dsimp only;cases jV (dfH hm) (96-0) (32+0) <;> rfl,by decide,⟨HS _,by dsimp only;omega⟩,.inl ⟨rfl,rfl⟩,hH,fun m hm=>rfl⟩ (JN (JQ rfl)) ?_
 rintro⟨i,l,s,r0⟩ H1 n1 ⟨i1,i2,i3,i4,i5,i6,i7⟩ ih
 dsimp only at i1 i2 i3 i4 i5 i6 i7 ⊢
 repeat apply aj;rfl
 refine bi rfl rfl rfl rfl (fun h5=>?_) (fun h5=>?_)
 ·have hi:i<96:=by omega
  have hgo:jV (dfH hm) (96-i) (32+i)=if(aX (dfH hm (32+i))).2≠0 then none else(jV (dfH hm) (96-(i+1)) (32+(i+1))).map (pj (32+i) (aX (dfH hm (32+i))).1 ++ ·):=by
   rw [show 96-i=(96-(i+1))+1 by omega]
   rfl
  have hdf:dfH hm (32+i)=bareP (az hm i):=by unfold dfH;rw [show 32+i-32=i by omega]
  have hpl:=gp hl hi
  rw [hdf] at hgo
  have hrs:=fun(H:au) nx (h:H.at' hb=some (hpO hm))=>lN (nx:=nx) h hl hi
  by_cases he:(aX (bareP (az hm i))).2=0
  ·rw [Jd (fun g=>g he)] at hgo
   rw [nF he] at hrs
   obtain⟨hpp,hr,hof⟩:=cN (p:=bareP (az hm i)) (q:=(aX (bareP (az hm i))).1) (Prod.ext rfl he) (dT hpl)
   generalize (aX (bareP (az hm i))).1=p at hrs hpp hr hof hgo
   dsimp only [AQ] at hrs
   clear he hpl hdf
   have hok:=(bw hpp).1 hr
   have hh:=hok.head
   have ht:=hok.top
   have hll:=eL p (ae p)
   repeat first|apply bC hpp ai;rfl;(focus((repeat(exact ac));done))|refine aY rfl rfl ce ?_|apply aj;rfl|apply bY;rfl;kernel_rfl;exact hrs _ _ i6|apply bq hpp;rfl;(focus((repeat(exact ac));done))
   refine aL rfl rfl rfl (by kernel_rfl) (JG (pG hpp) ?_)
   rintro⟨_,H2,n2⟩ ⟨g1,g2,(⟨hr2,rfl⟩|⟨_,rs,rfl,g3,g4,g5⟩)⟩
   ·rw [hr] at hr2;cases hr2
   dsimp only at g1 g2 g3 g4 g5 ⊢
   have k1:H2.at' n1=some (pgO p):=(g2 _ (by omega)).trans (by repeat(exact ac))
   have k2:H2.at' hb=some (hpO hm):=(g2 _ (by omega)).trans (by repeat(first|assumption|refine ab (by omega) ?_))
   have k3:RowsAt H2 (fun m=>nx≤m∧m<n1) r0 s l:=i5.grow fun m hm=>⟨hm,(g2 _ (by omega)).trans (by(repeat(refine ab (by omega) ?_));rfl)⟩
   have ko: ∀ m,m<nx→H2.at' m=H.at' m:=fun m hm=>(g2 m (by omega)).trans (by(repeat(refine ab (by omega) ?_));exact i7 m hm)
   clear g2 i5 i6 i7
   repeat apply aj;rfl
   refine bv (α:=Nat×SV×Nat) (fun x=> [(0,.ptr hb 0),(4,x.2.1),(5,.sc (.int .i64 (i:Int))),(6,.ptr n1 0),(8,.slu rs 0 (eF p (ae p)).length),(10,.sc (.int .i64 (x.1:Int)))])
    (fun x H3 n3=>x.1≤ae p∧(n2≤n3∧x.2.2≠n1∧x.2.2<n3)∧RowsAt H3 (fun m=>nx≤m∧m<n3∧m≠rs∧(m<rs∨n2≤m)) x.2.2 x.2.1 (l ++ dN (32+i) p x.1)∧H3.at' n1=some (pgO p)∧H3.at' rs=some (slO (eF p (ae p)))∧H3.at' hb=some (hpO hm)∧ ∀ m,m<nx→H3.at' m=H.at' m) (fun x=>ae p-x.1) (0,s,r0)
    ⟨HT _,⟨HS _,by dsimp only;omega,by dsimp only;omega⟩,by show RowsAt _ _ _ _ (l ++ []);rw [Jr];exact k3.grow fun m hm=>⟨⟨hm.1,by omega,by omega,by omega⟩,rfl⟩,k1,g5,k2,ko⟩ (JN (JQ rfl)) ?_
   clear k1 k2 k3 ko g5
   rintro⟨j,sj,rj⟩ H3 n3 ⟨j1,j2,j3,j4,j5,j6,j7⟩ ih2
   dsimp only at j1 j2 j3 j4 j5 j6 j7 ⊢
   repeat apply aj;rfl
   refine bi rfl rfl rfl rfl (fun h6=>?_) (fun h6=>?_)
   ·have hj:j<ae p:=by omega
    have hcS:=io p hj
    have hcF:=jr p hj
    have hg:ar p j<65536:=cI p _
    repeat first|refine dw (q:=j) rfl rfl rfl rfl (F.un _ rfl) (F.sz _ rfl) (by assumption) (by omega) (by(omega)) (HS _) ?_|refine cc (an (F.ag _ rfl) rfl j5 hcS) rfl rfl rfl ?_|apply aj;rfl
    by_cases hs:ar p j=0
    ·have e1:dN (32+i) p (j+1)=dN (32+i) p j:=by show _ ++ (if _ then _ else _)=_;rw [Je hs,Jr]
     rw [← e1] at j3
     repeat first|apply kM;rfl;omega|apply aj;rfl|apply aK;rfl;omega;omega
     exact ih2 _ _ _ (j+1,sj,rj) ⟨hj,j2,j3,j4,j5,j6,j7⟩ (by dsimp only;omega) (JN (JQ rfl))
    ·have hsl:=cQ hr hj hs
     have hil:=dz hpp (j:=j) hsl.2.2.2
     have hba: ∀ H:au,H.at' n1=some (pgO p)→BlkAt H n1 (ay p j) (aS p j):=fun H h=>⟨_,h,by
      rw [hil]
      refine am _ _ ?_ (by simp only [Ji];omega)
      unfold aS
      simp [List.map_take,List.map_drop]⟩
     have hos:=hof j hj hs
     obtain⟨v,hv⟩: ∃ v,ofV (aS p j)=some v:=by cases h:ofV (aS p j)with|some v=>exact⟨v,rfl⟩|none=>rw [h] at hos;cases hos
     have hof2: ∀ (H:au) nx',H.at' n1=some (pgO p)→Fnc Tryz.prog 36 [.sl n1 (ay p j) (ar p j) (1024-ay p j)] H nx' (fun q=>q=(.tup [xP n1 (ay p j) (1024-ay p j) (aS p j),.sc (.bool true)],H,nx')):=fun H nx' h=>by
      have:=GL (H:=H) (nx:=nx') (r:=n1) (o:=ay p j) (C:=1024-ay p j) (l:=aS p j) (hba H h) (by omega) (by omega)
      rwa [hil,←of_eq,hv] at this
     obtain⟨vk,vw,hve,hk1,hw1⟩:=C1 (hba H3 j4) (C:=1024-ay p j) (by omega) (by rw [← of_eq];exact hv)
     rw [hve] at hof2
     have hone:bh (ew vk vw v.2.2.1 v.2.2.2)=true:=by simp only [bh,cC hk1.bs,cC hw1.bs];rfl
     have hone6:bh (qZ (32+i) j vk vw v.2.2.1 v.2.2.2)=true:=by simp only [bh,cC hk1.bs,cC hw1.bs];rfl
     have e1:l ++ dN (32+i) p (j+1)=(l ++ dN (32+i) p j) ++ [((32+i,j),v)]:=by
      show l ++ (_ ++ if _ then _ else _)=_
      rw [Jd hs,hv,Jo]
      rfl
     have hrl:(l ++ dN (32+i) p j).length≤200000:=by have:=ir (32+i) p j;rw [HW];omega
     clear hve hos
     repeat first|apply o9;rfl;omega|apply aj;rfl
     (apply ge;(focus(kernel_rfl));(focus(kernel_rfl)))
     refine dR 17 (Hz rfl) ?_
     repeat first|refine aH (q:=j) rfl rfl rfl rfl (F.un _ rfl) (F.sz _ rfl) (by assumption) (by omega) (by(omega)) (HS _) ?_|refine bk (an (F.ag _ rfl) rfl j5 hcF) rfl rfl rfl ?_|refine bk (an (F.ag _ rfl) rfl j5 hcS) rfl rfl rfl ?_|apply bI;rfl;rfl;exact(fun _ h=>by cases h);exact(fQ (l:=ay p j) (h:=ay p j+ar p j) (F.un _ rfl) (F.sz _ rfl) rfl rfl rfl (by omega) (by omega) (by omega) (show ay p j+ar p j-ay p j=ar p j by omega) rfl (Jf _))|apply aU;rfl|refine bk (aw rfl rfl (.inl ⟨rfl,(Hu _ ⟨(by focus(omega)),(by focus(omega))⟩).symm⟩)) rfl rfl rfl ?_
     refine aA ?_;(apply dS;rfl;rfl;rfl;(focus(kernel_rfl));exact(hof2 _ _ j4))
     refine jf ?_
     repeat first|refine bU rfl rfl rfl (F.sz _ rfl) (by repeat(first|assumption|exact ac)) rfl (by exact Hz rfl) hone rfl ?_|apply aU;rfl|refine pt (e9 (F.zl _ rfl)) rfl rfl rfl ?_
     refine aA ⟨by kernel_rfl,?_,?_⟩;(focus(repeat(first|exact JR|refine⟨.inl rfl,?_⟩|refine⟨.inr (.inl (by(repeat(refine⟨(by first|exact mA rfl|exact aw rfl rfl (.inl ⟨rfl,(Hu _ ⟨by omega,by omega⟩).symm⟩)|exact an (F.ag _ rfl) rfl (by(repeat(refine ab (by omega) ?_));exact j5) hcF|exact an (F.ag _ rfl) rfl (by(repeat(refine ab (by omega) ?_));exact j5) hcS|exact aN (F.un _ rfl) (F.sz _ rfl) rfl rfl (by(repeat(refine ab (by omega) ?_));exact j5) rfl (by omega) (HS _)|exact fQ (l:=ay p j) (h:=ay p j+ar p j) (F.un _ rfl) (F.sz _ rfl) rfl rfl rfl (by omega) (by omega) (by omega) (show ay p j+ar p j-ay p j=ar p j by omega) rfl (Jf _)),?_⟩));exact JR)),?_⟩|refine⟨.inr (.inr (by(repeat(refine⟨(by exact dZ rfl (by kernel_rfl) (by exact hof2 _ _ (by(repeat(refine ab (by omega) ?_));exact j4))),?_⟩));exact JR)),?_⟩)))
     refine cL (R:=fun H4 n4=>n4=n3+1∧H4.at' n3=some (fm (ew vk vw v.2.2.1 v.2.2.2))∧RowsAt H4 (fun m=>nx≤m∧m<n3∧m≠rs∧(m<rs∨n2≤m)) rj sj (l ++ dN (32+i) p j)∧BlkS H4 vk n1 v.1∧BlkS H4 vw n1 v.2.1∧H4.at' n1=some (pgO p)∧H4.at' rs=some (slO (eF p (ae p)))∧H4.at' hb=some (hpO hm)∧ ∀ m,m<nx→H4.at' m=H.at' m)
      ⟨rfl,by repeat(exact ac),j3.grow fun m hm=>⟨hm,by(repeat(refine ab (by omega) ?_));rfl⟩,hk1.frame (by(repeat(refine ab (by omega) ?_));rfl),hw1.frame (by(repeat(refine ab (by omega) ?_));rfl),by repeat(first|assumption|refine ab (by omega) ?_),by repeat(first|assumption|refine ab (by omega) ?_),by repeat(first|assumption|refine ab (by omega) ?_),fun m hm=>by(repeat(refine ab (by omega) ?_));exact j7 m hm⟩ ?_
     rintro H4 n4 ⟨rfl,m0,m1,m2,m3,m4,m5,m6,m7⟩
     clear j3 j4 j5 j6 j7 hba hof2 hk1 hw1 hcS hcF
     dsimp only
     generalize l ++ dN (32+i) p j=lj at m1 hrl e1
     rcases m1 with ⟨rfl,rfl⟩|⟨ws,L,h0,rfl,h2,h3,h4,h6'⟩
     ·repeat first|apply aj;rfl|apply aG;rfl;assumption;rfl|apply aK;rfl;omega;omega|refine bB (cs:=qZ (32+i) j vk vw v.2.2.1 v.2.2.2) rfl rfl (F.un _ rfl) (F.sz _ rfl) rfl (F.ze _ rfl) rfl rfl hone6 rfl rfl ?_
      refine uB (b:=80) (n:=1) (cs:=qZ (32+i) j vk vw v.2.2.1 v.2.2.2) rfl rfl rfl rfl (F.un _ rfl) (.inl ⟨_,F.un _ rfl⟩) (F.sz _ rfl) rfl (by kernel_rfl) (by kernel_rfl) (SlOf.row (by repeat(exact ac)) rfl) hone6 (by decide) (by decide) ?_
      rintro _ _ _ (⟨h,_⟩|⟨_,rfl,rfl,rfl⟩)
      ·exact absurd h (by decide)
      repeat first|apply aj;rfl|apply aK;rfl;omega;omega
      refine ih2 _ _ _ (j+1,_,n3+1+1) ⟨hj,⟨by first|omega|(dsimp only;omega),by first|omega|(dsimp only;omega),by first|omega|(dsimp only;omega)⟩,?_,by repeat(first|assumption|refine ab (by omega) ?_),by repeat(first|assumption|refine ab (by omega) ?_),by repeat(first|assumption|refine ab (by omega) ?_),fun m hm=>by(repeat(refine ab (by omega) ?_));exact m7 m hm⟩ (by dsimp only;omega) (JN (JQ rfl))
      dsimp only
      rw [e1]
      refine .inr ⟨qZ (32+i) j vk vw v.2.2.1 v.2.2.2,[n1],by simp,rfl,by repeat(exact ac),fun m hm=>?_,⟨by omega,by omega,by omega,by omega⟩,vk,vw,[],n1,rfl,Jj.2 rfl,m2.frame (by(repeat(refine ab (by omega) ?_));rfl),m3.frame (by(repeat(refine ab (by omega) ?_));rfl),rfl⟩
      obtain rfl:=Jj.1 hm
      exact⟨⟨by omega,by omega,by omega,by omega⟩,by omega⟩
     ·repeat first|apply aj;rfl|apply aG;rfl;assumption;rfl|apply aK;rfl;omega;omega|refine bB (cs:=qZ (32+i) j vk vw v.2.2.1 v.2.2.2) rfl rfl (F.un _ rfl) (F.sz _ rfl) rfl (F.ze _ rfl) rfl rfl hone6 rfl rfl ?_
      refine B1 (b:=80) (m:=1) (r:=rj) (ws:=ws) (cs:=qZ (32+i) j vk vw v.2.2.1 v.2.2.2) rfl rfl rfl rfl (F.un _ rfl) (.inl ⟨_,F.un _ rfl⟩) (F.sz _ rfl) rfl (by kernel_rfl) (by kernel_rfl) (by(repeat(refine ab (by omega) ?_));exact h2) h6'.len (SlOf.cells (SlOf.row (by repeat(exact ac)) rfl)) hone6 (by decide) (by omega) (by omega) ?_
      repeat first|apply aj;rfl|apply aK;rfl;omega;omega
      have hlen1:(lj ++ [((32+i,j),v)]).length=lj.length+1:=by simp
      refine ih2 _ _ _ (j+1,_,n3+1+1) ⟨hj,⟨by first|omega|(dsimp only;omega),by first|omega|(dsimp only;omega),by first|omega|(dsimp only;omega)⟩,?_,by repeat(first|assumption|refine ab (by omega) ?_|refine bX (by omega) ?_),by repeat(first|assumption|refine ab (by omega) ?_|refine bX (by omega) ?_),by repeat(first|assumption|refine ab (by omega) ?_|refine bX (by omega) ?_),fun m hm=>by(repeat(first|refine ab (by omega) ?_|refine bX (by omega) ?_));exact m7 m hm⟩ (by dsimp only;omega) (JN (JQ rfl))
      dsimp only
      rw [e1]
      refine .inr ⟨ws ++ qZ (32+i) j vk vw v.2.2.1 v.2.2.2,n1 :: L,by omega,by rw [hlen1],by rw [hlen1];(focus((repeat(exact ac));done)),fun m hm=>?_,⟨by omega,by omega,by omega,by omega⟩,?_⟩
      ·rcases Js.1 hm with rfl|hm
       ·exact⟨⟨by omega,by omega,by omega,by omega⟩,by omega⟩
       ·have:=h3 m hm
        exact⟨⟨by omega,by omega,by omega,by omega⟩,by omega⟩
      ·refine RowsC.snoc (y:=((32+i,j),v)) (s1:=vk) (s2:=vw) (r:=n1) Jl (m2.frame (by(repeat(first|refine ab (by omega) ?_|refine bX (by omega) ?_));rfl)) (m3.frame (by(repeat(first|refine ab (by omega) ?_|refine bX (by omega) ?_));rfl)) (h6'.frame fun m hm=>⟨Jm _ hm,?_⟩)
       have:=h3 m hm
       (focus((repeat(first|refine ab (by omega) ?_|refine bX (by omega) ?_));rfl))
   ·have hj:j=ae p:=by omega
    subst hj
    repeat first|apply aj;rfl|apply aK;rfl;omega;omega
    refine ih _ _ _ (i+1,l ++ pj (32+i) p,sj,rj) ⟨hi,?_,?_,⟨by first|omega|(dsimp only;omega),by first|omega|(dsimp only;omega)⟩,j3.grow fun m hm=>⟨⟨hm.1,hm.2.1⟩,rfl⟩,j6,j7⟩ (by dsimp only;omega) (JN (JQ rfl))
    ·dsimp only
     rw [i2,hgo,Option.map_map]
     congr 1
     funext x
     simp
    ·have:(pj (32+i) p).length≤ae p:=ir (32+i) p (ae p)
     dsimp only
     rw [HW]
     omega
  ·rw [Je he] at hgo
   rw [uK he] at hrs
   have hbl:=dT hpl
   generalize bareP (az hm i)=p at hrs hbl
   dsimp only [AQ] at hrs
   repeat first|apply bC hbl ai;rfl;(focus((repeat(exact ac));done))|refine aY rfl rfl ce ?_|apply aj;rfl|apply bY;rfl;kernel_rfl;exact hrs _ _ i6
   (apply bP Tryz.func12 Tryz.results12;rfl)
   exact⟨by first|omega|(dsimp only;omega),fun m hm=>by(repeat(refine ab (by omega) ?_));exact i7 m hm,.inl ⟨by rw [hA,i2,hgo];rfl,rfl⟩⟩
 ·have hi:i=96:=by omega
  subst hi
  repeat apply aj;rfl
  (apply bP Tryz.func12 Tryz.results12;rfl)
  exact⟨i4.1,i7,.inr ⟨l,s,r0,by rw [hA,i2];show some (l ++ [])=_;rw [Jr],rfl,i5⟩⟩
theorem oa(n:Nat)(p:List UInt8): ∀ j,∀ x∈dN n p j,x.1.1=n
 | 0,x,h=>by cases h
 | j+1,x,h=>by
   unfold dN at h
   rcases List.mem_append.1 h with h|h
   ·exact oa n p j x h
   ·split at h
    ·cases h
    ·rw [Jj.1 h]
theorem wm{pf:Nat→List UInt8}: ∀ (k n:Nat),(∀ m,n≤m→m<n+k→GoodP (pf m))→ ∃ l,jV pf k n=some l∧l.length≤300*k∧ ∀ x∈l,n≤x.1.1∧x.1.1<n+k
 | 0,n,_=>⟨[],rfl,HT _,fun x hx=>by cases hx⟩
 | k+1,n,h=>by
   obtain⟨q,hq,hQ⟩:=(h n (HS _) (by omega)).read
   obtain⟨l,h1,h2,h3⟩:=wm k (n+1) fun m a b=>h m (by omega) (by omega)
   have hs:ae q≤300:=by
    have h1:=hQ.ok.head
    have h2:=hQ.ok.top
    omega
   have hr:(pj n q).length≤ae q:=ir n q (ae q)
   refine⟨pj n q ++ l,?_,?_,fun x hx=>?_⟩
   ·unfold jV
    rw [hq,Jd (fun e=>e rfl),h1]
    rfl
   ·rw [HW]
    omega
   ·rcases List.mem_append.1 hx with hx|hx
    ·have:=oa n q (ae q) x hx
     omega
    ·have:=h3 x hx
     omega
theorem iE(h:Hv mem): ∃ l,pW (az mem)=some l∧l.length≤28800∧ ∀ x∈l,32≤x.1.1∧x.1.1<128:=by
 obtain⟨l,h1,h2,h3⟩:=wm (pf:=az mem) 96 32 fun m a b=>h.good m a (by omega)
 exact⟨l,h1,by omega,fun x hx=>by have:=h3 x hx;omega⟩
def Tch(mem mem':List UInt8):Prop:= ∃ n0,∀ n,n≠n0→az mem n=zeroP→az mem' n=zeroP
theorem iJ(mem:List UInt8):Tch mem mem:=⟨0,fun _ _ h=>h⟩
theorem qa{x:List UInt8}(hm:mem.length=131072)(h2:n<128)(hx:x.length=1024):Tch mem (gH mem n x):=⟨n,fun k hk h0=>by
 rw [jB (by omega) hx,Jd hk]
 exact h0⟩
theorem wv:ae (aX zeroP).1=0:=by kernel_rfl
theorem pD: ∀ {ps:List (Nat×List UInt8)} {mem:List UInt8} {n:Nat},mem.length=131072→(∀ x∈ps,x.1<128∧x.2.length=1024)→(∀ x∈ps,x.1≠n)→az (oh mem ps) n=az mem n
 | [],_,_,_,_,_=>rfl
 | (a,x) :: ps,mem,n,hm,hp,hn=>by
   have h1:=hp _ Jl
   dsimp only at h1
   have h2:=pD (ps:=ps) (mem:=gH mem a x) (n:=n) (lI hm h1.1 h1.2) (fun y hy=>hp y (Jm _ hy)) (fun y hy=>hn y (Jm _ hy))
   have h3:a≠n:=hn _ Jl
   show az (oh (gH mem a x) ps) n=_
   rw [h2,jB (by omega) h1.2,Jd (fun e=>h3 e.symm)]
theorem AG(h0:az mem n=zeroP): ∀ x∈(fR (az mem) l).2,x.1≠n:=by
 unfold fR
 by_cases h1:tz l
 ·rw [Jd (fun e=>e h1)]
  by_cases h2:l0 (az mem) l
  ·rw [Jd (fun e=>e h2)]
   intro x hx e
   obtain⟨k,hk,rfl⟩:=JA.1 hx
   dsimp only at e
   subst e
   obtain⟨_,_,hs⟩:=dP.1 hk
   obtain⟨j,hj⟩:=List.exists_mem_of_ne_nil _ hs
   have h3:=Jp ((lZ h1).1 h2 _ hk j hj)
   rw [h0,wv] at h3
   omega
  ·rw [Je h2]
   intro x hx
   cases hx
 ·rw [Je h1]
  intro x hx
  cases hx
theorem qb(hv:Hv mem)(l:List (Int×Int)):Tch mem (oh mem (fR (az mem) l).2):=⟨0,fun n _ h0=>by
 rw [pD hv.len (fun x hx=>⟨(kg hv x hx).2.1,(kg hv x hx).2.2.len⟩) (AG h0)]
 exact h0⟩
def pY(H:au)(nx b h:Nat)(mem:List UInt8)(left puts:Int)(q:Res):Prop:=q.1 = .sc (.bool true)∧ ∃ (mem':List UInt8) (left' puts':Int),q.2.1.at' b=some (cX mem' left' puts')∧q.2.1.at' h=some (hpO (dk mem'))∧Hv mem'∧(left-96≤left'∧left'≤left)∧(puts≤puts'∧puts'≤puts+96)∧nx≤q.2.2∧(∀ m,m<nx→m≠b→m≠h→q.2.1.at' m=H.at' m)∧Tch mem mem'
def Ae(H:au)(nx b h:Nat)(x:nP):Prop:= ∀ H':au,(∀ m,m<nx→m≠b→m≠h→H'.at' m=H.at' m)→ActIs H' x
abbrev te(x:nP):VO:=aq 42 (re x)
theorem do0_s(hb:H.at' b=some (cX mem left puts))(hh:H.at' h=some (hpO (dk mem)))(hv:Hv mem)(hx:ActIs H x)(hk:x.1.kind≠1∧x.1.kind≠2∧x.1.kind≠3∧x.1.kind≠4):Fnc Tryz.prog 9 [.ptr b 0,.ptr h 0,.agg (re x)] H nx (pY H nx b h mem left puts):=by
 have hone:bh (re x)=true:=by simp only [bh,cC hx.1,cC hx.2];rfl
 refine JH Tryz.func9 rfl rfl ?_
 refine aW fun hund=>?_
 have lb:=hund _ _ hb
 have lh:=hund _ _ hh
 obtain⟨rows,hal,hrl,hrn⟩:=iE hv
 have hdoc:pW (dfH (dk mem))=some rows:=(kG fun n a b=>fh hv a b).trans hal
 repeat apply aj;rfl
 refine aL rfl rfl rfl (by kernel_rfl) (JG (mV (hm:=dk mem) (by repeat(first|assumption|refine ab (by omega) ?_)) (dh hv.len)) ?_)
 rintro⟨_,H1,n1⟩ ⟨u1,u2,⟨u3,_⟩|⟨rows',s,rr,u3,rfl,u4⟩⟩
 ·rw [hdoc] at u3
  cases u3
 rw [hdoc] at u3
 cases u3
 dsimp only at u1 u2 u4 ⊢
 have c1:H1.at' nx=some (te x):=(u2 nx (by omega)).trans (by repeat(exact ac))
 have cb:H1.at' b=some (cX mem left puts):=(u2 b (by omega)).trans (by repeat(first|assumption|refine ab (by omega) ?_))
 have ch:H1.at' h=some (hpO (dk mem)):=(u2 h (by omega)).trans (by repeat(first|assumption|refine ab (by omega) ?_))
 have co: ∀ m,m<nx→H1.at' m=H.at' m:=fun m hm=>(u2 m (by omega)).trans (by(repeat(refine ab (by omega) ?_));rfl)
 repeat first|refine cV rfl rfl rfl (F.ag _ rfl) cb (dp hv.len _ _) ?_|apply aj;rfl|apply aG;rfl;assumption;rfl
 obtain⟨k1,k2,k3,k4⟩:=hk
 repeat first|apply aj;rfl|apply ii;rfl;omega
 (apply bP Tryz.func9 Tryz.results9;rfl)
 exact⟨rfl,mem,left,puts,cb,ch,hv,⟨by omega,by omega⟩,⟨by omega,by omega⟩,by first|omega|(dsimp only;omega),fun m hm _ _=>co m hm,iJ _⟩
theorem iD(x:nP):(te x).cellsFrom (0+6) 2=some [.sc (.int .i64 x.1.tid.1),.sc (.int .i64 x.1.tid.2)]:=am 2 6 rfl rfl
theorem oU(x:nP):(te x).cellsFrom (0+2) 4=some [x.2.1,x.2.2,.sc (.int .u64 (x.1.ver.2.2.1:Int)),.sc (.int .u64 (x.1.ver.2.2.2:Int))]:=am 4 2 rfl rfl
theorem yV{k w:SV}(hk:BsIs H k (byV v.1))(hw:BsIs H w (byV v.2.1))(x y:Nat):bh [k,w,.sc (.int .u64 (x:Int)),.sc (.int .u64 (y:Int))]=true:=by
 simp only [bh,cC hk,cC hw]
 rfl
theorem do4_s(hb:H.at' b=some (cX mem left puts))(hh:H.at' h=some (hpO (dk mem)))(hv:Hv mem)(hx:ActIs H x)(hk:x.1.kind=4):Fnc Tryz.prog 9 [.ptr b 0,.ptr h 0,.agg (re x)] H nx (pY H nx b h mem left puts):=by
 have hone:bh (re x)=true:=by simp only [bh,cC hx.1,cC hx.2];rfl
 refine JH Tryz.func9 rfl rfl ?_
 refine aW fun hund=>?_
 have lb:=hund _ _ hb
 have lh:=hund _ _ hh
 obtain⟨rows,hal,hrl,hrn⟩:=iE hv
 have hdoc:pW (dfH (dk mem))=some rows:=(kG fun n a b=>fh hv a b).trans hal
 repeat apply aj;rfl
 refine aL rfl rfl rfl (by kernel_rfl) (JG (mV (hm:=dk mem) (by repeat(first|assumption|refine ab (by omega) ?_)) (dh hv.len)) ?_)
 rintro⟨_,H1,n1⟩ ⟨u1,u2,⟨u3,_⟩|⟨rows',s,rr,u3,rfl,u4⟩⟩
 ·rw [hdoc] at u3
  cases u3
 rw [hdoc] at u3
 cases u3
 dsimp only at u1 u2 u4 ⊢
 have c1:H1.at' nx=some (te x):=(u2 nx (by omega)).trans (by repeat(exact ac))
 have cb:H1.at' b=some (cX mem left puts):=(u2 b (by omega)).trans (by repeat(first|assumption|refine ab (by omega) ?_))
 have ch:H1.at' h=some (hpO (dk mem)):=(u2 h (by omega)).trans (by repeat(first|assumption|refine ab (by omega) ?_))
 have co: ∀ m,m<nx→H1.at' m=H.at' m:=fun m hm=>(u2 m (by omega)).trans (by(repeat(refine ab (by omega) ?_));rfl)
 repeat first|refine cV rfl rfl rfl (F.ag _ rfl) cb (dp hv.len _ _) ?_|apply aj;rfl|apply aG;rfl;assumption;rfl
 repeat first|apply aj;rfl|apply ii;rfl;omega
 refine cF rfl rfl rfl rfl (fun _=>?_) (fun e=>absurd hk (by omega))
 repeat first|refine dG rfl rfl rfl (F.ag _ rfl) c1 (iD x) ?_|apply aj;rfl
 refine aL rfl rfl rfl (by kernel_rfl) (JG (get_g (b:=b) (mem:=mem) (left:=left) (puts:=puts) (by assumption) hv.len) ?_)
 rintro⟨_,H2,n2⟩ ⟨s1,r1,rfl,d1,d2,d3,d4⟩
 dsimp only at d1 d2 d3 d4 ⊢
 refine aW fun hund2=>?_
 have e1:H2.at' nx=some (te x):=(d4 _ (by omega)).trans c1
 have e2:H2.at' h=some (hpO (dk mem)):=(d4 _ (by omega)).trans ch
 have e3: ∀ m,m<nx→H2.at' m=H.at' m:=fun m hm=>(d4 _ (by omega)).trans (co m hm)
 generalize hG:pc (az mem) x.1.tid.1 x.1.tid.2=G at d1
 obtain⟨kA,wA,rfl,hkA,hwA⟩:=d1
 have oA:=yV hkA.bs hwA.bs
 repeat first|refine dG rfl rfl rfl (F.ag _ rfl) (by(repeat(refine ab (by omega) ?_));exact e1) (iD x) ?_|refine dm rfl rfl rfl (F.sz _ rfl) (by repeat(first|assumption|exact ac)) rfl (by exact Hz rfl) (oA _ _) rfl ?_|apply aj;rfl
 refine aL rfl rfl rfl (by kernel_rfl) (JG (uf (hb:=h) (hm:=dk mem) (by(repeat(refine ab (by omega) ?_));exact e2) (dh hv.len)) ?_)
 rintro⟨_,H3,n3⟩ ⟨s3,r3,rfl,f1,f2,f3,f4⟩
 dsimp only at f1 f2 f3 f4 ⊢
 rw [Bj (fun n a b=>fh hv a b),hG] at f1 ⊢
 refine aW fun hund3=>?_
 have vA:VerIs H2 (nV kA wA G.1.2.2.1 G.1.2.2.2) G.1:=⟨kA,wA,rfl,hkA.bs,hwA.bs⟩
 have vA3:VerIs H3 (nV kA wA G.1.2.2.1 G.1.2.2.2) G.1:=vA.frame fun m vo hm=>by
  have:=hund2 m vo hm
  exact(f4 m (by omega)).trans (by(repeat(refine ab (by omega) ?_));exact hm)
 have vB3:=f1.is
 obtain⟨kB,wB,rfl,hkB,hwB⟩:=f1
 have oB:=yV hkB.bs hwB.bs
 have g1:H3.at' n2=some (aq 38 [kA,wA,.sc (.int .u64 (G.1.2.2.1:Int)),.sc (.int .u64 (G.1.2.2.2:Int))]):=(f4 _ (by omega)).trans (by repeat(exact ac))
 have g3: ∀ m,m<nx→H3.at' m=H.at' m:=fun m hm=>(f4 _ (by omega)).trans (by(repeat(refine ab (by omega) ?_));exact e3 m hm)
 have hs: ∀ (H':au) (nx':Nat),(∀ m,m<n3→H'.at' m=H3.at' m)→Fnc Tryz.prog 17 [nV kA wA G.1.2.2.1 G.1.2.2.2,nV kB wB G.1.2.2.1 G.1.2.2.2] H' nx' (fun q=>q=(.sc (.bool true),H',nx')):=fun H' nx' hh=>B5 (vA3.frame fun m vo hm=>(hh m (hund3 m vo hm)).trans hm) (vB3.frame fun m vo hm=>(hh m (hund3 m vo hm)).trans hm)
 repeat first|refine dm rfl rfl rfl (F.sz _ rfl) (by repeat(first|assumption|exact ac)) rfl (by exact Hz rfl) (oB _ _) rfl ?_|apply dH;rfl;rfl|refine dG rfl rfl rfl (F.ag _ rfl) (by repeat(first|assumption|exact ac|refine ab (by omega) ?_)) (am 4 0 rfl rfl) ?_|apply aj;rfl
 refine aL rfl rfl rfl (by kernel_rfl) (JG (hs _ _ fun m hm=>by(repeat(refine ab (by omega) ?_));rfl) ?_)
 rintro _ rfl
 dsimp only
 repeat apply aj;rfl
 (apply bP Tryz.func9 Tryz.results9;rfl)
 exact⟨rfl,mem,left,puts,by(repeat(refine ab (by omega) ?_));exact(g3 b lb).trans hb,by(repeat(refine ab (by omega) ?_));exact(g3 h lh).trans hh,hv,⟨by omega,by omega⟩,⟨by omega,by omega⟩,by first|omega|(dsimp only;omega),fun m hm _ _=>by(repeat(refine ab (by omega) ?_));exact g3 m hm,iJ _⟩
theorem zq(hv:Hv mem)(v:fY):((lB (az mem) v false).1.2.2≠0∧(lB (az mem) v false).2=none)∨((lB (az mem) v false).1.2.2=0∧ ∃ n y,(lB (az mem) v false).2=some (n,y)∧32≤n∧n<128∧GoodP y):=by
 have hg:=fun n y=>Be (n:=n) (x:=y) (d:=false) (v:=v) hv
 generalize hI:lB (az mem) v false=I at hg
 unfold lB at hI
 by_cases h1:iS v=false
 ·rw [Je h1] at hI
  subst hI
  exact .inl ⟨by decide,rfl⟩
 ·rw [Jd h1] at hI
  by_cases h2:(cu (az mem) (aR v) 96 32).1≠0
  ·rw [Je h2] at hI
   subst hI
   exact .inl ⟨h2,rfl⟩
  ·rw [Jd h2,Jd (by decide)] at hI
   subst hI
   exact .inr ⟨rfl,_,_,rfl,hg _ _ rfl⟩
theorem GU(h:iS v=false):lB (az mem) v false=((0,0,2),none):=by
 unfold lB
 rw [Je h]
theorem do1_s(hb:H.at' b=some (cX mem left puts))(hh:H.at' h=some (hpO (dk mem)))(hne:b≠h)(hv:Hv mem)(hx:Ae H nx b h x)(hk:x.1.kind=1)(hl : -1000000≤left∧left<0)(hp:0≤puts∧puts≤1000000):Fnc Tryz.prog 9 [.ptr b 0,.ptr h 0,.agg (re x)] H nx (pY H nx b h mem left puts):=by
 have hx0:=hx H fun _ _ _ _=>rfl
 have hone:bh (re x)=true:=by simp only [bh,cC hx0.1,cC hx0.2];rfl
 have hd:decide (left=0)=false:=Jx (by omega)
 refine JH Tryz.func9 rfl rfl ?_
 refine aW fun hund=>?_
 have lb:=hund _ _ hb
 have lh:=hund _ _ hh
 obtain⟨rows,hal,hrl,hrn⟩:=iE hv
 have hdoc:pW (dfH (dk mem))=some rows:=(kG fun n a b=>fh hv a b).trans hal
 repeat apply aj;rfl
 refine aL rfl rfl rfl (by kernel_rfl) (JG (mV (hm:=dk mem) (by repeat(first|assumption|refine ab (by omega) ?_)) (dh hv.len)) ?_)
 rintro⟨_,H1,n1⟩ ⟨u1,u2,⟨u3,_⟩|⟨rows',s,rr,u3,rfl,u4⟩⟩
 ·rw [hdoc] at u3
  cases u3
 rw [hdoc] at u3
 cases u3
 dsimp only at u1 u2 u4 ⊢
 have c1:H1.at' nx=some (te x):=(u2 nx (by omega)).trans (by repeat(exact ac))
 have cb:H1.at' b=some (cX mem left puts):=(u2 b (by omega)).trans (by repeat(first|assumption|refine ab (by omega) ?_))
 have ch:H1.at' h=some (hpO (dk mem)):=(u2 h (by omega)).trans (by repeat(first|assumption|refine ab (by omega) ?_))
 have co: ∀ m,m<nx→H1.at' m=H.at' m:=fun m hm=>(u2 m (by omega)).trans (by(repeat(refine ab (by omega) ?_));rfl)
 repeat first|refine cV rfl rfl rfl (F.ag _ rfl) cb (dp hv.len _ _) ?_|apply aj;rfl|apply aG;rfl;assumption;rfl
 refine cF rfl rfl rfl rfl (fun _=>?_) (fun e=>absurd hk (by omega))
 have vr: ∀ (H':au),(∀ m,m<nx→m≠b→m≠h→H'.at' m=H.at' m)→VerIs H' (nV x.2.1 x.2.2 x.1.ver.2.2.1 x.1.ver.2.2.2) x.1.ver:=fun H' hf=>⟨_,_,rfl,(hx H' hf).1,(hx H' hf).2⟩
 repeat first|refine dG rfl rfl rfl (F.ag _ rfl) c1 (oU x) ?_|apply aj;rfl
 refine aL rfl rfl rfl (by kernel_rfl) (JG (Bd (b:=b) (mem:=mem) (left:=left) (puts:=puts) cb hv.len (vr H1 fun m hm _ _=>co m hm) (by omega) (by omega)) ?_)
 rintro⟨_,H2,n2⟩ ⟨rfl,d2,d3,d4⟩
 dsimp only at d2 d3 d4 ⊢
 rw [hd] at d2 ⊢
 have e1:H2.at' nx=some (te x):=(d4 _ (by omega) (by omega)).trans c1
 have e2:H2.at' h=some (hpO (dk mem)):=(d4 _ (by omega) (Ne.symm hne)).trans ch
 have e3: ∀ m,m<nx→m≠b→H2.at' m=H.at' m:=fun m hm hmb=>(d4 _ (by omega) hmb).trans (co m hm)
 have hc:=zq hv x.1.ver
 have hno:=GU (mem:=mem) (v:=x.1.ver)
 have hdI:lB (dfH (dk mem)) x.1.ver false=lB (az mem) x.1.ver false:=Bf (fun n a b=>fh hv a b) _ _
 generalize lB (az mem) x.1.ver false=I at hc hno hdI d2 ⊢
 repeat first|refine dG rfl rfl rfl (F.ag _ rfl) (by(repeat(refine ab (by omega) ?_));exact e1) (oU x) ?_|apply aj;rfl|apply aG;rfl;(focus((repeat(exact ac));done));rfl
 refine aL rfl rfl rfl (by kernel_rfl) (JG (zd (vr _ fun m hm hmb _=>by(repeat(refine ab (by omega) ?_));exact e3 m hm hmb)) ?_)
 rintro _ rfl
 dsimp only
 cases hm:iS x.1.ver with
 | false=>
   rw [hno hm] at d2 ⊢
   have d2':H2.at' b=some (cX mem left puts):=d2
   repeat first|refine cV rfl rfl rfl (F.ag _ rfl) (by(repeat(refine ab (by omega) ?_));exact d2') (dp hv.len _ _) ?_|apply dH;rfl;rfl|apply nS (r:=true) (a:=(0,0)) (b:=(0,0)) (hr:=fu.2 rfl);rfl;rfl;rfl;rfl|apply aj;rfl|apply aG;rfl;(focus((repeat(exact ac));done));rfl
   (apply bP Tryz.func9 Tryz.results9;rfl)
   exact⟨rfl,mem,left,puts,by(repeat(refine ab (by omega) ?_));exact d2',by(repeat(refine ab (by omega) ?_));exact e2,hv,⟨by omega,by omega⟩,⟨by omega,by omega⟩,by first|omega|(dsimp only;omega),fun m hm hmb _=>by(repeat(refine ab (by omega) ?_));exact e3 m hm hmb,iJ _⟩
 | true=>
   repeat first|refine dG rfl rfl rfl (F.ag _ rfl) (by(repeat(refine ab (by omega) ?_));exact e1) (oU x) ?_|apply aj;rfl
   refine aL rfl rfl rfl (by kernel_rfl) (JG (DL (hb:=h) (hm:=dk mem) (by(repeat(refine ab (by omega) ?_));exact e2) (dh hv.len) (vr _ fun m hm hmb _=>by(repeat(refine ab (by omega) ?_));exact e3 m hm hmb) hm) ?_)
   rintro⟨_,H3,n3⟩ ⟨rfl,f2,f3,f4⟩
   dsimp only at f2 f3 f4 ⊢
   rw [hdI] at f2 ⊢
   have g1:H3.at' n2=some (ez (I.1.1:Int) (I.1.2.1:Int)):=(f4 _ (by omega) (by omega)).trans (by repeat(exact ac))
   have g2:H3.at' b=some (putO mem left puts I.2):=(f4 _ (by omega) hne).trans (by(repeat(refine ab (by omega) ?_));exact d2)
   have g3: ∀ m,m<nx→m≠b→m≠h→H3.at' m=H.at' m:=fun m hm hmb hmh=>(f4 _ (by omega) hmh).trans (by(repeat(refine ab (by omega) ?_));exact e3 m hm hmb)
   clear d4 f4
   rcases hc with ⟨hc1,hc2⟩|⟨hc1,n,y,hc2,hc3,hc4,hc5⟩
   ·rw [hc2] at f2 g2
    have g2':H3.at' b=some (cX mem left puts):=g2
    have f2':H3.at' h=some (hpO (dk mem)):=f2
    repeat first|apply dH;rfl;rfl|apply ii;rfl;omega|apply nS (r:=true) (a:=((I.1.1:Int),(I.1.2.1:Int))) (b:=((I.1.1:Int),(I.1.2.1:Int))) (hr:=fu.2 rfl);rfl;rfl;rfl;rfl|apply aj;rfl|apply aG;rfl;(focus((repeat(first|assumption|exact ac|refine ab (by omega) ?_));done));rfl
    (apply bP Tryz.func9 Tryz.results9;rfl)
    exact⟨rfl,mem,left,puts,by(repeat(refine ab (by omega) ?_));exact g2',by(repeat(refine ab (by omega) ?_));exact f2',hv,⟨by omega,by omega⟩,⟨by omega,by omega⟩,by first|omega|(dsimp only;omega),fun m hm hmb hmh=>by(repeat(refine ab (by omega) ?_));exact g3 m hm hmb hmh,iJ _⟩
   ·rw [hc2] at f2 g2
    have g2':H3.at' b=some (cX (gH mem n y) (left-1) (puts+1)):=g2
    have f2':H3.at' h=some (hpO (gH (dk mem) (n-32) y)):=f2
    rw [← mc hv.len hc3 hc4 hc5.len] at f2'
    have hv2:=hv.set hc3 hc4 hc5
    repeat first|refine cV rfl rfl rfl (F.ag _ rfl) (by(repeat(refine ab (by omega) ?_));exact g2') (dp hv2.len _ _) ?_|apply dH;rfl;rfl|apply dH;rfl;omega|apply nS (r:=true) (a:=((I.1.1:Int),(I.1.2.1:Int))) (b:=((I.1.1:Int),(I.1.2.1:Int))) (hr:=fu.2 rfl);rfl;rfl;rfl;rfl|apply aj;rfl|apply aG;rfl;(focus((repeat(first|assumption|exact ac|refine ab (by omega) ?_));done));rfl|apply aK;rfl;omega;omega
    (apply bP Tryz.func9 Tryz.results9;rfl)
    exact⟨rfl,gH mem n y,left-1,puts+1,by(repeat(refine ab (by omega) ?_));exact g2',by(repeat(refine ab (by omega) ?_));exact f2',hv2,⟨by omega,by omega⟩,⟨by omega,by omega⟩,by first|omega|(dsimp only;omega),fun m hm hmb hmh=>by(repeat(refine ab (by omega) ?_));exact g3 m hm hmb hmh,qa hv.len hc4 hc5.len⟩
end
end Go.Proofs.YtnhmbonmlfeifaaGreat
end
section
namespace Go.Sy
open Go Go.Sl Go.RowKit
theorem D6{vF:Nat→SV}(h: ∀ (ρ:Nat→Nat) n,(vF n).ren ρ=vF (ρ n)){e e':Env}{a b:Nat}(hab:e a=e' b):(vF a).conc e=(vF b).conc e':=by
 have k: ∀ (e:Env) a,(vF a).conc e=(vF 0).conc (pull e fun _=>a):=fun e a=>by
  have:=ee (ρ:=fun _=>a) (e:=e) (vF 0)
  rw [h] at this
  exact this
 rw [k e a,k e' b,show pull e (fun _=>a)=pull e' (fun _=>b)from funext fun _=>hab]
theorem A8{K:Zone}{w:World}{vo:VO}{x:Ent}{e e':Env}{a b:Nat}(h: ∀ ρ,vo.ren ρ=vo)(hab:e a=e' b)(hl:Lies K w e vo x):Lies K w e' vo x:=by
 have k: ∀ (e:Env) a,Lies K w e vo x↔Lies K w (pull e fun _=>a) vo x:=fun e a=>by
  have:=kH (K:=K) (w:=w) (vo:=vo) (x:=x) (ρ:=fun _=>a) (e:=e)
  rw [h] at this
  exact this
 rw [k e a,show pull e (fun _=>a)=pull e' (fun _=>b)from funext fun _=>hab] at hl
 exact(k e' b).2 hl
structure Mk where
 c:Nat
 vF:Nat→SV
 vo:VO
structure MkOne (P:Program) (rn:Rn) (R:List Rec) (H0:au) (n0 p:Nat) (m:Mk):Prop where
 ex: ∃ r,R[m.c]? =some r∧r.val=m.vF (n0+p)∧ ∀ (H:au) (n:Nat),n0≤n→(∀ i,i<n0→H.at' i=H0.at' i)→ig P rn r.T H n r.o (m.vF n,H.set n m.vo,n+1)
 ren: ∀ (ρ:Nat→Nat) n,(m.vF n).ren ρ=m.vF (ρ n)
 na: ∀ ρ,m.vo.ren ρ=m.vo
def tj(P:Program)(rn:Rn)(r:Rec)(H:au)(n:Nat):Prop:=ReadDoes P r.T H r.o r.val∨(Free r.val∧ig P rn r.T H n r.o (r.val,H,n))
structure MkOk (P:Program) (rn:Rn) (ops:Array Oper) (R:List Rec) (Q:List (au×Nat)) (C:List Nat) (ms:List Mk) (H0:au) (n0:Nat):Prop where
 c: ∀ (p:Nat) m,ms[p]? =some m→C[p]? =some m.c
 one: ∀ (p:Nat) m,ms[p]? =some m→MkOne P rn R H0 n0 p m
 q: ∃ Hk,Q[ms.length]? =some (Hk,n0+ms.length)∧(∀ i,i<n0∨n0+ms.length≤i→Hk.at' i=H0.at' i)∧ ∀ (p:Nat) m,ms[p]? =some m→Hk.at' (n0+p)=some m.vo
 behind: ∀ (j c:Nat),ms.length≤j→C[j]? =some c→ ∀ m∈ms,Anc ops c m.c
 fl: ∀ r∈R,r.chain=false→r.wanted=true→(∃ m∈ms,¬ Anc ops r.i m.c)→ ∀ H,(∀ i,i<n0→H.at' i=H0.at' i)→(∀ (p:Nat) m,ms[p]? =some m→Anc ops r.i m.c→H.at' (n0+p)=some m.vo)→tj P rn r H (n0+ms.length)
def Eh(ms:List Mk)(C:List Nat)(H0:au)(n0:Nat):Mem:=fun L e H n=>(∃ m∈ms,¬ L m.c)∧n=n0+ms.length∧(∀ (j c:Nat),ms.length≤j→C[j]? =some c→ ¬ L c)∧(∀ i,i<n0∨n0+ms.length≤i→H.at' i=H0.at' i) ∧
 ∀ (p:Nat) m,ms[p]? =some m→(L m.c→H.at' (n0+p)=some m.vo)∧(¬ L m.c→H.at' (n0+p)=none∧e (n0+p)=none)
section
variable {P:Program} {K:Zone} {w0:World} {rn:Rn} {nt:Nat} {ops:Array Oper} {T0:Tr SV} {R:List Rec} {Q:List (au×Nat)} {C:List Nat} {ms:List Mk} {H0:au} {n0:Nat}
theorem wF(hrn:nu P K w0 rn)(hR:RegOK P rn nt ops T0 R Q C)(hk:MkOk P rn ops R Q C ms H0 n0)(hl:CG P rn ops R Q C ms.length):tf P K w0 nt ops R (fun L e H n=>Eh ms C H0 n0 L e H n∨Hp Q C ms.length L e H n):=by
 intro L i o r e w tr H n fn rest k ds kd rof cs ho hr hro hni hanc hcl hT hwant hM hS
 rcases hM with hM|hM
 rotate_left
 ·obtain⟨e',w',u,H',n',g1,g2,g⟩:=rD hrn hR hl L i o r e w tr H n fn rest k ds kd rof cs ho hr hro hni hanc hcl hT hwant hM hS
  exact⟨e',w',u,H',n',g1,.inr g2,g⟩
 obtain⟨⟨m0,hm0,hm0L⟩,rfl,hlate,hold,hmk⟩:=hM
 have hrec:=hR.recs i r hr
 have stay:r.chain=false→Eh ms C H0 n0 (fun j=>L j∨j=i) e H (n0+ms.length):=fun hc=>by
  have hne: ∀ {j c:Nat},C[j]? =some c→c≠i:=fun {j c} hj he=>by
   subst he
   rw [hR.at_chain hj hr] at hc
   cases hc
  refine⟨⟨m0,hm0,?_⟩,rfl,fun j c hj hc'=>?_,hold,fun p m hp=>?_⟩
  ·obtain⟨p,hp⟩:=List.mem_iff_getElem?.1 hm0
   exact fun h=>h.elim hm0L (hne (hk.c p m0 hp))
  ·exact fun h=>h.elim (hlate j c hj hc') (hne hc')
  ·have hn:=hne (hk.c p m hp)
   exact⟨fun h=>(hmk p m hp).1 (h.resolve_right hn),fun h=>(hmk p m hp).2 fun h'=>h (.inl h')⟩
 cases hwd:r.wanted with
 | false=>
   rw [hwd] at hwant
   obtain⟨h1,h2⟩:=hrec.skip hwd
   exact⟨e,w,undef,H,_,JO e,.inl (stay h2),hS,by rw [h1];rfl,.one (jq ho hwant)⟩
 | true=>
   rw [hwd] at hwant
   cases hc:r.chain with
   | false=>
     have hri:=hrec.idx
     rcases hk.fl r (HM hr) hc hwd ⟨m0,hm0,fun h=>hm0L (hanc _ (hri ▸ h))⟩ H (fun i hi=>hold i (.inl hi)) (fun p m hp ha=>(hmk p m hp).1 (hanc _ (hri ▸ ha)))with hf|⟨hfree,hf⟩
     ·rw [hro] at hf
      obtain⟨u,hu,hst⟩:=oE (P:=P) (fn:=fn) (rest:=rest) (k:=k) (ds:=ds) (kd:=kd) (rof:=rof) (cs:=cs) hS hT ho hwant (hro ▸ (hrec.float hwd hc).1) hf
      exact⟨e,w,u,H,_,JO e,.inl (stay hc),hS,hu,hst⟩
     ·rw [hro] at hf
      obtain⟨e1,w1,u,hle,hS1,hu,hst⟩:=l7 (P:=P) hrn (fn:=fn) (rest:=rest) (k:=k) (ds:=ds) (kd:=kd) (rof:=rof) (cs:=cs) hS hT ho hwant hf
      exact⟨e,w1,u,H,_,JO e,.inl (stay hc),hS.drop hle hS1 (fun _ _=>rfl),hfree _ _ _ hu,hst⟩
   | true=>
     obtain⟨_,hC,_⟩:=hrec.eff hc
     have hlt:r.stg<ms.length:=by
      rcases Jg r.stg ms.length with h|h
      ·exact h
      ·exact absurd (hanc _ (hk.behind r.stg i h hC m0 hm0)) hm0L
     obtain⟨m,hm⟩: ∃ m,ms[r.stg]? =some m:=⟨_,Hx hlt⟩
     generalize r.stg=p at hC hlt hm
     have hmc:m.c=i:=by
      have:=hk.c _ m hm
      rw [hC] at this
      exact(Option.some.inj this).symm
     have h1:=hk.one p m hm
     obtain⟨r',hr',hv,hef⟩:=h1.ex
     rw [hmc,hr] at hr'
     cases hr'
     have hef:=hef H (n0+ms.length) (Nat.le_add_right _ _) (fun i hi=>hold i (.inl hi))
     rw [hro] at hef
     obtain⟨e1,w1,u,hle,hS1,hu,hst⟩:=l7 (P:=P) hrn (fn:=fn) (rest:=rest) (k:=k) (ds:=ds) (kd:=kd) (rof:=rof) (cs:=cs) hS hT ho hwant hef
     obtain⟨_,heN⟩:=(hmk p m hm).2 (by rw [hmc];exact hni)
     have hle':e.le (fun j=>if j=n0+p then e1 (n0+ms.length) else e j):=fun j x hx=>by
      by_cases hj:j=n0+p
      ·rw [hj,heN] at hx;cases hx
      ·exact(Jd hj).trans hx
     have hlow: ∀ {j:Nat} {v:VO},H.at' j=some v→j<n0+ms.length:=fun {j v} h=>by
      obtain⟨x,hx,_⟩:=hS.rel j v h
      rcases Jg j (n0+ms.length)with q|q
      ·exact q
      ·rw [hS.fresh j q] at hx;cases hx
     have up: ∀ {j:Nat} {v:VO},(H.set (n0+p) m.vo).at' j=some v→(H.set (n0+ms.length) m.vo).at' (if j=n0+p then n0+ms.length else j)=some v:=fun {j v} h=>by
      rcases bL h with ⟨rfl,rfl⟩|⟨hne,h⟩
      ·rw [Je rfl];exact ac
      ·rw [Jd hne];exact ab (Nat.ne_of_lt (hlow h)) h
     have upe: ∀ {j:Nat} {v:VO} {x:Ent},(H.set (n0+p) m.vo).at' j=some v→(if j=n0+p then e1 (n0+ms.length) else e j)=some x→e1 (if j=n0+p then n0+ms.length else j)=some x:=fun {j v x} h hx=>by
      by_cases hj:j=n0+p
      ·rw [Je hj] at hx ⊢;exact hx
      ·rw [Jd hj] at hx ⊢;exact hle j x hx
     have hS':St K w0 (fun j=>if j=n0+p then e1 (n0+ms.length) else e j) (H.set (n0+p) m.vo) (n0+ms.length) w1:=by
      refine⟨hS1.below,fun j v h=>?_,fun j j' v v' x x' a b c d hne q1 q2 q3 q4=>hS1.inj _ _ v v' x x' (up a) (up b) (upe a c) (upe b d) (fun he=>hne ?_) q1 q2 q3 q4,fun j hj=>(Jd (by omega)).trans (hS.fresh j hj)⟩
      ·obtain⟨x,hx,hlx⟩:=hS1.rel _ v (up h)
       rcases bL h with ⟨rfl,rfl⟩|⟨hne,h⟩
       ·rw [Je rfl] at hx
        exact⟨x,(Je rfl).trans hx,A8 (a:=n0+ms.length+1) (b:=n0+ms.length+1) h1.na (by rw [hS1.fresh _ (HS _),Jd (by omega),hS.fresh _ (Jb _)]) hlx⟩
       ·rw [Jd hne] at hx
        obtain⟨x0,hx0,hl0⟩:=hS.rel j v h
        have:=hle j x0 hx0
        rw [hx] at this
        cases this
        exact⟨x,(Jd hne).trans hx0,nO hle hle' hl0 hlx⟩
      ·by_cases g1:j=n0+p
       ·by_cases g2:j'=n0+p
        ·rw [g1,g2]
        ·rw [Je g1,Jd g2] at he
         rcases bL b with ⟨q,_⟩|⟨_,q⟩
         ·exact absurd q g2
         ·have:=hlow q
          omega
       ·by_cases g2:j'=n0+p
        ·rw [Jd g1,Je g2] at he
         rcases bL a with ⟨q,_⟩|⟨_,q⟩
         ·exact absurd q g1
         ·have:=hlow q
          omega
        ·rw [Jd g1,Jd g2] at he
         exact he
     have hval:r.val.conc (fun j=>if j=n0+p then e1 (n0+ms.length) else e j)=some u:=by
      rw [hv,D6 h1.ren (e':=e1) (b:=n0+ms.length) (Je rfl)]
      exact hu
     refine⟨_,w1,u,H.set (n0+p) m.vo,n0+ms.length,hle',?_,hS',hval,hst⟩
     have hqp: ∀ {q:Nat} {mq:Mk},ms[q]? =some mq→mq.c=i→q=p:=fun {q mq} hq he=>oT hR (by rw [← he];exact hk.c q mq hq) hC
     have hinj: ∀ {j:Nat},C[j]? =some i→j=p:=fun {j} hj=>oT hR hj hC
     by_cases hall: ∀ m'∈ms,L m'.c∨m'.c=i
     ·obtain⟨Hk,hQ,g1,g2⟩:=hk.q
      have hH:H.set (n0+p) m.vo=Hk:=funext fun j=>by
       show(H.set (n0+p) m.vo).at' j=Hk.at' j
       by_cases hj:j<n0∨n0+ms.length≤j
       ·exact(ab (by omega) (hold j hj)).trans (g1 j hj).symm
       ·obtain⟨q,rfl⟩: ∃ q,j=n0+q:=⟨j-n0,by omega⟩
        obtain⟨mq,hq⟩: ∃ mq,ms[q]? =some mq:=⟨_,Hx (by omega)⟩
        rw [g2 q mq hq]
        by_cases hqe:q=p
        ·subst hqe
         rw [hm] at hq
         cases hq
         exact ac
        ·exact ab (by omega) ((hmk q mq hq).1 ((hall mq (HM hq)).resolve_right fun he=>hqe (hqp hq he)))
      refine .inr ⟨ms.length,HS _,by rw [hH];exact hQ,fun j c hj=>⟨fun h=>?_,fun h=>?_⟩⟩
      ·rcases Jg j ms.length with g|g
       ·exact g
       ·exact h.elim (fun h=>absurd h (hlate j c g hj)) fun h=>by
         subst h
         have:=hinj hj
         omega
      ·obtain⟨m',hm'⟩: ∃ m',ms[j]? =some m':=⟨_,Hx h⟩
       have:=hk.c j m' hm'
       rw [hj] at this
       cases this
       exact hall m' (HM hm')
     ·refine .inl ⟨?_,rfl,fun j c hj hc'=>?_,fun j hj=>ab (by omega) (hold j hj),fun q mq hq=>⟨fun h=>?_,fun h=>?_⟩⟩
      ·apply Classical.byContradiction
       intro hno
       exact hall fun m' hm'=>Classical.byContradiction fun h=>hno ⟨m',hm',h⟩
      ·rintro(h|h)
       ·exact hlate j c hj hc' h
       ·subst h
        have:=hinj hc'
        omega
      ·by_cases hqe:q=p
       ·subst hqe
        rw [hm] at hq
        cases hq
        exact ac
       ·exact ab (by omega) ((hmk q mq hq).1 (h.resolve_right fun he=>hqe (hqp hq he)))
      ·have hqe:q≠p:=fun he=>by
        subst he
        rw [hm] at hq
        cases hq
        exact h (.inr hmc)
       have:=(hmk q mq hq).2 fun h'=>h (.inl h')
       exact⟨ab (by omega) this.1,(Jd (by omega)).trans this.2⟩
end
def addL(H:au):Nat→List VO→au
 | _,[]=>H
 | n,vo :: l=>addL (H.set n vo) (n+1) l
theorem oZ: ∀ (l:List VO) (H:au) (n i:Nat),(addL H n l).at' i=if n≤i∧i<n+l.length then l[i-n]? else H.at' i
 | [],H,n,i=>by
   rw [Jd (by simp only [List.length_nil];omega)]
   rfl
 | x :: l,H,n,i=>by
   show(addL (H.set n x) (n+1) l).at' i=_
   rw [oZ l]
   by_cases h1:n+1≤i∧i<n+1+l.length
   ·rw [Je h1,Je (by simp only [HV];omega),show i-n=(i-(n+1))+1 by omega]
    rfl
   ·rw [Jd h1]
    by_cases h2:i=n
    ·subst h2
     rw [Je (by simp only [HV];omega),Nat.sub_self]
     exact ac
    ·rw [Jd (by simp only [HV];omega)]
     exact ab h2 rfl
def MkAll(P:Program)(rn:Rn)(R:List Rec)(H0:au)(n0:Nat):Nat→List Mk→Prop
 | _,[]=>True
 | p,m :: l=>MkOne P rn R H0 n0 p m∧MkAll P rn R H0 n0 (p+1) l
theorem MkAll.get{P:Program}{rn:Rn}{R:List Rec}{H0:au}{n0:Nat}: ∀ {l:List Mk} {p:Nat},MkAll P rn R H0 n0 p l→ ∀ (j:Nat) m,l[j]? =some m→MkOne P rn R H0 n0 (p+j) m
 | [],_,_,j,m,h=>by simp at h
 | x :: l,p,hh,0,m,h=>by
   cases h
   exact hh.1
 | x :: l,p,hh,j+1,m,h=>by
   rw [show p+(j+1)=p+1+j by omega]
   exact hh.2.get j m (by simpa using h)
def Ho(b:Nat)(H:au):Nat→List Mk→Prop
 | _,[]=>True
 | n,m :: l=>(b.testBit m.c=true→H.at' n=some m.vo)∧Ho b H (n+1) l
theorem t7{b:Nat}{H:au}: ∀ {l:List Mk} {n:Nat},(∀ (p:Nat) m,l[p]? =some m→b.testBit m.c=true→H.at' (n+p)=some m.vo)→Ho b H n l
 | [],_,_=>trivial
 | m :: l,n,h=>⟨fun hb=>h 0 m rfl hb,t7 fun p m' hp hb=>by
    rw [show n+1+p=n+(p+1) by omega]
    exact h (p+1) m' hp hb⟩
def FlM(P:Program)(ancs chain:List Nat)(ms:List Mk)(H0:au)(n0:Nat)(Q:List (au×Nat)):List Rec→Prop
 | []=>True
 | r :: l=>((r.chain || !r.wanted || (Nat.beq (jH (ancs.getD r.i 0) chain) r.stg && Nat.beq (eO ancs r.i chain) r.stg && ms.all fun m=>(ancs.getD r.i 0).testBit m.c))=true ∨
    ((∀ H n,(∀ i,i<n0→H.at' i=H0.at' i)→Ho (ancs.getD r.i 0) H n0 ms→tj P (wpr P) r H n)∧AllHQ (Q.take (chain.length-ms.length)) (fun H n=>tj P (wpr P) r H n)))∧FlM P ancs chain ms H0 n0 Q l
theorem FlM.ok{P:Program}{ancs chain:List Nat}{ms:List Mk}{H0:au}{n0:Nat}{Q:List (au×Nat)}: ∀ {l:List Rec},FlM P ancs chain ms H0 n0 Q l→ ∀ r∈l,r.chain=false→r.wanted=true →
 (jH (ancs.getD r.i 0) chain=r.stg∧eO ancs r.i chain=r.stg∧ ∀ m∈ms,(ancs.getD r.i 0).testBit m.c=true)∨((∀ H n,(∀ i,i<n0→H.at' i=H0.at' i)→Ho (ancs.getD r.i 0) H n0 ms→tj P (wpr P) r H n)∧AllHQ (Q.take (chain.length-ms.length)) (fun H n=>tj P (wpr P) r H n))
 | [],_,r,hm,_,_=>by cases hm
 | r0 :: l,hh,r,hm,hc,hw=>by
   rcases Js.1 hm with rfl|hm
   ·rcases hh.1 with h|h
    ·rw [hc,hw] at h
     simp only [Bool.not_true,Bool.false_or,HR] at h
     exact .inl ⟨Jt h.1.1,Jt h.1.2,fun m hm=>List.all_eq_true.1 h.2 m hm⟩
    ·exact .inr h
   ·exact FlM.ok hh.2 r hm hc hw
theorem yf{P:Program}{rn:Rn}{nt:Nat}{ops:Array Oper}: ∀ {l:List Oper} {i:Nat} {s s':DS},DrawRun P rn nt ops i l s s'→s'.recs.length=s.recs.length+l.length
 | [],i,s,s',h=>by
   cases h
   rfl
 | o :: l,i,s,s',h=>by
   cases h with
   | cons h1 h2=>
     rw [yf h2,HV]
     rcases h1 with ⟨_,rfl⟩|⟨_,_,v,_,rfl⟩|⟨_,v,H,nx,_,rfl⟩ <;> simp only [HV] <;> omega
def CB(ancs cs l:List Nat):Bool:=jR ancs l && l.all fun d=>cs.all fun c=>(ancs.getD d 0).testBit c
section
variable {P:Program} {ro:Option Nat} {fn nt nx:Nat} {T:Tr SV} {k:List AIt} {dfs:List ADf} {H:au} {Q:Pst}
theorem An{id:Nat}{opl:List Oper}(hm:P.follows .mixedOrders=true)(hr:fU nt opl=true)
 (h:o8 P nt opl.toArray 0 opl ⟨T,H,nx,[],[(H,nx)],0⟩ (fun s=> ∃ (ms:List Mk) (l:List Nat),eJ s=ms.map (·.c) ++ l∧CB (eK [] opl) (ms.map (·.c)) l=true∧ms≠ []∧s.Hs.reverse[ms.length]? =some (addL H nx (ms.map (·.vo)),nx+ms.length) ∧
   MkAll P (wpr P) s.recs.reverse H nx 0 ms∧FlM P (eK [] opl) (eJ s) ms H nx s.Hs s.recs∧Wp P ro ⟨fn,nt,s.T,k,dfs,s.H,s.nx⟩ Q)) :
 Wp P ro ⟨fn,nt,T,.code (.region id opl.toArray true) :: k,dfs,H,nx⟩ Q:=by
 obtain⟨s,hs,ms,l,h1,h2,h3,h4,h5,h6,h7⟩:=h.ex
 refine⟨fun K w0 e w tmps todo ds' kd rof cs' hS hT ht hd hc=>?_⟩
 obtain⟨it,k',rfl,hi,hk⟩:=ht.cons
 have hi:it=Item.code (.region id opl.toArray true):=hi
 subst hi
 simp only [CB,HR] at h2
 have hcl: ∀ (p:Nat) m,ms[p]? =some m→(eJ s)[p]? =some m.c:=fun p m hp=>by
  rw [h1,HP (by rw [Ji];exact(Hy.1 hp).1),Ju,hp]
  rfl
 have hrest: ∀ (j c:Nat),ms.length≤j→(eJ s)[j]? =some c→l[j-ms.length]? =some c:=fun j c hj hc=>by
  rw [h1,Jn (by rw [Ji];exact hj),Ji] at hc
  exact hc
 have hlow: ∀ {i:Nat} {v:VO},H.at' i=some v→i<nx:=fun {i v} hi=>by
  obtain⟨x,hx,_⟩:=hS.rel i v hi
  rcases Jg i nx with q|q
  ·exact q
  ·rw [hS.fresh i q] at hx;cases hx
 have hnone: ∀ i,nx≤i→H.at' i=none:=fun i hi=>by
  cases hv:H.at' i with
  | none=>rfl
  | some v=>have:=hlow hv;omega
 have hpos:0<ms.length:=List.length_pos_iff.2 h3
 obtain⟨m0,hm0⟩: ∃ m0,m0∈ms:=List.exists_mem_of_ne_nil ms h3
 obtain⟨e',w',tmps',H',n',L,g1,g2,g3,g4,g5,g6⟩:=v7 (K:=K) (w0:=w0) (rn:=wpr P) hm (ops:=opl.toArray) (w:={w with drawn:=w.drawn+1}) hr hs
  (M:=fun L e H' n=>Eh ms (eJ s) H nx L e H' n∨Hp s.Hs.reverse (eJ s) ms.length L e H' n)
  (fun hR=>by
    have hfl:=FlM.ok h6
    refine wF (nQ K w0) hR ⟨hcl,fun p m hp=>by have:=h5.get p m hp;rwa [Jf] at this,⟨_,h4,fun i hi=>?_,fun p m hp=>?_⟩,fun j c hj hc m hm=>?_,fun r hr hc hw ⟨m,hm,hb⟩ H1 q1 q2=>?_⟩ ⟨fun j c c' hj q1 q2=>?_,fun r hr hc hw st hst hlo hhi H1 n1 hQ1=>r6 hR hr hc hw hQ1 fun hne=>?_⟩
    ·rw [oZ,Jd (by rw [Ji];omega)]
    ·have:=(Hy.1 hp).1
     rw [oZ,Je (by rw [Ji];omega),Nat.add_sub_cancel_left,Ju,hp]
     rfl
    ·exact List.all_eq_true.1 (List.all_eq_true.1 h2.2 c (HM (hrest j c hj hc))) m.c (List.mem_map_of_mem hm)
    ·rcases hfl r (by simpa using hr) hc hw with ⟨_,_,h⟩|h
     ·exact absurd (h m hm) hb
     ·exact h.1 H1 _ q1 (t7 q2)
    ·exact mQ h2.1 (j-ms.length) c c' (hrest j c hj q1) (by rw [show j-ms.length+1=j+1-ms.length by omega];exact hrest (j+1) c' (by omega) q2)
    ·have both:tj P (wpr P) r H1 n1→ti P (wpr P) r.T H1 n1 r.o r.val:=fun h=>h.elim .inl fun h=> .inr h.2
     rcases hfl r (by simpa using hr) hc hw with ⟨q1,q2,_⟩|h
     ·exact absurd (Nat.le_antisymm (q2 ▸ hhi) (q1 ▸ hlo)) hne
     ·refine both ?_
      have hlen:=hR.stages
      change s.Hs.reverse.length=(eJ s).length+1 at hlen
      have hst1:=(Hy.1 hQ1).1
      rw [List.length_reverse] at hlen hst1
      rcases Jg ms.length st with hg|hg
      ·refine AllHQ.get h.2 (i:=s.Hs.length-1-st) ?_
       rw [List.getElem?_take,Je (by omega),←List.getElem?_reverse hst1]
       exact hQ1
      ·have hst2:st=ms.length:=by omega
       subst hst2
       rw [h4] at hQ1
       cases hQ1
       refine h.1 _ _ (fun i hi=>?_) (t7 fun p m hp _=>?_)
       ·rw [oZ,Jd (by omega)]
       ·have:=(Hy.1 hp).1
        rw [oZ,Je (by rw [Ji];omega),Nat.add_sub_cancel_left,Ju,hp]
        rfl)
  (n:=nx+ms.length) (.inl ⟨⟨m0,hm0,fun h=>h⟩,rfl,fun _ _ _ _ h=>h,fun _ _=>rfl,fun p m hp=>⟨fun h=>h.elim,fun _=>⟨hnone _ (Nat.le_add_right _ _),hS.fresh _ (Nat.le_add_right _ _)⟩⟩⟩)
  (by
    have h:=hS.drew (w:=w)
    exact⟨h.below,h.rel,h.inj,fun i hi=>h.fresh i (by show nx≤i;omega)⟩) hT (w.tape w.drawn (.order fn id)) fn k' ds' kd rof cs'
 rcases g3 with ⟨⟨m,hm,hno⟩,_⟩|g3
 ·exfalso
  obtain⟨p,hp⟩:=List.mem_iff_getElem?.1 hm
  have:=hcl p m hp
  obtain⟨r,hr1,_⟩:=(h5.get p m hp).ex
  have hlt:=(Hy.1 hr1).1
  rw [List.length_reverse,yf hs] at hlt
  exact hno (g2 _ (by simpa using hlt))
 obtain⟨rfl,rfl⟩:=vH hr hs g3 g2
 exact(h7.run K w0 e' w' tmps' k' ds' kd rof cs' g4 g5 (hk.mono g1) (hd.mono g1) (hc.mono g1)).pre (.head xZ (g6.trans (.one jp))) g1 rfl rfl (fun _ hr=>hr)
end
section
variable {P:Program} {tb:Tbl} {ancs chain:List Nat} {ms:List Mk} {H0:au} {n0:Nat} {Q:List (au×Nat)} {r:Rec} {l:List Rec}
theorem fm_c(h:r.chain=true)(k:FlM P ancs chain ms H0 n0 Q l):FlM P ancs chain ms H0 n0 Q (r :: l):=⟨.inl (oR h),k⟩
theorem G1(h1: ∀ H n,(∀ i,i<n0→H.at' i=H0.at' i)→Ho (ancs.getD r.i 0) H n0 ms→tj P (wpr P) r H n)(h2:AllHQ (Q.take (chain.length-ms.length)) (fun H n=>tj P (wpr P) r H n))(k:FlM P ancs chain ms H0 n0 Q l):FlM P ancs chain ms H0 n0 Q (r :: l):=⟨.inr ⟨h1,h2⟩,k⟩
theorem Hi{p:au→Nat→Prop}(h: ∀ H n,p H n): ∀ Q:List (au×Nat),AllHQ Q p
 | []=>trivial
 | q :: l=>⟨h q.1 q.2,Hi h l⟩
theorem fm_pG(ht:TblOk P tb)(h:np tb r.T r.o.op=some r.val)(k:FlM P ancs chain ms H0 n0 Q l):FlM P ancs chain ms H0 n0 Q (r :: l):=G1 (fun _ _ _ _=> .inl (iO ht h)) (Hi (fun _ _=> .inl (iO ht h)) _) k
end
end Go.Sy
namespace Go.Proofs.YtnhmbonmlfeifaaGreat
open Go Go.Sy
theorem fm_p{ancs chain:List Nat}{ms:List Mk}{H0:au}{n0:Nat}{Q:List (au×Nat)}{r:Rec}{l:List Rec}(h:np xh r.T r.o.op=some r.val)(k:FlM Tryz.prog ancs chain ms H0 n0 Q l):FlM Tryz.prog ancs chain ms H0 n0 Q (r :: l):=fm_pG jn h k
end Go.Proofs.YtnhmbonmlfeifaaGreat
end
section
namespace Go.Proofs.YtnhmbonmlfeifaaGreat
open Go Go.Sy Go.Sl Go.RowKit
section
variable {H:au}{i nx:Nat}{l:List (Int×Int)}{pf:Nat→List UInt8}
theorem Bz{s:SV}{v:fY}(hv:VerIs H s v)(hm:iS v=true):Fnc Tryz.prog 46 [s] H nx (fun q=>q=(.slu nx 0 (aR v).length,H.set nx (dat false (aR v).length 1 5 (byV (aR v))),nx+1)):=Fnc.next (wd hv hm)
theorem xd(v:fY)(x:Nat):aR (v.1,v.2.1,v.2.2.1,x)=bf (aR v) 8 (beB x 8):=by
 have h8:=bp v.2.2.1 8
 have hx:=bp x 8
 have hy:=bp v.2.2.2 8
 unfold aR bf
 dsimp only
 rw [List.take_left' h8,hx,←List.drop_drop,List.drop_left' h8,List.drop_left' hy,Jo]
theorem uj{hb x:Nat}{n k:Int}{hm:List UInt8}(hH:H.at' hb=some (hpO hm))(hl:hm.length=98304):Fnc Tryz.prog 23 [.ptr hb 0,wE (n,k),.sc (.int .u64 (x:Int))] H nx
 (fun q=>q.1 = .sc (.int .i64 ((ku (dfH hm) n k x).1:Int))∧q.2.1.at' hb=some (hpO (GB hm (ku (dfH hm) n k x).2))∧nx≤q.2.2∧ ∀ m,m<nx→m≠hb→q.2.1.at' m=H.at' m):=by
 refine JH Tryz.func23 rfl rfl ?_
 refine aW fun hund=>?_
 have lH:=hund _ _ hH
 repeat first|apply aj;rfl|apply aG;rfl;(focus((repeat(exact ac));done));rfl
 refine cL (R:=fun H1 n1=>n1=nx+1∧H1.at' nx=some (ez n k)∧H1.at' hb=some (hpO hm)∧ ∀ m,m<nx→H1.at' m=H.at' m) ⟨rfl,by repeat(exact ac),by(repeat(refine ab (by omega) ?_));exact hH,fun m hm=>by(repeat(refine ab (by omega) ?_));rfl⟩ ?_
 rintro H1 n1 ⟨rfl,a1,a4,a3⟩
 by_cases hbad:4000<x∨mu n k=false
 ·have hM:ku (dfH hm) n k x=(2,none):=by unfold ku;rw [Je hbad]
  rw [hM]
  have hb2:n<32∨127<n∨k<0∨4000<x:=by
   rcases hbad with h|h
   ·exact .inr (.inr (.inr h))
   ·have:=of_decide_eq_false h
    omega
  clear hbad hM
  by_cases h1:n<32
  ·clear hb2
   repeat first|apply o9;rfl;omega|apply aj;rfl
   (apply bP Tryz.func23 Tryz.results23;rfl)
   exact⟨rfl,a4,Jb _,fun m hm _=>a3 m hm⟩
  ·by_cases h2:127<n
   ·clear hb2
    repeat first|apply o9;rfl;omega|apply kM;rfl;omega|apply aj;rfl|apply aG;rfl;assumption;rfl
    (apply bP Tryz.func23 Tryz.results23;rfl)
    exact⟨rfl,a4,Jb _,fun m hm _=>a3 m hm⟩
   ·by_cases h3:k<0
    ·clear hb2
     repeat first|apply o9;rfl;omega|apply kM;rfl;omega|apply aj;rfl|apply aG;rfl;assumption;rfl
     (apply bP Tryz.func23 Tryz.results23;rfl)
     exact⟨rfl,a4,Jb _,fun m hm _=>a3 m hm⟩
    ·have h4:4000<x:=by omega
     clear hb2
     repeat first|apply o9;rfl;omega|apply kM;rfl;omega|apply aj;rfl|apply aG;rfl;assumption;rfl
     (apply bP Tryz.func23 Tryz.results23;rfl)
     exact⟨rfl,a4,Jb _,fun m hm _=>a3 m hm⟩
 ·have hx:x≤4000:=by omega
  have hmay:mu n k=true:=by cases h:mu n k with|true=>rfl|false=>exact absurd (.inr h) hbad
  have hmd:32≤n∧n<128∧0≤k:=Jp hmay
  obtain⟨N,rfl⟩: ∃ N:Nat,n=((32+N:Nat):Int):=⟨(n-32).toNat,by omega⟩
  obtain⟨K,rfl⟩: ∃ K:Nat,k=(K:Int):=⟨k.toNat,by omega⟩
  have hN:N<96:=by omega
  have hdf:dfH hm (32+N)=bareP (az hm N):=by unfold dfH;rw [show 32+N-32=N by omega]
  have hM:ku (dfH hm) ((32+N:Nat):Int) (K:Int) x=if(oS (dfH hm) (32+N) (jK K x)).2≠0 then((oS (dfH hm) (32+N) (jK K x)).2,none) else(0,some (32+N,(oS (dfH hm) (32+N) (jK K x)).1)):=by
   unfold ku
   rw [Jd hbad,Jv,Jv]
  have hch:oS (dfH hm) (32+N) (jK K x)=if(aX (bareP (az hm N))).2≠0 then(zeroP,13) else jK K x (aX (bareP (az hm N))).1:=by unfold oS;rw [hdf]
  rw [hM]
  clear hM hdf
  have hg:pc (dfH hm) ((32+N:Nat):Int) (K:Int)=if(aX (bareP (az hm N))).2≠0 then(iH,(aX (bareP (az hm N))).2) else if(cn (aX (bareP (az hm N))).1 K).2.2≠0 then(iH,6) else
   ((ofV (aS (aX (bareP (az hm N))).1 K)).getD iH,A2 (ofV (aS (aX (bareP (az hm N))).1 K))):=by
   have hdf:dfH hm (32+N)=bareP (az hm N):=by unfold dfH;rw [show 32+N-32=N by omega]
   unfold pc
   rw [Jd (by rw [hmay];decide),Jv,Jv,hdf]
  have hpl:=gp hl hN
  have hrs:=fun(H:au) nx (h:H.at' hb=some (hpO hm))=>lN (nx:=nx) h hl hN
  have hno:=lM (p:=bareP (az hm N))
  clear hbad
  repeat first|apply kM;rfl;omega|apply aj;rfl|apply aG;rfl;assumption;rfl
  refine aL rfl rfl rfl (by kernel_rfl) (JG (uf (n:=((32+N:Nat):Int)) (k:=(K:Int)) a4 hl) ?_)
  rintro⟨_,H2,n2⟩ ⟨s',r,rfl,b1,b2,b3,b4⟩
  dsimp only at b1 b2 b3 b4 ⊢
  refine aW fun hund2=>?_
  have c1:H2.at' nx=some (ez ((32+N:Nat):Int) (K:Int)):=(b4 _ (by omega)).trans a1
  have c2:H2.at' hb=some (hpO hm):=(b4 _ (by omega)).trans a4
  have co: ∀ m,m<nx→H2.at' m=H.at' m:=fun m hm=>(b4 _ (by omega)).trans (a3 m hm)
  clear b4 a1 a4 a3
  obtain⟨vk,vw,rfl,hk1,hw1⟩:=b1
  have hone: ∀ x y:Nat,bh (ew vk vw x y)=true:=fun x y=>by simp only [bh,cC hk1.bs,cC hw1.bs];rfl
  rw [hg] at hk1 hw1 ⊢
  clear hg
  clear hmay hund
  by_cases he:(aX (bareP (az hm N))).2=0
  ·rw [Jd (fun h=>h he)] at hch hk1 hw1 ⊢
   rw [nF he] at hrs
   obtain⟨hpp,hr,hof⟩:=cN (p:=bareP (az hm N)) (q:=(aX (bareP (az hm N))).1) (Prod.ext rfl he) (dT hpl)
   generalize (aX (bareP (az hm N))).1=p at hrs hpp hr hof hch hk1 hw1 ⊢
   dsimp only [AQ] at hrs
   by_cases hK:ae p≤K∨ar p K=0
   ·have hfd:cn p K=(0,0,6):=by unfold cn;split;rfl;rw [Je (by omega)]
    rw [hfd,Je (by decide)]
    have hch2:oS (dfH hm) (32+N) (jK K x)=(zeroP,6):=by rw [hch];unfold jK;rw [hfd,Je (by decide)]
    rw [hch2,Je (by decide)]
    dsimp only
    repeat first|apply aj;rfl|refine dm rfl rfl rfl (F.sz _ rfl) (by repeat(first|assumption|exact ac)) rfl (by exact Hz rfl) (hone _ _) rfl ?_|apply ii;rfl;omega
    (apply bP Tryz.func23 Tryz.results23;rfl)
    exact⟨rfl,by repeat(first|assumption|refine ab (by omega) ?_),by dsimp only;omega,fun m hm _=>by(repeat(refine ab (by omega) ?_));exact co m hm⟩
   ·have hs:ar p K≠0:=fun h=>hK (.inr h)
    have hn:K<ae p:=by omega
    have hfd:cn p K=(ay p K,ar p K,0):=by unfold cn;rw [Jd (by omega),Jd hs]
    have hbs:=cQ hr hn hs
    have hil:=dz hpp hbs.2.2.2
    have hos:=hof K hn hs
    obtain⟨v,hv⟩: ∃ v,ofV (aS p K)=some v:=by cases h:ofV (aS p K)with|some v=>exact⟨v,rfl⟩|none=>rw [h] at hos;cases hos
    have hiv:=Cd hv
    rw [hfd,Jd (fun h=>h rfl),hv] at hk1 hw1 ⊢
    have hmv:iS v=true:=tU hv
    have hmv2:iS (v.1,v.2.1,v.2.2.1,x)=true:=by
     have:=Jp hmv
     exact Jw ⟨this.1,this.2.1,this.2.2.1,hx⟩
    have hbl:=ef (v.1,v.2.1,v.2.2.1,x)
    have hbe:=xd v x
    have h8:=bp x 8
    have hbv:=ef v
    have hlen:(aR (v.1,v.2.1,v.2.2.1,x)).length=ar p K:=by rw [← hil,hiv,hbl,hbv]
    have hch2:oS (dfH hm) (32+N) (jK K x)=(bf p (ay p K) (aR (v.1,v.2.1,v.2.2.1,x)),0):=by rw [hch,hbe,←hiv];unfold jK;rw [hfd,Jd (fun h=>h rfl)]
    rw [hch2,Jd (fun h=>h rfl)]
    dsimp only [GB,Option.getD,A2] at hk1 hw1 ⊢
    rw [show 32+N-32=N by omega]
    clear hch hch2 hbe hiv hv hos hof hfd
    repeat first|apply aj;rfl|apply aG;rfl;(focus((repeat(first|assumption|exact ac|refine ab (by omega) ?_));done));rfl|apply aK;rfl;omega;omega|refine dm rfl rfl rfl (F.sz _ rfl) (by repeat(first|assumption|exact ac)) rfl (by exact Hz rfl) (hone _ _) rfl ?_|apply dH;rfl;(rfl)
    rw [show((32+N:Nat):Int)-32=(N:Int) by omega]
    have hrs2:=fun(H:au) nx (h:H.at' hb=some (hpO hm))=>hrs H nx h
    repeat first|apply bC hpp ai;rfl;(focus((repeat(exact ac));done))|refine aY rfl rfl ce ?_|apply aj;rfl|apply bY;rfl;kernel_rfl;exact hrs _ _ (by repeat(first|assumption|refine ab (by omega) ?_))
    have hvk:v.1≠ []:=fun h=>by
     have:=Jp hmv
     rw [h] at this
     exact absurd this.1.1 (by decide)
    have hrn:r<n2:=by
     obtain⟨vo,h⟩:=hk1.there hvk
     exact hund2 _ _ h
    refine cL (R:=fun H4 n4=>n4=n2+1+1∧H4.at' n2=some (fm (ew vk vw v.2.2.1 x))∧H4.at' (n2+1)=some (pgO p)∧H4.at' nx=some (ez ((32+N:Nat):Int) (K:Int))∧H4.at' hb=some (hpO hm)∧BlkS H4 vk r v.1∧BlkS H4 vw r v.2.1∧ ∀ m,m<nx→H4.at' m=H.at' m)
     ⟨by omega,by repeat(first|exact ac|refine ab (by omega) ?_),by repeat(exact ac),by repeat(first|assumption|refine ab (by omega) ?_),by repeat(first|assumption|refine ab (by omega) ?_),hk1.frame (by(repeat(refine ab (by omega) ?_));rfl),hw1.frame (by(repeat(refine ab (by omega) ?_));rfl),fun m hm=>by(repeat(refine ab (by omega) ?_));exact co m hm⟩ ?_
    rintro H4 n4 ⟨rfl,d1,d2,d3,d4,d5,d6,d7⟩
    clear c1 c2 co hk1 hw1 hrs hrs2 hno hmd hund2 hbl hbv h8 hvk
    have hby: ∀ (H5:au) n5,H5.at' r=H4.at' r→Fnc Tryz.prog 46 [nV vk vw v.2.2.1 x] H5 n5 (fun q=>q=(.slu n5 0 (aR (v.1,v.2.1,v.2.2.1,x)).length,H5.set n5 (dat false (aR (v.1,v.2.1,v.2.2.1,x)).length 1 5 (byV (aR (v.1,v.2.1,v.2.2.1,x)))),n5+1)):=fun H5 n5 h=>
     Bz (v:=(v.1,v.2.1,v.2.2.1,x)) (BlkS.CJ (v:=(v.1,v.2.1,v.2.2.1,x)) (d5.frame h) (d6.frame h)) hmv2
    have hxl:(bf p (ay p K) (aR (v.1,v.2.1,v.2.2.1,x))).length=1024:=(bM (by omega)).trans hpp
    have hset: ∀ (rb:Nat) (H5:au) n5,H5.at' rb=some (dat false (aR (v.1,v.2.1,v.2.2.1,x)).length 1 5 (byV (aR (v.1,v.2.1,v.2.2.1,x))))→Fnc Tryz.prog 61 [.agg (pgS p),.sc (.int .i64 (K:Int)),.slu rb 0 (aR (v.1,v.2.1,v.2.2.1,x)).length] H5 n5 (fun q=>q=(pgE (bf p (ay p K) (aR (v.1,v.2.1,v.2.2.1,x)),0),H5,n5)):=fun rb H5 n5 h=>
     Da hpp hr hn hs (by rw [rA];exact h) hlen
    generalize aR (v.1,v.2.1,v.2.2.1,x)=it at hby hset hlen hxl ⊢
    generalize bf p (ay p K) it=y at hset hxl ⊢
    (apply An;(focus(kernel_rfl));(focus(kernel_rfl)))
    refine dR 5 (Hz rfl) ?_
    repeat first|refine cg rfl rfl rfl (F.ag _ rfl) d2 (be hpp) ?_|apply bW;rfl;rfl;rfl;(focus(kernel_rfl));exact(hby _ _ rfl)|apply dA;rfl;assumption;rfl|apply aU;rfl
    refine aA ?_;refine dS rfl rfl rfl (by kernel_rfl) (hset _ _ _ (by repeat(exact ac))) ?_
    refine jf ?_
    repeat first|refine pt (e9 ce) rfl rfl rfl ?_|refine bU rfl rfl rfl (F.sz _ rfl) (by repeat(exact ac)) (be hxl) (by rw [be ai];exact HS _) (iv _) (kU _ _ ai hxl) ?_|apply aU;rfl
    refine aA ?_
    refine⟨[⟨4,fun n=> .slu n 0 it.length,dat false it.length 1 5 (byV it)⟩,⟨9,fun n=> .ptr n 0,pgO zeroP⟩],[10],by kernel_rfl,by kernel_rfl,List.cons_ne_nil _ _,rfl,
     ⟨⟨⟨_,rfl,rfl,fun H5 n5 _ h2=>oM rfl (by kernel_rfl) (hby _ _ (h2 _ (by omega)))⟩,fun _ _=>rfl,fun ρ=>od _ _ _ _ _ _⟩,⟨⟨_,rfl,rfl,fun H5 n5 _ _=>D3 (fun _ h=>(by cases h)) (e9 ce)⟩,fun _ _=>rfl,fun ρ=>yi⟩,trivial⟩,?_,?_⟩
    ·repeat first|exact JR|apply fm_c;rfl|apply fm_p;rfl|refine G1 (fun H5 n5 g1 g2=> .inl (aV (F.ag _ rfl) rfl ((g1 _ (by omega)).trans d2) (bm hpp))) ⟨.inl (aV (F.ag _ rfl) rfl (by(repeat(refine ab (by omega) ?_));exact d2) (bm hpp)),trivial⟩ ?_|refine G1 (fun H5 n5 g1 g2=> .inl (aV (F.ag _ rfl) rfl ((g1 _ (by omega)).trans d1) (am _ 0 rfl rfl))) ⟨.inl (aV (F.ag _ rfl) rfl (by(repeat(refine ab (by omega) ?_));exact d1) (am _ 0 rfl rfl)),trivial⟩ ?_|refine G1 (fun H5 n5 g1 g2=> .inl (an (F.ag _ rfl) rfl ((g1 _ (by omega)).trans d3) (aD rfl))) ⟨.inl (an (F.ag _ rfl) rfl (by(repeat(refine ab (by omega) ?_));exact d3) (aD rfl)),trivial⟩ ?_|refine G1 (fun H5 n5 g1 g2=> .inr ⟨Free.two (Free.agg (byV y)) (Free.sc _),oM rfl (by kernel_rfl) (hset _ _ _ (g2.1 (by kernel_rfl)))⟩) ⟨.inr ⟨Free.two (Free.agg (byV y)) (Free.sc _),oM rfl (by kernel_rfl) (hset _ _ _ (by repeat(first|exact ac|refine ab (by omega) ?_)))⟩,trivial⟩ ?_
    dsimp only
    refine cL (R:=fun H5 n5=>n2+1+1+1<n5∧H5.at' (n2+1+1+1)=some (pgO y)∧H5.at' nx=some (ez ((32+N:Nat):Int) (K:Int))∧H5.at' hb=some (hpO hm)∧ ∀ m,m<nx→H5.at' m=H.at' m) ⟨by omega,by repeat(exact ac),by repeat(first|assumption|refine ab (by omega) ?_),by repeat(first|assumption|refine ab (by omega) ?_),fun m hm=>by(repeat(refine ab (by omega) ?_));exact d7 m hm⟩ ?_
    rintro H5 n5 ⟨e0,e1,e2,e3,e4⟩
    repeat apply aj;rfl
    (apply bg;(focus(kernel_rfl));(focus(kernel_rfl)))
    repeat first|refine cg rfl rfl rfl (F.ag _ rfl) e1 (be hxl) ?_|apply dA;rfl;assumption;rfl|apply aU;rfl|refine bk (aw rfl rfl (.inr (.inl ⟨rfl,(Hu _ ⟨(by focus(omega)),(by focus(omega))⟩).symm⟩))) rfl rfl rfl ?_
    rw [show((32+N:Nat):Int)-32=(N:Int) by omega]
    repeat first|refine bU rfl rfl rfl (F.sz _ rfl) e3 (be hxl) (by rw [Ji,Ji,hl];omega) (iv _) (vK hl hN hxl) ?_|apply jM (q:=N);rfl;rfl;rfl;rfl;exact(F.un _ rfl);exact(F.sz _ rfl);(focus(omega));(focus(omega))
    refine aA ⟨by kernel_rfl,?_,?_⟩;(focus(repeat(first|exact JR|apply kp;rfl|apply gu;rfl;kernel_rfl|refine fT 0 rfl (by kernel_rfl) (by(repeat(refine⟨(by first|exact an (F.ag _ rfl) rfl (by repeat(first|assumption|refine ab (by omega) ?_)) (aD rfl)|exact aV (F.ag _ rfl) rfl (by(repeat(refine ab (by omega) ?_));exact e1) (bm hxl)|exact gW (q:=N) rfl rfl (F.un _ rfl) (F.sz _ rfl) (by omega) (by omega)),?_⟩));exact JR) ?_|apply mv;kernel_rfl)))
    repeat apply aj;rfl
    (apply bP Tryz.func23 Tryz.results23;rfl)
    exact⟨rfl,by repeat(exact ac),by dsimp only;omega,fun m h1 h2=>by(repeat(refine ab (by omega) ?_));exact e4 m h1⟩
  ·rw [Je he] at hch ⊢
   have h13:(aX (bareP (az hm N))).2=13:=by
    rcases hno with h|h
    ·exact absurd h he
    ·rw [h]
   rw [h13]
   rw [hch,Je (by decide)]
   dsimp only
   repeat first|apply aj;rfl|refine dm rfl rfl rfl (F.sz _ rfl) (by repeat(first|assumption|exact ac)) rfl (by exact Hz rfl) (hone _ _) rfl ?_|apply ii;rfl;decide
   (apply bP Tryz.func23 Tryz.results23;rfl)
   exact⟨rfl,by repeat(first|assumption|refine ab (by omega) ?_),by dsimp only;omega,fun m hm _=>by(repeat(refine ab (by omega) ?_));exact co m hm⟩
theorem oK{mem:List UInt8}(hv:Hv mem)(n k:Int)(x:Nat):((ku (az mem) n k x).1≠0∧(ku (az mem) n k x).2=none)∨((ku (az mem) n k x).1=0∧ ∃ n' y,(ku (az mem) n k x).2=some (n',y)∧32≤n'∧n'<128∧GoodP y):=by
 have hg:=fun n' y=>Bn (n:=n) (k:=k) (x:=x) (m:=n') (y:=y) hv
 generalize hI:ku (az mem) n k x=I at hg
 unfold ku at hI
 by_cases h1:4000<x∨mu n k=false
 ·rw [Je h1] at hI
  subst hI
  exact .inl ⟨by decide,rfl⟩
 ·rw [Jd h1] at hI
  by_cases h2:(oS (az mem) n.toNat (jK k.toNat x)).2≠0
  ·rw [Je h2] at hI
   subst hI
   exact .inl ⟨h2,rfl⟩
  ·rw [Jd h2] at hI
   subst hI
   exact .inr ⟨rfl,_,_,rfl,hg _ _ rfl⟩
theorem yl(a:Int){L:Nat}(h:0<L) : -(L:Int)<a.tmod L∧a.tmod L<L:=⟨Int.lt_tmod_of_pos a (by omega),Int.tmod_lt_of_pos a (by omega)⟩
theorem B9(a:Int){L:Nat}(h:0<L)(h0:0≤a): ∃ j:Nat,j<L∧a.tmod L=(j:Int):=by
 have h1:=Int.tmod_nonneg (L:Int) h0
 have h2:=(yl a h).2
 exact⟨(a.tmod L).toNat,by omega,by omega⟩
theorem do2_s{b h:Nat}{mem:List UInt8}{left puts:Int}{x:nP}(hb:H.at' b=some (cX mem left puts))(hh:H.at' h=some (hpO (dk mem)))(hne:b≠h)(hv:Hv mem)(hx:Ae H nx b h x)(hk:x.1.kind=2)(hl : -1000000≤left∧left<0)(hp:0≤puts∧puts≤1000000):Fnc Tryz.prog 9 [.ptr b 0,.ptr h 0,.agg (re x)] H nx (pY H nx b h mem left puts):=by
 have hx0:=hx H fun _ _ _ _=>rfl
 have hone:bh (re x)=true:=by simp only [bh,cC hx0.1,cC hx0.2];rfl
 refine JH Tryz.func9 rfl rfl ?_
 refine aW fun hund=>?_
 have lb:=hund _ _ hb
 have lh:=hund _ _ hh
 obtain⟨rows,hal,hrl,hrn⟩:=iE hv
 have hdoc:pW (dfH (dk mem))=some rows:=(kG fun n a b=>fh hv a b).trans hal
 repeat apply aj;rfl
 refine aL rfl rfl rfl (by kernel_rfl) (JG (mV (hm:=dk mem) (by repeat(first|assumption|refine ab (by omega) ?_)) (dh hv.len)) ?_)
 rintro⟨_,H1,n1⟩ ⟨u1,u2,⟨u3,_⟩|⟨rows',s,rr,u3,rfl,u4⟩⟩
 ·rw [hdoc] at u3
  cases u3
 rw [hdoc] at u3
 cases u3
 dsimp only at u1 u2 u4 ⊢
 have c1:H1.at' nx=some (te x):=(u2 nx (by omega)).trans (by repeat(exact ac))
 have cb:H1.at' b=some (cX mem left puts):=(u2 b (by omega)).trans (by repeat(first|assumption|refine ab (by omega) ?_))
 have ch:H1.at' h=some (hpO (dk mem)):=(u2 h (by omega)).trans (by repeat(first|assumption|refine ab (by omega) ?_))
 have co: ∀ m,m<nx→H1.at' m=H.at' m:=fun m hm=>(u2 m (by omega)).trans (by(repeat(refine ab (by omega) ?_));rfl)
 repeat first|refine cV rfl rfl rfl (F.ag _ rfl) cb (dp hv.len _ _) ?_|apply aj;rfl|apply aG;rfl;assumption;rfl
 repeat first|apply aj;rfl|apply ii;rfl;omega
 refine cF rfl rfl rfl rfl (fun _=>?_) (fun e=>absurd hk (by omega))
 rcases u4 with ⟨rfl,rfl⟩|⟨ws,L,hL0,rfl,hrw,hrL,_,hC⟩
 ·repeat first|refine dG rfl rfl rfl (F.ag _ rfl) (by(repeat(refine ab (by omega) ?_));exact c1) (iD x) ?_|refine cc (jw (F.un _ rfl) rfl) rfl rfl rfl ?_|apply kM;rfl;decide|apply aj;rfl|apply aG;rfl;(focus((repeat(first|assumption|exact ac|refine ab (by omega) ?_));done));rfl
  refine cL (R:=fun HB nB=>nB=n1+1∧HB.at' n1=some (ez x.1.tid.1 x.1.tid.2)∧ ∀ m,m<n1→HB.at' m=H1.at' m) ⟨rfl,by repeat(exact ac),fun m hm=>by(repeat(refine ab (by omega) ?_));rfl⟩ ?_
  rintro HB nB ⟨rfl,kT,kF⟩
  have kA:HB.at' nx=some (te x):=(kF nx (by omega)).trans c1
  have kb:HB.at' b=some (cX mem left puts):=(kF b (by omega)).trans cb
  have kh:HB.at' h=some (hpO (dk mem)):=(kF h (by omega)).trans ch
  have ko: ∀ m,m<nx→HB.at' m=H.at' m:=fun m hm=>(kF m (by omega)).trans (co m hm)
  refine aL rfl rfl rfl (by kernel_rfl) (JG (D1 (b:=b) (n:=x.1.tid.1) (k:=x.1.tid.2) (x:=x.1.xid) (mem:=mem) (left:=left) (puts:=puts) kb hv.len (by omega) (by omega) (by omega)) ?_)
  rintro⟨_,H2,n2⟩ ⟨rfl,d2,d3,d4⟩
  dsimp only at d2 d3 d4 ⊢
  have e0:H2.at' n1=some (ez x.1.tid.1 x.1.tid.2):=(d4 _ (by omega) (by omega)).trans kT
  have e1:H2.at' nx=some (te x):=(d4 _ (by omega) (by omega)).trans kA
  have e2:H2.at' h=some (hpO (dk mem)):=(d4 _ (by omega) (Ne.symm hne)).trans kh
  have e3: ∀ m,m<nx→m≠b→H2.at' m=H.at' m:=fun m hm hmb=>(d4 _ (by omega) hmb).trans (ko m hm)
  have hc:=oK hv x.1.tid.1 x.1.tid.2 x.1.xid
  have hdI:ku (dfH (dk mem)) x.1.tid.1 x.1.tid.2 x.1.xid=ku (az mem) x.1.tid.1 x.1.tid.2 x.1.xid:=qN (fun n a b=>fh hv a b) _ _ _
  generalize ku (az mem) x.1.tid.1 x.1.tid.2 x.1.xid=I at hc hdI d2 ⊢
  repeat first|apply aj;rfl|apply aG;rfl;assumption;rfl
  refine aL rfl rfl rfl (by kernel_rfl) (JG (uj (hb:=h) (n:=x.1.tid.1) (k:=x.1.tid.2) (x:=x.1.xid) (hm:=dk mem) (by exact e2) (dh hv.len)) ?_)
  rintro⟨_,H3,n3⟩ ⟨rfl,f2,f3,f4⟩
  dsimp only at f2 f3 f4 ⊢
  rw [hdI] at f2 ⊢
  have g2:H3.at' b=some (putO mem left puts I.2):=(f4 _ (by omega) hne).trans (by exact d2)
  have g3: ∀ m,m<nx→m≠b→m≠h→H3.at' m=H.at' m:=fun m hm hmb hmh=>(f4 _ (by omega) hmh).trans (by exact e3 m hm hmb)
  clear d4 f4
  rcases hc with ⟨hc1,hc2⟩|⟨hc1,n,y,hc2,hc3,hc4,hc5⟩
  ·rw [hc2] at f2 g2
   have g2':H3.at' b=some (cX mem left puts):=g2
   have f2':H3.at' h=some (hpO (dk mem)):=f2
   repeat first|apply dH;rfl;rfl|apply ii;rfl;omega|apply aj;rfl
   (apply bP Tryz.func9 Tryz.results9;rfl)
   exact⟨rfl,mem,left,puts,by exact g2',by exact f2',hv,⟨by omega,by omega⟩,⟨by omega,by omega⟩,by first|omega|(dsimp only;omega),fun m hm hmb hmh=>by exact g3 m hm hmb hmh,iJ _⟩
  ·rw [hc2] at f2 g2
   have g2':H3.at' b=some (cX (gH mem n y) (left-1) (puts+1)):=g2
   have f2':H3.at' h=some (hpO (gH (dk mem) (n-32) y)):=f2
   rw [← mc hv.len hc3 hc4 hc5.len] at f2'
   have hv2:=hv.set hc3 hc4 hc5
   repeat first|refine cV rfl rfl rfl (F.ag _ rfl) (by exact g2') (dp hv2.len _ _) ?_|apply dH;rfl;rfl|apply dH;rfl;omega|apply aj;rfl|apply aK;rfl;omega;omega
   (apply bP Tryz.func9 Tryz.results9;rfl)
   exact⟨rfl,gH mem n y,left-1,puts+1,by exact g2',by exact f2',hv2,⟨by omega,by omega⟩,⟨by omega,by omega⟩,by first|omega|(dsimp only;omega),fun m hm hmb hmh=>by exact g3 m hm hmb hmh,qa hv.len hc4 hc5.len⟩
 ·repeat first|refine dG rfl rfl rfl (F.ag _ rfl) (by(repeat(refine ab (by omega) ?_));exact c1) (iD x) ?_|apply o9;rfl;omega|apply aj;rfl|apply cw;rfl|apply aG;rfl;(focus((repeat(first|assumption|exact ac|refine ab (by omega) ?_));done));rfl
  cases hod:x.1.odd with
  | true=>
    repeat first|apply aj;rfl|apply aG;rfl;(focus((repeat(first|assumption|exact ac|refine ab (by omega) ?_));done));rfl
    refine cL (R:=fun HB nB=>nB=n1+1∧HB.at' n1=some (ez x.1.tid.1 x.1.tid.2)∧ ∀ m,m<n1→HB.at' m=H1.at' m) ⟨rfl,by repeat(exact ac),fun m hm=>by(repeat(refine ab (by omega) ?_));rfl⟩ ?_
    rintro HB nB ⟨rfl,kT,kF⟩
    have kA:HB.at' nx=some (te x):=(kF nx (by omega)).trans c1
    have kb:HB.at' b=some (cX mem left puts):=(kF b (by omega)).trans cb
    have kh:HB.at' h=some (hpO (dk mem)):=(kF h (by omega)).trans ch
    have ko: ∀ m,m<nx→HB.at' m=H.at' m:=fun m hm=>(kF m (by omega)).trans (co m hm)
    refine aL rfl rfl rfl (by kernel_rfl) (JG (D1 (b:=b) (n:=x.1.tid.1) (k:=x.1.tid.2) (x:=x.1.xid) (mem:=mem) (left:=left) (puts:=puts) kb hv.len (by omega) (by omega) (by omega)) ?_)
    rintro⟨_,H2,n2⟩ ⟨rfl,d2,d3,d4⟩
    dsimp only at d2 d3 d4 ⊢
    have e0:H2.at' n1=some (ez x.1.tid.1 x.1.tid.2):=(d4 _ (by omega) (by omega)).trans kT
    have e1:H2.at' nx=some (te x):=(d4 _ (by omega) (by omega)).trans kA
    have e2:H2.at' h=some (hpO (dk mem)):=(d4 _ (by omega) (Ne.symm hne)).trans kh
    have e3: ∀ m,m<nx→m≠b→H2.at' m=H.at' m:=fun m hm hmb=>(d4 _ (by omega) hmb).trans (ko m hm)
    have hc:=oK hv x.1.tid.1 x.1.tid.2 x.1.xid
    have hdI:ku (dfH (dk mem)) x.1.tid.1 x.1.tid.2 x.1.xid=ku (az mem) x.1.tid.1 x.1.tid.2 x.1.xid:=qN (fun n a b=>fh hv a b) _ _ _
    generalize ku (az mem) x.1.tid.1 x.1.tid.2 x.1.xid=I at hc hdI d2 ⊢
    repeat first|apply aj;rfl|apply aG;rfl;assumption;rfl
    refine aL rfl rfl rfl (by kernel_rfl) (JG (uj (hb:=h) (n:=x.1.tid.1) (k:=x.1.tid.2) (x:=x.1.xid) (hm:=dk mem) (by exact e2) (dh hv.len)) ?_)
    rintro⟨_,H3,n3⟩ ⟨rfl,f2,f3,f4⟩
    dsimp only at f2 f3 f4 ⊢
    rw [hdI] at f2 ⊢
    have g2:H3.at' b=some (putO mem left puts I.2):=(f4 _ (by omega) hne).trans (by exact d2)
    have g3: ∀ m,m<nx→m≠b→m≠h→H3.at' m=H.at' m:=fun m hm hmb hmh=>(f4 _ (by omega) hmh).trans (by exact e3 m hm hmb)
    clear d4 f4
    rcases hc with ⟨hc1,hc2⟩|⟨hc1,n,y,hc2,hc3,hc4,hc5⟩
    ·rw [hc2] at f2 g2
     have g2':H3.at' b=some (cX mem left puts):=g2
     have f2':H3.at' h=some (hpO (dk mem)):=f2
     repeat first|apply dH;rfl;rfl|apply ii;rfl;omega|apply aj;rfl
     (apply bP Tryz.func9 Tryz.results9;rfl)
     exact⟨rfl,mem,left,puts,by exact g2',by exact f2',hv,⟨by omega,by omega⟩,⟨by omega,by omega⟩,by first|omega|(dsimp only;omega),fun m hm hmb hmh=>by exact g3 m hm hmb hmh,iJ _⟩
    ·rw [hc2] at f2 g2
     have g2':H3.at' b=some (cX (gH mem n y) (left-1) (puts+1)):=g2
     have f2':H3.at' h=some (hpO (gH (dk mem) (n-32) y)):=f2
     rw [← mc hv.len hc3 hc4 hc5.len] at f2'
     have hv2:=hv.set hc3 hc4 hc5
     repeat first|refine cV rfl rfl rfl (F.ag _ rfl) (by exact g2') (dp hv2.len _ _) ?_|apply dH;rfl;rfl|apply dH;rfl;omega|apply aj;rfl|apply aK;rfl;omega;omega
     (apply bP Tryz.func9 Tryz.results9;rfl)
     exact⟨rfl,gH mem n y,left-1,puts+1,by exact g2',by exact f2',hv2,⟨by omega,by omega⟩,⟨by omega,by omega⟩,by first|omega|(dsimp only;omega),fun m hm hmb hmh=>by exact g3 m hm hmb hmh,qa hv.len hc4 hc5.len⟩
  | false=>
    repeat first|apply aj;rfl|apply aG;rfl;(focus((repeat(first|assumption|refine ab (by omega) ?_));done));rfl
    have hr0:=yl x.1.place hL0
    generalize hr1:x.1.place.tmod (rows.length:Int)=p1 at hr0
    obtain⟨j,hj,hr2⟩:=B9 (p1+(rows.length:Int)) hL0 (by omega)
    obtain⟨a1,a2,ra,_,x1,x2,x3,x4⟩:=hC.cells hj
    refine ry (c:=p1) rfl rfl rfl rfl (by omega) hr1 ?_
    repeat first|apply aj;rfl|apply aK;rfl;omega;omega
    refine ry (c:=(j:Int)) rfl rfl rfl rfl (by omega) hr2 ?_
    repeat first|refine dw (q:=j) rfl rfl rfl rfl (F.un _ rfl) (F.sz _ rfl) (by(repeat(refine ab (by omega) ?_));exact hrw) (by omega) (by omega) (HS _) ?_|refine dG rfl rfl rfl (F.ag _ rfl) (by(repeat(refine ab (by omega) ?_));exact hrw) x3 ?_|apply aj;rfl|apply aG;rfl;(focus((repeat(first|assumption|exact ac|refine ab (by omega) ?_));done));rfl
    refine cL (R:=fun HB nB=>nB=n1+1∧HB.at' n1=some (ez ((rows[j]).1.1:Int) ((rows[j]).1.2:Int))∧ ∀ m,m<n1→HB.at' m=H1.at' m) ⟨rfl,by repeat(exact ac),fun m hm=>by(repeat(refine ab (by omega) ?_));rfl⟩ ?_
    rintro HB nB ⟨rfl,kT,kF⟩
    have kA:HB.at' nx=some (te x):=(kF nx (by omega)).trans c1
    have kb:HB.at' b=some (cX mem left puts):=(kF b (by omega)).trans cb
    have kh:HB.at' h=some (hpO (dk mem)):=(kF h (by omega)).trans ch
    have ko: ∀ m,m<nx→HB.at' m=H.at' m:=fun m hm=>(kF m (by omega)).trans (co m hm)
    refine aL rfl rfl rfl (by kernel_rfl) (JG (D1 (b:=b) (n:=((rows[j]).1.1:Int)) (k:=((rows[j]).1.2:Int)) (x:=x.1.xid) (mem:=mem) (left:=left) (puts:=puts) kb hv.len (by omega) (by omega) (by omega)) ?_)
    rintro⟨_,H2,n2⟩ ⟨rfl,d2,d3,d4⟩
    dsimp only at d2 d3 d4 ⊢
    have e0:H2.at' n1=some (ez ((rows[j]).1.1:Int) ((rows[j]).1.2:Int)):=(d4 _ (by omega) (by omega)).trans kT
    have e1:H2.at' nx=some (te x):=(d4 _ (by omega) (by omega)).trans kA
    have e2:H2.at' h=some (hpO (dk mem)):=(d4 _ (by omega) (Ne.symm hne)).trans kh
    have e3: ∀ m,m<nx→m≠b→H2.at' m=H.at' m:=fun m hm hmb=>(d4 _ (by omega) hmb).trans (ko m hm)
    have hc:=oK hv ((rows[j]).1.1:Int) ((rows[j]).1.2:Int) x.1.xid
    have hdI:ku (dfH (dk mem)) ((rows[j]).1.1:Int) ((rows[j]).1.2:Int) x.1.xid=ku (az mem) ((rows[j]).1.1:Int) ((rows[j]).1.2:Int) x.1.xid:=qN (fun n a b=>fh hv a b) _ _ _
    generalize ku (az mem) ((rows[j]).1.1:Int) ((rows[j]).1.2:Int) x.1.xid=I at hc hdI d2 ⊢
    repeat first|apply aj;rfl|apply aG;rfl;assumption;rfl
    refine aL rfl rfl rfl (by kernel_rfl) (JG (uj (hb:=h) (n:=((rows[j]).1.1:Int)) (k:=((rows[j]).1.2:Int)) (x:=x.1.xid) (hm:=dk mem) (by exact e2) (dh hv.len)) ?_)
    rintro⟨_,H3,n3⟩ ⟨rfl,f2,f3,f4⟩
    dsimp only at f2 f3 f4 ⊢
    rw [hdI] at f2 ⊢
    have g2:H3.at' b=some (putO mem left puts I.2):=(f4 _ (by omega) hne).trans (by exact d2)
    have g3: ∀ m,m<nx→m≠b→m≠h→H3.at' m=H.at' m:=fun m hm hmb hmh=>(f4 _ (by omega) hmh).trans (by exact e3 m hm hmb)
    clear d4 f4
    rcases hc with ⟨hc1,hc2⟩|⟨hc1,n,y,hc2,hc3,hc4,hc5⟩
    ·rw [hc2] at f2 g2
     have g2':H3.at' b=some (cX mem left puts):=g2
     have f2':H3.at' h=some (hpO (dk mem)):=f2
     repeat first|apply dH;rfl;rfl|apply ii;rfl;omega|apply aj;rfl
     (apply bP Tryz.func9 Tryz.results9;rfl)
     exact⟨rfl,mem,left,puts,by exact g2',by exact f2',hv,⟨by omega,by omega⟩,⟨by omega,by omega⟩,by first|omega|(dsimp only;omega),fun m hm hmb hmh=>by exact g3 m hm hmb hmh,iJ _⟩
    ·rw [hc2] at f2 g2
     have g2':H3.at' b=some (cX (gH mem n y) (left-1) (puts+1)):=g2
     have f2':H3.at' h=some (hpO (gH (dk mem) (n-32) y)):=f2
     rw [← mc hv.len hc3 hc4 hc5.len] at f2'
     have hv2:=hv.set hc3 hc4 hc5
     repeat first|refine cV rfl rfl rfl (F.ag _ rfl) (by exact g2') (dp hv2.len _ _) ?_|apply dH;rfl;rfl|apply dH;rfl;omega|apply aj;rfl|apply aK;rfl;omega;omega
     (apply bP Tryz.func9 Tryz.results9;rfl)
     exact⟨rfl,gH mem n y,left-1,puts+1,by exact g2',by exact f2',hv2,⟨by omega,by omega⟩,⟨by omega,by omega⟩,by first|omega|(dsimp only;omega),fun m hm hmb hmh=>by exact g3 m hm hmb hmh,qa hv.len hc4 hc5.len⟩
abbrev OK1(l:List (Int×Int))(i:Nat):Prop:=(∀ t∈l.take i,mu t.1 t.2=true)∧(l.take i).Nodup
theorem wq(hi:i<l.length)(h:OK1 l i)(h1:mu (l[i]).1 (l[i]).2=true)(h2:l[i]∉l.take i):OK1 l (i+1):=by
 unfold OK1
 rw [fG hi]
 refine⟨fun t ht=>?_,?_⟩
 ·rcases List.mem_append.1 ht with h3|h3
  ·exact h.1 t h3
  ·rw [Jj.1 h3];exact h1
 ·rw [List.nodup_append]
  exact⟨h.2,List.nodup_cons.2 ⟨fun h=>(by cases h),List.nodup_nil⟩,fun a ha b hb=>by rw [Jj.1 hb];exact fun e=>h2 (e ▸ ha)⟩
theorem vi(hi:i<l.length)(h:mu (l[i]).1 (l[i]).2=false): ¬ tz l:=fun g=>by
 have:=g.1 _ (Jc hi)
 rw [h] at this
 cases this
theorem vh{k:Nat}(hi:i<l.length)(hk:k<i)(h:l[k]=l[i]): ¬ tz l:=fun g=>by
 have:=List.pairwise_iff_getElem.1 g.2 k i (by omega) hi hk
 exact this h
abbrev tidB(t:Int×Int):VO:=ez t.1 t.2
def Wr(pf:Nat→List UInt8)(l:List (Int×Int))(i:Nat)(w a b:Int):Prop:=((∀ t∈l.take i,kY (aX (pf t.1.toNat)).1 t.2.toNat=true)∧w=0∧a=1000)∨((∃ t∈l.take i,kY (aX (pf t.1.toNat)).1 t.2.toNat=false)∧w=6)
theorem Hl{w a b:Int}(h:Wr pf l i w a b)(hi:i<l.length)(h1:kY (aX (pf (l[i]).1.toNat)).1 (l[i]).2.toNat=true):Wr pf l (i+1) w a b:=by
 unfold Wr at h ⊢
 rw [fG hi]
 rcases h with ⟨h2,h3⟩|⟨⟨t,h2,h3⟩,h4⟩
 ·refine .inl ⟨fun t ht=>?_,h3⟩
  rcases List.mem_append.1 ht with h5|h5
  ·exact h2 t h5
  ·rw [Jj.1 h5];exact h1
 ·exact .inr ⟨⟨t,List.mem_append_left _ h2,h3⟩,h4⟩
theorem BH(a b:Int)(hi:i<l.length)(h1:kY (aX (pf (l[i]).1.toNat)).1 (l[i]).2.toNat=false):Wr pf l (i+1) 6 a b:=by
 unfold Wr
 rw [fG hi]
 exact .inr ⟨⟨_,List.mem_append_right _ (Jj.2 rfl),h1⟩,rfl⟩
theorem Bi(hG: ∀ n,32≤n→n<128→GoodP (pf n)){t:Int×Int}(h:mu t.1 t.2=true):(pc pf t.1 t.2).2=if kY (aX (pf t.1.toNat)).1 t.2.toNat=true then 0 else 6:=by
 have hm:=Jp h
 obtain⟨q,hq,hQ⟩:=(hG t.1.toNat (by omega) (by omega)).read
 unfold pc
 rw [Jd (by rw [h];decide),hq,Jd (fun h=>h rfl)]
 cases hh:kY q t.2.toNat with
 | true=>
   rw [qI hh,Jd (fun h=>h rfl),Je rfl]
   have h2:=Jp hh
   have:=hQ.items _ h2.1 h2.2
   dsimp only [A2]
   rw [Je this]
 | false=>rw [oG hh,Je (by decide),Jd (by decide)]
theorem nG{T:Tr SV}{d:Option Tmp}{ty:TypeId}{pos:String}{af:Array Edge}{gd:Option (Nat×Bool)}{x y:Operand}{yt:TypeId}{a b:Int×Int}{r:Bool}(hr:gg a b=r)(hx:ak T x=some (wE a))(hy:ak T y=some (wE b)):ReadDoes Tryz.prog T H ⟨d,.binOp .eql 40 x y yt,ty,pos,af,gd⟩ (.sc (.bool r)):=hr ▸ uQ hx hy
theorem qi{hb r:Nat}{hm:List UInt8}(hH:H.at' hb=some (hpO hm))(hl:hm.length=98304)(hrow:H.at' r=some (pb l))(hne:r≠hb)(hll:l.length≤50000)(hG: ∀ n,32≤n→n<128→GoodP (dfH hm n)):Fnc Tryz.prog 24 [.ptr hb 0,.slu r 0 l.length] H nx
 (fun q=>q.1 = .sc (.int .i64 ((fR (dfH hm) l).1:Int))∧q.2.1.at' hb=some (hpO (jx hm (fR (dfH hm) l).2))∧nx≤q.2.2∧ ∀ m,m<nx→m≠hb→q.2.1.at' m=H.at' m):=by
 refine JH Tryz.func24 rfl rfl ?_
 refine aW fun hund=>?_
 have lH:=hund _ _ hH
 have lR:=hund _ _ hrow
 clear hund
 repeat apply aj;rfl
 refine bv (α:=Nat) (fun i=> [(0,.ptr hb 0),(1,.slu r 0 l.length),(5,.sc (.int .i64 (i:Int)))])
  (fun i H1 n1=>i≤l.length∧OK1 l i∧nx≤n1∧ ∀ m,m<nx→H1.at' m=H.at' m) (fun i=>l.length-i) 0
  ⟨HT _,⟨fun t ht=>by simp at ht,by simp⟩,HS _,fun m _=>rfl⟩ (JN (JQ rfl)) ?_
 rintro i H1 n1 ⟨i1,i2,i3,i4⟩ ih
 have r1:H1.at' r=some (pb l):=(i4 r lR).trans hrow
 have b1:H1.at' hb=some (hpO hm):=(i4 hb lH).trans hH
 repeat apply aj;rfl
 refine bi rfl rfl rfl rfl (fun h5=>?_) (fun h5=>?_)
 ·have hi:i<l.length:=by omega
  have hcc:=uD hi
  repeat first|refine dw (q:=i) rfl rfl rfl rfl (F.un _ rfl) (F.sz _ rfl) (by assumption) (by omega) (by(omega)) (HS _) ?_|(refine cZ rfl (.inr (fun _ h=>by cases h)) ((aV (F.ag _ rfl) rfl r1 hcc).does) ?_);rw [aI rfl]|apply aj;rfl|apply aG;rfl;(focus((repeat(exact ac));done));rfl
  cases hmay:mu (l[i]).1 (l[i]).2 with
  | false=>
    have hM:fR (dfH hm) l=(2,[]):=Je (vi hi hmay)
    have hmd:=of_decide_eq_false hmay
    rw [hM]
    generalize (l[i]).1=ta at hmd ⊢
    generalize (l[i]).2=tb at hmd ⊢
    by_cases c1:ta<32
    ·clear hmd
     repeat first|apply o9;rfl;omega|apply aj;rfl
     (apply bP Tryz.func24 Tryz.results24;rfl)
     exact⟨rfl,by(repeat(refine ab (by omega) ?_));exact b1,by dsimp only;omega,fun m hm _=>by(repeat(refine ab (by omega) ?_));exact i4 m hm⟩
    ·by_cases c2:127<ta
     ·clear hmd
      repeat first|apply o9;rfl;omega|apply kM;rfl;omega|apply aj;rfl|apply aG;rfl;(focus((repeat(exact ac));done));rfl
      (apply bP Tryz.func24 Tryz.results24;rfl)
      exact⟨rfl,by(repeat(refine ab (by omega) ?_));exact b1,by dsimp only;omega,fun m hm _=>by(repeat(refine ab (by omega) ?_));exact i4 m hm⟩
     ·have c3:tb<0:=by omega
      clear hmd
      repeat first|apply o9;rfl;omega|apply kM;rfl;omega|apply aj;rfl|apply aG;rfl;(focus((repeat(exact ac));done));rfl
      (apply bP Tryz.func24 Tryz.results24;rfl)
      exact⟨rfl,by(repeat(refine ab (by omega) ?_));exact b1,by dsimp only;omega,fun m hm _=>by(repeat(refine ab (by omega) ?_));exact i4 m hm⟩
  | true=>
    have hmd:32≤(l[i]).1∧(l[i]).1<128∧0≤(l[i]).2:=Jp hmay
    repeat first|apply kM;rfl;omega|apply aj;rfl|apply aG;rfl;(focus((repeat(exact ac));done));rfl
    refine bv (α:=Nat) (fun k=> [(0,.ptr hb 0),(1,.slu r 0 l.length),(5,.sc (.int .i64 (i:Int))),(6,.ptr n1 0),(7,.sc (.int .i64 (k:Int)))])
     (fun k H2 n2=>k≤i∧l[i]∉l.take k∧n2=n1+1∧H2.at' n1=some (tidB l[i])∧ ∀ m,m<nx→H2.at' m=H.at' m) (fun k=>i-k) 0
     ⟨HT _,by simp,rfl,by repeat(exact ac),fun m hm=>by(repeat(refine ab (by omega) ?_));exact i4 m hm⟩ (JN (JQ rfl)) ?_
    rintro k H2 n2 ⟨k1,k2,rfl,k3,k4⟩ ih2
    have r2:H2.at' r=some (pb l):=(k4 r lR).trans hrow
    have b2:H2.at' hb=some (hpO hm):=(k4 hb lH).trans hH
    repeat apply aj;rfl
    refine bi rfl rfl rfl rfl (fun h6=>?_) (fun h6=>?_)
    ·have hk:k<i:=by omega
     have hcck:=uD (l:=l) (i:=k) (by omega)
     repeat apply aj;rfl
     cases hs:gg (l[k]'(by omega)) l[i] with
     | true=>
       have he:=fu.1 hs
       have hM:fR (dfH hm) l=(2,[]):=Je (vh hi hk he)
       rw [hM]
       (apply bg;(focus(kernel_rfl));(focus(kernel_rfl)))
       repeat first|refine aH (q:=k) rfl rfl rfl rfl (F.un _ rfl) (F.sz _ rfl) (by assumption) (by omega) (by(omega)) (HS _) ?_|apply bI;rfl;rfl;exact(fun _ h=>by cases h);exact(aV (F.ag _ rfl) rfl r2 hcck)|apply dA;rfl;assumption;rfl|apply bI;rfl;rfl;exact(fun _ h=>by cases h);exact(nG hs rfl rfl)|apply aU;rfl
       refine aA ⟨by kernel_rfl,?_,?_⟩;(focus(repeat(first|exact JR|apply gu;rfl;kernel_rfl|refine fT 0 rfl (by kernel_rfl) (by(repeat(refine⟨(by first|exact aV (F.ag _ rfl) rfl (by assumption) (am _ 0 rfl rfl)|exact aV (F.ag _ rfl) rfl r2 hcck|exact nG hs rfl rfl|exact aN (F.un _ rfl) (F.sz _ rfl) rfl rfl r2 rfl (by omega) (HS _)),?_⟩));exact JR) ?_)))
       repeat apply aj;rfl
       (apply bP Tryz.func24 Tryz.results24;rfl)
       exact⟨rfl,b2,by dsimp only;omega,fun m hm _=>k4 m hm⟩
     | false=>
       have hne2:l[k]'(by omega)≠l[i]:=fun e=>by rw [fu.2 e] at hs;cases hs
       (apply bg;(focus(kernel_rfl));(focus(kernel_rfl)))
       repeat first|refine aH (q:=k) rfl rfl rfl rfl (F.un _ rfl) (F.sz _ rfl) (by assumption) (by omega) (by(omega)) (HS _) ?_|apply bI;rfl;rfl;exact(fun _ h=>by cases h);exact(aV (F.ag _ rfl) rfl r2 hcck)|apply dA;rfl;assumption;rfl|apply bI;rfl;rfl;exact(fun _ h=>by cases h);exact(nG hs rfl rfl)|apply aU;rfl
       refine aA ⟨by kernel_rfl,?_,?_⟩;(focus(repeat(first|exact JR|apply gu;rfl;kernel_rfl|refine fT 0 rfl (by kernel_rfl) (by(repeat(refine⟨(by first|exact aV (F.ag _ rfl) rfl (by assumption) (am _ 0 rfl rfl)|exact aV (F.ag _ rfl) rfl r2 hcck|exact nG hs rfl rfl|exact aN (F.un _ rfl) (F.sz _ rfl) rfl rfl r2 rfl (by omega) (HS _)),?_⟩));exact JR) ?_)))
       repeat first|apply aj;rfl|apply aK;rfl;omega;omega
       exact ih2 _ _ _ (k+1) ⟨hk,fun h=>(by
        rw [fG (by omega)] at h
        rcases List.mem_append.1 h with h|h
        ·exact k2 h
        ·exact hne2 (Jj.1 h).symm),rfl,k3,k4⟩ (by omega) (JN (JQ rfl))
    ·have hk:k=i:=by omega
     subst hk
     repeat first|apply aj;rfl|apply aK;rfl;omega;omega
     exact ih _ _ _ (k+1) ⟨hi,wq hi i2 hmay k2,by first|omega|(dsimp only;omega),k4⟩ (by omega) (JN (JQ rfl))
 ·have hi:i=l.length:=by omega
  subst hi
  have hmay:tz l:=by
   have:=i2
   unfold OK1 at this
   rw [List.take_length] at this
   exact this
  clear ih i1 i2 h5
  repeat first|apply aj;rfl|apply aG;rfl;(focus((repeat(exact ac));done));rfl
  refine bv (α:=Nat×Int×Int×Int) (fun x=> [(0,.ptr hb 0),(1,.slu r 0 l.length),(8,.ptr n1 0),(9,.sc (.int .i64 x.2.1)),(10,.sc (.int .i64 (x.1:Int)))])
   (fun x H2 n2=>x.1≤l.length∧Wr (dfH hm) l x.1 x.2.1 x.2.2.1 x.2.2.2∧n1+1≤n2∧H2.at' n1=some (ez x.2.2.1 x.2.2.2)∧ ∀ m,m<nx→H2.at' m=H.at' m) (fun x=>l.length-x.1) (0,0,1000,0)
   ⟨HT _,.inl ⟨fun t ht=>by simp at ht,rfl,rfl⟩,HS _,by repeat(exact ac),fun m hm=>by(repeat(refine ab (by omega) ?_));exact i4 m hm⟩ (JN (JQ rfl)) ?_
  clear r1 b1 i4
  rintro⟨i,w,fa,fb⟩ H2 n2 ⟨i1,i2,i5,i6,i4⟩ ih
  dsimp only at i1 i2 i4 i5 i6 ⊢
  have r2:H2.at' r=some (pb l):=(i4 r lR).trans hrow
  have b2:H2.at' hb=some (hpO hm):=(i4 hb lH).trans hH
  repeat apply aj;rfl
  refine bi rfl rfl rfl rfl (fun h5=>?_) (fun h5=>?_)
  ·have hi:i<l.length:=by omega
   have hcc:=uD hi
   have hc0:=xR hi
   have hc1:=xQ hi
   have hmi:=hmay.1 _ (Jc hi)
   have hgg:=Bi hG hmi
   repeat first|refine dw (q:=i) rfl rfl rfl rfl (F.un _ rfl) (F.sz _ rfl) (by assumption) (by omega) (by(omega)) (HS _) ?_|(refine cZ rfl (.inr (fun _ h=>by cases h)) ((aV (F.ag _ rfl) rfl r2 hcc).does) ?_);rw [aI rfl]|apply aj;rfl
   refine aL rfl rfl rfl (by kernel_rfl) (JG (uf (n:=(l[i]).1) (k:=(l[i]).2) b2 hl) ?_)
   rintro⟨_,H3,n3⟩ ⟨s',rr,rfl,c1,c2,c3,c4⟩
   dsimp only at c1 c2 c3 c4 ⊢
   obtain⟨vk,vw,rfl,hk1,hw1⟩:=c1
   have hone: ∀ x y:Nat,bh (ew vk vw x y)=true:=fun x y=>by simp only [bh,cC hk1.bs,cC hw1.bs];rfl
   have d1:H3.at' n1=some (ez fa fb):=(c4 _ (by omega)).trans i6
   have d2:H3.at' r=some (pb l):=(c4 _ (by omega)).trans r2
   have d4: ∀ m,m<nx→H3.at' m=H.at' m:=fun m hm=>(c4 _ (by omega)).trans (i4 m hm)
   clear c4 i6 r2 b2 i4 hk1 hw1
   have hgen: ∀ e:Nat,(pc (dfH hm) (l[i]).1 (l[i]).2).2=e→(pc (dfH hm) (l[i]).1 (l[i]).2).2=e:=fun _ h=>h
   clear hgen
   rw [hgg]
   clear hgg
   cases hh:kY (aX (dfH hm (l[i]).1.toNat)).1 (l[i]).2.toNat with
   | true=>
     rw [Je rfl]
     have hw2:=Hl i2 hi hh
     clear i2 hmi
     repeat first|apply aj;rfl|refine dm rfl rfl rfl (F.sz _ rfl) (by repeat(first|assumption|exact ac)) rfl (by exact Hz rfl) (hone _ _) rfl ?_
     refine cL (R:=fun H4 n4=>n4=n3+1∧H4.at' n1=some (ez fa fb)∧H4.at' r=some (pb l)∧ ∀ m,m<nx→H4.at' m=H.at' m) ⟨rfl,by repeat(first|assumption|refine ab (by omega) ?_),by repeat(first|assumption|refine ab (by omega) ?_),fun m hm=>by(repeat(refine ab (by omega) ?_));exact d4 m hm⟩ ?_
     rintro H4 n4 ⟨rfl,m1,m2,m4⟩
     clear d1 d2 d4
     ((apply bg;(focus(kernel_rfl));(focus(kernel_rfl)));(repeat(first|refine oN rfl rfl rfl rfl (fun hq=>absurd hq (by omega)) (fun _=>?_)|apply aU;rfl|apply cp;rfl;rfl));refine aA ⟨by kernel_rfl,?_,?_⟩;(focus(repeat(first|exact JR|apply ui;rfl|apply gu;rfl;kernel_rfl|apply mv;kernel_rfl))))
     repeat first|apply aj;rfl|apply aK;rfl;omega;omega
     exact ih _ _ _ (i+1,w,fa,fb) ⟨hi,hw2,by first|omega|(dsimp only;omega),by assumption,fun m hm=>by exact m4 m hm⟩ (by dsimp only;omega) (JN (JQ rfl))
   | false=>
     rw [Jd (by decide)]
     repeat first|apply aj;rfl|refine dm rfl rfl rfl (F.sz _ rfl) (by repeat(first|assumption|exact ac)) rfl (by exact Hz rfl) (hone _ _) rfl ?_
     refine cL (R:=fun H4 n4=>n4=n3+1∧H4.at' n1=some (ez fa fb)∧H4.at' r=some (pb l)∧ ∀ m,m<nx→H4.at' m=H.at' m) ⟨rfl,by repeat(first|assumption|refine ab (by omega) ?_),by repeat(first|assumption|refine ab (by omega) ?_),fun m hm=>by(repeat(refine ab (by omega) ?_));exact d4 m hm⟩ ?_
     rintro H4 n4 ⟨rfl,m1,m2,m4⟩
     clear d1 d2 d4
     by_cases q1:(l[i]).1<fa
     ·(((apply bg;(focus(kernel_rfl));(focus(kernel_rfl)));(repeat(first|refine aH (q:=i) rfl rfl rfl rfl (F.un _ rfl) (F.sz _ rfl) (by assumption) (by omega) (by(omega)) (HS _) ?_|refine bk (an (F.ag _ rfl) rfl m2 hc0) rfl rfl rfl ?_|apply dA;rfl;assumption;rfl|refine oN rfl rfl rfl rfl (fun _=>?_) (fun hq=>absurd hq (by omega))|refine cJ rfl rfl rfl rfl (fun _=>?_) (fun hq=>absurd hq (by omega))|apply aU;rfl|apply cp;rfl;rfl));refine aA ⟨by kernel_rfl,?_,?_⟩;(focus(repeat(first|exact JR|apply ui;rfl|apply gu;rfl;kernel_rfl|refine fT 0 rfl (by kernel_rfl) (by(repeat(refine⟨(by first|exact an (F.ag _ rfl) rfl (by assumption) (aD rfl)|exact an (F.ag _ rfl) rfl m2 hc0|exact aN (F.un _ rfl) (F.sz _ rfl) rfl rfl m2 rfl (by omega) (HS _)),?_⟩));exact JR) ?_|apply mv;kernel_rfl))));(repeat(first|refine dw (q:=i) rfl rfl rfl rfl (F.un _ rfl) (F.sz _ rfl) (by assumption) (by omega) (by(omega)) (HS _) ?_|(refine cZ rfl (.inr (fun _ h=>by cases h)) ((aV (F.ag _ rfl) rfl m2 hcc).does) ?_);rw [aI rfl]|apply aj;rfl|apply aG;rfl;assumption;rfl|apply aK;rfl;omega;omega));exact ih _ _ _ (i+1,6,(l[i]).1,(l[i]).2) ⟨hi,BH _ _ hi hh,by first|omega|(dsimp only;omega),by repeat(exact ac),fun m hm=>by(repeat(refine ab (by omega) ?_));exact m4 m hm⟩ (by dsimp only;omega) (JN (JQ rfl)))
     ·by_cases q2:(l[i]).1=fa
      ·by_cases q3:(l[i]).2<fb
       ·(((apply bg;(focus(kernel_rfl));(focus(kernel_rfl)));(repeat(first|refine aH (q:=i) rfl rfl rfl rfl (F.un _ rfl) (F.sz _ rfl) (by assumption) (by omega) (by(omega)) (HS _) ?_|refine bk (an (F.ag _ rfl) rfl m2 hc0) rfl rfl rfl ?_|refine bk (an (F.ag _ rfl) rfl m2 hc1) rfl rfl rfl ?_|apply dA;rfl;assumption;rfl|refine ly rfl rfl rfl rfl (fun _=>?_) (fun hq=>absurd hq (by omega))|refine oN rfl rfl rfl rfl (fun _=>?_) (fun hq=>absurd hq (by omega))|refine cJ rfl rfl rfl rfl (fun _=>?_) (fun hq=>absurd hq (by omega))|refine cJ rfl rfl rfl rfl (fun hq=>absurd hq (by omega)) (fun _=>?_)|apply aU;rfl));refine aA ⟨by kernel_rfl,?_,?_⟩;(focus(repeat(first|exact JR|apply gu;rfl;kernel_rfl|refine fT 0 rfl (by kernel_rfl) (by(repeat(refine⟨(by first|exact an (F.ag _ rfl) rfl (by assumption) (aD rfl)|exact an (F.ag _ rfl) rfl m2 hc0|exact an (F.ag _ rfl) rfl m2 hc1|exact aN (F.un _ rfl) (F.sz _ rfl) rfl rfl m2 rfl (by omega) (HS _)),?_⟩));exact JR) ?_|apply mv;kernel_rfl))));(repeat(first|refine dw (q:=i) rfl rfl rfl rfl (F.un _ rfl) (F.sz _ rfl) (by assumption) (by omega) (by(omega)) (HS _) ?_|(refine cZ rfl (.inr (fun _ h=>by cases h)) ((aV (F.ag _ rfl) rfl m2 hcc).does) ?_);rw [aI rfl]|apply aj;rfl|apply aG;rfl;assumption;rfl|apply aK;rfl;omega;omega));exact ih _ _ _ (i+1,6,(l[i]).1,(l[i]).2) ⟨hi,BH _ _ hi hh,by first|omega|(dsimp only;omega),by repeat(exact ac),fun m hm=>by(repeat(refine ab (by omega) ?_));exact m4 m hm⟩ (by dsimp only;omega) (JN (JQ rfl)))
       ·(rcases i2 with ⟨_,_,rfl⟩|⟨_,rfl⟩;exact absurd (Jp hmi:32≤(l[i]).1∧(l[i]).1<128∧0≤(l[i]).2) (by omega);((apply bg;(focus(kernel_rfl));(focus(kernel_rfl)));(repeat(first|refine aH (q:=i) rfl rfl rfl rfl (F.un _ rfl) (F.sz _ rfl) (by assumption) (by omega) (by(omega)) (HS _) ?_|refine bk (an (F.ag _ rfl) rfl m2 hc0) rfl rfl rfl ?_|refine bk (an (F.ag _ rfl) rfl m2 hc1) rfl rfl rfl ?_|apply dA;rfl;assumption;rfl|refine ly rfl rfl rfl rfl (fun _=>?_) (fun hq=>absurd hq (by omega))|refine oN rfl rfl rfl rfl (fun _=>?_) (fun hq=>absurd hq (by omega))|refine cJ rfl rfl rfl rfl (fun hq=>absurd hq (by omega)) (fun _=>?_)|apply aU;rfl));refine aA ⟨by kernel_rfl,?_,?_⟩;(focus(repeat(first|exact JR|apply gu;rfl;kernel_rfl|refine fT 0 rfl (by kernel_rfl) (by(repeat(refine⟨(by first|exact an (F.ag _ rfl) rfl (by assumption) (aD rfl)|exact an (F.ag _ rfl) rfl m2 hc0|exact an (F.ag _ rfl) rfl m2 hc1|exact aN (F.un _ rfl) (F.sz _ rfl) rfl rfl m2 rfl (by omega) (HS _)),?_⟩));exact JR) ?_|apply mv;kernel_rfl))));(repeat(first|apply aj;rfl|apply aK;rfl;omega;omega));exact ih _ _ _ (i+1,6,fa,fb) ⟨hi,BH _ _ hi hh,by first|omega|(dsimp only;omega),by assumption,fun m hm=>by exact m4 m hm⟩ (by dsimp only;omega) (JN (JQ rfl)))
      ·(rcases i2 with ⟨_,_,rfl⟩|⟨_,rfl⟩;exact absurd (Jp hmi:32≤(l[i]).1∧(l[i]).1<128∧0≤(l[i]).2) (by omega);((apply bg;(focus(kernel_rfl));(focus(kernel_rfl)));(repeat(first|refine aH (q:=i) rfl rfl rfl rfl (F.un _ rfl) (F.sz _ rfl) (by assumption) (by omega) (by(omega)) (HS _) ?_|refine bk (an (F.ag _ rfl) rfl m2 hc0) rfl rfl rfl ?_|apply dA;rfl;assumption;rfl|refine ly rfl rfl rfl rfl (fun hq=>absurd hq (by omega)) (fun _=>?_)|refine oN rfl rfl rfl rfl (fun _=>?_) (fun hq=>absurd hq (by omega))|refine cJ rfl rfl rfl rfl (fun hq=>absurd hq (by omega)) (fun _=>?_)|apply aU;rfl|apply cp;rfl;rfl));refine aA ⟨by kernel_rfl,?_,?_⟩;(focus(repeat(first|exact JR|apply ui;rfl|apply gu;rfl;kernel_rfl|refine fT 0 rfl (by kernel_rfl) (by(repeat(refine⟨(by first|exact an (F.ag _ rfl) rfl (by assumption) (aD rfl)|exact an (F.ag _ rfl) rfl m2 hc0|exact aN (F.un _ rfl) (F.sz _ rfl) rfl rfl m2 rfl (by omega) (HS _)),?_⟩));exact JR) ?_|apply mv;kernel_rfl))));(repeat(first|apply aj;rfl|apply aK;rfl;omega;omega));exact ih _ _ _ (i+1,6,fa,fb) ⟨hi,BH _ _ hi hh,by first|omega|(dsimp only;omega),by assumption,fun m hm=>by exact m4 m hm⟩ (by dsimp only;omega) (JN (JQ rfl)))
  ·have hi:i=l.length:=by omega
   subst hi
   have hw:(l0 (dfH hm) l∧w=0)∨(¬ l0 (dfH hm) l∧w=6):=by
    unfold Wr at i2
    rw [List.take_length] at i2
    rcases i2 with ⟨h1,h2,_⟩|⟨⟨t,h1,h2⟩,h3⟩
    ·exact .inl ⟨h1,h2⟩
    ·exact .inr ⟨fun h=>(by rw [h t h1] at h2;cases h2),h3⟩
   clear ih i2 i1 h5
   rcases hw with ⟨hw,rfl⟩|⟨hw,rfl⟩
   ·have hM:fR (dfH hm) l=(0,gV (dfH hm) l 96):=by
     rw [yn]
     unfold fR
     rw [Jd (fun h=>h hmay),Jd (fun h=>h hw)]
    rw [hM]
    have hHas: ∀ n q,n<96→aX (dfH hm (32+n))=(q,0)→Has q (aM l (32+n)):=fun n q hn hq=>by
     refine⟨fe hmay _,fun k hk=>?_⟩
     have h1:=hw _ ((gq hmay.1).1 hk)
     rw [Jv,Jv,hq] at h1
     exact Jp h1
    have hps: ∀ n,n≤96→ ∀ x∈gV (dfH hm) l n,32≤x.1∧x.1<32+n∧x.2.length=1024:=fun n hn x hx=>by
     obtain⟨h1,h2,_,h3⟩:=zc hx
     refine⟨h1,h2,?_⟩
     obtain⟨q,hq,hQ⟩:=(hG x.1 h1 (by omega)).read
     rw [h3,hq]
     have:=hHas (x.1-32) q (by omega) (by rw [show 32+(x.1-32)=x.1 by omega];exact hq)
     rw [show 32+(x.1-32)=x.1 by omega] at this
     exact(vN hQ this).ok.len
    have hpl: ∀ n,n≤96→(jx hm (gV (dfH hm) l n)).length=98304:=fun n hn=>yE hl fun x hx=>by
     have:=hps n hn x hx
     exact⟨this.1,by omega,this.2.2⟩
    have hpo: ∀ n,n<96→az (jx hm (gV (dfH hm) l n)) n=az hm n:=fun n hn=>tQ hl fun x hx=>by
     have:=hps n (by omega) x hx
     exact⟨this.1,by omega,this.2.2,by omega⟩
    repeat first|apply dH;rfl;omega|apply aj;rfl
    refine bv (α:=Nat) (fun n=> [(0,.ptr hb 0),(1,.slu r 0 l.length),(13,.sc (.int .i64 (n:Int)))])
     (fun n H3 n3=>n≤96∧nx≤n3∧H3.at' hb=some (hpO (jx hm (gV (dfH hm) l n)))∧ ∀ m,m<nx→m≠hb→H3.at' m=H.at' m) (fun n=>96-n) 0
     ⟨HT _,by omega,b2,fun m hm _=>i4 m hm⟩ (JN (JQ rfl)) ?_
    clear r2 b2 i4 i6
    rintro n H3 n3 ⟨j1,j2,j3,j4⟩ ih
    have r3:H3.at' r=some (pb l):=(j4 r lR hne).trans hrow
    repeat apply aj;rfl
    refine bi rfl rfl rfl rfl (fun h5=>?_) (fun h5=>?_)
    ·have hn:n<96:=by omega
     obtain⟨q,hq,hQ⟩:=(hG (32+n) (by omega) (by omega)).read
     have hql:=hQ.ok.len
     have hhas:=hHas n q hn hq
     have hrs:=fun(H:au) nx (h:H.at' hb=some (hpO (jx hm (gV (dfH hm) l n))))=>lN (nx:=nx) h (hpl n j1) hn
     have hv5:rP (az (jx hm (gV (dfH hm) l n)) n)=(q,true):=by
      rw [hpo n hn]
      have hdf:dfH hm (32+n)=bareP (az hm n):=by unfold dfH;rw [show 32+n-32=n by omega]
      rw [hdf] at hq
      rw [nF (by rw [hq]),hq]
     rw [hv5] at hrs
     dsimp only [AQ] at hrs
     repeat first|apply bC hql ai;rfl;(focus((repeat(exact ac));done))|refine aY rfl rfl ce ?_|apply aj;rfl|apply bY;rfl;kernel_rfl;exact hrs _ _ j3
     refine bv (α:=Nat) (fun i=> [(0,.ptr hb 0),(1,.slu r 0 l.length),(13,.sc (.int .i64 (n:Int))),(14,.ptr n3 0),(16,.sc (.bool (!(aM (l.take i) (32+n)).isEmpty))),(17,.sc (.int .i64 (i:Int)))])
      (fun i H4 n4=>i≤l.length∧n3+1≤n4∧H4.at' n3=some (pgO (df q (aM (l.take i) (32+n))))∧H4.at' hb=some (hpO (jx hm (gV (dfH hm) l n)))∧ ∀ m,m<nx→m≠hb→H4.at' m=H.at' m) (fun i=>l.length-i) 0
      ⟨HT _,HS _,by show _=some (pgO q);(focus((repeat(exact ac));done)),by repeat(first|assumption|refine ab (by omega) ?_),fun m hm hmb=>by(repeat(refine ab (by omega) ?_));exact j4 m hm hmb⟩ (JN (JQ rfl)) ?_
     rintro i H4 n4 ⟨k1,k2,k3,k4,k5⟩ ih2
     have r4:H4.at' r=some (pb l):=(k5 r lR hne).trans hrow
     repeat apply aj;rfl
     refine bi rfl rfl rfl rfl (fun h6=>?_) (fun h6=>?_)
     ·have hi:i<l.length:=by omega
      have hc0:=xR hi
      have hc1:=xQ hi
      have hmi:=hmay.1 _ (Jc hi)
      have hmd:32≤(l[i]).1∧(l[i]).1<128∧0≤(l[i]).2:=Jp hmi
      repeat first|refine dw (q:=i) rfl rfl rfl rfl (F.un _ rfl) (F.sz _ rfl) (by assumption) (by omega) (by(omega)) (HS _) ?_|refine cc (an (F.ag _ rfl) rfl r4 hc0) rfl rfl rfl ?_|apply aj;rfl|apply aK;rfl;omega;omega
      have hsn:=rE (l.take i) l[i] (32+n)
      rw [← fG hi] at hsn
      refine cF rfl rfl rfl rfl (fun he=>?_) (fun he=>?_)
      ·have he2:(l[i]).1=((32+n:Nat):Int):=by omega
       rw [Je he2] at hsn
       obtain⟨k,hk⟩: ∃ k:Nat,(l[i]).2=(k:Int):=⟨(l[i]).2.toNat,by omega⟩
       have hkt:(l[i]).2.toNat=k:=by omega
       rw [hkt] at hsn
       have hat:=wI hi he2
       rw [hkt] at hat
       rw [hat] at hhas
       obtain⟨t1,t2,t3⟩:=Has.there hQ.ok hhas
       have hxr:=(bw t3.len).2 t3
       have hdr:=fun(H:au) nx=>Bt (H:=H) (nx:=nx) t3.len hxr t1 t2
       have hds:=uk q (aM (l.take i) (32+n)) k
       rw [show oQ (bK (df q (aM (l.take i) (32+n))) k 0 0)=df q (aM (l.take i) (32+n) ++ [k])from hds.symm] at hdr
       have hyl:(df q (aM (l.take i) (32+n) ++ [k])).length=1024:=by
        rw [hds]
        exact(oP t3 t1 t2).ok.len
       rw [← hsn] at hdr hyl
       rw [← hk] at hdr
       have hxl:=t3.len
       have hbt:(!(aM (l.take (i+1)) (32+n)).isEmpty)=true:=by rw [hsn];cases aM (l.take i) (32+n) <;> rfl
       rw [← hsn]at hds
       clear hsn hat hk hkt t1 t2 t3 hxr hhas hmi hmd he2 hds
       generalize df q (aM (l.take i) (32+n))=x at k3 hxl hdr
       generalize hy:df q (aM (l.take (i+1)) (32+n))=y at hdr hyl
       repeat apply aj;rfl
       (apply ge;(focus(kernel_rfl));(focus(kernel_rfl)))
       refine dR 6 (Hz rfl) ?_
       repeat first|refine cg rfl rfl rfl (F.ag _ rfl) k3 (be hxl) ?_|refine aH (q:=i) rfl rfl rfl rfl (F.un _ rfl) (F.sz _ rfl) (by assumption) (by omega) (by(omega)) (HS _) ?_|refine bk (an (F.ag _ rfl) rfl r4 hc1) rfl rfl rfl ?_|apply aU;rfl
       refine aA ?_;(apply dS;rfl;rfl;rfl;(focus(kernel_rfl));exact(hdr _ _))
       refine jf ?_
       repeat first|refine pt (e9 ce) rfl rfl rfl ?_|refine bU rfl rfl rfl (F.sz _ rfl) (by repeat(exact ac)) (be hyl) (by rw [be ai];exact HS _) (iv _) (kU _ _ ai hyl) ?_|apply aU;rfl
       refine aA ⟨by kernel_rfl,?_,?_⟩;(focus(repeat(first|exact JR|refine⟨.inl rfl,?_⟩|refine⟨.inr (.inl (by(repeat(refine⟨(by first|exact mA rfl|exact aV (F.ag _ rfl) rfl (by(repeat(refine ab (by omega) ?_));exact k3) (bm hxl)|exact an (F.ag _ rfl) rfl (by(repeat(refine ab (by omega) ?_));exact r4) hc1|exact aN (F.un _ rfl) (F.sz _ rfl) rfl rfl (by(repeat(refine ab (by omega) ?_));exact r4) rfl (by omega) (HS _)),?_⟩));exact JR)),?_⟩|refine⟨.inr (.inr (by(repeat(refine⟨(by exact dZ rfl (by kernel_rfl) (by exact hdr _ _)),?_⟩));exact JR)),?_⟩)))
       repeat first|apply bq hyl;rfl;(focus((repeat(exact ac));done))|apply bC hyl hxl;rfl;(focus((repeat(first|assumption|refine ab (by omega) ?_));done))|apply aj;rfl|apply aK;rfl;omega;omega
       exact ih2 _ _ _ (i+1) ⟨hi,by dsimp only;omega,by rw [hy];(focus((repeat(exact ac));done)),by repeat(first|assumption|refine ab (by omega) ?_),fun m hm hmb=>by(repeat(refine ab (by omega) ?_));exact k5 m hm hmb⟩ (by omega) (JN ⟨rfl,rfl,rfl,rfl,(by rw [hbt];rfl),fH (by omega),trivial⟩)
      ·have he2:(l[i]).1≠((32+n:Nat):Int):=by omega
       rw [Jd he2] at hsn
       repeat first|apply aj;rfl|apply aK;rfl;omega;omega
       exact ih2 _ _ _ (i+1) ⟨hi,k2,by rw [hsn];exact k3,k4,k5⟩ (by omega) (JN ⟨rfl,rfl,rfl,rfl,(by rw [hsn];rfl),fH (by omega),trivial⟩)
     ·have hi:i=l.length:=by omega
      subst hi
      rw [List.take_length] at k3 ⊢
      clear ih2
      by_cases hs:aM l (32+n)= []
      ·rw [hs]
       have hrt:=AI (pf:=dfH hm) hs
       repeat first|apply aj;rfl|apply aK;rfl;omega;omega
       exact ih _ _ _ (n+1) ⟨hn,by first|omega|(dsimp only;omega),by rw [hrt];exact k4,k5⟩ (by omega) (JN (JQ rfl))
      ·have hbt:(!(aM l (32+n)).isEmpty)=true:=by
        cases h9:aM l (32+n)with
        | nil=>exact absurd h9 hs
        | cons a b=>rfl
       rw [hbt]
       have hrt:=ym (pf:=dfH hm) hs
       rw [hq] at hrt
       have hxo:=md hQ.ok hhas
       have hxr:=(bw hxo.len).2 hxo
       have hpk:=fun(H:au) nx=>yK (H:=H) (nx:=nx) hxo.len hxr
       have hyl:=(rY hxo).len
       have hxl:=hxo.len
       have hmem:jx hm (gV (dfH hm) l (n+1))=gH (jx hm (gV (dfH hm) l n)) n (ln (df q (aM l (32+n)))):=by
        rw [hrt,wO,show 32+n-32=n by omega]
        rfl
       generalize ln (df q (aM l (32+n)))=y at hpk hyl hmem
       generalize df q (aM l (32+n))=x at k3 hpk hxl
       clear hxo hxr hrt hbt
       repeat first|apply bq hxl;rfl;assumption|apply bC hyl ai;rfl;(focus((repeat(exact ac));done))|refine aY rfl rfl ce ?_|apply aj;rfl|apply bY;rfl;kernel_rfl;exact hpk _ _
       refine cL (R:=fun H5 n5=>n4<n5∧H5.at' n4=some (pgO y)∧H5.at' hb=some (hpO (jx hm (gV (dfH hm) l n)))∧ ∀ m,m<nx→m≠hb→H5.at' m=H.at' m) ⟨by omega,by repeat(exact ac),by repeat(first|assumption|refine ab (by omega) ?_),fun m hm hmb=>by(repeat(refine ab (by omega) ?_));exact k5 m hm hmb⟩ ?_
       rintro H5 n5 ⟨e0,e1,e2,e3⟩
       have hhl:=hpl n j1
       generalize jx hm (gV (dfH hm) l n)=hm2 at e2 hmem hhl
       (apply bg;(focus(kernel_rfl));(focus(kernel_rfl)))
       repeat first|refine cg rfl rfl rfl (F.ag _ rfl) e1 (be hyl) ?_|refine bU rfl rfl rfl (F.sz _ rfl) e2 (be hyl) (by rw [Ji,Ji,hhl];omega) (iv _) (vK hhl hn hyl) ?_|apply jM (q:=n);rfl;rfl;rfl;rfl;exact(F.un _ rfl);exact(F.sz _ rfl);(focus(omega));(focus(omega))|apply aU;rfl
       refine aA ⟨by kernel_rfl,?_,?_⟩;(focus(repeat(first|exact JR|apply kp;rfl|apply gu;rfl;kernel_rfl|refine fT 0 rfl (by kernel_rfl) (by(repeat(refine⟨(by first|exact aV (F.ag _ rfl) rfl (by repeat(first|assumption|refine ab (by omega) ?_)) (bm hyl)|exact gW (q:=n) rfl rfl (F.un _ rfl) (F.sz _ rfl) (by omega) (by omega)),?_⟩));exact JR) ?_)))
       repeat first|apply aj;rfl|apply aK;rfl;omega;omega
       exact ih _ _ _ (n+1) ⟨hn,by first|omega|(dsimp only;omega),by rw [hmem];(focus((repeat(exact ac));done)),fun m hm hmb=>by(repeat(refine ab (by omega) ?_));exact e3 m hm hmb⟩ (by omega) (JN (JQ rfl))
    ·have hn:n=96:=by omega
     subst hn
     repeat apply aj;rfl
     (apply bP Tryz.func24 Tryz.results24;rfl)
     exact⟨rfl,j3,j2,j4⟩
   ·have hM:fR (dfH hm) l=(6,[]):=by
     unfold fR
     rw [Jd (fun h=>h hmay),Je hw]
    rw [hM]
    repeat first|apply aj;rfl|apply ii;rfl;omega
    (apply bP Tryz.func24 Tryz.results24;rfl)
    exact⟨rfl,by exact b2,by dsimp only;omega,fun m hm _=>i4 m hm⟩
end
end Go.Proofs.YtnhmbonmlfeifaaGreat
end
section
namespace Go.Sy
open Go Go.Sl Go.RowKit
section
variable {P:Program} {ro:Option Nat} {fn nt nx:Nat} {T:Tr SV} {k:List AIt} {dfs:List ADf} {H:au} {Q:Pst} {ty:TypeId} {pos:String} {af:Array Edge} {gd:Option (Nat×Bool)} {d:Option Tmp}
theorem yR{x:Operand}{name:String}{as1:List Operand}{ats:Array TypeId}{t:TypeId}{v:SV}{args:List SV}{g:FuncId}(hx:ak T x=some (.ifc t v))(ha:du T as1=some args)(hm:lp P t name=some g):OpDoes P T H nx ⟨d,.call {callee:= .invoke x name,args:=as1.toArray,argTypes:=ats},ty,pos,af,gd⟩ (.enter g (v :: args),H,nx):=by
 refine iW ?_
 have hc:cd P T {callee:= .invoke x name,args:=as1.toArray,argTypes:=ats}=some (.enter g (v :: args)):=by
  simp only [cd,ha,hx,hm]
 unfold fN
 simp only [hc,HY]
theorem sS{ops:Array Oper}{i stg:Nat}{l:List Oper}{rs:List Rec}{Hs:List (au×Nat)}{K:DS→Prop}{x:Operand}{name:String}{t:TypeId}{v v':SV}(g:FuncId){as1:List Operand}{ats:Array TypeId}{args:List SV}{H':au}{nx' dd:Nat}
 (hw:aF (aZ T (a9 ops.toList ⟨some dd,.call {callee:= .invoke x name,args:=as1.toArray,argTypes:=ats},ty,pos,af,gd⟩)) ops ⟨some dd,.call {callee:= .invoke x name,args:=as1.toArray,argTypes:=ats},ty,pos,af,gd⟩=some true) (hd:Nat.blt dd nt=true)
 (hx:ak (aZ T (a9 ops.toList ⟨some dd,.call {callee:= .invoke x name,args:=as1.toArray,argTypes:=ats},ty,pos,af,gd⟩)) x=some (.ifc t v))
 (ha:du (aZ T (a9 ops.toList ⟨some dd,.call {callee:= .invoke x name,args:=as1.toArray,argTypes:=ats},ty,pos,af,gd⟩)) as1=some args) (hm:lp P t name=some g) (hr:Fnc P g (v :: args) H nx (fun r=>r=(v',H',nx')))
 (h:DrawK P nt ops (i+1) l ⟨T.set dd v',H',nx',⟨i,⟨some dd,.call {callee:= .invoke x name,args:=as1.toArray,argTypes:=ats},ty,pos,af,gd⟩,aZ T (a9 ops.toList ⟨some dd,.call {callee:= .invoke x name,args:=as1.toArray,argTypes:=ats},ty,pos,af,gd⟩),stg,true,true,v'⟩ :: rs,(H',nx') :: Hs,stg+1⟩ K) :
 DrawK P nt ops i (⟨some dd,.call {callee:= .invoke x name,args:=as1.toArray,argTypes:=ats},ty,pos,af,gd⟩ :: l) ⟨T,H,nx,rs,Hs,stg⟩ K:=by
 obtain⟨s',h1,h2⟩:=h.ex
 refine⟨⟨s',.cons (.inr (.inr ⟨hw,v',H',nx',⟨_,yR hx ha hm,(fun c hc=>(by cases hc)),hr⟩,?_⟩)) h1,h2⟩⟩
 simp only [aI hd]
end
end Go.Sy
end
section
namespace Go.Proofs.YtnhmbonmlfeifaaGreat
open Go Go.Sy Go.Sl Go.RowKit
section
variable {H:au}{b:Nat}{left:Int}{nx:Nat}{puts:Int}{mem:List UInt8}
theorem yd(k:Int):nn false 1 1 3 (List.take (0*1) (List.map SV.sc (List.map (fun x=>(Value.int IntKind.i64 0).cells[x % (Value.int IntKind.i64 0).cells.size]!) (List.range (1*1)))) ++ (SV.sc (Value.int IntKind.i64 k)).cells ++ List.drop (0*1+1) (List.map SV.sc (List.map (fun x=>(Value.int IntKind.i64 0).cells[x % (Value.int IntKind.i64 0).cells.size]!) (List.range (1*1)))))=pI [k]:=by
 have h:(List.take (0*1) (List.map SV.sc (List.map (fun x=>(Value.int IntKind.i64 0).cells[x % (Value.int IntKind.i64 0).cells.size]!) (List.range (1*1)))) ++ (SV.sc (Value.int IntKind.i64 k)).cells ++ List.drop (0*1+1) (List.map SV.sc (List.map (fun x=>(Value.int IntKind.i64 0).cells[x % (Value.int IntKind.i64 0).cells.size]!) (List.range (1*1)))))= [SV.sc (.int .i64 k)]:=by kernel_rfl
 rw [h]
 refine congrArg (VO.row false 1 1 3) (funext fun i=>?_)
 cases i with
 | zero=>rfl
 | succ i=>rfl
theorem wP(mem:List UInt8)(left puts:Int)(ρ:Nat→Nat):(cX mem left puts).ren ρ=cX mem left puts:=by
 have h:rX mem left puts=(byV mem ++ [Value.int .i64 left,Value.int .i64 puts]).map SV.sc:=by rw [HX];rfl
 show(aq _ (rX mem left puts)).ren ρ=aq _ (rX mem left puts)
 rw [h]
 exact yi
theorem Az(ks:List Int)(hl:ks.length<65536):Ctr Tryz.prog 53 [.slu 0 0 ks.length] [pI ks] (fun c=>c=⟨.tup [],[some (pI (gM ks))]⟩):=by
 have hs:=vf ks.length ks.toArray hl (by simp)
 have hrow:b8 ks.length (Sort.sort bj ks.toArray)=iC false (gM ks):=by
  have:(gM ks).length=ks.length:=iR ks
  show dat false ks.length 1 3 _=dat false (gM ks).length 1 3 _
  rw [this]
  rfl
 rw [hrow] at hs
 exact hs
theorem tR(l:List (Int×Int)):(dq l).length≤96:=by
 unfold dq
 refine Ja (List.length_filter_le _ _) ?_
 simp
abbrev dlP(mem:List UInt8)(l:List (Int×Int))(n:Nat):List UInt8:=rd (aX (az mem n)).1 (aM l n)
abbrev wD:Unit→SV:=fun _=> .agg []
theorem AH{r:Nat}{l:List (Int×Int)}(hb:H.at' b=some (cX mem left puts))(hm:mem.length=131072)(hrow:H.at' r=some (pb l))(hne:r≠b)(hll:l.length≤50000)(hG: ∀ n,32≤n→n<128→GoodP (az mem n))(hl2 : -1000000≤left∧left≤1000000)(hputs : -1000000≤puts∧puts≤1000000):Fnc Tryz.prog 21 [tv b,.slu r 0 l.length] H nx
 (fun q=>q.1 = .sc (.int .i64 ((if(fR (az mem) l).1≠0 then(fR (az mem) l).1 else(fS (fR (az mem) l).2 mem left puts).1:Nat):Int))∧q.2.1.at' b=some (cX (fS (fR (az mem) l).2 mem left puts).2.1 (fS (fR (az mem) l).2 mem left puts).2.2.1 (fS (fR (az mem) l).2 mem left puts).2.2.2)∧nx≤q.2.2∧ ∀ m,m<nx→m≠b→q.2.1.at' m=H.at' m):=by
 refine JH Tryz.func21 rfl rfl ?_
 refine aW fun hund=>?_
 have lb:=hund _ _ hb
 have lR:=hund _ _ hrow
 clear hund
 repeat first|apply aj;rfl|apply aG;rfl;(focus((repeat(exact ac));done));rfl|refine w_vl (wS) rfl rfl rfl ?_|apply lg;rfl;rfl;rfl;(focus(kernel_rfl))|refine cc (e8 rfl rfl Tryz.underlying75 rfl) rfl rfl rfl ?_
 refine bv (α:=Nat×List (Int×(Nat×List Int)×Nat)×Nat×List ((Int×Int)×Unit×Nat)×Nat) (fun x=> [(0,tv b),(4,.ptr nx 0),(5,.ptr (nx+1+1) 0),(6,.mp (nx+1+1+1)),(25,.slu r 0 l.length),(26,.sc (.int .i64 (l.length:Int))),(27,.sc (.int .i64 (x.1:Int)))])
  (fun x H1 n1=>x.1≤l.length∧OK1 l x.1∧SlM H1 (nx+1+1+1+1) n1 (l.take x.1) x.2.1 x.2.2.1∧SeM (l.take x.1) x.2.2.2.1 x.2.2.2.2∧nx+1+1+1+1≤n1∧H1.at' nx=some (fp 0)∧H1.at' (nx+1)=some (iT v5 jh x.2.1 x.2.2.1)∧H1.at' (nx+1+1)=some (En (nx+1))∧H1.at' (nx+1+1+1)=some (iT tE wD x.2.2.2.1 x.2.2.2.2)∧ ∀ m,m<nx→H1.at' m=H.at' m) (fun x=>l.length-x.1) (0,[],0,[],0)
  ⟨HT _,⟨fun t ht=>by simp at ht,by simp⟩,by show SlM _ _ _ (l.take 0) [] 0;rw [List.take_zero];exact SlM.zero,by show SeM (l.take 0) [] 0;rw [List.take_zero];exact SeM.zero,by first|omega|(dsimp only;omega),by repeat(first|exact ac|refine ab (by omega) ?_),by repeat(first|exact ac|refine ab (by omega) ?_),by repeat(first|exact ac|refine ab (by omega) ?_),by repeat(exact ac),fun m hm=>by(repeat(refine ab (by omega) ?_));rfl⟩ (JN (JQ rfl)) ?_
 rintro⟨i,m,c,o,c2⟩ H1 n1 ⟨i1,i2,i3,i4,i5,i6,i7,i8,i9,i10⟩ ih
 dsimp only at i1 i2 i3 i4 i5 i6 i7 i8 i9 i10 ⊢
 have r1:H1.at' r=some (pb l):=(i10 r lR).trans hrow
 have b1:H1.at' b=some (cX mem left puts):=(i10 b lb).trans hb
 repeat apply aj;rfl
 refine bi rfl rfl rfl rfl (fun h5=>?_) (fun h5=>?_)
 ·have hi:i<l.length:=by omega
  have hcc:=uD hi
  repeat first|refine dw (q:=i) rfl rfl rfl rfl (F.un _ rfl) (F.sz _ rfl) (by assumption) (by omega) (by(omega)) (HS _) ?_|(refine cZ rfl (.inr (fun _ h=>by cases h)) ((aV (F.ag _ rfl) rfl r1 hcc).does) ?_);rw [aI rfl]|apply aj;rfl|apply aG;rfl;(focus((repeat(exact ac));done));rfl
  refine cL (R:=fun H2 n2=>n2=n1+1∧H2.at' n1=some (tidB l[i])∧SlM H2 (nx+1+1+1+1) n1 (l.take i) m c∧H2.at' nx=some (fp 0)∧H2.at' (nx+1)=some (iT v5 jh m c)∧H2.at' (nx+1+1)=some (En (nx+1))∧H2.at' (nx+1+1+1)=some (iT tE wD o c2)∧ ∀ m,m<nx→H2.at' m=H.at' m) ⟨rfl,by repeat(exact ac),i3.frame (HS _) fun r h1 h2=>by(repeat(refine ab (by omega) ?_));rfl,by repeat(first|assumption|refine ab (by omega) ?_),by repeat(first|assumption|refine ab (by omega) ?_),by repeat(first|assumption|refine ab (by omega) ?_),by repeat(first|assumption|refine ab (by omega) ?_),fun m hm=>by(repeat(refine ab (by omega) ?_));exact i10 m hm⟩ ?_
  rintro H2 n2 ⟨rfl,j0,j3,j6,j7,j8,j9,j10⟩
  clear i3 i6 i7 i8 i9 i10 r1 b1
  by_cases hmem:l[i]∈l.take i
  ·have hM:fR (az mem) l=(2,[]):=Je (by
    obtain⟨k,hk,he⟩:=List.getElem_of_mem hmem
    rw [Jh] at hk
    exact vh hi (k:=k) (by omega) (by rw [← he,List.getElem_take]))
   have hg:gC o l[i]=some ():=by
    cases h:gC o l[i] with
    | some u=>rfl
    | none=>exact absurd ((i4.keys _).2 hmem) (lX.1 h)
   refine Al (m:=o) (enc:=tE) (val:=wD) (c:=c2) rfl rfl rfl rfl (tD l[i]) (F.un _ rfl) t9 (by assumption) hg ?_
   repeat first|apply aj;rfl|apply aG;rfl;(focus((repeat(first|assumption|exact ac|refine ab (by omega) ?_));done));rfl
   rw [hM,Je (by decide)]
   dsimp only [fS]
   (refine eg Tryz.func21 (congrArg Array.toList Tryz.results21) (by kernel_rfl) (JG rM ?_);rintro _ rfl;refine⟨_,(by(repeat(first|exact JI|apply JJ rfl (JM (F.ag _ rfl) (by repeat(exact ac)) (aD rfl))))),?_⟩;dsimp only;exact⟨rfl,by(repeat(refine ab (by omega) ?_));exact(j10 b lb).trans hb,by first|omega|(dsimp only;omega),fun m hm _=>by(repeat(refine ab (by omega) ?_));exact j10 m hm⟩)
  ·have hg:gC o l[i]=none:=by
    cases h:gC o l[i] with
    | none=>rfl
    | some u=>exact absurd ((i4.keys _).1 (by
       apply Classical.byContradiction
       intro h2
       rw [lX.2 h2] at h
       cases h)) hmem
   refine Am (m:=o) (enc:=tE) (val:=wD) (c:=c2) rfl rfl rfl rfl (tD l[i]) (F.un _ rfl) t9 (by assumption) hg (F.ze _ rfl) ?_
   have hmy:=fun(H:au) nx=>zf (H:=H) (nx:=nx) (n:=(l[i]).1) (k:=(l[i]).2)
   cases hmay:mu (l[i]).1 (l[i]).2 with
   | false=>
     rw [hmay] at hmy
     have hM:fR (az mem) l=(2,[]):=Je (vi hi hmay)
     rw [hM,Je (by decide)]
     dsimp only [fS]
     repeat first|apply aj;rfl|apply aG;rfl;(focus((repeat(first|assumption|exact ac|refine ab (by omega) ?_));done));rfl|refine Gb (cW (F.sz _ rfl) rfl rfl rfl (by repeat(first|assumption|exact ac)) (by rfl) (by exact Hz rfl) (by rfl)) rfl rfl ?_|apply bY;rfl;kernel_rfl;exact hmy _ _
     (refine eg Tryz.func21 (congrArg Array.toList Tryz.results21) (by kernel_rfl) (JG rM ?_);rintro _ rfl;refine⟨_,(by(repeat(first|exact JI|apply JJ rfl (JM (F.ag _ rfl) (by repeat(exact ac)) (aD rfl))))),?_⟩;dsimp only;exact⟨rfl,by(repeat(refine ab (by omega) ?_));exact(j10 b lb).trans hb,by first|omega|(dsimp only;omega),fun m hm _=>by(repeat(refine ab (by omega) ?_));exact j10 m hm⟩)
   | true=>
     rw [hmay] at hmy
     have hok:=wq hi i2 hmay hmem
     have hse:=i4.add l[i]
     rw [← fG hi] at hse
     repeat first|apply aj;rfl|apply aG;rfl;(focus((repeat(first|assumption|exact ac|refine ab (by omega) ?_));done));rfl|refine Gb (cW (F.sz _ rfl) rfl rfl rfl (by repeat(first|assumption|exact ac)) (by rfl) (by exact Hz rfl) (by rfl)) rfl rfl ?_|apply bY;rfl;kernel_rfl;exact hmy _ _
     refine Ak (m:=o) (enc:=tE) (val:=wD) (c:=c2) (v:=()) rfl rfl rfl (tD l[i]) (F.un _ rfl) t9 (by repeat(first|assumption|refine ab (by omega) ?_)) rfl ?_
     repeat apply aj;rfl
     refine cL (R:=fun H3 n3=>n3=n1+1+1∧H3.at' n1=some (tidB l[i])∧SlM H3 (nx+1+1+1+1) n1 (l.take i) m c∧H3.at' nx=some (fp 0)∧H3.at' (nx+1)=some (iT v5 jh m c)∧H3.at' (nx+1+1)=some (En (nx+1))∧H3.at' (nx+1+1+1)=some (iT tE wD (gO o l[i] () c2) (po o l[i] c2))∧ ∀ m,m<nx→H3.at' m=H.at' m) ⟨rfl,by repeat(first|assumption|refine ab (by omega) ?_),j3.frame (HS _) fun r h1 h2=>by(repeat(refine ab (by omega) ?_));rfl,by repeat(first|assumption|refine ab (by omega) ?_),by repeat(first|assumption|refine ab (by omega) ?_),by repeat(first|assumption|refine ab (by omega) ?_),by repeat(exact ac),fun m hm=>by(repeat(refine ab (by omega) ?_));exact j10 m hm⟩ ?_
     rintro H3 n3 ⟨rfl,k0,k3,k6,k7,k8,k9,k10⟩
     clear j0 j3 j6 j7 j8 j9 j10 hmy
     rcases k3.get (l[i]).1 with ⟨g1,g2⟩|⟨rv,g1,g2,g3,g4⟩
     ·(apply bg;(focus(kernel_rfl));(focus(kernel_rfl)))
      repeat first|apply dA;rfl;assumption;rfl|refine Bp (m:=m) (enc:=v5) (val:=jh) rfl rfl rfl rfl (F.un _ rfl) (gP (F.un _ rfl)) (by assumption) (g1) (F.ze _ rfl) ?_|refine pt (iQ (F.un _ rfl) (F.sz _ rfl) (bQ rfl) (F.ze _ rfl) rfl rfl rfl rfl rfl) rfl rfl rfl ?_|refine jO rfl rfl (fun _ h=>by cases h) (mF (b:=8) (F.un _ rfl) (.inl ⟨_,F.un _ rfl⟩) (F.sz _ rfl) (by decide) (by kernel_rfl) (by kernel_rfl) rfl rfl (slRow (by repeat(exact ac)) rfl) (by rfl) (by omega) (by omega) (by omega)) ?_|refine v6 (m:=m) (enc:=v5) (val:=jh) (kk:=(l[i]).1) (v:=(n1+1+1+1,[(l[i]).2])) rfl rfl rfl (F.un _ rfl) (gP (F.un _ rfl)) (by repeat(first|assumption|refine ab (by omega) ?_)) rfl ?_|apply aU;rfl
      refine aA ⟨by kernel_rfl,?_,?_⟩;(focus(repeat(first|exact JR|apply kp;rfl|apply gu;rfl;kernel_rfl|refine fT 0 rfl (by kernel_rfl) (by(repeat(refine⟨(by(exact an (F.ag _ rfl) rfl (by repeat(first|assumption|refine ab (by omega) ?_)) (aD rfl))),?_⟩));exact JR) ?_|refine fT 1 rfl (by kernel_rfl) (by(repeat(refine⟨(by(exact uN (ok:=false) (enc:=v5) (val:=jh) (m:=m) (c:=c) rfl rfl (F.un _ rfl) (gP (F.un _ rfl)) (by((focus((repeat(first|assumption|refine ab (by omega) ?_));done)))) g1 (F.ze _ rfl))),?_⟩));exact JR) ?_)))
      repeat first|apply aj;rfl|apply aK;rfl;omega;omega
      have hadd:=fun(H4:au) n4 (h1:n1+1+1+1<n4) (h2:H4.at' (n1+1+1+1)=some (pI [(l[i]).2])) (h3: ∀ x,x<n1→nx+1+1+1+1≤x→H4.at' x=H3.at' x)=>k3.add (H':=H4) (nx':=n4) (r':=n1+1+1+1) (l[i]).1 (l[i]).2 i5 (by omega) h1 (by rw [g2];exact h2) fun x q1 q2 _=>h3 x q2 q1
      rw [g2,←fG hi] at hadd
      exact ih _ _ _ (i+1,gO m (l[i]).1 (n1+1+1+1,[(l[i]).2]) c,po m (l[i]).1 c,gO o l[i] () c2,po o l[i] c2) ⟨hi,hok,hadd _ _ (by(dsimp only;omega)) (by refine(aa _ _ (by omega)).trans ?_;exact(ah _ _ _).trans (congrArg some (yd _))) (fun x q1 q2=>by(repeat(refine ab (by omega) ?_));rfl),hse,by first|omega|(dsimp only;omega),by repeat(first|assumption|refine ab (by omega) ?_),by repeat(exact ac),by repeat(first|assumption|refine ab (by omega) ?_),by repeat(first|assumption|refine ab (by omega) ?_),fun m hm=>by(repeat(refine ab (by omega) ?_));exact k10 m hm⟩ (by dsimp only;omega) (JN (JQ rfl))
     ·have hrl:(ji (l.take i) (l[i]).1).length≤50000:=by
       unfold ji
       rw [Ji]
       refine Ja (List.length_filter_le _ _) ?_
       rw [Jh]
       omega
      generalize hlst:ji (l.take i) (l[i]).1=lst at g1 g4 hrl
      (apply bg;(focus(kernel_rfl));(focus(kernel_rfl)))
      repeat first|apply dA;rfl;assumption;rfl|refine Bq (m:=m) (enc:=v5) (val:=jh) rfl rfl rfl rfl (F.un _ rfl) (gP (F.un _ rfl)) (by assumption) (g1) ?_|refine pt (iQ (F.un _ rfl) (F.sz _ rfl) (bQ rfl) (F.ze _ rfl) rfl rfl rfl rfl rfl) rfl rfl rfl ?_|refine jO rfl rfl (fun _ h=>by cases h) (yO (A:=Int) (f:=qT) (xs:=lst) (a:=(l[i]).2) (b:=8) rfl rfl (F.un _ rfl) (.inl ⟨_,F.un _ rfl⟩) (F.sz _ rfl) (by decide) (by kernel_rfl) (by kernel_rfl) (by repeat(first|assumption|refine ab (by omega) ?_)) (by repeat(exact ac)) rfl sV (by omega) (by omega)) ?_|refine v6 (m:=m) (enc:=v5) (val:=jh) (kk:=(l[i]).1) (v:=(n1+1+1+1,lst ++ [(l[i]).2])) rfl rfl rfl (F.un _ rfl) (gP (F.un _ rfl)) (by repeat(first|assumption|refine ab (by omega) ?_|refine bX (by omega) ?_)) rfl ?_|apply aU;rfl
      refine aA ⟨by kernel_rfl,?_,?_⟩;(focus(repeat(first|exact JR|apply kp;rfl|apply gu;rfl;kernel_rfl|refine fT 0 rfl (by kernel_rfl) (by(repeat(refine⟨(by(exact an (F.ag _ rfl) rfl (by repeat(first|assumption|refine ab (by omega) ?_|refine bX (by omega) ?_)) (aD rfl))),?_⟩));exact JR) ?_|refine fT 1 rfl (by kernel_rfl) (by(repeat(refine⟨(by(exact tO (ok:=false) (enc:=v5) (val:=jh) (m:=m) (c:=c) rfl rfl (F.un _ rfl) (gP (F.un _ rfl)) (by((focus((repeat(first|assumption|refine ab (by omega) ?_|refine bX (by omega) ?_));done)))) g1)),?_⟩));exact JR) ?_)))
      repeat first|apply aj;rfl|apply aK;rfl;omega;omega
      have hadd:=fun(H4:au) n4 (h1:n1+1+1+1<n4) (h2:H4.at' (n1+1+1+1)=some (pI (lst ++ [(l[i]).2]))) (h3: ∀ x,x<n1→nx+1+1+1+1≤x→x≠rv→H4.at' x=H3.at' x)=>k3.add (H':=H4) (nx':=n4) (r':=n1+1+1+1) (l[i]).1 (l[i]).2 i5 (by omega) h1 (by rw [hlst];exact h2) fun x q1 q2 q3=>h3 x q2 q1 fun e=>q3 lst (by rw [e];exact g1)
      rw [hlst,←fG hi] at hadd
      exact ih _ _ _ (i+1,gO m (l[i]).1 (n1+1+1+1,lst ++ [(l[i]).2]) c,po m (l[i]).1 c,gO o l[i] () c2,po o l[i] c2) ⟨hi,hok,hadd _ _ (by(dsimp only;omega)) (by repeat(first|exact ac|refine ab (by omega) ?_)) (fun x q1 q2 q3=>by(repeat(first|refine ab (by omega) ?_|refine bX (by omega) ?_));rfl),hse,by first|omega|(dsimp only;omega),by repeat(first|assumption|refine ab (by omega) ?_|refine bX (by omega) ?_),by repeat(exact ac),by repeat(first|assumption|refine ab (by omega) ?_|refine bX (by omega) ?_),by repeat(first|assumption|refine ab (by omega) ?_|refine bX (by omega) ?_),fun m hm=>by(repeat(first|refine ab (by omega) ?_|refine bX (by omega) ?_));exact k10 m hm⟩ (by dsimp only;omega) (JN (JQ rfl))
 ·have hi:i=l.length:=by omega
  subst hi
  have hM:tz l:=by
   unfold OK1 at i2
   rw [List.take_length] at i2
   exact i2
  rw [List.take_length] at i3
  have hkey:=fun(ks:List Int) hp hs=>w5 (ks:=ks) hM (K:=m.map (·.1)) hp i3.ok.keys hs i3.keys
  have hml:=i3.len
  repeat first|apply bY;rfl;kernel_rfl;exact xc jh m c|apply aj;rfl|apply aG;rfl;assumption;rfl
  refine aL rfl rfl rfl (by kernel_rfl) (JG (A3 jh m c i3.ok (by omega) (by repeat(exact ac)) (b:=nx+1) (by repeat(first|assumption|refine ab (by omega) ?_)) (by omega) (by omega)) ?_)
  rintro⟨_,H7,n7⟩ hso
  obtain⟨nm,ks,hks,hsr,e1,u1,u2,u3,u4⟩:=hso
  dsimp only at e1
  subst e1
  dsimp only at u1 u2 u3 u4 ⊢
  have hk2:=hkey ks hks hsr
  subst hk2
  clear hkey hks hsr
  repeat apply aj;rfl
  refine jX 1024 27 (d:=12) (by repeat(first|exact ac|refine ab (by omega) ?_)) rfl ?_
  have hPL:=tR l
  have hnl:(jF (dq l)).length=(dq l).length:=Ji _
  generalize hPG:dq l=PG at hPL hnl u3
  refine bv (α:=Nat×Nat) (fun x=> [(0,tv b),(4,.ptr nx 0),(5,.ptr (nx+1+1) 0),(11,.slu nm 0 (jF PG).length),(12,.slu x.2 0 ((PG.take x.1).map (dlP mem l)).length),(61,.slu nm 0 (jF PG).length),(62,.sc (.int .i64 ((jF PG).length:Int))),(63,.sc (.int .i64 (x.1:Int)))])
   (fun x H8 n8=>x.1≤PG.length∧(∀ n∈PG.take x.1,∀ k∈aM l n,kY (aX (az mem n)).1 k=true)∧n7≤x.2∧x.2<n8∧H8.at' x.2=some (pgR ((PG.take x.1).map (dlP mem l)))∧H8.at' nx=some (fp 0)∧H8.at' (nx+1)=some (iT v5 jh m c)∧H8.at' (nx+1+1)=some (En (nx+1))∧H8.at' nm=some (pI (jF PG))∧(∀ n∈PG.drop x.1,∀ r ks,gC m (n:Int)=some (r,ks)→H8.at' r=some (pI ks))∧ ∀ m,m<nx→H8.at' m=H.at' m) (fun x=>PG.length-x.1) (0,n7)
   ⟨HT _,fun n hn=>by simp at hn,HS _,Nat.lt_succ_self _,ah _ _ _,by(repeat(refine ab (by omega) ?_));exact(u4 _ (by omega)).trans (by repeat(first|assumption|refine ab (by omega) ?_)),by(repeat(refine ab (by omega) ?_));exact(u4 _ (by omega)).trans (by repeat(first|assumption|refine ab (by omega) ?_)),by(repeat(refine ab (by omega) ?_));exact(u4 _ (by omega)).trans (by repeat(first|assumption|refine ab (by omega) ?_)),by(repeat(refine ab (by omega) ?_));exact u3,fun n _ r ks hg=>by
     obtain⟨_,q2,q3,q4⟩:=i3.val _ _ _ hg
     exact(aa _ _ (by omega)).trans ((u4 _ (by omega)).trans ((aa _ _ (by omega)).trans q4)),fun m hm=>by
     exact(aa _ _ (by omega)).trans ((u4 _ (by omega)).trans ((aa _ _ (by omega)).trans (i10 m hm)))⟩ (JN (JQ rfl)) ?_
  clear u3 u4 i6 i7 i8 i9 i10 r1 b1
  rintro⟨j,rp⟩ H8 n8 ⟨j1,j2,j3,j4,j5,j6,j7,j8,j9,j10,j11⟩ ih2
  dsimp only at j1 j2 j3 j4 j5 j6 j7 j8 j9 j10 j11 ⊢
  repeat apply aj;rfl
  refine bi rfl rfl rfl rfl (fun h6=>?_) (fun h6=>?_)
  ·have hj:j<PG.length:=by omega
   have hcell:(pI (jF PG)).cell (j*1)=some (.sc (.int .i64 (PG[j]:Int))):=by
    have:=qA (l:=jF PG) (i:=j) (by omega)
    rwa [List.getElem_map] at this
   have hmemP:PG[j]∈dq l:=by rw [hPG];exact Jc hj
   obtain⟨p1,p2,p3⟩:=dP.1 hmemP
   have hdr:PG.drop j=PG[j] :: PG.drop (j+1):=List.drop_eq_getElem_cons hj
   have htk:PG.take (j+1)=PG.take j ++ [PG[j]]:=List.take_succ_eq_append_getElem hj
   have hsN:=x9 hM.1 PG[j]
   generalize hn:PG[j]=N at hcell hmemP p1 p2 p3 hdr htk hsN
   obtain⟨g1,g2⟩|⟨rv,g1,g2,g3,g4⟩:=i3.get (N:Int)
   ·exfalso
    rw [hsN] at g2
    exact p3 (List.map_eq_nil_iff.1 g2)
   ·rw [hsN] at g1
    have hrv:=j10 N (by rw [hdr];exact Jl) rv _ g1
    have hSl:(jF (aM l N)).length=(aM l N).length:=Ji _
    have hSb:(aM l N).length≤50000:=by
     unfold aM
     rw [Ji]
     exact Ja (List.length_filter_le _ _) hll
    have hsort:=Az (jF (aM l N)) (by omega)
    rw [← Ay] at hsort
    repeat first|refine dw (q:=j) rfl rfl rfl rfl (F.un _ rfl) (F.sz _ rfl) j9 (by omega) (by omega) (by omega) ?_|refine cc (an (F.ag _ rfl) rfl j9 hcell) rfl rfl rfl ?_|apply aj;rfl|apply aG;rfl;(focus((repeat(first|assumption|exact ac|refine ab (by omega) ?_));done));rfl|refine xJ (m:=m) (enc:=v5) (val:=jh) rfl rfl rfl rfl (F.un _ rfl) (gP (F.un _ rfl)) (by repeat(first|assumption|refine ab (by omega) ?_)) (g1) ?_
    dsimp only [jh]
    rw [hSl,←(gf (aM l N)).length_eq]
    have hln:(jF (aM l N)).length=(x6 (aM l N)).length:=hSl.trans (gf (aM l N)).length_eq.symm
    rw [hln] at hsort
    refine cL (R:=fun HB nB=>nB=n8+1∧HB.at' n8=some (intO N)∧ ∀ m,m<n8→HB.at' m=H8.at' m) ⟨rfl,by repeat(exact ac),fun m hm=>by(repeat(refine ab (by omega) ?_));rfl⟩ ?_
    rintro HB nB ⟨rfl,k1,k2⟩
    have hrvB:HB.at' rv=some (pI (jF (aM l N))):=(k2 _ (by omega)).trans hrv
    (refine aL rfl rfl rfl (by kernel_rfl) (Ctr.CI (hsort) [rv] rfl ⟨by intro n hn;simp at hn;omega,by simp;try omega⟩ rfl (by repeat(first|exact JR|refine⟨aB (by assumption),?_⟩)) ?_);rintro _ rfl;refine⟨_,0,[rv],[some _],rfl,(by repeat(first|exact JR|refine⟨od _ _ _ _ _ _,?_⟩)),rfl,rfl,?_⟩;dsimp only [wrL])
    repeat first|apply aj;rfl|apply aG;rfl;(focus((repeat(first|assumption|refine ab (by omega) ?_));done));rfl
    obtain⟨q,hq,hgq⟩:=(hG N p1 p2).read
    have hwl:=ny (x6 (aM l N))
    refine aL rfl rfl rfl (by kernel_rfl) (JG (sW (b:=b) (n:=N) (mem:=mem) (left:=left) (puts:=puts) (by(repeat(refine ab (by omega) ?_));exact(k2 _ (by omega)).trans ((j11 b lb).trans hb)) hm p2 (g:=55) (caps:= [.ptr (nx+1+1) 0,.ptr n8 0]) (by kernel_rfl) (rx (x6 (aM l N))) ?_) ?_)
    ·intro p HA nA hrd hnA ho
     rw [hq] at hrd
     cases hrd
     exact⟨hwl _ hgq.ok.len,Gt (mb:=nx+1) (tb:=nx+1+1) (nb:=n8) (rv:=rv) (n:=N) (c:=c) (m:=m) (ks:=jF (aM l N)) ((ho _ (by omega)).trans (by(repeat(refine ab (by omega) ?_));exact(k2 _ (by omega)).trans j8)) ((ho _ (by omega)).trans (by(repeat(refine ab (by omega) ?_));exact k1)) ((ho _ (by omega)).trans (by(repeat(refine ab (by omega) ?_));exact(k2 _ (by omega)).trans j7)) g1 ((ho _ (by omega)).trans (by repeat(exact ac))) hln (by omega) hgq.ok.len⟩
    ·rintro⟨_,H9,n9⟩ ⟨rfl,g5,g6⟩
     dsimp only at g5 g6 ⊢
     have hof:(aX (az mem N)).1=q:=by rw [hq]
     rw [hq,Jd (fun h=>h rfl)]
     dsimp only
     rw [p5 hgq.ok (fe hM N)]
     have hwo:=p5 hgq.ok (fe hM N)
     have hwq:=hwl q hgq.ok.len
     by_cases hall: ∀ k∈aM l N,kY q k=true
     ·rw [Je hall] at hwo ⊢
      rw [hwo] at hwq
      have hdl:rd q (aM l N)=dlP mem l N:=by unfold dlP;rw [hof]
      rw [hdl] at hwq ⊢
      generalize hy:dlP mem l N=y at hwq ⊢
      dsimp only at hwq
      have hyl:(pgS y).length=1024:=by rw [Ji,Ji,hwq]
      refine cL (R:=fun HC nC=>nC=n9∧HC.at' rp=some (pgR ((PG.take j).map (dlP mem l)))∧HC.at' nx=some (fp 0)∧HC.at' (nx+1)=some (iT v5 jh m c)∧HC.at' (nx+1+1)=some (En (nx+1))∧HC.at' nm=some (pI (jF PG))∧(∀ x,x<n8→x≠rv→HC.at' x=H8.at' x)) ⟨rfl,(g6 _ (by omega)).trans ((aa _ _ (by omega)).trans ((k2 _ (by omega)).trans j5)),(g6 _ (by omega)).trans ((aa _ _ (by omega)).trans ((k2 _ (by omega)).trans j6)),(g6 _ (by omega)).trans ((aa _ _ (by omega)).trans ((k2 _ (by omega)).trans j7)),(g6 _ (by omega)).trans ((aa _ _ (by omega)).trans ((k2 _ (by omega)).trans j8)),(g6 _ (by omega)).trans ((aa _ _ (by omega)).trans ((k2 _ (by omega)).trans j9)),fun x hx hxr=>(g6 _ (by omega)).trans ((aa _ _ hxr).trans (k2 _ hx))⟩ ?_
      rintro HC nC ⟨rfl,c5,c6,c7,c8,c9,c10⟩
      repeat first|refine aY rfl rfl ce ?_|apply bq hwq;rfl;(focus((repeat(exact ac));done))|apply bC hwq ai;rfl;(focus((repeat(exact ac));done))|apply dH;rfl;rfl|refine bB (cs:=pgS y) rfl rfl (F.un _ rfl) (F.sz _ rfl) rfl zPgV rfl (DY (by simp) hwq) (iv y) rfl hyl ?_|apply aj;rfl
      refine lC (b:=1024) (f:=pgV) (xs:=(PG.take j).map (dlP mem l)) (a:=y) rfl rfl rfl rfl (F.un _ rfl) (.inl ⟨_,F.un _ rfl⟩) (F.sz _ rfl) rfl (by kernel_rfl) (by kernel_rfl) (by repeat(first|assumption|refine ab (by omega) ?_)) (by repeat(exact ac)) (by show pgS y=(byV (G2 y)).map .sc;rw [zE hwq]) yH (by rw [Ji,Jh];omega) (by rw [Ji,Jh];omega) ?_
      have hxs:(PG.take j).map (dlP mem l) ++ [y]=(PG.take (j+1)).map (dlP mem l):=by rw [htk,HX,List.map_singleton,hy]
      rw [hxs]
      repeat first|apply aj;rfl|apply aK;rfl;omega;omega
      refine ih2 _ _ _ (j+1,_) ⟨hj,fun n hn=>?_,?_,Nat.lt_succ_self _,ah _ _ _,by repeat(first|assumption|refine ab (by omega) ?_|refine bX (by omega) ?_),by repeat(first|assumption|refine ab (by omega) ?_|refine bX (by omega) ?_),by repeat(first|assumption|refine ab (by omega) ?_|refine bX (by omega) ?_),by repeat(first|assumption|refine ab (by omega) ?_|refine bX (by omega) ?_),fun n hn r ks hg=>?_,fun m hm=>by(repeat(first|refine ab (by omega) ?_|refine bX (by omega) ?_));exact(c10 m (by omega) (by omega)).trans (j11 m hm)⟩ (by dsimp only;omega) (JN (JQ rfl))
      ·rw [htk] at hn
       rcases List.mem_append.1 hn with hn|hn
       ·exact j2 n hn
       ·rw [Jj.1 hn,hof]
        exact hall
      ·first|omega|(dsimp only;omega)
      ·have hn2:n∈PG.drop j:=by rw [hdr];exact Jm _ hn
       have hne2:n≠N:=by
        intro e
        have hnd:(PG.drop j).Nodup:=by
         rw [← hPG]
         exact((kX l).imp fun h=>Nat.ne_of_lt h).sublist (List.drop_sublist _ _)
        rw [hdr,List.nodup_cons] at hnd
        exact hnd.1 (e ▸ hn)
       obtain⟨_,q2,q3,_⟩:=i3.val _ _ _ hg
       have hrr:=i3.sep _ _ _ _ _ _ hg g1 (by omega)
       have hold:=(c10 r (by omega) hrr).trans (j10 n hn2 r ks hg)
       (focus((repeat(first|refine ab (by omega) ?_|refine bX (by omega) ?_));exact hold))
     ·rw [Jd hall]
      have hR:fR (az mem) l=(6,[]):=by
       unfold fR
       rw [Jd (fun h=>h hM),Je (fun h=>hall (by
        have:=(lZ hM).1 h N hmemP
        rwa [hof] at this))]
      rw [hR,Je (by decide)]
      dsimp only [fS]
      have e6:H9.at' nx=some (fp 0):=(g6 _ (by omega)).trans ((aa _ _ (by omega)).trans ((k2 _ (by omega)).trans j6))
      have eb:H9.at' b=some (cX mem left puts):=(g6 _ (by omega)).trans ((aa _ _ (by omega)).trans ((k2 _ (by omega)).trans ((j11 b lb).trans hb)))
      have eo: ∀ x,x<nx→H9.at' x=H.at' x:=fun x hx=>(g6 _ (by omega)).trans ((aa _ _ (by omega)).trans ((k2 _ (by omega)).trans (j11 x hx)))
      repeat first|refine aY rfl rfl ce ?_|apply bC ai ai;rfl;(focus((repeat(exact ac));done))|apply ii;rfl;decide|apply aj;rfl|apply aG;rfl;(focus((repeat(first|assumption|refine ab (by omega) ?_));done));rfl
      (refine eg Tryz.func21 (congrArg Array.toList Tryz.results21) (by kernel_rfl) (JG rM ?_);rintro _ rfl;refine⟨_,(by(repeat(first|exact JI|apply JJ rfl (JM (F.ag _ rfl) (by repeat(exact ac)) (aD rfl))))),?_⟩;dsimp only;exact⟨rfl,by(repeat(refine ab (by omega) ?_));exact eb,by first|omega|(dsimp only;omega),fun m hm _=>by(repeat(refine ab (by omega) ?_));exact eo m hm⟩)
  ·have hj:j=PG.length:=by omega
   subst hj
   rw [List.take_length] at j2 j5
   clear j10 ih2 ih
   have hR:fR (az mem) l=(0,PG.map fun n=>(n,dlP mem l n)):=by
    unfold fR
    rw [Jd (fun h=>h hM),Jd (fun h=>h ((lZ hM).2 (by rw [hPG];exact j2))),hPG]
   rw [hR,Jd (fun h=>h rfl)]
   dsimp only
   generalize hps:(PG.map fun n=>(n,dlP mem l n))=ps
   have hpl:ps.length=PG.length:=by rw [← hps,Ji]
   have hpl2:(PG.map (dlP mem l)).length=PG.length:=Ji _
   repeat apply aj;rfl
   rw [List.take_length]
   refine bv (α:=Nat×List UInt8×Int×Int) (fun x=> [(0,tv b),(4,.ptr nx 0),(12,.slu rp 0 (PG.map (dlP mem l)).length),(86,.slu nm 0 (jF PG).length),(87,.sc (.int .i64 ((jF PG).length:Int))),(88,.sc (.int .i64 (x.1:Int)))])
    (fun x H9 n9=>x.1≤PG.length∧fS (ps.drop x.1) x.2.1 x.2.2.1 x.2.2.2=fS ps mem left puts∧x.2.1.length=131072∧(left-x.1≤x.2.2.1∧x.2.2.1≤left)∧(puts≤x.2.2.2∧x.2.2.2≤puts+x.1)∧n8≤n9∧H9.at' b=some (cX x.2.1 x.2.2.1 x.2.2.2)∧H9.at' nx=some (fp 0)∧H9.at' nm=some (pI (jF PG))∧H9.at' rp=some (pgR (PG.map (dlP mem l)))∧ ∀ m,m<nx→m≠b→H9.at' m=H.at' m) (fun x=>PG.length-x.1) (0,mem,left,puts)
    ⟨HT _,rfl,hm,by dsimp only;omega,by dsimp only;omega,HS _,(j11 b lb).trans hb,j6,j9,j5,fun m hm _=>j11 m hm⟩ (JN (JQ rfl)) ?_
   rintro⟨q,me,le,pu⟩ H9 n9 ⟨q1,q2,q3,⟨q4,q5⟩,⟨q6,q7⟩,q8,q9,q10,q11,q12,q13⟩ ih3
   dsimp only at q1 q2 q3 q4 q5 q6 q7 q8 q9 q10 q11 q12 q13 ⊢
   repeat apply aj;rfl
   refine bi rfl rfl rfl rfl (fun h7=>?_) (fun h7=>?_)
   ·have hj:q<PG.length:=by omega
    have hcell:(pI (jF PG)).cell (q*1)=some (.sc (.int .i64 (PG[q]:Int))):=by
     have:=qA (l:=jF PG) (i:=q) (by omega)
     rwa [List.getElem_map] at this
    have hmemP:PG[q]∈dq l:=by rw [hPG];exact Jc hj
    obtain⟨p1,p2,p3⟩:=dP.1 hmemP
    have hlen:(dlP mem l PG[q]).length=1024:=by
     obtain⟨z,hz,hgz⟩:=(hG PG[q] p1 p2).read
     have hwo:=p5 hgz.ok (fe hM PG[q])
     have hwq:=ny (x6 (aM l PG[q])) z hgz.ok.len
     have hz2:(aX (az mem PG[q])).1=z:=by rw [hz]
     have hall:=j2 PG[q] (Jc hj)
     rw [hz2] at hall
     rw [hwo,Je hall] at hwq
     unfold dlP
     rw [hz2]
     exact hwq
    have hpc:=yI (l:=PG.map (dlP mem l)) (i:=q) (by omega) (by rw [List.getElem_map];exact hlen)
    rw [List.getElem_map] at hpc
    have hdr:ps.drop q=(PG[q],dlP mem l PG[q]) :: ps.drop (q+1):=by
     rw [List.drop_eq_getElem_cons (by omega)]
     congr 1
     subst hps
     rw [List.getElem_map]
    rw [hdr] at q2
    generalize PG[q]=N at hcell hmemP p1 p2 p3 hdr hlen hpc q2
    generalize dlP mem l N=y at hlen hpc q2
    have hput:fS ((N,y) :: ps.drop (q+1)) me le pu=if le=0 then(8,me,le,pu) else fS (ps.drop (q+1)) (gH me N y) (le-1) (pu+1):=rfl
    repeat first|refine dw (q:=q) rfl rfl rfl rfl (F.un _ rfl) (F.sz _ rfl) q11 (by omega) (by omega) (by omega) ?_|refine cc (an (F.ag _ rfl) rfl q11 hcell) rfl rfl rfl ?_|apply aj;rfl
    (apply bg;(focus(kernel_rfl));(focus(kernel_rfl)))
    repeat first|apply aU;rfl|refine aH (q:=q) rfl rfl rfl rfl (F.un _ rfl) (F.sz _ rfl) (by assumption) (by omega) (by(omega)) (HS _) ?_|refine bk (aV (F.ag _ rfl) rfl q12 hpc) rfl rfl rfl ?_
    by_cases hle:le=0
    ·subst hle
     rw [← q2,hput,Je rfl]
     refine sS 141 rfl rfl rfl rfl (by kernel_rfl) (uU (n:=N) (x:=y) q9 q3 p2 hlen) ?_
     repeat apply aU;rfl
     refine aA ⟨by kernel_rfl,?_,?_⟩;(focus(repeat(first|exact JR|apply kp;rfl|apply gu;rfl;kernel_rfl|apply mv;kernel_rfl)))
     dsimp only
     repeat first|apply ii;rfl;decide|apply aj;rfl|apply aG;rfl;assumption;rfl
     (refine eg Tryz.func21 (congrArg Array.toList Tryz.results21) (by kernel_rfl) (JG rM ?_);rintro _ rfl;refine⟨_,(by(repeat(first|exact JI|apply JJ rfl (JM (F.ag _ rfl) (by repeat(exact ac)) (aD rfl))))),?_⟩;dsimp only;exact⟨rfl,by(repeat(refine ab (by omega) ?_));exact q9,by first|omega|(dsimp only;omega),fun m hm hmb=>by(repeat(refine ab (by omega) ?_));exact q13 m hm hmb⟩)
    ·rw [hput,Jd hle] at q2
     refine sS 141 rfl rfl rfl rfl (by kernel_rfl) (Fnc.BP q9 (wP _ _ _) (uS (n:=N) (x:=y) q9 q3 p2 hlen hle (by omega) (by omega))) ?_
     repeat apply aU;rfl
     refine aA ⟨by kernel_rfl,?_,?_⟩;(focus(repeat(first|exact JR|apply kp;rfl|apply gu;rfl;kernel_rfl|apply mv;kernel_rfl)))
     dsimp only
     repeat first|apply dH;rfl;rfl|apply aj;rfl|apply aK;rfl;omega;omega
     exact ih3 _ _ _ (q+1,gH me N y,le-1,pu+1) ⟨hj,q2,lI q3 p2 hlen,by first|omega|(dsimp only;omega),by first|omega|(dsimp only;omega),by first|omega|(dsimp only;omega),by repeat(exact ac),by repeat(first|assumption|refine ab (by omega) ?_),by repeat(first|assumption|refine ab (by omega) ?_),by repeat(first|assumption|refine ab (by omega) ?_),fun m hm hmb=>by(repeat(refine ab (by omega) ?_));exact q13 m hm hmb⟩ (by dsimp only;omega) (JN (JQ rfl))
   ·have hj:q=ps.length:=by omega
    subst hj
    rw [List.drop_length] at q2
    rw [← q2]
    dsimp only [fS]
    repeat first|apply aj;rfl|apply aG;rfl;assumption;rfl
    (refine eg Tryz.func21 (congrArg Array.toList Tryz.results21) (by kernel_rfl) (JG rM ?_);rintro _ rfl;refine⟨_,(by(repeat(first|exact JI|apply JJ rfl (JM (F.ag _ rfl) (by repeat(exact ac)) (aD rfl))))),?_⟩;dsimp only;exact⟨rfl,by(repeat(refine ab (by omega) ?_));exact q9,by first|omega|(dsimp only;omega),fun m hm hmb=>by(repeat(refine ab (by omega) ?_));exact q13 m hm hmb⟩)
theorem qE(n:Nat):(if n≠0 then n else 0)=n:=by
 split <;> omega
theorem lL(pf:Nat→List UInt8)(l:List (Int×Int)):((fR pf l).1≠0∧(fR pf l).2= [])∨(fR pf l).1=0:=by
 unfold fR
 split
 ·exact .inl ⟨by decide,rfl⟩
 ·split
  ·exact .inl ⟨by decide,rfl⟩
  ·exact .inr rfl
theorem do3_s{h:Nat}{x:nP}(hb:H.at' b=some (cX mem left puts))(hh:H.at' h=some (hpO (dk mem)))(hne:b≠h)(hv:Hv mem)(hx:Ae H nx b h x)(hk:x.1.kind=3)(hl : -900000≤left∧left<0)(hp:0≤puts∧puts≤900000):Fnc Tryz.prog 9 [.ptr b 0,.ptr h 0,.agg (re x)] H nx (pY H nx b h mem left puts):=by
 have hx0:=hx H fun _ _ _ _=>rfl
 have hone:bh (re x)=true:=by simp only [bh,cC hx0.1,cC hx0.2];rfl
 refine JH Tryz.func9 rfl rfl ?_
 refine aW fun hund=>?_
 have lb:=hund _ _ hb
 have lh:=hund _ _ hh
 obtain⟨rows,hal,hrl,hrn⟩:=iE hv
 have hdoc:pW (dfH (dk mem))=some rows:=(kG fun n a b=>fh hv a b).trans hal
 repeat apply aj;rfl
 refine aL rfl rfl rfl (by kernel_rfl) (JG (mV (hm:=dk mem) (by repeat(first|assumption|refine ab (by omega) ?_)) (dh hv.len)) ?_)
 rintro⟨_,H1,n1⟩ ⟨u1,u2,⟨u3,_⟩|⟨rows',s,rr,u3,rfl,u4⟩⟩
 ·rw [hdoc] at u3
  cases u3
 rw [hdoc] at u3
 cases u3
 dsimp only at u1 u2 u4 ⊢
 have c1:H1.at' nx=some (te x):=(u2 nx (by omega)).trans (by repeat(exact ac))
 have cb:H1.at' b=some (cX mem left puts):=(u2 b (by omega)).trans (by repeat(first|assumption|refine ab (by omega) ?_))
 have ch:H1.at' h=some (hpO (dk mem)):=(u2 h (by omega)).trans (by repeat(first|assumption|refine ab (by omega) ?_))
 have co: ∀ m,m<nx→H1.at' m=H.at' m:=fun m hm=>(u2 m (by omega)).trans (by(repeat(refine ab (by omega) ?_));rfl)
 repeat first|refine cV rfl rfl rfl (F.ag _ rfl) cb (dp hv.len _ _) ?_|apply aj;rfl|apply aG;rfl;assumption;rfl
 repeat first|apply aj;rfl|apply ii;rfl;omega
 refine cF rfl rfl rfl rfl (fun _=>?_) (fun e=>absurd hk (by omega))
 repeat first|apply aj;rfl|apply aG;rfl;assumption;rfl
 have hr0:=yl x.1.place (L:=7) (by decide)
 generalize hr1:x.1.place.tmod ((7:Nat):Int)=p1 at hr0
 obtain⟨j,hj,hr2⟩:=B9 (p1+7) (L:=7) (by decide) (by omega)
 refine ry (c:=p1) rfl rfl rfl rfl (by decide) hr1 ?_
 repeat apply aK;rfl;omega;omega
 refine ry (c:=(j:Int)) rfl rfl rfl rfl (by decide) hr2 ?_
 repeat first|apply aj;rfl|apply aK;rfl;omega;omega
 rw [show(2:Int)+(j:Int)=((j+2:Nat):Int) by omega,show((j+2:Nat):Int)-1=((j+2-1:Nat):Int) by omega]
 have hst1:2≤j+2:=by omega
 have hst2:j+2≤8:=by omega
 generalize j+2=st at hst1 hst2 ⊢
 rcases u4 with ⟨hrz,rfl⟩|⟨ws,L,hL0,rfl,hrw,hrL,hrr,hC⟩
 ·have hz:rows.length=0:=by rw [hrz];rfl
  refine jX 2 40 (d:=17) (by repeat(first|exact ac|refine ab (by omega) ?_)) rfl ?_
  refine bv (α:=Nat×Nat×List (Int×Int)) (fun x=> [(0,.ptr b 0),(1,.ptr h 0),(5,.ptr nx 0),(6,.sc (.bool false)),(7,dy),(9,.sc (.int .i64 puts)),(17,.slu x.2.1 0 x.2.2.length),(18,.sc (.int .i64 (st:Int))),(19,.sc (.int .i64 (x.1:Int)))])
   (fun x H8 n8=>x.2.2.length≤x.1∧x.1≤rows.length+8∧n1≤x.2.1∧x.2.1<n8∧H8.at' x.2.1=some (pb x.2.2)∧ ∀ m,m<n1→H8.at' m=H1.at' m) (fun x=>rows.length+8-x.1) (st-1,n1,[]) ⟨HT _,by dsimp only;omega,HS _,Nat.lt_succ_self _,ah _ _ _,fun m hm=>by(repeat(refine ab (by omega) ?_));rfl⟩ (JN (JQ rfl)) ?_
  rintro⟨i,rp,l⟩ H8 n8 ⟨i1,i2,i3,i4,kr,kF⟩ ih
  dsimp only at i1 i2 i3 i4 kr kF ⊢
  have kA:H8.at' nx=some (te x):=(kF nx (by omega)).trans c1
  have kb:H8.at' b=some (cX mem left puts):=(kF b (by omega)).trans cb
  have kh:H8.at' h=some (hpO (dk mem)):=(kF h (by omega)).trans ch
  have ko: ∀ m,m<nx→H8.at' m=H.at' m:=fun m hm=>(kF m (by omega)).trans (co m hm)
  repeat first|refine cc (jw (F.un _ rfl) rfl) rfl rfl rfl ?_|apply aj;rfl
  refine bi rfl rfl rfl rfl (fun e=>absurd e (by omega)) (fun _=>?_)
  repeat first|apply aj;rfl|apply cw;rfl|apply aG;rfl;assumption;rfl
  cases hod:x.1.odd with
  | false=>
    repeat apply aj;rfl
    refine aL rfl rfl rfl (by kernel_rfl) (JG (AH (b:=b) (r:=rp) (l:=l) (mem:=mem) (left:=left) (puts:=puts) kb hv.len kr (by omega) (by omega) hv.good (by omega) (by omega)) ?_)
    rintro⟨_,H2,n2⟩ ⟨rfl,d2,d3,d4⟩
    rw [iu _ _ _ _ hl.2] at d2 ⊢
    dsimp only at d2 d3 d4 ⊢
    have hif:=qE (fR (az mem) l).1
    rw [hif]
    have e1:H2.at' rp=some (pb l):=(d4 _ (by omega) (by omega)).trans kr
    have e2:H2.at' h=some (hpO (dk mem)):=(d4 _ (by omega) (Ne.symm hne)).trans kh
    have e3: ∀ m,m<nx→m≠b→H2.at' m=H.at' m:=fun m hm hmb=>(d4 _ (by omega) hmb).trans (ko m hm)
    have hc:=lL (az mem) l
    have hdI:fR (dfH (dk mem)) l=fR (az mem) l:=nz (fun n a b=>fh hv a b) _
    have htc:=qb hv (l:=l)
    have hgd:=kg hv (l:=l)
    have hle:=qh (pf:=az mem) (l:=l)
    generalize fR (az mem) l=I at hc hdI hgd hle htc d2 ⊢
    obtain⟨hv2,hdoc2⟩:=og hv hgd
    repeat apply aj;rfl
    refine aL rfl rfl rfl (by kernel_rfl) (JG (qi (hb:=h) (r:=rp) (l:=l) (hm:=dk mem) e2 (dh hv.len) e1 (by omega) (by omega) (fun n a c=>by rw [fh hv a c];exact hv.good n a c)) ?_)
    rintro⟨_,H3,n3⟩ ⟨rfl,f2,f3,f4⟩
    dsimp only at f2 f3 f4 ⊢
    rw [hdI] at f2 ⊢
    rw [← hdoc2] at f2
    have g2:H3.at' b=some (cX (oh mem I.2) (left-I.2.length) (puts+I.2.length)):=(f4 _ (by omega) hne).trans d2
    have g3: ∀ m,m<nx→m≠b→m≠h→H3.at' m=H.at' m:=fun m hm hmb hmh=>(f4 _ (by omega) hmh).trans (e3 m hm hmb)
    clear d4 f4
    rcases hc with ⟨hc1,hc2⟩|hc1
    ·rw [hc2] at g2
     repeat first|refine cV rfl rfl rfl (F.ag _ rfl) g2 (dp (by rw [← hc2];exact hv2.len) _ _) ?_|apply ii;rfl;omega|apply dH;rfl;rfl|refine cF rfl rfl rfl rfl (fun _=>?_) (fun e=>absurd (by simp) e)|apply aj;rfl
     (apply bP Tryz.func9 Tryz.results9;rfl)
     rw [← hc2] at g2
     exact⟨rfl,_,_,_,g2,f2,hv2,⟨by omega,by omega⟩,⟨by omega,by omega⟩,by first|omega|(dsimp only;omega),g3,htc⟩
    ·repeat first|apply dH;rfl;rfl|apply dH;rfl;omega|apply aj;rfl
     (apply bP Tryz.func9 Tryz.results9;rfl)
     exact⟨rfl,_,_,_,g2,f2,hv2,⟨by omega,by omega⟩,⟨by omega,by omega⟩,by first|omega|(dsimp only;omega),g3,htc⟩
  | true=>
    repeat first|refine dG rfl rfl rfl (F.ag _ rfl) kA (iD x) ?_|apply bB;rfl;rfl;exact(F.un _ rfl);exact(F.sz _ rfl);rfl;exact(F.ze _ rfl);rfl;rfl;rfl;rfl;rfl|apply aj;rfl
    refine lC (b:=16) (xs:=l) (a:=x.1.tid) rfl rfl rfl rfl (F.un _ rfl) (.inl ⟨_,F.un _ rfl⟩) (F.sz _ rfl) rfl (by kernel_rfl) (by kernel_rfl) (by repeat(first|assumption|refine ab (by omega) ?_)) (by repeat(exact ac)) (by rfl) (tC) (by omega) (by omega) ?_
    refine cL (R:=fun HC nC=>nC=n8+1+1∧HC.at' (n8+1)=some (pb (l ++ [x.1.tid]))∧HC.at' b=some (cX mem left puts)∧HC.at' h=some (hpO (dk mem))∧ ∀ m,m<nx→HC.at' m=H.at' m) ⟨rfl,by repeat(exact ac),by(repeat(first|refine ab (by omega) ?_|refine bX (by omega) ?_));exact kb,by(repeat(first|refine ab (by omega) ?_|refine bX (by omega) ?_));exact kh,fun m hm=>by(repeat(first|refine ab (by omega) ?_|refine bX (by omega) ?_));exact ko m hm⟩ ?_
    rintro HC nC ⟨rfl,t1,t2,t3,t4⟩
    repeat apply aj;rfl
    refine aL rfl rfl rfl (by kernel_rfl) (JG (AH (b:=b) (r:=(n8+1)) (l:=(l ++ [x.1.tid])) (mem:=mem) (left:=left) (puts:=puts) t2 hv.len t1 (by omega) (by rw [HW,List.length_singleton];omega) hv.good (by omega) (by omega)) ?_)
    rintro⟨_,H2,n2⟩ ⟨rfl,d2,d3,d4⟩
    rw [iu _ _ _ _ hl.2] at d2 ⊢
    dsimp only at d2 d3 d4 ⊢
    have hif:=qE (fR (az mem) (l ++ [x.1.tid])).1
    rw [hif]
    have e1:H2.at' (n8+1)=some (pb (l ++ [x.1.tid])):=(d4 _ (by omega) (by omega)).trans t1
    have e2:H2.at' h=some (hpO (dk mem)):=(d4 _ (by omega) (Ne.symm hne)).trans t3
    have e3: ∀ m,m<nx→m≠b→H2.at' m=H.at' m:=fun m hm hmb=>(d4 _ (by omega) hmb).trans (t4 m hm)
    have hc:=lL (az mem) (l ++ [x.1.tid])
    have hdI:fR (dfH (dk mem)) (l ++ [x.1.tid])=fR (az mem) (l ++ [x.1.tid]):=nz (fun n a b=>fh hv a b) _
    have htc:=qb hv (l:=(l ++ [x.1.tid]))
    have hgd:=kg hv (l:=(l ++ [x.1.tid]))
    have hle:=qh (pf:=az mem) (l:=(l ++ [x.1.tid]))
    generalize fR (az mem) (l ++ [x.1.tid])=I at hc hdI hgd hle htc d2 ⊢
    obtain⟨hv2,hdoc2⟩:=og hv hgd
    repeat apply aj;rfl
    refine aL rfl rfl rfl (by kernel_rfl) (JG (qi (hb:=h) (r:=(n8+1)) (l:=(l ++ [x.1.tid])) (hm:=dk mem) e2 (dh hv.len) e1 (by omega) (by rw [HW,List.length_singleton];omega) (fun n a c=>by rw [fh hv a c];exact hv.good n a c)) ?_)
    rintro⟨_,H3,n3⟩ ⟨rfl,f2,f3,f4⟩
    dsimp only at f2 f3 f4 ⊢
    rw [hdI] at f2 ⊢
    rw [← hdoc2] at f2
    have g2:H3.at' b=some (cX (oh mem I.2) (left-I.2.length) (puts+I.2.length)):=(f4 _ (by omega) hne).trans d2
    have g3: ∀ m,m<nx→m≠b→m≠h→H3.at' m=H.at' m:=fun m hm hmb hmh=>(f4 _ (by omega) hmh).trans (e3 m hm hmb)
    clear d4 f4
    rcases hc with ⟨hc1,hc2⟩|hc1
    ·rw [hc2] at g2
     repeat first|refine cV rfl rfl rfl (F.ag _ rfl) g2 (dp (by rw [← hc2];exact hv2.len) _ _) ?_|apply ii;rfl;omega|apply dH;rfl;rfl|refine cF rfl rfl rfl rfl (fun _=>?_) (fun e=>absurd (by simp) e)|apply aj;rfl
     (apply bP Tryz.func9 Tryz.results9;rfl)
     rw [← hc2] at g2
     exact⟨rfl,_,_,_,g2,f2,hv2,⟨by omega,by omega⟩,⟨by omega,by omega⟩,by first|omega|(dsimp only;omega),g3,htc⟩
    ·repeat first|apply dH;rfl;rfl|apply dH;rfl;omega|apply aj;rfl
     (apply bP Tryz.func9 Tryz.results9;rfl)
     exact⟨rfl,_,_,_,g2,f2,hv2,⟨by omega,by omega⟩,⟨by omega,by omega⟩,by first|omega|(dsimp only;omega),g3,htc⟩
 ·skip
  refine jX 2 40 (d:=17) (by repeat(first|exact ac|refine ab (by omega) ?_)) rfl ?_
  refine bv (α:=Nat×Nat×List (Int×Int)) (fun x=> [(0,.ptr b 0),(1,.ptr h 0),(5,.ptr nx 0),(6,.sc (.bool false)),(7,.slu rr 0 rows.length),(9,.sc (.int .i64 puts)),(17,.slu x.2.1 0 x.2.2.length),(18,.sc (.int .i64 (st:Int))),(19,.sc (.int .i64 (x.1:Int)))])
   (fun x H8 n8=>x.2.2.length≤x.1∧x.1≤rows.length+8∧n1≤x.2.1∧x.2.1<n8∧H8.at' x.2.1=some (pb x.2.2)∧ ∀ m,m<n1→H8.at' m=H1.at' m) (fun x=>rows.length+8-x.1) (st-1,n1,[]) ⟨HT _,by dsimp only;omega,HS _,Nat.lt_succ_self _,ah _ _ _,fun m hm=>by(repeat(refine ab (by omega) ?_));rfl⟩ (JN (JQ rfl)) ?_
  rintro⟨i,rp,l⟩ H8 n8 ⟨i1,i2,i3,i4,kr,kF⟩ ih
  dsimp only at i1 i2 i3 i4 kr kF ⊢
  have kA:H8.at' nx=some (te x):=(kF nx (by omega)).trans c1
  have kb:H8.at' b=some (cX mem left puts):=(kF b (by omega)).trans cb
  have kh:H8.at' h=some (hpO (dk mem)):=(kF h (by omega)).trans ch
  have ko: ∀ m,m<nx→H8.at' m=H.at' m:=fun m hm=>(kF m (by omega)).trans (co m hm)
  repeat apply aj;rfl
  refine bi rfl rfl rfl rfl (fun h5=>?_) (fun h5=>?_)
  ·have hi:i<rows.length:=by omega
   obtain⟨a1,a2,ra,_,x1,x2,x3,x4⟩:=hC.cells hi
   have hrw8:H8.at' rr=some (nn false rows.length 6 67 ws):=(kF rr (by omega)).trans hrw
   repeat first|refine dw (q:=i) rfl rfl rfl rfl (F.un _ rfl) (F.sz _ rfl) hrw8 (by omega) (by omega) (HS _) ?_|refine dG rfl rfl rfl (F.ag _ rfl) hrw8 x3 ?_|apply bB;rfl;rfl;exact(F.un _ rfl);exact(F.sz _ rfl);rfl;exact(F.ze _ rfl);rfl;rfl;rfl;rfl;rfl|apply aj;rfl
   refine lC (b:=16) (xs:=l) (a:=(((rows[i]).1.1:Int),((rows[i]).1.2:Int))) rfl rfl rfl rfl (F.un _ rfl) (.inl ⟨_,F.un _ rfl⟩) (F.sz _ rfl) rfl (by kernel_rfl) (by kernel_rfl) (by repeat(first|assumption|refine ab (by omega) ?_)) (by repeat(exact ac)) (by rfl) (tC) (by omega) (by omega) ?_
   repeat first|apply aj;rfl|apply aK;rfl;omega;omega
   exact ih _ _ _ (i+st,n8+1,l ++ [(((rows[i]).1.1:Int),((rows[i]).1.2:Int))]) ⟨by rw [HW,List.length_singleton];dsimp only;omega,by dsimp only;omega,by dsimp only;omega,by first|omega|(dsimp only;omega),by repeat(exact ac),fun m hm=>by(repeat(first|refine ab (by omega) ?_|refine bX (by omega) ?_));exact kF m hm⟩ (by dsimp only;omega) (JN (JQ rfl))
  ·skip
   repeat first|apply aj;rfl|apply cw;rfl|apply aG;rfl;assumption;rfl
   cases hod:x.1.odd with
   | false=>
     repeat apply aj;rfl
     refine aL rfl rfl rfl (by kernel_rfl) (JG (AH (b:=b) (r:=rp) (l:=l) (mem:=mem) (left:=left) (puts:=puts) kb hv.len kr (by omega) (by omega) hv.good (by omega) (by omega)) ?_)
     rintro⟨_,H2,n2⟩ ⟨rfl,d2,d3,d4⟩
     rw [iu _ _ _ _ hl.2] at d2 ⊢
     dsimp only at d2 d3 d4 ⊢
     have hif:=qE (fR (az mem) l).1
     rw [hif]
     have e1:H2.at' rp=some (pb l):=(d4 _ (by omega) (by omega)).trans kr
     have e2:H2.at' h=some (hpO (dk mem)):=(d4 _ (by omega) (Ne.symm hne)).trans kh
     have e3: ∀ m,m<nx→m≠b→H2.at' m=H.at' m:=fun m hm hmb=>(d4 _ (by omega) hmb).trans (ko m hm)
     have hc:=lL (az mem) l
     have hdI:fR (dfH (dk mem)) l=fR (az mem) l:=nz (fun n a b=>fh hv a b) _
     have htc:=qb hv (l:=l)
     have hgd:=kg hv (l:=l)
     have hle:=qh (pf:=az mem) (l:=l)
     generalize fR (az mem) l=I at hc hdI hgd hle htc d2 ⊢
     obtain⟨hv2,hdoc2⟩:=og hv hgd
     repeat apply aj;rfl
     refine aL rfl rfl rfl (by kernel_rfl) (JG (qi (hb:=h) (r:=rp) (l:=l) (hm:=dk mem) e2 (dh hv.len) e1 (by omega) (by omega) (fun n a c=>by rw [fh hv a c];exact hv.good n a c)) ?_)
     rintro⟨_,H3,n3⟩ ⟨rfl,f2,f3,f4⟩
     dsimp only at f2 f3 f4 ⊢
     rw [hdI] at f2 ⊢
     rw [← hdoc2] at f2
     have g2:H3.at' b=some (cX (oh mem I.2) (left-I.2.length) (puts+I.2.length)):=(f4 _ (by omega) hne).trans d2
     have g3: ∀ m,m<nx→m≠b→m≠h→H3.at' m=H.at' m:=fun m hm hmb hmh=>(f4 _ (by omega) hmh).trans (e3 m hm hmb)
     clear d4 f4
     rcases hc with ⟨hc1,hc2⟩|hc1
     ·rw [hc2] at g2
      repeat first|refine cV rfl rfl rfl (F.ag _ rfl) g2 (dp (by rw [← hc2];exact hv2.len) _ _) ?_|apply ii;rfl;omega|apply dH;rfl;rfl|refine cF rfl rfl rfl rfl (fun _=>?_) (fun e=>absurd (by simp) e)|apply aj;rfl
      (apply bP Tryz.func9 Tryz.results9;rfl)
      rw [← hc2] at g2
      exact⟨rfl,_,_,_,g2,f2,hv2,⟨by omega,by omega⟩,⟨by omega,by omega⟩,by first|omega|(dsimp only;omega),g3,htc⟩
     ·repeat first|apply dH;rfl;rfl|apply dH;rfl;omega|apply aj;rfl
      (apply bP Tryz.func9 Tryz.results9;rfl)
      exact⟨rfl,_,_,_,g2,f2,hv2,⟨by omega,by omega⟩,⟨by omega,by omega⟩,by first|omega|(dsimp only;omega),g3,htc⟩
   | true=>
     repeat first|refine dG rfl rfl rfl (F.ag _ rfl) kA (iD x) ?_|apply bB;rfl;rfl;exact(F.un _ rfl);exact(F.sz _ rfl);rfl;exact(F.ze _ rfl);rfl;rfl;rfl;rfl;rfl|apply aj;rfl
     refine lC (b:=16) (xs:=l) (a:=x.1.tid) rfl rfl rfl rfl (F.un _ rfl) (.inl ⟨_,F.un _ rfl⟩) (F.sz _ rfl) rfl (by kernel_rfl) (by kernel_rfl) (by repeat(first|assumption|refine ab (by omega) ?_)) (by repeat(exact ac)) (by rfl) (tC) (by omega) (by omega) ?_
     refine cL (R:=fun HC nC=>nC=n8+1+1∧HC.at' (n8+1)=some (pb (l ++ [x.1.tid]))∧HC.at' b=some (cX mem left puts)∧HC.at' h=some (hpO (dk mem))∧ ∀ m,m<nx→HC.at' m=H.at' m) ⟨rfl,by repeat(exact ac),by(repeat(first|refine ab (by omega) ?_|refine bX (by omega) ?_));exact kb,by(repeat(first|refine ab (by omega) ?_|refine bX (by omega) ?_));exact kh,fun m hm=>by(repeat(first|refine ab (by omega) ?_|refine bX (by omega) ?_));exact ko m hm⟩ ?_
     rintro HC nC ⟨rfl,t1,t2,t3,t4⟩
     repeat apply aj;rfl
     refine aL rfl rfl rfl (by kernel_rfl) (JG (AH (b:=b) (r:=(n8+1)) (l:=(l ++ [x.1.tid])) (mem:=mem) (left:=left) (puts:=puts) t2 hv.len t1 (by omega) (by rw [HW,List.length_singleton];omega) hv.good (by omega) (by omega)) ?_)
     rintro⟨_,H2,n2⟩ ⟨rfl,d2,d3,d4⟩
     rw [iu _ _ _ _ hl.2] at d2 ⊢
     dsimp only at d2 d3 d4 ⊢
     have hif:=qE (fR (az mem) (l ++ [x.1.tid])).1
     rw [hif]
     have e1:H2.at' (n8+1)=some (pb (l ++ [x.1.tid])):=(d4 _ (by omega) (by omega)).trans t1
     have e2:H2.at' h=some (hpO (dk mem)):=(d4 _ (by omega) (Ne.symm hne)).trans t3
     have e3: ∀ m,m<nx→m≠b→H2.at' m=H.at' m:=fun m hm hmb=>(d4 _ (by omega) hmb).trans (t4 m hm)
     have hc:=lL (az mem) (l ++ [x.1.tid])
     have hdI:fR (dfH (dk mem)) (l ++ [x.1.tid])=fR (az mem) (l ++ [x.1.tid]):=nz (fun n a b=>fh hv a b) _
     have htc:=qb hv (l:=(l ++ [x.1.tid]))
     have hgd:=kg hv (l:=(l ++ [x.1.tid]))
     have hle:=qh (pf:=az mem) (l:=(l ++ [x.1.tid]))
     generalize fR (az mem) (l ++ [x.1.tid])=I at hc hdI hgd hle htc d2 ⊢
     obtain⟨hv2,hdoc2⟩:=og hv hgd
     repeat apply aj;rfl
     refine aL rfl rfl rfl (by kernel_rfl) (JG (qi (hb:=h) (r:=(n8+1)) (l:=(l ++ [x.1.tid])) (hm:=dk mem) e2 (dh hv.len) e1 (by omega) (by rw [HW,List.length_singleton];omega) (fun n a c=>by rw [fh hv a c];exact hv.good n a c)) ?_)
     rintro⟨_,H3,n3⟩ ⟨rfl,f2,f3,f4⟩
     dsimp only at f2 f3 f4 ⊢
     rw [hdI] at f2 ⊢
     rw [← hdoc2] at f2
     have g2:H3.at' b=some (cX (oh mem I.2) (left-I.2.length) (puts+I.2.length)):=(f4 _ (by omega) hne).trans d2
     have g3: ∀ m,m<nx→m≠b→m≠h→H3.at' m=H.at' m:=fun m hm hmb hmh=>(f4 _ (by omega) hmh).trans (e3 m hm hmb)
     clear d4 f4
     rcases hc with ⟨hc1,hc2⟩|hc1
     ·rw [hc2] at g2
      repeat first|refine cV rfl rfl rfl (F.ag _ rfl) g2 (dp (by rw [← hc2];exact hv2.len) _ _) ?_|apply ii;rfl;omega|apply dH;rfl;rfl|refine cF rfl rfl rfl rfl (fun _=>?_) (fun e=>absurd (by simp) e)|apply aj;rfl
      (apply bP Tryz.func9 Tryz.results9;rfl)
      rw [← hc2] at g2
      exact⟨rfl,_,_,_,g2,f2,hv2,⟨by omega,by omega⟩,⟨by omega,by omega⟩,by first|omega|(dsimp only;omega),g3,htc⟩
     ·repeat first|apply dH;rfl;rfl|apply dH;rfl;omega|apply aj;rfl
      (apply bP Tryz.func9 Tryz.results9;rfl)
      exact⟨rfl,_,_,_,g2,f2,hv2,⟨by omega,by omega⟩,⟨by omega,by omega⟩,by first|omega|(dsimp only;omega),g3,htc⟩
theorem do_s{h:Nat}{x:nP}(hb:H.at' b=some (cX mem left puts))(hh:H.at' h=some (hpO (dk mem)))(hne:b≠h)(hv:Hv mem)(hx:Ae H nx b h x)(hl : -900000≤left∧left<0)(hp:0≤puts∧puts≤900000):Fnc Tryz.prog 9 [.ptr b 0,.ptr h 0,.agg (re x)] H nx (pY H nx b h mem left puts):=by
 have hx0:=hx H fun _ _ _ _=>rfl
 by_cases h1:x.1.kind=1
 ·exact do1_s hb hh hne hv hx h1 ⟨by omega,hl.2⟩ ⟨hp.1,by omega⟩
 by_cases h2:x.1.kind=2
 ·exact do2_s hb hh hne hv hx h2 ⟨by omega,hl.2⟩ ⟨hp.1,by omega⟩
 by_cases h3:x.1.kind=3
 ·exact do3_s hb hh hne hv hx h3 hl hp
 by_cases h4:x.1.kind=4
 ·exact do4_s hb hh hv hx0 h4
 ·exact do0_s hb hh hv hx0 ⟨h1,h2,h3,h4⟩
end
end Go.Proofs.YtnhmbonmlfeifaaGreat
end
