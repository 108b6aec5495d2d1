import Derived.Test.YtnhmbonmlfeifaaGreatY7
set_option linter.unusedVariables false
set_option linter.unusedSimpArgs false
set_option maxRecDepth 100000
set_option maxHeartbeats 0
section
namespace Go.Proofs.YtnhmbonmlfeifaaGreat
open Go Go.Sy Go.Sl Go.RowKit
theorem pV: ∀ {a b:List Int},a.Pairwise (·< ·)→b.Pairwise (·< ·)→(∀ x,x∈a↔x∈b)→a=b
 | [],[],_,_,_=>rfl
 | [],y :: b,_,_,h=>absurd ((h y).2 Ki) (by simp)
 | x :: a,[],_,_,h=>absurd ((h x).1 Ki) (by simp)
 | x :: a,y :: b,ha,hb,h=>by
   rw [List.pairwise_cons] at ha hb
   have hxy:x=y:=by
    rcases Kp.1 ((h x).1 Ki)with h1|h1
    ·exact h1
    ·rcases Kp.1 ((h y).2 Ki)with h2|h2
     ·exact h2.symm
     ·have:=hb.1 x h1
      have:=ha.1 y h2
      omega
   subst hxy
   congr 1
   refine pV ha.2 hb.2 fun z=>?_
   constructor
   ·intro hz
    rcases Kp.1 ((h z).1 (Kj _ hz))with h1|h1
    ·have:=ha.1 z hz
     omega
    ·exact h1
   ·intro hz
    rcases Kp.1 ((h z).2 (Kj _ hz))with h1|h1
    ·have:=hb.1 z hz
     omega
    ·exact h1
theorem xW{l:List (Int×Int)}(hM:uf l){ks K:List Int}(hp:ks.Perm K)(hn:K.Nodup)(hs:ks.Pairwise (fun x y=>bq y x=false))(hk: ∀ n,n∈K↔ ∃ t∈l,t.1=n):ks=jV (dE l):=by
 refine pV ?_ ?_ fun x=>?_
 ·have h1:ks.Nodup:=hp.nodup_iff.2 hn
  refine(List.pairwise_and_iff.2 ⟨hs,h1⟩).imp fun {a b} h=>?_
  have h2:=of_decide_eq_false h.1
  have h3:=h.2
  omega
 ·rw [List.pairwise_map]
  exact(lz l).imp fun h=>by omega
 ·rw [hp.mem_iff,hk]
  constructor
  ·rintro⟨t,ht,rfl⟩
   have h2:=Km (hM.1 t ht)
   have h3:(((t.1.toNat:Nat):Int),((t.2.toNat:Nat):Int))=t:=Prod.ext (by dsimp only;omega) (by dsimp only;omega)
   have h4:t.2.toNat∈aN l t.1.toNat:=(gK hM.1).2 (by rw [h3];exact ht)
   exact Kx.2 ⟨t.1.toNat,eg.2 ⟨by omega,by omega,fun e=>by rw [e] at h4;cases h4⟩,by omega⟩
  ·intro h
   obtain⟨n,hn,rfl⟩:=Kx.1 h
   obtain⟨_,_,h3⟩:=eg.1 hn
   obtain⟨k,hk⟩:=List.exists_mem_of_ne_nil _ h3
   exact⟨_,(gK hM.1).1 hk,rfl⟩
theorem za{l:List (Int×Int)}(hl: ∀ t∈l,lQ t.1 t.2=true)(n:Nat):jB l (n:Int)=jV (aN l n):=by
 unfold jB aN
 rw [jV,List.map_map]
 refine List.map_congr_left fun t ht=>?_
 have h2:=Km (hl t (List.mem_filter.1 ht).1)
 show t.2=((t.2.toNat:Nat):Int)
 omega
def y7(S:List Nat):List Nat:=(ia (jV S)).map Int.toNat
theorem Bt(S:List Nat):jV (y7 S)=ia (jV S):=by
 unfold y7
 rw [jV,List.map_map]
 conv=>rhs;rw [← List.map_id (ia (jV S))]
 refine List.map_congr_left fun x hx=>?_
 have h:=(fV (jV S)).1.mem_iff.1 hx
 obtain⟨n,_,rfl⟩:=Kx.1 h
 show((Int.toNat (n:Int):Nat):Int)=(n:Int)
 omega
theorem gD(S:List Nat):(y7 S).Perm S:=by
 have h:=((fV (jV S)).1).map Int.toNat
 refine h.trans (List.Perm.of_eq ?_)
 rw [jV,List.map_map]
 conv=>rhs;rw [← List.map_id S]
 exact List.map_congr_left fun x _=>Ks x
theorem qu{p:List UInt8}(h:Okp p){S:List Nat}(hS:S.Nodup):r9 (y7 S) p=if(∀ k∈S,lB p k=true) then(rS p S,0) else(zeroP,6):=by
 rw [Bg h ((gD S).nodup_iff.2 hS)]
 by_cases hh: ∀ k∈S,lB p k=true
 ·have h2: ∀ k∈y7 S,lB p k=true:=fun k hk=>hh k ((gD S).mem_iff.1 hk)
  rw [Kb hh,Kb h2]
  have hH:Has p (y7 S):=⟨(gD S).nodup_iff.2 hS,fun n hn=>by
   have:=h2 n hn
   unfold lB at this
   simp at this
   exact this⟩
  rw [AK h hH (gD S)]
 ·have h2: ¬ ∀ k∈y7 S,lB p k=true:=fun h3=>hh fun k hk=>h3 k ((gD S).mem_iff.2 hk)
  rw [Ka hh,Ka h2]
def Ji(x:List UInt8):List UInt8:=if x.length=1024 then x else zeroP
theorem Ci(x:List UInt8):(Ji x).length=1024:=by
 unfold Ji
 split
 ·assumption
 ·exact aj
theorem AC{x:List UInt8}(h:x.length=1024):Ji x=x:=Kb h
abbrev pgV(x:List UInt8):List Value:=byV (Ji x)
theorem Em(x:List UInt8):(pgV x).length=1024:=by rw [Kf,Ci]
theorem zJ:RecOf pgV 1024:=⟨Em,fun s v hv=>by
 obtain⟨n,_,rfl⟩:=Kx.1 hv
 rfl⟩
abbrev pgR(l:List (List UInt8)):VO:=dat false l.length 1024 27 (l.flatMap pgV)
theorem wI{A:Type}{f:A→List Value}{sz:Nat}(hf:RecOf f sz): ∀ (l:List A) (i:Nat) (hi:i<l.length),((l.flatMap f).drop (i*sz)).take sz=f l[i]
 | [],i,hi=>absurd hi (Nat.not_lt_zero _)
 | x :: l,0,_=>by
   rw [List.flatMap_cons,Nat.zero_mul,List.drop_zero]
   exact List.take_left' (hf.len x)
 | x :: l,i+1,hi=>by
   rw [List.flatMap_cons,Nat.succ_mul,Nat.add_comm,←List.drop_drop,List.drop_left' (hf.len x)]
   exact wI hf l i (Nat.lt_of_succ_lt_succ hi)
theorem zK{l:List (List UInt8)}{i:Nat}(hi:i<l.length)(h:(l[i]).length=1024):(pgR l).cellsFrom (i*1024) 1024=some (pgS l[i]):=by
 rw [pgR,←ij]
 refine dS 1024 (i*1024) _ ?_ (bh h) (by omega)
 rw [← List.map_drop,←List.map_take,wI zJ l i hi,pgV,AC h]
theorem zPgV:dZ Tryz.prog 27=some (.agg (List.replicate 1024 (Value.int .u8 0)).toArray):=by kernel_rfl
theorem EX{zs:List SV}(hz:zs.length=1024){p:List UInt8}(hp:p.length=1024):lg (fun i=>some (i*1024,1024)) zs [(0,.agg (pgS p))]=some (pgS p):=by
 have hl:(pgS p).length=1024:=by rw [Kf,Kf,hp]
 rw [wN (off:=0) (size:=1024) (vc:=pgS p) rfl rfl hl (by omega)]
 rw [List.take_zero,List.nil_append,List.drop_of_length_le (by omega),Ko]
structure Hv (mem:List UInt8):Prop where
 len:mem.length=131072
 good: ∀ n,32≤n→n<128→GoodP (az mem n)
 low: ∀ n,n<32→az mem n=zeroP
section
variable {n:Nat}{mem:List UInt8}
abbrev cK(mem:List UInt8):List UInt8:=mem.drop 32768
theorem cx(h:mem.length=131072):(cK mem).length=98304:=by rw [Kh,h]
theorem tJ(h:32≤n):az (cK mem) (n-32)=az mem n:=by
 unfold az
 rw [List.drop_drop,show 32768+1024*(n-32)=1024*n by omega]
theorem fC(h:Hv mem)(h1:32≤n)(h2:n<128):dfH (cK mem) n=az mem n:=by
 unfold dfH
 rw [tJ h1]
 exact(h.good n h1 h2).bareP
theorem kR{x:List UInt8}(hm:mem.length=131072)(h1:32≤n)(h2:n<128)(hx:x.length=1024):cK (fx mem n x)=fx (cK mem) (n-32) x:=by
 unfold cK fx bg
 have e1:(mem.take (1024*n)).length=1024*n:=by rw [Ke,hm];omega
 rw [Kl,List.drop_append_of_le_length (by omega),List.drop_take,hx,List.drop_drop,←Kl]
 rw [show 1024*n-32768=1024*(n-32) by omega,show 32768+(1024*(n-32)+1024)=1024*n+1024 by omega]
theorem Hv.set{x:List UInt8}(h:Hv mem)(h1:32≤n)(h2:n<128)(hx:GoodP x):Hv (fx mem n x):=
 ⟨kI h.len h2 hx.len,fun k a b=>by
   rw [iL (by rw [h.len];omega) hx.len]
   split
   ·exact hx
   ·exact h.good k a b,fun k hk=>by
   rw [iL (by rw [h.len];omega) hx.len,Ka (by omega)]
   exact h.low k hk⟩
end
section
variable {pf pg:Nat→List UInt8}
theorem tv{it:List UInt8}: ∀ (k n:Nat),(∀ m,n≤m→m<n+k→pf m=pg m)→ci pf it k n=ci pg it k n
 | 0,n,_=>rfl
 | k+1,n,h=>by
   unfold ci
   rw [h n (JZ _) (by omega),tv k (n+1) fun m a b=>h m (by omega) (by omega)]
theorem wy(h: ∀ n,32≤n→n<128→pf n=pg n)(v:gj)(d:Bool):jD pf v d=jD pg v d:=by
 unfold jD
 rw [tv 96 32 fun m a b=>h m a (by omega)]
theorem wn{n k:Int}(h:lQ n k≠false):32≤n.toNat∧n.toNat<128:=by
 have h2:lQ n k=true:=by simpa using h
 have:=Km h2
 omega
theorem wG(h: ∀ n,32≤n→n<128→pf n=pg n)(n k:Int):mn pf n k=mn pg n k:=by
 unfold mn
 by_cases hm:lQ n k=false
 ·rw [Kb hm,Kb hm]
 ·rw [Ka hm,Ka hm,h _ (wn hm).1 (wn hm).2]
theorem rB(h: ∀ n,32≤n→n<128→pf n=pg n)(n k:Int)(x:Nat):kQ pf n k x=kQ pg n k x:=by
 unfold kQ
 by_cases hm:4000<x∨lQ n k=false
 ·rw [Kb hm,Kb hm]
 ·have h2:=wn (fun e=>hm (.inr e))
  have h3:pn pf n.toNat (kc k.toNat x)=pn pg n.toNat (kc k.toNat x):=by
   unfold pn
   rw [h _ h2.1 h2.2]
  rw [Ka hm,Ka hm,h3]
theorem nT(h: ∀ n,32≤n→n<128→pf n=pg n)(l:List (Int×Int)):gh pf l=gh pg l:=by
 unfold gh
 by_cases hm:uf l
 ·have h1:ml pf l↔ml pg l:=by
   unfold ml
   refine forall_congr' fun t=>forall_congr' fun ht=>?_
   have h2:=Km (hm.1 t ht)
   rw [h t.1.toNat (by omega) (by omega)]
  have h2:((dE l).map fun n=>(n,rS (aM (pf n)).1 (aN l n)))=((dE l).map fun n=>(n,rS (aM (pg n)).1 (aN l n))):=by
   refine List.map_congr_left fun n hn=>?_
   obtain⟨a,b,_⟩:=eg.1 hn
   rw [h n a b]
  by_cases h3:ml pf l
  ·rw [Ka (show ¬¬uf l from fun e=>e hm),Ka (show ¬¬ml pf l from fun e=>e h3),Ka (show ¬¬uf l from fun e=>e hm),Ka (show ¬¬ml pg l from fun e=>e (h1.1 h3)),h2]
  ·rw [Ka (show ¬¬uf l from fun e=>e hm),Kb h3,Ka (show ¬¬uf l from fun e=>e hm),Kb (show ¬ml pg l from fun e=>h3 (h1.2 e))]
 ·rw [Kb hm,Kb hm]
theorem tZ: ∀ (k n:Nat),(∀ m,n≤m→m<n+k→pf m=pg m)→gT pf k n=gT pg k n
 | 0,n,_=>rfl
 | k+1,n,h=>by
   unfold gT
   rw [h n (JZ _) (by omega),tZ k (n+1) fun m a b=>h m (by omega) (by omega)]
theorem kY(h: ∀ n,32≤n→n<128→pf n=pg n):pS pf=pS pg:=tZ 96 32 fun m a b=>h m a (by omega)
theorem qd{it:List UInt8}(hit:(ofV it).isSome=true): ∀ (k n:Nat),(∀ m,n≤m→m<n+k→GoodP (pf m))→(ci pf it k n).1=0→GoodP (ci pf it k n).2.2.2
 | 0,n,_,h=>by cases h
 | k+1,n,hG,h=>by
   obtain⟨q,hq,hQ⟩:=(hG n (JZ _) (by omega)).read
   unfold ci at h ⊢
   rw [hq] at h ⊢
   rw [Ka (fun e=>e rfl)] at h ⊢
   dsimp only at h ⊢
   by_cases he:(eW q it).2.2≠0
   ·rw [Kb he] at h ⊢
    exact qd hit k (n+1) (fun m a b=>hG m (by omega) (by omega)) h
   ·rw [Ka he]
    exact .inr (Cf hQ hit (Decidable.not_not.1 he))
end
section
variable {H:au}{v:gj}{x:ol}{b h:Nat}{left:Int}{n nx:Nat}{puts:Int}{mem:List UInt8}{l:List (Int×Int)}
theorem Cb(h:Hv mem){d:Bool}{x:List UInt8}(e:(jD (az mem) v d).2=some (n,x)):32≤n∧n<128∧GoodP x:=by
 unfold jD at e
 by_cases h1:gV v=false
 ·rw [Kb h1] at e
  cases e
 ·rw [Ka h1] at e
  have h1:gV v=true:=by simpa using h1
  by_cases h2:(ci (az mem) (aQ v) 96 32).1≠0
  ·rw [Kb h2] at e
   cases e
  ·rw [Ka h2] at e
   have h2:=Decidable.not_not.1 h2
   by_cases h3:d=true
   ·rw [Kb h3] at e
    cases e
   ·rw [Ka h3] at e
    have hp:=mW (az mem) (aQ v) 96 32 h2
    have hg:=qd (pf:=az mem) (it:=aQ v) (by rw [wa h1];rfl) 96 32 (fun m a b=>h.good m a (by omega)) h2
    cases e
    exact⟨hp.1,by omega,hg⟩
theorem AH{x:Nat}:bg (aQ v) 8 (beB x 8)=aQ (v.1,v.2.1,v.2.2.1,x):=by
 unfold bg aQ
 have e1: ∀ n,(beB n 8).length=8:=fun n=>bz n 8
 rw [List.take_left' (e1 _),e1,←List.drop_drop,List.drop_left' (e1 _),List.drop_left' (e1 _),Kl]
theorem Ck(h:Hv mem){n k:Int}{x m:Nat}{y:List UInt8}(e:(kQ (az mem) n k x).2=some (m,y)):32≤m∧m<128∧GoodP y:=by
 unfold kQ at e
 by_cases h1:4000<x∨lQ n k=false
 ·rw [Kb h1] at e
  cases e
 ·rw [Ka h1] at e
  have h2:=wn (fun e=>h1 (.inr e))
  obtain⟨q,hq,hQ⟩:=(h.good _ h2.1 h2.2).read
  have hc:pn (az mem) n.toNat (kc k.toNat x)=kc k.toNat x q:=by
   unfold pn
   rw [hq,Ka (fun e=>e rfl)]
  rw [hc] at e
  cases hh:lB q k.toNat with
  | false=>
    have hE:kc k.toNat x q=(zeroP,6):=by
     unfold kc
     rw [o5 hh]
     rfl
    rw [hE] at e
    dsimp only at e
    rw [Kb (show(6:Nat)≠0 by decide)] at e
    cases e
  | true=>
    have hE:kc k.toNat x q=(bg q (ay q k.toNat) (bg (aS q k.toNat) 8 (beB x 8)),0):=by
     unfold kc
     rw [ru hh]
     rfl
    rw [hE] at e
    dsimp only at e
    rw [Ka (show ¬((0:Nat)≠0)from fun h=>h rfl)] at e
    cases e
    have h3:=Km hh
    have hs:=hQ.items _ h3.1 h3.2
    obtain⟨v,hv⟩:=Option.isSome_iff_exists.1 hs
    have hb:=Df hv
    have hmv:=uG hv
    have hmv2:=Km hmv
    have hm2:gV (v.1,v.2.1,v.2.2.1,x)=true:=Kt ⟨hmv2.1,hmv2.2.1,hmv2.2.2.1,by dsimp only;omega⟩
    have hle:(aS q k.toNat).length=ar q k.toNat:=dL hQ.ok.len (db hQ.right h3.1 h3.2).2.2.2
    refine⟨h2.1,h2.2,.inr (Cd hQ h3.1 h3.2 ?_ ?_)⟩
    ·rw [hb,AH,←hle,hb,dT,dT]
    ·rw [hb,AH,wa hm2]
     rfl
theorem kK(h:Hv mem): ∀ x∈(gh (az mem) l).2,32≤x.1∧x.1<128∧GoodP x.2:=by
 unfold gh
 by_cases h1:uf l
 ·rw [Ka (fun e=>e h1)]
  by_cases h2:ml (az mem) l
  ·rw [Ka (fun e=>e h2)]
   intro x hx
   obtain⟨n,hn,rfl⟩:=Kx.1 hx
   obtain⟨a,b,_⟩:=eg.1 hn
   refine⟨a,b,.inr ?_⟩
   obtain⟨q,hq,hQ⟩:=(h.good n a b).read
   have hh:=(mj h1).1 h2 n hn
   dsimp only
   rw [hq] at hh ⊢
   exact wD hQ ⟨ft h1 n,fun k hk=>Km (hh k hk)⟩
  ·rw [Kb h2]
   intro x hx
   cases hx
 ·rw [Kb h1]
  intro x hx
  cases hx
def oI(mem:List UInt8)(ps:List (Nat×List UInt8)):List UInt8:=ps.foldl (fun m x=>fx m x.1 x.2) mem
theorem iK: ∀ (ps:List (Nat×List UInt8)) (mem:List UInt8) (left puts:Int),left<0→gi ps mem left puts=(0,oI mem ps,left-ps.length,puts+ps.length)
 | [],mem,left,puts,_=>by simp [gi,oI]
 | (n,x) :: ps,mem,left,puts,h=>by
   show(if left=0 then(8,mem,left,puts) else gi ps (fx mem n x) (left-1) (puts+1))=_
   rw [Ka (by omega),iK ps _ _ _ (by omega)]
   rw [show left-1-(ps.length:Int)=left-(((n,x) :: ps).length:Int) by simp only [J2];omega,show puts+1+(ps.length:Int)=puts+(((n,x) :: ps).length:Int) by simp only [J2];omega]
   rfl
theorem oH: ∀ {ps:List (Nat×List UInt8)} {mem:List UInt8},Hv mem→(∀ x∈ps,32≤x.1∧x.1<128∧GoodP x.2)→Hv (oI mem ps)∧cK (oI mem ps)=jP (cK mem) ps
 | [],mem,h,_=>⟨h,rfl⟩
 | (n,x) :: ps,mem,h,hp=>by
   obtain⟨a,b,g⟩:=hp _ Ki
   have ih:=oH (ps:=ps) (h.set a b g) fun y hy=>hp y (Kj _ hy)
   refine⟨ih.1,ih.2.trans ?_⟩
   rw [kR h.len a b g.len]
   rfl
theorem qH{pf:Nat→List UInt8}:(gh pf l).2.length≤96:=by
 have hl:(dE l).length≤96:=by
  unfold dE
  refine J7 (List.length_filter_le _ _) ?_
  simp
 unfold gh
 split
 ·exact J0 _
 ·split
  ·exact J0 _
  ·rw [Kf]
   exact hl
theorem nU{p:List UInt8}(h:(aM (bareP p)).2=0):sE p=((aM (bareP p)).1,true):=Kb h
theorem vO{p:List UInt8}(h:(aM (bareP p)).2≠0):sE p=(bareP p,false):=Ka h
theorem oY{hb:Nat}{n k:Int}{hm:List UInt8}(hH:H.at' hb=some (hpO hm))(hl:hm.length=98304):Fnc Tryz.prog 16 [.ptr hb 0,xA (n,k)] H nx
 (fun q=> ∃ s' r,q.1 = .tup [s',.sc (.int .i64 ((mn (dfH hm) n k).2:Int))]∧VerAt q.2.1 s' r (mn (dfH hm) n k).1∧nx≤r∧nx≤q.2.2∧ ∀ m,m<nx→q.2.1.at' m=H.at' m):=by
 refine KE Tryz.func16 rfl rfl ?_
 refine aV fun hund=>?_
 have lH:=hund _ _ hH
 repeat first|apply ah;rfl|apply aG;rfl;(focus((repeat(first|exact ac|refine ab (by omega) ?_));done));rfl
 cases hmay:lQ n k with
 | false=>
   have hg:mn (dfH hm) n k=(iY,2):=by unfold mn;rw [Kb hmay]
   have hmd:=of_decide_eq_false hmay
   rw [hg]
   refine cQ (R:=fun H1 n1=>n1=nx+1+1∧H1.at' nx=some (dJ n k)∧H1.at' (nx+1)=some (ez (dB dK dK 0 0))∧ ∀ m,m<nx→H1.at' m=H.at' m) ⟨rfl,by repeat(first|exact ac|refine ab (by omega) ?_),by repeat(exact ac),fun m hm=>by(repeat(refine ab (by omega) ?_));rfl⟩ ?_
   rintro H1 n1 ⟨rfl,a1,a2,a3⟩
   by_cases h1:n<32
   ·repeat first|apply pG;rfl;omega|apply ah;rfl|apply aG;rfl;assumption;rfl
    ((apply bw Tryz.func16 (congrArg Array.toList Tryz.results16));(focus(repeat(first|exact KF|apply KH rfl|apply KG rfl (KI (F.ag _ rfl) (by repeat(exact ac)) (ak _ 0 rfl rfl))))))
    exact⟨_,nx,rfl,gy _ nx,JZ _,by dsimp only;omega,fun m hm=>by(repeat(refine ab (by omega) ?_));exact a3 m hm⟩
   ·by_cases h2:127<n
    ·repeat first|apply pG;rfl;omega|apply ll;rfl;omega|apply ah;rfl|apply aG;rfl;assumption;rfl
     ((apply bw Tryz.func16 (congrArg Array.toList Tryz.results16));(focus(repeat(first|exact KF|apply KH rfl|apply KG rfl (KI (F.ag _ rfl) (by repeat(exact ac)) (ak _ 0 rfl rfl))))))
     exact⟨_,nx,rfl,gy _ nx,JZ _,by dsimp only;omega,fun m hm=>by(repeat(refine ab (by omega) ?_));exact a3 m hm⟩
    ·have h3:k<0:=by omega
     repeat first|apply pG;rfl;omega|apply ll;rfl;omega|apply ah;rfl|apply aG;rfl;assumption;rfl
     ((apply bw Tryz.func16 (congrArg Array.toList Tryz.results16));(focus(repeat(first|exact KF|apply KH rfl|apply KG rfl (KI (F.ag _ rfl) (by repeat(exact ac)) (ak _ 0 rfl rfl))))))
     exact⟨_,nx,rfl,gy _ nx,JZ _,by dsimp only;omega,fun m hm=>by(repeat(refine ab (by omega) ?_));exact a3 m hm⟩
 | true=>
   have hmd:32≤n∧n<128∧0≤k:=Km hmay
   obtain⟨N,rfl⟩: ∃ N:Nat,n=((32+N:Nat):Int):=⟨(n-32).toNat,by omega⟩
   obtain⟨K,rfl⟩: ∃ K:Nat,k=(K:Int):=⟨k.toNat,by omega⟩
   have hN:N<96:=by omega
   have hdf:dfH hm (32+N)=bareP (az hm N):=by unfold dfH;rw [show 32+N-32=N by omega]
   have hg:mn (dfH hm) ((32+N:Nat):Int) (K:Int)=if(aM (bareP (az hm N))).2≠0 then(iY,(aM (bareP (az hm N))).2) else if(cm (aM (bareP (az hm N))).1 K).2.2≠0 then(iY,6) else
    ((ofV (aS (aM (bareP (az hm N))).1 K)).getD iY,B0 (ofV (aS (aM (bareP (az hm N))).1 K))):=by unfold mn;rw [Ka (by rw [hmay];decide),Ks,Ks,hdf]
   rw [hg]
   clear hg hmay hdf
   have hpl:=gJ hl hN
   have hrs:=fun(H:au) nx (h:H.at' hb=some (hpO hm))=>l5 (nx:=nx) h hl hN
   have hrl:=sD hpl
   have hno:=l0 (p:=bareP (az hm N))
   refine cQ (R:=fun H1 n1=>n1=nx+1+1∧H1.at' nx=some (dJ ((32+N:Nat):Int) (K:Int))∧H1.at' (nx+1)=some (ez (dB dK dK 0 0))∧H1.at' hb=some (hpO hm)∧ ∀ m,m<nx→H1.at' m=H.at' m) ⟨rfl,by repeat(first|exact ac|refine ab (by omega) ?_),by repeat(exact ac),by(repeat(refine ab (by omega) ?_));exact hH,fun m hm=>by(repeat(refine ab (by omega) ?_));rfl⟩ ?_
   rintro H1 n1 ⟨rfl,a1,a2,a4,a3⟩
   repeat first|apply ll;rfl;omega|apply ah;rfl|apply aG;rfl;assumption;rfl|apply aL;rfl;omega;omega
   rw [show((32+N:Nat):Int)-32=(N:Int) by omega]
   by_cases he:(aM (bareP (az hm N))).2=0
   ·rw [nU he] at hrs hrl
    rw [Ka (fun h=>h he)]
    obtain⟨hpp,hr,hof⟩:=cj (p:=bareP (az hm N)) (q:=(aM (bareP (az hm N))).1) (Prod.ext rfl he) (dp hpl)
    generalize (aM (bareP (az hm N))).1=p at hrs hrl hpp hr hof ⊢
    dsimp only [BN] at hrs
    repeat first|apply bJ hpp aj;rfl;(focus((repeat(exact ac));done))|refine be rfl rfl cq ?_|apply ah;rfl|apply aG;rfl;(focus((repeat(first|assumption|exact ac|refine ab (by omega) ?_));done));rfl|apply bW;rfl;kernel_rfl;exact hrs _ _ a4|apply bB hpp;rfl;(focus((repeat(exact ac));done))
    by_cases hK:ae p≤K∨ar p K=0
    ·have hfd:cm p K=(0,0,6):=by unfold cm;split;rfl;rw [Kb (by omega)]
     rw [hfd,Kb (by decide)]
     refine aE rfl rfl rfl (by kernel_rfl) (KD (xY hpp hr hK) ?_)
     rintro⟨_,H2,n2⟩ ⟨rfl,b3,b4⟩
     dsimp only at b3 b4 ⊢
     have c2:H2.at' (nx+1)=some (ez (dB dK dK 0 0)):=(b4 _ (by omega)).trans (by repeat(first|assumption|refine ab (by omega) ?_))
     have co: ∀ m,m<nx→H2.at' m=H.at' m:=fun m hm=>(b4 _ (by omega)).trans (by(repeat(refine ab (by omega) ?_));exact a3 m hm)
     clear b4
     repeat first|apply ah;rfl|apply aG;rfl;assumption;rfl|apply iA;rfl;decide
     ((apply bw Tryz.func16 (congrArg Array.toList Tryz.results16));(focus(repeat(first|exact KF|apply KH rfl|apply KG rfl (KI (F.ag _ rfl) (by repeat(exact ac)) (ak _ 0 rfl rfl))))))
     exact⟨_,nx,rfl,gy _ nx,JZ _,by dsimp only;omega,fun m hm=>by(repeat(refine ab (by omega) ?_));exact co m hm⟩
    ·have hs:ar p K≠0:=fun h=>hK (.inr h)
     have hn:K<ae p:=by omega
     have hfd:cm p K=(ay p K,ar p K,0):=by unfold cm;rw [Ka (by omega),Ka hs]
     rw [hfd,Ka (fun h=>h rfl)]
     have hil:(aS p K).length≤1024:=by unfold aS;rw [Ke,Kh];omega
     have hos:=hof K hn hs
     obtain⟨v,hv⟩: ∃ v,ofV (aS p K)=some v:=by cases h:ofV (aS p K)with|some v=>exact⟨v,rfl⟩|none=>rw [h] at hos;cases hos
     refine aE rfl rfl rfl (by kernel_rfl) (KD (B9 hpp hr hn hs) ?_)
     rintro⟨_,H2,n2⟩ ⟨r,rfl,b1,b2,b3,b4⟩
     dsimp only at b1 b3 b4 ⊢
     have c2:H2.at' (nx+1)=some (ez (dB dK dK 0 0)):=(b4 _ (by omega)).trans (by repeat(first|assumption|refine ab (by omega) ?_))
     have co: ∀ m,m<nx→H2.at' m=H.at' m:=fun m hm=>(b4 _ (by omega)).trans (by(repeat(refine ab (by omega) ?_));exact a3 m hm)
     clear b4
     repeat first|apply ah;rfl|apply dA;rfl;rfl
     refine aE rfl rfl rfl (by kernel_rfl) (KD (ofr_s (r:=r) (ro:=false) (l:=aS p K) (by rw [← sd];(focus(skip;exact b1))) (by omega)) ?_)
     rintro⟨_,H3,n3⟩ ⟨s',rfl,hF,hat,d3,d4⟩
     rw [← of_eq,hv]
     have hat:=hat v (by rw [← of_eq];exact hv)
     obtain⟨vk,vw,vx,vy,rfl,hk1,hw1⟩:=hF
     have hone:bm (dB vk vw vx vy)=true:=by simp only [bm,hk1,hw1];rfl
     dsimp only [Option.getD,B0] at hat d3 d4 ⊢
     have e2:H3.at' (nx+1)=some (ez (dB dK dK 0 0)):=(d4 _ (by omega)).trans (by assumption)
     have eo: ∀ m,m<nx→H3.at' m=H.at' m:=fun m hm=>(d4 _ (by omega)).trans (by exact co m hm)
     clear d4 co b1 c2
     repeat first|apply ah;rfl|apply aG;rfl;(focus((repeat(first|assumption|exact ac|refine ab (by omega) ?_));done));rfl|refine cU rfl rfl rfl (F.sz _ rfl) (by repeat(first|assumption|exact ac|refine ab (by omega) ?_)) rfl (by exact JL rfl) hone rfl ?_
     ((apply bw Tryz.func16 (congrArg Array.toList Tryz.results16));(focus(repeat(first|exact KF|apply KH rfl|apply KG rfl (KI (F.ag _ rfl) (by repeat(exact ac)) (ak _ 0 rfl rfl))))))
     exact⟨_,r,rfl,hat.frame (by(repeat(refine ab (by omega) ?_));rfl),by omega,by dsimp only;omega,fun m hm=>by(repeat(refine ab (by omega) ?_));exact eo m hm⟩
   ·rw [vO he] at hrs hrl
    rw [Kb he]
    have h13:(aM (bareP (az hm N))).2=13:=by
     rcases hno with h|h
     ·exact absurd h he
     ·rw [h]
    rw [h13]
    generalize bareP (az hm N)=p at hrs hrl
    dsimp only [BN] at hrs hrl
    repeat first|apply bJ hrl aj;rfl;(focus((repeat(exact ac));done))|refine be rfl rfl cq ?_|apply ah;rfl|apply aG;rfl;(focus((repeat(first|assumption|refine ab (by omega) ?_));done));rfl|apply bW;rfl;kernel_rfl;exact hrs _ _ a4
    ((apply bw Tryz.func16 (congrArg Array.toList Tryz.results16));(focus(repeat(first|exact KF|apply KH rfl|apply KG rfl (KI (F.ag _ rfl) (by repeat(exact ac)) (ak _ 0 rfl rfl))))))
    exact⟨_,nx,rfl,gy _ nx,JZ _,by dsimp only;omega,fun m hm=>by(repeat(refine ab (by omega) ?_));exact a3 m hm⟩
theorem nn{hb:Nat}{hm:List UInt8}(hH:H.at' hb=some (hpO hm))(hl:hm.length=98304):Fnc Tryz.prog 12 [.ptr hb 0] H nx
 (fun q=>nx≤q.2.2∧(∀ m,m<nx→q.2.1.at' m=H.at' m)∧((pS (dfH hm)=none∧q.1 = .tup [dK,.sc (.bool false)])∨ ∃ l s r,pS (dfH hm)=some l∧q.1 = .tup [s,.sc (.bool true)]∧RowsAt q.2.1 (fun m=>nx≤m∧m<q.2.2) r s l)):=by
 refine KE Tryz.func12 rfl rfl ?_
 refine aV fun hund=>?_
 have lH:=hund _ _ hH
 clear hund
 have hA:pS (dfH hm)=gT (dfH hm) 96 32:=rfl
 repeat apply ah;rfl
 refine bE (α:=Nat×List rU×SV×Nat) (fun x=> [(0,.ptr hb 0),(4,x.2.2.1),(5,.sc (.int .i64 (x.1:Int)))])
  (fun x H1 n1=>x.1≤96∧gT (dfH hm) 96 32=(gT (dfH hm) (96-x.1) (32+x.1)).map (x.2.1 ++ ·)∧x.2.1.length≤256*x.1∧(nx≤n1∧x.2.2.2<n1)∧RowsAt H1 (fun m=>nx≤m∧m<n1) x.2.2.2 x.2.2.1 x.2.1∧H1.at' hb=some (hpO hm)∧ ∀ m,m<nx→H1.at' m=H.at' m) (fun x=>96-x.1) (0,[],dK,0)
  ⟨J0 _,by dsimp only;cases gT (dfH hm) (96-0) (32+0) <;> rfl,by decide,⟨JZ _,by dsimp only;omega⟩,.inl ⟨rfl,rfl⟩,hH,fun m hm=>rfl⟩ (KK (KN rfl)) ?_
 rintro⟨i,l,s,r0⟩ H1 n1 ⟨i1,i2,i3,i4,i5,i6,i7⟩ ih
 dsimp only at i1 i2 i3 i4 i5 i6 i7 ⊢
 repeat apply ah;rfl
 refine bu rfl rfl rfl rfl (fun h5=>?_) (fun h5=>?_)
 ·have hi:i<96:=by omega
  have hgo:gT (dfH hm) (96-i) (32+i)=if(aM (dfH hm (32+i))).2≠0 then none else(gT (dfH hm) (96-(i+1)) (32+(i+1))).map (lY (32+i) (aM (dfH hm (32+i))).1 ++ ·):=by
   rw [show 96-i=(96-(i+1))+1 by omega]
   rfl
  have hdf:dfH hm (32+i)=bareP (az hm i):=by unfold dfH;rw [show 32+i-32=i by omega]
  have hpl:=gJ hl hi
  rw [hdf] at hgo
  have hrs:=fun(H:au) nx (h:H.at' hb=some (hpO hm))=>l5 (nx:=nx) h hl hi
  by_cases he:(aM (bareP (az hm i))).2=0
  ·rw [Ka (fun g=>g he)] at hgo
   rw [nU he] at hrs
   obtain⟨hpp,hr,hof⟩:=cj (p:=bareP (az hm i)) (q:=(aM (bareP (az hm i))).1) (Prod.ext rfl he) (dp hpl)
   generalize (aM (bareP (az hm i))).1=p at hrs hpp hr hof hgo
   dsimp only [BN] at hrs
   clear he hpl hdf
   have hok:=(aZ hpp).1 hr
   have hh:=hok.head
   have ht:=hok.top
   have hll:=eT p (ae p)
   repeat first|apply bJ hpp aj;rfl;(focus((repeat(exact ac));done))|refine be rfl rfl cq ?_|apply ah;rfl|apply bW;rfl;kernel_rfl;exact hrs _ _ i6|apply bB hpp;rfl;(focus((repeat(exact ac));done))
   refine aE rfl rfl rfl (by kernel_rfl) (KD (p9 hpp) ?_)
   rintro⟨_,H2,n2⟩ ⟨g1,g2,(⟨hr2,rfl⟩|⟨_,rs,rfl,g3,g4,g5⟩)⟩
   ·rw [hr] at hr2;cases hr2
   dsimp only at g1 g2 g3 g4 g5 ⊢
   have k1:H2.at' n1=some (pgO p):=(g2 _ (by omega)).trans (by repeat(exact ac))
   have k2:H2.at' hb=some (hpO hm):=(g2 _ (by omega)).trans (by repeat(first|assumption|refine ab (by omega) ?_))
   have k3:RowsAt H2 (fun m=>nx≤m∧m<n1) r0 s l:=i5.grow fun m hm=>⟨hm,(g2 _ (by omega)).trans (by(repeat(refine ab (by omega) ?_));rfl)⟩
   have ko: ∀ m,m<nx→H2.at' m=H.at' m:=fun m hm=>(g2 m (by omega)).trans (by(repeat(refine ab (by omega) ?_));exact i7 m hm)
   clear g2 i5 i6 i7
   repeat apply ah;rfl
   refine bE (α:=Nat×SV×Nat) (fun x=> [(0,.ptr hb 0),(4,x.2.1),(5,.sc (.int .i64 (i:Int))),(6,.ptr n1 0),(8,.slu rs 0 (eN p (ae p)).length),(10,.sc (.int .i64 (x.1:Int)))])
    (fun x H3 n3=>x.1≤ae p∧(n2≤n3∧x.2.2≠n1∧x.2.2<n3)∧RowsAt H3 (fun m=>nx≤m∧m<n3∧m≠rs∧(m<rs∨n2≤m)) x.2.2 x.2.1 (l ++ dw (32+i) p x.1)∧H3.at' n1=some (pgO p)∧H3.at' rs=some (slO (eN p (ae p)))∧H3.at' hb=some (hpO hm)∧ ∀ m,m<nx→H3.at' m=H.at' m) (fun x=>ae p-x.1) (0,s,r0)
    ⟨J0 _,⟨JZ _,by dsimp only;omega,by dsimp only;omega⟩,by show RowsAt _ _ _ _ (l ++ []);rw [Ko];exact k3.grow fun m hm=>⟨⟨hm.1,by omega,by omega,by omega⟩,rfl⟩,k1,g5,k2,ko⟩ (KK (KN rfl)) ?_
   clear k1 k2 k3 ko g5
   rintro⟨j,sj,rj⟩ H3 n3 ⟨j1,j2,j3,j4,j5,j6,j7⟩ ih2
   dsimp only at j1 j2 j3 j4 j5 j6 j7 ⊢
   repeat apply ah;rfl
   refine bu rfl rfl rfl rfl (fun h6=>?_) (fun h6=>?_)
   ·have hj:j<ae p:=by omega
    have hcS:=iG p hj
    have hcF:=jL p hj
    have hg:ar p j<65536:=cV p _
    repeat first|refine dH (q:=j) rfl rfl rfl rfl (F.un _ rfl) (F.sz _ rfl) (by assumption) (by omega) (by(omega)) (JZ _) ?_|refine cf (an (F.ag _ rfl) rfl j5 hcS) rfl rfl rfl ?_|apply ah;rfl
    by_cases hs:ar p j=0
    ·have e1:dw (32+i) p (j+1)=dw (32+i) p j:=by show _ ++ (if _ then _ else _)=_;rw [Kb hs,Ko]
     rw [← e1] at j3
     repeat first|apply ll;rfl;omega|apply ah;rfl|apply aL;rfl;omega;omega
     exact ih2 _ _ _ (j+1,sj,rj) ⟨hj,j2,j3,j4,j5,j6,j7⟩ (by dsimp only;omega) (KK (KN rfl))
    ·have hsl:=db hr hj hs
     have hil:=dL hpp (j:=j) hsl.2.2.2
     have hba: ∀ H:au,H.at' n1=some (pgO p)→BlkAt H n1 (ay p j) (aS p j):=fun H h=>⟨_,h,by
      rw [hil]
      refine ak _ _ ?_ (by simp only [Kf];omega)
      unfold aS
      simp [List.map_take,List.map_drop]⟩
     have hos:=hof j hj hs
     obtain⟨v,hv⟩: ∃ v,ofV (aS p j)=some v:=by cases h:ofV (aS p j)with|some v=>exact⟨v,rfl⟩|none=>rw [h] at hos;cases hos
     have hof2: ∀ (H:au) nx',H.at' n1=some (pgO p)→Fnc Tryz.prog 36 [.sl n1 (ay p j) (ar p j) (1024-ay p j)] H nx' (fun q=>q=(.tup [yO n1 (ay p j) (1024-ay p j) (aS p j),.sc (.bool true)],H,nx')):=fun H nx' h=>by
      have:=HR (H:=H) (nx:=nx') (r:=n1) (o:=ay p j) (C:=1024-ay p j) (l:=aS p j) (hba H h) (by omega) (by omega)
      rwa [hil,←of_eq,hv] at this
     obtain⟨vk,vw,hve,hk1,hw1⟩:=D0 (hba H3 j4) (C:=1024-ay p j) (by omega) (by rw [← of_eq];exact hv)
     rw [hve] at hof2
     have hone:bm (dB vk vw v.2.2.1 v.2.2.2)=true:=by simp only [bm,cN hk1.bs,cN hw1.bs];rfl
     have hone6:bm (rR (32+i) j vk vw v.2.2.1 v.2.2.2)=true:=by simp only [bm,cN hk1.bs,cN hw1.bs];rfl
     have e1:l ++ dw (32+i) p (j+1)=(l ++ dw (32+i) p j) ++ [((32+i,j),v)]:=by
      show l ++ (_ ++ if _ then _ else _)=_
      rw [Ka hs,hv,Kl]
      rfl
     have hrl:(l ++ dw (32+i) p j).length≤200000:=by have:=gF (32+i) p j;rw [J3];omega
     clear hve hos
     repeat first|apply pG;rfl;omega|apply ah;rfl
     (apply gC;(focus(kernel_rfl));(focus(kernel_rfl)))
     refine ej 17 (JL rfl) ?_
     repeat first|refine aI (q:=j) rfl rfl rfl rfl (F.un _ rfl) (F.sz _ rfl) (by assumption) (by omega) (by(omega)) (JZ _) ?_|refine bp (an (F.ag _ rfl) rfl j5 hcF) rfl rfl rfl ?_|refine bp (an (F.ag _ rfl) rfl j5 hcS) rfl rfl rfl ?_|apply bG;rfl;rfl;exact(fun _ h=>by cases h);exact(ge (l:=ay p j) (h:=ay p j+ar p j) (F.un _ rfl) (F.sz _ rfl) rfl rfl rfl (by omega) (by omega) (by omega) (show ay p j+ar p j-ay p j=ar p j by omega) rfl (Kc _))|apply aW;rfl|refine bp (aw rfl rfl (.inl ⟨rfl,(JH _ ⟨(by focus(omega)),(by focus(omega))⟩).symm⟩)) rfl rfl rfl ?_
     refine aA ?_;(apply er;rfl;rfl;rfl;(focus(kernel_rfl));exact(hof2 _ _ j4))
     refine jy ?_
     repeat first|refine bY rfl rfl rfl (F.sz _ rfl) (by repeat(first|assumption|exact ac)) rfl (by exact JL rfl) hone rfl ?_|apply aW;rfl|refine pR (fp (F.zl _ rfl)) rfl rfl rfl ?_
     refine aA ⟨by kernel_rfl,?_,?_⟩;(focus(repeat(first|exact KO|refine⟨.inl rfl,?_⟩|refine⟨.inr (.inl (by(repeat(refine⟨(by first|exact mN rfl|exact aw rfl rfl (.inl ⟨rfl,(JH _ ⟨by omega,by omega⟩).symm⟩)|exact an (F.ag _ rfl) rfl (by(repeat(refine ab (by omega) ?_));exact j5) hcF|exact an (F.ag _ rfl) rfl (by(repeat(refine ab (by omega) ?_));exact j5) hcS|exact aO (F.un _ rfl) (F.sz _ rfl) rfl rfl (by(repeat(refine ab (by omega) ?_));exact j5) rfl (by omega) (JZ _)|exact ge (l:=ay p j) (h:=ay p j+ar p j) (F.un _ rfl) (F.sz _ rfl) rfl rfl rfl (by omega) (by omega) (by omega) (show ay p j+ar p j-ay p j=ar p j by omega) rfl (Kc _)),?_⟩));exact KO)),?_⟩|refine⟨.inr (.inr (by(repeat(refine⟨(by exact eH rfl (by kernel_rfl) (by exact hof2 _ _ (by(repeat(refine ab (by omega) ?_));exact j4))),?_⟩));exact KO)),?_⟩)))
     refine cQ (R:=fun H4 n4=>n4=n3+1∧H4.at' n3=some (ez (dB vk vw v.2.2.1 v.2.2.2))∧RowsAt H4 (fun m=>nx≤m∧m<n3∧m≠rs∧(m<rs∨n2≤m)) rj sj (l ++ dw (32+i) p j)∧BlkS H4 vk n1 v.1∧BlkS H4 vw n1 v.2.1∧H4.at' n1=some (pgO p)∧H4.at' rs=some (slO (eN p (ae p)))∧H4.at' hb=some (hpO hm)∧ ∀ m,m<nx→H4.at' m=H.at' m)
      ⟨rfl,by repeat(exact ac),j3.grow fun m hm=>⟨hm,by(repeat(refine ab (by omega) ?_));rfl⟩,hk1.frame (by(repeat(refine ab (by omega) ?_));rfl),hw1.frame (by(repeat(refine ab (by omega) ?_));rfl),by repeat(first|assumption|refine ab (by omega) ?_),by repeat(first|assumption|refine ab (by omega) ?_),by repeat(first|assumption|refine ab (by omega) ?_),fun m hm=>by(repeat(refine ab (by omega) ?_));exact j7 m hm⟩ ?_
     rintro H4 n4 ⟨rfl,m0,m1,m2,m3,m4,m5,m6,m7⟩
     clear j3 j4 j5 j6 j7 hba hof2 hk1 hw1 hcS hcF
     dsimp only
     generalize l ++ dw (32+i) p j=lj at m1 hrl e1
     rcases m1 with ⟨rfl,rfl⟩|⟨ws,L,h0,rfl,h2,h3,h4,h6'⟩
     ·repeat first|apply ah;rfl|apply aG;rfl;assumption;rfl|apply aL;rfl;omega;omega|refine bF (cs:=rR (32+i) j vk vw v.2.2.1 v.2.2.2) rfl rfl (F.un _ rfl) (F.sz _ rfl) rfl (F.ze _ rfl) rfl rfl hone6 rfl rfl ?_
      refine vz (b:=80) (n:=1) (cs:=rR (32+i) j vk vw v.2.2.1 v.2.2.2) rfl rfl rfl rfl (F.un _ rfl) (.inl ⟨_,F.un _ rfl⟩) (F.sz _ rfl) rfl (by kernel_rfl) (by kernel_rfl) (SlOf.row (by repeat(exact ac)) rfl) hone6 (by decide) (by decide) ?_
      rintro _ _ _ (⟨h,_⟩|⟨_,rfl,rfl,rfl⟩)
      ·exact absurd h (by decide)
      repeat first|apply ah;rfl|apply aL;rfl;omega;omega
      refine ih2 _ _ _ (j+1,_,n3+1+1) ⟨hj,⟨by first|omega|(dsimp only;omega),by first|omega|(dsimp only;omega),by first|omega|(dsimp only;omega)⟩,?_,by repeat(first|assumption|refine ab (by omega) ?_),by repeat(first|assumption|refine ab (by omega) ?_),by repeat(first|assumption|refine ab (by omega) ?_),fun m hm=>by(repeat(refine ab (by omega) ?_));exact m7 m hm⟩ (by dsimp only;omega) (KK (KN rfl))
      dsimp only
      rw [e1]
      refine .inr ⟨rR (32+i) j vk vw v.2.2.1 v.2.2.2,[n1],by simp,rfl,by repeat(exact ac),fun m hm=>?_,⟨by omega,by omega,by omega,by omega⟩,vk,vw,[],n1,rfl,Kg.2 rfl,m2.frame (by(repeat(refine ab (by omega) ?_));rfl),m3.frame (by(repeat(refine ab (by omega) ?_));rfl),rfl⟩
      obtain rfl:=Kg.1 hm
      exact⟨⟨by omega,by omega,by omega,by omega⟩,by omega⟩
     ·repeat first|apply ah;rfl|apply aG;rfl;assumption;rfl|apply aL;rfl;omega;omega|refine bF (cs:=rR (32+i) j vk vw v.2.2.1 v.2.2.2) rfl rfl (F.un _ rfl) (F.sz _ rfl) rfl (F.ze _ rfl) rfl rfl hone6 rfl rfl ?_
      refine C7 (b:=80) (m:=1) (r:=rj) (ws:=ws) (cs:=rR (32+i) j vk vw v.2.2.1 v.2.2.2) rfl rfl rfl rfl (F.un _ rfl) (.inl ⟨_,F.un _ rfl⟩) (F.sz _ rfl) rfl (by kernel_rfl) (by kernel_rfl) (by(repeat(refine ab (by omega) ?_));exact h2) h6'.len (SlOf.cells (SlOf.row (by repeat(exact ac)) rfl)) hone6 (by decide) (by omega) (by omega) ?_
      repeat first|apply ah;rfl|apply aL;rfl;omega;omega
      have hlen1:(lj ++ [((32+i,j),v)]).length=lj.length+1:=by simp
      refine ih2 _ _ _ (j+1,_,n3+1+1) ⟨hj,⟨by first|omega|(dsimp only;omega),by first|omega|(dsimp only;omega),by first|omega|(dsimp only;omega)⟩,?_,by repeat(first|assumption|refine ab (by omega) ?_|refine cc (by omega) ?_),by repeat(first|assumption|refine ab (by omega) ?_|refine cc (by omega) ?_),by repeat(first|assumption|refine ab (by omega) ?_|refine cc (by omega) ?_),fun m hm=>by(repeat(first|refine ab (by omega) ?_|refine cc (by omega) ?_));exact m7 m hm⟩ (by dsimp only;omega) (KK (KN rfl))
      dsimp only
      rw [e1]
      refine .inr ⟨ws ++ rR (32+i) j vk vw v.2.2.1 v.2.2.2,n1 :: L,by omega,by rw [hlen1],by rw [hlen1];(focus((repeat(exact ac));done)),fun m hm=>?_,⟨by omega,by omega,by omega,by omega⟩,?_⟩
      ·rcases Kp.1 hm with rfl|hm
       ·exact⟨⟨by omega,by omega,by omega,by omega⟩,by omega⟩
       ·have:=h3 m hm
        exact⟨⟨by omega,by omega,by omega,by omega⟩,by omega⟩
      ·refine RowsC.snoc (y:=((32+i,j),v)) (s1:=vk) (s2:=vw) (r:=n1) Ki (m2.frame (by(repeat(first|refine ab (by omega) ?_|refine cc (by omega) ?_));rfl)) (m3.frame (by(repeat(first|refine ab (by omega) ?_|refine cc (by omega) ?_));rfl)) (h6'.frame fun m hm=>⟨Kj _ hm,?_⟩)
       have:=h3 m hm
       (focus((repeat(first|refine ab (by omega) ?_|refine cc (by omega) ?_));rfl))
   ·have hj:j=ae p:=by omega
    subst hj
    repeat first|apply ah;rfl|apply aL;rfl;omega;omega
    refine ih _ _ _ (i+1,l ++ lY (32+i) p,sj,rj) ⟨hi,?_,?_,⟨by first|omega|(dsimp only;omega),by first|omega|(dsimp only;omega)⟩,j3.grow fun m hm=>⟨⟨hm.1,hm.2.1⟩,rfl⟩,j6,j7⟩ (by dsimp only;omega) (KK (KN rfl))
    ·dsimp only
     rw [i2,hgo,Option.map_map]
     congr 1
     funext x
     simp
    ·have:(lY (32+i) p).length≤ae p:=gF (32+i) p (ae p)
     dsimp only
     rw [J3]
     omega
  ·rw [Kb he] at hgo
   rw [vO he] at hrs
   have hbl:=dp hpl
   generalize bareP (az hm i)=p at hrs hbl
   dsimp only [BN] at hrs
   repeat first|apply bJ hbl aj;rfl;(focus((repeat(exact ac));done))|refine be rfl rfl cq ?_|apply ah;rfl|apply bW;rfl;kernel_rfl;exact hrs _ _ i6
   (apply bR Tryz.func12 Tryz.results12;rfl)
   exact⟨by first|omega|(dsimp only;omega),fun m hm=>by(repeat(refine ab (by omega) ?_));exact i7 m hm,.inl ⟨by rw [hA,i2,hgo];rfl,rfl⟩⟩
 ·have hi:i=96:=by omega
  subst hi
  repeat apply ah;rfl
  (apply bR Tryz.func12 Tryz.results12;rfl)
  exact⟨i4.1,i7,.inr ⟨l,s,r0,by rw [hA,i2];show some (l ++ [])=_;rw [Ko],rfl,i5⟩⟩
theorem oD(n:Nat)(p:List UInt8): ∀ j,∀ x∈dw n p j,x.1.1=n
 | 0,x,h=>by cases h
 | j+1,x,h=>by
   unfold dw at h
   rcases List.mem_append.1 h with h|h
   ·exact oD n p j x h
   ·split at h
    ·cases h
    ·rw [Kg.1 h]
theorem xh{pf:Nat→List UInt8}: ∀ (k n:Nat),(∀ m,n≤m→m<n+k→GoodP (pf m))→ ∃ l,gT pf k n=some l∧l.length≤300*k∧ ∀ x∈l,n≤x.1.1∧x.1.1<n+k
 | 0,n,_=>⟨[],rfl,J0 _,fun x hx=>by cases hx⟩
 | k+1,n,h=>by
   obtain⟨q,hq,hQ⟩:=(h n (JZ _) (by omega)).read
   obtain⟨l,h1,h2,h3⟩:=xh k (n+1) fun m a b=>h m (by omega) (by omega)
   have hs:ae q≤300:=by
    have h1:=hQ.ok.head
    have h2:=hQ.ok.top
    omega
   have hr:(lY n q).length≤ae q:=gF n q (ae q)
   refine⟨lY n q ++ l,?_,?_,fun x hx=>?_⟩
   ·unfold gT
    rw [hq,Ka (fun e=>e rfl),h1]
    rfl
   ·rw [J3]
    omega
   ·rcases List.mem_append.1 hx with hx|hx
    ·have:=oD n q (ae q) x hx
     omega
    ·have:=h3 x hx
     omega
theorem kz(h:Hv mem): ∃ l,pS (az mem)=some l∧l.length≤28800∧ ∀ x∈l,32≤x.1.1∧x.1.1<128:=by
 obtain⟨l,h1,h2,h3⟩:=xh (pf:=az mem) 96 32 fun m a b=>h.good m a (by omega)
 exact⟨l,h1,by omega,fun x hx=>by have:=h3 x hx;omega⟩
def Tch(mem mem':List UInt8):Prop:= ∃ n0,∀ n,n≠n0→az mem n=zeroP→az mem' n=zeroP
theorem jb(mem:List UInt8):Tch mem mem:=⟨0,fun _ _ h=>h⟩
theorem qz{x:List UInt8}(hm:mem.length=131072)(h2:n<128)(hx:x.length=1024):Tch mem (fx mem n x):=⟨n,fun k hk h0=>by
 rw [iL (by omega) hx,Ka hk]
 exact h0⟩
theorem xq:ae (aM zeroP).1=0:=by kernel_rfl
theorem p6: ∀ {ps:List (Nat×List UInt8)} {mem:List UInt8} {n:Nat},mem.length=131072→(∀ x∈ps,x.1<128∧x.2.length=1024)→(∀ x∈ps,x.1≠n)→az (oI mem ps) n=az mem n
 | [],_,_,_,_,_=>rfl
 | (a,x) :: ps,mem,n,hm,hp,hn=>by
   have h1:=hp _ Ki
   dsimp only at h1
   have h2:=p6 (ps:=ps) (mem:=fx mem a x) (n:=n) (kI hm h1.1 h1.2) (fun y hy=>hp y (Kj _ hy)) (fun y hy=>hn y (Kj _ hy))
   have h3:a≠n:=hn _ Ki
   show az (oI (fx mem a x) ps) n=_
   rw [h2,iL (by omega) h1.2,Ka (fun e=>h3 e.symm)]
theorem BD(h0:az mem n=zeroP): ∀ x∈(gh (az mem) l).2,x.1≠n:=by
 unfold gh
 by_cases h1:uf l
 ·rw [Ka (fun e=>e h1)]
  by_cases h2:ml (az mem) l
  ·rw [Ka (fun e=>e h2)]
   intro x hx e
   obtain⟨k,hk,rfl⟩:=Kx.1 hx
   dsimp only at e
   subst e
   obtain⟨_,_,hs⟩:=eg.1 hk
   obtain⟨j,hj⟩:=List.exists_mem_of_ne_nil _ hs
   have h3:=Km ((mj h1).1 h2 _ hk j hj)
   rw [h0,xq] at h3
   omega
  ·rw [Kb h2]
   intro x hx
   cases hx
 ·rw [Kb h1]
  intro x hx
  cases hx
theorem qA(hv:Hv mem)(l:List (Int×Int)):Tch mem (oI mem (gh (az mem) l).2):=⟨0,fun n _ h0=>by
 rw [p6 hv.len (fun x hx=>⟨(kK hv x hx).2.1,(kK hv x hx).2.2.len⟩) (BD h0)]
 exact h0⟩
def qq(H:au)(nx b h:Nat)(mem:List UInt8)(left puts:Int)(q:Res):Prop:=q.1 = .sc (.bool true)∧ ∃ (mem':List UInt8) (left' puts':Int),q.2.1.at' b=some (cT mem' left' puts')∧q.2.1.at' h=some (hpO (cK mem'))∧Hv mem'∧(left-96≤left'∧left'≤left)∧(puts≤puts'∧puts'≤puts+96)∧nx≤q.2.2∧(∀ m,m<nx→m≠b→m≠h→q.2.1.at' m=H.at' m)∧Tch mem mem'
def Bb(H:au)(nx b h:Nat)(x:ol):Prop:= ∀ H':au,(∀ m,m<nx→m≠b→m≠h→H'.at' m=H.at' m)→ActIs H' x
abbrev t6(x:ol):VO:=aq 42 (rT x)
theorem do0_s(hb:H.at' b=some (cT mem left puts))(hh:H.at' h=some (hpO (cK mem)))(hv:Hv mem)(hx:ActIs H x)(hk:x.1.kind≠1∧x.1.kind≠2∧x.1.kind≠3∧x.1.kind≠4):Fnc Tryz.prog 9 [.ptr b 0,.ptr h 0,.agg (rT x)] H nx (qq H nx b h mem left puts):=by
 have hone:bm (rT x)=true:=by simp only [bm,cN hx.1,cN hx.2];rfl
 refine KE Tryz.func9 rfl rfl ?_
 refine aV fun hund=>?_
 have lb:=hund _ _ hb
 have lh:=hund _ _ hh
 obtain⟨rows,hal,hrl,hrn⟩:=kz hv
 have hdoc:pS (dfH (cK mem))=some rows:=(kY fun n a b=>fC hv a b).trans hal
 repeat apply ah;rfl
 refine aE rfl rfl rfl (by kernel_rfl) (KD (nn (hm:=cK mem) (by repeat(first|assumption|refine ab (by omega) ?_)) (cx hv.len)) ?_)
 rintro⟨_,H1,n1⟩ ⟨u1,u2,⟨u3,_⟩|⟨rows',s,rr,u3,rfl,u4⟩⟩
 ·rw [hdoc] at u3
  cases u3
 rw [hdoc] at u3
 cases u3
 dsimp only at u1 u2 u4 ⊢
 have c1:H1.at' nx=some (t6 x):=(u2 nx (by omega)).trans (by repeat(exact ac))
 have cb:H1.at' b=some (cT mem left puts):=(u2 b (by omega)).trans (by repeat(first|assumption|refine ab (by omega) ?_))
 have ch:H1.at' h=some (hpO (cK mem)):=(u2 h (by omega)).trans (by repeat(first|assumption|refine ab (by omega) ?_))
 have co: ∀ m,m<nx→H1.at' m=H.at' m:=fun m hm=>(u2 m (by omega)).trans (by(repeat(refine ab (by omega) ?_));rfl)
 repeat first|refine df rfl rfl rfl (F.ag _ rfl) cb (dD hv.len _ _) ?_|apply ah;rfl|apply aG;rfl;assumption;rfl
 obtain⟨k1,k2,k3,k4⟩:=hk
 repeat first|apply ah;rfl|apply iA;rfl;omega
 (apply bR Tryz.func9 Tryz.results9;rfl)
 exact⟨rfl,mem,left,puts,cb,ch,hv,⟨by omega,by omega⟩,⟨by omega,by omega⟩,by first|omega|(dsimp only;omega),fun m hm _ _=>co m hm,jb _⟩
theorem iV(x:ol):(t6 x).cellsFrom (0+6) 2=some [.sc (.int .i64 x.1.tid.1),.sc (.int .i64 x.1.tid.2)]:=ak 2 6 rfl rfl
theorem pp(x:ol):(t6 x).cellsFrom (0+2) 4=some [x.2.1,x.2.2,.sc (.int .u64 (x.1.ver.2.2.1:Int)),.sc (.int .u64 (x.1.ver.2.2.2:Int))]:=ak 4 2 rfl rfl
theorem mT{k w:SV}(hk:BsIs H k (byV v.1))(hw:BsIs H w (byV v.2.1))(x y:Nat):bm [k,w,.sc (.int .u64 (x:Int)),.sc (.int .u64 (y:Int))]=true:=by
 simp only [bm,cN hk,cN hw]
 rfl
theorem do4_s(hb:H.at' b=some (cT mem left puts))(hh:H.at' h=some (hpO (cK mem)))(hv:Hv mem)(hx:ActIs H x)(hk:x.1.kind=4):Fnc Tryz.prog 9 [.ptr b 0,.ptr h 0,.agg (rT x)] H nx (qq H nx b h mem left puts):=by
 have hone:bm (rT x)=true:=by simp only [bm,cN hx.1,cN hx.2];rfl
 refine KE Tryz.func9 rfl rfl ?_
 refine aV fun hund=>?_
 have lb:=hund _ _ hb
 have lh:=hund _ _ hh
 obtain⟨rows,hal,hrl,hrn⟩:=kz hv
 have hdoc:pS (dfH (cK mem))=some rows:=(kY fun n a b=>fC hv a b).trans hal
 repeat apply ah;rfl
 refine aE rfl rfl rfl (by kernel_rfl) (KD (nn (hm:=cK mem) (by repeat(first|assumption|refine ab (by omega) ?_)) (cx hv.len)) ?_)
 rintro⟨_,H1,n1⟩ ⟨u1,u2,⟨u3,_⟩|⟨rows',s,rr,u3,rfl,u4⟩⟩
 ·rw [hdoc] at u3
  cases u3
 rw [hdoc] at u3
 cases u3
 dsimp only at u1 u2 u4 ⊢
 have c1:H1.at' nx=some (t6 x):=(u2 nx (by omega)).trans (by repeat(exact ac))
 have cb:H1.at' b=some (cT mem left puts):=(u2 b (by omega)).trans (by repeat(first|assumption|refine ab (by omega) ?_))
 have ch:H1.at' h=some (hpO (cK mem)):=(u2 h (by omega)).trans (by repeat(first|assumption|refine ab (by omega) ?_))
 have co: ∀ m,m<nx→H1.at' m=H.at' m:=fun m hm=>(u2 m (by omega)).trans (by(repeat(refine ab (by omega) ?_));rfl)
 repeat first|refine df rfl rfl rfl (F.ag _ rfl) cb (dD hv.len _ _) ?_|apply ah;rfl|apply aG;rfl;assumption;rfl
 repeat first|apply ah;rfl|apply iA;rfl;omega
 refine cF rfl rfl rfl rfl (fun _=>?_) (fun e=>absurd hk (by omega))
 repeat first|refine ee rfl rfl rfl (F.ag _ rfl) c1 (iV x) ?_|apply ah;rfl
 refine aE rfl rfl rfl (by kernel_rfl) (KD (ET (b:=b) (mem:=mem) (left:=left) (puts:=puts) (by assumption) hv.len) ?_)
 rintro⟨_,H2,n2⟩ ⟨s1,r1,rfl,d1,d2,d3,d4⟩
 dsimp only at d1 d2 d3 d4 ⊢
 refine aV fun hund2=>?_
 have e1:H2.at' nx=some (t6 x):=(d4 _ (by omega)).trans c1
 have e2:H2.at' h=some (hpO (cK mem)):=(d4 _ (by omega)).trans ch
 have e3: ∀ m,m<nx→H2.at' m=H.at' m:=fun m hm=>(d4 _ (by omega)).trans (co m hm)
 generalize hG:mn (az mem) x.1.tid.1 x.1.tid.2=G at d1
 obtain⟨kA,wA,rfl,hkA,hwA⟩:=d1
 have oA:=mT hkA.bs hwA.bs
 repeat first|refine ee rfl rfl rfl (F.ag _ rfl) (by(repeat(refine ab (by omega) ?_));exact e1) (iV x) ?_|refine cU rfl rfl rfl (F.sz _ rfl) (by repeat(first|assumption|exact ac)) rfl (by exact JL rfl) (oA _ _) rfl ?_|apply ah;rfl
 refine aE rfl rfl rfl (by kernel_rfl) (KD (oY (hb:=h) (hm:=cK mem) (by(repeat(refine ab (by omega) ?_));exact e2) (cx hv.len)) ?_)
 rintro⟨_,H3,n3⟩ ⟨s3,r3,rfl,f1,f2,f3,f4⟩
 dsimp only at f1 f2 f3 f4 ⊢
 rw [wG (fun n a b=>fC hv a b),hG] at f1 ⊢
 refine aV fun hund3=>?_
 have vA:VerIs H2 (im kA wA G.1.2.2.1 G.1.2.2.2) G.1:=⟨kA,wA,rfl,hkA.bs,hwA.bs⟩
 have vA3:VerIs H3 (im kA wA G.1.2.2.1 G.1.2.2.2) G.1:=vA.frame fun m vo hm=>by
  have:=hund2 m vo hm
  exact(f4 m (by omega)).trans (by(repeat(refine ab (by omega) ?_));exact hm)
 have vB3:=f1.is
 obtain⟨kB,wB,rfl,hkB,hwB⟩:=f1
 have oB:=mT hkB.bs hwB.bs
 have g1:H3.at' n2=some (aq 38 [kA,wA,.sc (.int .u64 (G.1.2.2.1:Int)),.sc (.int .u64 (G.1.2.2.2:Int))]):=(f4 _ (by omega)).trans (by repeat(exact ac))
 have g3: ∀ m,m<nx→H3.at' m=H.at' m:=fun m hm=>(f4 _ (by omega)).trans (by(repeat(refine ab (by omega) ?_));exact e3 m hm)
 have hs: ∀ (H':au) (nx':Nat),(∀ m,m<n3→H'.at' m=H3.at' m)→Fnc Tryz.prog 17 [im kA wA G.1.2.2.1 G.1.2.2.2,im kB wB G.1.2.2.1 G.1.2.2.2] H' nx' (fun q=>q=(.sc (.bool true),H',nx')):=fun H' nx' hh=>vK (vA3.frame fun m vo hm=>(hh m (hund3 m vo hm)).trans hm) (vB3.frame fun m vo hm=>(hh m (hund3 m vo hm)).trans hm)
 repeat first|refine cU rfl rfl rfl (F.sz _ rfl) (by repeat(first|assumption|exact ac)) rfl (by exact JL rfl) (oB _ _) rfl ?_|apply dA;rfl;rfl|refine ee rfl rfl rfl (F.ag _ rfl) (by repeat(first|assumption|exact ac|refine ab (by omega) ?_)) (ak 4 0 rfl rfl) ?_|apply ah;rfl
 refine aE rfl rfl rfl (by kernel_rfl) (KD (hs _ _ fun m hm=>by(repeat(refine ab (by omega) ?_));rfl) ?_)
 rintro _ rfl
 dsimp only
 repeat apply ah;rfl
 (apply bR Tryz.func9 Tryz.results9;rfl)
 exact⟨rfl,mem,left,puts,by(repeat(refine ab (by omega) ?_));exact(g3 b lb).trans hb,by(repeat(refine ab (by omega) ?_));exact(g3 h lh).trans hh,hv,⟨by omega,by omega⟩,⟨by omega,by omega⟩,by first|omega|(dsimp only;omega),fun m hm _ _=>by(repeat(refine ab (by omega) ?_));exact g3 m hm,jb _⟩
theorem Ap(hv:Hv mem)(v:gj):((jD (az mem) v false).1.2.2≠0∧(jD (az mem) v false).2=none)∨((jD (az mem) v false).1.2.2=0∧ ∃ n y,(jD (az mem) v false).2=some (n,y)∧32≤n∧n<128∧GoodP y):=by
 have hg:=fun n y=>Cb (n:=n) (x:=y) (d:=false) (v:=v) hv
 generalize hI:jD (az mem) v false=I at hg
 unfold jD at hI
 by_cases h1:gV v=false
 ·rw [Kb h1] at hI
  subst hI
  exact .inl ⟨by decide,rfl⟩
 ·rw [Ka h1] at hI
  by_cases h2:(ci (az mem) (aQ v) 96 32).1≠0
  ·rw [Kb h2] at hI
   subst hI
   exact .inl ⟨h2,rfl⟩
  ·rw [Ka h2,Ka (by decide)] at hI
   subst hI
   exact .inr ⟨rfl,_,_,rfl,hg _ _ rfl⟩
theorem Ja(h:gV v=false):jD (az mem) v false=((0,0,2),none):=by
 unfold jD
 rw [Kb h]
theorem do1_s(hb:H.at' b=some (cT mem left puts))(hh:H.at' h=some (hpO (cK mem)))(hne:b≠h)(hv:Hv mem)(hx:Bb H nx b h x)(hk:x.1.kind=1)(hl : -1000000≤left∧left<0)(hp:0≤puts∧puts≤1000000):Fnc Tryz.prog 9 [.ptr b 0,.ptr h 0,.agg (rT x)] H nx (qq H nx b h mem left puts):=by
 have hx0:=hx H fun _ _ _ _=>rfl
 have hone:bm (rT x)=true:=by simp only [bm,cN hx0.1,cN hx0.2];rfl
 have hd:decide (left=0)=false:=Ku (by omega)
 refine KE Tryz.func9 rfl rfl ?_
 refine aV fun hund=>?_
 have lb:=hund _ _ hb
 have lh:=hund _ _ hh
 obtain⟨rows,hal,hrl,hrn⟩:=kz hv
 have hdoc:pS (dfH (cK mem))=some rows:=(kY fun n a b=>fC hv a b).trans hal
 repeat apply ah;rfl
 refine aE rfl rfl rfl (by kernel_rfl) (KD (nn (hm:=cK mem) (by repeat(first|assumption|refine ab (by omega) ?_)) (cx hv.len)) ?_)
 rintro⟨_,H1,n1⟩ ⟨u1,u2,⟨u3,_⟩|⟨rows',s,rr,u3,rfl,u4⟩⟩
 ·rw [hdoc] at u3
  cases u3
 rw [hdoc] at u3
 cases u3
 dsimp only at u1 u2 u4 ⊢
 have c1:H1.at' nx=some (t6 x):=(u2 nx (by omega)).trans (by repeat(exact ac))
 have cb:H1.at' b=some (cT mem left puts):=(u2 b (by omega)).trans (by repeat(first|assumption|refine ab (by omega) ?_))
 have ch:H1.at' h=some (hpO (cK mem)):=(u2 h (by omega)).trans (by repeat(first|assumption|refine ab (by omega) ?_))
 have co: ∀ m,m<nx→H1.at' m=H.at' m:=fun m hm=>(u2 m (by omega)).trans (by(repeat(refine ab (by omega) ?_));rfl)
 repeat first|refine df rfl rfl rfl (F.ag _ rfl) cb (dD hv.len _ _) ?_|apply ah;rfl|apply aG;rfl;assumption;rfl
 refine cF rfl rfl rfl rfl (fun _=>?_) (fun e=>absurd hk (by omega))
 have vr: ∀ (H':au),(∀ m,m<nx→m≠b→m≠h→H'.at' m=H.at' m)→VerIs H' (im x.2.1 x.2.2 x.1.ver.2.2.1 x.1.ver.2.2.2) x.1.ver:=fun H' hf=>⟨_,_,rfl,(hx H' hf).1,(hx H' hf).2⟩
 repeat first|refine ee rfl rfl rfl (F.ag _ rfl) c1 (pp x) ?_|apply ah;rfl
 refine aE rfl rfl rfl (by kernel_rfl) (KD (mi (b:=b) (mem:=mem) (left:=left) (puts:=puts) cb hv.len (vr H1 fun m hm _ _=>co m hm) (by omega) (by omega)) ?_)
 rintro⟨_,H2,n2⟩ ⟨rfl,d2,d3,d4⟩
 dsimp only at d2 d3 d4 ⊢
 rw [hd] at d2 ⊢
 have e1:H2.at' nx=some (t6 x):=(d4 _ (by omega) (by omega)).trans c1
 have e2:H2.at' h=some (hpO (cK mem)):=(d4 _ (by omega) (Ne.symm hne)).trans ch
 have e3: ∀ m,m<nx→m≠b→H2.at' m=H.at' m:=fun m hm hmb=>(d4 _ (by omega) hmb).trans (co m hm)
 have hc:=Ap hv x.1.ver
 have hno:=Ja (mem:=mem) (v:=x.1.ver)
 have hdI:jD (dfH (cK mem)) x.1.ver false=jD (az mem) x.1.ver false:=wy (fun n a b=>fC hv a b) _ _
 generalize jD (az mem) x.1.ver false=I at hc hno hdI d2 ⊢
 repeat first|refine ee rfl rfl rfl (F.ag _ rfl) (by(repeat(refine ab (by omega) ?_));exact e1) (pp x) ?_|apply ah;rfl|apply aG;rfl;(focus((repeat(exact ac));done));rfl
 refine aE rfl rfl rfl (by kernel_rfl) (KD (oR (vr _ fun m hm hmb _=>by(repeat(refine ab (by omega) ?_));exact e3 m hm hmb)) ?_)
 rintro _ rfl
 dsimp only
 cases hm:gV x.1.ver with
 | false=>
   rw [hno hm] at d2 ⊢
   have d2':H2.at' b=some (cT mem left puts):=d2
   repeat first|refine df rfl rfl rfl (F.ag _ rfl) (by(repeat(refine ab (by omega) ?_));exact d2') (dD hv.len _ _) ?_|apply dA;rfl;rfl|apply ja (r:=true) (a:=(0,0)) (b:=(0,0)) (hr:=dv.2 rfl);rfl;rfl;rfl;rfl|apply ah;rfl|apply aG;rfl;(focus((repeat(exact ac));done));rfl
   (apply bR Tryz.func9 Tryz.results9;rfl)
   exact⟨rfl,mem,left,puts,by(repeat(refine ab (by omega) ?_));exact d2',by(repeat(refine ab (by omega) ?_));exact e2,hv,⟨by omega,by omega⟩,⟨by omega,by omega⟩,by first|omega|(dsimp only;omega),fun m hm hmb _=>by(repeat(refine ab (by omega) ?_));exact e3 m hm hmb,jb _⟩
 | true=>
   repeat first|refine ee rfl rfl rfl (F.ag _ rfl) (by(repeat(refine ab (by omega) ?_));exact e1) (pp x) ?_|apply ah;rfl
   refine aE rfl rfl rfl (by kernel_rfl) (KD (oW (hb:=h) (hm:=cK mem) (by(repeat(refine ab (by omega) ?_));exact e2) (cx hv.len) (vr _ fun m hm hmb _=>by(repeat(refine ab (by omega) ?_));exact e3 m hm hmb) hm) ?_)
   rintro⟨_,H3,n3⟩ ⟨rfl,f2,f3,f4⟩
   dsimp only at f2 f3 f4 ⊢
   rw [hdI] at f2 ⊢
   have g1:H3.at' n2=some (dJ (I.1.1:Int) (I.1.2.1:Int)):=(f4 _ (by omega) (by omega)).trans (by repeat(exact ac))
   have g2:H3.at' b=some (putO mem left puts I.2):=(f4 _ (by omega) hne).trans (by(repeat(refine ab (by omega) ?_));exact d2)
   have g3: ∀ m,m<nx→m≠b→m≠h→H3.at' m=H.at' m:=fun m hm hmb hmh=>(f4 _ (by omega) hmh).trans (by(repeat(refine ab (by omega) ?_));exact e3 m hm hmb)
   clear d4 f4
   rcases hc with ⟨hc1,hc2⟩|⟨hc1,n,y,hc2,hc3,hc4,hc5⟩
   ·rw [hc2] at f2 g2
    have g2':H3.at' b=some (cT mem left puts):=g2
    have f2':H3.at' h=some (hpO (cK mem)):=f2
    repeat first|apply dA;rfl;rfl|apply iA;rfl;omega|apply ja (r:=true) (a:=((I.1.1:Int),(I.1.2.1:Int))) (b:=((I.1.1:Int),(I.1.2.1:Int))) (hr:=dv.2 rfl);rfl;rfl;rfl;rfl|apply ah;rfl|apply aG;rfl;(focus((repeat(first|assumption|exact ac|refine ab (by omega) ?_));done));rfl
    (apply bR Tryz.func9 Tryz.results9;rfl)
    exact⟨rfl,mem,left,puts,by(repeat(refine ab (by omega) ?_));exact g2',by(repeat(refine ab (by omega) ?_));exact f2',hv,⟨by omega,by omega⟩,⟨by omega,by omega⟩,by first|omega|(dsimp only;omega),fun m hm hmb hmh=>by(repeat(refine ab (by omega) ?_));exact g3 m hm hmb hmh,jb _⟩
   ·rw [hc2] at f2 g2
    have g2':H3.at' b=some (cT (fx mem n y) (left-1) (puts+1)):=g2
    have f2':H3.at' h=some (hpO (fx (cK mem) (n-32) y)):=f2
    rw [← kR hv.len hc3 hc4 hc5.len] at f2'
    have hv2:=hv.set hc3 hc4 hc5
    repeat first|refine df rfl rfl rfl (F.ag _ rfl) (by(repeat(refine ab (by omega) ?_));exact g2') (dD hv2.len _ _) ?_|apply dA;rfl;rfl|apply dA;rfl;omega|apply ja (r:=true) (a:=((I.1.1:Int),(I.1.2.1:Int))) (b:=((I.1.1:Int),(I.1.2.1:Int))) (hr:=dv.2 rfl);rfl;rfl;rfl;rfl|apply ah;rfl|apply aG;rfl;(focus((repeat(first|assumption|exact ac|refine ab (by omega) ?_));done));rfl|apply aL;rfl;omega;omega
    (apply bR Tryz.func9 Tryz.results9;rfl)
    exact⟨rfl,fx mem n y,left-1,puts+1,by(repeat(refine ab (by omega) ?_));exact g2',by(repeat(refine ab (by omega) ?_));exact f2',hv2,⟨by omega,by omega⟩,⟨by omega,by omega⟩,by first|omega|(dsimp only;omega),fun m hm hmb hmh=>by(repeat(refine ab (by omega) ?_));exact g3 m hm hmb hmh,qz hv.len hc4 hc5.len⟩
end
end Go.Proofs.YtnhmbonmlfeifaaGreat
end
section
namespace Go.Sy
open Go Go.Sl Go.RowKit
theorem E5{vF:Nat→SV}(h: ∀ (ρ:Nat→Nat) n,(vF n).ren ρ=vF (ρ n)){e e':Env}{a b:Nat}(hab:e a=e' b):(vF a).conc e=(vF b).conc e':=by
 have k: ∀ (e:Env) a,(vF a).conc e=(vF 0).conc (pull e fun _=>a):=fun e a=>by
  have:=eI (ρ:=fun _=>a) (e:=e) (vF 0)
  rw [h] at this
  exact this
 rw [k e a,k e' b,show pull e (fun _=>a)=pull e' (fun _=>b)from funext fun _=>hab]
theorem B6{K:Zone}{w:World}{vo:VO}{x:Ent}{e e':Env}{a b:Nat}(h: ∀ ρ,vo.ren ρ=vo)(hab:e a=e' b)(hl:Lies K w e vo x):Lies K w e' vo x:=by
 have k: ∀ (e:Env) a,Lies K w e vo x↔Lies K w (pull e fun _=>a) vo x:=fun e a=>by
  have:=kZ (K:=K) (w:=w) (vo:=vo) (x:=x) (ρ:=fun _=>a) (e:=e)
  rw [h] at this
  exact this
 rw [k e a,show pull e (fun _=>a)=pull e' (fun _=>b)from funext fun _=>hab] at hl
 exact(k e' b).2 hl
structure Mk where
 c:Nat
 vF:Nat→SV
 vo:VO
structure MkOne (P:Program) (rn:Rn) (R:List Rec) (H0:au) (n0 p:Nat) (m:Mk):Prop where
 ex: ∃ r,R[m.c]? =some r∧r.val=m.vF (n0+p)∧ ∀ (H:au) (n:Nat),n0≤n→(∀ i,i<n0→H.at' i=H0.at' i)→iz P rn r.T H n r.o (m.vF n,H.set n m.vo,n+1)
 ren: ∀ (ρ:Nat→Nat) n,(m.vF n).ren ρ=m.vF (ρ n)
 na: ∀ ρ,m.vo.ren ρ=m.vo
def ua(P:Program)(rn:Rn)(r:Rec)(H:au)(n:Nat):Prop:=ReadDoes P r.T H r.o r.val∨(Free r.val∧iz P rn r.T H n r.o (r.val,H,n))
structure MkOk (P:Program) (rn:Rn) (ops:Array Oper) (R:List Rec) (Q:List (au×Nat)) (C:List Nat) (ms:List Mk) (H0:au) (n0:Nat):Prop where
 c: ∀ (p:Nat) m,ms[p]? =some m→C[p]? =some m.c
 one: ∀ (p:Nat) m,ms[p]? =some m→MkOne P rn R H0 n0 p m
 q: ∃ Hk,Q[ms.length]? =some (Hk,n0+ms.length)∧(∀ i,i<n0∨n0+ms.length≤i→Hk.at' i=H0.at' i)∧ ∀ (p:Nat) m,ms[p]? =some m→Hk.at' (n0+p)=some m.vo
 behind: ∀ (j c:Nat),ms.length≤j→C[j]? =some c→ ∀ m∈ms,Anc ops c m.c
 fl: ∀ r∈R,r.chain=false→r.wanted=true→(∃ m∈ms,¬ Anc ops r.i m.c)→ ∀ H,(∀ i,i<n0→H.at' i=H0.at' i)→(∀ (p:Nat) m,ms[p]? =some m→Anc ops r.i m.c→H.at' (n0+p)=some m.vo)→ua P rn r H (n0+ms.length)
def Gh(ms:List Mk)(C:List Nat)(H0:au)(n0:Nat):Mem:=fun L e H n=>(∃ m∈ms,¬ L m.c)∧n=n0+ms.length∧(∀ (j c:Nat),ms.length≤j→C[j]? =some c→ ¬ L c)∧(∀ i,i<n0∨n0+ms.length≤i→H.at' i=H0.at' i) ∧
 ∀ (p:Nat) m,ms[p]? =some m→(L m.c→H.at' (n0+p)=some m.vo)∧(¬ L m.c→H.at' (n0+p)=none∧e (n0+p)=none)
section
variable {P:Program} {K:Zone} {w0:World} {rn:Rn} {nt:Nat} {ops:Array Oper} {T0:Tr SV} {R:List Rec} {Q:List (au×Nat)} {C:List Nat} {ms:List Mk} {H0:au} {n0:Nat}
theorem xB(hrn:nP P K w0 rn)(hR:RegOK P rn nt ops T0 R Q C)(hk:MkOk P rn ops R Q C ms H0 n0)(hl:DF P rn ops R Q C ms.length):t7 P K w0 nt ops R (fun L e H n=>Gh ms C H0 n0 L e H n∨JD Q C ms.length L e H n):=by
 intro L i o r e w tr H n fn rest k ds kd rof cs ho hr hro hni hanc hcl hT hwant hM hS
 rcases hM with hM|hM
 rotate_left
 ·obtain⟨e',w',u,H',n',g1,g2,g⟩:=sh hrn hR hl L i o r e w tr H n fn rest k ds kd rof cs ho hr hro hni hanc hcl hT hwant hM hS
  exact⟨e',w',u,H',n',g1,.inr g2,g⟩
 obtain⟨⟨m0,hm0,hm0L⟩,rfl,hlate,hold,hmk⟩:=hM
 have hrec:=hR.recs i r hr
 have stay:r.chain=false→Gh ms C H0 n0 (fun j=>L j∨j=i) e H (n0+ms.length):=fun hc=>by
  have hne: ∀ {j c:Nat},C[j]? =some c→c≠i:=fun {j c} hj he=>by
   subst he
   rw [hR.at_chain hj hr] at hc
   cases hc
  refine⟨⟨m0,hm0,?_⟩,rfl,fun j c hj hc'=>?_,hold,fun p m hp=>?_⟩
  ·obtain⟨p,hp⟩:=List.mem_iff_getElem?.1 hm0
   exact fun h=>h.elim hm0L (hne (hk.c p m0 hp))
  ·exact fun h=>h.elim (hlate j c hj hc') (hne hc')
  ·have hn:=hne (hk.c p m hp)
   exact⟨fun h=>(hmk p m hp).1 (h.resolve_right hn),fun h=>(hmk p m hp).2 fun h'=>h (.inl h')⟩
 cases hwd:r.wanted with
 | false=>
   rw [hwd] at hwant
   obtain⟨h1,h2⟩:=hrec.skip hwd
   exact⟨e,w,undef,H,_,KL e,.inl (stay h2),hS,by rw [h1];rfl,.one (jK ho hwant)⟩
 | true=>
   rw [hwd] at hwant
   cases hc:r.chain with
   | false=>
     have hri:=hrec.idx
     rcases hk.fl r (JT hr) hc hwd ⟨m0,hm0,fun h=>hm0L (hanc _ (hri ▸ h))⟩ H (fun i hi=>hold i (.inl hi)) (fun p m hp ha=>(hmk p m hp).1 (hanc _ (hri ▸ ha)))with hf|⟨hfree,hf⟩
     ·rw [hro] at hf
      obtain⟨u,hu,hst⟩:=oZ (P:=P) (fn:=fn) (rest:=rest) (k:=k) (ds:=ds) (kd:=kd) (rof:=rof) (cs:=cs) hS hT ho hwant (hro ▸ (hrec.float hwd hc).1) hf
      exact⟨e,w,u,H,_,KL e,.inl (stay hc),hS,hu,hst⟩
     ·rw [hro] at hf
      obtain⟨e1,w1,u,hle,hS1,hu,hst⟩:=mu (P:=P) hrn (fn:=fn) (rest:=rest) (k:=k) (ds:=ds) (kd:=kd) (rof:=rof) (cs:=cs) hS hT ho hwant hf
      exact⟨e,w1,u,H,_,KL e,.inl (stay hc),hS.drop hle hS1 (fun _ _=>rfl),hfree _ _ _ hu,hst⟩
   | true=>
     obtain⟨_,hC,_⟩:=hrec.eff hc
     have hlt:r.stg<ms.length:=by
      rcases Kd r.stg ms.length with h|h
      ·exact h
      ·exact absurd (hanc _ (hk.behind r.stg i h hC m0 hm0)) hm0L
     obtain⟨m,hm⟩: ∃ m,ms[r.stg]? =some m:=⟨_,JJ hlt⟩
     generalize r.stg=p at hC hlt hm
     have hmc:m.c=i:=by
      have:=hk.c _ m hm
      rw [hC] at this
      exact(Option.some.inj this).symm
     have h1:=hk.one p m hm
     obtain⟨r',hr',hv,hef⟩:=h1.ex
     rw [hmc,hr] at hr'
     cases hr'
     have hef:=hef H (n0+ms.length) (Nat.le_add_right _ _) (fun i hi=>hold i (.inl hi))
     rw [hro] at hef
     obtain⟨e1,w1,u,hle,hS1,hu,hst⟩:=mu (P:=P) hrn (fn:=fn) (rest:=rest) (k:=k) (ds:=ds) (kd:=kd) (rof:=rof) (cs:=cs) hS hT ho hwant hef
     obtain⟨_,heN⟩:=(hmk p m hm).2 (by rw [hmc];exact hni)
     have hle':e.le (fun j=>if j=n0+p then e1 (n0+ms.length) else e j):=fun j x hx=>by
      by_cases hj:j=n0+p
      ·rw [hj,heN] at hx;cases hx
      ·exact(Ka hj).trans hx
     have hlow: ∀ {j:Nat} {v:VO},H.at' j=some v→j<n0+ms.length:=fun {j v} h=>by
      obtain⟨x,hx,_⟩:=hS.rel j v h
      rcases Kd j (n0+ms.length)with q|q
      ·exact q
      ·rw [hS.fresh j q] at hx;cases hx
     have up: ∀ {j:Nat} {v:VO},(H.set (n0+p) m.vo).at' j=some v→(H.set (n0+ms.length) m.vo).at' (if j=n0+p then n0+ms.length else j)=some v:=fun {j v} h=>by
      rcases bQ h with ⟨rfl,rfl⟩|⟨hne,h⟩
      ·rw [Kb rfl];exact ac
      ·rw [Ka hne];exact ab (Nat.ne_of_lt (hlow h)) h
     have upe: ∀ {j:Nat} {v:VO} {x:Ent},(H.set (n0+p) m.vo).at' j=some v→(if j=n0+p then e1 (n0+ms.length) else e j)=some x→e1 (if j=n0+p then n0+ms.length else j)=some x:=fun {j v x} h hx=>by
      by_cases hj:j=n0+p
      ·rw [Kb hj] at hx ⊢;exact hx
      ·rw [Ka hj] at hx ⊢;exact hle j x hx
     have hS':St K w0 (fun j=>if j=n0+p then e1 (n0+ms.length) else e j) (H.set (n0+p) m.vo) (n0+ms.length) w1:=by
      refine⟨hS1.below,fun j v h=>?_,fun j j' v v' x x' a b c d hne q1 q2 q3 q4=>hS1.inj _ _ v v' x x' (up a) (up b) (upe a c) (upe b d) (fun he=>hne ?_) q1 q2 q3 q4,fun j hj=>(Ka (by omega)).trans (hS.fresh j hj)⟩
      ·obtain⟨x,hx,hlx⟩:=hS1.rel _ v (up h)
       rcases bQ h with ⟨rfl,rfl⟩|⟨hne,h⟩
       ·rw [Kb rfl] at hx
        exact⟨x,(Kb rfl).trans hx,B6 (a:=n0+ms.length+1) (b:=n0+ms.length+1) h1.na (by rw [hS1.fresh _ (JZ _),Ka (by omega),hS.fresh _ (J8 _)]) hlx⟩
       ·rw [Ka hne] at hx
        obtain⟨x0,hx0,hl0⟩:=hS.rel j v h
        have:=hle j x0 hx0
        rw [hx] at this
        cases this
        exact⟨x,(Ka hne).trans hx0,oh hle hle' hl0 hlx⟩
      ·by_cases g1:j=n0+p
       ·by_cases g2:j'=n0+p
        ·rw [g1,g2]
        ·rw [Kb g1,Ka g2] at he
         rcases bQ b with ⟨q,_⟩|⟨_,q⟩
         ·exact absurd q g2
         ·have:=hlow q
          omega
       ·by_cases g2:j'=n0+p
        ·rw [Ka g1,Kb g2] at he
         rcases bQ a with ⟨q,_⟩|⟨_,q⟩
         ·exact absurd q g1
         ·have:=hlow q
          omega
        ·rw [Ka g1,Ka g2] at he
         exact he
     have hval:r.val.conc (fun j=>if j=n0+p then e1 (n0+ms.length) else e j)=some u:=by
      rw [hv,E5 h1.ren (e':=e1) (b:=n0+ms.length) (Kb rfl)]
      exact hu
     refine⟨_,w1,u,H.set (n0+p) m.vo,n0+ms.length,hle',?_,hS',hval,hst⟩
     have hqp: ∀ {q:Nat} {mq:Mk},ms[q]? =some mq→mq.c=i→q=p:=fun {q mq} hq he=>po hR (by rw [← he];exact hk.c q mq hq) hC
     have hinj: ∀ {j:Nat},C[j]? =some i→j=p:=fun {j} hj=>po hR hj hC
     by_cases hall: ∀ m'∈ms,L m'.c∨m'.c=i
     ·obtain⟨Hk,hQ,g1,g2⟩:=hk.q
      have hH:H.set (n0+p) m.vo=Hk:=funext fun j=>by
       show(H.set (n0+p) m.vo).at' j=Hk.at' j
       by_cases hj:j<n0∨n0+ms.length≤j
       ·exact(ab (by omega) (hold j hj)).trans (g1 j hj).symm
       ·obtain⟨q,rfl⟩: ∃ q,j=n0+q:=⟨j-n0,by omega⟩
        obtain⟨mq,hq⟩: ∃ mq,ms[q]? =some mq:=⟨_,JJ (by omega)⟩
        rw [g2 q mq hq]
        by_cases hqe:q=p
        ·subst hqe
         rw [hm] at hq
         cases hq
         exact ac
        ·exact ab (by omega) ((hmk q mq hq).1 ((hall mq (JT hq)).resolve_right fun he=>hqe (hqp hq he)))
      refine .inr ⟨ms.length,JZ _,by rw [hH];exact hQ,fun j c hj=>⟨fun h=>?_,fun h=>?_⟩⟩
      ·rcases Kd j ms.length with g|g
       ·exact g
       ·exact h.elim (fun h=>absurd h (hlate j c g hj)) fun h=>by
         subst h
         have:=hinj hj
         omega
      ·obtain⟨m',hm'⟩: ∃ m',ms[j]? =some m':=⟨_,JJ h⟩
       have:=hk.c j m' hm'
       rw [hj] at this
       cases this
       exact hall m' (JT hm')
     ·refine .inl ⟨?_,rfl,fun j c hj hc'=>?_,fun j hj=>ab (by omega) (hold j hj),fun q mq hq=>⟨fun h=>?_,fun h=>?_⟩⟩
      ·apply Classical.byContradiction
       intro hno
       exact hall fun m' hm'=>Classical.byContradiction fun h=>hno ⟨m',hm',h⟩
      ·rintro(h|h)
       ·exact hlate j c hj hc' h
       ·subst h
        have:=hinj hc'
        omega
      ·by_cases hqe:q=p
       ·subst hqe
        rw [hm] at hq
        cases hq
        exact ac
       ·exact ab (by omega) ((hmk q mq hq).1 (h.resolve_right fun he=>hqe (hqp hq he)))
      ·have hqe:q≠p:=fun he=>by
        subst he
        rw [hm] at hq
        cases hq
        exact h (.inr hmc)
       have:=(hmk q mq hq).2 fun h'=>h (.inl h')
       exact⟨ab (by omega) this.1,(Ka (by omega)).trans this.2⟩
end
def addL(H:au):Nat→List VO→au
 | _,[]=>H
 | n,vo :: l=>addL (H.set n vo) (n+1) l
theorem pA: ∀ (l:List VO) (H:au) (n i:Nat),(addL H n l).at' i=if n≤i∧i<n+l.length then l[i-n]? else H.at' i
 | [],H,n,i=>by
   rw [Ka (by simp only [List.length_nil];omega)]
   rfl
 | x :: l,H,n,i=>by
   show(addL (H.set n x) (n+1) l).at' i=_
   rw [pA l]
   by_cases h1:n+1≤i∧i<n+1+l.length
   ·rw [Kb h1,Kb (by simp only [J2];omega),show i-n=(i-(n+1))+1 by omega]
    rfl
   ·rw [Ka h1]
    by_cases h2:i=n
    ·subst h2
     rw [Kb (by simp only [J2];omega),Nat.sub_self]
     exact ac
    ·rw [Ka (by simp only [J2];omega)]
     exact ab h2 rfl
def MkAll(P:Program)(rn:Rn)(R:List Rec)(H0:au)(n0:Nat):Nat→List Mk→Prop
 | _,[]=>True
 | p,m :: l=>MkOne P rn R H0 n0 p m∧MkAll P rn R H0 n0 (p+1) l
theorem MkAll.get{P:Program}{rn:Rn}{R:List Rec}{H0:au}{n0:Nat}: ∀ {l:List Mk} {p:Nat},MkAll P rn R H0 n0 p l→ ∀ (j:Nat) m,l[j]? =some m→MkOne P rn R H0 n0 (p+j) m
 | [],_,_,j,m,h=>by simp at h
 | x :: l,p,hh,0,m,h=>by
   cases h
   exact hh.1
 | x :: l,p,hh,j+1,m,h=>by
   rw [show p+(j+1)=p+1+j by omega]
   exact hh.2.get j m (by simpa using h)
def JC(b:Nat)(H:au):Nat→List Mk→Prop
 | _,[]=>True
 | n,m :: l=>(b.testBit m.c=true→H.at' n=some m.vo)∧JC b H (n+1) l
theorem uO{b:Nat}{H:au}: ∀ {l:List Mk} {n:Nat},(∀ (p:Nat) m,l[p]? =some m→b.testBit m.c=true→H.at' (n+p)=some m.vo)→JC b H n l
 | [],_,_=>trivial
 | m :: l,n,h=>⟨fun hb=>h 0 m rfl hb,uO fun p m' hp hb=>by
    rw [show n+1+p=n+(p+1) by omega]
    exact h (p+1) m' hp hb⟩
def FlM(P:Program)(ancs chain:List Nat)(ms:List Mk)(H0:au)(n0:Nat)(Q:List (au×Nat)):List Rec→Prop
 | []=>True
 | r :: l=>((r.chain || !r.wanted || (Nat.beq (jX (ancs.getD r.i 0) chain) r.stg && Nat.beq (eX ancs r.i chain) r.stg && ms.all fun m=>(ancs.getD r.i 0).testBit m.c))=true ∨
    ((∀ H n,(∀ i,i<n0→H.at' i=H0.at' i)→JC (ancs.getD r.i 0) H n0 ms→ua P (wpr P) r H n)∧AllHQ (Q.take (chain.length-ms.length)) (fun H n=>ua P (wpr P) r H n)))∧FlM P ancs chain ms H0 n0 Q l
theorem FlM.ok{P:Program}{ancs chain:List Nat}{ms:List Mk}{H0:au}{n0:Nat}{Q:List (au×Nat)}: ∀ {l:List Rec},FlM P ancs chain ms H0 n0 Q l→ ∀ r∈l,r.chain=false→r.wanted=true →
 (jX (ancs.getD r.i 0) chain=r.stg∧eX ancs r.i chain=r.stg∧ ∀ m∈ms,(ancs.getD r.i 0).testBit m.c=true)∨((∀ H n,(∀ i,i<n0→H.at' i=H0.at' i)→JC (ancs.getD r.i 0) H n0 ms→ua P (wpr P) r H n)∧AllHQ (Q.take (chain.length-ms.length)) (fun H n=>ua P (wpr P) r H n))
 | [],_,r,hm,_,_=>by cases hm
 | r0 :: l,hh,r,hm,hc,hw=>by
   rcases Kp.1 hm with rfl|hm
   ·rcases hh.1 with h|h
    ·rw [hc,hw] at h
     simp only [Bool.not_true,Bool.false_or,JY] at h
     exact .inl ⟨Kq h.1.1,Kq h.1.2,fun m hm=>List.all_eq_true.1 h.2 m hm⟩
    ·exact .inr h
   ·exact FlM.ok hh.2 r hm hc hw
theorem zi{P:Program}{rn:Rn}{nt:Nat}{ops:Array Oper}: ∀ {l:List Oper} {i:Nat} {s s':DS},DrawRun P rn nt ops i l s s'→s'.recs.length=s.recs.length+l.length
 | [],i,s,s',h=>by
   cases h
   rfl
 | o :: l,i,s,s',h=>by
   cases h with
   | cons h1 h2=>
     rw [zi h2,J2]
     rcases h1 with ⟨_,rfl⟩|⟨_,_,v,_,rfl⟩|⟨_,v,H,nx,_,rfl⟩ <;> simp only [J2] <;> omega
def DA(ancs cs l:List Nat):Bool:=kp ancs l && l.all fun d=>cs.all fun c=>(ancs.getD d 0).testBit c
section
variable {P:Program} {ro:Option Nat} {fn nt nx:Nat} {T:Tr SV} {k:List AIt} {dfs:List ADf} {H:au} {Q:Pst}
theorem Bk{id:Nat}{opl:List Oper}(hm:P.follows .mixedOrders=true)(hr:gp nt opl=true)
 (h:pF P nt opl.toArray 0 opl ⟨T,H,nx,[],[(H,nx)],0⟩ (fun s=> ∃ (ms:List Mk) (l:List Nat),eR s=ms.map (·.c) ++ l∧DA (eS [] opl) (ms.map (·.c)) l=true∧ms≠ []∧s.Hs.reverse[ms.length]? =some (addL H nx (ms.map (·.vo)),nx+ms.length) ∧
   MkAll P (wpr P) s.recs.reverse H nx 0 ms∧FlM P (eS [] opl) (eR s) ms H nx s.Hs s.recs∧Wp P ro ⟨fn,nt,s.T,k,dfs,s.H,s.nx⟩ Q)) :
 Wp P ro ⟨fn,nt,T,.code (.region id opl.toArray true) :: k,dfs,H,nx⟩ Q:=by
 obtain⟨s,hs,ms,l,h1,h2,h3,h4,h5,h6,h7⟩:=h.ex
 refine⟨fun K w0 e w tmps todo ds' kd rof cs' hS hT ht hd hc=>?_⟩
 obtain⟨it,k',rfl,hi,hk⟩:=ht.cons
 have hi:it=Item.code (.region id opl.toArray true):=hi
 subst hi
 simp only [DA,JY] at h2
 have hcl: ∀ (p:Nat) m,ms[p]? =some m→(eR s)[p]? =some m.c:=fun p m hp=>by
  rw [h1,JW (by rw [Kf];exact(JK.1 hp).1),Kr,hp]
  rfl
 have hrest: ∀ (j c:Nat),ms.length≤j→(eR s)[j]? =some c→l[j-ms.length]? =some c:=fun j c hj hc=>by
  rw [h1,Kk (by rw [Kf];exact hj),Kf] at hc
  exact hc
 have hlow: ∀ {i:Nat} {v:VO},H.at' i=some v→i<nx:=fun {i v} hi=>by
  obtain⟨x,hx,_⟩:=hS.rel i v hi
  rcases Kd i nx with q|q
  ·exact q
  ·rw [hS.fresh i q] at hx;cases hx
 have hnone: ∀ i,nx≤i→H.at' i=none:=fun i hi=>by
  cases hv:H.at' i with
  | none=>rfl
  | some v=>have:=hlow hv;omega
 have hpos:0<ms.length:=List.length_pos_iff.2 h3
 obtain⟨m0,hm0⟩: ∃ m0,m0∈ms:=List.exists_mem_of_ne_nil ms h3
 obtain⟨e',w',tmps',H',n',L,g1,g2,g3,g4,g5,g6⟩:=wX (K:=K) (w0:=w0) (rn:=wpr P) hm (ops:=opl.toArray) (w:={w with drawn:=w.drawn+1}) hr hs
  (M:=fun L e H' n=>Gh ms (eR s) H nx L e H' n∨JD s.Hs.reverse (eR s) ms.length L e H' n)
  (fun hR=>by
    have hfl:=FlM.ok h6
    refine xB (oq K w0) hR ⟨hcl,fun p m hp=>by have:=h5.get p m hp;rwa [Kc] at this,⟨_,h4,fun i hi=>?_,fun p m hp=>?_⟩,fun j c hj hc m hm=>?_,fun r hr hc hw ⟨m,hm,hb⟩ H1 q1 q2=>?_⟩ ⟨fun j c c' hj q1 q2=>?_,fun r hr hc hw st hst hlo hhi H1 n1 hQ1=>sO hR hr hc hw hQ1 fun hne=>?_⟩
    ·rw [pA,Ka (by rw [Kf];omega)]
    ·have:=(JK.1 hp).1
     rw [pA,Kb (by rw [Kf];omega),Nat.add_sub_cancel_left,Kr,hp]
     rfl
    ·exact List.all_eq_true.1 (List.all_eq_true.1 h2.2 c (JT (hrest j c hj hc))) m.c (List.mem_map_of_mem hm)
    ·rcases hfl r (by simpa using hr) hc hw with ⟨_,_,h⟩|h
     ·exact absurd (h m hm) hb
     ·exact h.1 H1 _ q1 (uO q2)
    ·exact ng h2.1 (j-ms.length) c c' (hrest j c hj q1) (by rw [show j-ms.length+1=j+1-ms.length by omega];exact hrest (j+1) c' (by omega) q2)
    ·have both:ua P (wpr P) r H1 n1→t9 P (wpr P) r.T H1 n1 r.o r.val:=fun h=>h.elim .inl fun h=> .inr h.2
     rcases hfl r (by simpa using hr) hc hw with ⟨q1,q2,_⟩|h
     ·exact absurd (Nat.le_antisymm (q2 ▸ hhi) (q1 ▸ hlo)) hne
     ·refine both ?_
      have hlen:=hR.stages
      change s.Hs.reverse.length=(eR s).length+1 at hlen
      have hst1:=(JK.1 hQ1).1
      rw [List.length_reverse] at hlen hst1
      rcases Kd ms.length st with hg|hg
      ·refine AllHQ.get h.2 (i:=s.Hs.length-1-st) ?_
       rw [List.getElem?_take,Kb (by omega),←List.getElem?_reverse hst1]
       exact hQ1
      ·have hst2:st=ms.length:=by omega
       subst hst2
       rw [h4] at hQ1
       cases hQ1
       refine h.1 _ _ (fun i hi=>?_) (uO fun p m hp _=>?_)
       ·rw [pA,Ka (by omega)]
       ·have:=(JK.1 hp).1
        rw [pA,Kb (by rw [Kf];omega),Nat.add_sub_cancel_left,Kr,hp]
        rfl)
  (n:=nx+ms.length) (.inl ⟨⟨m0,hm0,fun h=>h⟩,rfl,fun _ _ _ _ h=>h,fun _ _=>rfl,fun p m hp=>⟨fun h=>h.elim,fun _=>⟨hnone _ (Nat.le_add_right _ _),hS.fresh _ (Nat.le_add_right _ _)⟩⟩⟩)
  (by
    have h:=hS.drew (w:=w)
    exact⟨h.below,h.rel,h.inj,fun i hi=>h.fresh i (by show nx≤i;omega)⟩) hT (w.tape w.drawn (.order fn id)) fn k' ds' kd rof cs'
 rcases g3 with ⟨⟨m,hm,hno⟩,_⟩|g3
 ·exfalso
  obtain⟨p,hp⟩:=List.mem_iff_getElem?.1 hm
  have:=hcl p m hp
  obtain⟨r,hr1,_⟩:=(h5.get p m hp).ex
  have hlt:=(JK.1 hr1).1
  rw [List.length_reverse,zi hs] at hlt
  exact hno (g2 _ (by simpa using hlt))
 obtain⟨rfl,rfl⟩:=ww hr hs g3 g2
 exact(h7.run K w0 e' w' tmps' k' ds' kd rof cs' g4 g5 (hk.mono g1) (hd.mono g1) (hc.mono g1)).pre (.head yY (g6.trans (.one jJ))) g1 rfl rfl (fun _ hr=>hr)
end
section
variable {P:Program} {tb:Tbl} {ancs chain:List Nat} {ms:List Mk} {H0:au} {n0:Nat} {Q:List (au×Nat)} {r:Rec} {l:List Rec}
theorem fm_c(h:r.chain=true)(k:FlM P ancs chain ms H0 n0 Q l):FlM P ancs chain ms H0 n0 Q (r :: l):=⟨.inl (pk h),k⟩
theorem Jh(h1: ∀ H n,(∀ i,i<n0→H.at' i=H0.at' i)→JC (ancs.getD r.i 0) H n0 ms→ua P (wpr P) r H n)(h2:AllHQ (Q.take (chain.length-ms.length)) (fun H n=>ua P (wpr P) r H n))(k:FlM P ancs chain ms H0 n0 Q l):FlM P ancs chain ms H0 n0 Q (r :: l):=⟨.inr ⟨h1,h2⟩,k⟩
theorem Jx{p:au→Nat→Prop}(h: ∀ H n,p H n): ∀ Q:List (au×Nat),AllHQ Q p
 | []=>trivial
 | q :: l=>⟨h q.1 q.2,Jx h l⟩
theorem fm_pG(ht:TblOk P tb)(h:nL tb r.T r.o.op=some r.val)(k:FlM P ancs chain ms H0 n0 Q l):FlM P ancs chain ms H0 n0 Q (r :: l):=Jh (fun _ _ _ _=> .inl (jg ht h)) (Jx (fun _ _=> .inl (jg ht h)) _) k
end
end Go.Sy
namespace Go.Proofs.YtnhmbonmlfeifaaGreat
open Go Go.Sy
theorem fm_p{ancs chain:List Nat}{ms:List Mk}{H0:au}{n0:Nat}{Q:List (au×Nat)}{r:Rec}{l:List Rec}(h:nL yg r.T r.o.op=some r.val)(k:FlM Tryz.prog ancs chain ms H0 n0 Q l):FlM Tryz.prog ancs chain ms H0 n0 Q (r :: l):=fm_pG jI h k
end Go.Proofs.YtnhmbonmlfeifaaGreat
end
section
namespace Go.Proofs.YtnhmbonmlfeifaaGreat
open Go Go.Sy Go.Sl Go.RowKit
section
variable {H:au}{i nx:Nat}{l:List (Int×Int)}{pf:Nat→List UInt8}
theorem Cw{s:SV}{v:gj}(hv:VerIs H s v)(hm:gV v=true):Fnc Tryz.prog 46 [s] H nx (fun q=>q=(.slu nx 0 (aQ v).length,H.set nx (dat false (aQ v).length 1 5 (byV (aQ v))),nx+1)):=Fnc.next (w7 hv hm)
theorem yc(v:gj)(x:Nat):aQ (v.1,v.2.1,v.2.2.1,x)=bg (aQ v) 8 (beB x 8):=by
 have h8:=bz v.2.2.1 8
 have hx:=bz x 8
 have hy:=bz v.2.2.2 8
 unfold aQ bg
 dsimp only
 rw [List.take_left' h8,hx,←List.drop_drop,List.drop_left' h8,List.drop_left' hy,Kl]
theorem uY{hb x:Nat}{n k:Int}{hm:List UInt8}(hH:H.at' hb=some (hpO hm))(hl:hm.length=98304):Fnc Tryz.prog 23 [.ptr hb 0,xA (n,k),.sc (.int .u64 (x:Int))] H nx
 (fun q=>q.1 = .sc (.int .i64 ((kQ (dfH hm) n k x).1:Int))∧q.2.1.at' hb=some (hpO (HH hm (kQ (dfH hm) n k x).2))∧nx≤q.2.2∧ ∀ m,m<nx→m≠hb→q.2.1.at' m=H.at' m):=by
 refine KE Tryz.func23 rfl rfl ?_
 refine aV fun hund=>?_
 have lH:=hund _ _ hH
 repeat first|apply ah;rfl|apply aG;rfl;(focus((repeat(exact ac));done));rfl
 refine cQ (R:=fun H1 n1=>n1=nx+1∧H1.at' nx=some (dJ n k)∧H1.at' hb=some (hpO hm)∧ ∀ m,m<nx→H1.at' m=H.at' m) ⟨rfl,by repeat(exact ac),by(repeat(refine ab (by omega) ?_));exact hH,fun m hm=>by(repeat(refine ab (by omega) ?_));rfl⟩ ?_
 rintro H1 n1 ⟨rfl,a1,a4,a3⟩
 by_cases hbad:4000<x∨lQ n k=false
 ·have hM:kQ (dfH hm) n k x=(2,none):=by unfold kQ;rw [Kb hbad]
  rw [hM]
  have hb2:n<32∨127<n∨k<0∨4000<x:=by
   rcases hbad with h|h
   ·exact .inr (.inr (.inr h))
   ·have:=of_decide_eq_false h
    omega
  clear hbad hM
  by_cases h1:n<32
  ·clear hb2
   repeat first|apply pG;rfl;omega|apply ah;rfl
   (apply bR Tryz.func23 Tryz.results23;rfl)
   exact⟨rfl,a4,J8 _,fun m hm _=>a3 m hm⟩
  ·by_cases h2:127<n
   ·clear hb2
    repeat first|apply pG;rfl;omega|apply ll;rfl;omega|apply ah;rfl|apply aG;rfl;assumption;rfl
    (apply bR Tryz.func23 Tryz.results23;rfl)
    exact⟨rfl,a4,J8 _,fun m hm _=>a3 m hm⟩
   ·by_cases h3:k<0
    ·clear hb2
     repeat first|apply pG;rfl;omega|apply ll;rfl;omega|apply ah;rfl|apply aG;rfl;assumption;rfl
     (apply bR Tryz.func23 Tryz.results23;rfl)
     exact⟨rfl,a4,J8 _,fun m hm _=>a3 m hm⟩
    ·have h4:4000<x:=by omega
     clear hb2
     repeat first|apply pG;rfl;omega|apply ll;rfl;omega|apply ah;rfl|apply aG;rfl;assumption;rfl
     (apply bR Tryz.func23 Tryz.results23;rfl)
     exact⟨rfl,a4,J8 _,fun m hm _=>a3 m hm⟩
 ·have hx:x≤4000:=by omega
  have hmay:lQ n k=true:=by cases h:lQ n k with|true=>rfl|false=>exact absurd (.inr h) hbad
  have hmd:32≤n∧n<128∧0≤k:=Km hmay
  obtain⟨N,rfl⟩: ∃ N:Nat,n=((32+N:Nat):Int):=⟨(n-32).toNat,by omega⟩
  obtain⟨K,rfl⟩: ∃ K:Nat,k=(K:Int):=⟨k.toNat,by omega⟩
  have hN:N<96:=by omega
  have hdf:dfH hm (32+N)=bareP (az hm N):=by unfold dfH;rw [show 32+N-32=N by omega]
  have hM:kQ (dfH hm) ((32+N:Nat):Int) (K:Int) x=if(pn (dfH hm) (32+N) (kc K x)).2≠0 then((pn (dfH hm) (32+N) (kc K x)).2,none) else(0,some (32+N,(pn (dfH hm) (32+N) (kc K x)).1)):=by
   unfold kQ
   rw [Ka hbad,Ks,Ks]
  have hch:pn (dfH hm) (32+N) (kc K x)=if(aM (bareP (az hm N))).2≠0 then(zeroP,13) else kc K x (aM (bareP (az hm N))).1:=by unfold pn;rw [hdf]
  rw [hM]
  clear hM hdf
  have hg:mn (dfH hm) ((32+N:Nat):Int) (K:Int)=if(aM (bareP (az hm N))).2≠0 then(iY,(aM (bareP (az hm N))).2) else if(cm (aM (bareP (az hm N))).1 K).2.2≠0 then(iY,6) else
   ((ofV (aS (aM (bareP (az hm N))).1 K)).getD iY,B0 (ofV (aS (aM (bareP (az hm N))).1 K))):=by
   have hdf:dfH hm (32+N)=bareP (az hm N):=by unfold dfH;rw [show 32+N-32=N by omega]
   unfold mn
   rw [Ka (by rw [hmay];decide),Ks,Ks,hdf]
  have hpl:=gJ hl hN
  have hrs:=fun(H:au) nx (h:H.at' hb=some (hpO hm))=>l5 (nx:=nx) h hl hN
  have hno:=l0 (p:=bareP (az hm N))
  clear hbad
  repeat first|apply ll;rfl;omega|apply ah;rfl|apply aG;rfl;assumption;rfl
  refine aE rfl rfl rfl (by kernel_rfl) (KD (oY (n:=((32+N:Nat):Int)) (k:=(K:Int)) a4 hl) ?_)
  rintro⟨_,H2,n2⟩ ⟨s',r,rfl,b1,b2,b3,b4⟩
  dsimp only at b1 b2 b3 b4 ⊢
  refine aV fun hund2=>?_
  have c1:H2.at' nx=some (dJ ((32+N:Nat):Int) (K:Int)):=(b4 _ (by omega)).trans a1
  have c2:H2.at' hb=some (hpO hm):=(b4 _ (by omega)).trans a4
  have co: ∀ m,m<nx→H2.at' m=H.at' m:=fun m hm=>(b4 _ (by omega)).trans (a3 m hm)
  clear b4 a1 a4 a3
  obtain⟨vk,vw,rfl,hk1,hw1⟩:=b1
  have hone: ∀ x y:Nat,bm (dB vk vw x y)=true:=fun x y=>by simp only [bm,cN hk1.bs,cN hw1.bs];rfl
  rw [hg] at hk1 hw1 ⊢
  clear hg
  clear hmay hund
  by_cases he:(aM (bareP (az hm N))).2=0
  ·rw [Ka (fun h=>h he)] at hch hk1 hw1 ⊢
   rw [nU he] at hrs
   obtain⟨hpp,hr,hof⟩:=cj (p:=bareP (az hm N)) (q:=(aM (bareP (az hm N))).1) (Prod.ext rfl he) (dp hpl)
   generalize (aM (bareP (az hm N))).1=p at hrs hpp hr hof hch hk1 hw1 ⊢
   dsimp only [BN] at hrs
   by_cases hK:ae p≤K∨ar p K=0
   ·have hfd:cm p K=(0,0,6):=by unfold cm;split;rfl;rw [Kb (by omega)]
    rw [hfd,Kb (by decide)]
    have hch2:pn (dfH hm) (32+N) (kc K x)=(zeroP,6):=by rw [hch];unfold kc;rw [hfd,Kb (by decide)]
    rw [hch2,Kb (by decide)]
    dsimp only
    repeat first|apply ah;rfl|refine cU rfl rfl rfl (F.sz _ rfl) (by repeat(first|assumption|exact ac)) rfl (by exact JL rfl) (hone _ _) rfl ?_|apply iA;rfl;omega
    (apply bR Tryz.func23 Tryz.results23;rfl)
    exact⟨rfl,by repeat(first|assumption|refine ab (by omega) ?_),by dsimp only;omega,fun m hm _=>by(repeat(refine ab (by omega) ?_));exact co m hm⟩
   ·have hs:ar p K≠0:=fun h=>hK (.inr h)
    have hn:K<ae p:=by omega
    have hfd:cm p K=(ay p K,ar p K,0):=by unfold cm;rw [Ka (by omega),Ka hs]
    have hbs:=db hr hn hs
    have hil:=dL hpp hbs.2.2.2
    have hos:=hof K hn hs
    obtain⟨v,hv⟩: ∃ v,ofV (aS p K)=some v:=by cases h:ofV (aS p K)with|some v=>exact⟨v,rfl⟩|none=>rw [h] at hos;cases hos
    have hiv:=Df hv
    rw [hfd,Ka (fun h=>h rfl),hv] at hk1 hw1 ⊢
    have hmv:gV v=true:=uG hv
    have hmv2:gV (v.1,v.2.1,v.2.2.1,x)=true:=by
     have:=Km hmv
     exact Kt ⟨this.1,this.2.1,this.2.2.1,hx⟩
    have hbl:=dT (v.1,v.2.1,v.2.2.1,x)
    have hbe:=yc v x
    have h8:=bz x 8
    have hbv:=dT v
    have hlen:(aQ (v.1,v.2.1,v.2.2.1,x)).length=ar p K:=by rw [← hil,hiv,hbl,hbv]
    have hch2:pn (dfH hm) (32+N) (kc K x)=(bg p (ay p K) (aQ (v.1,v.2.1,v.2.2.1,x)),0):=by rw [hch,hbe,←hiv];unfold kc;rw [hfd,Ka (fun h=>h rfl)]
    rw [hch2,Ka (fun h=>h rfl)]
    dsimp only [HH,Option.getD,B0] at hk1 hw1 ⊢
    rw [show 32+N-32=N by omega]
    clear hch hch2 hbe hiv hv hos hof hfd
    repeat first|apply ah;rfl|apply aG;rfl;(focus((repeat(first|assumption|exact ac|refine ab (by omega) ?_));done));rfl|apply aL;rfl;omega;omega|refine cU rfl rfl rfl (F.sz _ rfl) (by repeat(first|assumption|exact ac)) rfl (by exact JL rfl) (hone _ _) rfl ?_|apply dA;rfl;(rfl)
    rw [show((32+N:Nat):Int)-32=(N:Int) by omega]
    have hrs2:=fun(H:au) nx (h:H.at' hb=some (hpO hm))=>hrs H nx h
    repeat first|apply bJ hpp aj;rfl;(focus((repeat(exact ac));done))|refine be rfl rfl cq ?_|apply ah;rfl|apply bW;rfl;kernel_rfl;exact hrs _ _ (by repeat(first|assumption|refine ab (by omega) ?_))
    have hvk:v.1≠ []:=fun h=>by
     have:=Km hmv
     rw [h] at this
     exact absurd this.1.1 (by decide)
    have hrn:r<n2:=by
     obtain⟨vo,h⟩:=hk1.there hvk
     exact hund2 _ _ h
    refine cQ (R:=fun H4 n4=>n4=n2+1+1∧H4.at' n2=some (ez (dB vk vw v.2.2.1 x))∧H4.at' (n2+1)=some (pgO p)∧H4.at' nx=some (dJ ((32+N:Nat):Int) (K:Int))∧H4.at' hb=some (hpO hm)∧BlkS H4 vk r v.1∧BlkS H4 vw r v.2.1∧ ∀ m,m<nx→H4.at' m=H.at' m)
     ⟨by omega,by repeat(first|exact ac|refine ab (by omega) ?_),by repeat(exact ac),by repeat(first|assumption|refine ab (by omega) ?_),by repeat(first|assumption|refine ab (by omega) ?_),hk1.frame (by(repeat(refine ab (by omega) ?_));rfl),hw1.frame (by(repeat(refine ab (by omega) ?_));rfl),fun m hm=>by(repeat(refine ab (by omega) ?_));exact co m hm⟩ ?_
    rintro H4 n4 ⟨rfl,d1,d2,d3,d4,d5,d6,d7⟩
    clear c1 c2 co hk1 hw1 hrs hrs2 hno hmd hund2 hbl hbv h8 hvk
    have hby: ∀ (H5:au) n5,H5.at' r=H4.at' r→Fnc Tryz.prog 46 [im vk vw v.2.2.1 x] H5 n5 (fun q=>q=(.slu n5 0 (aQ (v.1,v.2.1,v.2.2.1,x)).length,H5.set n5 (dat false (aQ (v.1,v.2.1,v.2.2.1,x)).length 1 5 (byV (aQ (v.1,v.2.1,v.2.2.1,x)))),n5+1)):=fun H5 n5 h=>
     Cw (v:=(v.1,v.2.1,v.2.2.1,x)) (BlkS.DI (v:=(v.1,v.2.1,v.2.2.1,x)) (d5.frame h) (d6.frame h)) hmv2
    have hxl:(bg p (ay p K) (aQ (v.1,v.2.1,v.2.2.1,x))).length=1024:=(bS (by omega)).trans hpp
    have hset: ∀ (rb:Nat) (H5:au) n5,H5.at' rb=some (dat false (aQ (v.1,v.2.1,v.2.2.1,x)).length 1 5 (byV (aQ (v.1,v.2.1,v.2.2.1,x))))→Fnc Tryz.prog 61 [.agg (pgS p),.sc (.int .i64 (K:Int)),.slu rb 0 (aQ (v.1,v.2.1,v.2.2.1,x)).length] H5 n5 (fun q=>q=(pgE (bg p (ay p K) (aQ (v.1,v.2.1,v.2.2.1,x)),0),H5,n5)):=fun rb H5 n5 h=>
     D9 hpp hr hn hs (by rw [sd];exact h) hlen
    generalize aQ (v.1,v.2.1,v.2.2.1,x)=it at hby hset hlen hxl ⊢
    generalize bg p (ay p K) it=y at hset hxl ⊢
    (apply Bk;(focus(kernel_rfl));(focus(kernel_rfl)))
    refine ej 5 (JL rfl) ?_
    repeat first|refine cn rfl rfl rfl (F.ag _ rfl) d2 (bh hpp) ?_|apply b9;rfl;rfl;rfl;(focus(kernel_rfl));exact(hby _ _ rfl)|apply dN;rfl;assumption;rfl|apply aW;rfl
    refine aA ?_;refine er rfl rfl rfl (by kernel_rfl) (hset _ _ _ (by repeat(exact ac))) ?_
    refine jy ?_
    repeat first|refine pR (fp cq) rfl rfl rfl ?_|refine bY rfl rfl rfl (F.sz _ rfl) (by repeat(exact ac)) (bh hxl) (by rw [bh aj];exact JZ _) (hZ _) (lu _ _ aj hxl) ?_|apply aW;rfl
    refine aA ?_
    refine⟨[⟨4,fun n=> .slu n 0 it.length,dat false it.length 1 5 (byV it)⟩,⟨9,fun n=> .ptr n 0,pgO zeroP⟩],[10],by kernel_rfl,by kernel_rfl,List.cons_ne_nil _ _,rfl,
     ⟨⟨⟨_,rfl,rfl,fun H5 n5 _ h2=>pc rfl (by kernel_rfl) (hby _ _ (h2 _ (by omega)))⟩,fun _ _=>rfl,fun ρ=>oF _ _ _ _ _ _⟩,⟨⟨_,rfl,rfl,fun H5 n5 _ _=>E2 (fun _ h=>(by cases h)) (fp cq)⟩,fun _ _=>rfl,fun ρ=>zn⟩,trivial⟩,?_,?_⟩
    ·repeat first|exact KO|apply fm_c;rfl|apply fm_p;rfl|refine Jh (fun H5 n5 g1 g2=> .inl (aU (F.ag _ rfl) rfl ((g1 _ (by omega)).trans d2) (bv hpp))) ⟨.inl (aU (F.ag _ rfl) rfl (by(repeat(refine ab (by omega) ?_));exact d2) (bv hpp)),trivial⟩ ?_|refine Jh (fun H5 n5 g1 g2=> .inl (aU (F.ag _ rfl) rfl ((g1 _ (by omega)).trans d1) (ak _ 0 rfl rfl))) ⟨.inl (aU (F.ag _ rfl) rfl (by(repeat(refine ab (by omega) ?_));exact d1) (ak _ 0 rfl rfl)),trivial⟩ ?_|refine Jh (fun H5 n5 g1 g2=> .inl (an (F.ag _ rfl) rfl ((g1 _ (by omega)).trans d3) (aD rfl))) ⟨.inl (an (F.ag _ rfl) rfl (by(repeat(refine ab (by omega) ?_));exact d3) (aD rfl)),trivial⟩ ?_|refine Jh (fun H5 n5 g1 g2=> .inr ⟨Free.two (Free.agg (byV y)) (Free.sc _),pc rfl (by kernel_rfl) (hset _ _ _ (g2.1 (by kernel_rfl)))⟩) ⟨.inr ⟨Free.two (Free.agg (byV y)) (Free.sc _),pc rfl (by kernel_rfl) (hset _ _ _ (by repeat(first|exact ac|refine ab (by omega) ?_)))⟩,trivial⟩ ?_
    dsimp only
    refine cQ (R:=fun H5 n5=>n2+1+1+1<n5∧H5.at' (n2+1+1+1)=some (pgO y)∧H5.at' nx=some (dJ ((32+N:Nat):Int) (K:Int))∧H5.at' hb=some (hpO hm)∧ ∀ m,m<nx→H5.at' m=H.at' m) ⟨by omega,by repeat(exact ac),by repeat(first|assumption|refine ab (by omega) ?_),by repeat(first|assumption|refine ab (by omega) ?_),fun m hm=>by(repeat(refine ab (by omega) ?_));exact d7 m hm⟩ ?_
    rintro H5 n5 ⟨e0,e1,e2,e3,e4⟩
    repeat apply ah;rfl
    (apply bk;(focus(kernel_rfl));(focus(kernel_rfl)))
    repeat first|refine cn rfl rfl rfl (F.ag _ rfl) e1 (bh hxl) ?_|apply dN;rfl;assumption;rfl|apply aW;rfl|refine bp (aw rfl rfl (.inr (.inl ⟨rfl,(JH _ ⟨(by focus(omega)),(by focus(omega))⟩).symm⟩))) rfl rfl rfl ?_
    rw [show((32+N:Nat):Int)-32=(N:Int) by omega]
    repeat first|refine bY rfl rfl rfl (F.sz _ rfl) e3 (bh hxl) (by rw [Kf,Kf,hl];omega) (hZ _) (tz hl hN hxl) ?_|apply gg (q:=N);rfl;rfl;rfl;rfl;exact(F.un _ rfl);exact(F.sz _ rfl);(focus(omega));(focus(omega))
    refine aA ⟨by kernel_rfl,?_,?_⟩;(focus(repeat(first|exact KO|apply jE;rfl|apply gr;rfl;kernel_rfl|refine fO 0 rfl (by kernel_rfl) (by(repeat(refine⟨(by first|exact an (F.ag _ rfl) rfl (by repeat(first|assumption|refine ab (by omega) ?_)) (aD rfl)|exact aU (F.ag _ rfl) rfl (by(repeat(refine ab (by omega) ?_));exact e1) (bv hxl)|exact fk (q:=N) rfl rfl (F.un _ rfl) (F.sz _ rfl) (by omega) (by omega)),?_⟩));exact KO) ?_|apply mJ;kernel_rfl)))
    repeat apply ah;rfl
    (apply bR Tryz.func23 Tryz.results23;rfl)
    exact⟨rfl,by repeat(exact ac),by dsimp only;omega,fun m h1 h2=>by(repeat(refine ab (by omega) ?_));exact e4 m h1⟩
  ·rw [Kb he] at hch ⊢
   have h13:(aM (bareP (az hm N))).2=13:=by
    rcases hno with h|h
    ·exact absurd h he
    ·rw [h]
   rw [h13]
   rw [hch,Kb (by decide)]
   dsimp only
   repeat first|apply ah;rfl|refine cU rfl rfl rfl (F.sz _ rfl) (by repeat(first|assumption|exact ac)) rfl (by exact JL rfl) (hone _ _) rfl ?_|apply iA;rfl;decide
   (apply bR Tryz.func23 Tryz.results23;rfl)
   exact⟨rfl,by repeat(first|assumption|refine ab (by omega) ?_),by dsimp only;omega,fun m hm _=>by(repeat(refine ab (by omega) ?_));exact co m hm⟩
theorem o9{mem:List UInt8}(hv:Hv mem)(n k:Int)(x:Nat):((kQ (az mem) n k x).1≠0∧(kQ (az mem) n k x).2=none)∨((kQ (az mem) n k x).1=0∧ ∃ n' y,(kQ (az mem) n k x).2=some (n',y)∧32≤n'∧n'<128∧GoodP y):=by
 have hg:=fun n' y=>Ck (n:=n) (k:=k) (x:=x) (m:=n') (y:=y) hv
 generalize hI:kQ (az mem) n k x=I at hg
 unfold kQ at hI
 by_cases h1:4000<x∨lQ n k=false
 ·rw [Kb h1] at hI
  subst hI
  exact .inl ⟨by decide,rfl⟩
 ·rw [Ka h1] at hI
  by_cases h2:(pn (az mem) n.toNat (kc k.toNat x)).2≠0
  ·rw [Kb h2] at hI
   subst hI
   exact .inl ⟨h2,rfl⟩
  ·rw [Ka h2] at hI
   subst hI
   exact .inr ⟨rfl,_,_,rfl,hg _ _ rfl⟩
theorem vN(a:Int){L:Nat}(h:0<L) : -(L:Int)<a.tmod L∧a.tmod L<L:=⟨Int.lt_tmod_of_pos a (by omega),Int.tmod_lt_of_pos a (by omega)⟩
theorem zq(a:Int){L:Nat}(h:0<L)(h0:0≤a): ∃ j:Nat,j<L∧a.tmod L=(j:Int):=by
 have h1:=Int.tmod_nonneg (L:Int) h0
 have h2:=(vN a h).2
 exact⟨(a.tmod L).toNat,by omega,by omega⟩
theorem do2_s{b h:Nat}{mem:List UInt8}{left puts:Int}{x:ol}(hb:H.at' b=some (cT mem left puts))(hh:H.at' h=some (hpO (cK mem)))(hne:b≠h)(hv:Hv mem)(hx:Bb H nx b h x)(hk:x.1.kind=2)(hl : -1000000≤left∧left<0)(hp:0≤puts∧puts≤1000000):Fnc Tryz.prog 9 [.ptr b 0,.ptr h 0,.agg (rT x)] H nx (qq H nx b h mem left puts):=by
 have hx0:=hx H fun _ _ _ _=>rfl
 have hone:bm (rT x)=true:=by simp only [bm,cN hx0.1,cN hx0.2];rfl
 refine KE Tryz.func9 rfl rfl ?_
 refine aV fun hund=>?_
 have lb:=hund _ _ hb
 have lh:=hund _ _ hh
 obtain⟨rows,hal,hrl,hrn⟩:=kz hv
 have hdoc:pS (dfH (cK mem))=some rows:=(kY fun n a b=>fC hv a b).trans hal
 repeat apply ah;rfl
 refine aE rfl rfl rfl (by kernel_rfl) (KD (nn (hm:=cK mem) (by repeat(first|assumption|refine ab (by omega) ?_)) (cx hv.len)) ?_)
 rintro⟨_,H1,n1⟩ ⟨u1,u2,⟨u3,_⟩|⟨rows',s,rr,u3,rfl,u4⟩⟩
 ·rw [hdoc] at u3
  cases u3
 rw [hdoc] at u3
 cases u3
 dsimp only at u1 u2 u4 ⊢
 have c1:H1.at' nx=some (t6 x):=(u2 nx (by omega)).trans (by repeat(exact ac))
 have cb:H1.at' b=some (cT mem left puts):=(u2 b (by omega)).trans (by repeat(first|assumption|refine ab (by omega) ?_))
 have ch:H1.at' h=some (hpO (cK mem)):=(u2 h (by omega)).trans (by repeat(first|assumption|refine ab (by omega) ?_))
 have co: ∀ m,m<nx→H1.at' m=H.at' m:=fun m hm=>(u2 m (by omega)).trans (by(repeat(refine ab (by omega) ?_));rfl)
 repeat first|refine df rfl rfl rfl (F.ag _ rfl) cb (dD hv.len _ _) ?_|apply ah;rfl|apply aG;rfl;assumption;rfl
 repeat first|apply ah;rfl|apply iA;rfl;omega
 refine cF rfl rfl rfl rfl (fun _=>?_) (fun e=>absurd hk (by omega))
 rcases u4 with ⟨rfl,rfl⟩|⟨ws,L,hL0,rfl,hrw,hrL,_,hC⟩
 ·repeat first|refine ee rfl rfl rfl (F.ag _ rfl) (by(repeat(refine ab (by omega) ?_));exact c1) (iV x) ?_|refine cf (iJ (F.un _ rfl) rfl) rfl rfl rfl ?_|apply ll;rfl;decide|apply ah;rfl|apply aG;rfl;(focus((repeat(first|assumption|exact ac|refine ab (by omega) ?_));done));rfl
  refine cQ (R:=fun HB nB=>nB=n1+1∧HB.at' n1=some (dJ x.1.tid.1 x.1.tid.2)∧ ∀ m,m<n1→HB.at' m=H1.at' m) ⟨rfl,by repeat(exact ac),fun m hm=>by(repeat(refine ab (by omega) ?_));rfl⟩ ?_
  rintro HB nB ⟨rfl,kT,kF⟩
  have kA:HB.at' nx=some (t6 x):=(kF nx (by omega)).trans c1
  have kb:HB.at' b=some (cT mem left puts):=(kF b (by omega)).trans cb
  have kh:HB.at' h=some (hpO (cK mem)):=(kF h (by omega)).trans ch
  have ko: ∀ m,m<nx→HB.at' m=H.at' m:=fun m hm=>(kF m (by omega)).trans (co m hm)
  refine aE rfl rfl rfl (by kernel_rfl) (KD (E0 (b:=b) (n:=x.1.tid.1) (k:=x.1.tid.2) (x:=x.1.xid) (mem:=mem) (left:=left) (puts:=puts) kb hv.len (by omega) (by omega) (by omega)) ?_)
  rintro⟨_,H2,n2⟩ ⟨rfl,d2,d3,d4⟩
  dsimp only at d2 d3 d4 ⊢
  have e0:H2.at' n1=some (dJ x.1.tid.1 x.1.tid.2):=(d4 _ (by omega) (by omega)).trans kT
  have e1:H2.at' nx=some (t6 x):=(d4 _ (by omega) (by omega)).trans kA
  have e2:H2.at' h=some (hpO (cK mem)):=(d4 _ (by omega) (Ne.symm hne)).trans kh
  have e3: ∀ m,m<nx→m≠b→H2.at' m=H.at' m:=fun m hm hmb=>(d4 _ (by omega) hmb).trans (ko m hm)
  have hc:=o9 hv x.1.tid.1 x.1.tid.2 x.1.xid
  have hdI:kQ (dfH (cK mem)) x.1.tid.1 x.1.tid.2 x.1.xid=kQ (az mem) x.1.tid.1 x.1.tid.2 x.1.xid:=rB (fun n a b=>fC hv a b) _ _ _
  generalize kQ (az mem) x.1.tid.1 x.1.tid.2 x.1.xid=I at hc hdI d2 ⊢
  repeat first|apply ah;rfl|apply aG;rfl;assumption;rfl
  refine aE rfl rfl rfl (by kernel_rfl) (KD (uY (hb:=h) (n:=x.1.tid.1) (k:=x.1.tid.2) (x:=x.1.xid) (hm:=cK mem) (by exact e2) (cx hv.len)) ?_)
  rintro⟨_,H3,n3⟩ ⟨rfl,f2,f3,f4⟩
  dsimp only at f2 f3 f4 ⊢
  rw [hdI] at f2 ⊢
  have g2:H3.at' b=some (putO mem left puts I.2):=(f4 _ (by omega) hne).trans (by exact d2)
  have g3: ∀ m,m<nx→m≠b→m≠h→H3.at' m=H.at' m:=fun m hm hmb hmh=>(f4 _ (by omega) hmh).trans (by exact e3 m hm hmb)
  clear d4 f4
  rcases hc with ⟨hc1,hc2⟩|⟨hc1,n,y,hc2,hc3,hc4,hc5⟩
  ·rw [hc2] at f2 g2
   have g2':H3.at' b=some (cT mem left puts):=g2
   have f2':H3.at' h=some (hpO (cK mem)):=f2
   repeat first|apply dA;rfl;rfl|apply iA;rfl;omega|apply ah;rfl
   (apply bR Tryz.func9 Tryz.results9;rfl)
   exact⟨rfl,mem,left,puts,by exact g2',by exact f2',hv,⟨by omega,by omega⟩,⟨by omega,by omega⟩,by first|omega|(dsimp only;omega),fun m hm hmb hmh=>by exact g3 m hm hmb hmh,jb _⟩
  ·rw [hc2] at f2 g2
   have g2':H3.at' b=some (cT (fx mem n y) (left-1) (puts+1)):=g2
   have f2':H3.at' h=some (hpO (fx (cK mem) (n-32) y)):=f2
   rw [← kR hv.len hc3 hc4 hc5.len] at f2'
   have hv2:=hv.set hc3 hc4 hc5
   repeat first|refine df rfl rfl rfl (F.ag _ rfl) (by exact g2') (dD hv2.len _ _) ?_|apply dA;rfl;rfl|apply dA;rfl;omega|apply ah;rfl|apply aL;rfl;omega;omega
   (apply bR Tryz.func9 Tryz.results9;rfl)
   exact⟨rfl,fx mem n y,left-1,puts+1,by exact g2',by exact f2',hv2,⟨by omega,by omega⟩,⟨by omega,by omega⟩,by first|omega|(dsimp only;omega),fun m hm hmb hmh=>by exact g3 m hm hmb hmh,qz hv.len hc4 hc5.len⟩
 ·repeat first|refine ee rfl rfl rfl (F.ag _ rfl) (by(repeat(refine ab (by omega) ?_));exact c1) (iV x) ?_|apply pG;rfl;omega|apply ah;rfl|apply cE;rfl|apply aG;rfl;(focus((repeat(first|assumption|exact ac|refine ab (by omega) ?_));done));rfl
  cases hod:x.1.odd with
  | true=>
    repeat first|apply ah;rfl|apply aG;rfl;(focus((repeat(first|assumption|exact ac|refine ab (by omega) ?_));done));rfl
    refine cQ (R:=fun HB nB=>nB=n1+1∧HB.at' n1=some (dJ x.1.tid.1 x.1.tid.2)∧ ∀ m,m<n1→HB.at' m=H1.at' m) ⟨rfl,by repeat(exact ac),fun m hm=>by(repeat(refine ab (by omega) ?_));rfl⟩ ?_
    rintro HB nB ⟨rfl,kT,kF⟩
    have kA:HB.at' nx=some (t6 x):=(kF nx (by omega)).trans c1
    have kb:HB.at' b=some (cT mem left puts):=(kF b (by omega)).trans cb
    have kh:HB.at' h=some (hpO (cK mem)):=(kF h (by omega)).trans ch
    have ko: ∀ m,m<nx→HB.at' m=H.at' m:=fun m hm=>(kF m (by omega)).trans (co m hm)
    refine aE rfl rfl rfl (by kernel_rfl) (KD (E0 (b:=b) (n:=x.1.tid.1) (k:=x.1.tid.2) (x:=x.1.xid) (mem:=mem) (left:=left) (puts:=puts) kb hv.len (by omega) (by omega) (by omega)) ?_)
    rintro⟨_,H2,n2⟩ ⟨rfl,d2,d3,d4⟩
    dsimp only at d2 d3 d4 ⊢
    have e0:H2.at' n1=some (dJ x.1.tid.1 x.1.tid.2):=(d4 _ (by omega) (by omega)).trans kT
    have e1:H2.at' nx=some (t6 x):=(d4 _ (by omega) (by omega)).trans kA
    have e2:H2.at' h=some (hpO (cK mem)):=(d4 _ (by omega) (Ne.symm hne)).trans kh
    have e3: ∀ m,m<nx→m≠b→H2.at' m=H.at' m:=fun m hm hmb=>(d4 _ (by omega) hmb).trans (ko m hm)
    have hc:=o9 hv x.1.tid.1 x.1.tid.2 x.1.xid
    have hdI:kQ (dfH (cK mem)) x.1.tid.1 x.1.tid.2 x.1.xid=kQ (az mem) x.1.tid.1 x.1.tid.2 x.1.xid:=rB (fun n a b=>fC hv a b) _ _ _
    generalize kQ (az mem) x.1.tid.1 x.1.tid.2 x.1.xid=I at hc hdI d2 ⊢
    repeat first|apply ah;rfl|apply aG;rfl;assumption;rfl
    refine aE rfl rfl rfl (by kernel_rfl) (KD (uY (hb:=h) (n:=x.1.tid.1) (k:=x.1.tid.2) (x:=x.1.xid) (hm:=cK mem) (by exact e2) (cx hv.len)) ?_)
    rintro⟨_,H3,n3⟩ ⟨rfl,f2,f3,f4⟩
    dsimp only at f2 f3 f4 ⊢
    rw [hdI] at f2 ⊢
    have g2:H3.at' b=some (putO mem left puts I.2):=(f4 _ (by omega) hne).trans (by exact d2)
    have g3: ∀ m,m<nx→m≠b→m≠h→H3.at' m=H.at' m:=fun m hm hmb hmh=>(f4 _ (by omega) hmh).trans (by exact e3 m hm hmb)
    clear d4 f4
    rcases hc with ⟨hc1,hc2⟩|⟨hc1,n,y,hc2,hc3,hc4,hc5⟩
    ·rw [hc2] at f2 g2
     have g2':H3.at' b=some (cT mem left puts):=g2
     have f2':H3.at' h=some (hpO (cK mem)):=f2
     repeat first|apply dA;rfl;rfl|apply iA;rfl;omega|apply ah;rfl
     (apply bR Tryz.func9 Tryz.results9;rfl)
     exact⟨rfl,mem,left,puts,by exact g2',by exact f2',hv,⟨by omega,by omega⟩,⟨by omega,by omega⟩,by first|omega|(dsimp only;omega),fun m hm hmb hmh=>by exact g3 m hm hmb hmh,jb _⟩
    ·rw [hc2] at f2 g2
     have g2':H3.at' b=some (cT (fx mem n y) (left-1) (puts+1)):=g2
     have f2':H3.at' h=some (hpO (fx (cK mem) (n-32) y)):=f2
     rw [← kR hv.len hc3 hc4 hc5.len] at f2'
     have hv2:=hv.set hc3 hc4 hc5
     repeat first|refine df rfl rfl rfl (F.ag _ rfl) (by exact g2') (dD hv2.len _ _) ?_|apply dA;rfl;rfl|apply dA;rfl;omega|apply ah;rfl|apply aL;rfl;omega;omega
     (apply bR Tryz.func9 Tryz.results9;rfl)
     exact⟨rfl,fx mem n y,left-1,puts+1,by exact g2',by exact f2',hv2,⟨by omega,by omega⟩,⟨by omega,by omega⟩,by first|omega|(dsimp only;omega),fun m hm hmb hmh=>by exact g3 m hm hmb hmh,qz hv.len hc4 hc5.len⟩
  | false=>
    repeat first|apply ah;rfl|apply aG;rfl;(focus((repeat(first|assumption|refine ab (by omega) ?_));done));rfl
    have hr0:=vN x.1.place hL0
    generalize hr1:x.1.place.tmod (rows.length:Int)=p1 at hr0
    obtain⟨j,hj,hr2⟩:=zq (p1+(rows.length:Int)) hL0 (by omega)
    obtain⟨a1,a2,ra,_,x1,x2,x3,x4⟩:=hC.cells hj
    refine ou (c:=p1) rfl rfl rfl rfl (by omega) hr1 ?_
    repeat first|apply ah;rfl|apply aL;rfl;omega;omega
    refine ou (c:=(j:Int)) rfl rfl rfl rfl (by omega) hr2 ?_
    repeat first|refine dH (q:=j) rfl rfl rfl rfl (F.un _ rfl) (F.sz _ rfl) (by(repeat(refine ab (by omega) ?_));exact hrw) (by omega) (by omega) (JZ _) ?_|refine ee rfl rfl rfl (F.ag _ rfl) (by(repeat(refine ab (by omega) ?_));exact hrw) x3 ?_|apply ah;rfl|apply aG;rfl;(focus((repeat(first|assumption|exact ac|refine ab (by omega) ?_));done));rfl
    refine cQ (R:=fun HB nB=>nB=n1+1∧HB.at' n1=some (dJ ((rows[j]).1.1:Int) ((rows[j]).1.2:Int))∧ ∀ m,m<n1→HB.at' m=H1.at' m) ⟨rfl,by repeat(exact ac),fun m hm=>by(repeat(refine ab (by omega) ?_));rfl⟩ ?_
    rintro HB nB ⟨rfl,kT,kF⟩
    have kA:HB.at' nx=some (t6 x):=(kF nx (by omega)).trans c1
    have kb:HB.at' b=some (cT mem left puts):=(kF b (by omega)).trans cb
    have kh:HB.at' h=some (hpO (cK mem)):=(kF h (by omega)).trans ch
    have ko: ∀ m,m<nx→HB.at' m=H.at' m:=fun m hm=>(kF m (by omega)).trans (co m hm)
    refine aE rfl rfl rfl (by kernel_rfl) (KD (E0 (b:=b) (n:=((rows[j]).1.1:Int)) (k:=((rows[j]).1.2:Int)) (x:=x.1.xid) (mem:=mem) (left:=left) (puts:=puts) kb hv.len (by omega) (by omega) (by omega)) ?_)
    rintro⟨_,H2,n2⟩ ⟨rfl,d2,d3,d4⟩
    dsimp only at d2 d3 d4 ⊢
    have e0:H2.at' n1=some (dJ ((rows[j]).1.1:Int) ((rows[j]).1.2:Int)):=(d4 _ (by omega) (by omega)).trans kT
    have e1:H2.at' nx=some (t6 x):=(d4 _ (by omega) (by omega)).trans kA
    have e2:H2.at' h=some (hpO (cK mem)):=(d4 _ (by omega) (Ne.symm hne)).trans kh
    have e3: ∀ m,m<nx→m≠b→H2.at' m=H.at' m:=fun m hm hmb=>(d4 _ (by omega) hmb).trans (ko m hm)
    have hc:=o9 hv ((rows[j]).1.1:Int) ((rows[j]).1.2:Int) x.1.xid
    have hdI:kQ (dfH (cK mem)) ((rows[j]).1.1:Int) ((rows[j]).1.2:Int) x.1.xid=kQ (az mem) ((rows[j]).1.1:Int) ((rows[j]).1.2:Int) x.1.xid:=rB (fun n a b=>fC hv a b) _ _ _
    generalize kQ (az mem) ((rows[j]).1.1:Int) ((rows[j]).1.2:Int) x.1.xid=I at hc hdI d2 ⊢
    repeat first|apply ah;rfl|apply aG;rfl;assumption;rfl
    refine aE rfl rfl rfl (by kernel_rfl) (KD (uY (hb:=h) (n:=((rows[j]).1.1:Int)) (k:=((rows[j]).1.2:Int)) (x:=x.1.xid) (hm:=cK mem) (by exact e2) (cx hv.len)) ?_)
    rintro⟨_,H3,n3⟩ ⟨rfl,f2,f3,f4⟩
    dsimp only at f2 f3 f4 ⊢
    rw [hdI] at f2 ⊢
    have g2:H3.at' b=some (putO mem left puts I.2):=(f4 _ (by omega) hne).trans (by exact d2)
    have g3: ∀ m,m<nx→m≠b→m≠h→H3.at' m=H.at' m:=fun m hm hmb hmh=>(f4 _ (by omega) hmh).trans (by exact e3 m hm hmb)
    clear d4 f4
    rcases hc with ⟨hc1,hc2⟩|⟨hc1,n,y,hc2,hc3,hc4,hc5⟩
    ·rw [hc2] at f2 g2
     have g2':H3.at' b=some (cT mem left puts):=g2
     have f2':H3.at' h=some (hpO (cK mem)):=f2
     repeat first|apply dA;rfl;rfl|apply iA;rfl;omega|apply ah;rfl
     (apply bR Tryz.func9 Tryz.results9;rfl)
     exact⟨rfl,mem,left,puts,by exact g2',by exact f2',hv,⟨by omega,by omega⟩,⟨by omega,by omega⟩,by first|omega|(dsimp only;omega),fun m hm hmb hmh=>by exact g3 m hm hmb hmh,jb _⟩
    ·rw [hc2] at f2 g2
     have g2':H3.at' b=some (cT (fx mem n y) (left-1) (puts+1)):=g2
     have f2':H3.at' h=some (hpO (fx (cK mem) (n-32) y)):=f2
     rw [← kR hv.len hc3 hc4 hc5.len] at f2'
     have hv2:=hv.set hc3 hc4 hc5
     repeat first|refine df rfl rfl rfl (F.ag _ rfl) (by exact g2') (dD hv2.len _ _) ?_|apply dA;rfl;rfl|apply dA;rfl;omega|apply ah;rfl|apply aL;rfl;omega;omega
     (apply bR Tryz.func9 Tryz.results9;rfl)
     exact⟨rfl,fx mem n y,left-1,puts+1,by exact g2',by exact f2',hv2,⟨by omega,by omega⟩,⟨by omega,by omega⟩,by first|omega|(dsimp only;omega),fun m hm hmb hmh=>by exact g3 m hm hmb hmh,qz hv.len hc4 hc5.len⟩
abbrev OK1(l:List (Int×Int))(i:Nat):Prop:=(∀ t∈l.take i,lQ t.1 t.2=true)∧(l.take i).Nodup
theorem xl(hi:i<l.length)(h:OK1 l i)(h1:lQ (l[i]).1 (l[i]).2=true)(h2:l[i]∉l.take i):OK1 l (i+1):=by
 unfold OK1
 rw [fT hi]
 refine⟨fun t ht=>?_,?_⟩
 ·rcases List.mem_append.1 ht with h3|h3
  ·exact h.1 t h3
  ·rw [Kg.1 h3];exact h1
 ·rw [List.nodup_append]
  exact⟨h.2,List.nodup_cons.2 ⟨fun h=>(by cases h),List.nodup_nil⟩,fun a ha b hb=>by rw [Kg.1 hb];exact fun e=>h2 (e ▸ ha)⟩
theorem wg(hi:i<l.length)(h:lQ (l[i]).1 (l[i]).2=false): ¬ uf l:=fun g=>by
 have:=g.1 _ (J9 hi)
 rw [h] at this
 cases this
theorem we{k:Nat}(hi:i<l.length)(hk:k<i)(h:l[k]=l[i]): ¬ uf l:=fun g=>by
 have:=List.pairwise_iff_getElem.1 g.2 k i (by omega) hi hk
 exact this h
abbrev tidB(t:Int×Int):VO:=dJ t.1 t.2
def Wr(pf:Nat→List UInt8)(l:List (Int×Int))(i:Nat)(w a b:Int):Prop:=((∀ t∈l.take i,lB (aM (pf t.1.toNat)).1 t.2.toNat=true)∧w=0∧a=1000)∨((∃ t∈l.take i,lB (aM (pf t.1.toNat)).1 t.2.toNat=false)∧w=6)
theorem Jz{w a b:Int}(h:Wr pf l i w a b)(hi:i<l.length)(h1:lB (aM (pf (l[i]).1.toNat)).1 (l[i]).2.toNat=true):Wr pf l (i+1) w a b:=by
 unfold Wr at h ⊢
 rw [fT hi]
 rcases h with ⟨h2,h3⟩|⟨⟨t,h2,h3⟩,h4⟩
 ·refine .inl ⟨fun t ht=>?_,h3⟩
  rcases List.mem_append.1 ht with h5|h5
  ·exact h2 t h5
  ·rw [Kg.1 h5];exact h1
 ·exact .inr ⟨⟨t,List.mem_append_left _ h2,h3⟩,h4⟩
theorem CM(a b:Int)(hi:i<l.length)(h1:lB (aM (pf (l[i]).1.toNat)).1 (l[i]).2.toNat=false):Wr pf l (i+1) 6 a b:=by
 unfold Wr
 rw [fT hi]
 exact .inr ⟨⟨_,List.mem_append_right _ (Kg.2 rfl),h1⟩,rfl⟩
theorem Cg(hG: ∀ n,32≤n→n<128→GoodP (pf n)){t:Int×Int}(h:lQ t.1 t.2=true):(mn pf t.1 t.2).2=if lB (aM (pf t.1.toNat)).1 t.2.toNat=true then 0 else 6:=by
 have hm:=Km h
 obtain⟨q,hq,hQ⟩:=(hG t.1.toNat (by omega) (by omega)).read
 unfold mn
 rw [Ka (by rw [h];decide),hq,Ka (fun h=>h rfl)]
 cases hh:lB q t.2.toNat with
 | true=>
   rw [ru hh,Ka (fun h=>h rfl),Kb rfl]
   have h2:=Km hh
   have:=hQ.items _ h2.1 h2.2
   dsimp only [B0]
   rw [Kb this]
 | false=>rw [o5 hh,Kb (by decide),Ka (by decide)]
theorem nV{T:Tr SV}{d:Option Tmp}{ty:TypeId}{pos:String}{af:Array Edge}{gd:Option (Nat×Bool)}{x y:Operand}{yt:TypeId}{a b:Int×Int}{r:Bool}(hr:gE a b=r)(hx:am T x=some (xA a))(hy:am T y=some (xA b)):ReadDoes Tryz.prog T H ⟨d,.binOp .eql 40 x y yt,ty,pos,af,gd⟩ (.sc (.bool r)):=hr ▸ vT hx hy
theorem qI{hb r:Nat}{hm:List UInt8}(hH:H.at' hb=some (hpO hm))(hl:hm.length=98304)(hrow:H.at' r=some (pH l))(hne:r≠hb)(hll:l.length≤50000)(hG: ∀ n,32≤n→n<128→GoodP (dfH hm n)):Fnc Tryz.prog 24 [.ptr hb 0,.slu r 0 l.length] H nx
 (fun q=>q.1 = .sc (.int .i64 ((gh (dfH hm) l).1:Int))∧q.2.1.at' hb=some (hpO (jP hm (gh (dfH hm) l).2))∧nx≤q.2.2∧ ∀ m,m<nx→m≠hb→q.2.1.at' m=H.at' m):=by
 refine KE Tryz.func24 rfl rfl ?_
 refine aV fun hund=>?_
 have lH:=hund _ _ hH
 have lR:=hund _ _ hrow
 clear hund
 repeat apply ah;rfl
 refine bE (α:=Nat) (fun i=> [(0,.ptr hb 0),(1,.slu r 0 l.length),(5,.sc (.int .i64 (i:Int)))])
  (fun i H1 n1=>i≤l.length∧OK1 l i∧nx≤n1∧ ∀ m,m<nx→H1.at' m=H.at' m) (fun i=>l.length-i) 0
  ⟨J0 _,⟨fun t ht=>by simp at ht,by simp⟩,JZ _,fun m _=>rfl⟩ (KK (KN rfl)) ?_
 rintro i H1 n1 ⟨i1,i2,i3,i4⟩ ih
 have r1:H1.at' r=some (pH l):=(i4 r lR).trans hrow
 have b1:H1.at' hb=some (hpO hm):=(i4 hb lH).trans hH
 repeat apply ah;rfl
 refine bu rfl rfl rfl rfl (fun h5=>?_) (fun h5=>?_)
 ·have hi:i<l.length:=by omega
  have hcc:=vE hi
  repeat first|refine dH (q:=i) rfl rfl rfl rfl (F.un _ rfl) (F.sz _ rfl) (by assumption) (by omega) (by(omega)) (JZ _) ?_|(refine dj rfl (.inr (fun _ h=>by cases h)) ((aU (F.ag _ rfl) rfl r1 hcc).does) ?_);rw [aK rfl]|apply ah;rfl|apply aG;rfl;(focus((repeat(exact ac));done));rfl
  cases hmay:lQ (l[i]).1 (l[i]).2 with
  | false=>
    have hM:gh (dfH hm) l=(2,[]):=Kb (wg hi hmay)
    have hmd:=of_decide_eq_false hmay
    rw [hM]
    generalize (l[i]).1=ta at hmd ⊢
    generalize (l[i]).2=tb at hmd ⊢
    by_cases c1:ta<32
    ·clear hmd
     repeat first|apply pG;rfl;omega|apply ah;rfl
     (apply bR Tryz.func24 Tryz.results24;rfl)
     exact⟨rfl,by(repeat(refine ab (by omega) ?_));exact b1,by dsimp only;omega,fun m hm _=>by(repeat(refine ab (by omega) ?_));exact i4 m hm⟩
    ·by_cases c2:127<ta
     ·clear hmd
      repeat first|apply pG;rfl;omega|apply ll;rfl;omega|apply ah;rfl|apply aG;rfl;(focus((repeat(exact ac));done));rfl
      (apply bR Tryz.func24 Tryz.results24;rfl)
      exact⟨rfl,by(repeat(refine ab (by omega) ?_));exact b1,by dsimp only;omega,fun m hm _=>by(repeat(refine ab (by omega) ?_));exact i4 m hm⟩
     ·have c3:tb<0:=by omega
      clear hmd
      repeat first|apply pG;rfl;omega|apply ll;rfl;omega|apply ah;rfl|apply aG;rfl;(focus((repeat(exact ac));done));rfl
      (apply bR Tryz.func24 Tryz.results24;rfl)
      exact⟨rfl,by(repeat(refine ab (by omega) ?_));exact b1,by dsimp only;omega,fun m hm _=>by(repeat(refine ab (by omega) ?_));exact i4 m hm⟩
  | true=>
    have hmd:32≤(l[i]).1∧(l[i]).1<128∧0≤(l[i]).2:=Km hmay
    repeat first|apply ll;rfl;omega|apply ah;rfl|apply aG;rfl;(focus((repeat(exact ac));done));rfl
    refine bE (α:=Nat) (fun k=> [(0,.ptr hb 0),(1,.slu r 0 l.length),(5,.sc (.int .i64 (i:Int))),(6,.ptr n1 0),(7,.sc (.int .i64 (k:Int)))])
     (fun k H2 n2=>k≤i∧l[i]∉l.take k∧n2=n1+1∧H2.at' n1=some (tidB l[i])∧ ∀ m,m<nx→H2.at' m=H.at' m) (fun k=>i-k) 0
     ⟨J0 _,by simp,rfl,by repeat(exact ac),fun m hm=>by(repeat(refine ab (by omega) ?_));exact i4 m hm⟩ (KK (KN rfl)) ?_
    rintro k H2 n2 ⟨k1,k2,rfl,k3,k4⟩ ih2
    have r2:H2.at' r=some (pH l):=(k4 r lR).trans hrow
    have b2:H2.at' hb=some (hpO hm):=(k4 hb lH).trans hH
    repeat apply ah;rfl
    refine bu rfl rfl rfl rfl (fun h6=>?_) (fun h6=>?_)
    ·have hk:k<i:=by omega
     have hcck:=vE (l:=l) (i:=k) (by omega)
     repeat apply ah;rfl
     cases hs:gE (l[k]'(by omega)) l[i] with
     | true=>
       have he:=dv.1 hs
       have hM:gh (dfH hm) l=(2,[]):=Kb (we hi hk he)
       rw [hM]
       (apply bk;(focus(kernel_rfl));(focus(kernel_rfl)))
       repeat first|refine aI (q:=k) rfl rfl rfl rfl (F.un _ rfl) (F.sz _ rfl) (by assumption) (by omega) (by(omega)) (JZ _) ?_|apply bG;rfl;rfl;exact(fun _ h=>by cases h);exact(aU (F.ag _ rfl) rfl r2 hcck)|apply dN;rfl;assumption;rfl|apply bG;rfl;rfl;exact(fun _ h=>by cases h);exact(nV hs rfl rfl)|apply aW;rfl
       refine aA ⟨by kernel_rfl,?_,?_⟩;(focus(repeat(first|exact KO|apply gr;rfl;kernel_rfl|refine fO 0 rfl (by kernel_rfl) (by(repeat(refine⟨(by first|exact aU (F.ag _ rfl) rfl (by assumption) (ak _ 0 rfl rfl)|exact aU (F.ag _ rfl) rfl r2 hcck|exact nV hs rfl rfl|exact aO (F.un _ rfl) (F.sz _ rfl) rfl rfl r2 rfl (by omega) (JZ _)),?_⟩));exact KO) ?_)))
       repeat apply ah;rfl
       (apply bR Tryz.func24 Tryz.results24;rfl)
       exact⟨rfl,b2,by dsimp only;omega,fun m hm _=>k4 m hm⟩
     | false=>
       have hne2:l[k]'(by omega)≠l[i]:=fun e=>by rw [dv.2 e] at hs;cases hs
       (apply bk;(focus(kernel_rfl));(focus(kernel_rfl)))
       repeat first|refine aI (q:=k) rfl rfl rfl rfl (F.un _ rfl) (F.sz _ rfl) (by assumption) (by omega) (by(omega)) (JZ _) ?_|apply bG;rfl;rfl;exact(fun _ h=>by cases h);exact(aU (F.ag _ rfl) rfl r2 hcck)|apply dN;rfl;assumption;rfl|apply bG;rfl;rfl;exact(fun _ h=>by cases h);exact(nV hs rfl rfl)|apply aW;rfl
       refine aA ⟨by kernel_rfl,?_,?_⟩;(focus(repeat(first|exact KO|apply gr;rfl;kernel_rfl|refine fO 0 rfl (by kernel_rfl) (by(repeat(refine⟨(by first|exact aU (F.ag _ rfl) rfl (by assumption) (ak _ 0 rfl rfl)|exact aU (F.ag _ rfl) rfl r2 hcck|exact nV hs rfl rfl|exact aO (F.un _ rfl) (F.sz _ rfl) rfl rfl r2 rfl (by omega) (JZ _)),?_⟩));exact KO) ?_)))
       repeat first|apply ah;rfl|apply aL;rfl;omega;omega
       exact ih2 _ _ _ (k+1) ⟨hk,fun h=>(by
        rw [fT (by omega)] at h
        rcases List.mem_append.1 h with h|h
        ·exact k2 h
        ·exact hne2 (Kg.1 h).symm),rfl,k3,k4⟩ (by omega) (KK (KN rfl))
    ·have hk:k=i:=by omega
     subst hk
     repeat first|apply ah;rfl|apply aL;rfl;omega;omega
     exact ih _ _ _ (k+1) ⟨hi,xl hi i2 hmay k2,by first|omega|(dsimp only;omega),k4⟩ (by omega) (KK (KN rfl))
 ·have hi:i=l.length:=by omega
  subst hi
  have hmay:uf l:=by
   have:=i2
   unfold OK1 at this
   rw [List.take_length] at this
   exact this
  clear ih i1 i2 h5
  repeat first|apply ah;rfl|apply aG;rfl;(focus((repeat(exact ac));done));rfl
  refine bE (α:=Nat×Int×Int×Int) (fun x=> [(0,.ptr hb 0),(1,.slu r 0 l.length),(8,.ptr n1 0),(9,.sc (.int .i64 x.2.1)),(10,.sc (.int .i64 (x.1:Int)))])
   (fun x H2 n2=>x.1≤l.length∧Wr (dfH hm) l x.1 x.2.1 x.2.2.1 x.2.2.2∧n1+1≤n2∧H2.at' n1=some (dJ x.2.2.1 x.2.2.2)∧ ∀ m,m<nx→H2.at' m=H.at' m) (fun x=>l.length-x.1) (0,0,1000,0)
   ⟨J0 _,.inl ⟨fun t ht=>by simp at ht,rfl,rfl⟩,JZ _,by repeat(exact ac),fun m hm=>by(repeat(refine ab (by omega) ?_));exact i4 m hm⟩ (KK (KN rfl)) ?_
  clear r1 b1 i4
  rintro⟨i,w,fa,fb⟩ H2 n2 ⟨i1,i2,i5,i6,i4⟩ ih
  dsimp only at i1 i2 i4 i5 i6 ⊢
  have r2:H2.at' r=some (pH l):=(i4 r lR).trans hrow
  have b2:H2.at' hb=some (hpO hm):=(i4 hb lH).trans hH
  repeat apply ah;rfl
  refine bu rfl rfl rfl rfl (fun h5=>?_) (fun h5=>?_)
  ·have hi:i<l.length:=by omega
   have hcc:=vE hi
   have hc0:=yQ hi
   have hc1:=yP hi
   have hmi:=hmay.1 _ (J9 hi)
   have hgg:=Cg hG hmi
   repeat first|refine dH (q:=i) rfl rfl rfl rfl (F.un _ rfl) (F.sz _ rfl) (by assumption) (by omega) (by(omega)) (JZ _) ?_|(refine dj rfl (.inr (fun _ h=>by cases h)) ((aU (F.ag _ rfl) rfl r2 hcc).does) ?_);rw [aK rfl]|apply ah;rfl
   refine aE rfl rfl rfl (by kernel_rfl) (KD (oY (n:=(l[i]).1) (k:=(l[i]).2) b2 hl) ?_)
   rintro⟨_,H3,n3⟩ ⟨s',rr,rfl,c1,c2,c3,c4⟩
   dsimp only at c1 c2 c3 c4 ⊢
   obtain⟨vk,vw,rfl,hk1,hw1⟩:=c1
   have hone: ∀ x y:Nat,bm (dB vk vw x y)=true:=fun x y=>by simp only [bm,cN hk1.bs,cN hw1.bs];rfl
   have d1:H3.at' n1=some (dJ fa fb):=(c4 _ (by omega)).trans i6
   have d2:H3.at' r=some (pH l):=(c4 _ (by omega)).trans r2
   have d4: ∀ m,m<nx→H3.at' m=H.at' m:=fun m hm=>(c4 _ (by omega)).trans (i4 m hm)
   clear c4 i6 r2 b2 i4 hk1 hw1
   have hgen: ∀ e:Nat,(mn (dfH hm) (l[i]).1 (l[i]).2).2=e→(mn (dfH hm) (l[i]).1 (l[i]).2).2=e:=fun _ h=>h
   clear hgen
   rw [hgg]
   clear hgg
   cases hh:lB (aM (dfH hm (l[i]).1.toNat)).1 (l[i]).2.toNat with
   | true=>
     rw [Kb rfl]
     have hw2:=Jz i2 hi hh
     clear i2 hmi
     repeat first|apply ah;rfl|refine cU rfl rfl rfl (F.sz _ rfl) (by repeat(first|assumption|exact ac)) rfl (by exact JL rfl) (hone _ _) rfl ?_
     refine cQ (R:=fun H4 n4=>n4=n3+1∧H4.at' n1=some (dJ fa fb)∧H4.at' r=some (pH l)∧ ∀ m,m<nx→H4.at' m=H.at' m) ⟨rfl,by repeat(first|assumption|refine ab (by omega) ?_),by repeat(first|assumption|refine ab (by omega) ?_),fun m hm=>by(repeat(refine ab (by omega) ?_));exact d4 m hm⟩ ?_
     rintro H4 n4 ⟨rfl,m1,m2,m4⟩
     clear d1 d2 d4
     ((apply bk;(focus(kernel_rfl));(focus(kernel_rfl)));(repeat(first|refine pd rfl rfl rfl rfl (fun hq=>absurd hq (by omega)) (fun _=>?_)|apply aW;rfl|apply cy;rfl;rfl));refine aA ⟨by kernel_rfl,?_,?_⟩;(focus(repeat(first|exact KO|apply uX;rfl|apply gr;rfl;kernel_rfl|apply mJ;kernel_rfl))))
     repeat first|apply ah;rfl|apply aL;rfl;omega;omega
     exact ih _ _ _ (i+1,w,fa,fb) ⟨hi,hw2,by first|omega|(dsimp only;omega),by assumption,fun m hm=>by exact m4 m hm⟩ (by dsimp only;omega) (KK (KN rfl))
   | false=>
     rw [Ka (by decide)]
     repeat first|apply ah;rfl|refine cU rfl rfl rfl (F.sz _ rfl) (by repeat(first|assumption|exact ac)) rfl (by exact JL rfl) (hone _ _) rfl ?_
     refine cQ (R:=fun H4 n4=>n4=n3+1∧H4.at' n1=some (dJ fa fb)∧H4.at' r=some (pH l)∧ ∀ m,m<nx→H4.at' m=H.at' m) ⟨rfl,by repeat(first|assumption|refine ab (by omega) ?_),by repeat(first|assumption|refine ab (by omega) ?_),fun m hm=>by(repeat(refine ab (by omega) ?_));exact d4 m hm⟩ ?_
     rintro H4 n4 ⟨rfl,m1,m2,m4⟩
     clear d1 d2 d4
     by_cases q1:(l[i]).1<fa
     ·(((apply bk;(focus(kernel_rfl));(focus(kernel_rfl)));(repeat(first|refine aI (q:=i) rfl rfl rfl rfl (F.un _ rfl) (F.sz _ rfl) (by assumption) (by omega) (by(omega)) (JZ _) ?_|refine bp (an (F.ag _ rfl) rfl m2 hc0) rfl rfl rfl ?_|apply dN;rfl;assumption;rfl|refine pd rfl rfl rfl rfl (fun _=>?_) (fun hq=>absurd hq (by omega))|refine cW rfl rfl rfl rfl (fun _=>?_) (fun hq=>absurd hq (by omega))|apply aW;rfl|apply cy;rfl;rfl));refine aA ⟨by kernel_rfl,?_,?_⟩;(focus(repeat(first|exact KO|apply uX;rfl|apply gr;rfl;kernel_rfl|refine fO 0 rfl (by kernel_rfl) (by(repeat(refine⟨(by first|exact an (F.ag _ rfl) rfl (by assumption) (aD rfl)|exact an (F.ag _ rfl) rfl m2 hc0|exact aO (F.un _ rfl) (F.sz _ rfl) rfl rfl m2 rfl (by omega) (JZ _)),?_⟩));exact KO) ?_|apply mJ;kernel_rfl))));(repeat(first|refine dH (q:=i) rfl rfl rfl rfl (F.un _ rfl) (F.sz _ rfl) (by assumption) (by omega) (by(omega)) (JZ _) ?_|(refine dj rfl (.inr (fun _ h=>by cases h)) ((aU (F.ag _ rfl) rfl m2 hcc).does) ?_);rw [aK rfl]|apply ah;rfl|apply aG;rfl;assumption;rfl|apply aL;rfl;omega;omega));exact ih _ _ _ (i+1,6,(l[i]).1,(l[i]).2) ⟨hi,CM _ _ hi hh,by first|omega|(dsimp only;omega),by repeat(exact ac),fun m hm=>by(repeat(refine ab (by omega) ?_));exact m4 m hm⟩ (by dsimp only;omega) (KK (KN rfl)))
     ·by_cases q2:(l[i]).1=fa
      ·by_cases q3:(l[i]).2<fb
       ·(((apply bk;(focus(kernel_rfl));(focus(kernel_rfl)));(repeat(first|refine aI (q:=i) rfl rfl rfl rfl (F.un _ rfl) (F.sz _ rfl) (by assumption) (by omega) (by(omega)) (JZ _) ?_|refine bp (an (F.ag _ rfl) rfl m2 hc0) rfl rfl rfl ?_|refine bp (an (F.ag _ rfl) rfl m2 hc1) rfl rfl rfl ?_|apply dN;rfl;assumption;rfl|refine lO rfl rfl rfl rfl (fun _=>?_) (fun hq=>absurd hq (by omega))|refine pd rfl rfl rfl rfl (fun _=>?_) (fun hq=>absurd hq (by omega))|refine cW rfl rfl rfl rfl (fun _=>?_) (fun hq=>absurd hq (by omega))|refine cW rfl rfl rfl rfl (fun hq=>absurd hq (by omega)) (fun _=>?_)|apply aW;rfl));refine aA ⟨by kernel_rfl,?_,?_⟩;(focus(repeat(first|exact KO|apply gr;rfl;kernel_rfl|refine fO 0 rfl (by kernel_rfl) (by(repeat(refine⟨(by first|exact an (F.ag _ rfl) rfl (by assumption) (aD rfl)|exact an (F.ag _ rfl) rfl m2 hc0|exact an (F.ag _ rfl) rfl m2 hc1|exact aO (F.un _ rfl) (F.sz _ rfl) rfl rfl m2 rfl (by omega) (JZ _)),?_⟩));exact KO) ?_|apply mJ;kernel_rfl))));(repeat(first|refine dH (q:=i) rfl rfl rfl rfl (F.un _ rfl) (F.sz _ rfl) (by assumption) (by omega) (by(omega)) (JZ _) ?_|(refine dj rfl (.inr (fun _ h=>by cases h)) ((aU (F.ag _ rfl) rfl m2 hcc).does) ?_);rw [aK rfl]|apply ah;rfl|apply aG;rfl;assumption;rfl|apply aL;rfl;omega;omega));exact ih _ _ _ (i+1,6,(l[i]).1,(l[i]).2) ⟨hi,CM _ _ hi hh,by first|omega|(dsimp only;omega),by repeat(exact ac),fun m hm=>by(repeat(refine ab (by omega) ?_));exact m4 m hm⟩ (by dsimp only;omega) (KK (KN rfl)))
       ·(rcases i2 with ⟨_,_,rfl⟩|⟨_,rfl⟩;exact absurd (Km hmi:32≤(l[i]).1∧(l[i]).1<128∧0≤(l[i]).2) (by omega);((apply bk;(focus(kernel_rfl));(focus(kernel_rfl)));(repeat(first|refine aI (q:=i) rfl rfl rfl rfl (F.un _ rfl) (F.sz _ rfl) (by assumption) (by omega) (by(omega)) (JZ _) ?_|refine bp (an (F.ag _ rfl) rfl m2 hc0) rfl rfl rfl ?_|refine bp (an (F.ag _ rfl) rfl m2 hc1) rfl rfl rfl ?_|apply dN;rfl;assumption;rfl|refine lO rfl rfl rfl rfl (fun _=>?_) (fun hq=>absurd hq (by omega))|refine pd rfl rfl rfl rfl (fun _=>?_) (fun hq=>absurd hq (by omega))|refine cW rfl rfl rfl rfl (fun hq=>absurd hq (by omega)) (fun _=>?_)|apply aW;rfl));refine aA ⟨by kernel_rfl,?_,?_⟩;(focus(repeat(first|exact KO|apply gr;rfl;kernel_rfl|refine fO 0 rfl (by kernel_rfl) (by(repeat(refine⟨(by first|exact an (F.ag _ rfl) rfl (by assumption) (aD rfl)|exact an (F.ag _ rfl) rfl m2 hc0|exact an (F.ag _ rfl) rfl m2 hc1|exact aO (F.un _ rfl) (F.sz _ rfl) rfl rfl m2 rfl (by omega) (JZ _)),?_⟩));exact KO) ?_|apply mJ;kernel_rfl))));(repeat(first|apply ah;rfl|apply aL;rfl;omega;omega));exact ih _ _ _ (i+1,6,fa,fb) ⟨hi,CM _ _ hi hh,by first|omega|(dsimp only;omega),by assumption,fun m hm=>by exact m4 m hm⟩ (by dsimp only;omega) (KK (KN rfl)))
      ·(rcases i2 with ⟨_,_,rfl⟩|⟨_,rfl⟩;exact absurd (Km hmi:32≤(l[i]).1∧(l[i]).1<128∧0≤(l[i]).2) (by omega);((apply bk;(focus(kernel_rfl));(focus(kernel_rfl)));(repeat(first|refine aI (q:=i) rfl rfl rfl rfl (F.un _ rfl) (F.sz _ rfl) (by assumption) (by omega) (by(omega)) (JZ _) ?_|refine bp (an (F.ag _ rfl) rfl m2 hc0) rfl rfl rfl ?_|apply dN;rfl;assumption;rfl|refine lO rfl rfl rfl rfl (fun hq=>absurd hq (by omega)) (fun _=>?_)|refine pd rfl rfl rfl rfl (fun _=>?_) (fun hq=>absurd hq (by omega))|refine cW rfl rfl rfl rfl (fun hq=>absurd hq (by omega)) (fun _=>?_)|apply aW;rfl|apply cy;rfl;rfl));refine aA ⟨by kernel_rfl,?_,?_⟩;(focus(repeat(first|exact KO|apply uX;rfl|apply gr;rfl;kernel_rfl|refine fO 0 rfl (by kernel_rfl) (by(repeat(refine⟨(by first|exact an (F.ag _ rfl) rfl (by assumption) (aD rfl)|exact an (F.ag _ rfl) rfl m2 hc0|exact aO (F.un _ rfl) (F.sz _ rfl) rfl rfl m2 rfl (by omega) (JZ _)),?_⟩));exact KO) ?_|apply mJ;kernel_rfl))));(repeat(first|apply ah;rfl|apply aL;rfl;omega;omega));exact ih _ _ _ (i+1,6,fa,fb) ⟨hi,CM _ _ hi hh,by first|omega|(dsimp only;omega),by assumption,fun m hm=>by exact m4 m hm⟩ (by dsimp only;omega) (KK (KN rfl)))
  ·have hi:i=l.length:=by omega
   subst hi
   have hw:(ml (dfH hm) l∧w=0)∨(¬ ml (dfH hm) l∧w=6):=by
    unfold Wr at i2
    rw [List.take_length] at i2
    rcases i2 with ⟨h1,h2,_⟩|⟨⟨t,h1,h2⟩,h3⟩
    ·exact .inl ⟨h1,h2⟩
    ·exact .inr ⟨fun h=>(by rw [h t h1] at h2;cases h2),h3⟩
   clear ih i2 i1 h5
   rcases hw with ⟨hw,rfl⟩|⟨hw,rfl⟩
   ·have hM:gh (dfH hm) l=(0,io (dfH hm) l 96):=by
     rw [zt]
     unfold gh
     rw [Ka (fun h=>h hmay),Ka (fun h=>h hw)]
    rw [hM]
    have hHas: ∀ n q,n<96→aM (dfH hm (32+n))=(q,0)→Has q (aN l (32+n)):=fun n q hn hq=>by
     refine⟨ft hmay _,fun k hk=>?_⟩
     have h1:=hw _ ((gK hmay.1).1 hk)
     rw [Ks,Ks,hq] at h1
     exact Km h1
    have hps: ∀ n,n≤96→ ∀ x∈io (dfH hm) l n,32≤x.1∧x.1<32+n∧x.2.length=1024:=fun n hn x hx=>by
     obtain⟨h1,h2,_,h3⟩:=Af hx
     refine⟨h1,h2,?_⟩
     obtain⟨q,hq,hQ⟩:=(hG x.1 h1 (by omega)).read
     rw [h3,hq]
     have:=hHas (x.1-32) q (by omega) (by rw [show 32+(x.1-32)=x.1 by omega];exact hq)
     rw [show 32+(x.1-32)=x.1 by omega] at this
     exact(wD hQ this).ok.len
    have hpl: ∀ n,n≤96→(jP hm (io (dfH hm) l n)).length=98304:=fun n hn=>zF hl fun x hx=>by
     have:=hps n hn x hx
     exact⟨this.1,by omega,this.2.2⟩
    have hpo: ∀ n,n<96→az (jP hm (io (dfH hm) l n)) n=az hm n:=fun n hn=>uC hl fun x hx=>by
     have:=hps n (by omega) x hx
     exact⟨this.1,by omega,this.2.2,by omega⟩
    repeat first|apply dA;rfl;omega|apply ah;rfl
    refine bE (α:=Nat) (fun n=> [(0,.ptr hb 0),(1,.slu r 0 l.length),(13,.sc (.int .i64 (n:Int)))])
     (fun n H3 n3=>n≤96∧nx≤n3∧H3.at' hb=some (hpO (jP hm (io (dfH hm) l n)))∧ ∀ m,m<nx→m≠hb→H3.at' m=H.at' m) (fun n=>96-n) 0
     ⟨J0 _,by omega,b2,fun m hm _=>i4 m hm⟩ (KK (KN rfl)) ?_
    clear r2 b2 i4 i6
    rintro n H3 n3 ⟨j1,j2,j3,j4⟩ ih
    have r3:H3.at' r=some (pH l):=(j4 r lR hne).trans hrow
    repeat apply ah;rfl
    refine bu rfl rfl rfl rfl (fun h5=>?_) (fun h5=>?_)
    ·have hn:n<96:=by omega
     obtain⟨q,hq,hQ⟩:=(hG (32+n) (by omega) (by omega)).read
     have hql:=hQ.ok.len
     have hhas:=hHas n q hn hq
     have hrs:=fun(H:au) nx (h:H.at' hb=some (hpO (jP hm (io (dfH hm) l n))))=>l5 (nx:=nx) h (hpl n j1) hn
     have hv5:sE (az (jP hm (io (dfH hm) l n)) n)=(q,true):=by
      rw [hpo n hn]
      have hdf:dfH hm (32+n)=bareP (az hm n):=by unfold dfH;rw [show 32+n-32=n by omega]
      rw [hdf] at hq
      rw [nU (by rw [hq]),hq]
     rw [hv5] at hrs
     dsimp only [BN] at hrs
     repeat first|apply bJ hql aj;rfl;(focus((repeat(exact ac));done))|refine be rfl rfl cq ?_|apply ah;rfl|apply bW;rfl;kernel_rfl;exact hrs _ _ j3
     refine bE (α:=Nat) (fun i=> [(0,.ptr hb 0),(1,.slu r 0 l.length),(13,.sc (.int .i64 (n:Int))),(14,.ptr n3 0),(16,.sc (.bool (!(aN (l.take i) (32+n)).isEmpty))),(17,.sc (.int .i64 (i:Int)))])
      (fun i H4 n4=>i≤l.length∧n3+1≤n4∧H4.at' n3=some (pgO (du q (aN (l.take i) (32+n))))∧H4.at' hb=some (hpO (jP hm (io (dfH hm) l n)))∧ ∀ m,m<nx→m≠hb→H4.at' m=H.at' m) (fun i=>l.length-i) 0
      ⟨J0 _,JZ _,by show _=some (pgO q);(focus((repeat(exact ac));done)),by repeat(first|assumption|refine ab (by omega) ?_),fun m hm hmb=>by(repeat(refine ab (by omega) ?_));exact j4 m hm hmb⟩ (KK (KN rfl)) ?_
     rintro i H4 n4 ⟨k1,k2,k3,k4,k5⟩ ih2
     have r4:H4.at' r=some (pH l):=(k5 r lR hne).trans hrow
     repeat apply ah;rfl
     refine bu rfl rfl rfl rfl (fun h6=>?_) (fun h6=>?_)
     ·have hi:i<l.length:=by omega
      have hc0:=yQ hi
      have hc1:=yP hi
      have hmi:=hmay.1 _ (J9 hi)
      have hmd:32≤(l[i]).1∧(l[i]).1<128∧0≤(l[i]).2:=Km hmi
      repeat first|refine dH (q:=i) rfl rfl rfl rfl (F.un _ rfl) (F.sz _ rfl) (by assumption) (by omega) (by(omega)) (JZ _) ?_|refine cf (an (F.ag _ rfl) rfl r4 hc0) rfl rfl rfl ?_|apply ah;rfl|apply aL;rfl;omega;omega
      have hsn:=si (l.take i) l[i] (32+n)
      rw [← fT hi] at hsn
      refine cF rfl rfl rfl rfl (fun he=>?_) (fun he=>?_)
      ·have he2:(l[i]).1=((32+n:Nat):Int):=by omega
       rw [Kb he2] at hsn
       obtain⟨k,hk⟩: ∃ k:Nat,(l[i]).2=(k:Int):=⟨(l[i]).2.toNat,by omega⟩
       have hkt:(l[i]).2.toNat=k:=by omega
       rw [hkt] at hsn
       have hat:=xE hi he2
       rw [hkt] at hat
       rw [hat] at hhas
       obtain⟨t1,t2,t3⟩:=Has.there hQ.ok hhas
       have hxr:=(aZ t3.len).2 t3
       have hdr:=fun(H:au) nx=>Cq (H:=H) (nx:=nx) t3.len hxr t1 t2
       have hds:=uZ q (aN (l.take i) (32+n)) k
       rw [show pj (bP (du q (aN (l.take i) (32+n))) k 0 0)=du q (aN (l.take i) (32+n) ++ [k])from hds.symm] at hdr
       have hyl:(du q (aN (l.take i) (32+n) ++ [k])).length=1024:=by
        rw [hds]
        exact(ph t3 t1 t2).ok.len
       rw [← hsn] at hdr hyl
       rw [← hk] at hdr
       have hxl:=t3.len
       have hbt:(!(aN (l.take (i+1)) (32+n)).isEmpty)=true:=by rw [hsn];cases aN (l.take i) (32+n) <;> rfl
       rw [← hsn]at hds
       clear hsn hat hk hkt t1 t2 t3 hxr hhas hmi hmd he2 hds
       generalize du q (aN (l.take i) (32+n))=x at k3 hxl hdr
       generalize hy:du q (aN (l.take (i+1)) (32+n))=y at hdr hyl
       repeat apply ah;rfl
       (apply gC;(focus(kernel_rfl));(focus(kernel_rfl)))
       refine ej 6 (JL rfl) ?_
       repeat first|refine cn rfl rfl rfl (F.ag _ rfl) k3 (bh hxl) ?_|refine aI (q:=i) rfl rfl rfl rfl (F.un _ rfl) (F.sz _ rfl) (by assumption) (by omega) (by(omega)) (JZ _) ?_|refine bp (an (F.ag _ rfl) rfl r4 hc1) rfl rfl rfl ?_|apply aW;rfl
       refine aA ?_;(apply er;rfl;rfl;rfl;(focus(kernel_rfl));exact(hdr _ _))
       refine jy ?_
       repeat first|refine pR (fp cq) rfl rfl rfl ?_|refine bY rfl rfl rfl (F.sz _ rfl) (by repeat(exact ac)) (bh hyl) (by rw [bh aj];exact JZ _) (hZ _) (lu _ _ aj hyl) ?_|apply aW;rfl
       refine aA ⟨by kernel_rfl,?_,?_⟩;(focus(repeat(first|exact KO|refine⟨.inl rfl,?_⟩|refine⟨.inr (.inl (by(repeat(refine⟨(by first|exact mN rfl|exact aU (F.ag _ rfl) rfl (by(repeat(refine ab (by omega) ?_));exact k3) (bv hxl)|exact an (F.ag _ rfl) rfl (by(repeat(refine ab (by omega) ?_));exact r4) hc1|exact aO (F.un _ rfl) (F.sz _ rfl) rfl rfl (by(repeat(refine ab (by omega) ?_));exact r4) rfl (by omega) (JZ _)),?_⟩));exact KO)),?_⟩|refine⟨.inr (.inr (by(repeat(refine⟨(by exact eH rfl (by kernel_rfl) (by exact hdr _ _)),?_⟩));exact KO)),?_⟩)))
       repeat first|apply bB hyl;rfl;(focus((repeat(exact ac));done))|apply bJ hyl hxl;rfl;(focus((repeat(first|assumption|refine ab (by omega) ?_));done))|apply ah;rfl|apply aL;rfl;omega;omega
       exact ih2 _ _ _ (i+1) ⟨hi,by dsimp only;omega,by rw [hy];(focus((repeat(exact ac));done)),by repeat(first|assumption|refine ab (by omega) ?_),fun m hm hmb=>by(repeat(refine ab (by omega) ?_));exact k5 m hm hmb⟩ (by omega) (KK ⟨rfl,rfl,rfl,rfl,(by rw [hbt];rfl),fU (by omega),trivial⟩)
      ·have he2:(l[i]).1≠((32+n:Nat):Int):=by omega
       rw [Ka he2] at hsn
       repeat first|apply ah;rfl|apply aL;rfl;omega;omega
       exact ih2 _ _ _ (i+1) ⟨hi,k2,by rw [hsn];exact k3,k4,k5⟩ (by omega) (KK ⟨rfl,rfl,rfl,rfl,(by rw [hsn];rfl),fU (by omega),trivial⟩)
     ·have hi:i=l.length:=by omega
      subst hi
      rw [List.take_length] at k3 ⊢
      clear ih2
      by_cases hs:aN l (32+n)= []
      ·rw [hs]
       have hrt:=BF (pf:=dfH hm) hs
       repeat first|apply ah;rfl|apply aL;rfl;omega;omega
       exact ih _ _ _ (n+1) ⟨hn,by first|omega|(dsimp only;omega),by rw [hrt];exact k4,k5⟩ (by omega) (KK (KN rfl))
      ·have hbt:(!(aN l (32+n)).isEmpty)=true:=by
        cases h9:aN l (32+n)with
        | nil=>exact absurd h9 hs
        | cons a b=>rfl
       rw [hbt]
       have hrt:=zr (pf:=dfH hm) hs
       rw [hq] at hrt
       have hxo:=my hQ.ok hhas
       have hxr:=(aZ hxo.len).2 hxo
       have hpk:=fun(H:au) nx=>zM (H:=H) (nx:=nx) hxo.len hxr
       have hyl:=(oL hxo).len
       have hxl:=hxo.len
       have hmem:jP hm (io (dfH hm) l (n+1))=fx (jP hm (io (dfH hm) l n)) n (iM (du q (aN l (32+n)))):=by
        rw [hrt,xK,show 32+n-32=n by omega]
        rfl
       generalize iM (du q (aN l (32+n)))=y at hpk hyl hmem
       generalize du q (aN l (32+n))=x at k3 hpk hxl
       clear hxo hxr hrt hbt
       repeat first|apply bB hxl;rfl;assumption|apply bJ hyl aj;rfl;(focus((repeat(exact ac));done))|refine be rfl rfl cq ?_|apply ah;rfl|apply bW;rfl;kernel_rfl;exact hpk _ _
       refine cQ (R:=fun H5 n5=>n4<n5∧H5.at' n4=some (pgO y)∧H5.at' hb=some (hpO (jP hm (io (dfH hm) l n)))∧ ∀ m,m<nx→m≠hb→H5.at' m=H.at' m) ⟨by omega,by repeat(exact ac),by repeat(first|assumption|refine ab (by omega) ?_),fun m hm hmb=>by(repeat(refine ab (by omega) ?_));exact k5 m hm hmb⟩ ?_
       rintro H5 n5 ⟨e0,e1,e2,e3⟩
       have hhl:=hpl n j1
       generalize jP hm (io (dfH hm) l n)=hm2 at e2 hmem hhl
       (apply bk;(focus(kernel_rfl));(focus(kernel_rfl)))
       repeat first|refine cn rfl rfl rfl (F.ag _ rfl) e1 (bh hyl) ?_|refine bY rfl rfl rfl (F.sz _ rfl) e2 (bh hyl) (by rw [Kf,Kf,hhl];omega) (hZ _) (tz hhl hn hyl) ?_|apply gg (q:=n);rfl;rfl;rfl;rfl;exact(F.un _ rfl);exact(F.sz _ rfl);(focus(omega));(focus(omega))|apply aW;rfl
       refine aA ⟨by kernel_rfl,?_,?_⟩;(focus(repeat(first|exact KO|apply jE;rfl|apply gr;rfl;kernel_rfl|refine fO 0 rfl (by kernel_rfl) (by(repeat(refine⟨(by first|exact aU (F.ag _ rfl) rfl (by repeat(first|assumption|refine ab (by omega) ?_)) (bv hyl)|exact fk (q:=n) rfl rfl (F.un _ rfl) (F.sz _ rfl) (by omega) (by omega)),?_⟩));exact KO) ?_)))
       repeat first|apply ah;rfl|apply aL;rfl;omega;omega
       exact ih _ _ _ (n+1) ⟨hn,by first|omega|(dsimp only;omega),by rw [hmem];(focus((repeat(exact ac));done)),fun m hm hmb=>by(repeat(refine ab (by omega) ?_));exact e3 m hm hmb⟩ (by omega) (KK (KN rfl))
    ·have hn:n=96:=by omega
     subst hn
     repeat apply ah;rfl
     (apply bR Tryz.func24 Tryz.results24;rfl)
     exact⟨rfl,j3,j2,j4⟩
   ·have hM:gh (dfH hm) l=(6,[]):=by
     unfold gh
     rw [Ka (fun h=>h hmay),Kb hw]
    rw [hM]
    repeat first|apply ah;rfl|apply iA;rfl;omega
    (apply bR Tryz.func24 Tryz.results24;rfl)
    exact⟨rfl,by exact b2,by dsimp only;omega,fun m hm _=>i4 m hm⟩
end
end Go.Proofs.YtnhmbonmlfeifaaGreat
end
section
namespace Go.Sy
open Go Go.Sl Go.RowKit
section
variable {P:Program} {ro:Option Nat} {fn nt nx:Nat} {T:Tr SV} {k:List AIt} {dfs:List ADf} {H:au} {Q:Pst} {ty:TypeId} {pos:String} {af:Array Edge} {gd:Option (Nat×Bool)} {d:Option Tmp}
theorem zT{x:Operand}{name:String}{as1:List Operand}{ats:Array TypeId}{t:TypeId}{v:SV}{args:List SV}{g:FuncId}(hx:am T x=some (.ifc t v))(ha:dF T as1=some args)(hm:lK P t name=some g):OpDoes P T H nx ⟨d,.call {callee:= .invoke x name,args:=as1.toArray,argTypes:=ats},ty,pos,af,gd⟩ (.enter g (v :: args),H,nx):=by
 refine jm ?_
 have hc:cg P T {callee:= .invoke x name,args:=as1.toArray,argTypes:=ats}=some (.enter g (v :: args)):=by
  simp only [cg,ha,hx,hm]
 unfold fZ
 simp only [hc,J5]
theorem tK{ops:Array Oper}{i stg:Nat}{l:List Oper}{rs:List Rec}{Hs:List (au×Nat)}{K:DS→Prop}{x:Operand}{name:String}{t:TypeId}{v v':SV}(g:FuncId){as1:List Operand}{ats:Array TypeId}{args:List SV}{H':au}{nx' dd:Nat}
 (hw:aH (a9 T (bf ops.toList ⟨some dd,.call {callee:= .invoke x name,args:=as1.toArray,argTypes:=ats},ty,pos,af,gd⟩)) ops ⟨some dd,.call {callee:= .invoke x name,args:=as1.toArray,argTypes:=ats},ty,pos,af,gd⟩=some true) (hd:Nat.blt dd nt=true)
 (hx:am (a9 T (bf ops.toList ⟨some dd,.call {callee:= .invoke x name,args:=as1.toArray,argTypes:=ats},ty,pos,af,gd⟩)) x=some (.ifc t v))
 (ha:dF (a9 T (bf ops.toList ⟨some dd,.call {callee:= .invoke x name,args:=as1.toArray,argTypes:=ats},ty,pos,af,gd⟩)) as1=some args) (hm:lK P t name=some g) (hr:Fnc P g (v :: args) H nx (fun r=>r=(v',H',nx')))
 (h:DrawK P nt ops (i+1) l ⟨T.set dd v',H',nx',⟨i,⟨some dd,.call {callee:= .invoke x name,args:=as1.toArray,argTypes:=ats},ty,pos,af,gd⟩,a9 T (bf ops.toList ⟨some dd,.call {callee:= .invoke x name,args:=as1.toArray,argTypes:=ats},ty,pos,af,gd⟩),stg,true,true,v'⟩ :: rs,(H',nx') :: Hs,stg+1⟩ K) :
 DrawK P nt ops i (⟨some dd,.call {callee:= .invoke x name,args:=as1.toArray,argTypes:=ats},ty,pos,af,gd⟩ :: l) ⟨T,H,nx,rs,Hs,stg⟩ K:=by
 obtain⟨s',h1,h2⟩:=h.ex
 refine⟨⟨s',.cons (.inr (.inr ⟨hw,v',H',nx',⟨_,zT hx ha hm,(fun c hc=>(by cases hc)),hr⟩,?_⟩)) h1,h2⟩⟩
 simp only [aK hd]
end
end Go.Sy
end
section
namespace Go.Proofs.YtnhmbonmlfeifaaGreat
open Go Go.Sy Go.Sl Go.RowKit
theorem zd(k:Int):nJ false 1 1 3 (List.take (0*1) (List.map SV.sc (List.map (fun x=>(Value.int IntKind.i64 0).cells[x % (Value.int IntKind.i64 0).cells.size]!) (List.range (1*1)))) ++ (SV.sc (Value.int IntKind.i64 k)).cells ++ List.drop (0*1+1) (List.map SV.sc (List.map (fun x=>(Value.int IntKind.i64 0).cells[x % (Value.int IntKind.i64 0).cells.size]!) (List.range (1*1)))))=qb [k]:=by
 have h:(List.take (0*1) (List.map SV.sc (List.map (fun x=>(Value.int IntKind.i64 0).cells[x % (Value.int IntKind.i64 0).cells.size]!) (List.range (1*1)))) ++ (SV.sc (Value.int IntKind.i64 k)).cells ++ List.drop (0*1+1) (List.map SV.sc (List.map (fun x=>(Value.int IntKind.i64 0).cells[x % (Value.int IntKind.i64 0).cells.size]!) (List.range (1*1)))))= [SV.sc (.int .i64 k)]:=by kernel_rfl
 rw [h]
 refine congrArg (VO.row false 1 1 3) (funext fun i=>?_)
 cases i with
 | zero=>rfl
 | succ i=>rfl
theorem xL(mem:List UInt8)(left puts:Int)(ρ:Nat→Nat):(cT mem left puts).ren ρ=cT mem left puts:=by
 have h:pY mem left puts=(byV mem ++ [Value.int .i64 left,Value.int .i64 puts]).map SV.sc:=by rw [J4];rfl
 show(aq _ (pY mem left puts)).ren ρ=aq _ (pY mem left puts)
 rw [h]
 exact zn
theorem Bu(ks:List Int)(hl:ks.length<65536):Ctr Tryz.prog 53 [.slu 0 0 ks.length] [qb ks] (fun c=>c=⟨.tup [],[some (qb (ia ks))]⟩):=by
 have hs:=wc ks.length ks.toArray hl (by simp)
 have hrow:cd ks.length (Sort.sort bq ks.toArray)=iU false (ia ks):=by
  have:(ia ks).length=ks.length:=ji ks
  show dat false ks.length 1 3 _=dat false (ia ks).length 1 3 _
  rw [this]
  rfl
 rw [hrow] at hs
 exact hs
theorem uD(l:List (Int×Int)):(dE l).length≤96:=by
 unfold dE
 refine J7 (List.length_filter_le _ _) ?_
 simp
abbrev dlP(mem:List UInt8)(l:List (Int×Int))(n:Nat):List UInt8:=rS (aM (az mem n)).1 (aN l n)
abbrev xz:Unit→SV:=fun _=> .agg []
theorem BE{H:au}{nx b r:Nat}{l:List (Int×Int)}{mem:List UInt8}{left puts:Int}(hb:H.at' b=some (cT mem left puts))(hm:mem.length=131072)(hrow:H.at' r=some (pH l))(hne:r≠b)(hll:l.length≤50000)(hG: ∀ n,32≤n→n<128→GoodP (az mem n))(hl2 : -1000000≤left∧left≤1000000)(hputs : -1000000≤puts∧puts≤1000000):Fnc Tryz.prog 21 [ud b,.slu r 0 l.length] H nx
 (fun q=>q.1 = .sc (.int .i64 ((if(gh (az mem) l).1≠0 then(gh (az mem) l).1 else(gi (gh (az mem) l).2 mem left puts).1:Nat):Int))∧q.2.1.at' b=some (cT (gi (gh (az mem) l).2 mem left puts).2.1 (gi (gh (az mem) l).2 mem left puts).2.2.1 (gi (gh (az mem) l).2 mem left puts).2.2.2)∧nx≤q.2.2∧ ∀ m,m<nx→m≠b→q.2.1.at' m=H.at' m):=by
 refine KE Tryz.func21 rfl rfl ?_
 refine aV fun hund=>?_
 have lb:=hund _ _ hb
 have lR:=hund _ _ hrow
 clear hund
 repeat first|apply ah;rfl|apply aG;rfl;(focus((repeat(exact ac));done));rfl|refine w_vl (xO) rfl rfl rfl ?_|apply lF;rfl;rfl;rfl;(focus(kernel_rfl))|refine cf (fm rfl rfl Tryz.underlying75 rfl) rfl rfl rfl ?_
 refine bE (α:=Nat×List (Int×(Nat×List Int)×Nat)×Nat×List ((Int×Int)×Unit×Nat)×Nat) (fun x=> [(0,ud b),(4,.ptr nx 0),(5,.ptr (nx+1+1) 0),(6,.mp (nx+1+1+1)),(25,.slu r 0 l.length),(26,.sc (.int .i64 (l.length:Int))),(27,.sc (.int .i64 (x.1:Int)))])
  (fun x H1 n1=>x.1≤l.length∧OK1 l x.1∧SlM H1 (nx+1+1+1+1) n1 (l.take x.1) x.2.1 x.2.2.1∧SeM (l.take x.1) x.2.2.2.1 x.2.2.2.2∧nx+1+1+1+1≤n1∧H1.at' nx=some (fB 0)∧H1.at' (nx+1)=some (jk wV jA x.2.1 x.2.2.1)∧H1.at' (nx+1+1)=some (Gq (nx+1))∧H1.at' (nx+1+1+1)=some (jk uo xz x.2.2.2.1 x.2.2.2.2)∧ ∀ m,m<nx→H1.at' m=H.at' m) (fun x=>l.length-x.1) (0,[],0,[],0)
  ⟨J0 _,⟨fun t ht=>by simp at ht,by simp⟩,by show SlM _ _ _ (l.take 0) [] 0;rw [List.take_zero];exact SlM.zero,by show SeM (l.take 0) [] 0;rw [List.take_zero];exact SeM.zero,by first|omega|(dsimp only;omega),by repeat(first|exact ac|refine ab (by omega) ?_),by repeat(first|exact ac|refine ab (by omega) ?_),by repeat(first|exact ac|refine ab (by omega) ?_),by repeat(exact ac),fun m hm=>by(repeat(refine ab (by omega) ?_));rfl⟩ (KK (KN rfl)) ?_
 rintro⟨i,m,c,o,c2⟩ H1 n1 ⟨i1,i2,i3,i4,i5,i6,i7,i8,i9,i10⟩ ih
 dsimp only at i1 i2 i3 i4 i5 i6 i7 i8 i9 i10 ⊢
 have r1:H1.at' r=some (pH l):=(i10 r lR).trans hrow
 have b1:H1.at' b=some (cT mem left puts):=(i10 b lb).trans hb
 repeat apply ah;rfl
 refine bu rfl rfl rfl rfl (fun h5=>?_) (fun h5=>?_)
 ·have hi:i<l.length:=by omega
  have hcc:=vE hi
  repeat first|refine dH (q:=i) rfl rfl rfl rfl (F.un _ rfl) (F.sz _ rfl) (by assumption) (by omega) (by(omega)) (JZ _) ?_|(refine dj rfl (.inr (fun _ h=>by cases h)) ((aU (F.ag _ rfl) rfl r1 hcc).does) ?_);rw [aK rfl]|apply ah;rfl|apply aG;rfl;(focus((repeat(exact ac));done));rfl
  refine cQ (R:=fun H2 n2=>n2=n1+1∧H2.at' n1=some (tidB l[i])∧SlM H2 (nx+1+1+1+1) n1 (l.take i) m c∧H2.at' nx=some (fB 0)∧H2.at' (nx+1)=some (jk wV jA m c)∧H2.at' (nx+1+1)=some (Gq (nx+1))∧H2.at' (nx+1+1+1)=some (jk uo xz o c2)∧ ∀ m,m<nx→H2.at' m=H.at' m) ⟨rfl,by repeat(exact ac),i3.frame (JZ _) fun r h1 h2=>by(repeat(refine ab (by omega) ?_));rfl,by repeat(first|assumption|refine ab (by omega) ?_),by repeat(first|assumption|refine ab (by omega) ?_),by repeat(first|assumption|refine ab (by omega) ?_),by repeat(first|assumption|refine ab (by omega) ?_),fun m hm=>by(repeat(refine ab (by omega) ?_));exact i10 m hm⟩ ?_
  rintro H2 n2 ⟨rfl,j0,j3,j6,j7,j8,j9,j10⟩
  clear i3 i6 i7 i8 i9 i10 r1 b1
  by_cases hmem:l[i]∈l.take i
  ·have hM:gh (az mem) l=(2,[]):=Kb (by
    obtain⟨k,hk,he⟩:=List.getElem_of_mem hmem
    rw [Ke] at hk
    exact we hi (k:=k) (by omega) (by rw [← he,List.getElem_take]))
   have hg:gU o l[i]=some ():=by
    cases h:gU o l[i] with
    | some u=>rfl
    | none=>exact absurd ((i4.keys _).2 hmem) (mh.1 h)
   refine Bi (m:=o) (enc:=uo) (val:=xz) (c:=c2) rfl rfl rfl rfl (um l[i]) (F.un _ rfl) uQ (by assumption) hg ?_
   repeat first|apply ah;rfl|apply aG;rfl;(focus((repeat(first|assumption|exact ac|refine ab (by omega) ?_));done));rfl
   rw [hM,Kb (by decide)]
   dsimp only [gi]
   (refine eJ Tryz.func21 (congrArg Array.toList Tryz.results21) (by kernel_rfl) (KD sB ?_);rintro _ rfl;refine⟨_,(by(repeat(first|exact KF|apply KG rfl (KJ (F.ag _ rfl) (by repeat(exact ac)) (aD rfl))))),?_⟩;dsimp only;exact⟨rfl,by(repeat(refine ab (by omega) ?_));exact(j10 b lb).trans hb,by first|omega|(dsimp only;omega),fun m hm _=>by(repeat(refine ab (by omega) ?_));exact j10 m hm⟩)
  ·have hg:gU o l[i]=none:=by
    cases h:gU o l[i] with
    | none=>rfl
    | some u=>exact absurd ((i4.keys _).1 (by
       apply Classical.byContradiction
       intro h2
       rw [mh.2 h2] at h
       cases h)) hmem
   refine Bj (m:=o) (enc:=uo) (val:=xz) (c:=c2) rfl rfl rfl rfl (um l[i]) (F.un _ rfl) uQ (by assumption) hg (F.ze _ rfl) ?_
   have hmy:=fun(H:au) nx=>Ag (H:=H) (nx:=nx) (n:=(l[i]).1) (k:=(l[i]).2)
   cases hmay:lQ (l[i]).1 (l[i]).2 with
   | false=>
     rw [hmay] at hmy
     have hM:gh (az mem) l=(2,[]):=Kb (wg hi hmay)
     rw [hM,Kb (by decide)]
     dsimp only [gi]
     repeat first|apply ah;rfl|apply aG;rfl;(focus((repeat(first|assumption|exact ac|refine ab (by omega) ?_));done));rfl|refine Hf (dg (F.sz _ rfl) rfl rfl rfl (by repeat(first|assumption|exact ac)) (by rfl) (by exact JL rfl) (by rfl)) rfl rfl ?_|apply bW;rfl;kernel_rfl;exact hmy _ _
     (refine eJ Tryz.func21 (congrArg Array.toList Tryz.results21) (by kernel_rfl) (KD sB ?_);rintro _ rfl;refine⟨_,(by(repeat(first|exact KF|apply KG rfl (KJ (F.ag _ rfl) (by repeat(exact ac)) (aD rfl))))),?_⟩;dsimp only;exact⟨rfl,by(repeat(refine ab (by omega) ?_));exact(j10 b lb).trans hb,by first|omega|(dsimp only;omega),fun m hm _=>by(repeat(refine ab (by omega) ?_));exact j10 m hm⟩)
   | true=>
     rw [hmay] at hmy
     have hok:=xl hi i2 hmay hmem
     have hse:=i4.add l[i]
     rw [← fT hi] at hse
     repeat first|apply ah;rfl|apply aG;rfl;(focus((repeat(first|assumption|exact ac|refine ab (by omega) ?_));done));rfl|refine Hf (dg (F.sz _ rfl) rfl rfl rfl (by repeat(first|assumption|exact ac)) (by rfl) (by exact JL rfl) (by rfl)) rfl rfl ?_|apply bW;rfl;kernel_rfl;exact hmy _ _
     refine Bh (m:=o) (enc:=uo) (val:=xz) (c:=c2) (v:=()) rfl rfl rfl (um l[i]) (F.un _ rfl) uQ (by repeat(first|assumption|refine ab (by omega) ?_)) rfl ?_
     repeat apply ah;rfl
     refine cQ (R:=fun H3 n3=>n3=n1+1+1∧H3.at' n1=some (tidB l[i])∧SlM H3 (nx+1+1+1+1) n1 (l.take i) m c∧H3.at' nx=some (fB 0)∧H3.at' (nx+1)=some (jk wV jA m c)∧H3.at' (nx+1+1)=some (Gq (nx+1))∧H3.at' (nx+1+1+1)=some (jk uo xz (ic o l[i] () c2) (pO o l[i] c2))∧ ∀ m,m<nx→H3.at' m=H.at' m) ⟨rfl,by repeat(first|assumption|refine ab (by omega) ?_),j3.frame (JZ _) fun r h1 h2=>by(repeat(refine ab (by omega) ?_));rfl,by repeat(first|assumption|refine ab (by omega) ?_),by repeat(first|assumption|refine ab (by omega) ?_),by repeat(first|assumption|refine ab (by omega) ?_),by repeat(exact ac),fun m hm=>by(repeat(refine ab (by omega) ?_));exact j10 m hm⟩ ?_
     rintro H3 n3 ⟨rfl,k0,k3,k6,k7,k8,k9,k10⟩
     clear j0 j3 j6 j7 j8 j9 j10 hmy
     rcases k3.get (l[i]).1 with ⟨g1,g2⟩|⟨rv,g1,g2,g3,g4⟩
     ·(apply bk;(focus(kernel_rfl));(focus(kernel_rfl)))
      repeat first|apply dN;rfl;assumption;rfl|refine Cm (m:=m) (enc:=wV) (val:=jA) rfl rfl rfl rfl (F.un _ rfl) (ig (F.un _ rfl)) (by assumption) (g1) (F.ze _ rfl) ?_|refine pR (jh (F.un _ rfl) (F.sz _ rfl) (bX rfl) (F.ze _ rfl) rfl rfl rfl rfl rfl) rfl rfl rfl ?_|refine ki rfl rfl (fun _ h=>by cases h) (mS (b:=8) (F.un _ rfl) (.inl ⟨_,F.un _ rfl⟩) (F.sz _ rfl) (by decide) (by kernel_rfl) (by kernel_rfl) rfl rfl (slRow (by repeat(exact ac)) rfl) (by rfl) (by omega) (by omega) (by omega)) ?_|refine wW (m:=m) (enc:=wV) (val:=jA) (kk:=(l[i]).1) (v:=(n1+1+1+1,[(l[i]).2])) rfl rfl rfl (F.un _ rfl) (ig (F.un _ rfl)) (by repeat(first|assumption|refine ab (by omega) ?_)) rfl ?_|apply aW;rfl
      refine aA ⟨by kernel_rfl,?_,?_⟩;(focus(repeat(first|exact KO|apply jE;rfl|apply gr;rfl;kernel_rfl|refine fO 0 rfl (by kernel_rfl) (by(repeat(refine⟨(by(exact an (F.ag _ rfl) rfl (by repeat(first|assumption|refine ab (by omega) ?_)) (aD rfl))),?_⟩));exact KO) ?_|refine fO 1 rfl (by kernel_rfl) (by(repeat(refine⟨(by(exact vR (ok:=false) (enc:=wV) (val:=jA) (m:=m) (c:=c) rfl rfl (F.un _ rfl) (ig (F.un _ rfl)) (by((focus((repeat(first|assumption|refine ab (by omega) ?_));done)))) g1 (F.ze _ rfl))),?_⟩));exact KO) ?_)))
      repeat first|apply ah;rfl|apply aL;rfl;omega;omega
      have hadd:=fun(H4:au) n4 (h1:n1+1+1+1<n4) (h2:H4.at' (n1+1+1+1)=some (qb [(l[i]).2])) (h3: ∀ x,x<n1→nx+1+1+1+1≤x→H4.at' x=H3.at' x)=>k3.add (H':=H4) (nx':=n4) (r':=n1+1+1+1) (l[i]).1 (l[i]).2 i5 (by omega) h1 (by rw [g2];exact h2) fun x q1 q2 _=>h3 x q2 q1
      rw [g2,←fT hi] at hadd
      exact ih _ _ _ (i+1,ic m (l[i]).1 (n1+1+1+1,[(l[i]).2]) c,pO m (l[i]).1 c,ic o l[i] () c2,pO o l[i] c2) ⟨hi,hok,hadd _ _ (by(dsimp only;omega)) (by refine(aa _ _ (by omega)).trans ?_;exact(ai _ _ _).trans (congrArg some (zd _))) (fun x q1 q2=>by(repeat(refine ab (by omega) ?_));rfl),hse,by first|omega|(dsimp only;omega),by repeat(first|assumption|refine ab (by omega) ?_),by repeat(exact ac),by repeat(first|assumption|refine ab (by omega) ?_),by repeat(first|assumption|refine ab (by omega) ?_),fun m hm=>by(repeat(refine ab (by omega) ?_));exact k10 m hm⟩ (by dsimp only;omega) (KK (KN rfl))
     ·have hrl:(jB (l.take i) (l[i]).1).length≤50000:=by
       unfold jB
       rw [Kf]
       refine J7 (List.length_filter_le _ _) ?_
       rw [Ke]
       omega
      generalize hlst:jB (l.take i) (l[i]).1=lst at g1 g4 hrl
      (apply bk;(focus(kernel_rfl));(focus(kernel_rfl)))
      repeat first|apply dN;rfl;assumption;rfl|refine Cn (m:=m) (enc:=wV) (val:=jA) rfl rfl rfl rfl (F.un _ rfl) (ig (F.un _ rfl)) (by assumption) (g1) ?_|refine pR (jh (F.un _ rfl) (F.sz _ rfl) (bX rfl) (F.ze _ rfl) rfl rfl rfl rfl rfl) rfl rfl rfl ?_|refine ki rfl rfl (fun _ h=>by cases h) (zQ (A:=Int) (f:=rI) (xs:=lst) (a:=(l[i]).2) (b:=8) rfl rfl (F.un _ rfl) (.inl ⟨_,F.un _ rfl⟩) (F.sz _ rfl) (by decide) (by kernel_rfl) (by kernel_rfl) (by repeat(first|assumption|refine ab (by omega) ?_)) (by repeat(exact ac)) rfl tN (by omega) (by omega)) ?_|refine wW (m:=m) (enc:=wV) (val:=jA) (kk:=(l[i]).1) (v:=(n1+1+1+1,lst ++ [(l[i]).2])) rfl rfl rfl (F.un _ rfl) (ig (F.un _ rfl)) (by repeat(first|assumption|refine ab (by omega) ?_|refine cc (by omega) ?_)) rfl ?_|apply aW;rfl
      refine aA ⟨by kernel_rfl,?_,?_⟩;(focus(repeat(first|exact KO|apply jE;rfl|apply gr;rfl;kernel_rfl|refine fO 0 rfl (by kernel_rfl) (by(repeat(refine⟨(by(exact an (F.ag _ rfl) rfl (by repeat(first|assumption|refine ab (by omega) ?_|refine cc (by omega) ?_)) (aD rfl))),?_⟩));exact KO) ?_|refine fO 1 rfl (by kernel_rfl) (by(repeat(refine⟨(by(exact uA (ok:=false) (enc:=wV) (val:=jA) (m:=m) (c:=c) rfl rfl (F.un _ rfl) (ig (F.un _ rfl)) (by((focus((repeat(first|assumption|refine ab (by omega) ?_|refine cc (by omega) ?_));done)))) g1)),?_⟩));exact KO) ?_)))
      repeat first|apply ah;rfl|apply aL;rfl;omega;omega
      have hadd:=fun(H4:au) n4 (h1:n1+1+1+1<n4) (h2:H4.at' (n1+1+1+1)=some (qb (lst ++ [(l[i]).2]))) (h3: ∀ x,x<n1→nx+1+1+1+1≤x→x≠rv→H4.at' x=H3.at' x)=>k3.add (H':=H4) (nx':=n4) (r':=n1+1+1+1) (l[i]).1 (l[i]).2 i5 (by omega) h1 (by rw [hlst];exact h2) fun x q1 q2 q3=>h3 x q2 q1 fun e=>q3 lst (by rw [e];exact g1)
      rw [hlst,←fT hi] at hadd
      exact ih _ _ _ (i+1,ic m (l[i]).1 (n1+1+1+1,lst ++ [(l[i]).2]) c,pO m (l[i]).1 c,ic o l[i] () c2,pO o l[i] c2) ⟨hi,hok,hadd _ _ (by(dsimp only;omega)) (by repeat(first|exact ac|refine ab (by omega) ?_)) (fun x q1 q2 q3=>by(repeat(first|refine ab (by omega) ?_|refine cc (by omega) ?_));rfl),hse,by first|omega|(dsimp only;omega),by repeat(first|assumption|refine ab (by omega) ?_|refine cc (by omega) ?_),by repeat(exact ac),by repeat(first|assumption|refine ab (by omega) ?_|refine cc (by omega) ?_),by repeat(first|assumption|refine ab (by omega) ?_|refine cc (by omega) ?_),fun m hm=>by(repeat(first|refine ab (by omega) ?_|refine cc (by omega) ?_));exact k10 m hm⟩ (by dsimp only;omega) (KK (KN rfl))
 ·have hi:i=l.length:=by omega
  subst hi
  have hM:uf l:=by
   unfold OK1 at i2
   rw [List.take_length] at i2
   exact i2
  rw [List.take_length] at i3
  have hkey:=fun(ks:List Int) hp hs=>xW (ks:=ks) hM (K:=m.map (·.1)) hp i3.ok.keys hs i3.keys
  have hml:=i3.len
  repeat first|apply bW;rfl;kernel_rfl;exact yb jA m c|apply ah;rfl|apply aG;rfl;assumption;rfl
  refine aE rfl rfl rfl (by kernel_rfl) (KD (B1 jA m c i3.ok (by omega) (by repeat(exact ac)) (b:=nx+1) (by repeat(first|assumption|refine ab (by omega) ?_)) (by omega) (by omega)) ?_)
  rintro⟨_,H7,n7⟩ hso
  obtain⟨nm,ks,hks,hsr,e1,u1,u2,u3,u4⟩:=hso
  dsimp only at e1
  subst e1
  dsimp only at u1 u2 u3 u4 ⊢
  have hk2:=hkey ks hks hsr
  subst hk2
  clear hkey hks hsr
  repeat apply ah;rfl
  refine kD 1024 27 (d:=12) (by repeat(first|exact ac|refine ab (by omega) ?_)) rfl ?_
  have hPL:=uD l
  have hnl:(jV (dE l)).length=(dE l).length:=Kf _
  generalize hPG:dE l=PG at hPL hnl u3
  refine bE (α:=Nat×Nat) (fun x=> [(0,ud b),(4,.ptr nx 0),(5,.ptr (nx+1+1) 0),(11,.slu nm 0 (jV PG).length),(12,.slu x.2 0 ((PG.take x.1).map (dlP mem l)).length),(61,.slu nm 0 (jV PG).length),(62,.sc (.int .i64 ((jV PG).length:Int))),(63,.sc (.int .i64 (x.1:Int)))])
   (fun x H8 n8=>x.1≤PG.length∧(∀ n∈PG.take x.1,∀ k∈aN l n,lB (aM (az mem n)).1 k=true)∧n7≤x.2∧x.2<n8∧H8.at' x.2=some (pgR ((PG.take x.1).map (dlP mem l)))∧H8.at' nx=some (fB 0)∧H8.at' (nx+1)=some (jk wV jA m c)∧H8.at' (nx+1+1)=some (Gq (nx+1))∧H8.at' nm=some (qb (jV PG))∧(∀ n∈PG.drop x.1,∀ r ks,gU m (n:Int)=some (r,ks)→H8.at' r=some (qb ks))∧ ∀ m,m<nx→H8.at' m=H.at' m) (fun x=>PG.length-x.1) (0,n7)
   ⟨J0 _,fun n hn=>by simp at hn,JZ _,Nat.lt_succ_self _,ai _ _ _,by(repeat(refine ab (by omega) ?_));exact(u4 _ (by omega)).trans (by repeat(first|assumption|refine ab (by omega) ?_)),by(repeat(refine ab (by omega) ?_));exact(u4 _ (by omega)).trans (by repeat(first|assumption|refine ab (by omega) ?_)),by(repeat(refine ab (by omega) ?_));exact(u4 _ (by omega)).trans (by repeat(first|assumption|refine ab (by omega) ?_)),by(repeat(refine ab (by omega) ?_));exact u3,fun n _ r ks hg=>by
     obtain⟨_,q2,q3,q4⟩:=i3.val _ _ _ hg
     exact(aa _ _ (by omega)).trans ((u4 _ (by omega)).trans ((aa _ _ (by omega)).trans q4)),fun m hm=>by
     exact(aa _ _ (by omega)).trans ((u4 _ (by omega)).trans ((aa _ _ (by omega)).trans (i10 m hm)))⟩ (KK (KN rfl)) ?_
  clear u3 u4 i6 i7 i8 i9 i10 r1 b1
  rintro⟨j,rp⟩ H8 n8 ⟨j1,j2,j3,j4,j5,j6,j7,j8,j9,j10,j11⟩ ih2
  dsimp only at j1 j2 j3 j4 j5 j6 j7 j8 j9 j10 j11 ⊢
  repeat apply ah;rfl
  refine bu rfl rfl rfl rfl (fun h6=>?_) (fun h6=>?_)
  ·have hj:j<PG.length:=by omega
   have hcell:(qb (jV PG)).cell (j*1)=some (.sc (.int .i64 (PG[j]:Int))):=by
    have:=qY (l:=jV PG) (i:=j) (by omega)
    rwa [List.getElem_map] at this
   have hmemP:PG[j]∈dE l:=by rw [hPG];exact J9 hj
   obtain⟨p1,p2,p3⟩:=eg.1 hmemP
   have hdr:PG.drop j=PG[j] :: PG.drop (j+1):=List.drop_eq_getElem_cons hj
   have htk:PG.take (j+1)=PG.take j ++ [PG[j]]:=List.take_succ_eq_append_getElem hj
   have hsN:=za hM.1 PG[j]
   generalize hn:PG[j]=N at hcell hmemP p1 p2 p3 hdr htk hsN
   obtain⟨g1,g2⟩|⟨rv,g1,g2,g3,g4⟩:=i3.get (N:Int)
   ·exfalso
    rw [hsN] at g2
    exact p3 (List.map_eq_nil_iff.1 g2)
   ·rw [hsN] at g1
    have hrv:=j10 N (by rw [hdr];exact Ki) rv _ g1
    have hSl:(jV (aN l N)).length=(aN l N).length:=Kf _
    have hSb:(aN l N).length≤50000:=by
     unfold aN
     rw [Kf]
     exact J7 (List.length_filter_le _ _) hll
    have hsort:=Bu (jV (aN l N)) (by omega)
    rw [← Bt] at hsort
    repeat first|refine dH (q:=j) rfl rfl rfl rfl (F.un _ rfl) (F.sz _ rfl) j9 (by omega) (by omega) (by omega) ?_|refine cf (an (F.ag _ rfl) rfl j9 hcell) rfl rfl rfl ?_|apply ah;rfl|apply aG;rfl;(focus((repeat(first|assumption|exact ac|refine ab (by omega) ?_));done));rfl|refine yI (m:=m) (enc:=wV) (val:=jA) rfl rfl rfl rfl (F.un _ rfl) (ig (F.un _ rfl)) (by repeat(first|assumption|refine ab (by omega) ?_)) (g1) ?_
    dsimp only [jA]
    rw [hSl,←(gD (aN l N)).length_eq]
    have hln:(jV (aN l N)).length=(y7 (aN l N)).length:=hSl.trans (gD (aN l N)).length_eq.symm
    rw [hln] at hsort
    refine cQ (R:=fun HB nB=>nB=n8+1∧HB.at' n8=some (intO N)∧ ∀ m,m<n8→HB.at' m=H8.at' m) ⟨rfl,by repeat(exact ac),fun m hm=>by(repeat(refine ab (by omega) ?_));rfl⟩ ?_
    rintro HB nB ⟨rfl,k1,k2⟩
    have hrvB:HB.at' rv=some (qb (jV (aN l N))):=(k2 _ (by omega)).trans hrv
    (refine aE rfl rfl rfl (by kernel_rfl) (Ctr.DH (hsort) [rv] rfl ⟨by intro n hn;simp at hn;omega,by simp;try omega⟩ rfl (by repeat(first|exact KO|refine⟨aB (by assumption),?_⟩)) ?_);rintro _ rfl;refine⟨_,0,[rv],[some _],rfl,(by repeat(first|exact KO|refine⟨oF _ _ _ _ _ _,?_⟩)),rfl,rfl,?_⟩;dsimp only [wrL])
    repeat first|apply ah;rfl|apply aG;rfl;(focus((repeat(first|assumption|refine ab (by omega) ?_));done));rfl
    obtain⟨q,hq,hgq⟩:=(hG N p1 p2).read
    have hwl:=nS (y7 (aN l N))
    refine aE rfl rfl rfl (by kernel_rfl) (KD (tO (b:=b) (n:=N) (mem:=mem) (left:=left) (puts:=puts) (by(repeat(refine ab (by omega) ?_));exact(k2 _ (by omega)).trans ((j11 b lb).trans hb)) hm p2 (g:=55) (caps:= [.ptr (nx+1+1) 0,.ptr n8 0]) (by kernel_rfl) (r9 (y7 (aN l N))) ?_) ?_)
    ·intro p HA nA hrd hnA ho
     rw [hq] at hrd
     cases hrd
     exact⟨hwl _ hgq.ok.len,Hx (mb:=nx+1) (tb:=nx+1+1) (nb:=n8) (rv:=rv) (n:=N) (c:=c) (m:=m) (ks:=jV (aN l N)) ((ho _ (by omega)).trans (by(repeat(refine ab (by omega) ?_));exact(k2 _ (by omega)).trans j8)) ((ho _ (by omega)).trans (by(repeat(refine ab (by omega) ?_));exact k1)) ((ho _ (by omega)).trans (by(repeat(refine ab (by omega) ?_));exact(k2 _ (by omega)).trans j7)) g1 ((ho _ (by omega)).trans (by repeat(exact ac))) hln (by omega) hgq.ok.len⟩
    ·rintro⟨_,H9,n9⟩ ⟨rfl,g5,g6⟩
     dsimp only at g5 g6 ⊢
     have hof:(aM (az mem N)).1=q:=by rw [hq]
     rw [hq,Ka (fun h=>h rfl)]
     dsimp only
     rw [qu hgq.ok (ft hM N)]
     have hwo:=qu hgq.ok (ft hM N)
     have hwq:=hwl q hgq.ok.len
     by_cases hall: ∀ k∈aN l N,lB q k=true
     ·rw [Kb hall] at hwo ⊢
      rw [hwo] at hwq
      have hdl:rS q (aN l N)=dlP mem l N:=by unfold dlP;rw [hof]
      rw [hdl] at hwq ⊢
      generalize hy:dlP mem l N=y at hwq ⊢
      dsimp only at hwq
      have hyl:(pgS y).length=1024:=by rw [Kf,Kf,hwq]
      refine cQ (R:=fun HC nC=>nC=n9∧HC.at' rp=some (pgR ((PG.take j).map (dlP mem l)))∧HC.at' nx=some (fB 0)∧HC.at' (nx+1)=some (jk wV jA m c)∧HC.at' (nx+1+1)=some (Gq (nx+1))∧HC.at' nm=some (qb (jV PG))∧(∀ x,x<n8→x≠rv→HC.at' x=H8.at' x)) ⟨rfl,(g6 _ (by omega)).trans ((aa _ _ (by omega)).trans ((k2 _ (by omega)).trans j5)),(g6 _ (by omega)).trans ((aa _ _ (by omega)).trans ((k2 _ (by omega)).trans j6)),(g6 _ (by omega)).trans ((aa _ _ (by omega)).trans ((k2 _ (by omega)).trans j7)),(g6 _ (by omega)).trans ((aa _ _ (by omega)).trans ((k2 _ (by omega)).trans j8)),(g6 _ (by omega)).trans ((aa _ _ (by omega)).trans ((k2 _ (by omega)).trans j9)),fun x hx hxr=>(g6 _ (by omega)).trans ((aa _ _ hxr).trans (k2 _ hx))⟩ ?_
      rintro HC nC ⟨rfl,c5,c6,c7,c8,c9,c10⟩
      repeat first|refine be rfl rfl cq ?_|apply bB hwq;rfl;(focus((repeat(exact ac));done))|apply bJ hwq aj;rfl;(focus((repeat(exact ac));done))|apply dA;rfl;rfl|refine bF (cs:=pgS y) rfl rfl (F.un _ rfl) (F.sz _ rfl) rfl zPgV rfl (EX (by simp) hwq) (hZ y) rfl hyl ?_|apply ah;rfl
      refine lS (b:=1024) (f:=pgV) (xs:=(PG.take j).map (dlP mem l)) (a:=y) rfl rfl rfl rfl (F.un _ rfl) (.inl ⟨_,F.un _ rfl⟩) (F.sz _ rfl) rfl (by kernel_rfl) (by kernel_rfl) (by repeat(first|assumption|refine ab (by omega) ?_)) (by repeat(exact ac)) (by show pgS y=(byV (Ji y)).map .sc;rw [AC hwq]) zJ (by rw [Kf,Ke];omega) (by rw [Kf,Ke];omega) ?_
      have hxs:(PG.take j).map (dlP mem l) ++ [y]=(PG.take (j+1)).map (dlP mem l):=by rw [htk,J4,List.map_singleton,hy]
      rw [hxs]
      repeat first|apply ah;rfl|apply aL;rfl;omega;omega
      refine ih2 _ _ _ (j+1,_) ⟨hj,fun n hn=>?_,?_,Nat.lt_succ_self _,ai _ _ _,by repeat(first|assumption|refine ab (by omega) ?_|refine cc (by omega) ?_),by repeat(first|assumption|refine ab (by omega) ?_|refine cc (by omega) ?_),by repeat(first|assumption|refine ab (by omega) ?_|refine cc (by omega) ?_),by repeat(first|assumption|refine ab (by omega) ?_|refine cc (by omega) ?_),fun n hn r ks hg=>?_,fun m hm=>by(repeat(first|refine ab (by omega) ?_|refine cc (by omega) ?_));exact(c10 m (by omega) (by omega)).trans (j11 m hm)⟩ (by dsimp only;omega) (KK (KN rfl))
      ·rw [htk] at hn
       rcases List.mem_append.1 hn with hn|hn
       ·exact j2 n hn
       ·rw [Kg.1 hn,hof]
        exact hall
      ·first|omega|(dsimp only;omega)
      ·have hn2:n∈PG.drop j:=by rw [hdr];exact Kj _ hn
       have hne2:n≠N:=by
        intro e
        have hnd:(PG.drop j).Nodup:=by
         rw [← hPG]
         exact((lz l).imp fun h=>Nat.ne_of_lt h).sublist (List.drop_sublist _ _)
        rw [hdr,List.nodup_cons] at hnd
        exact hnd.1 (e ▸ hn)
       obtain⟨_,q2,q3,_⟩:=i3.val _ _ _ hg
       have hrr:=i3.sep _ _ _ _ _ _ hg g1 (by omega)
       have hold:=(c10 r (by omega) hrr).trans (j10 n hn2 r ks hg)
       (focus((repeat(first|refine ab (by omega) ?_|refine cc (by omega) ?_));exact hold))
     ·rw [Ka hall]
      have hR:gh (az mem) l=(6,[]):=by
       unfold gh
       rw [Ka (fun h=>h hM),Kb (fun h=>hall (by
        have:=(mj hM).1 h N hmemP
        rwa [hof] at this))]
      rw [hR,Kb (by decide)]
      dsimp only [gi]
      have e6:H9.at' nx=some (fB 0):=(g6 _ (by omega)).trans ((aa _ _ (by omega)).trans ((k2 _ (by omega)).trans j6))
      have eb:H9.at' b=some (cT mem left puts):=(g6 _ (by omega)).trans ((aa _ _ (by omega)).trans ((k2 _ (by omega)).trans ((j11 b lb).trans hb)))
      have eo: ∀ x,x<nx→H9.at' x=H.at' x:=fun x hx=>(g6 _ (by omega)).trans ((aa _ _ (by omega)).trans ((k2 _ (by omega)).trans (j11 x hx)))
      repeat first|refine be rfl rfl cq ?_|apply bJ aj aj;rfl;(focus((repeat(exact ac));done))|apply iA;rfl;decide|apply ah;rfl|apply aG;rfl;(focus((repeat(first|assumption|refine ab (by omega) ?_));done));rfl
      (refine eJ Tryz.func21 (congrArg Array.toList Tryz.results21) (by kernel_rfl) (KD sB ?_);rintro _ rfl;refine⟨_,(by(repeat(first|exact KF|apply KG rfl (KJ (F.ag _ rfl) (by repeat(exact ac)) (aD rfl))))),?_⟩;dsimp only;exact⟨rfl,by(repeat(refine ab (by omega) ?_));exact eb,by first|omega|(dsimp only;omega),fun m hm _=>by(repeat(refine ab (by omega) ?_));exact eo m hm⟩)
  ·have hj:j=PG.length:=by omega
   subst hj
   rw [List.take_length] at j2 j5
   clear j10 ih2 ih
   have hR:gh (az mem) l=(0,PG.map fun n=>(n,dlP mem l n)):=by
    unfold gh
    rw [Ka (fun h=>h hM),Ka (fun h=>h ((mj hM).2 (by rw [hPG];exact j2))),hPG]
   rw [hR,Ka (fun h=>h rfl)]
   dsimp only
   generalize hps:(PG.map fun n=>(n,dlP mem l n))=ps
   have hpl:ps.length=PG.length:=by rw [← hps,Kf]
   have hpl2:(PG.map (dlP mem l)).length=PG.length:=Kf _
   repeat apply ah;rfl
   rw [List.take_length]
   refine bE (α:=Nat×List UInt8×Int×Int) (fun x=> [(0,ud b),(4,.ptr nx 0),(12,.slu rp 0 (PG.map (dlP mem l)).length),(86,.slu nm 0 (jV PG).length),(87,.sc (.int .i64 ((jV PG).length:Int))),(88,.sc (.int .i64 (x.1:Int)))])
    (fun x H9 n9=>x.1≤PG.length∧gi (ps.drop x.1) x.2.1 x.2.2.1 x.2.2.2=gi ps mem left puts∧x.2.1.length=131072∧(left-x.1≤x.2.2.1∧x.2.2.1≤left)∧(puts≤x.2.2.2∧x.2.2.2≤puts+x.1)∧n8≤n9∧H9.at' b=some (cT x.2.1 x.2.2.1 x.2.2.2)∧H9.at' nx=some (fB 0)∧H9.at' nm=some (qb (jV PG))∧H9.at' rp=some (pgR (PG.map (dlP mem l)))∧ ∀ m,m<nx→m≠b→H9.at' m=H.at' m) (fun x=>PG.length-x.1) (0,mem,left,puts)
    ⟨J0 _,rfl,hm,by dsimp only;omega,by dsimp only;omega,JZ _,(j11 b lb).trans hb,j6,j9,j5,fun m hm _=>j11 m hm⟩ (KK (KN rfl)) ?_
   rintro⟨q,me,le,pu⟩ H9 n9 ⟨q1,q2,q3,⟨q4,q5⟩,⟨q6,q7⟩,q8,q9,q10,q11,q12,q13⟩ ih3
   dsimp only at q1 q2 q3 q4 q5 q6 q7 q8 q9 q10 q11 q12 q13 ⊢
   repeat apply ah;rfl
   refine bu rfl rfl rfl rfl (fun h7=>?_) (fun h7=>?_)
   ·have hj:q<PG.length:=by omega
    have hcell:(qb (jV PG)).cell (q*1)=some (.sc (.int .i64 (PG[q]:Int))):=by
     have:=qY (l:=jV PG) (i:=q) (by omega)
     rwa [List.getElem_map] at this
    have hmemP:PG[q]∈dE l:=by rw [hPG];exact J9 hj
    obtain⟨p1,p2,p3⟩:=eg.1 hmemP
    have hlen:(dlP mem l PG[q]).length=1024:=by
     obtain⟨z,hz,hgz⟩:=(hG PG[q] p1 p2).read
     have hwo:=qu hgz.ok (ft hM PG[q])
     have hwq:=nS (y7 (aN l PG[q])) z hgz.ok.len
     have hz2:(aM (az mem PG[q])).1=z:=by rw [hz]
     have hall:=j2 PG[q] (J9 hj)
     rw [hz2] at hall
     rw [hwo,Kb hall] at hwq
     unfold dlP
     rw [hz2]
     exact hwq
    have hpc:=zK (l:=PG.map (dlP mem l)) (i:=q) (by omega) (by rw [List.getElem_map];exact hlen)
    rw [List.getElem_map] at hpc
    have hdr:ps.drop q=(PG[q],dlP mem l PG[q]) :: ps.drop (q+1):=by
     rw [List.drop_eq_getElem_cons (by omega)]
     congr 1
     subst hps
     rw [List.getElem_map]
    rw [hdr] at q2
    generalize PG[q]=N at hcell hmemP p1 p2 p3 hdr hlen hpc q2
    generalize dlP mem l N=y at hlen hpc q2
    have hput:gi ((N,y) :: ps.drop (q+1)) me le pu=if le=0 then(8,me,le,pu) else gi (ps.drop (q+1)) (fx me N y) (le-1) (pu+1):=rfl
    repeat first|refine dH (q:=q) rfl rfl rfl rfl (F.un _ rfl) (F.sz _ rfl) q11 (by omega) (by omega) (by omega) ?_|refine cf (an (F.ag _ rfl) rfl q11 hcell) rfl rfl rfl ?_|apply ah;rfl
    (apply bk;(focus(kernel_rfl));(focus(kernel_rfl)))
    repeat first|apply aW;rfl|refine aI (q:=q) rfl rfl rfl rfl (F.un _ rfl) (F.sz _ rfl) (by assumption) (by omega) (by(omega)) (JZ _) ?_|refine bp (aU (F.ag _ rfl) rfl q12 hpc) rfl rfl rfl ?_
    by_cases hle:le=0
    ·subst hle
     rw [← q2,hput,Kb rfl]
     refine tK 141 rfl rfl rfl rfl (by kernel_rfl) (vX (n:=N) (x:=y) q9 q3 p2 hlen) ?_
     repeat apply aW;rfl
     refine aA ⟨by kernel_rfl,?_,?_⟩;(focus(repeat(first|exact KO|apply jE;rfl|apply gr;rfl;kernel_rfl|apply mJ;kernel_rfl)))
     dsimp only
     repeat first|apply iA;rfl;decide|apply ah;rfl|apply aG;rfl;assumption;rfl
     (refine eJ Tryz.func21 (congrArg Array.toList Tryz.results21) (by kernel_rfl) (KD sB ?_);rintro _ rfl;refine⟨_,(by(repeat(first|exact KF|apply KG rfl (KJ (F.ag _ rfl) (by repeat(exact ac)) (aD rfl))))),?_⟩;dsimp only;exact⟨rfl,by(repeat(refine ab (by omega) ?_));exact q9,by first|omega|(dsimp only;omega),fun m hm hmb=>by(repeat(refine ab (by omega) ?_));exact q13 m hm hmb⟩)
    ·rw [hput,Ka hle] at q2
     refine tK 141 rfl rfl rfl rfl (by kernel_rfl) (Fnc.CU q9 (xL _ _ _) (vV (n:=N) (x:=y) q9 q3 p2 hlen hle (by omega) (by omega))) ?_
     repeat apply aW;rfl
     refine aA ⟨by kernel_rfl,?_,?_⟩;(focus(repeat(first|exact KO|apply jE;rfl|apply gr;rfl;kernel_rfl|apply mJ;kernel_rfl)))
     dsimp only
     repeat first|apply dA;rfl;rfl|apply ah;rfl|apply aL;rfl;omega;omega
     exact ih3 _ _ _ (q+1,fx me N y,le-1,pu+1) ⟨hj,q2,kI q3 p2 hlen,by first|omega|(dsimp only;omega),by first|omega|(dsimp only;omega),by first|omega|(dsimp only;omega),by repeat(exact ac),by repeat(first|assumption|refine ab (by omega) ?_),by repeat(first|assumption|refine ab (by omega) ?_),by repeat(first|assumption|refine ab (by omega) ?_),fun m hm hmb=>by(repeat(refine ab (by omega) ?_));exact q13 m hm hmb⟩ (by dsimp only;omega) (KK (KN rfl))
   ·have hj:q=ps.length:=by omega
    subst hj
    rw [List.drop_length] at q2
    rw [← q2]
    dsimp only [gi]
    repeat first|apply ah;rfl|apply aG;rfl;assumption;rfl
    (refine eJ Tryz.func21 (congrArg Array.toList Tryz.results21) (by kernel_rfl) (KD sB ?_);rintro _ rfl;refine⟨_,(by(repeat(first|exact KF|apply KG rfl (KJ (F.ag _ rfl) (by repeat(exact ac)) (aD rfl))))),?_⟩;dsimp only;exact⟨rfl,by(repeat(refine ab (by omega) ?_));exact q9,by first|omega|(dsimp only;omega),fun m hm hmb=>by(repeat(refine ab (by omega) ?_));exact q13 m hm hmb⟩)
end Go.Proofs.YtnhmbonmlfeifaaGreat
end
