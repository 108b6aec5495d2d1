import Derived.WalkKit
import Derived.ProofKit
import Derived.OpenShut
import Derived.Below
import Derived.ChangeSame
import Derived.Carry
import Derived.ChangeArms
import Derived.Test.YtnhmbonmlfeifaaGreatChecked
import Derived.Test.YtnhmbonmlfeifaaGreatY8
set_option linter.unusedVariables false
set_option linter.unusedSimpArgs false
set_option maxRecDepth 100000
set_option maxHeartbeats 0
section
namespace Go.Proofs.YtnhmbonmlfeifaaGreat
open Go Go.Sy Go.Sl Go.RowKit
section
variable {H:au}{n nx:Nat}{mem:List UInt8}
theorem rg(n:Nat):(if n≠0 then n else 0)=n:=by
 split <;> omega
theorem lZ(pf:Nat→List UInt8)(l:List (Int×Int)):((gh pf l).1≠0∧(gh pf l).2= [])∨(gh pf l).1=0:=by
 unfold gh
 split
 ·exact .inl ⟨by decide,rfl⟩
 ·split
  ·exact .inl ⟨by decide,rfl⟩
  ·exact .inr rfl
theorem do3_s{b h:Nat}{left puts:Int}{x:ol}(hb:H.at' b=some (cT mem left puts))(hh:H.at' h=some (hpO (cK mem)))(hne:b≠h)(hv:Hv mem)(hx:Bb H nx b h x)(hk:x.1.kind=3)(hl : -900000≤left∧left<0)(hp:0≤puts∧puts≤900000):Fnc Tryz.prog 9 [.ptr b 0,.ptr h 0,.agg (rT x)] H nx (qq H nx b h mem left puts):=by
 have hx0:=hx H fun _ _ _ _=>rfl
 have hone:bm (rT x)=true:=by simp only [bm,cN hx0.1,cN hx0.2];rfl
 refine KE Tryz.func9 rfl rfl ?_
 refine aV fun hund=>?_
 have lb:=hund _ _ hb
 have lh:=hund _ _ hh
 obtain⟨rows,hal,hrl,hrn⟩:=kz hv
 have hdoc:pS (dfH (cK mem))=some rows:=(kY fun n a b=>fC hv a b).trans hal
 repeat apply ah;rfl
 refine aE rfl rfl rfl (by kernel_rfl) (KD (nn (hm:=cK mem) (by repeat(first|assumption|refine ab (by omega) ?_)) (cx hv.len)) ?_)
 rintro⟨_,H1,n1⟩ ⟨u1,u2,⟨u3,_⟩|⟨rows',s,rr,u3,rfl,u4⟩⟩
 ·rw [hdoc] at u3
  cases u3
 rw [hdoc] at u3
 cases u3
 dsimp only at u1 u2 u4 ⊢
 have c1:H1.at' nx=some (t6 x):=(u2 nx (by omega)).trans (by repeat(exact ac))
 have cb:H1.at' b=some (cT mem left puts):=(u2 b (by omega)).trans (by repeat(first|assumption|refine ab (by omega) ?_))
 have ch:H1.at' h=some (hpO (cK mem)):=(u2 h (by omega)).trans (by repeat(first|assumption|refine ab (by omega) ?_))
 have co: ∀ m,m<nx→H1.at' m=H.at' m:=fun m hm=>(u2 m (by omega)).trans (by(repeat(refine ab (by omega) ?_));rfl)
 repeat first|refine df rfl rfl rfl (F.ag _ rfl) cb (dD hv.len _ _) ?_|apply ah;rfl|apply aG;rfl;assumption;rfl
 repeat first|apply ah;rfl|apply iA;rfl;omega
 refine cF rfl rfl rfl rfl (fun _=>?_) (fun e=>absurd hk (by omega))
 repeat first|apply ah;rfl|apply aG;rfl;assumption;rfl
 have hr0:=vN x.1.place (L:=7) (by decide)
 generalize hr1:x.1.place.tmod ((7:Nat):Int)=p1 at hr0
 obtain⟨j,hj,hr2⟩:=zq (p1+7) (L:=7) (by decide) (by omega)
 refine ou (c:=p1) rfl rfl rfl rfl (by decide) hr1 ?_
 repeat apply aL;rfl;omega;omega
 refine ou (c:=(j:Int)) rfl rfl rfl rfl (by decide) hr2 ?_
 repeat first|apply ah;rfl|apply aL;rfl;omega;omega
 rw [show(2:Int)+(j:Int)=((j+2:Nat):Int) by omega,show((j+2:Nat):Int)-1=((j+2-1:Nat):Int) by omega]
 have hst1:2≤j+2:=by omega
 have hst2:j+2≤8:=by omega
 generalize j+2=st at hst1 hst2 ⊢
 rcases u4 with ⟨hrz,rfl⟩|⟨ws,L,hL0,rfl,hrw,hrL,hrr,hC⟩
 ·have hz:rows.length=0:=by rw [hrz];rfl
  refine kD 2 40 (d:=17) (by repeat(first|exact ac|refine ab (by omega) ?_)) rfl ?_
  refine bE (α:=Nat×Nat×List (Int×Int)) (fun x=> [(0,.ptr b 0),(1,.ptr h 0),(5,.ptr nx 0),(6,.sc (.bool false)),(7,dK),(9,.sc (.int .i64 puts)),(17,.slu x.2.1 0 x.2.2.length),(18,.sc (.int .i64 (st:Int))),(19,.sc (.int .i64 (x.1:Int)))])
   (fun x H8 n8=>x.2.2.length≤x.1∧x.1≤rows.length+8∧n1≤x.2.1∧x.2.1<n8∧H8.at' x.2.1=some (pH x.2.2)∧ ∀ m,m<n1→H8.at' m=H1.at' m) (fun x=>rows.length+8-x.1) (st-1,n1,[]) ⟨J0 _,by dsimp only;omega,JZ _,Nat.lt_succ_self _,ai _ _ _,fun m hm=>by(repeat(refine ab (by omega) ?_));rfl⟩ (KK (KN rfl)) ?_
  rintro⟨i,rp,l⟩ H8 n8 ⟨i1,i2,i3,i4,kr,kF⟩ ih
  dsimp only at i1 i2 i3 i4 kr kF ⊢
  have kA:H8.at' nx=some (t6 x):=(kF nx (by omega)).trans c1
  have kb:H8.at' b=some (cT mem left puts):=(kF b (by omega)).trans cb
  have kh:H8.at' h=some (hpO (cK mem)):=(kF h (by omega)).trans ch
  have ko: ∀ m,m<nx→H8.at' m=H.at' m:=fun m hm=>(kF m (by omega)).trans (co m hm)
  repeat first|refine cf (iJ (F.un _ rfl) rfl) rfl rfl rfl ?_|apply ah;rfl
  refine bu rfl rfl rfl rfl (fun e=>absurd e (by omega)) (fun _=>?_)
  repeat first|apply ah;rfl|apply cE;rfl|apply aG;rfl;assumption;rfl
  cases hod:x.1.odd with
  | false=>
    repeat apply ah;rfl
    refine aE rfl rfl rfl (by kernel_rfl) (KD (BE (b:=b) (r:=rp) (l:=l) (mem:=mem) (left:=left) (puts:=puts) kb hv.len kr (by omega) (by omega) hv.good (by omega) (by omega)) ?_)
    rintro⟨_,H2,n2⟩ ⟨rfl,d2,d3,d4⟩
    rw [iK _ _ _ _ hl.2] at d2 ⊢
    dsimp only at d2 d3 d4 ⊢
    have hif:=rg (gh (az mem) l).1
    rw [hif]
    have e1:H2.at' rp=some (pH l):=(d4 _ (by omega) (by omega)).trans kr
    have e2:H2.at' h=some (hpO (cK mem)):=(d4 _ (by omega) (Ne.symm hne)).trans kh
    have e3: ∀ m,m<nx→m≠b→H2.at' m=H.at' m:=fun m hm hmb=>(d4 _ (by omega) hmb).trans (ko m hm)
    have hc:=lZ (az mem) l
    have hdI:gh (dfH (cK mem)) l=gh (az mem) l:=nT (fun n a b=>fC hv a b) _
    have htc:=qA hv (l:=l)
    have hgd:=kK hv (l:=l)
    have hle:=qH (pf:=az mem) (l:=l)
    generalize gh (az mem) l=I at hc hdI hgd hle htc d2 ⊢
    obtain⟨hv2,hdoc2⟩:=oH hv hgd
    repeat apply ah;rfl
    refine aE rfl rfl rfl (by kernel_rfl) (KD (qI (hb:=h) (r:=rp) (l:=l) (hm:=cK mem) e2 (cx hv.len) e1 (by omega) (by omega) (fun n a c=>by rw [fC hv a c];exact hv.good n a c)) ?_)
    rintro⟨_,H3,n3⟩ ⟨rfl,f2,f3,f4⟩
    dsimp only at f2 f3 f4 ⊢
    rw [hdI] at f2 ⊢
    rw [← hdoc2] at f2
    have g2:H3.at' b=some (cT (oI mem I.2) (left-I.2.length) (puts+I.2.length)):=(f4 _ (by omega) hne).trans d2
    have g3: ∀ m,m<nx→m≠b→m≠h→H3.at' m=H.at' m:=fun m hm hmb hmh=>(f4 _ (by omega) hmh).trans (e3 m hm hmb)
    clear d4 f4
    rcases hc with ⟨hc1,hc2⟩|hc1
    ·rw [hc2] at g2
     repeat first|refine df rfl rfl rfl (F.ag _ rfl) g2 (dD (by rw [← hc2];exact hv2.len) _ _) ?_|apply iA;rfl;omega|apply dA;rfl;rfl|refine cF rfl rfl rfl rfl (fun _=>?_) (fun e=>absurd (by simp) e)|apply ah;rfl
     (apply bR Tryz.func9 Tryz.results9;rfl)
     rw [← hc2] at g2
     exact⟨rfl,_,_,_,g2,f2,hv2,⟨by omega,by omega⟩,⟨by omega,by omega⟩,by first|omega|(dsimp only;omega),g3,htc⟩
    ·repeat first|apply dA;rfl;rfl|apply dA;rfl;omega|apply ah;rfl
     (apply bR Tryz.func9 Tryz.results9;rfl)
     exact⟨rfl,_,_,_,g2,f2,hv2,⟨by omega,by omega⟩,⟨by omega,by omega⟩,by first|omega|(dsimp only;omega),g3,htc⟩
  | true=>
    repeat first|refine ee rfl rfl rfl (F.ag _ rfl) kA (iV x) ?_|apply bF;rfl;rfl;exact(F.un _ rfl);exact(F.sz _ rfl);rfl;exact(F.ze _ rfl);rfl;rfl;rfl;rfl;rfl|apply ah;rfl
    refine lS (b:=16) (xs:=l) (a:=x.1.tid) rfl rfl rfl rfl (F.un _ rfl) (.inl ⟨_,F.un _ rfl⟩) (F.sz _ rfl) rfl (by kernel_rfl) (by kernel_rfl) (by repeat(first|assumption|refine ab (by omega) ?_)) (by repeat(exact ac)) (by rfl) (ul) (by omega) (by omega) ?_
    refine cQ (R:=fun HC nC=>nC=n8+1+1∧HC.at' (n8+1)=some (pH (l ++ [x.1.tid]))∧HC.at' b=some (cT mem left puts)∧HC.at' h=some (hpO (cK mem))∧ ∀ m,m<nx→HC.at' m=H.at' m) ⟨rfl,by repeat(exact ac),by(repeat(first|refine ab (by omega) ?_|refine cc (by omega) ?_));exact kb,by(repeat(first|refine ab (by omega) ?_|refine cc (by omega) ?_));exact kh,fun m hm=>by(repeat(first|refine ab (by omega) ?_|refine cc (by omega) ?_));exact ko m hm⟩ ?_
    rintro HC nC ⟨rfl,t1,t2,t3,t4⟩
    repeat apply ah;rfl
    refine aE rfl rfl rfl (by kernel_rfl) (KD (BE (b:=b) (r:=(n8+1)) (l:=(l ++ [x.1.tid])) (mem:=mem) (left:=left) (puts:=puts) t2 hv.len t1 (by omega) (by rw [J3,List.length_singleton];omega) hv.good (by omega) (by omega)) ?_)
    rintro⟨_,H2,n2⟩ ⟨rfl,d2,d3,d4⟩
    rw [iK _ _ _ _ hl.2] at d2 ⊢
    dsimp only at d2 d3 d4 ⊢
    have hif:=rg (gh (az mem) (l ++ [x.1.tid])).1
    rw [hif]
    have e1:H2.at' (n8+1)=some (pH (l ++ [x.1.tid])):=(d4 _ (by omega) (by omega)).trans t1
    have e2:H2.at' h=some (hpO (cK mem)):=(d4 _ (by omega) (Ne.symm hne)).trans t3
    have e3: ∀ m,m<nx→m≠b→H2.at' m=H.at' m:=fun m hm hmb=>(d4 _ (by omega) hmb).trans (t4 m hm)
    have hc:=lZ (az mem) (l ++ [x.1.tid])
    have hdI:gh (dfH (cK mem)) (l ++ [x.1.tid])=gh (az mem) (l ++ [x.1.tid]):=nT (fun n a b=>fC hv a b) _
    have htc:=qA hv (l:=(l ++ [x.1.tid]))
    have hgd:=kK hv (l:=(l ++ [x.1.tid]))
    have hle:=qH (pf:=az mem) (l:=(l ++ [x.1.tid]))
    generalize gh (az mem) (l ++ [x.1.tid])=I at hc hdI hgd hle htc d2 ⊢
    obtain⟨hv2,hdoc2⟩:=oH hv hgd
    repeat apply ah;rfl
    refine aE rfl rfl rfl (by kernel_rfl) (KD (qI (hb:=h) (r:=(n8+1)) (l:=(l ++ [x.1.tid])) (hm:=cK mem) e2 (cx hv.len) e1 (by omega) (by rw [J3,List.length_singleton];omega) (fun n a c=>by rw [fC hv a c];exact hv.good n a c)) ?_)
    rintro⟨_,H3,n3⟩ ⟨rfl,f2,f3,f4⟩
    dsimp only at f2 f3 f4 ⊢
    rw [hdI] at f2 ⊢
    rw [← hdoc2] at f2
    have g2:H3.at' b=some (cT (oI mem I.2) (left-I.2.length) (puts+I.2.length)):=(f4 _ (by omega) hne).trans d2
    have g3: ∀ m,m<nx→m≠b→m≠h→H3.at' m=H.at' m:=fun m hm hmb hmh=>(f4 _ (by omega) hmh).trans (e3 m hm hmb)
    clear d4 f4
    rcases hc with ⟨hc1,hc2⟩|hc1
    ·rw [hc2] at g2
     repeat first|refine df rfl rfl rfl (F.ag _ rfl) g2 (dD (by rw [← hc2];exact hv2.len) _ _) ?_|apply iA;rfl;omega|apply dA;rfl;rfl|refine cF rfl rfl rfl rfl (fun _=>?_) (fun e=>absurd (by simp) e)|apply ah;rfl
     (apply bR Tryz.func9 Tryz.results9;rfl)
     rw [← hc2] at g2
     exact⟨rfl,_,_,_,g2,f2,hv2,⟨by omega,by omega⟩,⟨by omega,by omega⟩,by first|omega|(dsimp only;omega),g3,htc⟩
    ·repeat first|apply dA;rfl;rfl|apply dA;rfl;omega|apply ah;rfl
     (apply bR Tryz.func9 Tryz.results9;rfl)
     exact⟨rfl,_,_,_,g2,f2,hv2,⟨by omega,by omega⟩,⟨by omega,by omega⟩,by first|omega|(dsimp only;omega),g3,htc⟩
 ·skip
  refine kD 2 40 (d:=17) (by repeat(first|exact ac|refine ab (by omega) ?_)) rfl ?_
  refine bE (α:=Nat×Nat×List (Int×Int)) (fun x=> [(0,.ptr b 0),(1,.ptr h 0),(5,.ptr nx 0),(6,.sc (.bool false)),(7,.slu rr 0 rows.length),(9,.sc (.int .i64 puts)),(17,.slu x.2.1 0 x.2.2.length),(18,.sc (.int .i64 (st:Int))),(19,.sc (.int .i64 (x.1:Int)))])
   (fun x H8 n8=>x.2.2.length≤x.1∧x.1≤rows.length+8∧n1≤x.2.1∧x.2.1<n8∧H8.at' x.2.1=some (pH x.2.2)∧ ∀ m,m<n1→H8.at' m=H1.at' m) (fun x=>rows.length+8-x.1) (st-1,n1,[]) ⟨J0 _,by dsimp only;omega,JZ _,Nat.lt_succ_self _,ai _ _ _,fun m hm=>by(repeat(refine ab (by omega) ?_));rfl⟩ (KK (KN rfl)) ?_
  rintro⟨i,rp,l⟩ H8 n8 ⟨i1,i2,i3,i4,kr,kF⟩ ih
  dsimp only at i1 i2 i3 i4 kr kF ⊢
  have kA:H8.at' nx=some (t6 x):=(kF nx (by omega)).trans c1
  have kb:H8.at' b=some (cT mem left puts):=(kF b (by omega)).trans cb
  have kh:H8.at' h=some (hpO (cK mem)):=(kF h (by omega)).trans ch
  have ko: ∀ m,m<nx→H8.at' m=H.at' m:=fun m hm=>(kF m (by omega)).trans (co m hm)
  repeat apply ah;rfl
  refine bu rfl rfl rfl rfl (fun h5=>?_) (fun h5=>?_)
  ·have hi:i<rows.length:=by omega
   obtain⟨a1,a2,ra,_,x1,x2,x3,x4⟩:=hC.cells hi
   have hrw8:H8.at' rr=some (nJ false rows.length 6 67 ws):=(kF rr (by omega)).trans hrw
   repeat first|refine dH (q:=i) rfl rfl rfl rfl (F.un _ rfl) (F.sz _ rfl) hrw8 (by omega) (by omega) (JZ _) ?_|refine ee rfl rfl rfl (F.ag _ rfl) hrw8 x3 ?_|apply bF;rfl;rfl;exact(F.un _ rfl);exact(F.sz _ rfl);rfl;exact(F.ze _ rfl);rfl;rfl;rfl;rfl;rfl|apply ah;rfl
   refine lS (b:=16) (xs:=l) (a:=(((rows[i]).1.1:Int),((rows[i]).1.2:Int))) rfl rfl rfl rfl (F.un _ rfl) (.inl ⟨_,F.un _ rfl⟩) (F.sz _ rfl) rfl (by kernel_rfl) (by kernel_rfl) (by repeat(first|assumption|refine ab (by omega) ?_)) (by repeat(exact ac)) (by rfl) (ul) (by omega) (by omega) ?_
   repeat first|apply ah;rfl|apply aL;rfl;omega;omega
   exact ih _ _ _ (i+st,n8+1,l ++ [(((rows[i]).1.1:Int),((rows[i]).1.2:Int))]) ⟨by rw [J3,List.length_singleton];dsimp only;omega,by dsimp only;omega,by dsimp only;omega,by first|omega|(dsimp only;omega),by repeat(exact ac),fun m hm=>by(repeat(first|refine ab (by omega) ?_|refine cc (by omega) ?_));exact kF m hm⟩ (by dsimp only;omega) (KK (KN rfl))
  ·skip
   repeat first|apply ah;rfl|apply cE;rfl|apply aG;rfl;assumption;rfl
   cases hod:x.1.odd with
   | false=>
     repeat apply ah;rfl
     refine aE rfl rfl rfl (by kernel_rfl) (KD (BE (b:=b) (r:=rp) (l:=l) (mem:=mem) (left:=left) (puts:=puts) kb hv.len kr (by omega) (by omega) hv.good (by omega) (by omega)) ?_)
     rintro⟨_,H2,n2⟩ ⟨rfl,d2,d3,d4⟩
     rw [iK _ _ _ _ hl.2] at d2 ⊢
     dsimp only at d2 d3 d4 ⊢
     have hif:=rg (gh (az mem) l).1
     rw [hif]
     have e1:H2.at' rp=some (pH l):=(d4 _ (by omega) (by omega)).trans kr
     have e2:H2.at' h=some (hpO (cK mem)):=(d4 _ (by omega) (Ne.symm hne)).trans kh
     have e3: ∀ m,m<nx→m≠b→H2.at' m=H.at' m:=fun m hm hmb=>(d4 _ (by omega) hmb).trans (ko m hm)
     have hc:=lZ (az mem) l
     have hdI:gh (dfH (cK mem)) l=gh (az mem) l:=nT (fun n a b=>fC hv a b) _
     have htc:=qA hv (l:=l)
     have hgd:=kK hv (l:=l)
     have hle:=qH (pf:=az mem) (l:=l)
     generalize gh (az mem) l=I at hc hdI hgd hle htc d2 ⊢
     obtain⟨hv2,hdoc2⟩:=oH hv hgd
     repeat apply ah;rfl
     refine aE rfl rfl rfl (by kernel_rfl) (KD (qI (hb:=h) (r:=rp) (l:=l) (hm:=cK mem) e2 (cx hv.len) e1 (by omega) (by omega) (fun n a c=>by rw [fC hv a c];exact hv.good n a c)) ?_)
     rintro⟨_,H3,n3⟩ ⟨rfl,f2,f3,f4⟩
     dsimp only at f2 f3 f4 ⊢
     rw [hdI] at f2 ⊢
     rw [← hdoc2] at f2
     have g2:H3.at' b=some (cT (oI mem I.2) (left-I.2.length) (puts+I.2.length)):=(f4 _ (by omega) hne).trans d2
     have g3: ∀ m,m<nx→m≠b→m≠h→H3.at' m=H.at' m:=fun m hm hmb hmh=>(f4 _ (by omega) hmh).trans (e3 m hm hmb)
     clear d4 f4
     rcases hc with ⟨hc1,hc2⟩|hc1
     ·rw [hc2] at g2
      repeat first|refine df rfl rfl rfl (F.ag _ rfl) g2 (dD (by rw [← hc2];exact hv2.len) _ _) ?_|apply iA;rfl;omega|apply dA;rfl;rfl|refine cF rfl rfl rfl rfl (fun _=>?_) (fun e=>absurd (by simp) e)|apply ah;rfl
      (apply bR Tryz.func9 Tryz.results9;rfl)
      rw [← hc2] at g2
      exact⟨rfl,_,_,_,g2,f2,hv2,⟨by omega,by omega⟩,⟨by omega,by omega⟩,by first|omega|(dsimp only;omega),g3,htc⟩
     ·repeat first|apply dA;rfl;rfl|apply dA;rfl;omega|apply ah;rfl
      (apply bR Tryz.func9 Tryz.results9;rfl)
      exact⟨rfl,_,_,_,g2,f2,hv2,⟨by omega,by omega⟩,⟨by omega,by omega⟩,by first|omega|(dsimp only;omega),g3,htc⟩
   | true=>
     repeat first|refine ee rfl rfl rfl (F.ag _ rfl) kA (iV x) ?_|apply bF;rfl;rfl;exact(F.un _ rfl);exact(F.sz _ rfl);rfl;exact(F.ze _ rfl);rfl;rfl;rfl;rfl;rfl|apply ah;rfl
     refine lS (b:=16) (xs:=l) (a:=x.1.tid) rfl rfl rfl rfl (F.un _ rfl) (.inl ⟨_,F.un _ rfl⟩) (F.sz _ rfl) rfl (by kernel_rfl) (by kernel_rfl) (by repeat(first|assumption|refine ab (by omega) ?_)) (by repeat(exact ac)) (by rfl) (ul) (by omega) (by omega) ?_
     refine cQ (R:=fun HC nC=>nC=n8+1+1∧HC.at' (n8+1)=some (pH (l ++ [x.1.tid]))∧HC.at' b=some (cT mem left puts)∧HC.at' h=some (hpO (cK mem))∧ ∀ m,m<nx→HC.at' m=H.at' m) ⟨rfl,by repeat(exact ac),by(repeat(first|refine ab (by omega) ?_|refine cc (by omega) ?_));exact kb,by(repeat(first|refine ab (by omega) ?_|refine cc (by omega) ?_));exact kh,fun m hm=>by(repeat(first|refine ab (by omega) ?_|refine cc (by omega) ?_));exact ko m hm⟩ ?_
     rintro HC nC ⟨rfl,t1,t2,t3,t4⟩
     repeat apply ah;rfl
     refine aE rfl rfl rfl (by kernel_rfl) (KD (BE (b:=b) (r:=(n8+1)) (l:=(l ++ [x.1.tid])) (mem:=mem) (left:=left) (puts:=puts) t2 hv.len t1 (by omega) (by rw [J3,List.length_singleton];omega) hv.good (by omega) (by omega)) ?_)
     rintro⟨_,H2,n2⟩ ⟨rfl,d2,d3,d4⟩
     rw [iK _ _ _ _ hl.2] at d2 ⊢
     dsimp only at d2 d3 d4 ⊢
     have hif:=rg (gh (az mem) (l ++ [x.1.tid])).1
     rw [hif]
     have e1:H2.at' (n8+1)=some (pH (l ++ [x.1.tid])):=(d4 _ (by omega) (by omega)).trans t1
     have e2:H2.at' h=some (hpO (cK mem)):=(d4 _ (by omega) (Ne.symm hne)).trans t3
     have e3: ∀ m,m<nx→m≠b→H2.at' m=H.at' m:=fun m hm hmb=>(d4 _ (by omega) hmb).trans (t4 m hm)
     have hc:=lZ (az mem) (l ++ [x.1.tid])
     have hdI:gh (dfH (cK mem)) (l ++ [x.1.tid])=gh (az mem) (l ++ [x.1.tid]):=nT (fun n a b=>fC hv a b) _
     have htc:=qA hv (l:=(l ++ [x.1.tid]))
     have hgd:=kK hv (l:=(l ++ [x.1.tid]))
     have hle:=qH (pf:=az mem) (l:=(l ++ [x.1.tid]))
     generalize gh (az mem) (l ++ [x.1.tid])=I at hc hdI hgd hle htc d2 ⊢
     obtain⟨hv2,hdoc2⟩:=oH hv hgd
     repeat apply ah;rfl
     refine aE rfl rfl rfl (by kernel_rfl) (KD (qI (hb:=h) (r:=(n8+1)) (l:=(l ++ [x.1.tid])) (hm:=cK mem) e2 (cx hv.len) e1 (by omega) (by rw [J3,List.length_singleton];omega) (fun n a c=>by rw [fC hv a c];exact hv.good n a c)) ?_)
     rintro⟨_,H3,n3⟩ ⟨rfl,f2,f3,f4⟩
     dsimp only at f2 f3 f4 ⊢
     rw [hdI] at f2 ⊢
     rw [← hdoc2] at f2
     have g2:H3.at' b=some (cT (oI mem I.2) (left-I.2.length) (puts+I.2.length)):=(f4 _ (by omega) hne).trans d2
     have g3: ∀ m,m<nx→m≠b→m≠h→H3.at' m=H.at' m:=fun m hm hmb hmh=>(f4 _ (by omega) hmh).trans (e3 m hm hmb)
     clear d4 f4
     rcases hc with ⟨hc1,hc2⟩|hc1
     ·rw [hc2] at g2
      repeat first|refine df rfl rfl rfl (F.ag _ rfl) g2 (dD (by rw [← hc2];exact hv2.len) _ _) ?_|apply iA;rfl;omega|apply dA;rfl;rfl|refine cF rfl rfl rfl rfl (fun _=>?_) (fun e=>absurd (by simp) e)|apply ah;rfl
      (apply bR Tryz.func9 Tryz.results9;rfl)
      rw [← hc2] at g2
      exact⟨rfl,_,_,_,g2,f2,hv2,⟨by omega,by omega⟩,⟨by omega,by omega⟩,by first|omega|(dsimp only;omega),g3,htc⟩
     ·repeat first|apply dA;rfl;rfl|apply dA;rfl;omega|apply ah;rfl
      (apply bR Tryz.func9 Tryz.results9;rfl)
      exact⟨rfl,_,_,_,g2,f2,hv2,⟨by omega,by omega⟩,⟨by omega,by omega⟩,by first|omega|(dsimp only;omega),g3,htc⟩
theorem do_s{b h:Nat}{left puts:Int}{x:ol}(hb:H.at' b=some (cT mem left puts))(hh:H.at' h=some (hpO (cK mem)))(hne:b≠h)(hv:Hv mem)(hx:Bb H nx b h x)(hl : -900000≤left∧left<0)(hp:0≤puts∧puts≤900000):Fnc Tryz.prog 9 [.ptr b 0,.ptr h 0,.agg (rT x)] H nx (qq H nx b h mem left puts):=by
 have hx0:=hx H fun _ _ _ _=>rfl
 by_cases h1:x.1.kind=1
 ·exact do1_s hb hh hne hv hx h1 ⟨by omega,hl.2⟩ ⟨hp.1,by omega⟩
 by_cases h2:x.1.kind=2
 ·exact do2_s hb hh hne hv hx h2 ⟨by omega,hl.2⟩ ⟨hp.1,by omega⟩
 by_cases h3:x.1.kind=3
 ·exact do3_s hb hh hne hv hx h3 hl hp
 by_cases h4:x.1.kind=4
 ·exact do4_s hb hh hv hx0 h4
 ·exact do0_s hb hh hv hx0 ⟨h1,h2,h3,h4⟩
def zs0:List Value:= [aR,aR,aR,aR,aR,aR,aR,aR,aR,aR,aR,aR,aR,aR,aR,aR,aR,aR,aR,aR,aR,aR,aR,aR,aR,aR,aR,aR,aR,aR,aR,aR,aR,aR,aR,aR,aR,aR,aR,aR,aR,aR,aR,aR,aR,aR,aR,aR]
theorem GH:zs0=List.replicate 48 aR:=rfl
def zs1:List Value:=List.append zs0 zs0
theorem GF:zs1=List.replicate 96 aR:=by
 show zs0 ++ zs0=_
 rw [GH,KA]
def zs2:List Value:=List.append zs1 zs1
theorem GE:zs2=List.replicate 192 aR:=by
 show zs1 ++ zs1=_
 rw [GF,KA]
def zs3:List Value:=List.append zs2 zs2
theorem GD:zs3=List.replicate 384 aR:=by
 show zs2 ++ zs2=_
 rw [GE,KA]
def zs4:List Value:=List.append zs3 zs3
theorem GC:zs4=List.replicate 768 aR:=by
 show zs3 ++ zs3=_
 rw [GD,KA]
def zs5:List Value:=List.append zs4 zs4
theorem GB:zs5=List.replicate 1536 aR:=by
 show zs4 ++ zs4=_
 rw [GC,KA]
def zs6:List Value:=List.append zs5 zs5
theorem GA:zs6=List.replicate 3072 aR:=by
 show zs5 ++ zs5=_
 rw [GB,KA]
def zs7:List Value:=List.append zs6 zs6
theorem Gz:zs7=List.replicate 6144 aR:=by
 show zs6 ++ zs6=_
 rw [GA,KA]
def zs8:List Value:=List.append zs7 zs7
theorem Gy:zs8=List.replicate 12288 aR:=by
 show zs7 ++ zs7=_
 rw [Gz,KA]
def zs9:List Value:=List.append zs8 zs8
theorem Gw:zs9=List.replicate 24576 aR:=by
 show zs8 ++ zs8=_
 rw [Gy,KA]
def GG:List Value:=List.append zs9 zs9
theorem DK:GG=List.replicate 49152 aR:=by
 show zs9 ++ zs9=_
 rw [Gw,KA]
def zs11:List Value:=List.append GG GG
theorem DJ:zs11=List.replicate 98304 aR:=by
 show GG ++ GG=_
 rw [DK,KA]
theorem zHeap:dZ Tryz.prog 33=some (.agg (List.toArray zs11)):=by kernel_rfl
def yw:List UInt8:=List.replicate 98304 0
theorem yy:((Value.agg (List.toArray zs11)).cells.toList.map SV.sc)=(byV yw).map SV.sc:=by
 refine(congrArg (List.map SV.sc) (List.toList_toArray ..)).trans ?_
 rw [DJ]
 unfold yw
 rw [show byV (List.replicate 98304 (0:UInt8))=List.replicate 98304 aR from List.map_replicate]
theorem DN:nG Tryz.prog 33 []=some (.agg ((byV yw).map .sc)):=by
 have hs:bN Tryz.prog 27=some 1024:=F.sz _ rfl
 unfold nG
 rw [zHeap,show Tryz.prog.underlying 33=some (.array 96 27)from F.un _ rfl]
 simp only [hs,lg,J5]
 rw [yy]
abbrev kv1:gj:=([97],wY,1,0)
abbrev kv2:gj:=([98],wY,2,0)
def kp0:List UInt8:=fJ 4
def kp1:List UInt8:=(mI kp0 (aQ kv1)).1
def kp2:List UInt8:=(mI kp1 (aQ kv2)).1
theorem v7{x:List UInt8}(hm:mem.length=131072)(hn:n<128)(hx:x.length=1024):az (fx mem n x) n=x:=by
 unfold az fx bg
 rw [Kl,List.drop_left' (by rw [Ke];omega),List.take_left' hx]
theorem zL:az zeroM 32=zeroP:=by
 unfold az zeroM zeroP
 rw [List.drop_replicate,List.take_replicate]
 rfl
theorem zx{p:List UInt8}(h1:fE p=false)(h2:bj p=true)(h3:kP p=4)(h4:ug p=false):aM p=(p,0):=by
 unfold aM
 rw [Ka (by rw [h1];decide),Ka (by rw [h2,h3];decide),Ka (by rw [h4];decide)]
theorem zw:aM zeroP=(kp0,0):=Kb (by kernel_rfl)
theorem kl0:kp0.length=1024:=fX 4
theorem kl1:kp1.length=1024:=by kernel_rfl
theorem kl2:kp2.length=1024:=by kernel_rfl
theorem kr0:(aQ kv1).length≤dx kp0:=JL (by kernel_rfl)
theorem ki0:mI kp0 (aQ kv1)=(kp1,0,0):=Prod.ext rfl (by kernel_rfl)
theorem kr1:(aQ kv2).length≤dx kp1:=JL (by kernel_rfl)
theorem ki1:mI kp1 (aQ kv2)=(kp2,1,0):=Prod.ext rfl (by kernel_rfl)
theorem kd1:aM kp1=(kp1,0):=zx (by kernel_rfl) (by kernel_rfl) (by kernel_rfl) (by kernel_rfl)
theorem kg2:bj kp2=true:=by kernel_rfl
theorem kd2:aM kp2=(kp2,0):=zx (by kernel_rfl) kg2 (by kernel_rfl) (by kernel_rfl)
theorem ks2:1<ae kp2:=JL (by kernel_rfl)
theorem kz2:ar kp2 1≠0:=fun h=>by
 have:Nat.beq (ar kp2 1) 0=false:=by kernel_rfl
 rw [h] at this
 cases this
theorem ko2:ofV (aS kp2 1)=some kv2:=by kernel_rfl
theorem km1:gV kv1=true:=by kernel_rfl
theorem km2:gV kv2=true:=by kernel_rfl
theorem HK:Gp Tryz.prog 30=some [(0,131072),(131072,1),(131073,1)]:=by kernel_rfl
theorem EH:Fnc Tryz.prog 8 [] H nx (fun q=>q.1 = .sc (.bool true)∧nx≤q.2.2∧ ∀ m,m<nx→q.2.1.at' m=H.at' m):=by
 refine KE Tryz.func8 rfl rfl ?_
 repeat first|refine cf (qL rfl C2 HK wM) rfl rfl rfl ?_|apply ah;rfl
 have hb0:(H.set nx (cT zeroM (-1) 0)).at' nx=some (cT zeroM (-1) 0):=ai _ _ _
 have ho0: ∀ m,m<nx→(H.set nx (cT zeroM (-1) 0)).at' m=H.at' m:=fun m hm=>aa _ _ (by omega)
 refine cQ (R:=fun H0 n0=>H0=H.set nx (cT zeroM (-1) 0)∧n0=nx+1) ⟨rfl,rfl⟩ ?_
 rintro H0 n0 ⟨hH0,rfl⟩
 rw [← hH0] at hb0 ho0
 clear hH0
 refine aE rfl rfl rfl (by kernel_rfl) (KD (sa (k:=⟨#[97]⟩) (x:=1) (JL rfl)) ?_)
 rintro⟨s1,H1,n1⟩ ⟨a1,a2,a3⟩
 dsimp only at a1 a2 a3 ⊢
 refine aE rfl rfl rfl (by kernel_rfl) (KD (qc (v:=kv1) (p:=kp0) (p':=kp1) (slot:=0) ((a3 nx (by omega)).trans hb0) iC a1 km1 kl0 (by decide) (by decide) (by decide) (by rw [zL];exact zw) kr0 ki0 kl1) ?_)
 rintro⟨_,H2,n2⟩ ⟨rfl,b1,b2,b3⟩
 dsimp only at b1 b2 b3 ⊢
 have bo: ∀ m,m<nx→H2.at' m=H.at' m:=fun m hm=>(b3 m (by omega) (by omega)).trans ((a3 m (by omega)).trans (ho0 m hm))
 clear a1 a3 b3 hb0 ho0
 repeat first|apply ah;rfl|apply aG;rfl;(focus((repeat(exact ac));done));rfl
 refine aE rfl rfl rfl (by kernel_rfl) (KD (sa (k:=⟨#[98]⟩) (x:=2) (JL rfl)) ?_)
 rintro⟨s2,H3,n3⟩ ⟨c1,c2,c3⟩
 dsimp only at c1 c2 c3 ⊢
 have cb:H3.at' nx=some (cT (fx zeroM 32 kp1) (-1-1) (0+1)):=(c3 nx (by omega)).trans (by(repeat(refine ab (by omega) ?_));exact b1)
 have ct:H3.at' n2=some (dJ 32 0):=(c3 n2 (by omega)).trans (by repeat(exact ac))
 have co: ∀ m,m<nx→H3.at' m=H.at' m:=fun m hm=>(c3 m (by omega)).trans (by(repeat(refine ab (by omega) ?_));exact bo m hm)
 clear c3 b1 bo
 refine aV fun hund=>?_
 have hmem1:=kI (n:=32) iC (by decide) kl1
 refine aE rfl rfl rfl (by kernel_rfl) (KD (qc (v:=kv2) (p:=kp1) (p':=kp2) (slot:=1) cb hmem1 c1 km2 kl1 (by decide) (by decide) (by decide) (by rw [v7 iC (by decide) kl1];exact kd1) kr1 ki1 kl2) ?_)
 rintro⟨_,H4,n4⟩ ⟨rfl,d1,d2,d3⟩
 dsimp only at d1 d2 d3 ⊢
 have dt:H4.at' n2=some (dJ 32 0):=(d3 n2 (by omega) (by omega)).trans ct
 have do': ∀ m,m<nx→H4.at' m=H.at' m:=fun m hm=>(d3 m (by omega) (by omega)).trans (co m hm)
 clear c1 cb ct co d3 hund
 repeat first|apply ah;rfl|apply aG;rfl;(focus((repeat(exact ac));done));rfl
 refine aE rfl rfl rfl (by kernel_rfl) (KD (ES (n:=32) (k:=1) (v:=kv2) (p:=kp2) (by(repeat(refine ab (by omega) ?_));exact d1) (kI hmem1 (by decide) kl2) kl2 (by decide) (by decide) (by rw [v7 hmem1 (by decide) kl2];exact kd2) kg2 ks2 kz2 ko2) ?_)
 rintro⟨_,H5,n5⟩ ⟨s',r',rfl,⟨k0,w0,rfl,gk,gw⟩,e2,e3,e4⟩
 dsimp only at gk gw e2 e3 e4 ⊢
 have et:H5.at' n2=some (dJ 32 0):=(e4 n2 (by omega)).trans (by(repeat(refine ab (by omega) ?_));exact dt)
 have eu:H5.at' n4=some (dJ 32 1):=(e4 n4 (by omega)).trans (by repeat(exact ac))
 have eo: ∀ m,m<nx→H5.at' m=H.at' m:=fun m hm=>(e4 m (by omega)).trans (by(repeat(refine ab (by omega) ?_));exact do' m hm)
 clear e4 d1 dt do'
 refine aV fun hund=>?_
 have hr:r'<n5:=by
  rcases gk with ⟨_,h⟩|⟨o,C,_,vo,hv,_⟩
  ·cases h
  ·exact hund _ _ hv
 have hone: ∀ x y:Nat,bm (dB k0 w0 x y)=true:=fun x y=>by simp only [bm,cN gk.bs,cN gw.bs];rfl
 have hk: ∀ vo vo':VO,BsIs ((H5.set n5 vo).set n5 vo') k0 (u8L ⟨#[98]⟩):=fun vo vo'=>(gk.frame ((aa _ _ (by omega)).trans (aa _ _ (by omega)))).bs
 repeat first|refine cU rfl rfl rfl (F.sz _ rfl) (by repeat(first|assumption|exact ac)) rfl (by exact JL rfl) (hone _ _) rfl ?_|apply ja (a:=(32,0)) (b:=(32,0)) (r:=true);rfl;rfl;rfl;rfl;(focus(decide))|apply ja (a:=(32,1)) (b:=(32,1)) (r:=true);rfl;rfl;rfl;rfl;(focus(decide))|apply ah;rfl|apply aG;rfl;(focus((repeat(first|assumption|exact ac|refine ab (by omega) ?_));done));rfl|apply dA;rfl;rfl|refine cf (l6 (F.un _ rfl) (F.un _ rfl) (F.un _ rfl) rfl (hk _ _)) rfl rfl rfl ?_|apply vv (r:=true);rfl;rfl;rfl;rfl;(focus(decide))
 (apply bR Tryz.func8 Tryz.results8;rfl)
 exact⟨rfl,by dsimp only;omega,fun m hm=>(aa _ _ (by omega)).trans ((aa _ _ (by omega)).trans (eo m hm))⟩
theorem gf:Fnc Tryz.prog 8 [] H nx (fun q=>q=(.sc (.bool true),H,nx)):=Fnc.bA (Free.sc _) EH
theorem pZ(h:n<128):az zeroM n=zeroP:=by
 unfold az zeroM zeroP
 rw [List.drop_replicate,List.take_replicate,Nat.min_eq_left (by omega)]
theorem EN:Hv zeroM:=⟨iC,fun n h1 h2=> .inl (pZ h2),fun n h=>pZ (by omega)⟩
theorem Cr:cK zeroM=yw:=by
 unfold cK zeroM yw
 rw [List.drop_replicate]
theorem A3{pf:Nat→List UInt8}(hpf: ∀ m,m<128→(pf m).length=1024): ∀ {k n:Nat} {l:List rU},n+k≤128→gT pf k n=some l→l.length≤256*k
 | 0,n,l,_,h=>by
   cases h
   exact J0 _
 | k+1,n,l,hn,h=>by
   unfold gT at h
   by_cases h0:(aM (pf n)).2≠0
   ·rw [Kb h0] at h
    cases h
   ·rw [Ka h0] at h
    cases h1:gT pf k (n+1)with
    | none=>rw [h1] at h;cases h
    | some l'=>
      rw [h1] at h
      cases h
      have ih:=A3 hpf (by omega) h1
      obtain⟨hpp,hr,_⟩:=cj (p:=pf n) (q:=(aM (pf n)).1) (Prod.ext rfl (Decidable.not_not.1 h0)) (hpf n (by omega))
      have hok:=(aZ hpp).1 hr
      have h2:=hok.head
      have h3:=hok.top
      have h4:(lY n (aM (pf n)).1).length≤ae (aM (pf n)).1:=gF n _ _
      rw [J3]
      omega
theorem rC(h:32≤n):dfH (cK mem) n=bareP (az mem n):=by
 unfold dfH
 rw [tJ h]
end
section
variable {mem:List UInt8} (hm:mem.length=131072)
include hm
theorem CL:pS (dfH (cK mem))=pS (az mem):=
 (kY (pg:=fun n=>bareP (az mem n)) fun n a _=>rC a).trans (xf (pf:=az mem) (fun n h=>cG hm h) 96 32 (by decide))
theorem wF(n k:Int):mn (dfH (cK mem)) n k=mn (az mem) n k:=
 (wG (pg:=fun n=>bareP (az mem n)) (fun n a _=>rC a) n k).trans (AZ (pf:=az mem) (fun n h=>cG hm h) n k)
theorem oc(v:gj):(jD (dfH (cK mem)) v false).1=(jD (az mem) v false).1:=by
 rw [wy (pg:=fun n=>bareP (az mem n)) (fun n a _=>rC a) v false]
 unfold jD
 by_cases h1:gV v=false
 ·rw [Kb h1,Kb h1]
 ·have h2:gV v=true:=by simpa using h1
  have h3:=Km h2
  have h4:=dT v
  obtain⟨e1,e2,e3⟩:=CH (pf:=az mem) (it:=aQ v) (fun n h=>cG hm h) (by omega) (by omega) 96 32 (by decide)
  rw [Ka h1,Ka h1,e1]
  by_cases h5:(ci (az mem) (aQ v) 96 32).1≠0
  ·rw [Kb h5,Kb h5]
  ·rw [Ka h5,Ka h5,Ka (by decide),Ka (by decide),e2,e3]
theorem zf{n:Nat}(hn:n<128):fx mem n (az mem n)=mem:=by
 unfold fx bg
 rw [cG hm hn]
 unfold az
 rw [← List.drop_drop,Kl,List.take_append_drop,List.take_append_drop]
theorem Bx{n q:Nat}{x:List UInt8}{c:UInt8}(hn:n<128)(hq:q<1024)(hx:x.length=1024):(fx mem n x).set (1024*n+q) c=fx mem n (x.set q c):=by
 unfold fx bg
 have e1:(mem.take (1024*n)).length=1024*n:=by rw [Ke,hm];omega
 rw [List.length_set,Kl,Kl,List.set_append_right _ _ (by omega),e1,show 1024*n+q-1024*n=q by omega,List.set_append_left _ _ (by omega)]
theorem BU{o:Nat}{c:UInt8}(ho:o<131072)(l p:Int):(pY mem l p).set o (.sc (.int .u8 (c.toNat:Int)))=pY (mem.set o c) l p:=by
 have e1:((byV mem).map SV.sc).length=131072:=gQ hm
 rw [List.set_append_left _ _ (by rw [e1];exact ho)]
 congr 1
 unfold byV
 rw [List.map_set,List.map_set]
end
end Go.Proofs.YtnhmbonmlfeifaaGreat
end
section
namespace Go.Sy
open Go Go.Sl Go.RowKit
theorem Eg{P:Program}{H:au}{s:SV}{vs:List Value}{j:Nat}(hb:BsIs H s vs)(hj:j<vs.length): ∃ b o vo,H.at' b=some vo∧vo.cell o=some (.sc vs[j])∧ ∀ {H':au} {T:Tr SV} {d:Option Tmp} {ty:TypeId} {pos:String} {af:Array Edge} {gd:Option (Nat×Bool)} {t e:TypeId} {x y:Operand} {kd:IntKind},(∀ b vo,H.at' b=some vo→H'.at' b=some vo)→am T x=some s→am T y=some (.sc (.int kd (j:Int)))→P.underlying t=some (.slice e)→bN P e=some 1→ReadDoes P T H' ⟨d,.indexAddr t x y,ty,pos,af,gd⟩ (.ptr b o):=by
 obtain⟨_,⟨rfl,_,_,rfl⟩|⟨r,eo,ne,ro',rt,us,rfl,hr,hn,hus⟩|⟨b,o,C,vo,rfl,hr,hc⟩⟩:=hb
 ·simp at hj
 ·refine⟨r,_,_,hr,?_,fun hf hx hy hu hs=>qJ hu hs hx hy (hf _ _ hr) (by omega) (by omega) hn⟩
  rw [Nat.mul_one,Ks]
  refine fR (by omega) ?_
  have hg:=congrArg (fun l:List Value=>l[j]?) hus
  rw [List.getElem?_take_of_lt hj,List.getElem?_drop] at hg
  rw [hg]
  simp [hj]
 ·refine⟨b,_,_,hr,?_,fun hf hx hy hu hs=>sI hu hs hx hy hj⟩
  rw [Nat.mul_one]
  exact jp _ _ _ hc j _ (by simp [hj])
end Go.Sy
end
section
namespace Go.Proofs.YtnhmbonmlfeifaaGreat
open Go Go.Sy Go.Sl Go.RowKit
theorem Ax{H:au}{nx r:Nat}{ro:Bool}{ls:List ol}{n off t0 t1:Int}{sb s:SV}{bl:List UInt8}{v:gj}(hr:H.at' r=some (Gd ro ls))(hls:ls.length≤9223372036854775807)(hacts: ∀ x∈ls,ActIs H x∧x.1.ver.1.length≤9223372036854775807∧x.1.ver.2.1.length≤9223372036854775807)(hn : -9223372036854775808≤n∧n≤9223372036854775807)(hb:BsIs H sb (byV bl))(hbl:bl.length≤9223372036854775807)(hv:VerIs H s v)(hvl:v.1.length≤9223372036854775807∧v.2.1.length≤9223372036854775807):Fnc Tryz.prog 5 [.slu r 0 ls.length,.sc (.int .i64 n),.sc (.int .i64 off),sb,.agg [.sc (.int .i64 t0),.sc (.int .i64 t1)],s] H nx (fun q=>q.1 = .sc (.bool true)):=by
 obtain⟨sk,sw,rfl,hk,hw⟩:=hv
 have hlk:=bL v.1
 have hlw:=bL v.2.1
 have hlb:=bL bl
 refine KE Tryz.func5 rfl rfl ?_
 refine aV fun hund=>?_
 have lr:=hund _ _ hr
 repeat apply ah;rfl
 refine cQ (R:=fun HB nB=>nB=nx+1+1∧HB.at' nx=some (dJ t0 t1)∧HB.at' (nx+1)=some (ez (dB sk sw v.2.2.1 v.2.2.2))∧ ∀ m,m<nx→HB.at' m=H.at' m) ⟨rfl,by repeat(first|exact ac|refine ab (by omega) ?_),by repeat(exact ac),fun m hm=>by(repeat(refine ab (by omega) ?_));rfl⟩ ?_
 rintro HB nB ⟨rfl,p1,p2,p3⟩
 have grow: ∀ {H':au},(∀ m,m<nx→H'.at' m=H.at' m)→ ∀ b vo,H.at' b=some vo→H'.at' b=some vo:=fun h b vo hb=>(h b (hund b vo hb)).trans hb
 repeat first|apply cE;rfl|apply bW;rfl;kernel_rfl;exact few_s ((p3 r lr).trans hr) hls (fun x hx=>⟨(hacts x hx).1.frame (grow p3),(hacts x hx).2⟩)
 cases hf:Du ls with
 | false=>
   repeat first|apply ah;rfl|apply bW;rfl;kernel_rfl;exact gf
   (apply bR Tryz.func5 Tryz.results5;rfl)
   rfl
 | true=>
   obtain⟨hf1,hf2⟩:=EY hf
   repeat first|apply dh;rfl;rfl;exact(F.un _ rfl);rfl;exact(hb.frame (grow p3))|apply cE;rfl
   refine dI rfl rfl rfl rfl (fun h40=>?_) (fun h40=>?_)
   ·skip
    repeat first|apply ah;rfl|apply bW;rfl;kernel_rfl;exact gf
    (apply bR Tryz.func5 Tryz.results5;rfl)
    rfl
   repeat first|apply dh;rfl;rfl;exact(F.un _ rfl);rfl;exact(hk.frame (grow p3))|apply ah;rfl|apply aG;rfl;assumption;rfl
   refine dI rfl rfl rfl rfl (fun h41=>?_) (fun h41=>?_)
   ·skip
    repeat first|apply ah;rfl|apply bW;rfl;kernel_rfl;exact gf
    (apply bR Tryz.func5 Tryz.results5;rfl)
    rfl
   repeat first|apply dh;rfl;rfl;exact(F.un _ rfl);rfl;exact(hw.frame (grow p3))|apply ah;rfl|apply aG;rfl;assumption;rfl
   refine dI rfl rfl rfl rfl (fun h42=>?_) (fun h42=>?_)
   ·skip
    repeat first|apply ah;rfl|apply bW;rfl;kernel_rfl;exact gf
    (apply bR Tryz.func5 Tryz.results5;rfl)
    rfl
   have hbH:BsIs HB sb (byV bl):=hb.frame (grow p3)
   have hvH:VerIs HB (im sk sw v.2.2.1 v.2.2.2) v:=⟨sk,sw,rfl,hk.frame (grow p3),hw.frame (grow p3)⟩
   have hundB: ∀ b vo,H.at' b=some vo→b<nx:=hund
   repeat first|refine cf (op:=.build _ #[]) (dm DN) rfl rfl rfl ?_|refine cf (qL rfl C2 HK wM) rfl rfl rfl ?_|apply ah;rfl
   obtain⟨N0,hN0⟩: ∃ N0,N0=nx+1+1:=⟨_,rfl⟩
   rw [← hN0]
   refine cQ (R:=fun HC nC=>nC=N0+1+1∧HC.at' N0=some (cT zeroM (-1) 0)∧HC.at' (N0+1)=some (hpO (cK zeroM))∧ ∀ m,m<N0→HC.at' m=HB.at' m) ⟨rfl,by repeat(first|exact ac|refine ab (by omega) ?_),by rw [Cr];(focus((repeat(exact ac));done)),fun m hm=>by(repeat(refine ab (by omega) ?_));rfl⟩ ?_
   rintro HC nC ⟨rfl,s1,s2,s3⟩
   refine bE (α:=Nat×List UInt8×Int×Int) (fun x=> [(0,.slu r 0 ls.length),(1,.sc (.int .i64 n)),(2,.sc (.int .i64 off)),(3,sb),(10,.ptr nx 0),(11,.ptr (nx+1) 0),(13,.ptr N0 0),(14,.ptr (N0+1) 0),(15,.sc (.int .i64 (x.1:Int)))])
    (fun x H1 n1=>x.1≤ls.length∧Hv x.2.1∧(-1-96*(x.1:Int)≤x.2.2.1∧x.2.2.1 ≤ -1)∧(0≤x.2.2.2∧x.2.2.2≤96*(x.1:Int))∧N0+1+1≤n1∧H1.at' N0=some (cT x.2.1 x.2.2.1 x.2.2.2)∧H1.at' (N0+1)=some (hpO (cK x.2.1))∧ ∀ m,m<N0→H1.at' m=HB.at' m) (fun x=>ls.length-x.1) (0,zeroM,-1,0)
    ⟨J0 _,EN,⟨by decide,by decide⟩,⟨by decide,by decide⟩,JZ _,s1,s2,s3⟩ (KK (KN rfl)) ?_
   clear s1 s2 s3
   rintro⟨i,mem,left,puts⟩ H1 n1 ⟨i1,hvv,⟨i2,i3⟩,⟨i4,i5⟩,i6,i7,i8,i9⟩ ih
   dsimp only at i1 hvv i2 i3 i4 i5 i6 i7 i8 i9 ⊢
   have r1:H1.at' r=some (Gd ro ls):=(i9 r (by omega)).trans ((p3 r lr).trans hr)
   repeat apply ah;rfl
   refine bu rfl rfl rfl rfl (fun h5=>?_) (fun h5=>?_)
   ·have hi:i<ls.length:=by omega
    have hok:Bb H1 n1 N0 (N0+1) ls[i]:=fun H' hf'=>(hacts _ (J9 hi)).1.frame fun b vo hb=>by
     have:=hund b vo hb
     exact(hf' b (by omega) (by omega) (by omega)).trans ((i9 b (by omega)).trans ((p3 b this).trans hb))
    repeat first|refine dH (q:=i) rfl rfl rfl rfl (F.un _ rfl) (F.sz _ rfl) r1 (by omega) (by omega) (JZ _) ?_|refine ee rfl rfl rfl (F.ag _ rfl) r1 (A4 hi) ?_|apply ah;rfl
    refine aE rfl rfl rfl (by kernel_rfl) (KD (do_s i7 i8 (by omega) hvv hok ⟨by omega,by omega⟩ ⟨by omega,by omega⟩) ?_)
    rintro⟨_,H2,n2⟩ ⟨hq,mem',left',puts',d1,d2,hv',⟨d3,d4⟩,⟨d5,d6⟩,d7,d8,_⟩
    dsimp only at hq d1 d2 d7 d8 ⊢
    subst hq
    have d9: ∀ m,m<N0→H2.at' m=HB.at' m:=fun m hm=>(d8 m (by omega) (by omega) (by omega)).trans (i9 m hm)
    repeat first|apply ah;rfl|apply aL;rfl;omega;omega
    exact ih _ _ _ (i+1,mem',left',puts') ⟨hi,hv',⟨by first|omega|(dsimp only;omega),by first|omega|(dsimp only;omega)⟩,⟨by first|omega|(dsimp only;omega),by first|omega|(dsimp only;omega)⟩,by first|omega|(dsimp only;omega),d1,d2,d9⟩ (by dsimp only;omega) (KK (KN rfl))
   ·have hml:=hvv.len
    clear ih r1 hvv
    have hr0:=vN n (L:=96) (by decide)
    generalize hr1:n.tmod ((96:Nat):Int)=c1 at hr0
    obtain⟨j,hj,hr2⟩:=zq (c1+((96:Nat):Int)) (L:=96) (by decide) (by omega)
    repeat apply ah;rfl
    refine ou (c:=c1) rfl rfl rfl rfl (by omega) hr1 ?_
    repeat apply aL;rfl;omega;omega
    refine ou (c:=(j:Int)) rfl rfl rfl rfl (by omega) hr2 ?_
    repeat apply ah;rfl
    refine bE (α:=Nat×List UInt8) (fun x=> [(2,.sc (.int .i64 off)),(3,sb),(10,.ptr nx 0),(11,.ptr (nx+1) 0),(13,.ptr N0 0),(14,.ptr (N0+1) 0),(16,.sc (.int .i64 (j:Int))),(17,.sc (.int .i64 (x.1:Int)))])
     (fun x H2 n2=>x.1≤bl.length∧x.2.length=1024∧N0+1+1≤n2∧H2.at' N0=some (cT (fx mem (32+j) x.2) left puts)∧H2.at' (N0+1)=some (hpO (cK mem))∧ ∀ m,m<N0→H2.at' m=HB.at' m) (fun x=>bl.length-x.1) (0,az mem (32+j))
     ⟨J0 _,cG hml (by omega),i6,by rw [zf hml (by omega)];exact i7,i8,i9⟩ (KK (KN rfl)) ?_
    clear i7 i8 i9
    rintro⟨i,x⟩ H2 n2 ⟨j1,j2,j3,j4,j5,j6⟩ ih
    dsimp only at j1 j2 j3 j4 j5 j6 ⊢
    have hb2:BsIs H2 sb (byV bl):=hb.frame fun b vo hb=>(j6 b (by have:=hund b vo hb;omega)).trans (grow p3 b vo hb)
    have hml2:=kI (n:=32+j) hml (by omega) j2
    repeat first|refine dh rfl rfl (F.un _ rfl) rfl hb2 ?_|apply cE;rfl
    refine bu rfl rfl rfl rfl (fun h5=>?_) (fun h5=>?_)
    ·have hi:i<bl.length:=by omega
     repeat first|apply ah;rfl|refine cf (aw rfl rfl (.inl ⟨rfl,rfl⟩)) rfl rfl rfl ?_
     generalize IntKind.i64.wrap (off+(i:Int))=a
     refine eK rfl rfl rfl rfl (fun h6=>?_) (fun h6=>?_)
     ·repeat apply ah;rfl
      refine bu rfl rfl rfl rfl (fun h7=>?_) (fun h7=>?_)
      ·obtain⟨q,rfl⟩: ∃ q:Nat,a=(q:Int):=⟨a.toNat,by omega⟩
       have hq:q<1024:=by omega
       obtain⟨bb,oo,vo,e1,e2,e3⟩:=Eg hb2 (j:=i) (by rw [hlb];exact hi)
       have e4:(byV bl)[i]'(by rw [hlb];exact hi) = .int .u8 ((bl[i]).toNat:Int):=by unfold byV;rw [List.getElem_map]
       rw [e4] at e2
       repeat apply ah;rfl
       (apply bk;(focus(kernel_rfl));(focus(kernel_rfl)))
       repeat first|apply bG;rfl;rfl;exact(fun _ h=>by cases h);exact(e3 (fun _ _ h=>h) rfl rfl (F.un _ rfl) (F.sz _ rfl))|apply bG;rfl;rfl;exact(fun _ h=>by cases h);exact(an (F.ag _ rfl) rfl e1 e2)|apply gg (q:=(32+j));rfl;rfl;rfl;rfl;exact(F.un _ rfl);exact(F.sz _ rfl);(focus(omega));(focus(omega))|apply gg (q:=q);rfl;rfl;rfl;rfl;exact(F.un _ rfl);exact(F.sz _ rfl);(focus(omega));(focus(omega))|refine dM (cs:=pY (fx mem (32+j) x) left puts) rfl rfl rfl (F.sz _ rfl) j4 rfl (JN (by rw [oK hml2];omega)) ?_|apply aW;rfl|refine bp (aw rfl rfl (.inl ⟨rfl,(JH _ ⟨(by focus(omega)),(by focus(omega))⟩).symm⟩)) rfl rfl rfl ?_
       refine aA ⟨by kernel_rfl,?_,?_⟩;(focus(repeat(first|exact KO|apply jE;rfl|apply gr;rfl;kernel_rfl|refine⟨.inr ⟨0,by kernel_rfl,AllH.all (fun _=>(by(exact aw rfl rfl (.inl ⟨rfl,(JH _ ⟨by omega,by omega⟩).symm⟩)))) _⟩,?_⟩|refine fO 0 rfl (by kernel_rfl) (by(repeat(refine⟨(by first|exact fk (q:=32+j) rfl rfl (F.un _ rfl) (F.sz _ rfl) (by omega) (by omega)|exact fk (q:=q) rfl rfl (F.un _ rfl) (F.sz _ rfl) (by omega) (by omega)),?_⟩));exact KO) ?_|refine fO 1 rfl (by kernel_rfl) (by(repeat(refine⟨(by first|exact e3 (fun _ _ h=>h) rfl rfl (F.un _ rfl) (F.sz _ rfl)|exact an (F.ag _ rfl) rfl e1 e2),?_⟩));exact KO) ?_)))
       rw [show 0+(32+j)*1024+q*1=1024*(32+j)+q by omega,BU hml2 (by omega),Bx hml (by omega) hq j2]
       repeat first|apply ah;rfl|apply aL;rfl;omega;omega
       exact ih _ _ _ (i+1,x.set q bl[i]) ⟨hi,by rw [List.length_set];exact j2,j3,by repeat(exact ac),by(repeat(refine ab (by omega) ?_));exact j5,fun m hm=>by(repeat(refine ab (by omega) ?_));exact j6 m hm⟩ (by dsimp only;omega) (KK (KN rfl))
      ·repeat first|apply ah;rfl|apply aL;rfl;omega;omega
       exact ih _ _ _ (i+1,x) ⟨hi,j2,j3,j4,j5,j6⟩ (by dsimp only;omega) (KK (KN rfl))
     ·repeat first|apply ah;rfl|apply aL;rfl;omega;omega
      exact ih _ _ _ (i+1,x) ⟨hi,j2,j3,j4,j5,j6⟩ (by dsimp only;omega) (KK (KN rfl))
    ·clear ih hb2
     have hc:=sM (n:=32+j) hml2 (by omega) left puts
     have hpx:az (fx mem (32+j) x) (32+j)=x:=by rw [iL (by omega) j2,Kb rfl]
     rw [hpx] at hc
     have hdl:=cx hml
     have hdoc:fx (cK mem) j x=cK (fx mem (32+j) x):=by rw [kR hml (by omega) (by omega) j2,show 32+j-32=j by omega]
     repeat apply ah;rfl
     (apply bk;(focus(kernel_rfl));(focus(kernel_rfl)))
     repeat first|apply bG;rfl;rfl;exact(fun _ h=>by cases h);exact(aU (F.ag _ rfl) rfl j4 hc)|apply gg (q:=(32+j));rfl;rfl;rfl;rfl;exact(F.un _ rfl);exact(F.sz _ rfl);(focus(omega));(focus(omega))|apply gg (q:=j);rfl;rfl;rfl;rfl;exact(F.un _ rfl);exact(F.sz _ rfl);(focus(omega));(focus(omega))|refine bY rfl rfl rfl (F.sz _ rfl) j5 (bh j2) (by rw [Kf,bL,hdl];omega) (hZ _) (tz hdl hj j2) ?_|apply aW;rfl|refine bp (aw rfl rfl (.inl ⟨rfl,(JH _ ⟨(by focus(omega)),(by focus(omega))⟩).symm⟩)) rfl rfl rfl ?_
     refine aA ⟨by kernel_rfl,?_,?_⟩;(focus(repeat(first|exact KO|apply jE;rfl|apply gr;rfl;kernel_rfl|refine⟨.inr ⟨0,by kernel_rfl,AllH.all (fun _=>(by(exact aw rfl rfl (.inl ⟨rfl,(JH _ ⟨by omega,by omega⟩).symm⟩)))) _⟩,?_⟩|refine fO 0 rfl (by kernel_rfl) (by(repeat(refine⟨(by first|exact fk (q:=32+j) rfl rfl (F.un _ rfl) (F.sz _ rfl) (by omega) (by omega)|exact fk (q:=j) rfl rfl (F.un _ rfl) (F.sz _ rfl) (by omega) (by omega)),?_⟩));exact KO) ?_|refine fO 1 rfl (by kernel_rfl) (by(repeat(refine⟨(by(exact aU (F.ag _ rfl) rfl j4 hc)),?_⟩));exact KO) ?_)))
     rw [hdoc]
     refine cQ (R:=fun H3 n3=>N0+1+1≤n3∧H3.at' N0=some (cT (fx mem (32+j) x) left puts)∧H3.at' (N0+1)=some (hpO (cK (fx mem (32+j) x)))∧ ∀ m,m<N0→H3.at' m=HB.at' m) ⟨j3,by(repeat(refine ab (by omega) ?_));exact j4,by repeat(exact ac),fun m hm=>by(repeat(refine ab (by omega) ?_));exact j6 m hm⟩ ?_
     clear j3 j4 j5 j6 hc hpx hdoc hdl
     generalize fx mem (32+j) x=mm at hml2
     rintro H3 n3 ⟨k1,k2,k3,k4⟩
     repeat apply ah;rfl
     have hlen:=fun rows=>A3 (pf:=az mm) (fun m hm=>cG hml2 hm) (k:=96) (n:=32) (l:=rows) (by decide)
     refine aE rfl rfl rfl (by kernel_rfl) (KD (nn (hm:=cK mm) k3 (cx hml2)) ?_)
     rw [CL hml2]
     rintro⟨_,H4,n4⟩ ⟨u1,u2,⟨u3,rfl⟩|⟨rows,s4,r4,u3,rfl,u4⟩⟩
     ·dsimp only at u1 u2 ⊢
      repeat apply ah;rfl
      refine aE rfl rfl rfl (by kernel_rfl) (KD (Jw (b:=N0) (mem:=mm) (left:=left) (puts:=puts) ((u2 _ (by omega)).trans k2) hml2) ?_)
      rintro⟨_,H5,n5⟩ ⟨w1,w2,⟨w3,rfl⟩|⟨rows',s5,r5,w3,_⟩⟩
      rotate_left
      ·rw [u3] at w3
       cases w3
      dsimp only at w1 w2 ⊢
      have z1:N0+1+1≤n5:=by omega
      have z2:H5.at' N0=some (cT mm left puts):=(w2 _ (by omega)).trans ((u2 _ (by omega)).trans k2)
      have z3:H5.at' (N0+1)=some (hpO (cK mm)):=(w2 _ (by omega)).trans ((u2 _ (by omega)).trans k3)
      have z4: ∀ m,m<N0→H5.at' m=HB.at' m:=fun m hm=>(w2 _ (by omega)).trans ((u2 _ (by omega)).trans (k4 m hm))
      clear u2 u3 w2 w3 k2 k3 k4
      repeat first|refine cf (iJ (F.un _ rfl) rfl) rfl rfl rfl ?_|apply dA;rfl;rfl|apply ah;rfl
      have z5:H5.at' nx=some (dJ t0 t1):=(z4 _ (by omega)).trans p1
      have z6:H5.at' (nx+1)=some (ez (dB sk sw v.2.2.1 v.2.2.2)):=(z4 _ (by omega)).trans p2
      repeat refine eY rfl rfl rfl (F.ag _ rfl) z5 rfl ?_
      refine aE rfl rfl rfl (by kernel_rfl) (KD (ET (b:=N0) (n:=t0) (k:=t1) (mem:=mm) (left:=left) (puts:=puts) z2 hml2) ?_)
      rintro⟨_,H6,n6⟩ ⟨s6,r6,rfl,d1,d2,d3,d4⟩
      dsimp only at d1 d2 d3 d4 ⊢
      refine aV fun hund2=>?_
      have e1:H6.at' nx=some (dJ t0 t1):=(d4 _ (by omega)).trans z5
      have e2:H6.at' (N0+1)=some (hpO (cK mm)):=(d4 _ (by omega)).trans z3
      generalize hG:mn (az mm) t0 t1=G at d1 ⊢
      obtain⟨kA,wA,rfl,hkA,hwA⟩:=d1
      have oA:=mT hkA.bs hwA.bs
      repeat first|refine eY rfl rfl rfl (F.ag _ rfl) (by(repeat(refine ab (by omega) ?_));exact e1) rfl ?_|refine cU rfl rfl rfl (F.sz _ rfl) (by repeat(first|assumption|exact ac)) rfl (by exact JL rfl) (oA _ _) rfl ?_|apply ah;rfl
      refine aE rfl rfl rfl (by kernel_rfl) (KD (oY (hb:=N0+1) (n:=t0) (k:=t1) (hm:=cK mm) (by(repeat(refine ab (by omega) ?_));exact e2) (cx hml2)) ?_)
      rintro⟨_,H7,n7⟩ ⟨s7,r7,rfl,f1,f2,f3,f4⟩
      dsimp only at f1 f2 f3 f4 ⊢
      rw [wF hml2,hG] at f1 ⊢
      refine aV fun hund3=>?_
      have vA:VerIs H6 (im kA wA G.1.2.2.1 G.1.2.2.2) G.1:=⟨kA,wA,rfl,hkA.bs,hwA.bs⟩
      have vA3:VerIs H7 (im kA wA G.1.2.2.1 G.1.2.2.2) G.1:=vA.frame fun m vo hm=>by
       have:=hund2 m vo hm
       exact(f4 m (by omega)).trans (by(repeat(refine ab (by omega) ?_));exact hm)
      have vB3:=f1.is
      obtain⟨kB,wB,rfl,hkB,hwB⟩:=f1
      have oB:=mT hkB.bs hwB.bs
      have g1:H7.at' n6=some (aq 38 [kA,wA,.sc (.int .u64 (G.1.2.2.1:Int)),.sc (.int .u64 (G.1.2.2.2:Int))]):=(f4 _ (by omega)).trans (by repeat(exact ac))
      have y2:H7.at' N0=some (cT mm left puts):=(f4 _ (by omega)).trans (by(repeat(refine ab (by omega) ?_));exact(d4 _ (by omega)).trans z2)
      have y3:H7.at' (N0+1)=some (hpO (cK mm)):=(f4 _ (by omega)).trans (by(repeat(refine ab (by omega) ?_));exact e2)
      have y6:H7.at' (nx+1)=some (ez (dB sk sw v.2.2.1 v.2.2.2)):=(f4 _ (by omega)).trans (by(repeat(refine ab (by omega) ?_));exact(d4 _ (by omega)).trans z6)
      have y4: ∀ m,m<N0→H7.at' m=HB.at' m:=fun m hm=>(f4 _ (by omega)).trans (by(repeat(refine ab (by omega) ?_));exact(d4 m (by omega)).trans (z4 m hm))
      have hs: ∀ (H':au) (nx':Nat),(∀ m,m<n7→H'.at' m=H7.at' m)→Fnc Tryz.prog 17 [im kA wA G.1.2.2.1 G.1.2.2.2,im kB wB G.1.2.2.1 G.1.2.2.2] H' nx' (fun q=>q=(.sc (.bool true),H',nx')):=fun H' nx' hh=>vK (vA3.frame fun m vo hm=>(hh m (hund3 m vo hm)).trans hm) (vB3.frame fun m vo hm=>(hh m (hund3 m vo hm)).trans hm)
      repeat first|refine cU rfl rfl rfl (F.sz _ rfl) (by repeat(first|assumption|exact ac)) rfl (by exact JL rfl) (oB _ _) rfl ?_|apply dA;rfl;rfl|apply ah;rfl
      refine cF rfl rfl rfl rfl (fun h8=>?_) (fun h8=>?_)
      ·repeat first|refine ee rfl rfl rfl (F.ag _ rfl) (by repeat(first|assumption|exact ac|refine ab (by omega) ?_)) (ak 4 0 rfl rfl) ?_|apply ah;rfl
       refine aE rfl rfl rfl (by kernel_rfl) (KD (hs _ _ fun m hm=>by(repeat(refine ab (by omega) ?_));rfl) ?_)
       rintro _ rfl
       dsimp only
       repeat first|apply ah;rfl|apply aG;rfl;(focus((repeat(first|assumption|refine ab (by omega) ?_));done));rfl
       refine cQ (R:=fun H8 n8=>n7≤n8∧H8.at' N0=some (cT mm left puts)∧H8.at' (N0+1)=some (hpO (cK mm))∧H8.at' (nx+1)=some (ez (dB sk sw v.2.2.1 v.2.2.2))∧ ∀ m,m<nx→H8.at' m=H.at' m) ⟨by omega,by(repeat(refine ab (by omega) ?_));exact y2,by(repeat(refine ab (by omega) ?_));exact y3,by(repeat(refine ab (by omega) ?_));exact y6,fun m hm=>by(repeat(refine ab (by omega) ?_));exact(y4 m (by omega)).trans (p3 m hm)⟩ ?_
       rintro H8 n8 ⟨x1,x2,x3,x4,x5⟩
       have hv8:VerIs H8 (im sk sw v.2.2.1 v.2.2.2) v:=⟨sk,sw,rfl,hk.frame (grow x5),hw.frame (grow x5)⟩
       refine aE rfl rfl rfl (by kernel_rfl) (KD (oR hv8) ?_)
       rintro _ rfl
       dsimp only
       cases hmv:gV v with
       | false=>
         repeat first|apply ah;rfl|apply bW;rfl;kernel_rfl;exact gf
         (apply bR Tryz.func5 Tryz.results5;rfl)
         rfl
       | true=>
         repeat first|refine eY rfl rfl rfl (F.ag _ rfl) x4 rfl ?_|apply ah;rfl
         refine aE rfl rfl rfl (by kernel_rfl) (KD (mi (b:=N0) (v:=v) (mem:=mm) (left:=left) (puts:=puts) x2 hml2 hv8 ⟨by omega,by omega⟩ ⟨by omega,by omega⟩) ?_)
         rintro⟨_,H9,n9⟩ ⟨rfl,a2,a3,a4⟩
         dsimp only at a2 a3 a4 ⊢
         rw [Ku (show ¬ left=0 by omega)] at a2 ⊢
         have hIb:=oc hml2 v
         generalize jD (az mm) v false=I at a2 hIb ⊢
         have b3:H9.at' (N0+1)=some (hpO (cK mm)):=(a4 _ (by omega) (by omega)).trans x3
         have b4:H9.at' (nx+1)=some (ez (dB sk sw v.2.2.1 v.2.2.2)):=(a4 _ (by omega) (by omega)).trans x4
         have b5: ∀ m,m<nx→H9.at' m=H.at' m:=fun m hm=>(a4 _ (by omega) (by omega)).trans (x5 m hm)
         have hv9: ∀ H':au,(∀ m,m<nx→H'.at' m=H.at' m)→VerIs H' (im sk sw v.2.2.1 v.2.2.2) v:=fun H' h=>⟨sk,sw,rfl,hk.frame (grow h),hw.frame (grow h)⟩
         clear a2
         repeat first|refine eY rfl rfl rfl (F.ag _ rfl) (by(repeat(refine ab (by omega) ?_));exact b4) rfl ?_|apply ah;rfl|apply aG;rfl;(focus((repeat(exact ac));done));rfl
         refine aE rfl rfl rfl (by kernel_rfl) (KD (oW (hb:=N0+1) (hm:=cK mm) (by(repeat(refine ab (by omega) ?_));exact b3) (cx hml2) (hv9 _ fun m hm=>by(repeat(refine ab (by omega) ?_));exact b5 m hm) hmv) ?_)
         rintro⟨_,H10,n10⟩ ⟨rfl,c2,c3,c4⟩
         dsimp only at c2 c3 c4 ⊢
         rw [hIb]
         clear c2 hIb
         have g9:H10.at' n9=some (dJ (I.1.1:Int) (I.1.2.1:Int)):=(c4 _ (by omega) (by omega)).trans (by repeat(exact ac))
         repeat first|apply dA;rfl;rfl|apply ja (r:=true) (a:=((I.1.1:Int),(I.1.2.1:Int))) (b:=((I.1.1:Int),(I.1.2.1:Int))) (hr:=dv.2 rfl);rfl;rfl;rfl;rfl|apply bW;rfl;kernel_rfl;exact gf|apply ah;rfl|apply aG;rfl;(focus((repeat(first|assumption|exact ac|refine ab (by omega) ?_));done));rfl
         (apply bR Tryz.func5 Tryz.results5;rfl)
         rfl
      ·repeat first|apply ah;rfl|apply aG;rfl;(focus((repeat(first|assumption|refine ab (by omega) ?_));done));rfl
       refine cQ (R:=fun H8 n8=>n7≤n8∧H8.at' N0=some (cT mm left puts)∧H8.at' (N0+1)=some (hpO (cK mm))∧H8.at' (nx+1)=some (ez (dB sk sw v.2.2.1 v.2.2.2))∧ ∀ m,m<nx→H8.at' m=H.at' m) ⟨by omega,by(repeat(refine ab (by omega) ?_));exact y2,by(repeat(refine ab (by omega) ?_));exact y3,by(repeat(refine ab (by omega) ?_));exact y6,fun m hm=>by(repeat(refine ab (by omega) ?_));exact(y4 m (by omega)).trans (p3 m hm)⟩ ?_
       rintro H8 n8 ⟨x1,x2,x3,x4,x5⟩
       have hv8:VerIs H8 (im sk sw v.2.2.1 v.2.2.2) v:=⟨sk,sw,rfl,hk.frame (grow x5),hw.frame (grow x5)⟩
       refine aE rfl rfl rfl (by kernel_rfl) (KD (oR hv8) ?_)
       rintro _ rfl
       dsimp only
       cases hmv:gV v with
       | false=>
         repeat first|apply ah;rfl|apply bW;rfl;kernel_rfl;exact gf
         (apply bR Tryz.func5 Tryz.results5;rfl)
         rfl
       | true=>
         repeat first|refine eY rfl rfl rfl (F.ag _ rfl) x4 rfl ?_|apply ah;rfl
         refine aE rfl rfl rfl (by kernel_rfl) (KD (mi (b:=N0) (v:=v) (mem:=mm) (left:=left) (puts:=puts) x2 hml2 hv8 ⟨by omega,by omega⟩ ⟨by omega,by omega⟩) ?_)
         rintro⟨_,H9,n9⟩ ⟨rfl,a2,a3,a4⟩
         dsimp only at a2 a3 a4 ⊢
         rw [Ku (show ¬ left=0 by omega)] at a2 ⊢
         have hIb:=oc hml2 v
         generalize jD (az mm) v false=I at a2 hIb ⊢
         have b3:H9.at' (N0+1)=some (hpO (cK mm)):=(a4 _ (by omega) (by omega)).trans x3
         have b4:H9.at' (nx+1)=some (ez (dB sk sw v.2.2.1 v.2.2.2)):=(a4 _ (by omega) (by omega)).trans x4
         have b5: ∀ m,m<nx→H9.at' m=H.at' m:=fun m hm=>(a4 _ (by omega) (by omega)).trans (x5 m hm)
         have hv9: ∀ H':au,(∀ m,m<nx→H'.at' m=H.at' m)→VerIs H' (im sk sw v.2.2.1 v.2.2.2) v:=fun H' h=>⟨sk,sw,rfl,hk.frame (grow h),hw.frame (grow h)⟩
         clear a2
         repeat first|refine eY rfl rfl rfl (F.ag _ rfl) (by(repeat(refine ab (by omega) ?_));exact b4) rfl ?_|apply ah;rfl|apply aG;rfl;(focus((repeat(exact ac));done));rfl
         refine aE rfl rfl rfl (by kernel_rfl) (KD (oW (hb:=N0+1) (hm:=cK mm) (by(repeat(refine ab (by omega) ?_));exact b3) (cx hml2) (hv9 _ fun m hm=>by(repeat(refine ab (by omega) ?_));exact b5 m hm) hmv) ?_)
         rintro⟨_,H10,n10⟩ ⟨rfl,c2,c3,c4⟩
         dsimp only at c2 c3 c4 ⊢
         rw [hIb]
         clear c2 hIb
         have g9:H10.at' n9=some (dJ (I.1.1:Int) (I.1.2.1:Int)):=(c4 _ (by omega) (by omega)).trans (by repeat(exact ac))
         repeat first|apply dA;rfl;rfl|apply ja (r:=true) (a:=((I.1.1:Int),(I.1.2.1:Int))) (b:=((I.1.1:Int),(I.1.2.1:Int))) (hr:=dv.2 rfl);rfl;rfl;rfl;rfl|apply bW;rfl;kernel_rfl;exact gf|apply ah;rfl|apply aG;rfl;(focus((repeat(first|assumption|exact ac|refine ab (by omega) ?_));done));rfl
         (apply bR Tryz.func5 Tryz.results5;rfl)
         rfl
     ·dsimp only at u1 u2 u4 ⊢
      have ho4:=u4.len
      repeat apply ah;rfl
      refine aE rfl rfl rfl (by kernel_rfl) (KD (Jw (b:=N0) (mem:=mm) (left:=left) (puts:=puts) ((u2 _ (by omega)).trans k2) hml2) ?_)
      rintro⟨_,H5,n5⟩ ⟨w1,w2,⟨w3,_⟩|⟨rows',s5,r5,w3,rfl,w4⟩⟩
      ·rw [u3] at w3
       cases w3
      have hl5:=hlen rows u3
      rw [u3] at w3
      cases w3
      dsimp only at w1 w2 w4 ⊢
      have ho5:=w4.len
      have u5:RowsAt H5 (fun m=>m<n4) r4 s4 rows:=u4.grow fun m hm=>⟨hm.2,w2 m hm.2⟩
      have hsm:=fun(nx:Nat)=>zg (nx:=nx) w4 u5 (by omega)
      have z1:N0+1+1≤n5:=by omega
      have z2:H5.at' N0=some (cT mm left puts):=(w2 _ (by omega)).trans ((u2 _ (by omega)).trans k2)
      have z3:H5.at' (N0+1)=some (hpO (cK mm)):=(w2 _ (by omega)).trans ((u2 _ (by omega)).trans k3)
      have z4: ∀ m,m<N0→H5.at' m=HB.at' m:=fun m hm=>(w2 _ (by omega)).trans ((u2 _ (by omega)).trans (k4 m hm))
      clear u2 u3 w2 k2 k3 k4
      repeat first|apply dA;rfl;rfl|apply bW;rfl;kernel_rfl;exact hsm _|apply ah;rfl
      have z5:H5.at' nx=some (dJ t0 t1):=(z4 _ (by omega)).trans p1
      have z6:H5.at' (nx+1)=some (ez (dB sk sw v.2.2.1 v.2.2.2)):=(z4 _ (by omega)).trans p2
      repeat refine eY rfl rfl rfl (F.ag _ rfl) z5 rfl ?_
      refine aE rfl rfl rfl (by kernel_rfl) (KD (ET (b:=N0) (n:=t0) (k:=t1) (mem:=mm) (left:=left) (puts:=puts) z2 hml2) ?_)
      rintro⟨_,H6,n6⟩ ⟨s6,r6,rfl,d1,d2,d3,d4⟩
      dsimp only at d1 d2 d3 d4 ⊢
      refine aV fun hund2=>?_
      have e1:H6.at' nx=some (dJ t0 t1):=(d4 _ (by omega)).trans z5
      have e2:H6.at' (N0+1)=some (hpO (cK mm)):=(d4 _ (by omega)).trans z3
      generalize hG:mn (az mm) t0 t1=G at d1 ⊢
      obtain⟨kA,wA,rfl,hkA,hwA⟩:=d1
      have oA:=mT hkA.bs hwA.bs
      repeat first|refine eY rfl rfl rfl (F.ag _ rfl) (by(repeat(refine ab (by omega) ?_));exact e1) rfl ?_|refine cU rfl rfl rfl (F.sz _ rfl) (by repeat(first|assumption|exact ac)) rfl (by exact JL rfl) (oA _ _) rfl ?_|apply ah;rfl
      refine aE rfl rfl rfl (by kernel_rfl) (KD (oY (hb:=N0+1) (n:=t0) (k:=t1) (hm:=cK mm) (by(repeat(refine ab (by omega) ?_));exact e2) (cx hml2)) ?_)
      rintro⟨_,H7,n7⟩ ⟨s7,r7,rfl,f1,f2,f3,f4⟩
      dsimp only at f1 f2 f3 f4 ⊢
      rw [wF hml2,hG] at f1 ⊢
      refine aV fun hund3=>?_
      have vA:VerIs H6 (im kA wA G.1.2.2.1 G.1.2.2.2) G.1:=⟨kA,wA,rfl,hkA.bs,hwA.bs⟩
      have vA3:VerIs H7 (im kA wA G.1.2.2.1 G.1.2.2.2) G.1:=vA.frame fun m vo hm=>by
       have:=hund2 m vo hm
       exact(f4 m (by omega)).trans (by(repeat(refine ab (by omega) ?_));exact hm)
      have vB3:=f1.is
      obtain⟨kB,wB,rfl,hkB,hwB⟩:=f1
      have oB:=mT hkB.bs hwB.bs
      have g1:H7.at' n6=some (aq 38 [kA,wA,.sc (.int .u64 (G.1.2.2.1:Int)),.sc (.int .u64 (G.1.2.2.2:Int))]):=(f4 _ (by omega)).trans (by repeat(exact ac))
      have y2:H7.at' N0=some (cT mm left puts):=(f4 _ (by omega)).trans (by(repeat(refine ab (by omega) ?_));exact(d4 _ (by omega)).trans z2)
      have y3:H7.at' (N0+1)=some (hpO (cK mm)):=(f4 _ (by omega)).trans (by(repeat(refine ab (by omega) ?_));exact e2)
      have y6:H7.at' (nx+1)=some (ez (dB sk sw v.2.2.1 v.2.2.2)):=(f4 _ (by omega)).trans (by(repeat(refine ab (by omega) ?_));exact(d4 _ (by omega)).trans z6)
      have y4: ∀ m,m<N0→H7.at' m=HB.at' m:=fun m hm=>(f4 _ (by omega)).trans (by(repeat(refine ab (by omega) ?_));exact(d4 m (by omega)).trans (z4 m hm))
      have hs: ∀ (H':au) (nx':Nat),(∀ m,m<n7→H'.at' m=H7.at' m)→Fnc Tryz.prog 17 [im kA wA G.1.2.2.1 G.1.2.2.2,im kB wB G.1.2.2.1 G.1.2.2.2] H' nx' (fun q=>q=(.sc (.bool true),H',nx')):=fun H' nx' hh=>vK (vA3.frame fun m vo hm=>(hh m (hund3 m vo hm)).trans hm) (vB3.frame fun m vo hm=>(hh m (hund3 m vo hm)).trans hm)
      repeat first|refine cU rfl rfl rfl (F.sz _ rfl) (by repeat(first|assumption|exact ac)) rfl (by exact JL rfl) (oB _ _) rfl ?_|apply dA;rfl;rfl|apply ah;rfl
      refine cF rfl rfl rfl rfl (fun h8=>?_) (fun h8=>?_)
      ·repeat first|refine ee rfl rfl rfl (F.ag _ rfl) (by repeat(first|assumption|exact ac|refine ab (by omega) ?_)) (ak 4 0 rfl rfl) ?_|apply ah;rfl
       refine aE rfl rfl rfl (by kernel_rfl) (KD (hs _ _ fun m hm=>by(repeat(refine ab (by omega) ?_));rfl) ?_)
       rintro _ rfl
       dsimp only
       repeat first|apply ah;rfl|apply aG;rfl;(focus((repeat(first|assumption|refine ab (by omega) ?_));done));rfl
       refine cQ (R:=fun H8 n8=>n7≤n8∧H8.at' N0=some (cT mm left puts)∧H8.at' (N0+1)=some (hpO (cK mm))∧H8.at' (nx+1)=some (ez (dB sk sw v.2.2.1 v.2.2.2))∧ ∀ m,m<nx→H8.at' m=H.at' m) ⟨by omega,by(repeat(refine ab (by omega) ?_));exact y2,by(repeat(refine ab (by omega) ?_));exact y3,by(repeat(refine ab (by omega) ?_));exact y6,fun m hm=>by(repeat(refine ab (by omega) ?_));exact(y4 m (by omega)).trans (p3 m hm)⟩ ?_
       rintro H8 n8 ⟨x1,x2,x3,x4,x5⟩
       have hv8:VerIs H8 (im sk sw v.2.2.1 v.2.2.2) v:=⟨sk,sw,rfl,hk.frame (grow x5),hw.frame (grow x5)⟩
       refine aE rfl rfl rfl (by kernel_rfl) (KD (oR hv8) ?_)
       rintro _ rfl
       dsimp only
       cases hmv:gV v with
       | false=>
         repeat first|apply ah;rfl|apply bW;rfl;kernel_rfl;exact gf
         (apply bR Tryz.func5 Tryz.results5;rfl)
         rfl
       | true=>
         repeat first|refine eY rfl rfl rfl (F.ag _ rfl) x4 rfl ?_|apply ah;rfl
         refine aE rfl rfl rfl (by kernel_rfl) (KD (mi (b:=N0) (v:=v) (mem:=mm) (left:=left) (puts:=puts) x2 hml2 hv8 ⟨by omega,by omega⟩ ⟨by omega,by omega⟩) ?_)
         rintro⟨_,H9,n9⟩ ⟨rfl,a2,a3,a4⟩
         dsimp only at a2 a3 a4 ⊢
         rw [Ku (show ¬ left=0 by omega)] at a2 ⊢
         have hIb:=oc hml2 v
         generalize jD (az mm) v false=I at a2 hIb ⊢
         have b3:H9.at' (N0+1)=some (hpO (cK mm)):=(a4 _ (by omega) (by omega)).trans x3
         have b4:H9.at' (nx+1)=some (ez (dB sk sw v.2.2.1 v.2.2.2)):=(a4 _ (by omega) (by omega)).trans x4
         have b5: ∀ m,m<nx→H9.at' m=H.at' m:=fun m hm=>(a4 _ (by omega) (by omega)).trans (x5 m hm)
         have hv9: ∀ H':au,(∀ m,m<nx→H'.at' m=H.at' m)→VerIs H' (im sk sw v.2.2.1 v.2.2.2) v:=fun H' h=>⟨sk,sw,rfl,hk.frame (grow h),hw.frame (grow h)⟩
         clear a2
         repeat first|refine eY rfl rfl rfl (F.ag _ rfl) (by(repeat(refine ab (by omega) ?_));exact b4) rfl ?_|apply ah;rfl|apply aG;rfl;(focus((repeat(exact ac));done));rfl
         refine aE rfl rfl rfl (by kernel_rfl) (KD (oW (hb:=N0+1) (hm:=cK mm) (by(repeat(refine ab (by omega) ?_));exact b3) (cx hml2) (hv9 _ fun m hm=>by(repeat(refine ab (by omega) ?_));exact b5 m hm) hmv) ?_)
         rintro⟨_,H10,n10⟩ ⟨rfl,c2,c3,c4⟩
         dsimp only at c2 c3 c4 ⊢
         rw [hIb]
         clear c2 hIb
         have g9:H10.at' n9=some (dJ (I.1.1:Int) (I.1.2.1:Int)):=(c4 _ (by omega) (by omega)).trans (by repeat(exact ac))
         repeat first|apply dA;rfl;rfl|apply ja (r:=true) (a:=((I.1.1:Int),(I.1.2.1:Int))) (b:=((I.1.1:Int),(I.1.2.1:Int))) (hr:=dv.2 rfl);rfl;rfl;rfl;rfl|apply bW;rfl;kernel_rfl;exact gf|apply ah;rfl|apply aG;rfl;(focus((repeat(first|assumption|exact ac|refine ab (by omega) ?_));done));rfl
         (apply bR Tryz.func5 Tryz.results5;rfl)
         rfl
      ·repeat first|apply ah;rfl|apply aG;rfl;(focus((repeat(first|assumption|refine ab (by omega) ?_));done));rfl
       refine cQ (R:=fun H8 n8=>n7≤n8∧H8.at' N0=some (cT mm left puts)∧H8.at' (N0+1)=some (hpO (cK mm))∧H8.at' (nx+1)=some (ez (dB sk sw v.2.2.1 v.2.2.2))∧ ∀ m,m<nx→H8.at' m=H.at' m) ⟨by omega,by(repeat(refine ab (by omega) ?_));exact y2,by(repeat(refine ab (by omega) ?_));exact y3,by(repeat(refine ab (by omega) ?_));exact y6,fun m hm=>by(repeat(refine ab (by omega) ?_));exact(y4 m (by omega)).trans (p3 m hm)⟩ ?_
       rintro H8 n8 ⟨x1,x2,x3,x4,x5⟩
       have hv8:VerIs H8 (im sk sw v.2.2.1 v.2.2.2) v:=⟨sk,sw,rfl,hk.frame (grow x5),hw.frame (grow x5)⟩
       refine aE rfl rfl rfl (by kernel_rfl) (KD (oR hv8) ?_)
       rintro _ rfl
       dsimp only
       cases hmv:gV v with
       | false=>
         repeat first|apply ah;rfl|apply bW;rfl;kernel_rfl;exact gf
         (apply bR Tryz.func5 Tryz.results5;rfl)
         rfl
       | true=>
         repeat first|refine eY rfl rfl rfl (F.ag _ rfl) x4 rfl ?_|apply ah;rfl
         refine aE rfl rfl rfl (by kernel_rfl) (KD (mi (b:=N0) (v:=v) (mem:=mm) (left:=left) (puts:=puts) x2 hml2 hv8 ⟨by omega,by omega⟩ ⟨by omega,by omega⟩) ?_)
         rintro⟨_,H9,n9⟩ ⟨rfl,a2,a3,a4⟩
         dsimp only at a2 a3 a4 ⊢
         rw [Ku (show ¬ left=0 by omega)] at a2 ⊢
         have hIb:=oc hml2 v
         generalize jD (az mm) v false=I at a2 hIb ⊢
         have b3:H9.at' (N0+1)=some (hpO (cK mm)):=(a4 _ (by omega) (by omega)).trans x3
         have b4:H9.at' (nx+1)=some (ez (dB sk sw v.2.2.1 v.2.2.2)):=(a4 _ (by omega) (by omega)).trans x4
         have b5: ∀ m,m<nx→H9.at' m=H.at' m:=fun m hm=>(a4 _ (by omega) (by omega)).trans (x5 m hm)
         have hv9: ∀ H':au,(∀ m,m<nx→H'.at' m=H.at' m)→VerIs H' (im sk sw v.2.2.1 v.2.2.2) v:=fun H' h=>⟨sk,sw,rfl,hk.frame (grow h),hw.frame (grow h)⟩
         clear a2
         repeat first|refine eY rfl rfl rfl (F.ag _ rfl) (by(repeat(refine ab (by omega) ?_));exact b4) rfl ?_|apply ah;rfl|apply aG;rfl;(focus((repeat(exact ac));done));rfl
         refine aE rfl rfl rfl (by kernel_rfl) (KD (oW (hb:=N0+1) (hm:=cK mm) (by(repeat(refine ab (by omega) ?_));exact b3) (cx hml2) (hv9 _ fun m hm=>by(repeat(refine ab (by omega) ?_));exact b5 m hm) hmv) ?_)
         rintro⟨_,H10,n10⟩ ⟨rfl,c2,c3,c4⟩
         dsimp only at c2 c3 c4 ⊢
         rw [hIb]
         clear c2 hIb
         have g9:H10.at' n9=some (dJ (I.1.1:Int) (I.1.2.1:Int)):=(c4 _ (by omega) (by omega)).trans (by repeat(exact ac))
         repeat first|apply dA;rfl;rfl|apply ja (r:=true) (a:=((I.1.1:Int),(I.1.2.1:Int))) (b:=((I.1.1:Int),(I.1.2.1:Int))) (hr:=dv.2 rfl);rfl;rfl;rfl;rfl|apply bW;rfl;kernel_rfl;exact gf|apply ah;rfl|apply aG;rfl;(focus((repeat(first|assumption|exact ac|refine ab (by omega) ?_));done));rfl
         (apply bR Tryz.func5 Tryz.results5;rfl)
         rfl
end Go.Proofs.YtnhmbonmlfeifaaGreat
end
section
namespace Go.Sl
open Go Go.RowKit Go.WideShapes Go.ChangeShapes
theorem post_new{H:Type}{enc:TypeId×Value→H}{P:Program}{f:Func}{s:ChangeSpec}{apart fresh handsOn again:Bool}{W W':World}{args:Array Value}{v:Value}{ds gs:List (DataW H)}{before pa pv:List MemPlace}
 (hW:DataW.Whole enc P f.params.toList s.vars apart W args.toList ds gs before) (hb:Below W.heap.size W W') (hps:before=pa ++ pv)
 (hres: ∀ (b:Nat) (sp:Nat→Bool) (hd:Bool),DataW.TrodAll enc P W' b sp hd f.resultTypes.toList (v.resultList f.resultTypes.size) (s.fn H (ds ++ gs)).results [])
 (hargs: ∀ sp:Nat→Bool,(∀ p∈before,sp p.block=true)→DataW.TrodAll enc P W' 0 sp true f.params.toList args.toList (s.fn H (ds ++ gs)).args pa)
 (hvars: ∀ sp:Nat→Bool,(∀ p∈before,sp p.block=true)→DataW.TrodVars enc P W' sp s.vars (s.fn H (ds ++ gs)).vars pv)
 (hok: ∀ (j:Nat) (t:TypeId) (r:Value),f.resultTypes[j]? =some t→(v.resultList f.resultTypes.size)[j]? =some r→Value.okWide P W' .any 0 t r) :
 s.post enc P f apart fresh handsOn again W args v W':=by
 have hsp: ∀ p∈before,(fun b=>decide (b<W.heap.size)) p.block=true:=fun p hp=>by simpa using hW.lt p hp
 have hmem: ∀ p,p∈pa ++ pv↔p∈before:=fun p=>by rw [hps]
 refine⟨ds,gs,before,[],pa,pv,hW,hres _ _ _,hargs _ hsp,hvars _ hsp,World.keptBut_mono (fun p hp=>⟨hp,?_⟩) (hb.frame (·∈before)),fun _=>?_⟩
 ·have:=(hmem p).2 hp
  rw [List.mem_append] at this
  exact .inr this
 obtain⟨_,_,_,_,_,hz,hn⟩:=id hW
 refine⟨hok,_,_,([] ++ pa) ++ pv,⟨[] ++ pa,pv,trodAll_append (hargs _ (fun _ _=>rfl)) (hres _ _ _),hvars _ (fun _ _=>rfl),rfl,fun b off hp=>?_,fun ha=>?_⟩,fun p hp _=>?_⟩
 ·have hin:MemPlace.cell b off∈before:=(hmem _).1 (by simpa using hp)
  rw [hb.frozen (hW.lt _ hin)]
  exact hz b off hin
 ·have:=hn ha
  rw [hps] at this
  simpa using this
 ·exact(hmem p).1 (by simpa using hp)
end Go.Sl
end
section
namespace Go.Sy
open Go Go.Sl Go.RowKit Go.WideShapes
section
variable {sz:Nat}{A:Type}{v:Value}{w:World}{f:A→List Value}
theorem zm(p:Program)(fits:TypeId→Bool)(d:Nat)(e:TypeId)(count off n:Nat)(h:rowAt p fits d e count off n=true):off≤count*p.cellsOf e:=by
 cases d with
 | zero=>simp [rowAt] at h
 | succ d=>
   unfold rowAt at h
   simp only at h
   split at h
   ·cases h
   ·rename_i hs
    have hdiv:=Nat.div_add_mod off (p.cellsOf e)
    rw [Bool.or_eq_true] at h
    rcases h with h|h
    ·simp only [JY,beq_iff_eq,KB] at h
     obtain⟨⟨h1,h2⟩,_⟩:=h
     have:p.cellsOf e*(off / p.cellsOf e)≤p.cellsOf e*count:=Nat.mul_le_mul_left _ (by omega)
     rw [Nat.mul_comm count]
     omega
    ·rw [JY,KB] at h
     have hm:=Nat.mod_lt off (Nat.pos_of_ne_zero hs)
     have:p.cellsOf e*(off / p.cellsOf e+1)≤p.cellsOf e*count:=Nat.mul_le_mul_left _ (by omega)
     rw [Nat.mul_add,Nat.mul_one] at this
     rw [Nat.mul_comm count]
     omega
theorem qa(p:Program): ∀ (d:Nat) (e:TypeId) (count off:Nat) (u:TypeId) (n:Nat),liesAt p d e count off u n=true→off≤count*p.cellsOf e
 | 0,_,_,_,_,_,h=>by simp [liesAt] at h
 | d+1,e,count,off,u,n,h=>by
   unfold liesAt at h
   rw [Bool.or_eq_true] at h
   rcases h with h|h
   ·exact zm p _ _ e count off n h
   ·split at h
    ·exact qa p d e count off _ _ h
    ·cases h
theorem mV{f:Nat→Option A}: ∀ {n:Nat} {l:List A},(List.range n).mapM f=some l→l.length=n∧ ∀ i,i<n→f i=l[i]? :=by
 intro n
 induction n with
 | zero=>intro l h;simp at h;subst h;exact⟨rfl,fun i hi=>by omega⟩
 | succ n ih=>
   intro l h
   rw [List.range_succ,List.mapM_append] at h
   simp only [Option.bind_eq_bind,Option.bind_eq_some_iff] at h
   obtain⟨a,ha,b,hb,hl⟩:=h
   obtain⟨h1,h2⟩:=ih ha
   cases hf:f n with
   | none=>simp [hf] at hb
   | some x=>
     simp [hf] at hb
     subst hb
     simp at hl
     subst hl
     refine⟨by simp [h1],fun i hi=>?_⟩
     rcases Kd i n with h|h
     ·rw [JW (by omega)];exact h2 i h
     ·obtain rfl:i=n:=by omega
      rw [hf,Kk (by omega),h1]
      simp
theorem zb{b0:Nat}{H:Type}{enc:TypeId×Value→H}{P:Program}{t e:TypeId}{dd:DataW H}{p:List MemPlace}(ht:P.underlying t=some (.slice e))(hc:P.cellsOf e=sz)(h0:0<sz)
 (hT:DataW.Trod enc P w 0 (fun _=>true) true t v dd p) (hok:Value.okWide P w .any b0 t v) :
 (v = .slice none 0 0)∨ ∃ (b o len cap:Nat) (cs:Array Value) (tt:TypeId) (fz:Nat×Nat),v = .slice (some ⟨b,o,none⟩) len cap∧w.heap[b]? =some (.cells cs tt fz)∧len≤cap∧cap≤maxLen∧o+cap*sz≤cs.size ∧
   ∀ i,i<len→ ∃ us:List Value,us.length=sz∧(∀ j,j<sz→cs[o+i*sz+j]? =us[j]?)∧ ∃ n y,DataW.trod enc P w 0 (fun _=>true) true n e us=some y:=by
 obtain⟨fuel,hT⟩:=hT
 obtain⟨a0,len0,cap0,rfl⟩:=okWide_slice ht hok
 have hcells:(Value.slice a0 len0 cap0).cells.toList= [.slice a0 len0 cap0]:=rfl
 rw [hcells] at hT
 rcases DataW.trod_slice ht hT with ⟨h1,_⟩|⟨a,len,cap,elems,rest,n,_,h1,_,_,h3,h4,h5,h6,h7,_⟩
 ·left
  simpa using h1
 ·right
  simp only [List.cons.injEq,and_true,Value.slice.injEq] at h1
  obtain⟨rfl,rfl,rfl⟩:=h1
  unfold Value.okWide at hok
  rw [ht] at hok
  simp only at hok
  unfold Cell.okWide at hok
  rw [ht] at hok
  simp only at hok
  unfold Cell.ok at hok
  rw [ht] at hok
  simp only at hok
  obtain⟨_,_,_,hsp,row,cells,hsh,hli⟩:=hok
  obtain⟨b,o,sp⟩:=a
  simp only at hsp hsh hli h6 h7
  subst hsp
  unfold World.shape? at hsh
  cases hob:w.heap[b]? with
  | none=>rw [hob] at hsh;cases hsh
  | some ob=>
    rw [hob] at hsh
    cases ob with
    | cells cs tt fz=>
      simp only [JG,JO] at hsh
      obtain⟨rfl,rfl⟩:=hsh
      have hoff:=qa P _ _ _ _ _ _ hli
      have hoff2:o≤cs.size:=J7 hoff (Nat.div_mul_le_self _ _)
      have hcell: ∀ q:Nat,w.cell? ⟨b,q,none⟩=cs[q]? :=fun q=>by simp [World.cell?,hob]
      have hget: ∀ (q:Nat) (us:List Value),w.cells? 0 ((⟨b,o,none⟩:Addr).add (q*P.cellsOf e)) (P.cellsOf e)=some us→us.length=sz∧ ∀ j,j<sz→cs[o+q*sz+j]? =us[j]? :=by
       intro q us hus
       rw [add_plain] at hus
       unfold World.cells? at hus
       rw [Kb (J0 _)] at hus
       obtain⟨g1,g2⟩:=mV hus
       rw [hc] at g1 g2 hus
       refine⟨g1,fun j hj=>?_⟩
       have:=g2 j hj
       rw [add_plain,hcell] at this
       exact this
      refine⟨b,o,len0,cap0,cs,tt,fz,rfl,hob,h3,h4,?_,fun i hi=>?_⟩
      ·rcases Nat.eq_zero_or_pos cap0 with hz|hz
       ·subst hz;simpa using hoff2
       ·have hlast: ∃ us,w.cells? 0 ((⟨b,o,none⟩:Addr).add ((cap0-1)*P.cellsOf e)) (P.cellsOf e)=some us:=by
         rcases Kd (cap0-1) len0 with hl|hl
         ·have h8:=h6 (cap0-1) hl
          rw [JJ (by omega)] at h8
          cases hcs:w.cells? 0 ((⟨b,o,none⟩:Addr).add ((cap0-1)*P.cellsOf e)) (P.cellsOf e)with
          | none=>rw [hcs] at h8;cases h8
          | some us=>exact⟨us,rfl⟩
         ·obtain⟨h9,h10⟩:=h7 trivial
          have h8:=h10 (cap0-1-len0) (by omega)
          rw [JJ (by omega),show len0+(cap0-1-len0)=cap0-1 by omega] at h8
          cases hcs:w.cells? 0 ((⟨b,o,none⟩:Addr).add ((cap0-1)*P.cellsOf e)) (P.cellsOf e)with
          | none=>rw [hcs] at h8;cases h8
          | some us=>exact⟨us,rfl⟩
        obtain⟨us,hus⟩:=hlast
        obtain⟨g1,g2⟩:=hget _ _ hus
        have g3:=g2 (sz-1) (by omega)
        rw [JJ (show sz-1<us.length by omega)] at g3
        have g4:=(JQ.1 g3).1
        have:cap0*sz=(cap0-1)*sz+sz:=by
         conv=>lhs;rw [show cap0=cap0-1+1 by omega,Nat.add_mul,Nat.one_mul]
        omega
      ·have h8:=h6 i hi
       rw [JJ (by omega)] at h8
       cases hcs:w.cells? 0 ((⟨b,o,none⟩:Addr).add (i*P.cellsOf e)) (P.cellsOf e)with
       | none=>rw [hcs] at h8;cases h8
       | some us=>
         rw [hcs] at h8
         simp only [J6] at h8
         obtain⟨g1,g2⟩:=hget _ _ hcs
         exact⟨us,g1,g2,n,_,h8⟩
    | _=>cases hsh
def ip(w:World):Zone:=⟨fun j=>j<w.heap.size,fun j=>j<w.heap.size,fun _ h=>h⟩
theorem Am(w:World):Kept (ip w) w w:=⟨rfl,rfl,rfl,JZ _,fun _ h=>h,fun _ _=>rfl⟩
theorem CC{w0:World}(h:Kept (ip w0) w0 w):Below w0.heap.size w0 w:=⟨h.os,h.tape,h.output,h.size,fun j hj=>h.block j hj⟩
def gR(sz:Nat):Value→Ent
 | .slice (some a) _ cap=>⟨a.block,a.off,cap,sz,false⟩
 | _=>⟨0,0,0,sz,true⟩
def ArgRow{A:Type}(w:World)(sz:Nat)(f:A→List Value)(v:Value)(l:List A):Prop:=
 (v = .slice none 0 0∧l= [])∨ ∃ (b o len cap:Nat) (cs:Array Value) (tt:TypeId) (fz:Nat×Nat),v = .slice (some ⟨b,o,none⟩) len cap∧w.heap[b]? =some (.cells cs tt fz)∧len=l.length∧len≤cap∧cap≤maxLen∧o+cap*sz≤cs.size ∧
   ∀ i c,l[i]? =some c→ ∀ j,j<sz→cs[o+i*sz+j]? =(f c)[j]?
theorem A2{b0:Nat}{H:Type}{enc:TypeId×Value→H}{P:Program}{t e:TypeId}{dd:DataW H}{p:List MemPlace}(ht:P.underlying t=some (.slice e))(hc:P.cellsOf e=sz)(h0:0<sz)
 (hT:DataW.Trod enc P w 0 (fun _=>true) true t v dd p) (hok:Value.okWide P w .any b0 t v) (hf: ∀ n us y,DataW.trod enc P w 0 (fun _=>true) true n e us=some y→ ∃ a,us=f a): ∃ l:List A,ArgRow w sz f v l:=by
 rcases zb ht hc h0 hT hok with h|⟨b,o,len,cap,cs,tt,fz,h1,h2,h3,h4,h5,h6⟩
 ·exact⟨[],.inl ⟨h,rfl⟩⟩
 ·have hex: ∀ i,i<len→ ∃ a:A,∀ j,j<sz→cs[o+i*sz+j]? =(f a)[j]? :=by
   intro i hi
   obtain⟨us,g1,g2,n,y,g3⟩:=h6 i hi
   obtain⟨a,rfl⟩:=hf n us y g3
   exact⟨a,g2⟩
  refine⟨(List.range len).attach.map (fun i=>Classical.choose (hex i.1 (Kw.1 i.2))),.inr ⟨b,o,len,cap,cs,tt,fz,h1,h2,by simp,h3,h4,h5,?_⟩⟩
  intro i c hi j hj
  rw [Kr] at hi
  obtain⟨q,hq,rfl⟩:=JP.1 hi
  have hq1:q.1=i:=by
   obtain⟨hlt,hh⟩:=JK.1 hq
   rw [← hh]
   simp
  have:=Classical.choose_spec (hex q.1 (Kw.1 q.2)) j hj
  rw [← hq1]
  exact this
theorem ArgRow.conc{l:List A}(h:ArgRow w sz f v l){e:Env}{b:Nat}(he:e b=some (gR sz v)):(SV.slu b 0 l.length).conc e=some v:=by
 rcases h with ⟨rfl,rfl⟩|⟨b',o,len,cap,cs,tt,fz,rfl,h2,rfl,h3,h4,h5,h6⟩
 ·simp [SV.conc,he,gR,Ent.at]
 ·simp [SV.conc,he,gR,Ent.at]
theorem wK{A:Type}{f:A→List Value}{sz:Nat}(hf: ∀ a,(f a).length=sz): ∀ (l:List A) (i j:Nat),j<sz→(l.flatMap f)[i*sz+j]? =(l[i]?).bind (fun c=>(f c)[j]?)
 | [],i,j,_=>by simp
 | a :: l,0,j,hj=>by
   rw [List.flatMap_cons,JW (by rw [hf];omega)]
   simp
 | a :: l,i+1,j,hj=>by
   rw [List.flatMap_cons,Kk (by rw [hf,Nat.add_mul];omega),hf,show(i+1)*sz+j-sz=i*sz+j by rw [Nat.add_mul];omega,wK hf l i j hj]
   simp
theorem ArgRow.lies{l:List A}(h:ArgRow w sz f v l)(hf: ∀ a,(f a).length=sz)(h0:0<sz)(rt:TypeId)(e:Env):Lies (ip w) w e (dat true l.length sz rt (l.flatMap f)) (gR sz v):=by
 rcases h with ⟨rfl,rfl⟩|⟨b,o,len,cap,cs,tt,fz,rfl,h2,rfl,h3,h4,h5,h6⟩
 ·exact .inr ⟨rfl,rfl,true,rt,_,rfl,h0⟩
 ·refine .inl ⟨rfl,.cells cs tt fz,⟨fun _=>fI h2,fun h=>by cases h⟩,h2,rfl,cs,fz,tt,rfl,h3,h5,h4,(fun h=>by cases h),h0,fun i hi s hs=>?_⟩
  have hs':((l.flatMap f)[i]?).map SV.sc=some s:=hs
  obtain⟨u,hu,rfl⟩:=JP.1 hs'
  refine⟨u,rfl,?_⟩
  have hdm:=Nat.div_add_mod i sz
  have hm:=Nat.mod_lt i h0
  have e1:i=i / sz*sz+i % sz:=by rw [Nat.mul_comm];omega
  rw [e1,wK hf l _ _ hm] at hu
  obtain⟨c,hc,hcu⟩:=Option.bind_eq_some_iff.1 hu
  have:=h6 (i / sz) c hc (i % sz) hm
  show cs[o+i]? =some u
  rw [e1,←Nat.add_assoc,this]
  exact hcu
theorem St.init{e:Env}{H:au}{nx:Nat}(h1: ∀ id vo,H.at' id=some vo→vo.ro=true∧ ∃ x,e id=some x∧Lies (ip w) w e vo x)(h2: ∀ i,nx≤i→e i=none):St (ip w) w e H nx w:=
 ⟨Am w,fun id vo h=>(h1 id vo h).2,fun id id' vo vo' x x' h _ _ _ _ _ _ hr _=>by(rw [(h1 id vo h).1] at hr;cases hr),h2⟩
end
end Go.Sy
end
section
namespace Go.Proofs.YtnhmbonmlfeifaaGreat
open Go Go.Sy Go.ChangeShapes Go.WideShapes Go.ChangeAt Go.RowKit
section
variable {H:Type} {enc:TypeId×Value→H} {P:Program} {w:World} {base:Nat} {sp:Nat→Bool} {held:Bool} {n:Nat} {t:TypeId} {cs:List Value} {y:DataW H×List MemPlace}
theorem fF{k:IntKind}(hu:P.underlying t=some (.int k))(h:DataW.trod enc P w base sp held n t cs=some y): ∃ x,cs= [.int k x]∧(Lit.int k x).wf=true:=by
 cases n with
 | zero=>simp [DataW.trod] at h
 | succ n=>
   unfold DataW.trod at h
   rw [hu] at h
   split at h <;> simp_all
end
theorem own:ownKnob Tryz.prog.godebug=none:=by kernel_rfl
theorem laidH:laidOutB Tryz.prog=true:=by kernel_rfl
abbrev bV:UInt8→List Value:=fun c=> [.int .u8 (c.toNat:Int)]
theorem D1{H:Type}{enc:TypeId×Value→H}{w:World}{n:Nat}{us:List Value}{y:DataW H×List MemPlace}(h:DataW.trod enc Tryz.prog w 0 (fun _=>true) true n 5 us=some y): ∃ c:UInt8,us=bV c:=by
 obtain⟨x,rfl,hx⟩:=fF (F.un 5 rfl) h
 have hx:0≤x∧x≤255:=by
  simpa [Lit.wf,IntKind.has,IntKind.min,IntKind.max,show IntKind.u8.signed=false from rfl,show IntKind.u8.bits=8 from rfl] using hx
 refine⟨UInt8.ofNat x.toNat,?_⟩
 have:((UInt8.ofNat x.toNat).toNat:Int)=x:=by
  rw [UInt8.toNat_ofNat']
  omega
 show [Value.int .u8 x]= [Value.int .u8 ((UInt8.ofNat x.toNat).toNat:Int)]
 rw [this]
theorem qx{H:Type}{enc:TypeId×Value→H}{w:World}{n:Nat}{us:List Value}{y:DataW H×List MemPlace}(h:DataW.trod enc Tryz.prog w 0 (fun _=>true) true n 36 us=some y): ∃ c:Nat,us= [.int .u64 (c:Int)]:=by
 obtain⟨x,rfl,hx⟩:=fF (F.un 36 rfl) h
 have hx:0≤x:=by
  simp only [Lit.wf,IntKind.has,IntKind.min,show IntKind.u64.signed=false from rfl,JY,KB] at hx
  first|exact hx.1|(simp at hx;omega)
 exact⟨x.toNat,by rw [Int.toNat_of_nonneg hx]⟩
theorem uVer:Tryz.prog.underlying 38=some (.struct (Tryz.prog.fieldsOf 38)):=by kernel_rfl
theorem fVer:(Tryz.prog.fieldsOf 38).toList.map (fun f=>(f.type,f.offset))= [(35,0),(35,1),(36,2),(36,3)]:=by kernel_rfl
end Go.Proofs.YtnhmbonmlfeifaaGreat
end
section
namespace Go.Sy
open Go Go.Sl Go.RowKit Go.WideShapes
section
variable {sz:Nat}{w:World}
theorem Bw{H:Type}{enc:TypeId×Value→H}{P:Program}{t e:TypeId}{n:Nat}{v:Value}{y:DataW H×List MemPlace}(ht:P.underlying t=some (.slice e))(hc:P.cellsOf e=sz)(h0:0<sz)
 (hT:DataW.trod enc P w 0 (fun _=>true) true n t [v]=some y) :
 (∃ a c,v = .slice a 0 c)∨ ∃ (b o len cap:Nat) (cs:Array Value) (tt:TypeId) (fz:Nat×Nat),v = .slice (some ⟨b,o,none⟩) len cap∧0<len∧w.heap[b]? =some (.cells cs tt fz)∧len≤cap∧cap≤maxLen∧o+cap*sz≤cs.size ∧
   ∀ i,i<len→ ∃ us:List Value,us.length=sz∧(∀ j,j<sz→cs[o+i*sz+j]? =us[j]?)∧ ∃ n y,DataW.trod enc P w 0 (fun _=>true) true n e us=some y:=by
 rcases DataW.trod_slice ht hT with ⟨h1,_⟩|⟨a,len,cap,elems,rest,n,_,h1,_,_,h3,h4,h5,h6,h7,_⟩
 ·simp only [List.cons.injEq,and_true] at h1
  exact .inl ⟨none,0,h1⟩
 ·simp only [List.cons.injEq,and_true] at h1
  subst h1
  rcases Nat.eq_zero_or_pos len with hz|hpos
  ·subst hz
   exact .inl ⟨some a,cap,rfl⟩
  ·right
   have h8:=h6 0 hpos
   rw [JJ (by omega)] at h8
   obtain⟨b,o,sp⟩:=a
   cases hcs:w.cells? 0 ((⟨b,o,sp⟩:Addr).add (0*P.cellsOf e)) (P.cellsOf e)with
   | none=>rw [hcs] at h8;cases h8
   | some us=>
     unfold World.cells? at hcs
     rw [Kb (J0 _)] at hcs
     obtain⟨g1,g2⟩:=mV hcs
     have g3:=g2 0 (by omega)
     rw [JJ (show 0<us.length by omega)] at g3
     have ha:((⟨b,o,sp⟩:Addr).add (0*P.cellsOf e)).add 0=⟨b,o,sp⟩:=by simp [Addr.add]
     rw [ha] at g3
     unfold World.cell? at g3
     cases hob:w.heap[b]? with
     | none=>simp only [hob] at g3;cases g3
     | some ob=>
       simp only [hob] at g3
       cases ob with
       | cells cs tt fz=>
         simp only at g3
         have hsp:sp=none:=by
          cases sp with
          | none=>rfl
          | some s=>simp at g3
         subst hsp
         have hcell: ∀ q:Nat,w.cell? ⟨b,q,none⟩=cs[q]? :=fun q=>by simp [World.cell?,hob]
         have hget: ∀ (q:Nat) (us:List Value),w.cells? 0 ((⟨b,o,none⟩:Addr).add (q*P.cellsOf e)) (P.cellsOf e)=some us→us.length=sz∧ ∀ j,j<sz→cs[o+q*sz+j]? =us[j]? :=by
          intro q us hus
          rw [add_plain] at hus
          unfold World.cells? at hus
          rw [Kb (J0 _)] at hus
          obtain⟨g1,g2⟩:=mV hus
          rw [hc] at g1 g2 hus
          refine⟨g1,fun j hj=>?_⟩
          have:=g2 j hj
          rw [add_plain,hcell] at this
          exact this
         refine⟨b,o,len,cap,cs,tt,fz,rfl,hpos,hob,h3,h4,?_,fun i hi=>?_⟩
         ·have hlast: ∃ us,w.cells? 0 ((⟨b,o,none⟩:Addr).add ((cap-1)*P.cellsOf e)) (P.cellsOf e)=some us:=by
           rcases Kd (cap-1) len with hl|hl
           ·have h8:=h6 (cap-1) hl
            rw [JJ (by omega)] at h8
            cases hcs:w.cells? 0 ((⟨b,o,none⟩:Addr).add ((cap-1)*P.cellsOf e)) (P.cellsOf e)with
            | none=>rw [hcs] at h8;cases h8
            | some us=>exact⟨us,rfl⟩
           ·obtain⟨h9,h10⟩:=h7 rfl
            have h8:=h10 (cap-1-len) (by omega)
            rw [JJ (by omega),show len+(cap-1-len)=cap-1 by omega] at h8
            cases hcs:w.cells? 0 ((⟨b,o,none⟩:Addr).add ((cap-1)*P.cellsOf e)) (P.cellsOf e)with
            | none=>rw [hcs] at h8;cases h8
            | some us=>exact⟨us,rfl⟩
          obtain⟨us,hus⟩:=hlast
          obtain⟨g1,g2⟩:=hget _ _ hus
          have g3:=g2 (sz-1) (by omega)
          rw [JJ (show sz-1<us.length by omega)] at g3
          have g4:=(JQ.1 g3).1
          have:cap*sz=(cap-1)*sz+sz:=by
           conv=>lhs;rw [show cap=cap-1+1 by omega,Nat.add_mul,Nat.one_mul]
          omega
         ·have h8:=h6 i hi
          rw [JJ (by omega)] at h8
          cases hcs:w.cells? 0 ((⟨b,o,none⟩:Addr).add (i*P.cellsOf e)) (P.cellsOf e)with
          | none=>rw [hcs] at h8;cases h8
          | some us=>
            rw [hcs] at h8
            simp only [J6] at h8
            obtain⟨g1,g2⟩:=hget _ _ hcs
            exact⟨us,g1,g2,n,_,h8⟩
       | _=>simp only at g3;cases g3
theorem Al{e:Env}{b o len cap:Nat}{cs:Array Value}{tt:TypeId}{fz:Nat×Nat}(h2:w.heap[b]? =some (.cells cs tt fz))(h3:len≤cap)(h4:cap≤maxLen)(h5:o+cap*sz≤cs.size)(h0:0<sz)(rt:TypeId)(l:List SV)
 (hc: ∀ i s,i<len*sz→l[i]? =some s→ ∃ u,s.conc e=some u∧cs[o+i]? =some u):Lies (ip w) w e (nJ true len sz rt l) ⟨b,o,cap,sz,false⟩:=
 .inl ⟨rfl,.cells cs tt fz,⟨fun _=>fI h2,fun h=>by cases h⟩,h2,rfl,cs,fz,tt,rfl,h3,h5,h4,(fun h=>by cases h),h0,fun i hi s hs=>hc i s hi hs⟩
theorem B5{e:Env}(h0:0<sz)(rt:TypeId)(l:List SV):Lies (ip w) w e (nJ true 0 sz rt l) ⟨0,0,0,sz,true⟩:= .inr ⟨rfl,rfl,true,rt,_,rfl,h0⟩
end
end Go.Sy
end
section
namespace Go.Proofs.YtnhmbonmlfeifaaGreat
open Go Go.Sy Go.ChangeShapes Go.WideShapes Go.ChangeAt Go.RowKit
theorem se{H:Type}{enc:TypeId×Value→H}{P:Program}{w:World}{base:Nat}{sp:Nat→Bool}{held:Bool}{n:Nat}{t:TypeId}{cs:List Value}{y:DataW H×List MemPlace}(hu:P.underlying t=some .bool)(h:DataW.trod enc P w base sp held n t cs=some y): ∃ b,cs= [.bool b]:=by
 cases n with
 | zero=>simp [DataW.trod] at h
 | succ n=>
   unfold DataW.trod at h
   rw [hu] at h
   split at h <;> simp_all
theorem len2{A:Type}: ∀ {l:List A},l.length=2→ ∃ a b,l= [a,b]
 | [a,b],_=>⟨a,b,rfl⟩
 | [],h=>by cases h
 | [_],h=>by cases h
 | _ :: _ :: _ :: _,h=>by simp at h
theorem CJ{A:Type}{f:A→List Value}{sz len o:Nat}{cs:Array Value}(hex: ∀ i,i<len→ ∃ a:A,∀ j,j<sz→cs[o+i*sz+j]? =(f a)[j]?): ∃ l:List A,l.length=len∧ ∀ i c,l[i]? =some c→ ∀ j,j<sz→cs[o+i*sz+j]? =(f c)[j]? :=by
 refine⟨(List.range len).attach.map (fun i=>Classical.choose (hex i.1 (Kw.1 i.2))),by simp,?_⟩
 intro i c hi j hj
 rw [Kr] at hi
 obtain⟨q,hq,rfl⟩:=JP.1 hi
 have hq1:q.1=i:=by
  obtain⟨hlt,hh⟩:=JK.1 hq
  rw [← hh]
  simp
 have:=Classical.choose_spec (hex q.1 (Kw.1 q.2)) j hj
 rw [← hq1]
 exact this
def BytesV(w:World)(v:Value)(l:List UInt8):Prop:=(∃ a c,v = .slice a 0 c∧l= [])∨(l≠ []∧ArgRow w 1 bV v l)
theorem rL{H:Type}{enc:TypeId×Value→H}{w:World}{n:Nat}{v:Value}{y:DataW H×List MemPlace}(h:DataW.trod enc Tryz.prog w 0 (fun _=>true) true n 35 [v]=some y): ∃ l,BytesV w v l:=by
 rcases Bw (F.un 35 rfl) (by kernel_rfl:Tryz.prog.cellsOf 5=1) (by decide) h with ⟨a,c,rfl⟩|⟨b,o,len,cap,cs,tt,fz,rfl,h1,h2,h3,h4,h5,h6⟩
 ·exact⟨[],.inl ⟨a,c,rfl,rfl⟩⟩
 ·obtain⟨l,hl,hc⟩:=CJ (f:=bV) (sz:=1) (o:=o) (cs:=cs) (len:=len) fun i hi=>by
   obtain⟨us,g1,g2,n,y,g3⟩:=h6 i hi
   obtain⟨x,rfl⟩:=D1 g3
   exact⟨x,g2⟩
  refine⟨l,.inr ⟨fun e=>by rw [e] at hl;simp at hl;omega,.inr ⟨b,o,len,cap,cs,tt,fz,rfl,h2,hl.symm,h3,h4,h5,hc⟩⟩⟩
theorem uTid:Tryz.prog.underlying 40=some (.struct (Tryz.prog.fieldsOf 40)):=by kernel_rfl
theorem fTid:(Tryz.prog.fieldsOf 40).toList.map (fun f=>(f.type,f.offset))= [(3,0),(3,1)]:=by kernel_rfl
theorem uAct:Tryz.prog.underlying 42=some (.struct (Tryz.prog.fieldsOf 42)):=by kernel_rfl
theorem fAct:(Tryz.prog.fieldsOf 42).toList.map (fun f=>(f.type,f.offset))= [(3,0),(3,1),(38,2),(40,6),(36,8),(4,9)]:=by kernel_rfl
theorem cInt:Tryz.prog.cellsOf 3=1:=by kernel_rfl
theorem cU64:Tryz.prog.cellsOf 36=1:=by kernel_rfl
theorem cBool:Tryz.prog.cellsOf 4=1:=by kernel_rfl
theorem cSl:Tryz.prog.cellsOf 35=1:=by kernel_rfl
theorem cTid:Tryz.prog.cellsOf 40=2:=by kernel_rfl
theorem cVer:Tryz.prog.cellsOf 38=4:=by kernel_rfl
theorem cAct:Tryz.prog.cellsOf 42=10:=by kernel_rfl
section
variable {H:Type} {enc:TypeId×Value→H} {w:World} {n:Nat} {us:List Value} {y:DataW H×List MemPlace}
theorem vD(h:DataW.trod enc Tryz.prog w 0 (fun _=>true) true n 40 us=some y): ∃ a b:Int,us= [.int .i64 a,.int .i64 b]:=by
 have hf:=fTid
 have hu:=uTid
 generalize Tryz.prog.fieldsOf 40=fs at hf hu
 obtain⟨xs,m,_,_,hl,hlen,hx⟩:=DataW.trod_struct hu h
 rw [cTid] at hl
 obtain⟨l⟩:=fs
 simp only at hf
 have hl2:l.length=2:=by simpa using congrArg List.length hf
 obtain⟨f0,f1,rfl⟩:=len2 hl2
 simp only [J1,List.map_nil,List.cons.injEq,JO,and_true] at hf
 obtain⟨⟨a1,a2⟩,⟨b1,b2⟩⟩:=hf
 have hlen2:xs.length=2:=by simpa using hlen
 obtain⟨u0,u1,rfl⟩:=len2 hl
 have h0:=hx 0 f0 rfl
 have h1:=hx 1 f1 rfl
 rw [a1,a2,cInt] at h0
 rw [b1,b2,cInt] at h1
 obtain⟨_,g0⟩: ∃ y,DataW.trod enc Tryz.prog w 0 (fun _=>true) true m 3 [u0]=some y:=⟨_,h0.trans (JJ (by omega))⟩
 obtain⟨_,g1⟩: ∃ y,DataW.trod enc Tryz.prog w 0 (fun _=>true) true m 3 [u1]=some y:=⟨_,h1.trans (JJ (by omega))⟩
 obtain⟨a,ha,_⟩:=fF (F.un 3 rfl) g0
 obtain⟨b,hb,_⟩:=fF (F.un 3 rfl) g1
 simp only [List.cons.injEq,and_true] at ha hb
 exact⟨a,b,by rw [ha,hb]⟩
theorem vC(h:DataW.trod enc Tryz.prog w 0 (fun _=>true) true n 38 us=some y): ∃ (k u:Value) (lk lw:List UInt8) (x y:Nat),us= [k,u,.int .u64 (x:Int),.int .u64 (y:Int)]∧BytesV w k lk∧BytesV w u lw:=by
 have hf:=fVer
 have hu:=uVer
 generalize Tryz.prog.fieldsOf 38=fs at hf hu
 obtain⟨xs,m,_,_,hl,hlen,hx⟩:=DataW.trod_struct hu h
 rw [cVer] at hl
 obtain⟨l⟩:=fs
 simp only at hf
 have hl4:l.length=4:=by simpa using congrArg List.length hf
 rcases l with _|⟨f0,_|⟨f1,_|⟨f2,_|⟨f3,_|⟨f4,l⟩⟩⟩⟩⟩
 ·simp at hl4
 ·simp at hl4
 ·simp at hl4
 ·simp at hl4
 ·rcases us with _|⟨u0,_|⟨u1,_|⟨u2,_|⟨u3,_|⟨u4,us⟩⟩⟩⟩⟩
  ·simp at hl
  ·simp at hl
  ·simp at hl
  ·simp at hl
  ·simp only [J1,List.map_nil,List.cons.injEq,JO,and_true] at hf
   obtain⟨⟨a1,a2⟩,⟨b1,b2⟩,⟨c1,c2⟩,⟨d1,d2⟩⟩:=hf
   have hlen4:xs.length=4:=by simpa using hlen
   have h0:=hx 0 f0 rfl
   have h1:=hx 1 f1 rfl
   have h2:=hx 2 f2 rfl
   have h3:=hx 3 f3 rfl
   rw [a1,a2,cSl] at h0
   rw [b1,b2,cSl] at h1
   rw [c1,c2,cU64] at h2
   rw [d1,d2,cU64] at h3
   obtain⟨z0,g0⟩: ∃ y,DataW.trod enc Tryz.prog w 0 (fun _=>true) true m 35 [u0]=some y:=⟨_,h0.trans (JJ (by omega))⟩
   obtain⟨z1,g1⟩: ∃ y,DataW.trod enc Tryz.prog w 0 (fun _=>true) true m 35 [u1]=some y:=⟨_,h1.trans (JJ (by omega))⟩
   obtain⟨_,g2⟩: ∃ y,DataW.trod enc Tryz.prog w 0 (fun _=>true) true m 36 [u2]=some y:=⟨_,h2.trans (JJ (by omega))⟩
   obtain⟨_,g3⟩: ∃ y,DataW.trod enc Tryz.prog w 0 (fun _=>true) true m 36 [u3]=some y:=⟨_,h3.trans (JJ (by omega))⟩
   obtain⟨lk,hk⟩:=rL g0
   obtain⟨lw,hw⟩:=rL g1
   obtain⟨x,hx2⟩:=qx g2
   obtain⟨y,hy3⟩:=qx g3
   simp only [List.cons.injEq,and_true] at hx2 hy3
   subst hx2 hy3
   exact⟨u0,u1,lk,lw,x,y,rfl,hk,hw⟩
  ·simp at hl
 ·simp at hl4
end
abbrev actU(x:ActT×Value×Value):List Value:= [.int .i64 x.1.kind,.int .i64 x.1.place,x.2.1,x.2.2,.int .u64 (x.1.ver.2.2.1:Int),.int .u64 (x.1.ver.2.2.2:Int),.int .i64 x.1.tid.1,.int .i64 x.1.tid.2,.int .u64 (x.1.xid:Int),.bool x.1.odd]
abbrev AcA(w:World):={x:ActT×Value×Value // BytesV w x.2.1 x.1.ver.1∧BytesV w x.2.2 x.1.ver.2.1}
theorem Bm{H:Type}{enc:TypeId×Value→H}{w:World}{n:Nat}{us:List Value}{y:DataW H×List MemPlace}(h:DataW.trod enc Tryz.prog w 0 (fun _=>true) true n 42 us=some y): ∃ a:AcA w,us=actU a.1:=by
 have hf:=fAct
 have hu:=uAct
 generalize Tryz.prog.fieldsOf 42=fs at hf hu
 obtain⟨xs,m,_,_,hl,hlen,hx⟩:=DataW.trod_struct hu h
 rw [cAct] at hl
 obtain⟨l⟩:=fs
 simp only at hf
 have hl6:l.length=6:=by simpa using congrArg List.length hf
 rcases l with _|⟨f0,_|⟨f1,_|⟨f2,_|⟨f3,_|⟨f4,_|⟨f5,_|⟨f6,l⟩⟩⟩⟩⟩⟩⟩
 ·simp at hl6
 ·simp at hl6
 ·simp at hl6
 ·simp at hl6
 ·simp at hl6
 ·simp at hl6
 ·rcases us with _|⟨u0,_|⟨u1,_|⟨u2,_|⟨u3,_|⟨u4,_|⟨u5,_|⟨u6,_|⟨u7,_|⟨u8,_|⟨u9,_|⟨u10,us⟩⟩⟩⟩⟩⟩⟩⟩⟩⟩⟩
  ·simp at hl
  ·simp at hl
  ·simp at hl
  ·simp at hl
  ·simp at hl
  ·simp at hl
  ·simp at hl
  ·simp at hl
  ·simp at hl
  ·simp at hl
  ·simp only [J1,List.map_nil,List.cons.injEq,JO,and_true] at hf
   obtain⟨⟨a1,a2⟩,⟨b1,b2⟩,⟨c1,c2⟩,⟨d1,d2⟩,⟨e1,e2⟩,⟨i1,i2⟩⟩:=hf
   have hlen6:xs.length=6:=by simpa using hlen
   have h0:=hx 0 f0 rfl
   have h1:=hx 1 f1 rfl
   have h2:=hx 2 f2 rfl
   have h3:=hx 3 f3 rfl
   have h4:=hx 4 f4 rfl
   have h5:=hx 5 f5 rfl
   rw [a1,a2,cInt] at h0
   rw [b1,b2,cInt] at h1
   rw [c1,c2,cVer] at h2
   rw [d1,d2,cTid] at h3
   rw [e1,e2,cU64] at h4
   rw [i1,i2,cBool] at h5
   obtain⟨_,g0⟩: ∃ y,DataW.trod enc Tryz.prog w 0 (fun _=>true) true m 3 [u0]=some y:=⟨_,h0.trans (JJ (by omega))⟩
   obtain⟨_,g1⟩: ∃ y,DataW.trod enc Tryz.prog w 0 (fun _=>true) true m 3 [u1]=some y:=⟨_,h1.trans (JJ (by omega))⟩
   obtain⟨_,g2⟩: ∃ y,DataW.trod enc Tryz.prog w 0 (fun _=>true) true m 38 [u2,u3,u4,u5]=some y:=⟨_,h2.trans (JJ (by omega))⟩
   obtain⟨_,g3⟩: ∃ y,DataW.trod enc Tryz.prog w 0 (fun _=>true) true m 40 [u6,u7]=some y:=⟨_,h3.trans (JJ (by omega))⟩
   obtain⟨_,g4⟩: ∃ y,DataW.trod enc Tryz.prog w 0 (fun _=>true) true m 36 [u8]=some y:=⟨_,h4.trans (JJ (by omega))⟩
   obtain⟨_,g5⟩: ∃ y,DataW.trod enc Tryz.prog w 0 (fun _=>true) true m 4 [u9]=some y:=⟨_,h5.trans (JJ (by omega))⟩
   obtain⟨k,hk,_⟩:=fF (F.un 3 rfl) g0
   obtain⟨p,hp,_⟩:=fF (F.un 3 rfl) g1
   obtain⟨v1,v2,lk,lw,x,y,hv,hk1,hw1⟩:=vC g2
   obtain⟨a,b,hab⟩:=vD g3
   obtain⟨q,hq⟩:=qx g4
   obtain⟨bo,hbo⟩:=se (F.un 4 rfl) g5
   simp only [List.cons.injEq,and_true] at hk hp hv hab hq hbo
   obtain⟨rfl,rfl,rfl,rfl⟩:=hv
   obtain⟨rfl,rfl⟩:=hab
   subst hk hp hq hbo
   exact⟨⟨(⟨k,p,(lk,lw,x,y),(a,b),q,bo⟩,u2,u3),hk1,hw1⟩,rfl⟩
  ·simp at hl
 ·simp at hl6
theorem qm{A:Type}{w:World}{sz:Nat}{f:A→List Value}{v:Value}{l:List A}(h:ArgRow w sz f v l):l.length≤9223372036854775807:=by
 rcases h with ⟨_,rfl⟩|⟨b,o,len,cap,cs,tt,fz,_,_,h1,h2,h3,_⟩
 ·simp
 ·have:maxLen=9223372036854775807:=rfl
  omega
theorem BytesV.len{w:World}{v:Value}{l:List UInt8}(h:BytesV w v l):l.length≤9223372036854775807:=by
 rcases h with ⟨_,_,_,rfl⟩|⟨_,h⟩
 ·simp
 ·exact qm h
def sOf(v:Value)(l:List UInt8)(m:Nat):SV:=if l= [] then .sc v else .slu m 0 l.length
abbrev Ht(l:List UInt8):VO:=dat true l.length 1 5 (byV l)
def BB(l:List UInt8):Option VO:=if l= [] then none else some (Ht l)
abbrev XtA(w:World):={x:Value×List UInt8 // ArgRow w 1 bV x.1 x.2}
def kC{w:World}(b:Nat):Nat→List (AcA w)→List ol
 | _,[]=> []
 | k,x :: L=>(x.1.1,sOf x.1.2.1 x.1.1.ver.1 (b+2*k),sOf x.1.2.2 x.1.1.ver.2.1 (b+2*k+1)) :: kC b (k+1) L
theorem iW{w:World}(b:Nat): ∀ (k:Nat) (L:List (AcA w)),(kC b k L).length=L.length
 | _,[]=>rfl
 | k,x :: L=>by simp [kC,iW b (k+1) L]
theorem no{w:World}(b:Nat): ∀ (k:Nat) (L:List (AcA w)) (i:Nat) (x:AcA w),L[i]? =some x→(kC b k L)[i]? =some (x.1.1,sOf x.1.2.1 x.1.1.ver.1 (b+2*(k+i)),sOf x.1.2.2 x.1.1.ver.2.1 (b+2*(k+i)+1))
 | k,[],i,x,h=>by simp at h
 | k,y :: L,0,x,h=>by
   simp at h
   subst h
   simp [kC]
 | k,y :: L,i+1,x,h=>by
   have:=no b (k+1) L i x (by simpa using h)
   simp only [kC,List.getElem?_cons_succ,this]
   rw [show k+1+i=k+(i+1) by omega]
section
variable {w:World} (X:List (XtA w)) (L:List (AcA w))
section
variable {i:Nat}{a:AcA w}{v0:Value}
def x8(v0:Value):Env:=fun m=>if m=0 then some (gR 10 v0) else match X[m-1]? with
 | some x=>some (gR 1 x.1.1)
 | none=>match L[(m-(1+X.length)) / 2]? with
   | some a=>some (gR 1 (if(m-(1+X.length)) % 2=0 then a.1.2.1 else a.1.2.2))
   | none=>none
def lL:au:=fun m=>if m=0 then some (Gd true (kC (1+X.length) 0 L)) else match X[m-1]? with
 | some x=>some (Ht x.1.2)
 | none=>match L[(m-(1+X.length)) / 2]? with
   | some a=>if(m-(1+X.length)) % 2=0 then BB a.1.1.ver.1 else BB a.1.1.ver.2.1
   | none=>none
theorem EP:(lL X L).at' 0=some (Gd true (kC (1+X.length) 0 L)):=rfl
theorem rh{x:XtA w}(hx:X[i]? =some x):(lL X L).at' (1+i)=some (Ht x.1.2):=by
 show lL X L (1+i)=_
 unfold lL
 rw [Ka (by omega),show 1+i-1=i by omega,hx]
theorem wh{m:Nat}:X[1+X.length+m-1]? =none:=Ky (by omega)
theorem Aw(ha:L[i]? =some a):(lL X L).at' (1+X.length+2*i)=BB a.1.1.ver.1:=by
 show lL X L (1+X.length+2*i)=_
 unfold lL
 rw [Ka (by omega),wh,show 1+X.length+2*i-(1+X.length)=2*i by omega,show 2*i / 2=i by omega,ha]
 simp only
 rw [Kb (by omega)]
theorem Av(ha:L[i]? =some a):(lL X L).at' (1+X.length+2*i+1)=BB a.1.1.ver.2.1:=by
 show lL X L (1+X.length+2*i+1)=_
 unfold lL
 rw [Ka (by omega),Nat.add_assoc (1+X.length),wh,show 1+X.length+(2*i+1)-(1+X.length)=2*i+1 by omega,show(2*i+1) / 2=i by omega,ha]
 simp only
 rw [Ka (by omega)]
theorem wS{x:XtA w}(hx:X[i]? =some x):x8 X L v0 (1+i)=some (gR 1 x.1.1):=by
 unfold x8
 rw [Ka (by omega),show 1+i-1=i by omega,hx]
theorem Dw(ha:L[i]? =some a):x8 X L v0 (1+X.length+2*i)=some (gR 1 a.1.2.1):=by
 unfold x8
 rw [Ka (by omega),wh,show 1+X.length+2*i-(1+X.length)=2*i by omega,show 2*i / 2=i by omega,ha]
 simp only
 rw [Kb (by omega)]
theorem Dv(ha:L[i]? =some a):x8 X L v0 (1+X.length+2*i+1)=some (gR 1 a.1.2.2):=by
 unfold x8
 rw [Ka (by omega),Nat.add_assoc (1+X.length),wh,show 1+X.length+(2*i+1)-(1+X.length)=2*i+1 by omega,show(2*i+1) / 2=i by omega,ha]
 simp only
 rw [Ka (by omega)]
end
end
section
variable {v:Value}{w:World}{l:List UInt8}
theorem wt(h:ArgRow w 1 bV v l)(e:Env):Lies (ip w) w e (Ht l) (gR 1 v):=by
 have:=h.lies (fun _=>rfl) (by decide) 5 e
 rwa [show l.flatMap bV=byV l from AP l] at this
theorem zh{m:Nat}{H:au}(h:BytesV w v l)(hm:H.at' m=BB l):BsIs H (sOf v l m) (byV l):=by
 unfold sOf
 by_cases hp:l= []
 ·rw [Kb hp]
  rcases h with ⟨a,c,rfl,_⟩|⟨h1,_⟩
  ·subst hp
   exact⟨fun v hv=>by simp at hv,.inl ⟨rfl,a,c,rfl⟩⟩
  ·exact absurd hp h1
 ·rw [Ka hp]
  refine jz (ro:=true) ?_ rfl
  rw [hm]
  unfold BB
  rw [Ka hp]
theorem qE{m:Nat}{e:Env}(h:BytesV w v l)(hm:e m=some (gR 1 v)):(sOf v l m).conc e=some v:=by
 unfold sOf
 by_cases hp:l= []
 ·rw [Kb hp]
  rfl
 ·rw [Ka hp]
  rcases h with ⟨_,_,_,h2⟩|⟨_,h2⟩
  ·exact absurd h2 hp
  ·exact h2.conc hm
theorem vL{vo:VO}(h:BytesV w v l)(hv:BB l=some vo)(e:Env):vo.ro=true∧Lies (ip w) w e vo (gR 1 v):=by
 unfold BB at hv
 by_cases hp:l= []
 ·rw [Kb hp] at hv;cases hv
 ·rw [Ka hp] at hv
  cases hv
  rcases h with ⟨_,_,_,h2⟩|⟨_,h2⟩
  ·exact absurd h2 hp
  ·exact⟨rfl,wt h2 e⟩
theorem Gc(X:List (XtA w))(L:List (AcA w)): ∀ x∈kC (1+X.length) 0 L,ActIs (lL X L) x∧x.1.ver.1.length≤9223372036854775807∧x.1.ver.2.1.length≤9223372036854775807:=fun x hx=>by
 obtain⟨i,hi⟩:=List.mem_iff_getElem?.1 hx
 have hlt:i<L.length:=by
  have:=(JK.1 hi).1
  rwa [iW] at this
 obtain⟨a,ha⟩: ∃ a,L[i]? =some a:=⟨_,JJ hlt⟩
 have hg:=no (1+X.length) 0 L i a ha
 rw [hi,Kc] at hg
 cases hg
 exact⟨⟨zh a.2.1 (Aw X L ha),zh a.2.2 (Av X L ha)⟩,a.2.1.len,a.2.2.len⟩
theorem D6{v0:Value}(X:List (XtA w))(L:List (AcA w))(h0:ArgRow w 10 (fun a:AcA w=>actU a.1) v0 L):St (ip w) w (x8 X L v0) (lL X L) (1+X.length+2*L.length) w:=by
 refine St.init (fun id vo hv=>?_) (fun i hi=>?_)
 ·by_cases e0:id=0
  ·subst e0
   rw [EP] at hv
   cases hv
   refine⟨rfl,gR 10 v0,rfl,?_⟩
   have hlen:=iW (1+X.length) 0 L
   rcases h0 with ⟨rfl,rfl⟩|⟨b,o,len,cap,cs,tt,fz,rfl,g2,g3,g4,g5,g6,g7⟩
   ·exact B5 (by decide) _ _
   ·refine Al g2 (by omega) g5 g6 (by decide) _ _ fun i s hi hs=>?_
    have hdm:=Nat.div_add_mod i 10
    have hm:=Nat.mod_lt i (show 0<10 by decide)
    have hq:i / 10<L.length:=by omega
    have e1:i=i / 10*10+i % 10:=by omega
    obtain⟨a,ha⟩: ∃ a,L[i / 10]? =some a:=⟨_,JJ hq⟩
    have hx:=no (1+X.length) 0 L (i / 10) a ha
    rw [Kc] at hx
    have hq2:i / 10<(kC (1+X.length) 0 L).length:=by omega
    rw [e1,xj hq2 hm] at hs
    have hc:=g7 (i / 10) a ha (i % 10) hm
    rw [show o+i=o+i / 10*10+i % 10 by omega,hc]
    rw [JJ hq2,JG] at hx
    rw [hx] at hs
    have hm6:i % 10=0∨i % 10=1∨i % 10=2∨i % 10=3∨i % 10=4∨i % 10=5∨i % 10=6∨i % 10=7∨i % 10=8∨i % 10=9:=by omega
    rcases hm6 with e|e|e|e|e|e|e|e|e|e <;> rw [e] at hs ⊢
    ·cases hs;exact⟨_,rfl,rfl⟩
    ·cases hs;exact⟨_,rfl,rfl⟩
    ·cases hs;exact⟨_,qE a.2.1 (Dw X L ha),rfl⟩
    ·cases hs;exact⟨_,qE a.2.2 (Dv X L ha),rfl⟩
    ·cases hs;exact⟨_,rfl,rfl⟩
    ·cases hs;exact⟨_,rfl,rfl⟩
    ·cases hs;exact⟨_,rfl,rfl⟩
    ·cases hs;exact⟨_,rfl,rfl⟩
    ·cases hs;exact⟨_,rfl,rfl⟩
    ·cases hs;exact⟨_,rfl,rfl⟩
  ·rcases Kd (id-1) X.length with hX|hX
   ·obtain⟨x,hx⟩: ∃ x,X[id-1]? =some x:=⟨_,JJ hX⟩
    have e:id=1+(id-1):=by omega
    rw [e] at hv ⊢
    rw [rh X L hx] at hv
    cases hv
    exact⟨rfl,_,wS X L hx,wt x.2 _⟩
   ·have hv':lL X L id=some vo:=hv
    have: ∃ a,L[(id-(1+X.length)) / 2]? =some a:=by
     unfold lL at hv'
     rw [Ka e0,Ky hX] at hv'
     cases hL:L[(id-(1+X.length)) / 2]? with
     | none=>rw [hL] at hv';cases hv'
     | some a=>exact⟨a,rfl⟩
    obtain⟨a,ha⟩:=this
    have hmod:=Nat.mod_two_eq_zero_or_one (id-(1+X.length))
    have hdm:=Nat.div_add_mod (id-(1+X.length)) 2
    generalize (id-(1+X.length)) / 2=i at *
    clear hv'
    rcases hmod with hz|hz
    ·obtain rfl:id=1+X.length+2*i:=by omega
     rw [Aw X L ha] at hv
     have:=vL a.2.1 hv (x8 X L v0)
     exact⟨this.1,_,Dw X L ha,this.2⟩
    ·obtain rfl:id=1+X.length+2*i+1:=by omega
     rw [Av X L ha] at hv
     have:=vL a.2.2 hv (x8 X L v0)
     exact⟨this.1,_,Dv X L ha,this.2⟩
 ·unfold x8
  rw [Ka (by omega),Ky (by omega),Ky (by omega)]
end
end Go.Proofs.YtnhmbonmlfeifaaGreat
end
