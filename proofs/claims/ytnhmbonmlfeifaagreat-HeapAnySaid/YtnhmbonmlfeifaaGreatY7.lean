import Derived.Test.YtnhmbonmlfeifaaGreatY6
set_option linter.unusedVariables false
set_option linter.unusedSimpArgs false
set_option maxRecDepth 100000
set_option maxHeartbeats 0
section
namespace Go.Proofs.YtnhmbonmlfeifaaGreat
open Go Go.Sy Go.Sl Go.RowKit
section
variable {H:au}{s:SV}{a i n nx r:Nat}{it p:List UInt8}
abbrev Bv:Nat×Nat→List Value:=fun x=> [.int .i64 (x.1:Int),.int .i64 (x.2:Int)]
theorem qD:RecOf Bv 2:=⟨fun _=>rfl,fun a v hv=>by
 simp only [Bv,Kp,List.not_mem_nil,or_false] at hv
 rcases hv with rfl|rfl <;> rfl⟩
def eN(p:List UInt8)(n:Nat):List (Nat×Nat):=(List.range n).map fun j=>(ay p j,ar p j)
theorem eT(p:List UInt8)(n:Nat):(eN p n).length=n:=by simp [eN]
theorem mM(p:List UInt8)(n:Nat):eN p (n+1)=eN p n ++ [(ay p n,ar p n)]:=by simp [eN,List.range_succ]
abbrev sbO(a b:Nat):VO:=aq 92 [.sc (.int .i64 (a:Int)),.sc (.int .i64 (b:Int))]
abbrev slO(l:List (Nat×Nat)):VO:=dat false l.length 2 92 (l.flatMap Bv)
theorem sn(p:List UInt8)(n:Nat):(eN p n).flatMap Bv=((List.range n).flatMap fun j=> [Value.int .i64 (ay p j:Int),.int .i64 (ar p j:Int)]):=by
 unfold eN
 rw [List.flatMap_map]
theorem rm{f g:Nat→Value}: ∀ (n k:Nat),k<n→((List.range n).flatMap fun j=> [f j,g j])[k*2]? =some (f k)∧((List.range n).flatMap fun j=> [f j,g j])[k*2+1]? =some (g k)
 | 0,k,h=>absurd h (Nat.not_lt_zero _)
 | n+1,k,h=>by
   have hl:((List.range n).flatMap fun j=> [f j,g j]).length=n*2:=by
    rw [List.length_flatMap]
    simp [List.map_const',List.sum_replicate_nat]
   rw [List.range_succ,List.flatMap_append]
   rcases Kd k n with h1|h1
   ·rw [JW (by omega),JW (by omega)]
    exact rm n k h1
   ·obtain rfl:k=n:=by omega
    rw [Kk (by omega),Kk (by omega),hl]
    simp
theorem jL(p:List UInt8){k:Nat}(h:k<i):(slO (eN p i)).cell (k*2)=some (.sc (.int .i64 (ay p k:Int))):=by
 refine fR (by rw [eT];omega) ?_
 rw [sn p i]
 exact(rm i k h).1
theorem iG(p:List UInt8){k:Nat}(h:k<i):(slO (eN p i)).cell (k*2+1)=some (.sc (.int .i64 (ar p k:Int))):=by
 refine fR (by rw [eT];omega) ?_
 rw [sn p i]
 exact(rm i k h).2
theorem lG(h: ∀ j,j<i→lp p j)(hi:lp p i): ∀ j,j<i+1→lp p j:=fun j hj=>by
 rcases Kd j i with h5|h5
 ·exact h j h5
 ·obtain rfl:j=i:=by omega
  exact hi
theorem p9(hp:p.length=1024):Fnc Tryz.prog 35 [.agg (pgS p)] H nx
 (fun q=>nx≤q.2.2∧(∀ m,m<nx→q.2.1.at' m=H.at' m)∧((bj p=false∧q.1 = .tup [dK,.sc (.bool false)])∨(bj p=true∧ ∃ r,q.1 = .tup [.slu r 0 (eN p (ae p)).length,.sc (.bool true)]∧nx≤r∧r<q.2.2∧q.2.1.at' r=some (slO (eN p (ae p)))))):=by
 have hno: ¬ Okp p→bj p=false:=(BC hp).2
 have hyes:Okp p→bj p=true:=(aZ hp).2
 have hs0:ae p<65536:=cV p 14
 have hb0:aF p<65536:=cV p 16
 have hsl: ∀ {H:au} {nx:Nat},Fnc Tryz.prog 76 [.agg (pgS p),.sc (.int .i64 14)] H nx (fun q=>q=(.sc (.int .i64 (ae p:Int)),H,nx)):=fun {H nx}=>oO (o:=14) hp (by decide)
 refine KE Tryz.func35 rfl rfl ?_
 repeat first|apply bB hp;rfl;(focus((repeat(exact ac));done))|apply ah;rfl|apply aL;rfl;omega;omega|apply bW;rfl;kernel_rfl;exact hsl|apply bW;rfl;kernel_rfl;exact jY hp
 refine dI rfl rfl rfl rfl (fun h1=>?_) (fun h1=>?_)
 ·repeat apply ah;rfl
  (apply bR Tryz.func35 Tryz.results35;rfl)
  exact⟨by dsimp only;omega,fun m hm=>by(repeat(refine ab (by omega) ?_));rfl,.inl ⟨hno fun h=>by have:=h.head;omega,rfl⟩⟩
 ·repeat first|apply bB hp;rfl;(focus((repeat(exact ac));done))|apply ah;rfl|apply bW;rfl;kernel_rfl;exact jY hp
  refine dI rfl rfl rfl rfl (fun h2=>?_) (fun h2=>?_)
  ·repeat apply ah;rfl
   (apply bR Tryz.func35 Tryz.results35;rfl)
   exact⟨by dsimp only;omega,fun m hm=>by(repeat(refine ab (by omega) ?_));rfl,.inl ⟨hno fun h=>by have:=h.top;omega,rfl⟩⟩
  ·repeat apply ah;rfl
   refine kD (d:=5) 2 92 rfl rfl ?_
   refine bE (α:=Nat×Nat) (fun x=> [(1,.ptr nx 0),(4,.sc (.int .i64 (ae p:Int))),(5,.slu x.2 0 (eN p x.1).length),(6,.sc (.int .i64 (x.1:Int)))])
    (fun x H1 n1=>x.1≤ae p∧(∀ j,j<x.1→lp p j)∧(x.1=ae p→0<ae p→ar p (ae p-1)≠0)∧nx<x.2∧x.2<n1∧H1.at' x.2=some (slO (eN p x.1))∧H1.at' nx=some (pgO p)∧ ∀ m,m<nx→H1.at' m=H.at' m) (fun x=>ae p-x.1) (0,nx+1)
    ⟨J0 _,fun j hj=>absurd hj (Nat.not_lt_zero _),fun h1 h2=>absurd h1 (by dsimp only;omega),Nat.lt_succ_self _,Nat.lt_succ_self _,by repeat(exact ac),by repeat(first|exact ac|refine ab (by omega) ?_),fun m hm=>by(repeat(refine ab (by omega) ?_));rfl⟩ (KK (KN rfl)) ?_
   rintro⟨i,r⟩ H1 n1 ⟨i1,i2,i3,i4,i5,i6,i7,i8⟩ ih
   dsimp only at i1 i2 i3 i4 i5 i6 i7 i8 ⊢
   repeat apply ah;rfl
   refine bu rfl rfl rfl rfl (fun h3=>?_) (fun h3=>?_)
   ·have hi:i<ae p:=by omega
    have hn1: ∀ {H:au} {nx:Nat},Fnc Tryz.prog 76 [.agg (pgS p),.sc (.int .i64 (18+4*(i:Int)))] H nx (fun q=>q=(.sc (.int .i64 (ay p i:Int)),H,nx)):=fun {H nx}=>by
     have:=oO (H:=H) (nx:=nx) (o:=18+4*i) hp (by omega)
     rw [show((18+4*i:Nat):Int)=18+4*(i:Int) by omega] at this
     exact this
    have hn2: ∀ {H:au} {nx:Nat},Fnc Tryz.prog 76 [.agg (pgS p),.sc (.int .i64 (18+4*(i:Int)+2))] H nx (fun q=>q=(.sc (.int .i64 (ar p i:Int)),H,nx)):=fun {H nx}=>by
     have:=oO (H:=H) (nx:=nx) (o:=18+4*i+2) hp (by omega)
     rw [show((18+4*i+2:Nat):Int)=18+4*(i:Int)+2 by omega] at this
     exact this
    repeat apply ah;rfl
    (apply gC;(focus(kernel_rfl));(focus(kernel_rfl)))
    refine ej 4 (JL rfl) ?_
    repeat first|refine cn rfl rfl rfl (F.ag _ rfl) i7 (bh hp) ?_|apply aW;rfl|refine bp (aw rfl rfl (.inl ⟨rfl,(JH _ ⟨(by focus(omega)),(by focus(omega))⟩).symm⟩)) rfl rfl rfl ?_|refine bp (aw rfl rfl (.inr (.inr ⟨rfl,(JH _ ⟨(by focus(omega)),(by focus(omega))⟩).symm⟩))) rfl rfl rfl ?_
    refine aA ?_;(apply er;rfl;rfl;rfl;(focus(kernel_rfl));exact(hn1))
    refine ej 5 (JL rfl) ?_
    repeat first|refine cn rfl rfl rfl (F.ag _ rfl) i7 (bh hp) ?_|apply aW;rfl|refine bp (aw rfl rfl (.inl ⟨rfl,(JH _ ⟨(by focus(omega)),(by focus(omega))⟩).symm⟩)) rfl rfl rfl ?_|refine bp (aw rfl rfl (.inr (.inr ⟨rfl,(JH _ ⟨(by focus(omega)),(by focus(omega))⟩).symm⟩))) rfl rfl rfl ?_
    refine aA ?_;(apply er;rfl;rfl;rfl;(focus(kernel_rfl));exact(hn2))
    refine jy ?_
    repeat first|apply aW;rfl|refine pR (fp (F.zl _ rfl)) rfl rfl rfl ?_|refine rD (dg (F.sz _ rfl) rfl rfl rfl (by repeat(first|assumption|exact ac)) (by rfl) (by exact JL rfl) (by rfl)) rfl rfl ?_
    refine aA ⟨by kernel_rfl,?_,?_⟩;(focus(repeat(first|exact KO|refine⟨.inl rfl,?_⟩|refine⟨.inr (.inl (by(repeat(refine⟨(by first|exact mN rfl|exact aw rfl rfl (.inl ⟨rfl,(JH _ ⟨by omega,by omega⟩).symm⟩)|exact aU (F.ag _ rfl) rfl (by(repeat(refine ab (by omega) ?_));exact i7) (bv hp)|exact aw rfl rfl (.inr (.inr ⟨rfl,(JH _ ⟨by omega,by omega⟩).symm⟩))),?_⟩));exact KO)),?_⟩|refine⟨.inr (.inr (by(repeat(refine⟨(by exact eH rfl (by kernel_rfl) (by first|exact hn1|exact hn2)),?_⟩));exact KO)),?_⟩)))
    dsimp only
    apply cQ (R:=fun H2 n2=>n2=n1+1∧H2.at' n1=some (sbO (ay p i) (ar p i))∧H2.at' r=some (slO (eN p i))∧H2.at' nx=some (pgO p)∧ ∀ m,m<nx→H2.at' m=H.at' m)
    focus exact⟨rfl,by repeat(exact ac),by repeat(first|assumption|refine ab (by omega) ?_),by repeat(first|assumption|refine ab (by omega) ?_),fun m hm=>by(repeat(refine ab (by omega) ?_));exact i8 m hm⟩
    rintro H2 n2 ⟨rfl,j1,j2,j3,j4⟩
    have hf0:ay p i<65536:=cV p _
    have hf1:ar p i<65536:=cV p _
    have hll:=eT p i
    by_cases hz:ay p i=0∧ar p i=0
    ·have hso:lp p i:= .inl hz
     repeat first|apply ah;rfl|apply aG;rfl;assumption;rfl|apply dA;rfl;omega
     by_cases hl:i+1=ae p
     ·(apply bk;(focus(kernel_rfl));(focus(kernel_rfl)))
      repeat first|apply aW;rfl|refine bp (aw rfl rfl (.inr (.inl ⟨rfl,(JH _ ⟨(by focus(omega)),(by focus(omega))⟩).symm⟩))) rfl rfl rfl ?_|apply cy;rfl;rfl|refine lO rfl rfl rfl rfl (fun _=>?_) (fun hq=>absurd hq (by omega))
      refine aA ⟨by kernel_rfl,?_,?_⟩;(focus(repeat(first|exact KO|apply uX;rfl|apply gr;rfl;kernel_rfl|refine⟨.inr ⟨0,by kernel_rfl,AllH.all (fun _=>(by(exact aw rfl rfl (.inr (.inl ⟨rfl,(JH _ ⟨by omega,by omega⟩).symm⟩))))) _⟩,?_⟩|apply mJ;kernel_rfl)))
      repeat apply ah;rfl
      (apply bR Tryz.func35 Tryz.results35;rfl)
      exact⟨by dsimp only;omega,j4,.inl ⟨hno fun h=>h.last (by omega) (by rw [← hl];exact hz.2),rfl⟩⟩
     ·(apply bk;(focus(kernel_rfl));(focus(kernel_rfl)))
      repeat first|apply aW;rfl|refine bp (aw rfl rfl (.inr (.inl ⟨rfl,(JH _ ⟨(by focus(omega)),(by focus(omega))⟩).symm⟩))) rfl rfl rfl ?_|apply cy;rfl;rfl|refine lO rfl rfl rfl rfl (fun hq=>absurd hq (by omega)) (fun _=>?_)
      refine aA ⟨by kernel_rfl,?_,?_⟩;(focus(repeat(first|exact KO|apply uX;rfl|apply gr;rfl;kernel_rfl|refine⟨.inr ⟨0,by kernel_rfl,AllH.all (fun _=>(by(exact aw rfl rfl (.inr (.inl ⟨rfl,(JH _ ⟨by omega,by omega⟩).symm⟩))))) _⟩,?_⟩|apply mJ;kernel_rfl)))
      repeat apply ah;rfl
      have hlast:i+1=ae p→0<ae p→ar p (ae p-1)≠0:=fun h=>absurd h hl
      refine nR ?_
      repeat apply ah;rfl
      refine bu rfl rfl rfl rfl (fun _=>?_) (fun _=>?_)
      ·((try dsimp only);(repeat(first|apply ah;rfl|apply aG;rfl;assumption;rfl|apply aL;rfl;omega;omega|apply bF;rfl;rfl;exact(F.un _ rfl);exact(F.sz _ rfl);rfl;exact(F.ze _ rfl);rfl;rfl;rfl;rfl;rfl|refine lS (b:=16) (xs:=eN p i) (a:=(ay p i,ar p i)) rfl rfl rfl rfl (F.un _ rfl) (.inl ⟨_,F.un _ rfl⟩) (F.sz _ rfl) rfl (by kernel_rfl) (by kernel_rfl) (by repeat(first|assumption|refine ab (by omega) ?_)) (by repeat(exact ac)) (by rfl) (qD) (by omega) (by omega) ?_));rw [← mM];exact ih _ _ _ (i+1,n1+1+1) ⟨hi,lG i2 hso,hlast,by dsimp only;omega,by dsimp only;omega,by repeat(exact ac),by repeat(first|assumption|refine ab (by omega) ?_|refine cc (by omega) ?_),fun m hm=>by(repeat(first|refine ab (by omega) ?_|refine cc (by omega) ?_));exact j4 m hm⟩ (by dsimp only;omega) (KK (KN rfl)))
      ·((try dsimp only);(repeat(first|apply ah;rfl|apply aG;rfl;assumption;rfl|apply aL;rfl;omega;omega|apply bF;rfl;rfl;exact(F.un _ rfl);exact(F.sz _ rfl);rfl;exact(F.ze _ rfl);rfl;rfl;rfl;rfl;rfl|refine lS (b:=16) (xs:=eN p i) (a:=(ay p i,ar p i)) rfl rfl rfl rfl (F.un _ rfl) (.inl ⟨_,F.un _ rfl⟩) (F.sz _ rfl) rfl (by kernel_rfl) (by kernel_rfl) (by repeat(first|assumption|refine ab (by omega) ?_)) (by repeat(exact ac)) (by rfl) (qD) (by omega) (by omega) ?_));rw [← mM];exact ih _ _ _ (i+1,n1+1+1) ⟨hi,lG i2 hso,hlast,by dsimp only;omega,by dsimp only;omega,by repeat(exact ac),by repeat(first|assumption|refine ab (by omega) ?_|refine cc (by omega) ?_),fun m hm=>by(repeat(first|refine ab (by omega) ?_|refine cc (by omega) ?_));exact j4 m hm⟩ (by dsimp only;omega) (KK (KN rfl)))
    ·by_cases hf:ay p i=0
     ·have hzz:ar p i≠0:=fun h=>hz ⟨hf,h⟩
      repeat first|apply ah;rfl|apply aG;rfl;assumption;rfl|apply dA;rfl;omega|apply iA;rfl;omega
      by_cases b1:ar p i<1
      ·((apply bk;(focus(kernel_rfl));(focus(kernel_rfl)));(repeat(first|apply dN;rfl;assumption;rfl|apply aW;rfl|apply cy;rfl;rfl|refine cW rfl rfl rfl rfl (fun _=>?_) (fun hq=>absurd hq (by omega))));refine aA ⟨by kernel_rfl,?_,?_⟩;(focus(repeat(first|exact KO|apply uX;rfl|apply gr;rfl;kernel_rfl|refine fO 0 rfl (by kernel_rfl) (by(repeat(refine⟨(by(exact an (F.ag _ rfl) rfl (by assumption) (aD rfl))),?_⟩));exact KO) ?_|apply mJ;kernel_rfl)));(repeat(apply ah;rfl));(apply bR Tryz.func35 Tryz.results35;rfl);exact⟨by dsimp only;omega,j4,.inl ⟨hno fun h=>(by have:=h.slot i hi;omega),rfl⟩⟩)
      by_cases b2:1000<ar p i
      ·((apply bk;(focus(kernel_rfl));(focus(kernel_rfl)));(repeat(first|apply dN;rfl;assumption;rfl|apply aW;rfl|apply cy;rfl;rfl|refine cW rfl rfl rfl rfl (fun hq=>absurd hq (by omega)) (fun _=>?_)|refine fL rfl rfl rfl rfl (fun _=>?_) (fun hq=>absurd hq (by omega))));refine aA ⟨by kernel_rfl,?_,?_⟩;(focus(repeat(first|exact KO|apply uX;rfl|apply gr;rfl;kernel_rfl|refine fO 0 rfl (by kernel_rfl) (by(repeat(refine⟨(by(exact an (F.ag _ rfl) rfl (by assumption) (aD rfl))),?_⟩));exact KO) ?_|apply mJ;kernel_rfl)));(repeat(apply ah;rfl));(apply bR Tryz.func35 Tryz.results35;rfl);exact⟨by dsimp only;omega,j4,.inl ⟨hno fun h=>(by have:=h.slot i hi;omega),rfl⟩⟩)
      have b3:ay p i<aF p:=by omega
      ((apply bk;(focus(kernel_rfl));(focus(kernel_rfl)));(repeat(first|refine cn rfl rfl rfl (F.ag _ rfl) j3 (bh hp) ?_|apply b9;rfl;rfl;rfl;(focus(kernel_rfl));exact(jY hp)|apply dN;rfl;assumption;rfl|apply aW;rfl|apply cy;rfl;rfl|refine cW rfl rfl rfl rfl (fun _=>?_) (fun hq=>absurd hq (by omega))|refine cW rfl rfl rfl rfl (fun hq=>absurd hq (by omega)) (fun _=>?_)|refine fL rfl rfl rfl rfl (fun hq=>absurd hq (by omega)) (fun _=>?_)));refine aA ⟨by kernel_rfl,?_,?_⟩;(focus(repeat(first|exact KO|apply jE;rfl|apply uX;rfl|apply gr;rfl;kernel_rfl|refine fO 0 rfl (by kernel_rfl) (by(repeat(refine⟨(by first|exact an (F.ag _ rfl) rfl (by assumption) (aD rfl)|exact aU (F.ag _ rfl) rfl (by assumption) (bv hp)),?_⟩));exact KO) ?_|apply mJ;kernel_rfl)));(repeat(apply ah;rfl));(apply bR Tryz.func35 Tryz.results35;rfl);exact⟨by dsimp only;omega,j4,.inl ⟨hno fun h=>(by have:=h.slot i hi;omega),rfl⟩⟩)
     ·repeat first|apply ah;rfl|apply aG;rfl;assumption;rfl|apply iA;rfl;omega
      by_cases b1:ar p i<1
      ·((apply bk;(focus(kernel_rfl));(focus(kernel_rfl)));(repeat(first|apply dN;rfl;assumption;rfl|apply aW;rfl|apply cy;rfl;rfl|refine cW rfl rfl rfl rfl (fun _=>?_) (fun hq=>absurd hq (by omega))));refine aA ⟨by kernel_rfl,?_,?_⟩;(focus(repeat(first|exact KO|apply uX;rfl|apply gr;rfl;kernel_rfl|refine fO 0 rfl (by kernel_rfl) (by(repeat(refine⟨(by(exact an (F.ag _ rfl) rfl (by assumption) (aD rfl))),?_⟩));exact KO) ?_|apply mJ;kernel_rfl)));(repeat(apply ah;rfl));(apply bR Tryz.func35 Tryz.results35;rfl);exact⟨by dsimp only;omega,j4,.inl ⟨hno fun h=>(by have:=h.slot i hi;omega),rfl⟩⟩)
      by_cases b2:1000<ar p i
      ·((apply bk;(focus(kernel_rfl));(focus(kernel_rfl)));(repeat(first|apply dN;rfl;assumption;rfl|apply aW;rfl|apply cy;rfl;rfl|refine cW rfl rfl rfl rfl (fun hq=>absurd hq (by omega)) (fun _=>?_)|refine fL rfl rfl rfl rfl (fun _=>?_) (fun hq=>absurd hq (by omega))));refine aA ⟨by kernel_rfl,?_,?_⟩;(focus(repeat(first|exact KO|apply uX;rfl|apply gr;rfl;kernel_rfl|refine fO 0 rfl (by kernel_rfl) (by(repeat(refine⟨(by(exact an (F.ag _ rfl) rfl (by assumption) (aD rfl))),?_⟩));exact KO) ?_|apply mJ;kernel_rfl)));(repeat(apply ah;rfl));(apply bR Tryz.func35 Tryz.results35;rfl);exact⟨by dsimp only;omega,j4,.inl ⟨hno fun h=>(by have:=h.slot i hi;omega),rfl⟩⟩)
      by_cases b3:ay p i<aF p
      ·((apply bk;(focus(kernel_rfl));(focus(kernel_rfl)));(repeat(first|refine cn rfl rfl rfl (F.ag _ rfl) j3 (bh hp) ?_|apply b9;rfl;rfl;rfl;(focus(kernel_rfl));exact(jY hp)|apply dN;rfl;assumption;rfl|apply aW;rfl|apply cy;rfl;rfl|refine cW rfl rfl rfl rfl (fun _=>?_) (fun hq=>absurd hq (by omega))|refine cW rfl rfl rfl rfl (fun hq=>absurd hq (by omega)) (fun _=>?_)|refine fL rfl rfl rfl rfl (fun hq=>absurd hq (by omega)) (fun _=>?_)));refine aA ⟨by kernel_rfl,?_,?_⟩;(focus(repeat(first|exact KO|apply jE;rfl|apply uX;rfl|apply gr;rfl;kernel_rfl|refine fO 0 rfl (by kernel_rfl) (by(repeat(refine⟨(by first|exact an (F.ag _ rfl) rfl (by assumption) (aD rfl)|exact aU (F.ag _ rfl) rfl (by assumption) (bv hp)),?_⟩));exact KO) ?_|apply mJ;kernel_rfl)));(repeat(apply ah;rfl));(apply bR Tryz.func35 Tryz.results35;rfl);exact⟨by dsimp only;omega,j4,.inl ⟨hno fun h=>(by have:=h.slot i hi;omega),rfl⟩⟩)
      by_cases b4:1024<ay p i+ar p i
      ·((apply bk;(focus(kernel_rfl));(focus(kernel_rfl)));(repeat(first|refine cn rfl rfl rfl (F.ag _ rfl) j3 (bh hp) ?_|apply b9;rfl;rfl;rfl;(focus(kernel_rfl));exact(jY hp)|apply dN;rfl;assumption;rfl|apply aW;rfl|refine bp (aw rfl rfl (.inl ⟨rfl,(JH _ ⟨(by focus(omega)),(by focus(omega))⟩).symm⟩)) rfl rfl rfl ?_|apply cy;rfl;rfl|refine cW rfl rfl rfl rfl (fun hq=>absurd hq (by omega)) (fun _=>?_)|refine fL rfl rfl rfl rfl (fun _=>?_) (fun hq=>absurd hq (by omega))|refine fL rfl rfl rfl rfl (fun hq=>absurd hq (by omega)) (fun _=>?_)));refine aA ⟨by kernel_rfl,?_,?_⟩;(focus(repeat(first|exact KO|apply jE;rfl|apply uX;rfl|apply gr;rfl;kernel_rfl|refine⟨.inr ⟨0,by kernel_rfl,AllH.all (fun _=>(by(exact aw rfl rfl (.inl ⟨rfl,(JH _ ⟨by omega,by omega⟩).symm⟩)))) _⟩,?_⟩|refine fO 0 rfl (by kernel_rfl) (by(repeat(refine⟨(by first|exact an (F.ag _ rfl) rfl (by assumption) (aD rfl)|exact aU (F.ag _ rfl) rfl (by assumption) (bv hp)),?_⟩));exact KO) ?_|apply mJ;kernel_rfl)));(repeat(apply ah;rfl));(apply bR Tryz.func35 Tryz.results35;rfl);exact⟨by dsimp only;omega,j4,.inl ⟨hno fun h=>(by have:=h.slot i hi;omega),rfl⟩⟩)
      ((apply bk;(focus(kernel_rfl));(focus(kernel_rfl)));(repeat(first|refine cn rfl rfl rfl (F.ag _ rfl) j3 (bh hp) ?_|apply b9;rfl;rfl;rfl;(focus(kernel_rfl));exact(jY hp)|apply dN;rfl;assumption;rfl|apply aW;rfl|refine bp (aw rfl rfl (.inl ⟨rfl,(JH _ ⟨(by focus(omega)),(by focus(omega))⟩).symm⟩)) rfl rfl rfl ?_|apply cy;rfl;rfl|refine cW rfl rfl rfl rfl (fun hq=>absurd hq (by omega)) (fun _=>?_)|refine fL rfl rfl rfl rfl (fun hq=>absurd hq (by omega)) (fun _=>?_)));refine aA ⟨by kernel_rfl,?_,?_⟩;(focus(repeat(first|exact KO|apply jE;rfl|apply uX;rfl|apply gr;rfl;kernel_rfl|refine⟨.inr ⟨0,by kernel_rfl,AllH.all (fun _=>(by(exact aw rfl rfl (.inl ⟨rfl,(JH _ ⟨by omega,by omega⟩).symm⟩)))) _⟩,?_⟩|refine fO 0 rfl (by kernel_rfl) (by(repeat(refine⟨(by first|exact an (F.ag _ rfl) rfl (by assumption) (aD rfl)|exact aU (F.ag _ rfl) rfl (by assumption) (bv hp)),?_⟩));exact KO) ?_|apply mJ;kernel_rfl)));(repeat(apply ah;rfl));(try dsimp only))
      refine bE (α:=Nat) (fun k=> [(1,.ptr nx 0),(4,.sc (.int .i64 (ae p:Int))),(5,.slu r 0 (eN p i).length),(6,.sc (.int .i64 (i:Int))),(7,.ptr n1 0),(8,.sc (.bool false)),(9,.sc (.int .i64 (k:Int)))])
       (fun k H3 n3=>k≤i∧(∀ k',k'<k→ar p k'≠0→ay p k'+ar p k'≤ay p i∨ay p i+ar p i≤ay p k')∧n3=n1+1∧H3.at' n1=some (sbO (ay p i) (ar p i))∧H3.at' r=some (slO (eN p i))∧H3.at' nx=some (pgO p)∧ ∀ m,m<nx→H3.at' m=H.at' m) (fun k=>i-k) 0
       ⟨J0 _,fun k' h5=>absurd h5 (Nat.not_lt_zero _),rfl,j1,j2,j3,j4⟩ (KK (KN rfl)) ?_
      clear j1 j2 j3 j4
      rintro k H3 n3 ⟨k1,k2,rfl,j1,j2,j3,j4⟩ ihk
      repeat apply ah;rfl
      refine bu rfl rfl rfl rfl (fun h5=>?_) (fun h5=>?_)
      ·have hki:k<i:=by omega
       have hkf:ay p k<65536:=cV p _
       have hkg:ar p k<65536:=cV p _
       have hcS:=iG p hki
       have hcF:=jL p hki
       repeat apply ah;rfl
       by_cases c1:0<ar p k∧ay p k<ay p i+ar p i∧ay p i<ay p k+ar p k
       ·((apply bk;(focus(kernel_rfl));(focus(kernel_rfl)));(repeat(first|refine bp (an (F.ag _ rfl) rfl j2 hcS) rfl rfl rfl ?_|refine bp (an (F.ag _ rfl) rfl j2 hcF) rfl rfl rfl ?_|apply dN;rfl;assumption;rfl|refine aI (q:=k) rfl rfl rfl rfl (F.un _ rfl) (F.sz _ rfl) (by assumption) (by omega) (by(omega)) (JZ _) ?_|apply aW;rfl|refine bp (aw rfl rfl (.inl ⟨rfl,(JH _ ⟨(by focus(omega)),(by focus(omega))⟩).symm⟩)) rfl rfl rfl ?_|refine cW rfl rfl rfl rfl (fun _=>?_) (fun hq=>absurd hq (by omega))|refine fL rfl rfl rfl rfl (fun _=>?_) (fun hq=>absurd hq (by omega))));refine aA ⟨by kernel_rfl,?_,?_⟩;(focus(repeat(first|exact KO|apply gr;rfl;kernel_rfl|refine⟨.inr ⟨0,by kernel_rfl,AllH.all (fun _=>(by(exact aw rfl rfl (.inl ⟨rfl,(JH _ ⟨by omega,by omega⟩).symm⟩)))) _⟩,?_⟩|refine fO 0 rfl (by kernel_rfl) (by(repeat(refine⟨(by first|exact an (F.ag _ rfl) rfl (by assumption) (aD rfl)|exact an (F.ag _ rfl) rfl j2 hcS|exact an (F.ag _ rfl) rfl j2 hcF|exact aO (F.un _ rfl) (F.sz _ rfl) rfl rfl j2 rfl (by omega) (JZ _)),?_⟩));exact KO) ?_|apply mJ;kernel_rfl)));(repeat(apply ah;rfl)))
        (apply bR Tryz.func35 Tryz.results35;rfl)
        exact⟨by dsimp only;omega,j4,.inl ⟨hno fun h=>(by have:=h.apart k i hki hi (by omega) (by omega);omega),rfl⟩⟩
       have hk3: ∀ k',k'<k+1→ar p k'≠0→ay p k'+ar p k'≤ay p i∨ay p i+ar p i≤ay p k':=fun k' h6 h7=>by
        rcases Kd k' k with h8|h8
        ·exact k2 k' h8 h7
        ·obtain rfl:k'=k:=by omega
         omega
       by_cases c2:0<ar p k
       ·by_cases c3:ay p k<ay p i+ar p i
        ·((apply bk;(focus(kernel_rfl));(focus(kernel_rfl)));(repeat(first|refine bp (an (F.ag _ rfl) rfl j2 hcS) rfl rfl rfl ?_|refine bp (an (F.ag _ rfl) rfl j2 hcF) rfl rfl rfl ?_|apply dN;rfl;assumption;rfl|refine aI (q:=k) rfl rfl rfl rfl (F.un _ rfl) (F.sz _ rfl) (by assumption) (by omega) (by(omega)) (JZ _) ?_|apply aW;rfl|refine bp (aw rfl rfl (.inl ⟨rfl,(JH _ ⟨(by focus(omega)),(by focus(omega))⟩).symm⟩)) rfl rfl rfl ?_|refine cW rfl rfl rfl rfl (fun _=>?_) (fun hq=>absurd hq (by omega))|refine cW rfl rfl rfl rfl (fun hq=>absurd hq (by omega)) (fun _=>?_)|refine fL rfl rfl rfl rfl (fun _=>?_) (fun hq=>absurd hq (by omega))));refine aA ⟨by kernel_rfl,?_,?_⟩;(focus(repeat(first|exact KO|apply gr;rfl;kernel_rfl|refine⟨.inr ⟨0,by kernel_rfl,AllH.all (fun _=>(by(exact aw rfl rfl (.inl ⟨rfl,(JH _ ⟨by omega,by omega⟩).symm⟩)))) _⟩,?_⟩|refine fO 0 rfl (by kernel_rfl) (by(repeat(refine⟨(by first|exact an (F.ag _ rfl) rfl (by assumption) (aD rfl)|exact an (F.ag _ rfl) rfl j2 hcS|exact an (F.ag _ rfl) rfl j2 hcF|exact aO (F.un _ rfl) (F.sz _ rfl) rfl rfl j2 rfl (by omega) (JZ _)),?_⟩));exact KO) ?_|apply mJ;kernel_rfl)));(repeat(first|apply ah;rfl|apply aL;rfl;omega;omega)))
         dsimp only
         exact ihk _ _ _ (k+1) ⟨by omega,hk3,rfl,j1,j2,j3,j4⟩ (by omega) (KK (KN rfl))
        ·((apply bk;(focus(kernel_rfl));(focus(kernel_rfl)));(repeat(first|refine bp (an (F.ag _ rfl) rfl j2 hcS) rfl rfl rfl ?_|refine bp (an (F.ag _ rfl) rfl j2 hcF) rfl rfl rfl ?_|apply dN;rfl;assumption;rfl|refine aI (q:=k) rfl rfl rfl rfl (F.un _ rfl) (F.sz _ rfl) (by assumption) (by omega) (by(omega)) (JZ _) ?_|apply aW;rfl|refine bp (aw rfl rfl (.inl ⟨rfl,(JH _ ⟨(by focus(omega)),(by focus(omega))⟩).symm⟩)) rfl rfl rfl ?_|apply cy;rfl;rfl|refine cW rfl rfl rfl rfl (fun hq=>absurd hq (by omega)) (fun _=>?_)|refine fL rfl rfl rfl rfl (fun _=>?_) (fun hq=>absurd hq (by omega))));refine aA ⟨by kernel_rfl,?_,?_⟩;(focus(repeat(first|exact KO|apply uX;rfl|apply gr;rfl;kernel_rfl|refine⟨.inr ⟨0,by kernel_rfl,AllH.all (fun _=>(by(exact aw rfl rfl (.inl ⟨rfl,(JH _ ⟨by omega,by omega⟩).symm⟩)))) _⟩,?_⟩|refine fO 0 rfl (by kernel_rfl) (by(repeat(refine⟨(by first|exact an (F.ag _ rfl) rfl (by assumption) (aD rfl)|exact an (F.ag _ rfl) rfl j2 hcS|exact an (F.ag _ rfl) rfl j2 hcF|exact aO (F.un _ rfl) (F.sz _ rfl) rfl rfl j2 rfl (by omega) (JZ _)),?_⟩));exact KO) ?_|apply mJ;kernel_rfl)));(repeat(first|apply ah;rfl|apply aL;rfl;omega;omega)))
         dsimp only
         exact ihk _ _ _ (k+1) ⟨by omega,hk3,rfl,j1,j2,j3,j4⟩ (by omega) (KK (KN rfl))
       ·((apply bk;(focus(kernel_rfl));(focus(kernel_rfl)));(repeat(first|refine bp (an (F.ag _ rfl) rfl j2 hcS) rfl rfl rfl ?_|refine aI (q:=k) rfl rfl rfl rfl (F.un _ rfl) (F.sz _ rfl) (by assumption) (by omega) (by(omega)) (JZ _) ?_|apply aW;rfl|apply cy;rfl;rfl|refine fL rfl rfl rfl rfl (fun hq=>absurd hq (by omega)) (fun _=>?_)));refine aA ⟨by kernel_rfl,?_,?_⟩;(focus(repeat(first|exact KO|apply uX;rfl|apply gr;rfl;kernel_rfl|refine fO 0 rfl (by kernel_rfl) (by(repeat(refine⟨(by first|exact an (F.ag _ rfl) rfl j2 hcS|exact aO (F.un _ rfl) (F.sz _ rfl) rfl rfl j2 rfl (by omega) (JZ _)),?_⟩));exact KO) ?_|apply mJ;kernel_rfl)));(repeat(first|apply ah;rfl|apply aL;rfl;omega;omega)))
        dsimp only
        exact ihk _ _ _ (k+1) ⟨by omega,hk3,rfl,j1,j2,j3,j4⟩ (by omega) (KK (KN rfl))
      ·have hki:k=i:=by omega
       rw [hki] at k2
       clear ihk
       have hso:lp p i:= .inr ⟨by omega,k2⟩
       have hlast:i+1=ae p→0<ae p→ar p (ae p-1)≠0:=fun h _=>by rw [← h];show ar p i≠0;omega
       ((try dsimp only);(repeat(first|apply ah;rfl|apply aG;rfl;assumption;rfl|apply aL;rfl;omega;omega|apply bF;rfl;rfl;exact(F.un _ rfl);exact(F.sz _ rfl);rfl;exact(F.ze _ rfl);rfl;rfl;rfl;rfl;rfl|refine lS (b:=16) (xs:=eN p i) (a:=(ay p i,ar p i)) rfl rfl rfl rfl (F.un _ rfl) (.inl ⟨_,F.un _ rfl⟩) (F.sz _ rfl) rfl (by kernel_rfl) (by kernel_rfl) (by repeat(first|assumption|refine ab (by omega) ?_)) (by repeat(exact ac)) (by rfl) (qD) (by omega) (by omega) ?_));rw [← mM];exact ih _ _ _ (i+1,n1+1+1) ⟨hi,lG i2 hso,hlast,by dsimp only;omega,by dsimp only;omega,by repeat(exact ac),by repeat(first|assumption|refine ab (by omega) ?_|refine cc (by omega) ?_),fun m hm=>by(repeat(first|refine ab (by omega) ?_|refine cc (by omega) ?_));exact j4 m hm⟩ (by dsimp only;omega) (KK (KN rfl)))
   ·obtain rfl:i=ae p:=by omega
    repeat apply ah;rfl
    (apply bR Tryz.func35 Tryz.results35;rfl)
    have hok:Okp p:=⟨hp,by omega,by omega,fun h=>i3 rfl h,fun j hj=>(i2 j hj).imp id And.left,fun a c h1 h2 h3 h4=>by
     rcases i2 c h2 with h5|h5
     ·exact absurd h5.2 h4
     ·exact h5.2 a h1 h3⟩
    exact⟨by dsimp only;omega,i8,.inr ⟨hyes hok,r,rfl,by omega,i5,i6⟩⟩
theorem Dm(hrow:H.at' r=some (slO (eN p (ae p)))):Fnc Tryz.prog 92 [.slu r 0 (eN p (ae p)).length] H nx (fun q=>q=(.sc (.int .i64 (aY p:Int)),H,nx)):=by
 have hll:=eT p (ae p)
 have hs0:ae p<65536:=cV p 14
 refine KE Tryz.func92 rfl rfl ?_
 repeat apply ah;rfl
 refine bE (α:=Nat) (fun i=> [(0,.slu r 0 (eN p (ae p)).length),(3,.sc (.int .i64 (i:Int)))])
  (fun i H1 n1=>H1=H∧n1=nx∧i≤ae p∧dG p (ae p-i) i=aY p) (fun i=>ae p-i) 0
  ⟨rfl,rfl,J0 _,rfl⟩ (KK (KN rfl)) ?_
 rintro i H1 n1 ⟨rfl,rfl,i1,i2⟩ ih
 repeat apply ah;rfl
 refine bu rfl rfl rfl rfl (fun h3=>?_) (fun h3=>?_)
 ·have hi:i<ae p:=by omega
  have hg:ar p i<65536:=cV p _
  have hcS:=iG p hi
  have hgo:dG p (ae p-i) i=if ar p i=0 then i else dG p (ae p-(i+1)) (i+1):=by
   rw [show ae p-i=(ae p-(i+1))+1 by omega]
   rfl
  repeat first|refine dH (q:=i) rfl rfl rfl rfl (F.un _ rfl) (F.sz _ rfl) (by assumption) (by omega) (by(omega)) (JZ _) ?_|refine cf (an (F.ag _ rfl) rfl hrow hcS) rfl rfl rfl ?_|apply ah;rfl
  refine cF rfl rfl rfl rfl (fun h4=>?_) (fun h4=>?_)
  ·rw [hgo,Kb (by omega)] at i2
   repeat apply ah;rfl
   (apply bR Tryz.func92 Tryz.results92;rfl)
   rw [← i2]
   rfl
  ·rw [hgo,Ka (by omega)] at i2
   repeat first|apply ah;rfl|apply aL;rfl;omega;omega
   exact ih _ _ _ (i+1) ⟨rfl,rfl,by omega,i2⟩ (by omega) (KK (KN rfl))
 ·have hi:i=ae p:=by omega
  rw [hi,Nat.sub_self] at i2
  have i2:ae p=aY p:=i2
  repeat apply ah;rfl
  (apply bR Tryz.func92 Tryz.results92;rfl)
  rw [hll,i2]
  rfl
theorem ur(hp:p.length=1024):Fnc Tryz.prog 47 [.agg (pgS p)] H nx (fun q=>q=(.sc (.int .i64 (dx p:Int)),H,nx)):=by
 refine Fnc.bA (Free.sc _) ?_
 have hll:=eT p (ae p)
 have hs0:ae p<65536:=cV p 14
 have hb0:aF p<65536:=cV p 16
 refine KE Tryz.func47 rfl rfl ?_
 repeat first|apply bB hp;rfl;(focus((repeat(exact ac));done))|apply ah;rfl
 refine aE rfl rfl rfl (by kernel_rfl) (KD (p9 hp) ?_)
 rintro⟨_,H2,n2⟩ ⟨g1,g2,(⟨hr,rfl⟩|⟨hr,r,rfl,g3,g4,g5⟩)⟩
 ·dsimp only at g1 g2 ⊢
  have hv:dx p=0:=by unfold dx;rw [hr];rfl
  rw [hv]
  repeat apply ah;rfl
  (apply bR Tryz.func47 Tryz.results47;rfl)
  exact⟨rfl,by dsimp only;omega,fun m hm=>(g2 m (by omega)).trans (by(repeat(refine ab (by omega) ?_));rfl)⟩
 ·dsimp only at g1 g2 g3 g4 g5 ⊢
  have hok:=(aZ hp).1 hr
  have hh:=hok.head
  have he:=pb p
  have hv:dx p=aF p-18-4*ae p-(if aY p=ae p then 4 else 0):=by unfold dx;rw [hr];rfl
  have hb:H2.at' nx=some (pgO p):=(g2 _ (by omega)).trans (by repeat(exact ac))
  have ho: ∀ m,m<nx→H2.at' m=H.at' m:=fun m hm=>(g2 m (by omega)).trans (by(repeat(refine ab (by omega) ?_));rfl)
  repeat first|apply bB hp;rfl;assumption|apply ah;rfl|apply aL;rfl;omega;omega|apply bW;rfl;kernel_rfl;exact jY hp|apply bW;rfl;kernel_rfl;exact Dm g5
  refine cF rfl rfl rfl rfl (fun e1=>?_) (fun e1=>?_)
  ·rw [Kb (by omega)] at hv
   repeat first|apply ah;rfl|apply aL;rfl;omega;omega
   refine bu rfl rfl rfl rfl (fun e2=>?_) (fun e2=>?_)
   ·repeat apply ah;rfl
    (apply bR Tryz.func47 Tryz.results47;rfl)
    exact⟨by rw [show dx p=0 by omega];rfl,by dsimp only;omega,ho⟩
   ·repeat apply ah;rfl
    (apply bR Tryz.func47 Tryz.results47;rfl)
    exact⟨congrArg (fun z:Int=>SV.sc (.int .i64 z)) (by omega),by dsimp only;omega,ho⟩
  ·rw [Ka (by omega)] at hv
   repeat apply ah;rfl
   refine bu rfl rfl rfl rfl (fun e2=>absurd e2 (by omega)) (fun e2=>?_)
   repeat apply ah;rfl
   (apply bR Tryz.func47 Tryz.results47;rfl)
   exact⟨congrArg (fun z:Int=>SV.sc (.int .i64 z)) (by omega),by dsimp only;omega,ho⟩
def Dk(p:List UInt8)(n:Nat)(it:List UInt8):List UInt8:=cw (cw (cw (bg p (aF p-it.length) it) 16 (aF p-it.length)) (18+4*n) (aF p-it.length)) (18+4*n+2) it.length
theorem qN(h:a+it.length≤p.length)(hi:i<it.length):(bg p a (it.take i)).set (a+i) (it[i])=bg p a (it.take (i+1)):=by
 have h1:(it.take i).length=i:=by rw [Ke];omega
 have h2:(it.take (i+1)).length=i+1:=by rw [Ke];omega
 refine Kv fun j=>?_
 rw [List.getElem?_set,cR (by omega),cR (by omega),h1,h2,bS (by omega),List.getElem?_take,List.getElem?_take]
 by_cases h3:a+i=j
 ·subst h3
  rw [Kb rfl,Kb (by omega),Kb (by omega),show a+i-a=i by omega,Kb (by omega),JJ hi]
 ·rw [Ka h3]
  by_cases h4:a≤j∧j<a+i
  ·rw [Kb h4,Kb (by omega),Kb (by omega),Kb (by omega)]
  ·rw [Ka h4,Ka (by omega)]
theorem Dj(hp:p.length=1024)(hB:BsIs H s (byV it))(h1:it.length≤aF p)(h2:aF p≤1024)(h3:18+4*n+4≤1024):Fnc Tryz.prog 94 [.agg (pgS p),.sc (.int .i64 (n:Int)),s] H nx (fun q=>q=(.agg (pgS (Dk p n it)),H,nx)):=by
 refine Fnc.bA (Free.agg _) ?_
 have hbl:=bL it
 have hP:=bS (p:=p) (o:=aF p-it.length) (l:=it) (by omega)
 refine KE Tryz.func94 rfl rfl ?_
 refine aV fun hund=>?_
 have hB1: ∀ H1:au,(∀ m,m<nx→H1.at' m=H.at' m)→BsIs H1 s (byV it):=fun H1 h=>hB.frame fun b vo hb=>(h b (hund b vo hb)).trans hb
 repeat first|apply bB hp;rfl;(focus((repeat(first|exact ac|refine ab (by omega) ?_));done))|refine be rfl rfl cq ?_|apply ah;rfl|apply cE;rfl|apply aL;rfl;omega;omega|apply bW;rfl;kernel_rfl;exact jY hp|refine dh rfl rfl (F.un _ rfl) rfl (hB1 _ fun m hm=>by(repeat(refine ab (by omega) ?_));rfl) ?_;rw [hbl]
 rw [show((aF p:Nat):Int)-(it.length:Int)=((aF p-it.length:Nat):Int) by omega]
 refine bE (α:=Nat) (fun i=> [(1,.sc (.int .i64 (n:Int))),(2,s),(3,.ptr nx 0),(6,.ptr (nx+1) 0),(7,.sc (.int .i64 ((aF p-it.length:Nat):Int))),(8,.sc (.int .i64 (i:Int)))])
  (fun i H1 n1=>n1=nx+1+1∧i≤it.length∧H1.at' nx=some (pgO (bg p (aF p-it.length) (it.take i)))∧H1.at' (nx+1)=some (pgO zeroP)∧ ∀ m,m<nx→H1.at' m=H.at' m) (fun i=>it.length-i) 0
  ⟨rfl,J0 _,by rw [List.take_zero,show bg p (aF p-it.length) []=p by simp [bg]];(focus((repeat(first|exact ac|refine ab (by omega) ?_));done)),by repeat(exact ac),fun m hm=>by(repeat(refine ab (by omega) ?_));rfl⟩ (KK (KN rfl)) ?_
 rintro i H1 n1 ⟨rfl,i1,i2,i3,i4⟩ ih
 have hpi:(bg p (aF p-it.length) (it.take i)).length=1024:=(bS (by rw [Ke];omega)).trans hp
 repeat first|apply cE;rfl|(apply dh;rfl;rfl;exact(F.un _ rfl);rfl;exact(hB1 _ i4));rw [hbl]
 refine bu rfl rfl rfl rfl (fun h5=>?_) (fun h5=>?_)
 ·have hi:i<it.length:=by omega
  repeat first|apply ah;rfl|apply aL;rfl;omega;omega
  refine(yJ rfl rfl rfl rfl (F.un _ rfl) (F.sz _ rfl) (hB1 _ i4) (j:=i) (by rw [hbl];exact hi) ?_)
  intro b o vo hb hc
  rw [rM] at hc
  have hi2:i<(byV it).length:=by omega
  repeat refine cf (an (F.ag _ rfl) rfl hb hc) rfl rfl rfl ?_
  (apply gB (q:=aF p-it.length+i);rfl;rfl;rfl;rfl;exact(F.un _ rfl);exact(F.sz _ rfl);(focus(omega));(focus(omega)))
  rw [show 0+(aF p-it.length+i)*1=aF p-it.length+i by omega]
  refine dU (cs:=pgS (bg p (aF p-it.length) (it.take i))) rfl rfl rfl (F.sz _ rfl) (by assumption) rfl (JN (by rw [bh hpi];omega)) ?_
  rw [nv,qN (by omega) hi]
  repeat first|apply ah;rfl|apply aL;rfl;omega;omega
  exact ih _ _ _ (i+1) ⟨rfl,by omega,by repeat(exact ac),by repeat(first|assumption|refine ab (by omega) ?_),fun m hm=>by(repeat(refine ab (by omega) ?_));exact i4 m hm⟩ (by omega) (KK (KN rfl))
 ·have hi:i=it.length:=by omega
  rw [hi,List.take_length] at i2
  rw [hi,List.take_length] at hpi
  have hw1:=fun(H:au) nx=>gX (H:=H) (nx:=nx) (o:=16) (n:=aF p-it.length) hpi (by decide) (by omega)
  have hl1:(cw (bg p (aF p-it.length) it) 16 (aF p-it.length)).length=1024:=(bI (by omega)).trans hpi
  have hw2:=fun(H:au) nx=>gX (H:=H) (nx:=nx) (o:=18+4*n) (n:=aF p-it.length) hl1 (by omega) (by omega)
  have hl2:(cw (cw (bg p (aF p-it.length) it) 16 (aF p-it.length)) (18+4*n) (aF p-it.length)).length=1024:=(bI (by omega)).trans hl1
  have hw3:=fun(H:au) nx=>gX (H:=H) (nx:=nx) (o:=18+4*n+2) (n:=it.length) hl2 (by omega) (by omega)
  have hl3:(Dk p n it).length=1024:=(bI (by omega)).trans hl2
  have hl5:cw (cw (cw (bg p (aF p-it.length) it) 16 (aF p-it.length)) (18+4*n) (aF p-it.length)) (18+4*n+2) it.length=Dk p n it:=rfl
  rw [hl5] at hw3
  rw [show((18+4*n:Nat):Int)=18+4*(n:Int) by omega] at hw2
  rw [show((18+4*n+2:Nat):Int)=18+4*(n:Int)+2 by omega] at hw3
  generalize Dk p n it=pL at hl3 hw3 ⊢
  clear hl5
  repeat first|apply bB hpi;rfl;assumption|apply bJ hl3 aj;rfl;assumption|apply ah;rfl|apply cE;rfl|apply aL;rfl;omega;omega|apply bW;rfl;kernel_rfl;exact hw1 _ _|apply bW;rfl;kernel_rfl;exact hw2 _ _|(apply dh;rfl;rfl;exact(F.un _ rfl);rfl;exact(hB1 _ i4));rw [hbl]|apply bW;rfl;kernel_rfl;exact hw3 _ _
  ((apply bw Tryz.func94 (congrArg Array.toList Tryz.results94));(focus((apply KG rfl (KI (F.ag _ rfl) (by repeat(exact ac)) (bv hl3)));(repeat(exact KF)))))
  exact⟨rfl,by dsimp only;omega,fun m hm=>by(repeat(refine ab (by omega) ?_));exact i4 m hm⟩
theorem e9{l l':List UInt8}{o o':Nat}(h1:o+l.length≤p.length)(h2:o'+l'.length≤p.length)(h:o+l.length≤o'∨o'+l'.length≤o):bg (bg p o l) o' l'=bg (bg p o' l') o l:=by
 refine Kv fun i=>?_
 rw [cR (by rw [bS h1];exact h2),cR h1,cR (by rw [bS h2];exact h1),cR h2]
 by_cases a:o'≤i∧i<o'+l'.length
 ·rw [Kb a,Ka (by omega),Kb a]
 ·rw [Ka a,Ka a]
theorem B7(h:Okp p)(h2:it.length≤1000)(hroom:it.length≤fg p)(h1:1≤it.length):Dk (fy p) (aY p) it=oT p it:=by
 have hh:=h.head
 have ht:=h.top
 have he:=(gN p).2.2
 have hmb:aF (fy p)=aF p:=jW h.len (by omega)
 have hml:=oQ h.len
 have hl:=fun n=>bz n 2
 unfold fg at hroom
 have ha:18+4*aY p+4+it.length≤aF p:=by split at hroom <;> omega
 unfold Dk oT bP cw
 rw [hmb]
 generalize fy p=m at hml
 have l1:(bg m 16 (beB (aF p-it.length) 2)).length=1024:=(bS (by rw [hl];omega)).trans hml
 have l2:(bg m (18+4*aY p) (beB (aF p-it.length) 2)).length=1024:=(bS (by rw [hl];omega)).trans hml
 have l3:(bg (bg m 16 (beB (aF p-it.length) 2)) (18+4*aY p) (beB (aF p-it.length) 2)).length=1024:=(bS (by rw [hl];omega)).trans l1
 rw [e9 (p:=m) (o:=aF p-it.length) (o':=16) (by omega) (by rw [hl];omega) (by rw [hl];omega),
  e9 (o:=aF p-it.length) (o':=18+4*aY p) (by omega) (by rw [hl];omega) (by rw [hl];omega),
  e9 (o:=aF p-it.length) (o':=18+4*aY p+2) (by omega) (by rw [hl];omega) (by rw [hl];omega)]
 congr 1
 rw [e9 (p:=m) (o:=16) (o':=18+4*aY p) (by rw [hl];omega) (by rw [hl];omega) (by rw [hl];omega),
  e9 (o:=16) (o':=18+4*aY p+2) (by rw [hl];omega) (by rw [hl];omega) (by rw [hl];omega)]
theorem Ar(hp:p.length=1024)(hB:BsIs H s (byV it))(hr:bj p=true)(h2:it.length≤1000)(hroom:it.length≤fg p)(h1:1≤it.length):Fnc Tryz.prog 49 [.agg (pgS p),s] H nx (fun q=>q=(insS (oT p it,aY p,0),H,nx)):=by
 refine Fnc.bA (tp _) ?_
 have hok:=(aZ hp).1 hr
 have hh:=hok.head
 have ht:=hok.top
 have hbl:=bL it
 have hll:=eT p (ae p)
 have hs0:ae p<65536:=cV p 14
 have he:=(gN p).2.2
 have hls:=B7 hok h2 hroom h1
 have hml:=oQ hp
 have hmb:aF (fy p)=aF p:=jW hp (by omega)
 have hro:=hroom
 unfold fg at hro
 have ha:18+4*aY p+4+it.length≤aF p:=by split at hro <;> omega
 have hlay:=fun(H:au) nx (hB:BsIs H s (byV it))=>Dj (H:=H) (nx:=nx) (n:=aY p) hml hB (by omega) (by omega) (by omega)
 rw [hls] at hlay
 have hre:dx p=fg p:=by unfold dx;rw [Kb hr]
 have hlen:=(laid hok h2 hroom h1).len
 have hmo:fy p=if aY p=ae p then cw p 14 (ae p+1) else p:=by unfold fy;split;rename_i h;rw [h];rfl
 refine KE Tryz.func49 rfl rfl ?_
 refine aV fun hund=>?_
 repeat first|apply bB hp;rfl;(focus((repeat(first|exact ac|refine ab (by omega) ?_));done))|refine be rfl rfl cq ?_|apply ah;rfl
 refine aE rfl rfl rfl (by kernel_rfl) (KD (p9 hp) ?_)
 rintro⟨_,H2,n2⟩ ⟨g1,g2,(⟨hr2,rfl⟩|⟨_,r,rfl,g3,g4,g5⟩)⟩
 ·rw [hr] at hr2;cases hr2
 dsimp only at g1 g2 g3 g4 g5 ⊢
 have hb:H2.at' nx=some (pgO p):=(g2 _ (by omega)).trans (by repeat(first|exact ac|refine ab (by omega) ?_))
 have hz:H2.at' (nx+1)=some (pgO zeroP):=(g2 _ (by omega)).trans (by repeat(exact ac))
 have ho: ∀ m,m<nx→H2.at' m=H.at' m:=fun m hm=>(g2 m (by omega)).trans (by(repeat(refine ab (by omega) ?_));rfl)
 have hB2: ∀ H1:au,(∀ m,m<nx→H1.at' m=H.at' m)→BsIs H1 s (byV it):=fun H1 h=>hB.frame fun b vo hb=>(h b (hund b vo hb)).trans hb
 have hro5:=fun(H:au) nx=>ur (H:=H) (nx:=nx) hp
 rw [hre] at hro5
 clear g2
 generalize oT p it=pL at hlen hlay ⊢
 repeat first|apply bB hp;rfl;assumption|apply ah;rfl|apply cE;rfl|apply ll;rfl;omega|(apply dh;rfl;rfl;exact(F.un _ rfl);rfl;exact(hB2 _ ho));rw [hbl]|apply bW;rfl;kernel_rfl;exact hro5 _ _|apply bW;rfl;kernel_rfl;exact Dm g5
 refine cF rfl rfl rfl rfl (fun e1=>?_) (fun e1=>?_)
 ·rw [Kb (by omega)] at hmo
  have hw:=fun(H:au) nx=>gX (H:=H) (nx:=nx) (o:=14) (n:=ae p+1) hp (by decide) (by omega)
  rw [← hmo,show((ae p+1:Nat):Int)=((eN p (ae p)).length:Int)+1 by omega] at hw
  generalize fy p=pm at hml hw hlay
  repeat first|apply bB hp;rfl;assumption|apply bB hml;rfl;(focus((repeat(exact ac));done))|apply bJ hml hp;rfl;assumption|apply bJ hlen aj;rfl;(focus((repeat(first|assumption|refine ab (by omega) ?_));done))|apply ah;rfl|apply aL;rfl;omega;omega|apply bW;rfl;kernel_rfl;exact hw _ _|apply bW;rfl;kernel_rfl;exact hlay _ _ (hB2 _ fun m hm=>by(repeat(refine ab (by omega) ?_));exact ho m hm)
  ((apply bw Tryz.func49 (congrArg Array.toList Tryz.results49));(focus((apply KG rfl (KI (F.ag _ rfl) (by repeat(exact ac)) (bv hlen)));(repeat(first|exact KF|apply KH rfl)))))
  exact⟨rfl,by dsimp only;omega,fun m hm=>by(repeat(refine ab (by omega) ?_));exact ho m hm⟩
 ·rw [Ka (by omega)] at hmo
  rw [hmo] at hlay
  repeat first|apply bB hp;rfl;assumption|apply bJ hlen aj;rfl;assumption|apply ah;rfl|apply bW;rfl;kernel_rfl;exact hlay _ _ (hB2 _ fun m hm=>by exact ho m hm)
  ((apply bw Tryz.func49 (congrArg Array.toList Tryz.results49));(focus((apply KG rfl (KI (F.ag _ rfl) (by repeat(exact ac)) (bv hlen)));(repeat(first|exact KF|apply KH rfl)))))
  exact⟨rfl,by dsimp only;omega,fun m hm=>by(repeat(refine ab (by omega) ?_));exact ho m hm⟩
abbrev fndS(r:Nat×Nat×Nat):SV:= .tup [.agg [.sc (.int .i64 (r.1:Int)),.sc (.int .i64 (r.2.1:Int))],.sc (.int .i64 (r.2.2:Int))]
theorem rz(hp:p.length=1024)(hr:bj p=true):Fnc Tryz.prog 90 [.agg (pgS p),.sc (.int .i64 (n:Int))] H nx (fun q=>q=(fndS (cm p n),H,nx)):=by
 refine Fnc.bA (Free.two (Free.agg [.int .i64 ((cm p n).1:Int),.int .i64 ((cm p n).2.1:Int)]) (Free.sc _)) ?_
 have hll:=eT p (ae p)
 have hs0:ae p<65536:=cV p 14
 refine KE Tryz.func90 rfl rfl ?_
 repeat first|apply bB hp;rfl;(focus((repeat(first|exact ac|refine ab (by omega) ?_));done))|apply ah;rfl
 refine aE rfl rfl rfl (by kernel_rfl) (KD (p9 hp) ?_)
 rintro⟨_,H2,n2⟩ ⟨g1,g2,(⟨hr2,rfl⟩|⟨_,r,rfl,g3,g4,g5⟩)⟩
 ·rw [hr] at hr2;cases hr2
 dsimp only at g1 g2 g3 g4 g5 ⊢
 have hz:H2.at' (nx+1)=some (sbO 0 0):=(g2 _ (by omega)).trans (by repeat(exact ac))
 have ho: ∀ m,m<nx→H2.at' m=H.at' m:=fun m hm=>(g2 m (by omega)).trans (by(repeat(refine ab (by omega) ?_));rfl)
 clear g2
 repeat first|apply ah;rfl|apply ll;rfl;omega
 refine eK rfl rfl rfl rfl (fun h1=>?_) (fun h1=>?_)
 ·have hv:cm p n=(0,0,6):=by unfold cm;rw [Kb (by omega)]
  rw [hv]
  repeat first|apply ah;rfl|apply aG;rfl;assumption;rfl
  ((apply bw Tryz.func90 (congrArg Array.toList Tryz.results90));(focus(repeat(first|exact KF|apply KH rfl|apply KG rfl (KI (F.ag _ rfl) (by repeat(exact ac)) (ak _ 0 rfl rfl))))))
  exact⟨rfl,by dsimp only;omega,fun m hm=>by(repeat(refine ab (by omega) ?_));exact ho m hm⟩
 ·have hn:n<ae p:=by omega
  have hcS:=iG p hn
  have hcF:=jL p hn
  have hg:ar p n<65536:=cV p _
  repeat first|refine dH (q:=n) rfl rfl rfl rfl (F.un _ rfl) (F.sz _ rfl) (by assumption) (by omega) (by(omega)) (JZ _) ?_|refine cf (an (F.ag _ rfl) rfl g5 hcS) rfl rfl rfl ?_|apply ah;rfl
  refine cF rfl rfl rfl rfl (fun h4=>?_) (fun h4=>?_)
  ·have hv:cm p n=(0,0,6):=by unfold cm;rw [Ka (by omega),Kb (by omega)]
   rw [hv]
   repeat first|apply ah;rfl|apply aG;rfl;assumption;rfl
   ((apply bw Tryz.func90 (congrArg Array.toList Tryz.results90));(focus(repeat(first|exact KF|apply KH rfl|apply KG rfl (KI (F.ag _ rfl) (by repeat(exact ac)) (ak _ 0 rfl rfl))))))
   exact⟨rfl,by dsimp only;omega,fun m hm=>by(repeat(refine ab (by omega) ?_));exact ho m hm⟩
  ·have hv:cm p n=(ay p n,ar p n,0):=by unfold cm;rw [Ka (by omega),Ka (by omega)]
   rw [hv]
   have hcc:(slO (eN p (ae p))).cellsFrom (n*2) 2=some [.sc (.int .i64 (ay p n:Int)),.sc (.int .i64 (ar p n:Int))]:=by simp only [VO.cellsFrom,hcF,hcS]
   repeat first|refine dH (q:=n) rfl rfl rfl rfl (F.un _ rfl) (F.sz _ rfl) (by assumption) (by omega) (by(omega)) (JZ _) ?_|(refine dj rfl (.inr (fun _ h=>by cases h)) ((aU (F.ag _ rfl) rfl g5 hcc).does) ?_);rw [aK rfl]|apply ah;rfl|apply aG;rfl;assumption;rfl
   ((apply bw Tryz.func90 (congrArg Array.toList Tryz.results90));(focus(repeat(first|exact KF|apply KH rfl|apply KG rfl (KI (F.ag _ rfl) (by repeat(exact ac)) (ak _ 0 rfl rfl))))))
   exact⟨rfl,by dsimp only;omega,fun m hm=>by(repeat(refine ab (by omega) ?_));exact ho m hm⟩
theorem s9{size:Nat}(h1:1≤size)(h2:size≤8)(hn:n≤18446744073709551615):Fnc Tryz.prog 91 [.sc (.int .u64 (n:Int)),.sc (.int .i64 (size:Int))] H nx
 (fun q=>q=(.slu nx 0 (beB n size).length,H.set nx (dat false (beB n size).length 1 5 (byV (beB n size))),nx+1)):=by
 have:=Fnc.next (HS (H:=H) (nx:=nx) h1 h2 hn)
 rwa [bz]
theorem kM{T:Tr SV}{d:Option Tmp}{ty:TypeId}{pos:String}{af:Array Edge}{gd:Option (Nat×Bool)}{s x:Operand}{v:SV}{a b:List UInt8}(hx0:am T s=some (.slu r 0 a.length))(hx:am T x=some v)(hro:H.at' r=some (dat false a.length 1 5 (byV a)))(hb:BsIs H v (byV b))(h0:0<b.length)(hm:a.length+b.length≤1000000) :
 OpDoes Tryz.prog T H nx ⟨d,.call {callee:= .builtin .append,args:= #[s,x],argTypes:= #[35,35]},ty,pos,af,gd⟩ (.val (.slu nx 0 (a ++ b).length),(H.del r).set nx (dat false (a ++ b).length 1 5 (byV (a ++ b))),nx+1):=by
 have hr:=BsIs.rdv (P:=Tryz.prog) hb
 unfold RdV at hr
 have h:=Es (P:=Tryz.prog) (T:=T) (H:=H) (nx:=nx) (d:=d) (ty:=ty) (pos:=pos) (af:=af) (gd:=gd) (t:=35) (tx:=35) (el:=5) (sz:=1) (m:=(byV b).length) (b:=1) (r:=r) (n:=a.length) (s:=s) (x:=x) (v:=v) (ws:=(byV a).map .sc) (cs:=(byV b).map .sc) (F.un _ rfl) (.inl ⟨_,F.un _ rfl⟩) (F.sz _ rfl) (by decide) (by kernel_rfl) (by kernel_rfl) hx0 hx (hro.trans (congrArg some (ij _ _ _ _ _).symm)) (by simp) hr (gS hb.1) (by rw [bL];exact h0) (by rw [bL];omega) (by rw [bL];omega)
 rw [bL,←J4,←ku,show nJ false (a.length+b.length) 1 5 ((byV (a ++ b)).map .sc)=dat false (a.length+b.length) 1 5 (byV (a ++ b))from ij _ _ _ _ _,←J3] at h
 exact h
theorem w7{v:gj}(hv:VerIs H s v)(hm:gV v=true):Fnc Tryz.prog 46 [s] H nx (fun q=> ∃ r',q.1 = .slu r' 0 (aQ v).length∧q.2.1.at' r'=some (dat false (aQ v).length 1 5 (byV (aQ v)))∧nx≤r'∧r'<q.2.2∧nx≤q.2.2∧ ∀ m,m<nx→q.2.1.at' m=H.at' m):=by
 have hmd:=Km hm
 obtain⟨k,w,rfl,hk,hw⟩:=hv
 refine KE Tryz.func46 rfl rfl ?_
 refine aV fun hund=>?_
 have hK: ∀ H':au,(∀ m,m<nx→H'.at' m=H.at' m)→BsIs H' k (byV v.1):=fun H' h=>hk.frame fun b vo hb=>(h b (hund b vo hb)).trans hb
 have hW: ∀ H':au,(∀ m,m<nx→H'.at' m=H.at' m)→BsIs H' w (byV v.2.1):=fun H' h=>hw.frame fun b vo hb=>(h b (hund b vo hb)).trans hb
 have hl1:=bL v.1
 have hl2:=bL v.2.1
 have l8x:=bz v.2.2.1 8
 have l8y:=bz v.2.2.2 8
 have b0:(H.set nx (ez (dB k w v.2.2.1 v.2.2.2))).at' nx=some (ez (dB k w v.2.2.1 v.2.2.2)):=ai _ _ _
 have o0: ∀ m,m<nx→(H.set nx (ez (dB k w v.2.2.1 v.2.2.2))).at' m=H.at' m:=fun m hm=>aa _ _ (by omega)
 repeat apply ah;rfl
 generalize H.set nx (ez (dB k w v.2.2.1 v.2.2.2))=H0 at b0 o0 ⊢
 (apply bk;(focus(kernel_rfl));(focus(kernel_rfl)))
 repeat first|apply aW;rfl|apply dN;rfl;(focus((repeat(first|assumption|refine ab (by omega) ?_));done));rfl|apply b9;rfl;rfl;rfl;(focus(kernel_rfl));exact(s9 (n:=v.2.2.1) (size:=8) (by decide) (by decide) (by omega))|apply b9;rfl;rfl;rfl;(focus(kernel_rfl));exact(s9 (n:=v.2.2.2) (size:=8) (by decide) (by decide) (by omega))|refine ki rfl rfl (fun _ h=>by cases h) (kM (a:=beB v.2.2.1 8) (b:=beB v.2.2.2 8) rfl rfl (by repeat(first|exact ac|refine ab (by omega) ?_)) (jz (ro:=false) (n:=(beB v.2.2.2 8).length) (by repeat(exact ac)) rfl) (by omega) (by omega)) ?_
 refine aA ⟨by kernel_rfl,?_,?_⟩;(focus(repeat(first|exact KO|apply jE;rfl|apply gr;rfl;kernel_rfl|refine fO 0 rfl (by kernel_rfl) (by(repeat(refine⟨(by(exact an (F.ag _ rfl) rfl (by repeat(first|assumption|refine ab (by omega) ?_|refine cc (by omega) ?_)) (aD rfl))),?_⟩));exact KO) ?_)))
 refine cQ (R:=fun H1 n1=>n1=nx+1+1+1+1∧H1.at' nx=some (ez (dB k w v.2.2.1 v.2.2.2))∧H1.at' (nx+1+1+1)=some (dat false (beB v.2.2.1 8 ++ beB v.2.2.2 8).length 1 5 (byV (beB v.2.2.1 8 ++ beB v.2.2.2 8)))∧ ∀ m,m<nx→H1.at' m=H.at' m) ⟨rfl,by repeat(first|assumption|refine ab (by omega) ?_|refine cc (by omega) ?_),by repeat(exact ac),fun m hm=>by(repeat(first|refine ab (by omega) ?_|refine cc (by omega) ?_));exact o0 m hm⟩ ?_
 rintro H1 n1 ⟨rfl,b1,r1,o1⟩
 clear b0 o0
 have la:(beB v.2.2.1 8 ++ beB v.2.2.2 8).length=16:=by rw [J3,l8x,l8y]
 have lk2:=bz v.1.length 2
 have lab:(beB v.2.2.1 8 ++ beB v.2.2.2 8 ++ beB v.1.length 2).length=18:=by rw [J3,la,lk2]
 repeat apply ah;rfl
 (apply bk;(focus(kernel_rfl));(focus(kernel_rfl)))
 repeat first|apply aW;rfl|apply dN;rfl;(focus((repeat(first|assumption|refine ab (by omega) ?_|refine cc (by omega) ?_));done));rfl|apply bG;rfl;rfl;exact(fun _ h=>by cases h);exact(fG (F.un _ rfl) rfl (hK _ o1))|refine bp (bZ (F.un _ rfl) (F.un _ rfl) rfl (show _=((v.1.length:Nat):Int)from(Kz _ ⟨by omega,by omega⟩).trans (by omega))) rfl rfl rfl ?_|apply b9;rfl;rfl;rfl;(focus(kernel_rfl));exact(s9 (n:=v.1.length) (size:=2) (by decide) (by decide) (by omega))|refine ki rfl rfl (fun _ h=>by cases h) (kM (a:=beB v.2.2.1 8 ++ beB v.2.2.2 8) (b:=beB v.1.length 2) rfl rfl (by repeat(first|assumption|refine ab (by omega) ?_)) (jz (ro:=false) (n:=(beB v.1.length 2).length) (by repeat(exact ac)) rfl) (by omega) (by omega)) ?_|refine ki rfl rfl (fun _ h=>by cases h) (kM (a:=beB v.2.2.1 8 ++ beB v.2.2.2 8 ++ beB v.1.length 2) (b:=v.1) rfl rfl (by repeat(exact ac)) (hK _ (fun m hm=>by(repeat(first|refine ab (by omega) ?_|refine cc (by omega) ?_));exact o1 m hm)) (by omega) (by omega)) ?_
 refine aA ⟨by kernel_rfl,?_,?_⟩;(focus(repeat(first|exact KO|apply jE;rfl|apply gr;rfl;kernel_rfl|refine fO 0 rfl (by kernel_rfl) (by(repeat(refine⟨(by first|exact an (F.ag _ rfl) rfl (by repeat(first|assumption|refine ab (by omega) ?_|refine cc (by omega) ?_)) (aD rfl)|exact fG (F.un _ rfl) rfl (hK _ (fun m hm=>by(repeat(first|refine ab (by omega) ?_|refine cc (by omega) ?_));exact o1 m hm))|exact bZ (F.un _ rfl) (F.un _ rfl) rfl (show _=((v.1.length:Nat):Int)from(Kz _ ⟨by omega,by omega⟩).trans (by omega))),?_⟩));exact KO) ?_)))
 obtain⟨A,hA⟩: ∃ A,A=beB v.2.2.1 8 ++ beB v.2.2.2 8 ++ beB v.1.length 2 ++ v.1:=⟨_,rfl⟩
 refine cQ (R:=fun H2 n2=>n2=nx+1+1+1+1+1+1+1∧H2.at' nx=some (ez (dB k w v.2.2.1 v.2.2.2))∧H2.at' (nx+1+1+1+1+1+1)=some (dat false (beB v.2.2.1 8 ++ beB v.2.2.2 8 ++ beB v.1.length 2 ++ v.1).length 1 5 (byV (beB v.2.2.1 8 ++ beB v.2.2.2 8 ++ beB v.1.length 2 ++ v.1)))∧ ∀ m,m<nx→H2.at' m=H.at' m) ⟨rfl,by repeat(first|assumption|refine ab (by omega) ?_|refine cc (by omega) ?_),by repeat(exact ac),fun m hm=>by(repeat(first|refine ab (by omega) ?_|refine cc (by omega) ?_));exact o1 m hm⟩ ?_
 rintro H2 n2 ⟨rfl,b2,r2,o2⟩
 clear b1 o1 r1
 have lA:A.length=18+v.1.length:=by rw [hA,J3,lab]
 repeat apply ah;rfl
 rw [← hA] at r2 ⊢
 have lv2:=bz v.2.1.length 2
 have lAv:(A ++ beB v.2.1.length 2).length=20+v.1.length:=by rw [J3,lA,lv2];omega
 have hall:aQ v=A ++ beB v.2.1.length 2 ++ v.2.1:=by
  rw [hA]
  unfold aQ jr
  simp only [Kl]
 rcases Nat.eq_zero_or_pos v.2.1.length with h0|h0
 ·have hv0:v.2.1= []:=JV h0
  have hw0: ∀ H':au,(∀ m,m<nx→H'.at' m=H.at' m)→RdV Tryz.prog H' 1 w 0 []:=fun H' h=>by
   have:=BsIs.rdv (P:=Tryz.prog) (hW H' h)
   rw [hv0] at this
   exact this
  rw [hv0,Ko] at hall
  (apply bk;(focus(kernel_rfl));(focus(kernel_rfl)))
  repeat first|apply aW;rfl|apply dN;rfl;(focus((repeat(first|assumption|refine ab (by omega) ?_|refine cc (by omega) ?_));done));rfl|apply bG;rfl;rfl;exact(fun _ h=>by cases h);exact(fG (F.un _ rfl) rfl (hW _ o2))|refine bp (bZ (F.un _ rfl) (F.un _ rfl) rfl (show _=((v.2.1.length:Nat):Int)from(Kz _ ⟨by omega,by omega⟩).trans (by omega))) rfl rfl rfl ?_|apply b9;rfl;rfl;rfl;(focus(kernel_rfl));exact(s9 (n:=v.2.1.length) (size:=2) (by decide) (by decide) (by omega))|refine ki rfl rfl (fun _ h=>by cases h) (kM (a:=A) (b:=beB v.2.1.length 2) rfl rfl (by repeat(first|assumption|refine ab (by omega) ?_)) (jz (ro:=false) (n:=(beB v.2.1.length 2).length) (by repeat(exact ac)) rfl) (by omega) (by omega)) ?_|refine ki rfl rfl (fun _ h=>by cases h) (p7 (vs:= []) (F.un _ rfl) (.inl ⟨_,F.un _ rfl⟩) (F.sz _ rfl) (by decide) rfl rfl (ai _ _ _) (by omega) (hw0 _ (fun m hm=>by(repeat(first|refine ab (by omega) ?_|refine cc (by omega) ?_));exact o2 m hm)) (fun v hv=>by cases hv)) ?_
  refine aA ⟨by kernel_rfl,?_,?_⟩;(focus(repeat(first|exact KO|apply jE;rfl|apply gr;rfl;kernel_rfl|refine fO 0 rfl (by kernel_rfl) (by(repeat(refine⟨(by first|exact an (F.ag _ rfl) rfl (by repeat(first|assumption|refine ab (by omega) ?_|refine cc (by omega) ?_)) (aD rfl)|exact fG (F.un _ rfl) rfl (hW _ (fun m hm=>by(repeat(first|refine ab (by omega) ?_|refine cc (by omega) ?_));exact o2 m hm))|exact bZ (F.un _ rfl) (F.un _ rfl) rfl (show _=((v.2.1.length:Nat):Int)from(Kz _ ⟨by omega,by omega⟩).trans (by omega))),?_⟩));exact KO) ?_)))
  (apply bR Tryz.func46 Tryz.results46;rfl)
  rw [hall,hv0]
  exact⟨_,rfl,ai _ _ _,by omega,by dsimp only;omega,by dsimp only;omega,fun m hm=>by(repeat(first|refine ab (by omega) ?_|refine cc (by omega) ?_));exact o2 m hm⟩
 ·(apply bk;(focus(kernel_rfl));(focus(kernel_rfl)))
  repeat first|apply aW;rfl|apply dN;rfl;(focus((repeat(first|assumption|refine ab (by omega) ?_|refine cc (by omega) ?_));done));rfl|apply bG;rfl;rfl;exact(fun _ h=>by cases h);exact(fG (F.un _ rfl) rfl (hW _ o2))|refine bp (bZ (F.un _ rfl) (F.un _ rfl) rfl (show _=((v.2.1.length:Nat):Int)from(Kz _ ⟨by omega,by omega⟩).trans (by omega))) rfl rfl rfl ?_|apply b9;rfl;rfl;rfl;(focus(kernel_rfl));exact(s9 (n:=v.2.1.length) (size:=2) (by decide) (by decide) (by omega))|refine ki rfl rfl (fun _ h=>by cases h) (kM (a:=A) (b:=beB v.2.1.length 2) rfl rfl (by repeat(first|assumption|refine ab (by omega) ?_)) (jz (ro:=false) (n:=(beB v.2.1.length 2).length) (by repeat(exact ac)) rfl) (by omega) (by omega)) ?_|refine ki rfl rfl (fun _ h=>by cases h) (kM (a:=A ++ beB v.2.1.length 2) (b:=v.2.1) rfl rfl (by repeat(exact ac)) (hW _ (fun m hm=>by(repeat(first|refine ab (by omega) ?_|refine cc (by omega) ?_));exact o2 m hm)) (by omega) (by omega)) ?_
  refine aA ⟨by kernel_rfl,?_,?_⟩;(focus(repeat(first|exact KO|apply jE;rfl|apply gr;rfl;kernel_rfl|refine fO 0 rfl (by kernel_rfl) (by(repeat(refine⟨(by first|exact an (F.ag _ rfl) rfl (by repeat(first|assumption|refine ab (by omega) ?_|refine cc (by omega) ?_)) (aD rfl)|exact fG (F.un _ rfl) rfl (hW _ (fun m hm=>by(repeat(first|refine ab (by omega) ?_|refine cc (by omega) ?_));exact o2 m hm))|exact bZ (F.un _ rfl) (F.un _ rfl) rfl (show _=((v.2.1.length:Nat):Int)from(Kz _ ⟨by omega,by omega⟩).trans (by omega))),?_⟩));exact KO) ?_)))
  (apply bR Tryz.func46 Tryz.results46;rfl)
  rw [hall]
  exact⟨_,rfl,ai _ _ _,by omega,by dsimp only;omega,by dsimp only;omega,fun m hm=>by(repeat(first|refine ab (by omega) ?_|refine cc (by omega) ?_));exact o2 m hm⟩
theorem BZ{T:Tr SV}{d:Option Tmp}{ty:TypeId}{pos:String}{af:Array Edge}{gd:Option (Nat×Bool)}{s x:Operand}{v:SV}{b:List UInt8}(hx0:am T s=some (.sc (.slice none 0 0)))(hx:am T x=some v)(hb:BsIs H v (byV b))(h0:0<b.length)(hm:b.length≤1000000) :
 OpDoes Tryz.prog T H nx ⟨d,.call {callee:= .builtin .append,args:= #[s,x],argTypes:= #[35,35]},ty,pos,af,gd⟩ (.val (.slu nx 0 b.length),H.set nx (u8R false (byV b)),nx+1):=by
 have hr:=BsIs.rdv (P:=Tryz.prog) hb
 unfold RdV at hr
 have h:=mS (P:=Tryz.prog) (T:=T) (H:=H) (nx:=nx) (d:=d) (ty:=ty) (pos:=pos) (af:=af) (gd:=gd) (t:=35) (tx:=35) (el:=5) (sz:=1) (m:=(byV b).length) (b:=1) (s:=s) (x:=x) (v:=v) (cs:=(byV b).map .sc) (F.un _ rfl) (.inl ⟨_,F.un _ rfl⟩) (F.sz _ rfl) (by decide) (by kernel_rfl) (by kernel_rfl) hx0 hx hr (gS hb.1) (by rw [bL];exact h0) (by rw [bL];omega) (by rw [bL];omega)
 rw [show nJ false (byV b).length 1 5 ((byV b).map .sc)=dat false (byV b).length 1 5 (byV b)from ij _ _ _ _ _] at h
 rw [bL] at h
 rw [← bL b] at h ⊢
 exact h
theorem B9(hp:p.length=1024)(hr:bj p=true)(hn:n<ae p)(hs:ar p n≠0):Fnc Tryz.prog 45 [.agg (pgS p),.sc (.int .i64 (n:Int))] H nx (fun q=> ∃ r,q.1 = .tup [.slu r 0 (aS p n).length,.sc (.int .i64 0)]∧q.2.1.at' r=some (u8R false (byV (aS p n)))∧nx≤r∧r<q.2.2∧ ∀ m,m<nx→q.2.1.at' m=H.at' m):=by
 have hb:=db hr hn hs
 have hil:=dL hp hb.2.2.2
 have hfd:cm p n=(ay p n,ar p n,0):=by unfold cm;rw [Ka (by omega),Ka hs]
 have hfs: ∀ (H:au) nx,Fnc Tryz.prog 90 [.agg (pgS p),.sc (.int .i64 (n:Int))] H nx (fun q=>q=(.tup [.agg [.sc (.int .i64 (ay p n:Int)),.sc (.int .i64 (ar p n:Int))],.sc (.int .i64 0)],H,nx)):=fun H nx=>by
  have:=rz (H:=H) (nx:=nx) (n:=n) hp hr
  rw [hfd] at this
  exact this
 refine KE Tryz.func45 rfl rfl ?_
 repeat first|apply bB hp;rfl;(focus((repeat(exact ac));done))|apply ah;rfl|apply aG;rfl;(focus((repeat(exact ac));done));rfl|apply aL;rfl;omega;omega|apply bW;rfl;kernel_rfl;exact hfs _ _|apply dA;rfl;rfl|apply li (lw:=ay p n) (hg:=ay p n+ar p n);rfl;rfl;rfl;exact(F.un _ rfl);exact(F.sz _ rfl);rfl;rfl;(focus(omega));(focus(omega));(focus(omega));exact(show ay p n+ar p n-ay p n=ar p n by omega);rfl;exact(Kc _)
 refine dj rfl (.inr (fun _ h=>by cases h)) (BZ (b:=aS p n) rfl rfl (nj (b:=nx) (p:=p) (o:=ay p n) (m:=ar p n) (by repeat(first|exact ac|refine ab (by omega) ?_)) (by omega)) (by omega) (by omega)) ?_
 rw [aK rfl]
 repeat apply ah;rfl
 (apply bR Tryz.func45 Tryz.results45;rfl)
 exact⟨_,rfl,ai _ _ _,by omega,Nat.lt_succ_self _,fun m hm=>by(repeat(refine ab (by omega) ?_));rfl⟩
theorem xY(hp:p.length=1024)(hr:bj p=true)(hn:ae p≤n∨ar p n=0):Fnc Tryz.prog 45 [.agg (pgS p),.sc (.int .i64 (n:Int))] H nx (fun q=>q.1 = .tup [dK,.sc (.int .i64 6)]∧nx≤q.2.2∧ ∀ m,m<nx→q.2.1.at' m=H.at' m):=by
 have hfd:cm p n=(0,0,6):=by unfold cm;split;rfl;rw [Kb (by omega)]
 have hfs: ∀ (H:au) nx,Fnc Tryz.prog 90 [.agg (pgS p),.sc (.int .i64 (n:Int))] H nx (fun q=>q=(.tup [.agg [.sc (.int .i64 0),.sc (.int .i64 0)],.sc (.int .i64 6)],H,nx)):=fun H nx=>by
  have:=rz (H:=H) (nx:=nx) (n:=n) hp hr
  rw [hfd] at this
  exact this
 refine KE Tryz.func45 rfl rfl ?_
 repeat first|apply bB hp;rfl;(focus((repeat(exact ac));done))|apply ah;rfl|apply aG;rfl;(focus((repeat(exact ac));done));rfl|apply bW;rfl;kernel_rfl;exact hfs _ _|apply iA;rfl;decide
 (apply bR Tryz.func45 Tryz.results45;rfl)
 exact⟨rfl,by dsimp only;omega,fun m hm=>by(repeat(refine ab (by omega) ?_));rfl⟩
theorem D9(hp:p.length=1024)(hr:bj p=true)(hn:n<ae p)(hs:ar p n≠0)(hrow:H.at' r=some (u8R false (byV it)))(hit:it.length=ar p n):Fnc Tryz.prog 61 [.agg (pgS p),.sc (.int .i64 (n:Int)),.slu r 0 it.length] H nx (fun q=>q=(pgE (bg p (ay p n) it,0),H,nx)):=by
 refine Fnc.bA (hY _) ?_
 have hb:=db hr hn hs
 have hbl:=bL it
 have hfd:cm p n=(ay p n,ar p n,0):=by unfold cm;rw [Ka (by omega),Ka hs]
 have hfs: ∀ (H:au) nx,Fnc Tryz.prog 90 [.agg (pgS p),.sc (.int .i64 (n:Int))] H nx (fun q=>q=(.tup [.agg [.sc (.int .i64 (ay p n:Int)),.sc (.int .i64 (ar p n:Int))],.sc (.int .i64 0)],H,nx)):=fun H nx=>by
  have:=rz (H:=H) (nx:=nx) (n:=n) hp hr
  rw [hfd] at this
  exact this
 refine KE Tryz.func61 rfl rfl ?_
 refine aV fun hund=>?_
 have lr:=hund _ _ hrow
 repeat first|apply bB hp;rfl;(focus((repeat(first|exact ac|refine ab (by omega) ?_));done))|refine be rfl rfl cq ?_|apply ah;rfl|apply aG;rfl;(focus((repeat(exact ac));done));rfl|apply bW;rfl;kernel_rfl;exact hfs _ _|apply ll;rfl;omega|apply dA;rfl;omega|apply iA;rfl;omega
 refine bE (α:=Nat) (fun i=> [(2,.slu r 0 it.length),(3,.ptr nx 0),(6,.ptr (nx+1) 0),(8,.ptr (nx+1+1) 0),(10,.sc (.int .i64 (i:Int)))])
  (fun i H1 n1=>n1=nx+1+1+1∧i≤it.length∧H1.at' nx=some (pgO (bg p (ay p n) (it.take i)))∧H1.at' (nx+1)=some (pgO zeroP)∧H1.at' (nx+1+1)=some (sbO (ay p n) (ar p n))∧ ∀ m,m<nx→H1.at' m=H.at' m) (fun i=>it.length-i) 0
  ⟨rfl,J0 _,by rw [show it.take 0= [] from rfl,show bg p (ay p n) []=p by simp [bg]];(focus((repeat(first|exact ac|refine ab (by omega) ?_));done)),by repeat(first|exact ac|refine ab (by omega) ?_),by repeat(exact ac),fun m hm=>by(repeat(refine ab (by omega) ?_));rfl⟩ (KK (KN rfl)) ?_
 rintro i H1 n1 ⟨rfl,i1,i2,i3,i5,i4⟩ ih
 have hpi:(bg p (ay p n) (it.take i)).length=1024:=(bS (by rw [Ke];omega)).trans hp
 have hrow1:=(i4 r lr).trans hrow
 repeat apply ah;rfl
 refine bu rfl rfl rfl rfl (fun h5=>?_) (fun h5=>?_)
 ·have hi:i<it.length:=by omega
  have hcl:(u8R false (byV it)).cell (i*1)=some (.sc (.int .u8 ((it[i]).toNat:Int))):=by
   rw [Nat.mul_one]
   refine fR (by omega) ?_
   rw [JJ (by omega),rM]
  repeat apply ah;rfl
  (apply bk;(focus(kernel_rfl));(focus(kernel_rfl)))
  repeat first|refine bp (an (F.ag _ rfl) rfl hrow1 hcl) rfl rfl rfl ?_|refine bp (an (F.ag _ rfl) rfl i5 (aD rfl)) rfl rfl rfl ?_|refine aI (q:=i) rfl rfl rfl rfl (F.un _ rfl) (F.sz _ rfl) hrow1 rfl hi (by omega) ?_|apply gg (q:=ay p n+i);rfl;rfl;rfl;rfl;exact(F.un _ rfl);exact(F.sz _ rfl);(focus(omega));(focus(omega))|refine dM (cs:=pgS (bg p (ay p n) (it.take i))) rfl rfl rfl (F.sz _ rfl) i2 rfl (JN (by rw [bh hpi];omega)) ?_|apply aW;rfl|refine bp (aw rfl rfl (.inl ⟨rfl,(JH _ ⟨(by focus(omega)),(by focus(omega))⟩).symm⟩)) rfl rfl rfl ?_
  refine aA ⟨by kernel_rfl,?_,?_⟩;(focus(repeat(first|exact KO|apply jE;rfl|apply gr;rfl;kernel_rfl|refine⟨.inr ⟨0,by kernel_rfl,AllH.all (fun _=>(by(exact aw rfl rfl (.inl ⟨rfl,(JH _ ⟨by omega,by omega⟩).symm⟩)))) _⟩,?_⟩|refine fO 0 rfl (by kernel_rfl) (by(repeat(refine⟨(by first|exact an (F.ag _ rfl) rfl (by repeat(first|assumption|refine ab (by omega) ?_)) (aD rfl)|exact fk (q:=ay p n+i) rfl rfl (F.un _ rfl) (F.sz _ rfl) (by omega) (by omega)),?_⟩));exact KO) ?_|refine fO 1 rfl (by kernel_rfl) (by(repeat(refine⟨(by first|exact an (F.ag _ rfl) rfl hrow1 hcl|exact aO (F.un _ rfl) (F.sz _ rfl) rfl rfl hrow1 rfl hi (by omega)),?_⟩));exact KO) ?_)))
  dsimp only
  rw [show 0+(ay p n+i)*1=ay p n+i by omega,nv,qN (by omega) hi]
  repeat first|apply ah;rfl|apply aL;rfl;omega;omega
  exact ih _ _ _ (i+1) ⟨rfl,by omega,by repeat(exact ac),by repeat(first|assumption|refine ab (by omega) ?_),by(repeat(refine ab (by omega) ?_));exact i5,fun m hm=>by(repeat(refine ab (by omega) ?_));exact i4 m hm⟩ (by omega) (KK (KN rfl))
 ·have hi:i=it.length:=by omega
  rw [hi,List.take_length] at i2
  rw [hi,List.take_length] at hpi
  generalize bg p (ay p n) it=pL at hpi i2 ⊢
  repeat first|apply bB hpi;rfl;assumption|apply bJ hpi aj;rfl;assumption|apply ah;rfl
  ((apply bw Tryz.func61 (congrArg Array.toList Tryz.results61));(focus((apply KG rfl (KI (F.ag _ rfl) (by repeat(exact ac)) (bv hpi)));(repeat(first|exact KF|apply KH rfl)))))
  exact⟨rfl,by dsimp only;omega,fun m hm=>by(repeat(refine ab (by omega) ?_));exact i4 m hm⟩
theorem Cq(hp:p.length=1024)(hr:bj p=true)(hn:n<ae p)(hs:ar p n≠0):Fnc Tryz.prog 62 [.agg (pgS p),.sc (.int .i64 (n:Int))] H nx (fun q=>q=(pgE (pj (bP p n 0 0),0),H,nx)):=by
 refine Fnc.bA (hY _) ?_
 have hok:=(aZ hp).1 hr
 have hh:=hok.head
 have ht:=hok.top
 have hfd:cm p n=(ay p n,ar p n,0):=by unfold cm;rw [Ka (by omega),Ka hs]
 have hfs: ∀ (H:au) nx,Fnc Tryz.prog 90 [.agg (pgS p),.sc (.int .i64 (n:Int))] H nx (fun q=>q=(.tup [.agg [.sc (.int .i64 (ay p n:Int)),.sc (.int .i64 (ar p n:Int))],.sc (.int .i64 0)],H,nx)):=fun H nx=>by
  have:=rz (H:=H) (nx:=nx) (n:=n) hp hr
  rw [hfd] at this
  exact this
 have hl1:(cw p (18+4*n) 0).length=1024:=(bI (by omega)).trans hp
 have hw1:=fun(H:au) nx=>gX (H:=H) (nx:=nx) (o:=18+4*n) (n:=0) hp (by omega) (by decide)
 have hw2:=fun(H:au) nx=>gX (H:=H) (nx:=nx) (o:=18+4*n+2) (n:=0) hl1 (by omega) (by decide)
 rw [show((18+4*n:Nat):Int)=18+4*(n:Int) by omega] at hw1
 rw [show((18+4*n+2:Nat):Int)=18+4*(n:Int)+2 by omega,show cw (cw p (18+4*n) 0) (18+4*n+2) 0=bP p n 0 0 from rfl] at hw2
 have hxl:(bP p n 0 0).length=1024:=(fH (by omega)).trans hp
 have hxs:ae (bP p n 0 0)=ae p:=de (by omega) (by omega)
 have hx0: ∀ j,j<ae p→ar (bP p n 0 0) j=0→ay (bP p n 0 0) j=0:=fun j hj h=>by
  by_cases hjn:j=n
  ·subst hjn
   exact kL (by omega) (by decide)
  ·rw [show ay (bP p n 0 0) j=ay p j from de (by omega) (by omega)]
   rw [show ar (bP p n 0 0) j=ar p j from de (by omega) (by omega)] at h
   have:=hok.slot j hj
   omega
 generalize bP p n 0 0=x at hw2 hxl hxs hx0 ⊢
 refine KE Tryz.func62 rfl rfl ?_
 have hsl: ∀ {H:au} {nx:Nat},Fnc Tryz.prog 76 [.agg (pgS x),.sc (.int .i64 14)] H nx (fun q=>q=(.sc (.int .i64 (ae x:Int)),H,nx)):=fun {H nx}=>oO (o:=14) hxl (by decide)
 repeat first|apply bB hp;rfl;(focus((repeat(first|exact ac|refine ab (by omega) ?_));done))|apply bB hxl;rfl;(focus((repeat(exact ac));done))|apply bJ hxl hp;rfl;(focus((repeat(first|exact ac|refine ab (by omega) ?_));done))|refine be rfl rfl cq ?_|apply ah;rfl|apply aG;rfl;(focus((repeat(exact ac));done));rfl|apply aL;rfl;omega;omega|apply bW;rfl;kernel_rfl;exact hfs _ _|apply bW;rfl;kernel_rfl;exact hw1 _ _|apply bW;rfl;kernel_rfl;exact hw2 _ _|apply bW;rfl;kernel_rfl;exact hsl|apply dA;rfl;omega
 refine bE (α:=Nat) (fun m=> [(2,.ptr nx 0),(4,.ptr (nx+1) 0),(8,.sc (.int .i64 (m:Int)))])
  (fun m H1 n1=>n1=nx+1+1+1∧m≤ae x∧dq x m=dq x (ae x)∧H1.at' nx=some (pgO x)∧H1.at' (nx+1)=some (pgO zeroP)∧ ∀ m,m<nx→H1.at' m=H.at' m) (fun m=>m) (ae x)
  ⟨rfl,JZ _,rfl,by repeat(exact ac),by repeat(first|exact ac|refine ab (by omega) ?_),fun m hm=>by(repeat(refine ab (by omega) ?_));rfl⟩ (KK (KN rfl)) ?_
 rintro m H1 n1 ⟨rfl,i1,i2,i3,i4,i5⟩ ih
 have hs0:ae p<65536:=cV p 14
 cases m with
 | zero=>
   have hm:0=dq x (ae x):=by rw [← i2];rfl
   repeat first|apply ah;rfl|apply ll;rfl;omega
   (have hv:pj x=if 0=0 then cw (cw x 14 (0)) 16 1024 else cw x 14 (0):=(by unfold pj;rw [← hm]);have hw3:=fun(H:au) nx=>gX (H:=H) (nx:=nx) (o:=14) (n:=0) hxl (by decide) (by omega);have hl3:(cw x 14 (0)).length=1024:=(bI (by omega)).trans hxl;have hw4:=fun(H:au) nx=>gX (H:=H) (nx:=nx) (o:=16) (n:=1024) hl3 (by decide) (by decide);have hl4:(cw (cw x 14 (0)) 16 1024).length=1024:=(bI (by omega)).trans hl3;rw [hv];generalize cw (cw x 14 (0)) 16 1024=x4 at hw4 hl4 ⊢;generalize cw x 14 (0)=x3 at hw3 hw4 hl3 ⊢;(repeat(first|apply bB hxl;rfl;assumption|apply bJ hl3 hxl;rfl;assumption|apply ah;rfl|apply bW;rfl;kernel_rfl;exact hw3 _ _));refine cF rfl rfl rfl rfl (fun e1=>?_) (fun e1=>?_))
   ·((rw [Kb (by omega)]);(repeat(first|apply bB hl4;rfl;(focus((repeat(exact ac));done))|apply bB hl3;rfl;(focus((repeat(exact ac));done))|apply bJ hl4 hl3;rfl;(focus((repeat(first|exact ac|refine ab (by omega) ?_));done))|apply bJ hl4 aj;rfl;(focus((repeat(first|assumption|refine ab (by omega) ?_));done))|apply ah;rfl|apply bW;rfl;kernel_rfl;exact hw4 _ _));((apply bw Tryz.func62 (congrArg Array.toList Tryz.results62));(focus((apply KG rfl (KI (F.ag _ rfl) (by repeat(exact ac)) (bv hl4)));(repeat(first|exact KF|apply KH rfl)))));exact⟨rfl,(by dsimp only;omega),fun m hm=>by(repeat(refine ab (by omega) ?_));exact i5 m hm⟩)
   ·((rw [Ka (by omega)]);(repeat(first|apply bB hl3;rfl;(focus((repeat(exact ac));done))|apply bJ hl3 aj;rfl;(focus((repeat(first|assumption|refine ab (by omega) ?_));done))|apply ah;rfl));((apply bw Tryz.func62 (congrArg Array.toList Tryz.results62));(focus((apply KG rfl (KI (F.ag _ rfl) (by repeat(exact ac)) (bv hl3)));(repeat(first|exact KF|apply KH rfl)))));exact⟨rfl,(by dsimp only;omega),fun m hm=>by(repeat(refine ab (by omega) ?_));exact i5 m hm⟩)
 | succ k=>
   have hk:k<ae p:=by omega
   have hq1: ∀ {H:au} {nx:Nat},Fnc Tryz.prog 76 [.agg (pgS x),.sc (.int .i64 (18+4*((k+1:Nat):Int)-4))] H nx (fun q=>q=(.sc (.int .i64 (ay x k:Int)),H,nx)):=fun {H nx}=>by
    have:=oO (H:=H) (nx:=nx) (o:=18+4*k) hxl (by omega)
    rw [show((18+4*k:Nat):Int)=18+4*((k+1:Nat):Int)-4 by omega] at this
    exact this
   have hq2: ∀ {H:au} {nx:Nat},Fnc Tryz.prog 76 [.agg (pgS x),.sc (.int .i64 (18+4*((k+1:Nat):Int)-2))] H nx (fun q=>q=(.sc (.int .i64 (ar x k:Int)),H,nx)):=fun {H nx}=>by
    have:=oO (H:=H) (nx:=nx) (o:=18+4*k+2) hxl (by omega)
    rw [show((18+4*k+2:Nat):Int)=18+4*((k+1:Nat):Int)-2 by omega] at this
    exact this
   by_cases hz:ar x k=0
   ·have hf0:=hx0 k hk hz
    have htr:dq x (k+1)=dq x k:=by show(if _ then _ else _)=_;rw [Kb hz]
    repeat first|apply bB hxl;rfl;assumption|apply ah;rfl|apply aL;rfl;omega;omega|apply bW;rfl;kernel_rfl;exact hq1|apply bW;rfl;kernel_rfl;exact hq2|apply pG;rfl;omega|apply dA;rfl;omega
    rw [show((k+1:Nat):Int)-1=((k:Nat):Int) by omega]
    exact ih _ _ _ k ⟨rfl,by omega,by rw [← htr];exact i2,i3,i4,i5⟩ (by omega) (KK (KN rfl))
   ·have htr:dq x (k+1)=k+1:=by show(if _ then _ else _)=_;rw [Ka hz]
    have hm:k+1=dq x (ae x):=by rw [← i2,htr]
    by_cases hf:ay x k=0
    ·repeat first|apply bB hxl;rfl;assumption|apply ah;rfl|apply aL;rfl;omega;omega|apply bW;rfl;kernel_rfl;exact hq1|apply bW;rfl;kernel_rfl;exact hq2|apply pG;rfl;omega|apply dA;rfl;omega|apply iA;rfl;omega
     (have hv:pj x=if k+1=0 then cw (cw x 14 (k+1)) 16 1024 else cw x 14 (k+1):=(by unfold pj;rw [← hm]);have hw3:=fun(H:au) nx=>gX (H:=H) (nx:=nx) (o:=14) (n:=k+1) hxl (by decide) (by omega);have hl3:(cw x 14 (k+1)).length=1024:=(bI (by omega)).trans hxl;have hw4:=fun(H:au) nx=>gX (H:=H) (nx:=nx) (o:=16) (n:=1024) hl3 (by decide) (by decide);have hl4:(cw (cw x 14 (k+1)) 16 1024).length=1024:=(bI (by omega)).trans hl3;rw [hv];generalize cw (cw x 14 (k+1)) 16 1024=x4 at hw4 hl4 ⊢;generalize cw x 14 (k+1)=x3 at hw3 hw4 hl3 ⊢;(repeat(first|apply bJ hl3 hxl;rfl;assumption|apply ah;rfl|apply bW;rfl;kernel_rfl;exact hw3 _ _));refine cF rfl rfl rfl rfl (fun e1=>?_) (fun e1=>?_))
     ·((rw [Kb (by omega)]);(repeat(first|apply bB hl4;rfl;(focus((repeat(first|exact ac|refine ab (by omega) ?_));done))|apply bB hl3;rfl;(focus((repeat(exact ac));done))|apply bJ hl4 hl3;rfl;(focus((repeat(first|exact ac|refine ab (by omega) ?_));done))|apply bJ hl4 aj;rfl;(focus((repeat(first|assumption|refine ab (by omega) ?_));done))|apply ah;rfl|apply bW;rfl;kernel_rfl;exact hw4 _ _));((apply bw Tryz.func62 (congrArg Array.toList Tryz.results62));(focus((apply KG rfl (KI (F.ag _ rfl) (by repeat(exact ac)) (bv hl4)));(repeat(first|exact KF|apply KH rfl)))));exact⟨rfl,(by dsimp only;omega),fun m hm=>by(repeat(refine ab (by omega) ?_));exact i5 m hm⟩)
     ·((rw [Ka (by omega)]);(repeat(first|apply bB hl3;rfl;(focus((repeat(exact ac));done))|apply bJ hl3 aj;rfl;(focus((repeat(first|assumption|refine ab (by omega) ?_));done))|apply ah;rfl));((apply bw Tryz.func62 (congrArg Array.toList Tryz.results62));(focus((apply KG rfl (KI (F.ag _ rfl) (by repeat(exact ac)) (bv hl3)));(repeat(first|exact KF|apply KH rfl)))));exact⟨rfl,(by dsimp only;omega),fun m hm=>by(repeat(refine ab (by omega) ?_));exact i5 m hm⟩)
    ·repeat first|apply bB hxl;rfl;assumption|apply ah;rfl|apply aL;rfl;omega;omega|apply bW;rfl;kernel_rfl;exact hq1|apply pG;rfl;omega|apply iA;rfl;omega
     (have hv:pj x=if k+1=0 then cw (cw x 14 (k+1)) 16 1024 else cw x 14 (k+1):=(by unfold pj;rw [← hm]);have hw3:=fun(H:au) nx=>gX (H:=H) (nx:=nx) (o:=14) (n:=k+1) hxl (by decide) (by omega);have hl3:(cw x 14 (k+1)).length=1024:=(bI (by omega)).trans hxl;have hw4:=fun(H:au) nx=>gX (H:=H) (nx:=nx) (o:=16) (n:=1024) hl3 (by decide) (by decide);have hl4:(cw (cw x 14 (k+1)) 16 1024).length=1024:=(bI (by omega)).trans hl3;rw [hv];generalize cw (cw x 14 (k+1)) 16 1024=x4 at hw4 hl4 ⊢;generalize cw x 14 (k+1)=x3 at hw3 hw4 hl3 ⊢;(repeat(first|apply bJ hl3 hxl;rfl;assumption|apply ah;rfl|apply bW;rfl;kernel_rfl;exact hw3 _ _));refine cF rfl rfl rfl rfl (fun e1=>?_) (fun e1=>?_))
     ·((rw [Kb (by omega)]);(repeat(first|apply bB hl4;rfl;(focus((repeat(first|exact ac|refine ab (by omega) ?_));done))|apply bB hl3;rfl;(focus((repeat(exact ac));done))|apply bJ hl4 hl3;rfl;(focus((repeat(first|exact ac|refine ab (by omega) ?_));done))|apply bJ hl4 aj;rfl;(focus((repeat(first|assumption|refine ab (by omega) ?_));done))|apply ah;rfl|apply bW;rfl;kernel_rfl;exact hw4 _ _));((apply bw Tryz.func62 (congrArg Array.toList Tryz.results62));(focus((apply KG rfl (KI (F.ag _ rfl) (by repeat(exact ac)) (bv hl4)));(repeat(first|exact KF|apply KH rfl)))));exact⟨rfl,(by dsimp only;omega),fun m hm=>by(repeat(refine ab (by omega) ?_));exact i5 m hm⟩)
     ·((rw [Ka (by omega)]);(repeat(first|apply bB hl3;rfl;(focus((repeat(exact ac));done))|apply bJ hl3 aj;rfl;(focus((repeat(first|assumption|refine ab (by omega) ?_));done))|apply ah;rfl));((apply bw Tryz.func62 (congrArg Array.toList Tryz.results62));(focus((apply KG rfl (KI (F.ag _ rfl) (by repeat(exact ac)) (bv hl3)));(repeat(first|exact KF|apply KH rfl)))));exact⟨rfl,(by dsimp only;omega),fun m hm=>by(repeat(refine ab (by omega) ?_));exact i5 m hm⟩)
theorem xG{o b:Nat}(h:o+2≤p.length):cw (cw p o a) o b=cw p o b:=by
 have hl:=fun n=>bz n 2
 have h1:(bg p o (beB a 2)).length=p.length:=bS (by rw [hl];exact h)
 refine Kv fun i=>?_
 unfold cw
 rw [cR (by rw [h1,hl];exact h),cR (by rw [hl];exact h),cR (by rw [hl];exact h),hl,hl]
 split <;> rfl
theorem xM(hp:p.length=1024)(h:18+4*ae p≤1024):bg p (18+4*ae p) (List.replicate (1024-(18+4*ae p)) 0)=ck p 0:=by
 have hz:=aj
 have hl:(p.take (18+4*ae p)).length=18+4*ae p:=by rw [Ke];omega
 refine Kv fun i=>?_
 show _=(bg zeroP 0 (p.take (18+4*ae p)))[i]?
 rw [cR (by rw [Kn];omega),cR (by omega),hl,Kn]
 by_cases h1:i<18+4*ae p
 ·rw [Ka (by omega),Kb (by omega),Nat.sub_zero,List.getElem?_take,Kb h1]
 ·rw [Ka (show ¬ (0≤i∧i<0+(18+4*ae p)) by omega)]
  by_cases h2:i<1024
  ·rw [Kb (by omega),List.getElem?_replicate,Kb (by omega)]
   unfold zeroP
   rw [List.getElem?_replicate,Kb h2]
  ·rw [Ka (by omega),Ky (by omega),Ky (by omega)]
def l9(p:List UInt8)(n:Nat):List UInt8:=cw (ck p n) 16 (1024-bU p n)
theorem oM(h:Okp p)(hn:n≤ae p):(l9 p n).length=1024:=by
 have g:=(sN h n hn).len
 exact(bI (by omega)).trans g
theorem oN(h:Okp p)(hn:n≤ae p):aF (l9 p n)=1024-bU p n:=by
 have g:=(sN h n hn).len
 exact eV (by omega) (by omega)
theorem xN(hz:ar p n=0):l9 p (n+1)=l9 p n:=by
 have h1:ck p (n+1)=ck p n:=by show(if _ then _ else _)=_;rw [Kb hz]
 have h2:bU p (n+1)=bU p n:=by show bU p n+ar p n=_;omega
 unfold l9
 rw [h1,h2]
theorem zN(h:Okp p)(hn:n<ae p)(hz:ar p n≠0):Dk (l9 p n) n (aS p n)=l9 p (n+1):=by
 have hh:=h.head
 have ht:=h.top
 have hs1:=h.sum_le
 have hs2:=dO p (show n+1≤ae p from hn)
 have hs3:bU p (n+1)=bU p n+ar p n:=rfl
 have hsl:=h.slot n hn
 have hil:=dL h.len (p:=p) (j:=n) (by omega)
 have hb:=oN h (Nat.le_of_lt hn)
 have h1:ck p (n+1)=bP (bg (ck p n) (1024-bU p (n+1)) (aS p n)) n (1024-bU p (n+1)) (ar p n):=by show(if _ then _ else _)=_;rw [Ka hz]
 have gl:=(sN h n (Nat.le_of_lt hn)).len
 have hl:=fun n=>bz n 2
 unfold Dk
 rw [hb,hil,show 1024-bU p n-ar p n=1024-bU p (n+1) by omega]
 unfold l9
 rw [h1]
 generalize ck p n=q at gl
 generalize hA:1024-bU p (n+1)=A at *
 have hA2:18+4*ae p≤A∧A+ar p n≤1024:=by omega
 have e1:bg (cw q 16 (1024-bU p n)) A (aS p n)=cw (bg q A (aS p n)) 16 (1024-bU p n):=e9 (by rw [hl];omega) (by omega) (by rw [hl];omega)
 have l1:(bg q A (aS p n)).length=1024:=(bS (by omega)).trans gl
 rw [e1,xG (by omega)]
 generalize bg q A (aS p n)=x at l1
 have l2:(cw x (18+4*n) A).length=1024:=(bI (by omega)).trans l1
 have e2:cw (cw x 16 A) (18+4*n) A=cw (cw x (18+4*n) A) 16 A:=e9 (by rw [hl];omega) (by rw [hl];omega) (by rw [hl];omega)
 rw [e2]
 show cw (cw _ 16 A) (18+4*n+2) _=cw (cw _ (18+4*n+2) _) 16 A
 exact e9 (by rw [hl];omega) (by rw [hl];omega) (by rw [hl];omega)
theorem zO(p:List UInt8):l9 p (ae p)=iM p:=rfl
theorem yv(hp:p.length=1024)(ha:a≤i)(hi:i<1024):(bg p a ((List.replicate (1024-a) 0).take (i-a))).set i 0=bg p a ((List.replicate (1024-a) 0).take (i+1-a)):=by
 have h:=qN (p:=p) (it:=List.replicate (1024-a) 0) (a:=a) (i:=i-a) (by rw [Kn];omega) (by rw [Kn];omega)
 rw [List.getElem_replicate,show a+(i-a)=i by omega,show i-a+1=i+1-a by omega] at h
 exact h
theorem zM(hp:p.length=1024)(hr:bj p=true):Fnc Tryz.prog 48 [.agg (pgS p)] H nx (fun q=>q=(pgE (iM p,0),H,nx)):=by
 refine Fnc.bA (hY _) ?_
 have hok:=(aZ hp).1 hr
 have hh:=hok.head
 have ht:=hok.top
 have hll:=eT p (ae p)
 refine KE Tryz.func48 rfl rfl ?_
 repeat first|apply bB hp;rfl;(focus((repeat(first|exact ac|refine ab (by omega) ?_));done))|refine be rfl rfl cq ?_|apply ah;rfl
 refine aE rfl rfl rfl (by kernel_rfl) (KD (p9 hp) ?_)
 rintro⟨_,H2,n2⟩ ⟨g1,g2,(⟨hr2,rfl⟩|⟨_,r,rfl,g3,g4,g5⟩)⟩
 ·rw [hr] at hr2;cases hr2
 dsimp only at g1 g2 g3 g4 g5 ⊢
 have hb:H2.at' nx=some (pgO p):=(g2 _ (by omega)).trans (by repeat(first|exact ac|refine ab (by omega) ?_))
 have hz:H2.at' (nx+1)=some (pgO zeroP):=(g2 _ (by omega)).trans (by repeat(exact ac))
 have ho: ∀ m,m<nx→H2.at' m=H.at' m:=fun m hm=>(g2 m (by omega)).trans (by(repeat(refine ab (by omega) ?_));rfl)
 clear g2
 repeat first|apply bB hp;rfl;assumption|apply bJ hp aj;rfl;(focus((repeat(exact ac));done))|refine be rfl rfl cq ?_|apply ah;rfl|apply aL;rfl;omega;omega
 refine bE (α:=Nat) (fun i=> [(1,.ptr nx 0),(2,.ptr (nx+1) 0),(4,.slu r 0 (eN p (ae p)).length),(6,.ptr n2 0),(7,.sc (.int .i64 (i:Int)))])
  (fun i H1 n1=>n1=n2+1∧18+4*ae p≤i∧i≤1024∧H1.at' n2=some (pgO (bg p (18+4*ae p) ((List.replicate (1024-(18+4*ae p)) 0).take (i-(18+4*ae p)))))∧H1.at' nx=some (pgO p)∧H1.at' (nx+1)=some (pgO zeroP)∧H1.at' r=some (slO (eN p (ae p)))∧ ∀ m,m<nx→H1.at' m=H.at' m) (fun i=>1024-i) (18+4*ae p)
  ⟨rfl,JZ _,by omega,by rw [Nat.sub_self,List.take_zero,show bg p (18+4*ae p) []=p by simp [bg]];(focus((repeat(exact ac));done)),by repeat(first|assumption|refine ab (by omega) ?_),by repeat(first|assumption|refine ab (by omega) ?_),by repeat(first|assumption|refine ab (by omega) ?_),fun m hm=>by(repeat(refine ab (by omega) ?_));exact ho m hm⟩ (KK (by repeat(first|exact KO|refine⟨rfl,?_⟩|refine⟨fU (by(omega)),?_⟩))) ?_
 rintro i H1 n1 ⟨rfl,i1,i2,i3,i4,i5,i6,i7⟩ ih
 have hpi:(bg p (18+4*ae p) ((List.replicate (1024-(18+4*ae p)) 0).take (i-(18+4*ae p)))).length=1024:=(bS (by rw [Ke,Kn];omega)).trans hp
 repeat apply ah;rfl
 refine bu rfl rfl rfl rfl (fun h5=>?_) (fun h5=>?_)
 ·have hi:i<1024:=by omega
  have hset:(pgS (bg p (18+4*ae p) ((List.replicate (1024-(18+4*ae p)) 0).take (i-(18+4*ae p))))).set i (.sc (.int .u8 0))=pgS (bg p (18+4*ae p) ((List.replicate (1024-(18+4*ae p)) 0).take (i+1-(18+4*ae p)))):=by
   rw [← yv hp i1 hi]
   exact nv _ i 0
  repeat first|apply ah;rfl|apply gB (q:=i);rfl;rfl;rfl;rfl;exact(F.un _ rfl);exact(F.sz _ rfl);(focus(omega));(focus(omega))
  rw [show 0+i*1=i by omega]
  refine dU (cs:=pgS (bg p (18+4*ae p) ((List.replicate (1024-(18+4*ae p)) 0).take (i-(18+4*ae p))))) rfl rfl rfl (F.sz _ rfl) i3 rfl (JN (by rw [bh hpi];omega)) ?_
  rw [hset]
  repeat first|apply ah;rfl|apply aL;rfl;omega;omega
  exact ih _ _ _ (i+1) ⟨rfl,by omega,by omega,by repeat(exact ac),by repeat(first|assumption|refine ab (by omega) ?_),by repeat(first|assumption|refine ab (by omega) ?_),by repeat(first|assumption|refine ab (by omega) ?_),fun m hm=>by(repeat(refine ab (by omega) ?_));exact i7 m hm⟩ (by omega) (KK (KN rfl))
 ·have hi:i=1024:=by omega
  subst hi
  rw [JR (by rw [Kn];exact JZ _),xM hp (by omega)] at i3
  have hl0:=(sN hok 0 (J0 _)).len
  have hw:=fun(H:au) nx=>gX (H:=H) (nx:=nx) (o:=16) (n:=1024) hl0 (by decide) (by decide)
  rw [show cw (ck p 0) 16 1024=l9 p 0 from rfl] at hw
  have hl1:=oM hok (J0 (ae p))
  generalize ck p 0=x0 at i3 hl0 hw
  repeat first|apply bB hl0;rfl;assumption|apply bJ hl1 hl0;rfl;assumption|apply ah;rfl|apply bW;rfl;kernel_rfl;exact hw _ _
  clear hw hl1
  refine bE (α:=Nat) (fun j=> [(1,.ptr nx 0),(2,.ptr (nx+1) 0),(4,.slu r 0 (eN p (ae p)).length),(6,.ptr n2 0),(8,.sc (.int .i64 (j:Int)))])
   (fun j H3 n3=>n3=n2+1∧j≤ae p∧H3.at' n2=some (pgO (l9 p j))∧H3.at' nx=some (pgO p)∧H3.at' (nx+1)=some (pgO zeroP)∧H3.at' r=some (slO (eN p (ae p)))∧ ∀ m,m<nx→H3.at' m=H.at' m) (fun j=>ae p-j) 0
   ⟨rfl,J0 _,by repeat(exact ac),by repeat(first|assumption|refine ab (by omega) ?_),by repeat(first|assumption|refine ab (by omega) ?_),by repeat(first|assumption|refine ab (by omega) ?_),fun m hm=>by(repeat(refine ab (by omega) ?_));exact i7 m hm⟩ (KK (KN rfl)) ?_
  clear i3 i4 i5 i6 i7 ih
  rintro j H3 n3 ⟨rfl,j1,j2,j3,j4,j5,j6⟩ ih2
  have hlj:=oM hok j1
  repeat apply ah;rfl
  refine bu rfl rfl rfl rfl (fun h6=>?_) (fun h6=>?_)
  ·have hj:j<ae p:=by omega
   have hcS:=iG p hj
   have hcF:=jL p hj
   have hg:ar p j<65536:=cV p _
   repeat first|refine dH (q:=j) rfl rfl rfl rfl (F.un _ rfl) (F.sz _ rfl) (by assumption) (by omega) (by(omega)) (JZ _) ?_|refine cf (an (F.ag _ rfl) rfl j5 hcS) rfl rfl rfl ?_|apply ah;rfl
   by_cases hs:ar p j=0
   ·rw [← xN hs] at j2
    repeat first|apply ll;rfl;omega|apply ah;rfl|apply aL;rfl;omega;omega
    exact ih2 _ _ _ (j+1) ⟨rfl,hj,j2,j3,j4,j5,j6⟩ (by omega) (KK (KN rfl))
   ·have hsl:=db hr hj hs
    have hil:=dL hp (j:=j) hsl.2.2.2
    have hs2:=dO p (show j+1≤ae p from hj)
    have hs3:bU p (j+1)=bU p j+ar p j:=rfl
    have hs1:=hok.sum_le
    have hbg:=oN hok j1
    have hlay: ∀ (H:au) nx',H.at' nx=some (pgO p)→Fnc Tryz.prog 94 [.agg (pgS (l9 p j)),.sc (.int .i64 (j:Int)),.sl nx (ay p j) (ar p j) (1024-ay p j)] H nx' (fun q=>q=(.agg (pgS (l9 p (j+1))),H,nx')):=fun H nx' h=>by
     have:=Dj (H:=H) (nx:=nx') (n:=j) (s:= .sl nx (ay p j) (ar p j) (1024-ay p j)) (it:=aS p j) hlj (nj (o:=ay p j) (m:=ar p j) h (by omega)) (by omega) (by omega) (by omega)
     rwa [zN hok hj hs] at this
    have hlj2:=oM hok (show j+1≤ae p from hj)
    generalize l9 p j=y at j2 hlj hlay
    repeat first|apply pG;rfl;omega|apply ah;rfl
    (apply bk;(focus(kernel_rfl));(focus(kernel_rfl)))
    repeat first|refine cn rfl rfl rfl (F.ag _ rfl) j2 (bh hlj) ?_|refine aI (q:=j) rfl rfl rfl rfl (F.un _ rfl) (F.sz _ rfl) (by assumption) (by omega) (by(omega)) (JZ _) ?_|refine bp (an (F.ag _ rfl) rfl j5 hcF) rfl rfl rfl ?_|refine bp (an (F.ag _ rfl) rfl j5 hcS) rfl rfl rfl ?_|apply bG;rfl;rfl;exact(fun _ h=>by cases h);exact(ge (l:=ay p j) (h:=ay p j+ar p j) (F.un _ rfl) (F.sz _ rfl) rfl rfl rfl (by omega) (by omega) (by omega) (show ay p j+ar p j-ay p j=ar p j by omega) rfl (Kc _))|apply b9;rfl;rfl;rfl;(focus(kernel_rfl));exact(hlay _ _ j3)|refine bY rfl rfl rfl (F.sz _ rfl) j2 (bh hlj2) (by rw [bh hlj];exact JZ _) (hZ _) (lu _ _ hlj hlj2) ?_|apply aW;rfl|refine bp (aw rfl rfl (.inl ⟨rfl,(JH _ ⟨(by focus(omega)),(by focus(omega))⟩).symm⟩)) rfl rfl rfl ?_
    refine aA ⟨by kernel_rfl,?_,?_⟩;(focus(repeat(first|exact KO|apply jE;rfl|apply gr;rfl;kernel_rfl|refine⟨.inr ⟨0,by kernel_rfl,AllH.all (fun _=>(by(exact aw rfl rfl (.inl ⟨rfl,(JH _ ⟨by omega,by omega⟩).symm⟩)))) _⟩,?_⟩|refine fO 1 rfl (by kernel_rfl) (by(repeat(refine⟨(by first|exact aU (F.ag _ rfl) rfl (by exact j2) (bv hlj)|exact an (F.ag _ rfl) rfl j5 hcF|exact an (F.ag _ rfl) rfl j5 hcS|exact aO (F.un _ rfl) (F.sz _ rfl) rfl rfl j5 rfl (by omega) (JZ _)),?_⟩));exact KO) ?_|apply mJ;kernel_rfl)))
    repeat first|apply ah;rfl|apply aL;rfl;omega;omega
    exact ih2 _ _ _ (j+1) ⟨rfl,hj,by repeat(exact ac),by repeat(first|assumption|refine ab (by omega) ?_),by repeat(first|assumption|refine ab (by omega) ?_),by repeat(first|assumption|refine ab (by omega) ?_),fun m hm=>by(repeat(refine ab (by omega) ?_));exact j6 m hm⟩ (by omega) (KK (KN rfl))
  ·have hj:j=ae p:=by omega
   subst hj
   rw [zO] at j2 hlj
   generalize iM p=y at j2 hlj ⊢
   repeat first|apply bB hlj;rfl;assumption|apply bJ hlj aj;rfl;assumption|apply ah;rfl
   ((apply bw Tryz.func48 (congrArg Array.toList Tryz.results48));(focus((apply KG rfl (KI (F.ag _ rfl) (by repeat(exact ac)) (bv hlj)));(repeat(first|exact KF|apply KH rfl)))))
   exact⟨rfl,by dsimp only;omega,fun m hm=>by(repeat(refine ab (by omega) ?_));exact j6 m hm⟩
end
end Go.Proofs.YtnhmbonmlfeifaaGreat
end
section
namespace Go.Sy
open Go Go.Sl Go.RowKit
section
variable {P:Program}
theorem Fnc.CT{f:FuncId}{args:List SV}{H:au}{nx:Nat}{v:SV}(hv: ∀ e:Env,(∀ n vo,H.at' n=some vo→ ∃ x,e n=some x)→ ∃ u,v.conc e=some u)(h:Fnc P f args H nx (fun q=>q.1=v∧nx≤q.2.2∧ ∀ n,n<nx→q.2.1.at' n=H.at' n)):Fnc P f args H nx (fun q=>q=(v,H,nx)):=by
 have key: ∀ {K:Zone} {w0 w:World} {e e':Env} {u:Value},St K w0 e H nx w→e.le e'→v.conc e'=some u→v.conc e=some u:=fun {K w0 w e e' u} hS hle hu=>by
  obtain⟨z,hz⟩:=hv e fun n vo hn=>by
   obtain⟨x,hx,_⟩:=hS.rel n vo hn
   exact⟨x,hx⟩
  have:=SV.dz hle v z hz
  rw [hu] at this
  rw [hz,←this]
 unfold Fnc kq at h ⊢
 rcases h with ⟨h1,u,r,h2,⟨q1,q2,q3⟩,h4⟩|h
 ·refine .inl ⟨h1,u,_,h2,rfl,fun K w0 e w hS=>?_⟩
  obtain⟨e',g1,g2,g3⟩:=h4 K w0 e w hS
  rw [q1] at g3
  exact⟨e,KL e,hS.drop g1 g2 q3,key hS g1 g3⟩
 ·refine .inr ?_
  split at h
  ·refine⟨fun K w0 e w tmps todo ds kd rof cs hS a2 a3 a4 a5=>?_⟩
   obtain⟨r,⟨q1,q2,q3⟩,e',w',u,g1,g2,g3,g4⟩:=Wp.run h K w0 e w tmps todo ds kd rof cs hS a2 a3 a4 a5
   rw [q1] at g3
   exact⟨_,rfl,e,w',u,KL e,hS.drop g1 g2 q3,key hS g1 g3,g4⟩
  ·exact h.elim
end
end Go.Sy
end
section
namespace Go.Proofs.YtnhmbonmlfeifaaGreat
open Go Go.Sy Go.Sl Go.RowKit
section
variable {H:au}{C i k n nx o r:Nat}{hm it p x:List UInt8}{l:List (Int×Int)}{pf:Nat→List UInt8}
theorem AW(hp:p.length=1024)(hi:i<12):(List.replicate i 0 ++ p.drop i).set i 0=List.replicate (i+1) 0 ++ p.drop (i+1):=by
 refine Kv fun j=>?_
 rw [List.getElem?_set]
 by_cases h1:i=j
 ·subst h1
  rw [Kb rfl,Kb (by simp;omega),JW (by rw [Kn];omega),List.getElem?_replicate,Kb (by omega)]
 ·rw [Ka h1]
  by_cases h2:j<i
  ·rw [JW (by rw [Kn];omega),JW (by rw [Kn];omega),List.getElem?_replicate,List.getElem?_replicate,Kb h2,Kb (by omega)]
  ·rw [Kk (by rw [Kn];omega),Kk (by rw [Kn];omega),Kn,Kn,List.getElem?_drop,List.getElem?_drop]
   congr 1
   omega
theorem Jv(hp:p.length=1024):Fnc Tryz.prog 74 [.agg (pgS p)] H nx (fun q=>q=(.agg (pgS (bareP p)),H,nx)):=by
 refine Fnc.bA (Free.agg _) ?_
 refine KE Tryz.func74 rfl rfl ?_
 repeat first|refine be rfl rfl cq ?_|apply ah;rfl
 refine bE (α:=Nat) (fun i=> [(1,.ptr nx 0),(2,.ptr (nx+1) 0),(3,.sc (.int .i64 (i:Int)))])
  (fun i H1 n1=>n1=nx+1+1∧i≤12∧H1.at' nx=some (pgO (List.replicate i 0 ++ p.drop i))∧H1.at' (nx+1)=some (pgO zeroP)∧ ∀ m,m<nx→H1.at' m=H.at' m) (fun i=>12-i) 0
  ⟨rfl,J0 _,by rw [List.replicate_zero,List.nil_append,List.drop_zero];(focus((repeat(first|exact ac|refine ab (by omega) ?_));done)),by repeat(exact ac),fun m hm=>by(repeat(refine ab (by omega) ?_));rfl⟩ (KK (KN rfl)) ?_
 rintro i H1 n1 ⟨rfl,i1,i2,i3,i4⟩ ih
 have hli:(List.replicate i 0 ++ p.drop i).length=1024:=by rw [J3,Kn,Kh];omega
 repeat apply ah;rfl
 refine bu rfl rfl rfl rfl (fun h5=>?_) (fun h5=>?_)
 ·have hi:i<12:=by omega
  have hset:(pgS (List.replicate i 0 ++ p.drop i)).set i (.sc (.int .u8 0))=pgS (List.replicate (i+1) 0 ++ p.drop (i+1)):=by
   rw [← AW hp hi]
   exact nv _ i 0
  repeat first|apply ah;rfl|apply gB (q:=i);rfl;rfl;rfl;rfl;exact(F.un _ rfl);exact(F.sz _ rfl);(focus(omega));(focus(omega))
  rw [show 0+i*1=i by omega]
  refine dU (cs:=pgS (List.replicate i 0 ++ p.drop i)) rfl rfl rfl (F.sz _ rfl) i2 rfl (JN (by rw [bh hli];omega)) ?_
  rw [hset]
  repeat first|apply ah;rfl|apply aL;rfl;omega;omega
  exact ih _ _ _ (i+1) ⟨rfl,by omega,by repeat(exact ac),by repeat(first|assumption|refine ab (by omega) ?_),fun m hm=>by(repeat(refine ab (by omega) ?_));exact i4 m hm⟩ (by omega) (KK (KN rfl))
 ·have hi:i=12:=by omega
  subst hi
  have i2:H1.at' nx=some (pgO (bareP p)):=i2
  have hl:=dp hp
  generalize bareP p=x at i2 hl ⊢
  repeat first|apply bB hl;rfl;assumption|apply bJ hl aj;rfl;assumption|apply ah;rfl
  ((apply bw Tryz.func74 (congrArg Array.toList Tryz.results74));(focus((apply KG rfl (KI (F.ag _ rfl) (by repeat(exact ac)) (bv hl)));(repeat(exact KF)))))
  exact⟨rfl,by dsimp only;omega,fun m hm=>by(repeat(refine ab (by omega) ?_));exact i4 m hm⟩
theorem Gr{l:List UInt8}(h:BlkAt H r o l)(hi:i+n≤l.length):BlkAt H r (o+i) ((l.drop i).take n):=
 ((h.part (n:=i) (by omega)).2.part (n:=n) (by rw [Kh];omega)).1
def yO(r o C:Nat)(l:List UInt8):SV:=if l.length<20 then im dK dK 0 0 else if l.length<20+beN ((l.drop 16).take 2) then im dK dK 0 0 else
 im (.sl r (o+18) (18+beN ((l.drop 16).take 2)-18) (C-18)) (.sl r (if C=20+beN ((l.drop 16).take 2) then o else o+(20+beN ((l.drop 16).take 2))) (l.length-(20+beN ((l.drop 16).take 2))) (C-(20+beN ((l.drop 16).take 2)))) (beN (l.take 8)) (beN ((l.drop 8).take 8))
theorem yM(r o C:Nat)(l:List UInt8):JE (yO r o C l):=by
 unfold yO
 split
 ·exact⟨_,_,_,_,rfl,rfl,rfl⟩
 ·split
  ·exact⟨_,_,_,_,rfl,rfl,rfl⟩
  ·exact⟨_,_,_,_,rfl,rfl,rfl⟩
theorem yN{l:List UInt8}(hB:BlkAt H r o l)(e:Env)(he: ∀ n vo,H.at' n=some vo→ ∃ x,e n=some x)(b:Bool): ∃ u,(SV.tup [yO r o C l,.sc (.bool b)]).conc e=some u:=by
 obtain⟨vo,h,_⟩:=hB
 obtain⟨x,hx⟩:=he r vo h
 unfold yO
 split
 ·exact⟨_,rfl⟩
 ·split
  ·exact⟨_,rfl⟩
  ·simp [SV.conc,SV.aJ,hx]
theorem D0{l:List UInt8}{v:gj}(hB:BlkAt H r o l)(hC:l.length≤C)(h:ofR l=some v):VerAt H (yO r o C l) r v:=by
 unfold ofR at h
 split at h
 ·cases h
 ·rename_i h1
  split at h
  ·cases h
  ·rename_i h2
   split at h
   ·have h:=(Option.some.inj h).symm
    subst h
    have hver:nI l=((l.drop 18).take (beN ((l.drop 16).take 2)),l.drop (20+beN ((l.drop 16).take 2)),beN (l.take 8),beN ((l.drop 8).take 8)):=rfl
    unfold yO
    rw [Ka h1,Ka h2,hver]
    generalize beN ((l.drop 16).take 2)=kk at h2 ⊢
    have lk:((l.drop 18).take kk).length=kk:=by rw [Ke,Kh];omega
    have lv:(l.drop (20+kk)).length=l.length-(20+kk):=Kh
    refine⟨_,_,rfl,.inr ⟨o+18,C-18,?_,Gr hB (by omega)⟩,.inr ⟨_,C-(20+kk),by rw [lv],?_⟩⟩
    ·rw [lk,Nat.add_sub_cancel_left]
    ·by_cases hc:C=20+kk
     ·have:l.drop (20+kk)= []:=List.drop_of_length_le (by omega)
      rw [this]
      obtain⟨vo,hvo,_⟩:=hB
      exact BlkAt.none _ hvo _
     ·rw [Ka hc]
      exact(hB.part (n:=20+kk) (by omega)).2
   ·cases h
theorem HR{l:List UInt8}(hB:BlkAt H r o l)(hC:l.length≤C)(hl:l.length≤100000):Fnc Tryz.prog 36 [.sl r o l.length C] H nx (fun q=>q=(.tup [yO r o C l,.sc (.bool (ofR l).isSome)],H,nx)):=by
 refine Fnc.CT (fun e he=>yN hB e he _) ?_
 refine KE Tryz.func36 rfl rfl ?_
 refine aV fun hund=>?_
 obtain⟨vo0,hr,_⟩:=id hB
 have lr:=hund _ _ hr
 repeat first|apply ah;rfl|refine cf (gH (F.un _ rfl) rfl) rfl rfl rfl ?_
 refine bu rfl rfl rfl rfl (fun h1=>?_) (fun h1=>?_)
 ·have hv:ofR l=none:=by unfold ofR;rw [Kb (by omega)]
  repeat first|apply ah;rfl|apply aG;rfl;(focus((repeat(exact ac));done));rfl
  ((apply bw Tryz.func36 (congrArg Array.toList Tryz.results36));(focus(repeat(first|exact KF|apply KH rfl|apply KG rfl (KI (F.ag _ rfl) (by repeat(exact ac)) (ak _ 0 rfl rfl))))))
  rw [hv,show yO r o C l=im dK dK 0 0 from Kb (by omega)]
  exact⟨rfl,by dsimp only;omega,fun m hm=>(aa _ _ (by omega)).trans (aa _ _ (by omega))⟩
 ·have h20:20≤l.length:=by omega
  have hB1: ∀ H':au,H'.at' r=H.at' r→BlkAt H' r o l:=fun H' h=>hB.frame h
  have hk16:((l.drop 16).take 2).length=2:=by rw [Ke,Kh];omega
  have hklt:=mD ((l.drop 16).take 2)
  rw [hk16] at hklt
  repeat apply ah;rfl
  (apply yK (lw:=16) (hg:=18);rfl;rfl;rfl;exact(F.un _ rfl);exact(F.sz _ rfl);exact(iy rfl rfl);exact(iy rfl rfl);(focus(omega));(focus(omega));exact(Ka (by omega)))
  refine aE rfl rfl rfl (by kernel_rfl) (KD (nD (s:= .sl r (o+16) (18-16) (C-16)) (bs:=(l.drop 16).take 2) (by have:=(Gr (hB1 _ (aa _ _ (by omega):(H.set nx (ez (dB dK dK 0 0))).at' r=H.at' r)) (i:=16) (n:=2) (by omega)).bs (C:=C-16);rwa [hk16] at this) (by omega)) ?_)
  rintro _ rfl
  dsimp only
  have hof:ofR l=(if l.length<20+beN ((l.drop 16).take 2) then none else if gV (nI l)=true∧beN ((l.drop (18+beN ((l.drop 16).take 2))).take 2)=(l.drop (20+beN ((l.drop 16).take 2))).length then some (nI l) else none):=by unfold ofR;rw [Ka (by omega)]
  have hver:nI l=((l.drop 18).take (beN ((l.drop 16).take 2)),l.drop (20+beN ((l.drop 16).take 2)),beN (l.take 8),beN ((l.drop 8).take 8)):=rfl
  have hvb:yO r o C l=(if l.length<20+beN ((l.drop 16).take 2) then im dK dK 0 0 else im (.sl r (o+18) (18+beN ((l.drop 16).take 2)-18) (C-18)) (.sl r (if C=20+beN ((l.drop 16).take 2) then o else o+(20+beN ((l.drop 16).take 2))) (l.length-(20+beN ((l.drop 16).take 2))) (C-(20+beN ((l.drop 16).take 2)))) (beN (l.take 8)) (beN ((l.drop 8).take 8))):=Ka (by omega)
  generalize beN ((l.drop 16).take 2)=kk at hklt hof hver hvb ⊢
  repeat first|apply ah;rfl|apply aL;rfl;omega;omega|refine cf (bZ (F.un _ rfl) (F.un _ rfl) rfl (show _=((kk:Nat):Int)from JH _ ⟨by omega,by omega⟩)) rfl rfl rfl ?_|refine cf (gH (F.un _ rfl) rfl) rfl rfl rfl ?_
  refine bu rfl rfl rfl rfl (fun h2=>?_) (fun h2=>?_)
  ·have hv:ofR l=none:=by rw [hof,Kb (by omega)]
   repeat first|apply ah;rfl|apply aG;rfl;(focus((repeat(exact ac));done));rfl
   ((apply bw Tryz.func36 (congrArg Array.toList Tryz.results36));(focus(repeat(first|exact KF|apply KH rfl|apply KG rfl (KI (F.ag _ rfl) (by repeat(exact ac)) (ak _ 0 rfl rfl))))))
   rw [hv,hvb,Kb (by omega)]
   exact⟨rfl,by dsimp only;omega,fun m hm=>(aa _ _ (by omega)).trans (aa _ _ (by omega))⟩
  ·have hv:=hof
   rw [Ka (by omega)] at hv
   have h2n: ¬ l.length<20+kk:=by omega
   rw [Ka h2n] at hvb
   clear hof
   have l8:(l.take 8).length=8:=by rw [Ke];omega
   have l16:((l.drop 8).take 8).length=8:=by rw [Ke,Kh];omega
   have g8: ∀ (H':au) (nx':Nat),H'.at' r=H.at' r→Fnc Tryz.prog 78 [.sl r (o+0) (8-0) (C-0)] H' nx' (fun q=>q=(.sc (.int .u64 (beN (l.take 8):Int)),H',nx')):=fun H' nx' h=>nD (by
    have:=(Gr (hB1 H' h) (i:=0) (n:=8) (by omega)).bs (C:=C-0)
    rwa [List.drop_zero,l8] at this) (by omega)
   have g16: ∀ (H':au) (nx':Nat),H'.at' r=H.at' r→Fnc Tryz.prog 78 [.sl r (o+8) (16-8) (C-8)] H' nx' (fun q=>q=(.sc (.int .u64 (beN ((l.drop 8).take 8):Int)),H',nx')):=fun H' nx' h=>nD (by
    have:=(Gr (hB1 H' h) (i:=8) (n:=8) (by omega)).bs (C:=C-8)
    rwa [l16] at this) (by omega)
   have lk:((l.drop 18).take kk).length=kk:=by rw [Ke,Kh];omega
   have lv:(l.drop (20+kk)).length=l.length-(20+kk):=Kh
   have hK: ∀ H':au,H'.at' r=H.at' r→BlkS H' (.sl r (o+18) (18+kk-18) (C-18)) r (nI l).1:=fun H' h=>by
    rw [hver]
    refine .inr ⟨o+18,C-18,?_,Gr (hB1 H' h) (by omega)⟩
    rw [lk,Nat.add_sub_cancel_left]
   have hV: ∀ H':au,H'.at' r=H.at' r→BlkS H' (.sl r (if C=20+kk then o else o+(20+kk)) (l.length-(20+kk)) (C-(20+kk))) r (nI l).2.1:=fun H' h=>by
    rw [hver]
    refine .inr ⟨if C=20+kk then o else o+(20+kk),C-(20+kk),by rw [lv],?_⟩
    by_cases hc:C=20+kk
    ·have:l.drop (20+kk)= []:=List.drop_of_length_le (by omega)
     rw [this]
     exact BlkAt.none _ (h.trans hr) _
    ·rw [Ka hc]
     exact((hB1 H' h).part (n:=20+kk) (by omega)).2
   repeat apply ah;rfl
   (apply gC;(focus(kernel_rfl));(focus(kernel_rfl)))
   refine ej 2 (JL rfl) ?_
   repeat first|apply aW;rfl|apply bG;rfl;rfl;exact(fun _ h=>by cases h);exact(dc (l:=0) (h:=8) (F.un _ rfl) (F.sz _ rfl) rfl kw (iy rfl rfl) (by omega) (by omega) (Ka (by omega)))
   refine aA ?_;refine er rfl rfl rfl (by kernel_rfl) (g8 _ _ (by(repeat(refine ab (by omega) ?_));rfl)) ?_
   refine ej 2 (JL rfl) ?_
   repeat first|apply aW;rfl|apply bG;rfl;rfl;exact(fun _ h=>by cases h);exact(dc (l:=8) (h:=16) (F.un _ rfl) (F.sz _ rfl) rfl (iy rfl rfl) (iy rfl rfl) (by omega) (by omega) (Ka (by omega)))
   refine aA ?_;refine er rfl rfl rfl (by kernel_rfl) (g16 _ _ (by(repeat(refine ab (by omega) ?_));rfl)) ?_
   refine jy ?_
   repeat first|apply aW;rfl|refine pR (fp (F.zl _ rfl)) rfl rfl rfl ?_|refine bp (aw rfl rfl (.inl ⟨rfl,(JH _ ⟨(by focus(omega)),(by focus(omega))⟩).symm⟩)) rfl rfl rfl ?_|refine rD (dg (F.sz _ rfl) rfl rfl rfl (by repeat(exact ac)) (by rfl) (by exact JL rfl) (by rfl)) rfl rfl ?_|apply bG;rfl;rfl;exact(fun _ h=>by cases h);exact(dc (l:=18) (h:=18+kk) (F.un _ rfl) (F.sz _ rfl) rfl (iy rfl rfl) (iy rfl (by omega)) (by omega) (by omega) (Ka (by omega)))|apply bG;rfl;rfl;exact(fun _ h=>by cases h);exact(dc (l:=20+kk) (h:=l.length) (F.un _ rfl) (F.sz _ rfl) rfl (iy rfl (by omega)) kw (by omega) (by omega) rfl)
   refine aA ⟨by kernel_rfl,?_,?_⟩;(focus(repeat(first|exact KO|refine⟨.inl rfl,?_⟩|refine⟨.inr (.inl (by(repeat(refine⟨(by first|exact mN rfl|exact aw rfl rfl (.inl ⟨rfl,(JH _ ⟨by omega,by omega⟩).symm⟩)|exact dc (l:=0) (h:=8) (F.un _ rfl) (F.sz _ rfl) rfl kw (iy rfl rfl) (by omega) (by omega) (Ka (by omega))|exact dc (l:=8) (h:=16) (F.un _ rfl) (F.sz _ rfl) rfl (iy rfl rfl) (iy rfl rfl) (by omega) (by omega) (Ka (by omega))|exact dc (l:=18) (h:=18+kk) (F.un _ rfl) (F.sz _ rfl) rfl (iy rfl rfl) (iy rfl (by omega)) (by omega) (by omega) (Ka (by omega))|exact dc (l:=20+kk) (h:=l.length) (F.un _ rfl) (F.sz _ rfl) rfl (iy rfl (by omega)) kw (by omega) (by omega) rfl),?_⟩));exact KO)),?_⟩|refine⟨.inr (.inr (by(repeat(refine⟨(by exact eH rfl (by kernel_rfl) (by first|exact g8 _ _ (by(repeat(refine ab (by omega) ?_));rfl)|exact g16 _ _ (by(repeat(refine ab (by omega) ?_));rfl))),?_⟩));exact KO)),?_⟩)))
   obtain⟨kS,hkS⟩: ∃ kS,kS=SV.sl r (o+18) (18+kk-18) (C-18):=⟨_,rfl⟩
   refine cQ (R:=fun H7 n7=>n7=nx+1+1∧H7.at' (nx+1)=some (ez (dB (.sl r (o+18) (18+kk-18) (C-18)) (.sl r (if C=20+kk then o else o+(20+kk)) (l.length-(20+kk)) (C-(20+kk))) (beN (l.take 8)) (beN ((l.drop 8).take 8))))∧H7.at' nx=some (ez (dB dK dK 0 0))∧ ∀ m,m<nx→H7.at' m=H.at' m) ⟨rfl,by repeat(exact ac),by repeat(first|exact ac|refine ab (by omega) ?_),fun m hm=>by(repeat(refine ab (by omega) ?_));rfl⟩ ?_
   rintro H7 n7 ⟨rfl,b5,b2,bo⟩
   clear kS hkS g8 g16 l8 l16 hk16
   have br:H7.at' r=H.at' r:=bo r lr
   have hat: ∀ H':au,H'.at' r=H7.at' r→VerAt H' (im (.sl r (o+18) (18+kk-18) (C-18)) (.sl r (if C=20+kk then o else o+(20+kk)) (l.length-(20+kk)) (C-(20+kk))) (beN (l.take 8)) (beN ((l.drop 8).take 8))) r (nI l):=fun H' h=>⟨_,_,by rw [hver],hK H' (h.trans br),hV H' (h.trans br)⟩
   have cM: ∀ (H':au) (nx':Nat),H'.at' r=H7.at' r→Fnc Tryz.prog 18 [im (.sl r (o+18) (18+kk-18) (C-18)) (.sl r (if C=20+kk then o else o+(20+kk)) (l.length-(20+kk)) (C-(20+kk))) (beN (l.take 8)) (beN ((l.drop 8).take 8))] H' nx' (fun q=>q=(.sc (.bool (gV (nI l))),H',nx')):=fun H' nx' h=>oR (hat H' h).is
   have l2:((l.drop (18+kk)).take 2).length=2:=by rw [Ke,Kh];omega
   have g2: ∀ (H':au) (nx':Nat),H'.at' r=H7.at' r→Fnc Tryz.prog 78 [.sl r (o+(18+kk)) (20+kk-(18+kk)) (C-(18+kk))] H' nx' (fun q=>q=(.sc (.int .u64 (beN ((l.drop (18+kk)).take 2):Int)),H',nx')):=fun H' nx' h=>nD (by
    have:=(Gr (hB1 H' (h.trans br)) (i:=18+kk) (n:=2) (by omega)).bs (C:=C-(18+kk))
    rw [show 20+kk-(18+kk)=2 by omega]
    rwa [l2] at this) (by omega)
   have hn2:=mD ((l.drop (18+kk)).take 2)
   rw [l2] at hn2
   generalize beN ((l.drop (18+kk)).take 2)=n2 at hn2 hv g2
   repeat apply ah;rfl
   cases hm:gV (nI l)with
   | false=>
     rw [hm] at cM
     have hno:ofR l=none:=by rw [hv,Ka (fun h=>by rw [hm] at h;cases h.1)]
     (apply gC;(focus(kernel_rfl));(focus(kernel_rfl)))
     refine ej 2 (JL rfl) ?_
     repeat apply dN;rfl;assumption;rfl
     refine aA ?_;(apply er;rfl;rfl;rfl;(focus(kernel_rfl));exact(cM _ _ rfl))
     refine jy ?_
     repeat first|apply aW;rfl|apply cy;rfl;rfl|refine rD (dg (F.sz _ rfl) rfl rfl rfl (by assumption) (by rfl) (by exact JL rfl) (by rfl)) rfl rfl ?_
     refine aA ⟨by kernel_rfl,?_,?_⟩;(focus(repeat(first|exact KO|refine⟨.inl rfl,?_⟩|refine⟨.inr (.inl (by(repeat(refine⟨(by first|exact mN rfl|exact aU (F.ag _ rfl) rfl (by repeat(first|assumption|refine ab (by omega) ?_)) (ak _ 0 rfl rfl)),?_⟩));exact KO)),?_⟩|refine⟨.inr (.inr (by(repeat(refine⟨(by exact eH rfl (by kernel_rfl) (by(exact cM _ _ (by(repeat(refine ab (by omega) ?_));rfl)))),?_⟩));exact KO)),?_⟩)))
     ((apply bw Tryz.func36 (congrArg Array.toList Tryz.results36));(focus(repeat(first|exact KF|apply KH rfl|apply KG rfl (KI (F.ag _ rfl) (by repeat(exact ac)) (ak _ 0 rfl rfl))))))
     rw [hno,hvb]
     exact⟨rfl,by dsimp only;omega,fun m hm=>by(repeat(refine ab (by omega) ?_));exact bo m hm⟩
   | true=>
     rw [hm] at cM
     (apply gC;(focus(kernel_rfl));(focus(kernel_rfl)))
     refine ej 2 (JL rfl) ?_
     repeat apply dN;rfl;assumption;rfl
     refine aA ?_;(apply er;rfl;rfl;rfl;(focus(kernel_rfl));exact(cM _ _ rfl))
     refine ej 7 (JL rfl) ?_
     repeat first|apply aW;rfl|refine bp (aw rfl rfl (.inl ⟨rfl,(JH _ ⟨(by focus(omega)),(by focus(omega))⟩).symm⟩)) rfl rfl rfl ?_|apply bG;rfl;rfl;exact(fun _ h=>by cases h);exact(dc (l:=18+kk) (h:=20+kk) (F.un _ rfl) (F.sz _ rfl) rfl (iy rfl (by omega)) (iy rfl (by omega)) (by omega) (by omega) (Ka (by omega)))
     refine aA ?_;(apply er;rfl;rfl;rfl;(focus(kernel_rfl));exact(g2 _ _ rfl))
     refine jy ?_
     repeat first|apply aW;rfl|apply dN;rfl;assumption;rfl|refine bp (bZ (F.un _ rfl) (F.un _ rfl) rfl (show _=((n2:Nat):Int)from JH _ ⟨by omega,by omega⟩)) rfl rfl rfl ?_|apply bG;rfl;rfl;exact(fun _ h=>by cases h);exact(gH (F.un _ rfl) rfl)
     refine lO rfl rfl rfl rfl (fun e=>?_) (fun e=>?_)
     ·have hyes:ofR l=some (nI l):=by rw [hv,Kb ⟨hm,by omega⟩]
      repeat first|apply aW;rfl|refine rD (dg (F.sz _ rfl) rfl rfl rfl (by assumption) (by rfl) (by exact JL rfl) (by rfl)) rfl rfl ?_
      refine aA ⟨by kernel_rfl,?_,?_⟩;(focus(repeat(first|exact KO|refine⟨.inl rfl,?_⟩|refine⟨.inr (.inl (by(repeat(refine⟨(by first|exact mN rfl|exact aw rfl rfl (.inl ⟨rfl,(JH _ ⟨by omega,by omega⟩).symm⟩)|exact an (F.ag _ rfl) rfl (by repeat(first|assumption|refine ab (by omega) ?_)) (aD rfl)|exact aU (F.ag _ rfl) rfl (by repeat(first|assumption|refine ab (by omega) ?_)) (ak _ 0 rfl rfl)|exact dc (l:=18+kk) (h:=20+kk) (F.un _ rfl) (F.sz _ rfl) rfl (iy rfl (by omega)) (iy rfl (by omega)) (by omega) (by omega) (Ka (by omega))|exact gH (F.un _ rfl) rfl|exact bZ (F.un _ rfl) (F.un _ rfl) rfl (show _=((n2:Nat):Int)from JH _ ⟨by omega,by omega⟩)|exact dy rfl rfl (.inl ⟨rfl,(Kt (by omega)).symm⟩)),?_⟩));exact KO)),?_⟩|refine⟨.inr (.inr (by(repeat(refine⟨(by exact eH rfl (by kernel_rfl) (by first|exact cM _ _ (by(repeat(refine ab (by omega) ?_));rfl)|exact g2 _ _ (by(repeat(refine ab (by omega) ?_));rfl))),?_⟩));exact KO)),?_⟩)))
      ((apply bw Tryz.func36 (congrArg Array.toList Tryz.results36));(focus(repeat(first|exact KF|apply KH rfl|apply KG rfl (KI (F.ag _ rfl) (by repeat(exact ac)) (ak _ 0 rfl rfl))))))
      rw [hyes,hvb]
      exact⟨rfl,by dsimp only;omega,fun m hm=>by(repeat(refine ab (by omega) ?_));exact bo m hm⟩
     ·have hno:ofR l=none:=by rw [hv,Ka (fun h=>by have:=h.2;omega)]
      repeat first|apply aW;rfl|refine rD (dg (F.sz _ rfl) rfl rfl rfl (by assumption) (by rfl) (by exact JL rfl) (by rfl)) rfl rfl ?_
      refine aA ⟨by kernel_rfl,?_,?_⟩;(focus(repeat(first|exact KO|refine⟨.inl rfl,?_⟩|refine⟨.inr (.inl (by(repeat(refine⟨(by first|exact mN rfl|exact aw rfl rfl (.inl ⟨rfl,(JH _ ⟨by omega,by omega⟩).symm⟩)|exact an (F.ag _ rfl) rfl (by repeat(first|assumption|refine ab (by omega) ?_)) (aD rfl)|exact aU (F.ag _ rfl) rfl (by repeat(first|assumption|refine ab (by omega) ?_)) (ak _ 0 rfl rfl)|exact dc (l:=18+kk) (h:=20+kk) (F.un _ rfl) (F.sz _ rfl) rfl (iy rfl (by omega)) (iy rfl (by omega)) (by omega) (by omega) (Ka (by omega))|exact gH (F.un _ rfl) rfl|exact bZ (F.un _ rfl) (F.un _ rfl) rfl (show _=((n2:Nat):Int)from JH _ ⟨by omega,by omega⟩)|exact dy rfl rfl (.inl ⟨rfl,(Ku (by omega)).symm⟩)),?_⟩));exact KO)),?_⟩|refine⟨.inr (.inr (by(repeat(refine⟨(by exact eH rfl (by kernel_rfl) (by first|exact cM _ _ (by(repeat(refine ab (by omega) ?_));rfl)|exact g2 _ _ (by(repeat(refine ab (by omega) ?_));rfl))),?_⟩));exact KO)),?_⟩)))
      ((apply bw Tryz.func36 (congrArg Array.toList Tryz.results36));(focus(repeat(first|exact KF|apply KH rfl|apply KG rfl (KI (F.ag _ rfl) (by repeat(exact ac)) (ak _ 0 rfl rfl))))))
      rw [hno,hvb]
      exact⟨rfl,by dsimp only;omega,fun m hm=>by(repeat(refine ab (by omega) ?_));exact bo m hm⟩
theorem rP(hi:12≤i):(bareP p)[i]? =p[i]? :=by
 unfold bareP
 rw [Kk (by rw [Kn];omega),Kn,List.getElem?_drop,show 12+(i-12)=i by omega]
theorem CG(hi:i<12):(bareP p)[i]? =some 0:=by
 unfold bareP
 rw [JW (by rw [Kn];exact hi),List.getElem?_replicate,Kb hi]
theorem og(ho:12≤o):gu (bareP p) o=gu p o:=jj fun i h1 h2=>rP (by omega)
theorem tU(p:List UInt8)(hp:p.length=1024):bareP (bareP p)=bareP p:=nl (dp hp) fun i hi=>CG hi
theorem cC(p:List UInt8):ae (bareP p)=ae p:=og (by decide)
theorem fM(p:List UInt8):aF (bareP p)=aF p:=og (by decide)
theorem f9(p:List UInt8)(j:Nat):ay (bareP p) j=ay p j:=og (by omega)
theorem cI(p:List UInt8)(j:Nat):ar (bareP p) j=ar p j:=og (by omega)
theorem xe(hp:p.length=1024):Okp (bareP p)↔Okp p:=by
 constructor
 ·intro h
  refine⟨hp,?_,?_,fun h1=>?_,fun j hj=>?_,fun i j hij hj hzi hzj=>?_⟩
  ·have:=h.head;rwa [cC,fM] at this
  ·have:=h.top;rwa [fM] at this
  ·have:=h.last (by rw [cC];exact h1);rwa [cC,cI] at this
  ·have:=h.slot j (by rw [cC];exact hj);rwa [f9,cI,fM] at this
  ·have:=h.apart i j hij (by rw [cC];exact hj) (by rw [cI];exact hzi) (by rw [cI];exact hzj)
   rwa [f9,cI,f9,cI] at this
 ·intro h
  refine⟨dp hp,?_,?_,fun h1=>?_,fun j hj=>?_,fun i j hij hj hzi hzj=>?_⟩
  ·rw [cC,fM];exact h.head
  ·rw [fM];exact h.top
  ·rw [cC] at h1 ⊢;rw [cI];exact h.last h1
  ·rw [cC] at hj;rw [f9,cI,fM];exact h.slot j hj
  ·rw [cC] at hj;rw [cI] at hzi hzj;rw [f9,cI,f9,cI];exact h.apart i j hij hj hzi hzj
theorem nk(hp:p.length=1024):bj (bareP p)=bj p:=by
 rw [Bool.eq_iff_iff,aZ (dp hp),aZ hp,xe hp]
theorem AY(p:List UInt8):kP (bareP p)=kP p:=xX (rP (by decide))
theorem px(h:Okp p){j:Nat}(hj:j<ae p)(hz:ar p j≠0):aS (bareP p) j=aS p j:=by
 have h1:=h.slot j hj
 have h2:=h.head
 unfold aS
 rw [f9,cI]
 exact ii fun i h3 h4=>rP (by omega)
theorem CK{l:List Nat}{f g:Nat→Bool}(h: ∀ x∈l,f x=g x):l.any f=l.any g:=by
 induction l with
 | nil=>rfl
 | cons a l ih=>rw [List.any_cons,List.any_cons,h a Ki,ih fun x hx=>h x (Kj _ hx)]
theorem CI(h:Okp p):ug (bareP p)=ug p:=by
 unfold ug
 rw [cC]
 refine CK fun j hj=>?_
 have hj:=Kw.1 hj
 rw [cI]
 by_cases hz:ar p j=0
 ·rw [Ku (fun h=>h hz)];rfl
 ·rw [px h hj hz]
theorem vj(hp:p.length=1024):fE (bareP p)=fE p:=by
 unfold fE
 rw [tU p hp]
theorem pw(hp:p.length=1024):aM (bareP p)=(bareP (aM p).1,(aM p).2):=by
 unfold aM
 rw [vj hp,nk hp,AY]
 split
 ·exact Prod.ext good_init.bareP.symm rfl
 ·split
  ·exact Prod.ext bare_zero.symm rfl
  ·rename_i h
   have hr:bj p=true:=by cases h2:bj p with|true=>rfl|false=>exact absurd (.inl h2) h
   rw [CI ((aZ hp).1 hr)]
   split
   ·exact Prod.ext bare_zero.symm rfl
   ·rfl
theorem A0(p:List UInt8)(k:Nat):cm (bareP p) k=cm p k:=by
 unfold cm
 rw [cC,cI,f9]
theorem tT{n:Nat}{p:List UInt8}(h:Okp p): ∀ j,j≤ae p→dw n (bareP p) j=dw n p j
 | 0,_=>rfl
 | j+1,hj=>by
   show dw n (bareP p) j ++ _=dw n p j ++ _
   rw [tT h j (by omega),cI]
   by_cases hz:ar p j=0
   ·rw [Kb hz,Kb hz]
   ·rw [Ka hz,Ka hz,px h (by omega) hz]
theorem yf(h:Okp p):lY n (bareP p)=lY n p:=by
 unfold lY
 rw [cC]
 exact tT h _ (JZ _)
theorem xf{pf:Nat→List UInt8}(hpf: ∀ n,n<128→(pf n).length=1024): ∀ k n,n+k≤128→gT (fun n=>bareP (pf n)) k n=gT pf k n
 | 0,n,_=>rfl
 | k+1,n,hn=>by
   have hp:=hpf n (by omega)
   have ih:=xf hpf k (n+1) (by omega)
   have hb:=pw hp
   unfold gT
   rw [ih]
   (try dsimp only)
   rw [hb]
   (try dsimp only)
   split
   ·rfl
   ·rename_i h
    have h:(aM (pf n)).2=0:=Decidable.not_not.1 h
    obtain⟨h1,h2,_⟩:=cj (p:=pf n) (q:=(aM (pf n)).1) (Prod.ext rfl h) hp
    rw [yf ((aZ h1).1 h2)]
theorem AZ(hpf: ∀ n,n<128→(pf n).length=1024)(n k:Int):mn (fun n=>bareP (pf n)) n k=mn pf n k:=by
 unfold mn
 split
 ·rfl
 ·rename_i hm
  have hm:lQ n k=true:=by cases h:lQ n k with|true=>rfl|false=>exact absurd h hm
  have hm:=Km hm
  have hp:=hpf n.toNat (by omega)
  have hb:=pw hp
  rw [hb]
  dsimp only
  split
  ·rfl
  ·rename_i h
   have h:(aM (pf n.toNat)).2=0:=Decidable.not_not.1 h
   obtain⟨h1,h2,_⟩:=cj (p:=pf n.toNat) (q:=(aM (pf n.toNat)).1) (Prod.ext rfl h) hp
   rw [A0]
   split
   ·rfl
   ·rename_i h3
    have h4:k.toNat<ae (aM (pf n.toNat)).1∧ar (aM (pf n.toNat)).1 k.toNat≠0:=by
     unfold cm at h3
     split at h3
     ·exact absurd (by decide) h3
     ·split at h3
      ·exact absurd (by decide) h3
      ·exact⟨by omega,by assumption⟩
    rw [px ((aZ h1).1 h2) h4.1 h4.2]
theorem ql(p:List UInt8):aY (bareP p)=aY p:=by
 unfold aY
 rw [cC]
 exact mX fun j _ _=>cI p j
theorem AX(hp:p.length=1024):dx (bareP p)=dx p:=by
 unfold dx fg
 rw [nk hp,fM,cC,ql]
theorem sy(h:Okp p):dx (iM p)=1024-bU p (ae p)-18-4*ae p-(if aY p=ae p then 4 else 0):=by
 have g:=oL h
 have hr:bj (iM p)=true:=(aZ g.len).2 (g.ok h)
 unfold dx fg
 rw [Kb hr,g.begins,g.slots,g.empty]
theorem Ao(hp:p.length=1024)(hr:bj p=true)(h1:1≤it.length)(h2:it.length≤1000):(eW p it).2=if it.length≤dx p∨it.length≤dx (iM p) then(aY p,0) else(0,5):=by
 have hok:=(aZ hp).1 hr
 have g:=oL hok
 have hr2:bj (iM p)=true:=(aZ g.len).2 (g.ok hok)
 have hins: ∀ q:List UInt8,bj q=true→(mI q it).2=if it.length≤dx q then(aY q,0) else(0,5):=fun q hq=>by
  unfold mI
  rw [Ka (by rw [hq];decide),Ka (fun h=>h ⟨h1,h2⟩)]
  have:dx q=fg q:=by unfold dx;rw [Kb hq]
  rw [this]
  by_cases h:it.length≤fg q
  ·rw [Ka (by omega),Kb h]
  ·rw [Kb (by omega),Ka h]
 unfold eW gm
 by_cases h:it.length≤dx p
 ·rw [Ka (by omega),hins p hr,Kb h,Kb (.inl h)]
 ·rw [Kb (by omega)]
  unfold iN
  rw [Kb hr]
  dsimp only
  rw [hins _ hr2,g.empty]
  by_cases h3:it.length≤dx (iM p)
  ·rw [Kb h3,Kb (.inr h3)]
  ·rw [Ka h3,Ka (by omega)]
theorem CF(p:List UInt8): ∀ n,bU (bareP p) n=bU p n:=fun n=>vH fun j _=>cI p j
theorem CE(hp:p.length=1024)(hr:bj p=true)(h1:1≤it.length)(h2:it.length≤1000):(eW (bareP p) it).2=(eW p it).2:=by
 have hok:=(aZ hp).1 hr
 have hb:=(xe hp).2 hok
 rw [Ao hp hr h1 h2,Ao (dp hp) (by rw [nk hp];exact hr) h1 h2,AX hp,sy hok,sy hb,CF,cC,ql]
theorem CH(hpf: ∀ n,n<128→(pf n).length=1024)(h1:1≤it.length)(h2:it.length≤1000): ∀ k n,n+k≤128→(ci (fun n=>bareP (pf n)) it k n).1=(ci pf it k n).1∧(ci (fun n=>bareP (pf n)) it k n).2.1=(ci pf it k n).2.1∧(ci (fun n=>bareP (pf n)) it k n).2.2.1=(ci pf it k n).2.2.1:=by
 intro k
 induction k with
 | zero=>exact fun n _=>⟨rfl,rfl,rfl⟩
 | succ k ih=>
   intro n hn
   have hp:=hpf n (by omega)
   have ih:=ih (n+1) (by omega)
   have hb:=pw hp
   have e1:ci (fun n=>bareP (pf n)) it (k+1) n=if(aM (bareP (pf n))).2≠0 then(13,0,0,zeroP) else if(eW (aM (bareP (pf n))).1 it).2.2≠0 then ci (fun n=>bareP (pf n)) it k (n+1) else(0,n,(eW (aM (bareP (pf n))).1 it).2.1,(eW (aM (bareP (pf n))).1 it).1):=rfl
   have e2:ci pf it (k+1) n=if(aM (pf n)).2≠0 then(13,0,0,zeroP) else if(eW (aM (pf n)).1 it).2.2≠0 then ci pf it k (n+1) else(0,n,(eW (aM (pf n)).1 it).2.1,(eW (aM (pf n)).1 it).1):=rfl
   rw [hb] at e1
   dsimp only at e1
   by_cases h:(aM (pf n)).2=0
   ·rw [Ka (fun g=>g h)] at e1 e2
    obtain⟨h3,h4,_⟩:=cj (p:=pf n) (q:=(aM (pf n)).1) (Prod.ext rfl h) hp
    have h5:=CE (it:=it) h3 h4 h1 h2
    rw [h5] at e1
    by_cases h6:(eW (aM (pf n)).1 it).2.2=0
    ·rw [Ka (fun g=>g h6)] at e1 e2
     rw [e1,e2]
     exact⟨by dsimp only,by dsimp only,by dsimp only⟩
    ·rw [Kb h6] at e1 e2
     rw [e1,e2]
     exact ih
   ·rw [Kb h] at e1 e2
    rw [e1,e2]
    exact⟨rfl,rfl,rfl⟩
abbrev hpO(hm:List UInt8):VO:=aq 33 ((byV hm).map .sc)
theorem gJ(hl:hm.length=98304)(hn:n<96):(az hm n).length=1024:=by
 unfold az
 rw [Ke,Kh]
 omega
theorem Cc(hl:hm.length=98304)(hn:n<96):(hpO hm).cellsFrom (0+n*1024) 1024=some (pgS (az hm n)):=by
 refine ak _ _ ?_ (by rw [bh (gJ hl hn)])
 unfold az
 rw [Kc,Nat.mul_comm]
 simp [List.map_take,List.map_drop]
def sE(p:List UInt8):List UInt8×Bool:=if(aM (bareP p)).2=0 then((aM (bareP p)).1,true) else(bareP p,false)
theorem sD(hp:p.length=1024):(sE p).1.length=1024:=by
 unfold sE
 split
 ·rename_i h
  exact(cj (p:=bareP p) (q:=(aM (bareP p)).1) (Prod.ext rfl h) (dp hp)).1
 ·exact dp hp
abbrev BN(r:List UInt8×Bool):SV:= .tup [.agg (pgS r.1),.sc (.bool r.2)]
theorem kP_at(hp:p.length=1024):kP p=(p[12]'(by omega)).toNat:=by
 unfold kP
 rw [JU,JJ (by omega)]
 rfl
theorem l5{hb:Nat}(hH:H.at' hb=some (hpO hm))(hl:hm.length=98304)(hn:n<96):Fnc Tryz.prog 34 [.ptr hb 0,.sc (.int .i64 (n:Int))] H nx (fun q=>q=(BN (sE (az hm n)),H,nx)):=by
 refine Fnc.bA (Free.two (Free.agg _) (Free.sc _)) ?_
 have hpl:=gJ hl hn
 have hbl:=dp hpl
 have hbb:=tU _ hpl
 refine KE Tryz.func34 rfl rfl ?_
 refine aV fun hund=>?_
 have lH:=hund _ _ hH
 have hv0:sE (az hm n)=if(aM (bareP (az hm n))).2=0 then((aM (bareP (az hm n))).1,true) else(bareP (az hm n),false):=rfl
 repeat first|refine be rfl rfl cq ?_|apply ah;rfl|apply gB (q:=n);rfl;rfl;rfl;rfl;exact(F.un _ rfl);exact(F.sz _ rfl);(focus(omega));(focus(omega))
 refine ee rfl rfl rfl (F.ag _ rfl) (by(repeat(refine ab (by omega) ?_));exact hH) (Cc hl hn) ?_
 have hbs:=fun(H:au) nx=>Jv (H:=H) (nx:=nx) hpl
 rw [hv0]
 clear hv0
 generalize bareP (az hm n)=p at hbl hbb hbs ⊢
 repeat first|apply bJ hbl aj;rfl;(focus((repeat(exact ac));done))|refine be rfl rfl cq ?_|apply ah;rfl|apply aG;rfl;(focus((repeat(first|exact ac|refine ab (by omega) ?_));done));rfl|apply bW;rfl;kernel_rfl;exact hbs _ _|apply bB hbl;rfl;(focus((repeat(first|exact ac|refine ab (by omega) ?_));done))
 cases hz:decide (p=zeroP)with
 | true=>
   have hrd:aM p=(fJ 4,0):=by unfold aM;rw [Kb (by unfold fE;rw [hbb];exact hz)]
   have hil:(fJ 4).length=1024:=fX 4
   have hi:=fun(H:au) nx=>EM (H:=H) (nx:=nx) 4
   rw [hrd,Kb rfl]
   generalize fJ 4=y at hil hi ⊢
   refine cf (qK hbl aj rfl rfl) rfl rfl rfl ?_
   rw [hz]
   repeat first|apply bJ hil aj;rfl;(focus((repeat(first|exact ac|refine ab (by omega) ?_));done))|apply ah;rfl|apply bW;rfl;kernel_rfl;exact hi _ _
   ((apply bw Tryz.func34 (congrArg Array.toList Tryz.results34));(focus((apply KG rfl (KI (F.ag _ rfl) (by repeat(exact ac)) (bv hil)));(repeat(first|exact KF|apply KH rfl)))))
   exact⟨rfl,by dsimp only;omega,fun m hm=>by(repeat(refine ab (by omega) ?_));rfl⟩
 | false=>
   have hun: ¬ fE p=true:=by unfold fE;rw [hbb,hz];decide
   refine cf (qK hbl aj rfl rfl) rfl rfl rfl ?_
   rw [hz]
   repeat first|apply bB hbl;rfl;(focus((repeat(first|exact ac|refine ab (by omega) ?_));done))|apply ah;rfl
   refine aE rfl rfl rfl (by kernel_rfl) (KD (p9 hbl) ?_)
   rintro⟨_,H2,n2⟩ ⟨g1,g2,(⟨hr,rfl⟩|⟨hr,r,rfl,g3,g4,g5⟩)⟩
   ·dsimp only at g1 g2 ⊢
    have hrd:aM p=(zeroP,13):=by unfold aM;rw [Ka hun,Kb (.inl hr)]
    rw [hrd,Ka (by decide)]
    have k1:H2.at' nx=some (pgO zeroP):=(g2 _ (by omega)).trans (by repeat(first|exact ac|refine ab (by omega) ?_))
    have k2:H2.at' (nx+1)=some (pgO p):=(g2 _ (by omega)).trans (by repeat(first|exact ac|refine ab (by omega) ?_))
    have ko: ∀ m,m<nx→H2.at' m=H.at' m:=fun m hm=>(g2 m (by omega)).trans (by(repeat(refine ab (by omega) ?_));rfl)
    clear g2
    repeat first|apply bB hbl;rfl;assumption|apply bJ hbl aj;rfl;assumption|apply ah;rfl
    ((apply bw Tryz.func34 (congrArg Array.toList Tryz.results34));(focus((apply KG rfl (KI (F.ag _ rfl) (by repeat(exact ac)) (bv hbl)));(repeat(first|exact KF|apply KH rfl)))))
    exact⟨rfl,by dsimp only;omega,fun m hm=>by(repeat(refine ab (by omega) ?_));exact ko m hm⟩
   ·dsimp only at g1 g2 g3 g4 g5 ⊢
    have hok:=(aZ hbl).1 hr
    have hh:=hok.head
    have ht:=hok.top
    have hll:=eT p (ae p)
    have k1:H2.at' nx=some (pgO zeroP):=(g2 _ (by omega)).trans (by repeat(first|exact ac|refine ab (by omega) ?_))
    have k2:H2.at' (nx+1)=some (pgO p):=(g2 _ (by omega)).trans (by repeat(first|exact ac|refine ab (by omega) ?_))
    have ko: ∀ m,m<nx→H2.at' m=H.at' m:=fun m hm=>(g2 m (by omega)).trans (by(repeat(refine ab (by omega) ?_));rfl)
    clear g2
    have hk:=kP_at hbl
    have hc12:(pgO p).cell (0+12*1)=some (.sc (.int .u8 ((p[12]'(by omega)).toNat:Int))):=nX (p:=p) (i:=12) (by omega)
    have hrd:aM p=if kP p≠4 then(zeroP,13) else if ug p=true then(zeroP,13) else(p,0):=by
     unfold aM
     rw [Ka hun]
     by_cases h4:kP p=4
     ·rw [Ka (fun h=>by rcases h with h|h;rw [hr] at h;cases h;exact h h4),Ka (show ¬ (kP p≠4)from fun h=>h h4)]
     ·rw [Kb (.inr h4),Kb h4]
    rw [← hk] at hc12
    repeat first|apply ah;rfl|apply gB (q:=12);rfl;rfl;rfl;rfl;exact(F.un _ rfl);exact(F.sz _ rfl);(focus(omega));(focus(omega))|refine cf (an (F.ag _ rfl) rfl k2 hc12) rfl rfl rfl ?_
    by_cases h4:kP p=4
    ·rw [Ka (show ¬ (kP p≠4)from fun h=>h h4)] at hrd
     repeat first|apply ah;rfl|apply dA;rfl;omega
     refine bE (α:=Nat) (fun j=> [(4,.ptr nx 0),(6,.ptr (nx+1) 0),(8,.slu r 0 (eN p (ae p)).length),(10,.sc (.int .i64 (j:Int)))])
      (fun j H3 n3=>j≤ae p∧(∀ i,i<j→ar p i≠0→(ofV (aS p i)).isSome=true)∧r<n3∧H3.at' nx=some (pgO zeroP)∧H3.at' (nx+1)=some (pgO p)∧H3.at' r=some (slO (eN p (ae p)))∧ ∀ m,m<nx→H3.at' m=H.at' m) (fun j=>ae p-j) 0
      ⟨J0 _,fun i hi=>absurd hi (Nat.not_lt_zero _),g4,k1,k2,g5,ko⟩ (KK (KN rfl)) ?_
     clear k1 k2 ko g5
     rintro j H3 n3 ⟨j1,j2,j3,j4,j5,j6,j7⟩ ih
     repeat apply ah;rfl
     refine bu rfl rfl rfl rfl (fun h6=>?_) (fun h6=>?_)
     ·have hj:j<ae p:=by omega
      have hcS:=iG p hj
      have hcF:=jL p hj
      have hg:ar p j<65536:=cV p _
      repeat first|refine dH (q:=j) rfl rfl rfl rfl (F.un _ rfl) (F.sz _ rfl) (by assumption) (by omega) (by(omega)) (JZ _) ?_|refine cf (an (F.ag _ rfl) rfl j6 hcS) rfl rfl rfl ?_|apply ah;rfl
      by_cases hs:ar p j=0
      ·repeat first|apply ll;rfl;omega|apply ah;rfl|apply aL;rfl;omega;omega
       exact ih _ _ _ (j+1) ⟨hj,fun i h1 h2=>(by
        rcases Kd i j with h3|h3
        ·exact j2 i h3 h2
        ·obtain rfl:i=j:=by omega
         exact absurd hs h2),j3,j4,j5,j6,j7⟩ (by omega) (KK (KN rfl))
      ·have hsl:=db hr hj hs
       have hil:=dL hbl (j:=j) hsl.2.2.2
       have hba: ∀ H:au,H.at' (nx+1)=some (pgO p)→BlkAt H (nx+1) (ay p j) (aS p j):=fun H h=>⟨_,h,by
        rw [hil]
        refine ak _ _ ?_ (by simp only [Kf];omega)
        unfold aS
        simp [List.map_take,List.map_drop]⟩
       have hof: ∀ (H:au) nx',H.at' (nx+1)=some (pgO p)→Fnc Tryz.prog 36 [.sl (nx+1) (ay p j) (ar p j) (1024-ay p j)] H nx' (fun q=>q=(.tup [yO (nx+1) (ay p j) (1024-ay p j) (aS p j),.sc (.bool (ofV (aS p j)).isSome)],H,nx')):=fun H nx' h=>by
        have:=HR (H:=H) (nx:=nx') (r:=nx+1) (o:=ay p j) (C:=1024-ay p j) (l:=aS p j) (hba H h) (by omega) (by omega)
        rwa [hil,←of_eq] at this
       obtain⟨vk,vw,vx,vy,hve,hv1,hv2⟩:=yM (nx+1) (ay p j) (1024-ay p j) (aS p j)
       rw [hve] at hof
       have hone:bm (dB vk vw vx vy)=true:=by simp only [bm,hv1,hv2];rfl
       repeat first|apply pG;rfl;omega|apply ah;rfl
       cases hb:(ofV (aS p j)).isSome with
       | true=>
         rw [hb] at hof
         (apply gC;(focus(kernel_rfl));(focus(kernel_rfl)))
         refine ej 17 (JL rfl) ?_
         repeat first|refine aI (q:=j) rfl rfl rfl rfl (F.un _ rfl) (F.sz _ rfl) (by assumption) (by omega) (by(omega)) (JZ _) ?_|refine bp (an (F.ag _ rfl) rfl j6 hcF) rfl rfl rfl ?_|refine bp (an (F.ag _ rfl) rfl j6 hcS) rfl rfl rfl ?_|apply bG;rfl;rfl;exact(fun _ h=>by cases h);exact(ge (l:=ay p j) (h:=ay p j+ar p j) (F.un _ rfl) (F.sz _ rfl) rfl rfl rfl (by omega) (by omega) (by omega) (show ay p j+ar p j-ay p j=ar p j by omega) rfl (Kc _))|apply aW;rfl|refine bp (aw rfl rfl (.inl ⟨rfl,(JH _ ⟨(by focus(omega)),(by focus(omega))⟩).symm⟩)) rfl rfl rfl ?_
         refine aA ?_;(apply er;rfl;rfl;rfl;(focus(kernel_rfl));exact(hof _ _ j5))
         refine jy ?_
         repeat first|refine bY rfl rfl rfl (F.sz _ rfl) (by repeat(first|assumption|exact ac)) rfl (by exact JL rfl) hone rfl ?_|apply aW;rfl|refine pR (fp (F.zl _ rfl)) rfl rfl rfl ?_
         refine aA ⟨by kernel_rfl,?_,?_⟩;(focus(repeat(first|exact KO|refine⟨.inl rfl,?_⟩|refine⟨.inr (.inl (by(repeat(refine⟨(by first|exact mN rfl|exact aw rfl rfl (.inl ⟨rfl,(JH _ ⟨by omega,by omega⟩).symm⟩)|exact an (F.ag _ rfl) rfl (by(repeat(refine ab (by omega) ?_));exact j6) hcF|exact an (F.ag _ rfl) rfl (by(repeat(refine ab (by omega) ?_));exact j6) hcS|exact aO (F.un _ rfl) (F.sz _ rfl) rfl rfl (by(repeat(refine ab (by omega) ?_));exact j6) rfl (by omega) (JZ _)|exact ge (l:=ay p j) (h:=ay p j+ar p j) (F.un _ rfl) (F.sz _ rfl) rfl rfl rfl (by omega) (by omega) (by omega) (show ay p j+ar p j-ay p j=ar p j by omega) rfl (Kc _)),?_⟩));exact KO)),?_⟩|refine⟨.inr (.inr (by(repeat(refine⟨(by exact eH rfl (by kernel_rfl) (by exact hof _ _ (by(repeat(refine ab (by omega) ?_));exact j5))),?_⟩));exact KO)),?_⟩)))
         repeat first|apply ah;rfl|apply aL;rfl;omega;omega
         exact ih _ _ _ (j+1) ⟨hj,fun i h1 h2=>(by
          rcases Kd i j with h3|h3
          ·exact j2 i h3 h2
          ·obtain rfl:i=j:=by omega
           exact hb),by first|omega|(dsimp only;omega),by repeat(first|assumption|refine ab (by omega) ?_),by repeat(first|assumption|refine ab (by omega) ?_),by repeat(first|assumption|refine ab (by omega) ?_),fun m hm=>by(repeat(refine ab (by omega) ?_));exact j7 m hm⟩ (by omega) (KK (KN rfl))
       | false=>
         rw [hb] at hof
         have hbad:ug p=true:=List.any_eq_true.2 ⟨j,Kw.2 hj,by rw [Kt hs];cases h9:ofV (aS p j)with|none=>rfl|some v=>rw [h9] at hb;cases hb⟩
         rw [Kb hbad] at hrd
         rw [hrd,Ka (by decide)]
         (apply gC;(focus(kernel_rfl));(focus(kernel_rfl)))
         refine ej 17 (JL rfl) ?_
         repeat first|refine aI (q:=j) rfl rfl rfl rfl (F.un _ rfl) (F.sz _ rfl) (by assumption) (by omega) (by(omega)) (JZ _) ?_|refine bp (an (F.ag _ rfl) rfl j6 hcF) rfl rfl rfl ?_|refine bp (an (F.ag _ rfl) rfl j6 hcS) rfl rfl rfl ?_|apply bG;rfl;rfl;exact(fun _ h=>by cases h);exact(ge (l:=ay p j) (h:=ay p j+ar p j) (F.un _ rfl) (F.sz _ rfl) rfl rfl rfl (by omega) (by omega) (by omega) (show ay p j+ar p j-ay p j=ar p j by omega) rfl (Kc _))|apply aW;rfl|refine bp (aw rfl rfl (.inl ⟨rfl,(JH _ ⟨(by focus(omega)),(by focus(omega))⟩).symm⟩)) rfl rfl rfl ?_
         refine aA ?_;(apply er;rfl;rfl;rfl;(focus(kernel_rfl));exact(hof _ _ j5))
         refine jy ?_
         repeat first|refine bY rfl rfl rfl (F.sz _ rfl) (by repeat(first|assumption|exact ac)) rfl (by exact JL rfl) hone rfl ?_|apply aW;rfl|refine pR (fp (F.zl _ rfl)) rfl rfl rfl ?_
         refine aA ⟨by kernel_rfl,?_,?_⟩;(focus(repeat(first|exact KO|refine⟨.inl rfl,?_⟩|refine⟨.inr (.inl (by(repeat(refine⟨(by first|exact mN rfl|exact aw rfl rfl (.inl ⟨rfl,(JH _ ⟨by omega,by omega⟩).symm⟩)|exact an (F.ag _ rfl) rfl (by(repeat(refine ab (by omega) ?_));exact j6) hcF|exact an (F.ag _ rfl) rfl (by(repeat(refine ab (by omega) ?_));exact j6) hcS|exact aO (F.un _ rfl) (F.sz _ rfl) rfl rfl (by(repeat(refine ab (by omega) ?_));exact j6) rfl (by omega) (JZ _)|exact ge (l:=ay p j) (h:=ay p j+ar p j) (F.un _ rfl) (F.sz _ rfl) rfl rfl rfl (by omega) (by omega) (by omega) (show ay p j+ar p j-ay p j=ar p j by omega) rfl (Kc _)),?_⟩));exact KO)),?_⟩|refine⟨.inr (.inr (by(repeat(refine⟨(by exact eH rfl (by kernel_rfl) (by exact hof _ _ (by(repeat(refine ab (by omega) ?_));exact j5))),?_⟩));exact KO)),?_⟩)))
         repeat first|apply bB hbl;rfl;(focus((repeat(first|assumption|refine ab (by omega) ?_));done))|apply bJ hbl aj;rfl;(focus((repeat(first|assumption|refine ab (by omega) ?_));done))|apply ah;rfl
         ((apply bw Tryz.func34 (congrArg Array.toList Tryz.results34));(focus((apply KG rfl (KI (F.ag _ rfl) (by repeat(exact ac)) (bv hbl)));(repeat(first|exact KF|apply KH rfl)))))
         exact⟨rfl,by dsimp only;omega,fun m hm=>by(repeat(refine ab (by omega) ?_));exact j7 m hm⟩
     ·have hj:j=ae p:=by omega
      have hbad: ¬ ug p=true:=fun h=>by
       obtain⟨i,hi,h2⟩:=List.any_eq_true.1 h
       rw [JY] at h2
       have h3:=j2 i (by have:=Kw.1 hi;omega) (Km h2.1)
       cases h9:ofV (aS p i)with
       | none=>rw [h9] at h3;cases h3
       | some v=>rw [h9] at h2;cases h2.2
      rw [Ka hbad] at hrd
      rw [hrd,Kb rfl]
      repeat first|apply bB hbl;rfl;assumption|apply bJ hbl aj;rfl;assumption|apply ah;rfl
      ((apply bw Tryz.func34 (congrArg Array.toList Tryz.results34));(focus((apply KG rfl (KI (F.ag _ rfl) (by repeat(exact ac)) (bv hbl)));(repeat(first|exact KF|apply KH rfl)))))
      exact⟨rfl,by dsimp only;omega,fun m hm=>by(repeat(refine ab (by omega) ?_));exact j7 m hm⟩
    ·rw [Kb h4] at hrd
     rw [hrd,Ka (by decide)]
     repeat first|apply ah;rfl|apply iA;rfl;omega|apply bB hbl;rfl;assumption|apply bJ hbl aj;rfl;assumption
     ((apply bw Tryz.func34 (congrArg Array.toList Tryz.results34));(focus((apply KG rfl (KI (F.ag _ rfl) (by repeat(exact ac)) (bv hbl)));(repeat(first|exact KF|apply KH rfl)))))
     exact⟨rfl,by dsimp only;omega,fun m hm=>by(repeat(refine ab (by omega) ?_));exact ko m hm⟩
def dfH(hm:List UInt8)(n:Nat):List UInt8:=bareP (az hm (n-32))
theorem E4(hl:hm.length=98304)(h1:32≤n)(h2:n<128):(dfH hm n).length=1024:=dp (gJ hl (by omega))
theorem tz(hl:hm.length=98304)(hn:n<96)(hx:x.length=1024):((byV hm).map SV.sc).take (0+n*1024) ++ pgS x ++ ((byV hm).map SV.sc).drop (0+n*1024+1024)=(byV (fx hm n x)).map SV.sc:=by
 unfold fx bg
 rw [hx,Kc,Nat.mul_comm n]
 show _=(byV (hm.take (1024*n) ++ x ++ hm.drop (1024*n+1024))).map SV.sc
 rw [ku,ku,J4,J4]
 simp only [byV,List.map_take,List.map_drop]
theorem vJ(hl:hm.length=98304)(hn:n<96)(hx:x.length=1024):(fx hm n x).length=98304:=by
 unfold fx
 rw [bS (by omega),hl]
def HH(hm:List UInt8):Option (Nat×List UInt8)→List UInt8
 | none=>hm
 | some (n,x)=>fx hm (n-32) x
theorem Aq(hr:bj (gm p it)=true)(h1:1≤it.length)(h2:it.length≤1000):eW p it=if it.length≤dx (gm p it) then(oT (gm p it) it,aY (gm p it),0) else(zeroP,0,5):=by
 have hre:dx (gm p it)=fg (gm p it):=by
  show(if bj (gm p it)=true then fg (gm p it) else 0)=_
  rw [Kb hr]
 unfold eW mI
 rw [Ka (by rw [hr];decide),Ka (fun h=>h ⟨h1,h2⟩),hre]
 by_cases h:it.length≤fg (gm p it)
 ·rw [Ka (by omega),Kb h]
 ·rw [Kb (by omega),Ka h]
theorem oW{hb:Nat}{s:SV}{v:gj}(hH:H.at' hb=some (hpO hm))(hl:hm.length=98304)(hv:VerIs H s v)(hmay:gV v=true):Fnc Tryz.prog 19 [.ptr hb 0,s] H nx
 (fun q=>q.1 = .tup [.agg [.sc (.int .i64 ((jD (dfH hm) v false).1.1:Int)),.sc (.int .i64 ((jD (dfH hm) v false).1.2.1:Int))],.sc (.int .i64 ((jD (dfH hm) v false).1.2.2:Int))]
   ∧ q.2.1.at' hb=some (hpO (HH hm (jD (dfH hm) v false).2))∧nx≤q.2.2∧ ∀ m,m<nx→m≠hb→q.2.1.at' m=H.at' m):=by
 have hv0:=hv
 obtain⟨k,w,rfl,hk,hw⟩:=hv
 have hmd:=Km hmay
 have hbl:=dT v
 have hM:jD (dfH hm) v false=if(ci (dfH hm) (aQ v) 96 32).1≠0 then((0,0,(ci (dfH hm) (aQ v) 96 32).1),none)
  else(((ci (dfH hm) (aQ v) 96 32).2.1,(ci (dfH hm) (aQ v) 96 32).2.2.1,0),some ((ci (dfH hm) (aQ v) 96 32).2.1,(ci (dfH hm) (aQ v) 96 32).2.2.2)):=by
  unfold jD
  rw [Ka (by rw [hmay];decide)]
  split
  ·rfl
  ·rw [Ka (by decide)]
 rw [hM]
 clear hM
 refine KE Tryz.func19 rfl rfl ?_
 refine aV fun hund=>?_
 have lH:=hund _ _ hH
 have hone:bm (dB k w v.2.2.1 v.2.2.2)=true:=by simp only [bm,cN hk,cN hw];rfl
 repeat first|apply ah;rfl|apply aG;rfl;(focus((repeat(first|exact ac|refine ab (by omega) ?_));done));rfl
 refine aE rfl rfl rfl (by kernel_rfl) (KD (w7 (v:=v) (hv0.frame fun b vo hb'=>(aa _ _ (by have:=hund b vo hb';omega)).trans ((aa _ _ (by have:=hund b vo hb';omega)).trans hb')) hmay) ?_)
 rintro⟨_,H2,n2⟩ ⟨rb,rfl,b1,b2,b3,b4,b5⟩
 dsimp only at b1 b2 b3 b4 b5 ⊢
 have c1:H2.at' (nx+1)=some (dJ 0 0):=(b5 _ (by omega)).trans (by repeat(exact ac))
 have c2:H2.at' hb=some (hpO hm):=(b5 _ (by omega)).trans (by(repeat(refine ab (by omega) ?_));exact hH)
 have co: ∀ m,m<nx→H2.at' m=H.at' m:=fun m hm=>(b5 _ (by omega)).trans (by(repeat(refine ab (by omega) ?_));rfl)
 clear b5
 generalize aQ v=it at hbl b1 ⊢
 have hd0:it.length≤180:=by omega
 have hd1:20≤it.length:=by omega
 clear hbl hmd hone
 repeat apply ah;rfl
 refine bE (α:=Nat) (fun i=> [(0,.ptr hb 0),(4,.ptr (nx+1) 0),(6,.slu rb 0 it.length),(7,.sc (.int .i64 (i:Int)))])
  (fun i H1 n1=>i≤96∧ci (dfH hm) it (96-i) (32+i)=ci (dfH hm) it 96 32∧n2≤n1∧H1.at' (nx+1)=some (dJ 0 0)∧H1.at' hb=some (hpO hm)∧H1.at' rb=some (dat false it.length 1 5 (byV it))∧ ∀ m,m<nx→H1.at' m=H.at' m) (fun i=>96-i) 0
  ⟨J0 _,rfl,JZ _,c1,c2,b1,co⟩ (KK (KN rfl)) ?_
 clear c1 c2 b1 co
 rintro i H1 n1 ⟨i1,i2,i3,i4,i5,i6,i7⟩ ih
 repeat apply ah;rfl
 refine bu rfl rfl rfl rfl (fun h5=>?_) (fun h5=>?_)
 ·have hi:i<96:=by omega
  have hgo:ci (dfH hm) it (96-i) (32+i)=if(aM (dfH hm (32+i))).2≠0 then(13,0,0,zeroP) else if(eW (aM (dfH hm (32+i))).1 it).2.2≠0 then ci (dfH hm) it (96-(i+1)) (32+(i+1)) else(0,32+i,(eW (aM (dfH hm (32+i))).1 it).2.1,(eW (aM (dfH hm (32+i))).1 it).1):=by
   rw [show 96-i=(96-(i+1))+1 by omega]
   rfl
  have hdf:dfH hm (32+i)=bareP (az hm i):=by unfold dfH;rw [show 32+i-32=i by omega]
  have hpl:=gJ hl hi
  have hrl:=sD hpl
  have hv5:sE (az hm i)=if(aM (dfH hm (32+i))).2=0 then((aM (dfH hm (32+i))).1,true) else(bareP (az hm i),false):=by rw [hdf];rfl
  rw [i2] at hgo
  have hrs:=fun(H:au) nx (h:H.at' hb=some (hpO hm))=>l5 (nx:=nx) h hl hi
  by_cases he:(aM (dfH hm (32+i))).2=0
  ·rw [Kb he] at hv5
   rw [Ka (fun g=>g he)] at hgo
   obtain⟨hql,hqr,_⟩:=cj (p:=dfH hm (32+i)) (q:=(aM (dfH hm (32+i))).1) (Prod.ext rfl he) (E4 hl (by omega) (by omega))
   rw [hv5] at hrs hrl
   clear hv5 hdf he
   generalize (aM (dfH hm (32+i))).1=q at hrl hrs hql hqr hgo
   dsimp only [BN] at hrl hrs
   have hro:=fun(H:au) nx=>ur (H:=H) (nx:=nx) hql
   repeat first|apply bJ hql aj;rfl;(focus((repeat(exact ac));done))|refine be rfl rfl cq ?_|apply ah;rfl|apply bW;rfl;kernel_rfl;exact hrs _ _ i5|apply bB hql;rfl;(focus((repeat(exact ac));done))|apply bW;rfl;kernel_rfl;exact hro _ _
   have hx:=Aq (p:=q) (it:=it) (by
    unfold gm iN
    rw [Kb hqr]
    split
    ·have g:=oL ((aZ hql).1 hqr)
     exact(aZ g.len).2 (g.ok ((aZ hql).1 hqr))
    ·exact hqr) (by omega) (by omega)
   have hxl:=oE (it:=it) hql
   have hroy:gm q it=if dx q<it.length then iM q else q:=by unfold gm iN;rw [Kb hqr]
   have hpk:=fun(H:au) nx=>zM (H:=H) (nx:=nx) hql hqr
   have hgk:=oL ((aZ hql).1 hqr)
   have hgr:bj (iM q)=true:=(aZ hgk.len).2 (hgk.ok ((aZ hql).1 hqr))
   have hkl:=hgk.len
   have hj: ∃ y:List UInt8,y=gm q it∧y.length=1024∧bj y=true:=⟨_,rfl,hxl,by
    rw [hroy]
    split
    ·exact hgr
    ·exact hqr⟩
   obtain⟨y,hy,hyl,hyr⟩:=hj
   rw [← hy] at hx hroy
   refine cQ (R:=fun H3 n3=>n3=n1+1∧H3.at' n1=some (pgO q)∧H3.at' (nx+1)=some (dJ 0 0)∧H3.at' hb=some (hpO hm)∧H3.at' rb=some (dat false it.length 1 5 (byV it))∧ ∀ m,m<nx→H3.at' m=H.at' m) ⟨rfl,by repeat(exact ac),by repeat(first|assumption|refine ab (by omega) ?_),by repeat(first|assumption|refine ab (by omega) ?_),by repeat(first|assumption|refine ab (by omega) ?_),fun m hm=>by(repeat(refine ab (by omega) ?_));exact i7 m hm⟩ ?_
   rintro H3 n3 ⟨rfl,d1,d2,d3,d4,d5⟩
   clear i4 i5 i6 i7
   have hro2:=fun(H:au) nx=>ur (H:=H) (nx:=nx) hyl
   by_cases hlt:dx q<it.length
   ·rw [Kb hlt] at hroy
    rw [← hroy] at hpk
    repeat first|apply pG;rfl;omega|apply bJ hyl hql;rfl;assumption|apply bB hql;rfl;assumption|apply bW;rfl;kernel_rfl;exact hpk _ _|apply ah;rfl
    dsimp only
    clear hpk hgk hgr hkl hro hroy hrs
    (repeat(first|apply bB hyl;rfl;(focus((repeat(exact ac));done))|apply ah;rfl|apply bW;rfl;kernel_rfl;exact hro2 _ _));by_cases hrm:it.length≤dx y
    ·(rw [Kb hrm] at hx;rw [hx,Ka (fun h=>h rfl)] at hgo;have hre:dx y=fg y:=(show(if bj y=true then fg y else 0)=_ by rw [Kb hyr]);have hlx:=(laid (it:=it) ((aZ hyl).1 hyr) (by omega) (by omega) (by omega)).len;have hins:=fun(H:au) nx (h:H.at' rb=some (dat false it.length 1 5 (byV it)))=>Ar (H:=H) (nx:=nx) (s:= .slu rb 0 it.length) hyl (ju (show H.at' rb=some (u8R false (byV it)) by rw [sd];exact h)) hyr (by omega) (by omega) (by omega);rw [hgo,Ka (fun h=>h rfl)];dsimp only [HH];rw [show 32+i-32=i by omega];clear hgo hx i2;generalize oT y it=x at hlx hins ⊢;generalize aY y=sl at hins ⊢;(repeat(first|apply ll;rfl;omega|apply bJ hlx aj;rfl;(focus((repeat(exact ac));done))|refine be rfl rfl cq ?_|apply bB hyl;rfl;(focus((repeat(exact ac));done))|apply bW;rfl;kernel_rfl;exact hins _ _ (by repeat(first|assumption|refine ab (by omega) ?_))|apply ah;rfl));refine cQ (R:=fun H5 n5=>n1+1<n5∧H5.at' (n1+1)=some (pgO x)∧H5.at' (nx+1)=some (dJ 0 0)∧H5.at' hb=some (hpO hm)∧ ∀ m,m<nx→H5.at' m=H.at' m) ⟨by omega,by repeat(exact ac),by repeat(first|assumption|refine ab (by omega) ?_),by repeat(first|assumption|refine ab (by omega) ?_),fun m hm=>by(repeat(refine ab (by omega) ?_));exact d5 m hm⟩ ?_;rintro H5 n5 ⟨e0,e1,e2,e3,e4⟩;(apply bk;(focus(kernel_rfl));(focus(kernel_rfl)));(repeat(first|refine cn rfl rfl rfl (F.ag _ rfl) e1 (bh hlx) ?_|refine bY rfl rfl rfl (F.sz _ rfl) e3 (bh hlx) (by rw [Kf,Kf,hl];omega) (hZ _) (tz hl hi hlx) ?_|apply gg (q:=i);rfl;rfl;rfl;rfl;exact(F.un _ rfl);exact(F.sz _ rfl);(focus(omega));(focus(omega))|apply aW;rfl));refine aA ⟨by kernel_rfl,?_,?_⟩;(focus(repeat(first|exact KO|apply jE;rfl|apply gr;rfl;kernel_rfl|refine fO 0 rfl (by kernel_rfl) (by(repeat(refine⟨(by first|exact aU (F.ag _ rfl) rfl (by repeat(first|assumption|refine ab (by omega) ?_)) (bv hlx)|exact fk (q:=i) rfl rfl (F.un _ rfl) (F.sz _ rfl) (by omega) (by omega)),?_⟩));exact KO) ?_)));(repeat(first|apply ah;rfl|apply aG;rfl;(focus((repeat(first|assumption|refine ab (by omega) ?_));done));rfl|apply aL;rfl;omega;omega));((apply bw Tryz.func19 (congrArg Array.toList Tryz.results19));(focus(repeat(first|exact KF|apply KH rfl|apply KG rfl (KI (F.ag _ rfl) (by repeat(exact ac)) (ak _ 0 rfl rfl))))));exact⟨rfl,by repeat(first|exact ac|refine ab (by omega) ?_),by dsimp only;omega,fun m h1 h2=>by(repeat(refine ab (by omega) ?_));exact e4 m h1⟩)
    ·(rw [Ka hrm] at hx;rw [hx,Kb (by decide)] at hgo;(repeat(first|apply pG;rfl;omega|apply ah;rfl|apply aL;rfl;omega;omega));exact ih _ _ _ (i+1) ⟨by omega,hgo.symm,by omega,by repeat(first|assumption|refine ab (by omega) ?_),by repeat(first|assumption|refine ab (by omega) ?_),by repeat(first|assumption|refine ab (by omega) ?_),fun m hm=>by(repeat(refine ab (by omega) ?_));exact d5 m hm⟩ (by omega) (KK (KN rfl)))
   ·rw [Ka hlt] at hroy
    subst hroy
    clear hpk hgk hgr hkl hro hrs
    repeat first|apply ll;rfl;omega|apply ah;rfl
    (repeat(first|apply bB hyl;rfl;assumption|apply ah;rfl|apply bW;rfl;kernel_rfl;exact hro2 _ _));by_cases hrm:it.length≤dx y
    ·(rw [Kb hrm] at hx;rw [hx,Ka (fun h=>h rfl)] at hgo;have hre:dx y=fg y:=(show(if bj y=true then fg y else 0)=_ by rw [Kb hyr]);have hlx:=(laid (it:=it) ((aZ hyl).1 hyr) (by omega) (by omega) (by omega)).len;have hins:=fun(H:au) nx (h:H.at' rb=some (dat false it.length 1 5 (byV it)))=>Ar (H:=H) (nx:=nx) (s:= .slu rb 0 it.length) hyl (ju (show H.at' rb=some (u8R false (byV it)) by rw [sd];exact h)) hyr (by omega) (by omega) (by omega);rw [hgo,Ka (fun h=>h rfl)];dsimp only [HH];rw [show 32+i-32=i by omega];clear hgo hx i2;generalize oT y it=x at hlx hins ⊢;generalize aY y=sl at hins ⊢;(repeat(first|apply ll;rfl;omega|apply bJ hlx aj;rfl;(focus((repeat(exact ac));done))|refine be rfl rfl cq ?_|apply bB hyl;rfl;assumption|apply bW;rfl;kernel_rfl;exact hins _ _ (by assumption)|apply ah;rfl));refine cQ (R:=fun H5 n5=>n1+1<n5∧H5.at' (n1+1)=some (pgO x)∧H5.at' (nx+1)=some (dJ 0 0)∧H5.at' hb=some (hpO hm)∧ ∀ m,m<nx→H5.at' m=H.at' m) ⟨by omega,by repeat(exact ac),by repeat(first|assumption|refine ab (by omega) ?_),by repeat(first|assumption|refine ab (by omega) ?_),fun m hm=>by(repeat(refine ab (by omega) ?_));exact d5 m hm⟩ ?_;rintro H5 n5 ⟨e0,e1,e2,e3,e4⟩;(apply bk;(focus(kernel_rfl));(focus(kernel_rfl)));(repeat(first|refine cn rfl rfl rfl (F.ag _ rfl) e1 (bh hlx) ?_|refine bY rfl rfl rfl (F.sz _ rfl) e3 (bh hlx) (by rw [Kf,Kf,hl];omega) (hZ _) (tz hl hi hlx) ?_|apply gg (q:=i);rfl;rfl;rfl;rfl;exact(F.un _ rfl);exact(F.sz _ rfl);(focus(omega));(focus(omega))|apply aW;rfl));refine aA ⟨by kernel_rfl,?_,?_⟩;(focus(repeat(first|exact KO|apply jE;rfl|apply gr;rfl;kernel_rfl|refine fO 0 rfl (by kernel_rfl) (by(repeat(refine⟨(by first|exact aU (F.ag _ rfl) rfl (by repeat(first|assumption|refine ab (by omega) ?_)) (bv hlx)|exact fk (q:=i) rfl rfl (F.un _ rfl) (F.sz _ rfl) (by omega) (by omega)),?_⟩));exact KO) ?_)));(repeat(first|apply ah;rfl|apply aG;rfl;(focus((repeat(first|assumption|refine ab (by omega) ?_));done));rfl|apply aL;rfl;omega;omega));((apply bw Tryz.func19 (congrArg Array.toList Tryz.results19));(focus(repeat(first|exact KF|apply KH rfl|apply KG rfl (KI (F.ag _ rfl) (by repeat(exact ac)) (ak _ 0 rfl rfl))))));exact⟨rfl,by repeat(first|exact ac|refine ab (by omega) ?_),by dsimp only;omega,fun m h1 h2=>by(repeat(refine ab (by omega) ?_));exact e4 m h1⟩)
    ·(rw [Ka hrm] at hx;rw [hx,Kb (by decide)] at hgo;(repeat(first|apply pG;rfl;omega|apply ah;rfl|apply aL;rfl;omega;omega));exact ih _ _ _ (i+1) ⟨by omega,hgo.symm,by omega,by assumption,by assumption,by assumption,fun m hm=>by exact d5 m hm⟩ (by omega) (KK (KN rfl)))
  ·rw [Ka he] at hv5
   rw [Kb he] at hgo
   rw [hv5] at hrs hrl
   rw [hgo,Kb (by decide)]
   generalize bareP (az hm i)=q at hrl hrs
   dsimp only [BN] at hrl hrs
   repeat first|apply bJ hrl aj;rfl;(focus((repeat(exact ac));done))|refine be rfl rfl cq ?_|apply ah;rfl|apply aG;rfl;(focus((repeat(first|assumption|refine ab (by omega) ?_));done));rfl|apply bW;rfl;kernel_rfl;exact hrs _ _ i5
   ((apply bw Tryz.func19 (congrArg Array.toList Tryz.results19));(focus(repeat(first|exact KF|apply KH rfl|apply KG rfl (KI (F.ag _ rfl) (by repeat(exact ac)) (ak _ 0 rfl rfl))))))
   exact⟨rfl,by repeat(first|assumption|refine ab (by omega) ?_),by dsimp only;omega,fun m h1 h2=>by(repeat(refine ab (by omega) ?_));exact i7 m h1⟩
 ·have hi:i=96:=by omega
  subst hi
  rw [← i2,show ci (dfH hm) it (96-96) (32+96)=(5,0,0,zeroP)from rfl,Kb (by decide)]
  repeat first|apply ah;rfl|apply aG;rfl;assumption;rfl
  ((apply bw Tryz.func19 (congrArg Array.toList Tryz.results19));(focus(repeat(first|exact KF|apply KH rfl|apply KG rfl (KI (F.ag _ rfl) (by repeat(exact ac)) (ak _ 0 rfl rfl))))))
  exact⟨rfl,by repeat(first|assumption|refine ab (by omega) ?_),by dsimp only;omega,fun m h1 h2=>by(repeat(refine ab (by omega) ?_));exact i7 m h1⟩
abbrev D2:Int×Int→List Value:=fun t=> [.int .i64 t.1,.int .i64 t.2]
theorem ul:RecOf D2 2:=⟨fun _=>rfl,fun a v hv=>by
 simp only [D2,Kp,List.not_mem_nil,or_false] at hv
 rcases hv with rfl|rfl <;> rfl⟩
abbrev pH(l:List (Int×Int)):VO:=dat false l.length 2 40 (l.flatMap D2)
theorem qy: ∀ (l:List (Int×Int)) (i:Nat) (hi:i<l.length),(l.flatMap D2)[i*2]? =some (.int .i64 (l[i]).1)∧(l.flatMap D2)[i*2+1]? =some (.int .i64 (l[i]).2)
 | [],i,hi=>absurd hi (Nat.not_lt_zero _)
 | t :: l,0,_=>⟨rfl,rfl⟩
 | t :: l,i+1,hi=>by
   have ih:=qy l i (by simpa using hi)
   have e: ∀ k,((t :: l).flatMap D2)[k+2]? =(l.flatMap D2)[k]? :=fun k=>by
    rw [List.flatMap_cons]
    rfl
   rw [show(i+1)*2=i*2+2 by omega,show i*2+2+1=(i*2+1)+2 by omega,e,e]
   exact ih
theorem yQ(hi:i<l.length):(pH l).cell (i*2)=some (.sc (.int .i64 (l[i]).1)):=fR (by omega) (qy l i hi).1
theorem yP(hi:i<l.length):(pH l).cell (i*2+1)=some (.sc (.int .i64 (l[i]).2)):=fR (by omega) (qy l i hi).2
theorem vE(hi:i<l.length):(pH l).cellsFrom (i*2) 2=some [.sc (.int .i64 (l[i]).1),.sc (.int .i64 (l[i]).2)]:=by
 simp only [VO.cellsFrom,yQ hi,yP hi]
theorem iL{mem:List UInt8}{a b:Nat}(ha:1024*a+1024≤mem.length)(hx:x.length=1024):az (fx mem a x) b=if b=a then x else az mem b:=by
 unfold az fx
 by_cases h:b=a
 ·rw [Kb h,h]
  have:=vW (p:=mem) (o:=1024*a) (l:=x) (by omega)
  rwa [hx] at this
 ·rw [Ka h]
  exact ii fun i h1 h2=>mP (by omega) (by omega)
def jP(hm:List UInt8)(ps:List (Nat×List UInt8)):List UInt8:=ps.foldl (fun m x=>fx m (x.1-32) x.2) hm
theorem xK(hm:List UInt8)(ps:List (Nat×List UInt8))(n:Nat)(x:List UInt8):jP hm (ps ++ [(n,x)])=fx (jP hm ps) (n-32) x:=by
 unfold jP
 rw [List.foldl_append]
 rfl
theorem si(l:List (Int×Int))(t:Int×Int)(n:Nat):aN (l ++ [t]) n=if t.1=(n:Int) then aN l n ++ [t.2.toNat] else aN l n:=by
 unfold aN
 rw [List.filter_append,J4,List.filter_cons,List.filter_nil]
 by_cases h:t.1=(n:Int)
 ·rw [Kb h,Kb (Kt h)]
  rfl
 ·rw [Ka h,Ka (by simpa using h),List.map_nil,Ko]
theorem oC(a b:List (Int×Int))(n:Nat):aN (a ++ b) n=aN a n ++ aN b n:=by
 unfold aN
 rw [List.filter_append,J4]
theorem xE(hi:i<l.length)(h:(l[i]).1=(n:Int)):aN l n=aN (l.take i) n ++ (l[i]).2.toNat :: aN (l.drop (i+1)) n:=by
 have e:l=l.take i ++ ([l[i]] ++ l.drop (i+1)):=by
  rw [List.singleton_append,List.getElem_cons_drop,List.take_append_drop]
 have e2:aN l n=aN (l.take i ++ ([l[i]] ++ l.drop (i+1))) n:=congrArg (fun z=>aN z n) e
 rw [e2,oC,oC]
 congr 1
 unfold aN
 rw [List.filter_cons,List.filter_nil,Kb (Kt h)]
 rfl
theorem uZ(p:List UInt8)(S:List Nat)(k:Nat):du p (S ++ [k])=lE (du p S) k:=by
 unfold du
 rw [List.foldl_append]
 rfl
theorem fT{A:Type}{l:List A}(hi:i<l.length):l.take (i+1)=l.take i ++ [l[i]]:=by
 rw [List.take_add_one,JJ hi]
 rfl
def io(pf:Nat→List UInt8)(l:List (Int×Int))(k:Nat):List (Nat×List UInt8):=(((List.range k).map (32 + ·)).filter fun n=> !(aN l n).isEmpty).map fun n=>(n,rS (aM (pf n)).1 (aN l n))
theorem zt(pf:Nat→List UInt8)(l:List (Int×Int)):io pf l 96=(dE l).map fun n=>(n,rS (aM (pf n)).1 (aN l n)):=rfl
theorem BF(h:aN l (32+k)= []):io pf l (k+1)=io pf l k:=by
 unfold io
 rw [List.range_succ,J4,List.filter_append]
 simp [h]
theorem zr(h:aN l (32+k)≠ []):io pf l (k+1)=io pf l k ++ [(32+k,rS (aM (pf (32+k))).1 (aN l (32+k)))]:=by
 unfold io
 have hb:(!(aN l (32+k)).isEmpty)=true:=by
  cases hs:aN l (32+k)with
  | nil=>exact absurd hs h
  | cons a b=>rfl
 rw [List.range_succ,J4,List.filter_append,J4]
 simp [hb]
theorem Af{x:Nat×List UInt8}(h:x∈io pf l k):32≤x.1∧x.1<32+k∧aN l x.1≠ []∧x.2=rS (aM (pf x.1)).1 (aN l x.1):=by
 unfold io at h
 obtain⟨n,hn,rfl⟩:=Kx.1 h
 rw [List.mem_filter] at hn
 obtain⟨i,hi,rfl⟩:=Kx.1 hn.1
 have:=Kw.1 hi
 refine⟨by dsimp only;omega,by dsimp only;omega,fun e=>?_,rfl⟩
 have h2:=hn.2
 dsimp only at e
 rw [e] at h2
 cases h2
theorem zF(hl:hm.length=98304): ∀ {ps:List (Nat×List UInt8)},(∀ x∈ps,32≤x.1∧x.1<128∧x.2.length=1024)→(jP hm ps).length=98304:=by
 intro ps
 induction ps generalizing hm with
 | nil=>exact fun _=>hl
 | cons x ps ih=>
   intro h
   have hx:=h x Ki
   exact ih (vJ hl (by omega) hx.2.2) fun y hy=>h y (Kj _ hy)
theorem uC(hl:hm.length=98304): ∀ {ps:List (Nat×List UInt8)},(∀ x∈ps,32≤x.1∧x.1<128∧x.2.length=1024∧x.1≠32+n)→az (jP hm ps) n=az hm n:=by
 intro ps
 induction ps generalizing hm with
 | nil=>exact fun _=>rfl
 | cons x ps ih=>
   intro h
   have hx:=h x Ki
   refine(ih (vJ hl (by omega) hx.2.2.1) fun y hy=>h y (Kj _ hy)).trans ?_
   rw [iL (by omega) hx.2.2.1,Ka (by omega)]
theorem iP{K V:Type} [DecidableEq K]: ∀ (m:List (K×V×Nat)) {k k':K} (v:V) (c:Nat),k'≠k→gU (ic m k v c) k'=gU m k'
 | [],k,k',v,c,h=>by
   have: ¬ k=k':=fun e=>h e.symm
   simp [ic,gU,this]
 | x :: m,k,k',v,c,h=>by
   by_cases hx:x.1=k
   ·have e:ic (x :: m) k v c=(k,v,x.2.2) :: m:=by simp [ic,hx]
    have h1: ¬ k=k':=fun e=>h e.symm
    have h2: ¬ x.1=k':=fun e=>h (e.symm.trans hx)
    rw [e]
    simp [gU,h1,h2]
   ·have e:ic (x :: m) k v c=x :: ic m k v c:=by simp [ic,hx]
    have ih:=iP m v c h
    rw [e]
    unfold gU at ih ⊢
    rw [List.find?_cons,List.find?_cons]
    split
    ·rfl
    ·exact ih
theorem qX{K V:Type} [DecidableEq K]: ∀ (m:List (K×V×Nat)) (k:K) (v:V) (c:Nat),(ic m k v c).length≤m.length+1
 | [],k,v,c=>JZ _
 | x :: m,k,v,c=>by
   by_cases hx:x.1=k
   ·have e:ic (x :: m) k v c=(k,v,x.2.2) :: m:=by simp [ic,hx]
    rw [e]
    simp
   ·have e:ic (x :: m) k v c=x :: ic m k v c:=by simp [ic,hx]
    have ih:=qX m k v c
    rw [e]
    simp only [J2]
    omega
def jB(lt:List (Int×Int))(n:Int):List Int:=(lt.filter fun t=>decide (t.1=n)).map (·.2)
theorem xF(lt:List (Int×Int))(n k n':Int):jB (lt ++ [(n,k)]) n'=if n=n' then jB lt n' ++ [k] else jB lt n':=by
 unfold jB
 rw [List.filter_append,J4,List.filter_cons,List.filter_nil]
 by_cases h:n=n'
 ·rw [Kb h,Kb (Kt h)]
  rfl
 ·rw [Ka h,Ka (by simpa using h),List.map_nil,Ko]
theorem y9{lt:List (Int×Int)}{n:Int}:jB lt n= []↔ ¬ ∃ t∈lt,t.1=n:=by
 unfold jB
 rw [List.map_eq_nil_iff,List.filter_eq_nil_iff]
 constructor
 ·rintro h ⟨t,h1,h2⟩
  exact h t h1 (Kt h2)
 ·intro h t h1 h2
  exact h ⟨t,h1,Km h2⟩
end
structure SlM (H:au) (B nx:Nat) (lt:List (Int×Int)) (m:List (Int×(Nat×List Int)×Nat)) (c:Nat):Prop where
 ok:KOk m c
 len:m.length≤lt.length
 keys: ∀ n,n∈m.map (·.1)↔ ∃ t∈lt,t.1=n
 val: ∀ n r ks,gU m n=some (r,ks)→ks=jB lt n∧B≤r∧r<nx∧H.at' r=some (qb ks)
 sep: ∀ n n' r r' ks ks',gU m n=some (r,ks)→gU m n'=some (r',ks')→n≠n'→r≠r'
section
variable {H:au}{B c nx:Nat}{lt:List (Int×Int)}{m:List (Int×(Nat×List Int)×Nat)}
theorem SlM.frame{H':au}{nx':Nat}(h:SlM H B nx lt m c)(hle:nx≤nx')(hf: ∀ r,B≤r→r<nx→H'.at' r=H.at' r):SlM H' B nx' lt m c:=
 ⟨h.ok,h.len,h.keys,fun n r ks hg=>by
   obtain⟨h1,h2,h3,h4⟩:=h.val n r ks hg
   exact⟨h1,h2,by omega,(hf r h2 h3).trans h4⟩,h.sep⟩
theorem SlM.zero:SlM H B nx [] [] 0:=
 ⟨KOk.nil 0,JZ _,fun n=>by simp,fun n r ks hg=>(by cases hg),fun n n' r r' ks ks' hg=>(by cases hg)⟩
theorem SlM.get(h:SlM H B nx lt m c)(n:Int):(gU m n=none∧jB lt n= [])∨ ∃ r,gU m n=some (r,jB lt n)∧B≤r∧r<nx∧H.at' r=some (qb (jB lt n)):=by
 cases hg:gU m n with
 | none=>exact .inl ⟨rfl,y9.2 fun hx=>mh.1 hg ((h.keys n).2 hx)⟩
 | some v=>
   obtain⟨r,ks⟩:=v
   obtain⟨rfl,h2,h3,h4⟩:=h.val n r ks hg
   exact .inr ⟨r,rfl,h2,h3,h4⟩
theorem SlM.add{H':au}{nx' r':Nat}(h:SlM H B nx lt m c)(n k:Int)(hB:B≤nx)(h1:nx≤r')(h2:r'<nx')(hr:H'.at' r'=some (qb (jB lt n ++ [k])))(hf: ∀ x,B≤x→x<nx→(∀ ks,gU m n≠some (x,ks))→H'.at' x=H.at' x):SlM H' B nx' (lt ++ [(n,k)]) (ic m n (r',jB lt n ++ [k]) c) (pO m n c):=by
 refine⟨h.ok.put n _,?_,fun n'=>?_,fun n' r ks hg=>?_,fun a b r r2 ks ks2 ha hb hab=>?_⟩
 ·have:=qX m n (r',jB lt n ++ [k]) c
  have:=h.len
  rw [J3]
  simp only [J2,List.length_nil]
  omega
 ·rw [wl,h.keys]
  constructor
  ·rintro(rfl|⟨t,h3,h4⟩)
   ·exact⟨_,List.mem_append_right _ (Kg.2 rfl),rfl⟩
   ·exact⟨t,List.mem_append_left _ h3,h4⟩
  ·rintro⟨t,h3,h4⟩
   rcases List.mem_append.1 h3 with h3|h3
   ·exact .inr ⟨t,h3,h4⟩
   ·rw [Kg.1 h3] at h4
    exact .inl h4.symm
 ·rw [xF]
  by_cases he:n'=n
  ·subst he
   rw [oU] at hg
   cases hg
   rw [Kb rfl]
   exact⟨rfl,by omega,h2,hr⟩
  ·rw [iP m _ c he] at hg
   obtain⟨h3,h4,h5,h6⟩:=h.val n' r ks hg
   rw [Ka (Ne.symm he)]
   exact⟨h3,h4,by omega,(hf r h4 h5 fun ks' hg'=>h.sep n' n r r ks ks' hg hg' he rfl).trans h6⟩
 ·by_cases ea:a=n
  ·subst ea
   rw [oU] at ha
   cases ha
   rw [iP m _ c (Ne.symm hab)] at hb
   have:=(h.val b r2 ks2 hb).2.2.1
   omega
  ·rw [iP m _ c ea] at ha
   by_cases eb:b=n
   ·subst eb
    rw [oU] at hb
    cases hb
    have:=(h.val a r ks ha).2.2.1
    omega
   ·rw [iP m _ c eb] at hb
    exact h.sep a b r r2 ks ks2 ha hb hab
end
structure SeM (lt:List (Int×Int)) (o:List ((Int×Int)×Unit×Nat)) (c:Nat):Prop where
 ok:KOk o c
 len:o.length≤lt.length
 keys: ∀ t,t∈o.map (·.1)↔t∈lt
theorem SeM.zero:SeM [] [] 0:=⟨KOk.nil 0,JZ _,fun t=>by simp⟩
theorem SeM.add{lt:List (Int×Int)}{o:List ((Int×Int)×Unit×Nat)}{c:Nat}(h:SeM lt o c)(t:Int×Int):SeM (lt ++ [t]) (ic o t () c) (pO o t c):=by
 refine⟨h.ok.put t _,?_,fun t'=>?_⟩
 ·have:=qX o t () c
  have:=h.len
  rw [J3]
  simp only [J2,List.length_nil]
  omega
 ·rw [wl,h.keys,List.mem_append,Kg,Or.comm]
end Go.Proofs.YtnhmbonmlfeifaaGreat
end
section
namespace Go.Sy
open Go Go.Sl Go.RowKit
section
variable {A:Type}{P:Program}
theorem gI{P:Program}{A B:Type}(f:A→Sem B): ∀ s:Sem A,aX P (s >>= f)=(aX P s).bind fun a=>aX P (f a)
 | .pure a=>rfl
 | .program k=>gI f (k P)
 | .mark m k=>gI f k
 | .choose q k=>by
   show(bif q.forced then aX P (k 0 >>= f) else none)=(bif q.forced then aX P (k 0) else none).bind _
   cases q.forced with
   | true=>exact gI f (k 0)
   | false=>rfl
 | .load .. =>rfl
 | .store .. =>rfl
 | .new .. =>rfl
 | .shape .. =>rfl
 | .freeze .. =>rfl
 | .frozen .. =>rfl
 | .getObj .. =>rfl
 | .setObj .. =>rfl
 | .sys .. =>rfl
 | .halt .. =>rfl
theorem fc(a:A):aX P (pure a:Sem A)=some a:=rfl
theorem lJ(c:Prop) [Decidable c](a b:Sem A):aX P (if c then a else b)=if c then aX P a else aX P b:=by split <;> rfl
theorem jf{t:TypeId}{d:TypeDesc}(h:P.underlying t=some d):aX P (underlying t)=some d:=by
 show aX P (match P.underlying t with|some d=>(pure d:Sem TypeDesc)|none=>stuck "no such type")=_
 rw [h]
 rfl
theorem sK:aX P program=some P:=rfl
end
section
variable {K V:Type} [DecidableEq K]
theorem xg{P:Program}{kt:TypeId}{enc:K→Value}(hE: ∀ a b,aX P (Op.equal kt (enc a) (enc b))=some (decide (a=b)))(k:K): ∀ (l:List (K×SV×Nat)) (i:Nat),
 aX P (Instr.findAsking kt (enc k) (dummies (l.map fun x=>(enc x.1,x.2))) i)=some ((l.findIdx? fun x=>decide (x.1=k)).map fun j=>(i+j,.nilFunc))
 | [],i=>rfl
 | x :: l,i=>by
   have ih:=xg hE k l (i+1)
   simp only [dummies] at ih
   simp only [dummies,J1,Instr.findAsking,gI,hE,J6,List.findIdx?_cons,lJ]
   by_cases h:x.1=k
   ·simp [h,fc]
   ·have h': ¬ k=x.1:=fun e=>h e.symm
    simp only [h,h',decide_false,ih,Option.map_map,Bool.false_eq_true,if_false]
    congr 2
    funext j
    simp only [Function.comp_apply,JO,and_true]
    omega
theorem B8{P:Program}{kt:TypeId}{kd:TypeDesc}{enc:K→Value}(h:P.underlying kt=some kd)(hn: ∀ a b,Instr.sameNow kd (enc a) (enc b)=none)(hE: ∀ a b,aX P (Op.equal kt (enc a) (enc b))=some (decide (a=b)))
 (hc: ∀ e k,aX P (Instr.checkKey e 10000 kt (enc k))=some ()) (hb: ∀ k,Instr.sameBits 10000 (enc k) (enc k)=true):KEnc P kt enc:=by
 refine⟨fun l k=>?_,fun k=>hc _ _,hb⟩
 unfold nO
 rw [hc]
 simp only
 unfold Instr.findKey
 rw [je _ h]
 cases l with
 | nil=>rfl
 | cons x l=>
   have e:Instr.findNow kd (enc k) (dummies ((x :: l).map fun x=>(enc x.1,x.2))) 0=none:=by
    simp only [dummies,J1,Instr.findNow,hn]
   rw [e]
   simp only [xg hE]
   cases(x :: l).findIdx? fun x=>decide (x.1=k) <;> simp
variable {P:Program} {T:Tr SV} {H:au} {nx:Nat} {d:Option Tmp} {ty:TypeId} {pos:String} {af:Array Edge} {gd:Option (Nat×Bool)}
section
variable {kk:K}{s:SV}{b c:Nat}{val:V→SV}{e kt t:TypeId}{enc:K→Value}{x y:Operand}{m:List (K×V×Nat)}
theorem BK{v:V}{ok:Bool}(hx:am T x=some (.mp b))(hy:am T y=some s)(hs:s.lit=some (enc kk))(hu:P.underlying t=some (.map kt e))(hE:KEnc P kt enc)
 (hb:H.at' b=some (jk enc val m c)) (hg:gU m kk=some v):ReadDoes P T H ⟨d,.lookup t x y ok,ty,pos,af,gd⟩ (bif ok then .tup [val v,.sc (.bool true)] else val v):=by
 refine eP ?_
 have hk:=EI m kk
 unfold cJ
 simp only [Aj,hy,hs,J6,hx,gM,hu,hb,iQ hE]
 cases hi:m.findIdx? fun x=>decide (x.1=kk)with
 | none=>rw [hi] at hk;rw [hk.1] at hg;cases hg
 | some i=>
   rw [hi] at hk
   obtain⟨z,h1,_,h3,_⟩:=hk
   rw [hg] at h3
   simp only [JG] at h3
   subst h3
   simp only [Kr,h1,J5]
theorem zz{z:Value}{ok:Bool}(hx:am T x=some (.mp b))(hy:am T y=some s)(hs:s.lit=some (enc kk))(hu:P.underlying t=some (.map kt e))(hE:KEnc P kt enc)
 (hb:H.at' b=some (jk enc val m c)) (hg:gU m kk=none) (hz:dZ P e=some z):ReadDoes P T H ⟨d,.lookup t x y ok,ty,pos,af,gd⟩ (bif ok then .tup [.sc z,.sc (.bool false)] else .sc z):=by
 refine eP ?_
 have hk:=EI m kk
 unfold cJ
 simp only [Aj,hy,hs,J6,hx,gM,hu,hb,iQ hE]
 cases hi:m.findIdx? fun x=>decide (x.1=kk)with
 | none=>simp only [hz]
 | some i=>
   rw [hi] at hk
   obtain⟨z,h1,_,h3,_⟩:=hk
   rw [hg] at h3
   cases h3
theorem zR{w:Operand}{v:V}(hx:am T x=some (.mp b))(hy:am T y=some s)(hs:s.lit=some (enc kk))(hu:P.underlying t=some (.map kt e))(hE:KEnc P kt enc)
 (hb:H.at' b=some (jk enc val m c)) (hw:am T w=some (val v)):OpDoes P T H nx ⟨d,.mapUpdate t x y w,ty,pos,af,gd⟩ (.skip,H.set b (jk enc val (ic m kk v c) (pO m kk c)),nx):=by
 refine jm ?_
 have hk:=EI m kk
 unfold fZ
 simp only [Aj,hy,hs,J6,hx,hw,oS,hu,hb,HG,hE.check,iQ hE]
 cases hi:m.findIdx? fun x=>decide (x.1=kk)with
 | none=>
   rw [hi] at hk
   obtain⟨h1,_,h3⟩:=hk
   simp only [jk,wo,h3,pO,h1,J4,J1,List.map_nil]
 | some i=>
   rw [hi] at hk
   obtain⟨z,h1,h2,h3,_,h5⟩:=hk
   simp only [jk,wo,h5,pO,h3,Kr,h1,J5,h2,hE.bits,cond_true,List.map_set]
end
end
section
variable {P:Program} {ro:Option Nat} {fn nt nx:Nat} {T:Tr SV} {k:List AIt} {dfs:List ADf} {H:au} {Q:Pst} {ops:Array Oper} {i:Nat} {l:List Oper} {d:Option Tmp} {ty:TypeId} {pos:String} {af:Array Edge} {gd:Option (Nat×Bool)}
section
variable {K:Type}{kk:K}{s:SV}{b c:Nat}{V:Type}{val:V→SV}{e kt t:TypeId}{enc:K→Value}{x y:Operand}{m:List (K×V×Nat)}
theorem Bi [DecidableEq K]{v:V}{dd:Nat}(hw:aH T ops ⟨some dd,.lookup t x y true,ty,pos,af,gd⟩=some true)(hd:Nat.blt dd nt=true)(hx:am T x=some (.mp b))(hy:am T y=some s)(hs:s.lit=some (enc kk))(hu:P.underlying t=some (.map kt e))(hE:KEnc P kt enc)(hb:H.at' b=some (jk enc val m c))(hg:gU m kk=some v)
 (h:Wp P ro ⟨fn,nt,T.set dd (.tup [val v,.sc (.bool true)]),.inReg ops (i+1) l :: k,dfs,H,nx⟩ Q):Wp P ro ⟨fn,nt,T,.inReg ops i (⟨some dd,.lookup t x y true,ty,pos,af,gd⟩ :: l) :: k,dfs,H,nx⟩ Q:=
 dj hw (.inr (fun _ h=>by cases h)) ((BK (ok:=true) hx hy hs hu hE hb hg).does) (by rw [aK hd];exact h)
theorem Bj{V:Type} [DecidableEq K]{val:V→SV}{m:List (K×V×Nat)}{z:Value}{dd:Nat}(hw:aH T ops ⟨some dd,.lookup t x y true,ty,pos,af,gd⟩=some true)(hd:Nat.blt dd nt=true)(hx:am T x=some (.mp b))(hy:am T y=some s)(hs:s.lit=some (enc kk))(hu:P.underlying t=some (.map kt e))(hE:KEnc P kt enc)(hb:H.at' b=some (jk enc val m c))(hg:gU m kk=none)(hz:dZ P e=some z)
 (h:Wp P ro ⟨fn,nt,T.set dd (.tup [.sc z,.sc (.bool false)]),.inReg ops (i+1) l :: k,dfs,H,nx⟩ Q):Wp P ro ⟨fn,nt,T,.inReg ops i (⟨some dd,.lookup t x y true,ty,pos,af,gd⟩ :: l) :: k,dfs,H,nx⟩ Q:=
 dj hw (.inr (fun _ h=>by cases h)) ((zz (ok:=true) hx hy hs hu hE hb hg hz).does) (by rw [aK hd];exact h)
theorem Bh [DecidableEq K]{w:Operand}{v:V}(hw:aH T ops ⟨none,.mapUpdate t x y w,ty,pos,af,gd⟩=some true)(hx:am T x=some (.mp b))(hy:am T y=some s)(hs:s.lit=some (enc kk))(hu:P.underlying t=some (.map kt e))(hE:KEnc P kt enc)(hb:H.at' b=some (jk enc val m c))(hw2:am T w=some (val v))
 (h:Wp P ro ⟨fn,nt,T,.inReg ops (i+1) l :: k,dfs,(H.set b (jk enc val (ic m kk v c) (pO m kk c))),nx⟩ Q):Wp P ro ⟨fn,nt,T,.inReg ops i (⟨none,.mapUpdate t x y w,ty,pos,af,gd⟩ :: l) :: k,dfs,H,nx⟩ Q:=
 rX hw (.inr (fun _ h=>by cases h)) (zR hx hy hs hu hE hb hw2) h
end
end
end Go.Sy
end
section
namespace Go.Proofs.YtnhmbonmlfeifaaGreat
open Go Go.Sy Go.Sl Go.RowKit
abbrev uo(a:Int×Int):Value:= .agg #[.int .i64 a.1,.int .i64 a.2]
theorem nW{P:Program}{t:TypeId}{cs:Array Value}{off:Nat}{v:Value}{k:IntKind}(hu:P.underlying t=some (.int k))(hv:cs[off]? =some v):aX P (part t cs off)=some v:=by
 simp [part,isAgg,gI,jf hu,hv,fc]
theorem BQ{P:Program}{t:TypeId}{a b:Int}(n:Nat)(hu:P.underlying t=some (.int .i64)):aX P (Op.equalIn (n+1) t (.int .i64 a) (.int .i64 b))=some (a == b):=by
 simp [Op.equalIn,gI,jf hu,fc]
theorem mL:Tryz.prog.underlying 3=some (.int .i64):=by kernel_rfl
theorem Ej(n:Nat)(a b:Int×Int):aX Tryz.prog (Op.equalIn (n+1+1) 40 (uo a) (uo b))=some (gE a b):=by
 obtain⟨f,g,hl,f1,f2,f3,g1,g2,g3⟩:=fTd2
 have hp:Tryz.prog.stoodInHeld 40=false:=by kernel_rfl
 have hp1:=fun(v:Value) (c:Value)=>nW (P:=Tryz.prog) (t:=3) (cs:= #[v,c]) (off:=0) (v:=v) mL rfl
 have hp2:=fun(v:Value) (c:Value)=>nW (P:=Tryz.prog) (t:=3) (cs:= #[v,c]) (off:=1) (v:=c) mL rfl
 have he:=fun(x y:Int)=>BQ (P:=Tryz.prog) (t:=3) (a:=x) (b:=y) n mL
 rw [Op.equalIn]
 simp only [gI,jf uTd,J6,sK,hp,Bool.false_eq_true,if_false]
 rw [← Array.forIn_toList,hl]
 simp only [List.forIn_cons,List.forIn_nil,gI,lJ,Kb f1,Kb g1,f2,f3,g2,g3,fc,J6,hp1,hp2,he]
 unfold gE
 by_cases h1:a.1=b.1 <;> by_cases h2:a.2=b.2 <;> simp [h1,h2,fc,gI,hp1,hp2,he]
theorem Ei(a b:Int×Int):aX Tryz.prog (Op.equal 40 (uo a) (uo b))=some (decide (a=b)):=by
 have hd:decide (a=b)=gE a b:=by rw [Bool.eq_iff_iff,KB,dv]
 rw [hd]
 exact Ej 9998 a b
theorem Ek(e:Bool)(n:Nat)(a:Int×Int):aX Tryz.prog (Instr.checkKey e (n+1+1) 40 (uo a))=some ():=by
 obtain⟨f,g,hl,f1,f2,f3,g1,g2,g3⟩:=fTd2
 have hi: ∀ v:Value,aX Tryz.prog (Instr.checkKey e (n+1) 3 v)=some ():=fun v=>lP (P:=Tryz.prog) mL rfl e n
 have hp1:=fun(v:Value) (c:Value)=>nW (P:=Tryz.prog) (t:=3) (cs:= #[v,c]) (off:=0) (v:=v) mL rfl
 have hp2:=fun(v:Value) (c:Value)=>nW (P:=Tryz.prog) (t:=3) (cs:= #[v,c]) (off:=1) (v:=c) mL rfl
 rw [Instr.checkKey]
 simp only [gI,jf uTd,J6]
 rw [← Array.forIn_toList,hl]
 simp [List.forIn_cons,List.forIn_nil,gI,lJ,f1,g1,f2,f3,g2,g3,fc,hp1,hp2,hi]
theorem HI(e:Bool)(a:Int×Int):aX Tryz.prog (Instr.checkKey e 10000 40 (uo a))=some ():=Ek e 9998 a
theorem uQ:KEnc Tryz.prog 40 uo:=
 B8 uTd (fun a b=>rfl) Ei HI (fun k=>by simp [uo,Instr.sameBits])
theorem um(a:Int×Int):(xA a).lit=some (uo a):=rfl
abbrev aR:Value:= .int .u8 0
abbrev fY:Value:= .int .i64 0
def zt0:List Value:= [aR,aR,aR,aR,aR,aR,aR,aR,aR,aR,aR,aR,aR,aR,aR,aR,aR,aR,aR,aR,aR,aR,aR,aR,aR,aR,aR,aR,aR,aR,aR,aR,aR,aR,aR,aR,aR,aR,aR,aR,aR,aR,aR,aR,aR,aR,aR,aR,aR,aR,aR,aR,aR,aR,aR,aR,aR,aR,aR,aR,aR,aR,aR,aR]
theorem yu:zt0=List.replicate 64 aR:=rfl
def zt1:List Value:=List.append zt0 zt0
theorem yr:zt1=List.replicate 128 aR:=by
 show zt0 ++ zt0=_
 rw [yu,KA]
def zt2:List Value:=List.append zt1 zt1
theorem yq:zt2=List.replicate 256 aR:=by
 show zt1 ++ zt1=_
 rw [yr,KA]
def zt3:List Value:=List.append zt2 zt2
theorem yp:zt3=List.replicate 512 aR:=by
 show zt2 ++ zt2=_
 rw [yq,KA]
def zt4:List Value:=List.append zt3 zt3
theorem yn:zt4=List.replicate 1024 aR:=by
 show zt3 ++ zt3=_
 rw [yp,KA]
def zt5:List Value:=List.append zt4 zt4
theorem ym:zt5=List.replicate 2048 aR:=by
 show zt4 ++ zt4=_
 rw [yn,KA]
def zt6:List Value:=List.append zt5 zt5
theorem yl:zt6=List.replicate 4096 aR:=by
 show zt5 ++ zt5=_
 rw [ym,KA]
def zt7:List Value:=List.append zt6 zt6
theorem yk:zt7=List.replicate 8192 aR:=by
 show zt6 ++ zt6=_
 rw [yl,KA]
def zt8:List Value:=List.append zt7 zt7
theorem yj:zt8=List.replicate 16384 aR:=by
 show zt7 ++ zt7=_
 rw [yk,KA]
def zt9:List Value:=List.append zt8 zt8
theorem CY:zt9=List.replicate 32768 aR:=by
 show zt8 ++ zt8=_
 rw [yj,KA]
def zr0:List Value:=List.append [aR,aR,aR,aR,aR,aR,aR,aR,aR,aR,aR,aR,aR,aR,aR,aR,aR,aR,aR,aR,aR,aR,aR,aR,aR,aR,aR,aR,aR,aR,aR,aR] [aR,aR,aR,aR,aR,aR,aR,aR,aR,aR,aR,aR,aR,aR,aR,aR,aR,aR,aR,aR,aR,aR,aR,aR,aR,aR,aR,aR,aR,aR,aR,aR,aR]
theorem GR:zr0=List.replicate 65 aR:=rfl
def zr1:List Value:=List.append zt0 zr0
theorem GQ:zr1=List.replicate 129 aR:=by
 show zt0 ++ zr0=_
 rw [yu,GR,KA]
def zr2:List Value:=List.append zt1 zr1
theorem GP:zr2=List.replicate 257 aR:=by
 show zt1 ++ zr1=_
 rw [yr,GQ,KA]
def zr3:List Value:=List.append zt2 zr2
theorem GO:zr3=List.replicate 513 aR:=by
 show zt2 ++ zr2=_
 rw [yq,GP,KA]
def zr4:List Value:=List.append zt3 zr3
theorem GN:zr4=List.replicate 1025 aR:=by
 show zt3 ++ zr3=_
 rw [yp,GO,KA]
def zr5:List Value:=List.append zt4 zr4
theorem GM:zr5=List.replicate 2049 aR:=by
 show zt4 ++ zr4=_
 rw [yn,GN,KA]
def zr6:List Value:=List.append zt5 zr5
theorem GL:zr6=List.replicate 4097 aR:=by
 show zt5 ++ zr5=_
 rw [ym,GM,KA]
def zr7:List Value:=List.append zt6 zr6
theorem GK:zr7=List.replicate 8193 aR:=by
 show zt6 ++ zr6=_
 rw [yl,GL,KA]
def zr8:List Value:=List.append zt7 zr7
theorem GJ:zr8=List.replicate 16385 aR:=by
 show zt7 ++ zr7=_
 rw [yk,GK,KA]
def zr9:List Value:=List.append zt8 zr8
theorem GI:zr9=List.replicate 32769 aR:=by
 show zt8 ++ zr8=_
 rw [yj,GJ,KA]
def zr10:List Value:=List.append zt9 zr9
theorem DL:zr10=List.replicate 65537 aR:=by
 show zt9 ++ zr9=_
 rw [CY,GI,KA]
def zq0:List Value:=List.append [aR,aR,aR,aR,aR,aR,aR,aR,aR,aR,aR,aR,aR,aR,aR,aR,aR,aR,aR,aR,aR,aR,aR,aR,aR,aR,aR,aR,aR,aR,aR,aR] [aR,aR,aR,aR,aR,aR,aR,aR,aR,aR,aR,aR,aR,aR,aR,aR,aR,aR,aR,aR,aR,aR,aR,aR,aR,aR,aR,aR,aR,aR,aR,fY,fY]
theorem G1:zq0=List.replicate 63 aR ++ [fY,fY]:=rfl
def zq1:List Value:=List.append zt0 zq0
theorem G0:zq1=List.replicate 127 aR ++ [fY,fY]:=by
 show zt0 ++ zq0=_
 rw [yu,G1,←Kl,KA]
def zq2:List Value:=List.append zt1 zq1
theorem GZ:zq2=List.replicate 255 aR ++ [fY,fY]:=by
 show zt1 ++ zq1=_
 rw [yr,G0,←Kl,KA]
def zq3:List Value:=List.append zt2 zq2
theorem GY:zq3=List.replicate 511 aR ++ [fY,fY]:=by
 show zt2 ++ zq2=_
 rw [yq,GZ,←Kl,KA]
def zq4:List Value:=List.append zt3 zq3
theorem GX:zq4=List.replicate 1023 aR ++ [fY,fY]:=by
 show zt3 ++ zq3=_
 rw [yp,GY,←Kl,KA]
def zq5:List Value:=List.append zt4 zq4
theorem GW:zq5=List.replicate 2047 aR ++ [fY,fY]:=by
 show zt4 ++ zq4=_
 rw [yn,GX,←Kl,KA]
def zq6:List Value:=List.append zt5 zq5
theorem GV:zq6=List.replicate 4095 aR ++ [fY,fY]:=by
 show zt5 ++ zq5=_
 rw [ym,GW,←Kl,KA]
def zq7:List Value:=List.append zt6 zq6
theorem GU:zq7=List.replicate 8191 aR ++ [fY,fY]:=by
 show zt6 ++ zq6=_
 rw [yl,GV,←Kl,KA]
def zq8:List Value:=List.append zt7 zq7
theorem GT:zq8=List.replicate 16383 aR ++ [fY,fY]:=by
 show zt7 ++ zq7=_
 rw [yk,GU,←Kl,KA]
def zq9:List Value:=List.append zt8 zq8
theorem GS:zq9=List.replicate 32767 aR ++ [fY,fY]:=by
 show zt8 ++ zq8=_
 rw [yj,GT,←Kl,KA]
def zq10:List Value:=List.append zt9 zq9
theorem DM:zq10=List.replicate 65535 aR ++ [fY,fY]:=by
 show zt9 ++ zq9=_
 rw [CY,GS,←Kl,KA]
def zAll:List Value:=List.append zr10 zq10
theorem DO:zAll=List.replicate 131072 aR ++ [fY,fY]:=by
 show zr10 ++ zq10=_
 rw [DL,DM,←Kl,KA]
theorem C2:dZ Tryz.prog 30=some (.agg (List.toArray zAll)):=by kernel_rfl
def wY:List UInt8:= [48,49,50,51,52,53,54,55,56,57]
theorem sa{H:au}{nx x:Nat}{k:ByteArray}(hk:k.size≤1000):Fnc Tryz.prog 20 [.sc (.string k),.sc (.int .u64 (x:Int))] H nx (fun q=>VerIs q.2.1 q.1 (k.data.toList,wY,x,0)∧nx≤q.2.2∧ ∀ m,m<nx→q.2.1.at' m=H.at' m):=by
 refine KE Tryz.func20 rfl rfl ?_
 repeat first|apply ah;rfl|refine w_vl (uE (F.un _ rfl) (F.un _ rfl) (F.un _ rfl) rfl (by focus(omega))) rfl rfl rfl ?_|apply bF;rfl;rfl;exact(F.un _ rfl);exact(F.sz _ rfl);rfl;exact(F.ze _ rfl);rfl;rfl;rfl;rfl;rfl
 (refine w_vl (Ep (F.un _ rfl) (F.un _ rfl) rfl (ai _ _ _) (by focus(decide))) rfl rfl rfl ?_)
 repeat first|apply ah;rfl|apply aG;rfl;(focus((repeat(first|exact ac|refine ab (by omega) ?_));done));rfl
 ((apply bw Tryz.func20 (congrArg Array.toList Tryz.results20));(focus(repeat(first|exact KF|apply KG rfl (KI (F.ag _ rfl) (by repeat(exact ac)) (ak _ 0 rfl rfl))))))
 refine⟨⟨.slu (nx+1) 0 k.size,.slu (nx+1+1) 0 10,rfl,jz (ro:=false) ?_ rfl,jz (ro:=false) (n:=10) ?_ rfl⟩,by dsimp only;omega,fun m hm=>by(repeat(refine ab (by omega) ?_));rfl⟩
 ·(focus((repeat(first|exact ac|refine ab (by omega) ?_));done))
 ·refine(aa _ _ (by omega)).trans ((ai _ _ _).trans ?_)
  exact congrArg some (ij _ _ _ _ (byV wY))
abbrev zeroM:List UInt8:=List.replicate 131072 0
theorem iC:zeroM.length=131072:=Kn
theorem Be:zAll.map SV.sc=pY zeroM 0 0:=by
 rw [DO,J4,List.map_replicate]
 show _=(byV (List.replicate 131072 0)).map SV.sc ++ _
 rw [show byV (List.replicate 131072 (0:UInt8))=List.replicate 131072 aR from List.map_replicate,List.map_replicate]
 rfl
theorem wN{place:Nat→Option (Nat×Nat)}{cells vc:List SV}{i off size:Nat}{v:SV}(hp:place i=some (off,size))(hv:v.cells=vc)(hl:vc.length=size)(ho:off+size≤cells.length):lg place cells [(i,v)]=some (cells.take off ++ vc ++ cells.drop (off+size)):=by
 subst hv
 have hb:(Nat.beq v.cells.length size && Nat.ble (off+size) cells.length)=true:=by
  rw [JY]
  exact⟨by rw [hl];exact Nat.beq_refl _,JN ho⟩
 simp only [lg,hp,hb,cond_true]
theorem wM:lg (fun i=>([(0,131072),(131072,1),(131073,1)]:List (Nat×Nat))[i]?) ((Value.agg (List.toArray zAll)).cells.toList.map .sc) [(1,.sc (.int .i64 (-1)))]=some (pY zeroM (-1) 0):=by
 have e:(Value.agg (List.toArray zAll)).cells.toList.map SV.sc=pY zeroM 0 0:=(congrArg (List.map SV.sc) (List.toList_toArray ..)).trans Be
 have hl:=oK iC 0 0
 have h1:=gQ iC
 rw [e,wN (vc:= [.sc (.int .i64 (-1))]) (size:=1) (off:=131072) rfl rfl rfl (by rw [hl];exact JL rfl),List.take_left' h1,←List.drop_drop,List.drop_left' h1,Kl]
 rfl
end Go.Proofs.YtnhmbonmlfeifaaGreat
end
