import Derived.Test.YtnhmbonmlfeifaaGreatO6
set_option linter.unusedVariables false
set_option linter.unusedSimpArgs false
set_option maxRecDepth 100000
set_option maxHeartbeats 0
section
namespace Go.Proofs.YtnhmbonmlfeifaaGreat
open Go Go.Sy Go.Sl Go.RowKit
section
variable {H:au}{s:SV}{a i n nx r:Nat}{it p:List UInt8}
abbrev AY:Nat×Nat→List Value:=fun x=> [.int .i64 (x.1:Int),.int .i64 (x.2:Int)]
theorem qy:RecOf AY 2:=⟨fun _=>rfl,fun a v hv=>by
 simp only [AY,JV,List.not_mem_nil,or_false] at hv
 rcases hv with rfl|rfl <;> rfl⟩
def eH(p:List UInt8)(n:Nat):List (Nat×Nat):=(List.range n).map fun j=>(ay p j,ak p j)
theorem eO(p:List UInt8)(n:Nat):(eH p n).length=n:=by simp [eH]
theorem mH(p:List UInt8)(n:Nat):eH p (n+1)=eH p n ++ [(ay p n,ak p n)]:=by simp [eH,List.range_succ]
abbrev sbO(a b:Nat):VO:=ar 92 [.sc (.int .i64 (a:Int)),.sc (.int .i64 (b:Int))]
abbrev slO(l:List (Nat×Nat)):VO:=dat false l.length 2 92 (l.flatMap AY)
theorem rX(p:List UInt8)(n:Nat):(eH p n).flatMap AY=((List.range n).flatMap fun j=> [Value.int .i64 (ay p j:Int),.int .i64 (ak p j:Int)]):=by
 unfold eH
 rw [List.flatMap_map]
theorem rg{f g:Nat→Value}: ∀ (n k:Nat),k<n→((List.range n).flatMap fun j=> [f j,g j])[k*2]? =some (f k)∧((List.range n).flatMap fun j=> [f j,g j])[k*2+1]? =some (g k)
 | 0,k,h=>absurd h (Nat.not_lt_zero _)
 | n+1,k,h=>by
   have hl:((List.range n).flatMap fun j=> [f j,g j]).length=n*2:=by
    rw [List.length_flatMap]
    simp [List.map_const',List.sum_replicate_nat]
   rw [List.range_succ,List.flatMap_append]
   rcases JJ k n with h1|h1
   ·rw [Js (by omega),Js (by omega)]
    exact rg n k h1
   ·obtain rfl:k=n:=by omega
    rw [JQ (by omega),JQ (by omega),hl]
    simp
theorem jC(p:List UInt8){k:Nat}(h:k<i):(slO (eH p i)).cell (k*2)=some (.sc (.int .i64 (ay p k:Int))):=by
 refine ge (by rw [eO];omega) ?_
 rw [rX p i]
 exact(rg i k h).1
theorem iz(p:List UInt8){k:Nat}(h:k<i):(slO (eH p i)).cell (k*2+1)=some (.sc (.int .i64 (ak p k:Int))):=by
 refine ge (by rw [eO];omega) ?_
 rw [rX p i]
 exact(rg i k h).2
theorem ly(h: ∀ j,j<i→kY p j)(hi:kY p i): ∀ j,j<i+1→kY p j:=fun j hj=>by
 rcases JJ j i with h5|h5
 ·exact h j h5
 ·obtain rfl:j=i:=by omega
  exact hi
theorem pW(hp:p.length=1024):Fnc Tryz.prog 35 [.agg (pgS p)] H nx
 (fun q=>nx≤q.2.2∧(∀ m,m<nx→q.2.1.at' m=H.at' m)∧((bg p=false∧q.1 = .tup [dC,.sc (.bool false)])∨(bg p=true∧ ∃ r,q.1 = .tup [.slu r 0 (eH p (ac p)).length,.sc (.bool true)]∧nx≤r∧r<q.2.2∧q.2.1.at' r=some (slO (eH p (ac p)))))):=by
 have hno: ¬ Okp p→bg p=false:=(A5 hp).2
 have hyes:Okp p→bg p=true:=(bi hp).2
 have hs0:ac p<65536:=cJ p 14
 have hb0:aD p<65536:=cJ p 16
 have hsl: ∀ {H:au} {nx:Nat},Fnc Tryz.prog 76 [.agg (pgS p),.sc (.int .i64 14)] H nx (fun q=>q=(.sc (.int .i64 (ac p:Int)),H,nx)):=fun {H nx}=>oH (o:=14) hp (by decide)
 refine Ka Tryz.func35 rfl rfl ?_
 repeat first|apply bu hp;rfl;(focus((repeat(exact ae));done))|apply ai;rfl|apply aL;rfl;omega;omega|apply bY;rfl;kernel_rfl;exact hsl|apply bY;rfl;kernel_rfl;exact jS hp
 refine ey rfl rfl rfl rfl (fun h1=>?_) (fun h1=>?_)
 ·repeat apply ai;rfl
  (apply bP Tryz.func35 Tryz.results35;rfl)
  exact⟨by dsimp only;omega,fun m hm=>by(repeat(refine ab (by omega) ?_));rfl,.inl ⟨hno fun h=>by have:=h.head;omega,rfl⟩⟩
 ·repeat first|apply bu hp;rfl;(focus((repeat(exact ae));done))|apply ai;rfl|apply bY;rfl;kernel_rfl;exact jS hp
  refine ey rfl rfl rfl rfl (fun h2=>?_) (fun h2=>?_)
  ·repeat apply ai;rfl
   (apply bP Tryz.func35 Tryz.results35;rfl)
   exact⟨by dsimp only;omega,fun m hm=>by(repeat(refine ab (by omega) ?_));rfl,.inl ⟨hno fun h=>by have:=h.top;omega,rfl⟩⟩
  ·repeat apply ai;rfl
   refine kq (d:=5) 2 92 rfl rfl ?_
   refine bC (α:=Nat×Nat) (fun x=> [(1,.ptr nx 0),(4,.sc (.int .i64 (ac p:Int))),(5,.slu x.2 0 (eH p x.1).length),(6,.sc (.int .i64 (x.1:Int)))])
    (fun x H1 n1=>x.1≤ac p∧(∀ j,j<x.1→kY p j)∧(x.1=ac p→0<ac p→ak p (ac p-1)≠0)∧nx<x.2∧x.2<n1∧H1.at' x.2=some (slO (eH p x.1))∧H1.at' nx=some (pgO p)∧ ∀ m,m<nx→H1.at' m=H.at' m) (fun x=>ac p-x.1) (0,nx+1)
    ⟨Jw _,fun j hj=>absurd hj (Nat.not_lt_zero _),fun h1 h2=>absurd h1 (by dsimp only;omega),Nat.lt_succ_self _,Nat.lt_succ_self _,by repeat(exact ae),by repeat(first|exact ae|refine ab (by omega) ?_),fun m hm=>by(repeat(refine ab (by omega) ?_));rfl⟩ (Kg (Kj rfl)) ?_
   rintro⟨i,r⟩ H1 n1 ⟨i1,i2,i3,i4,i5,i6,i7,i8⟩ ih
   dsimp only at i1 i2 i3 i4 i5 i6 i7 i8 ⊢
   repeat apply ai;rfl
   refine bn rfl rfl rfl rfl (fun h3=>?_) (fun h3=>?_)
   ·have hi:i<ac p:=by omega
    have hn1: ∀ {H:au} {nx:Nat},Fnc Tryz.prog 76 [.agg (pgS p),.sc (.int .i64 (18+4*(i:Int)))] H nx (fun q=>q=(.sc (.int .i64 (ay p i:Int)),H,nx)):=fun {H nx}=>by
     have:=oH (H:=H) (nx:=nx) (o:=18+4*i) hp (by omega)
     rw [show((18+4*i:Nat):Int)=18+4*(i:Int) by omega] at this
     exact this
    have hn2: ∀ {H:au} {nx:Nat},Fnc Tryz.prog 76 [.agg (pgS p),.sc (.int .i64 (18+4*(i:Int)+2))] H nx (fun q=>q=(.sc (.int .i64 (ak p i:Int)),H,nx)):=fun {H nx}=>by
     have:=oH (H:=H) (nx:=nx) (o:=18+4*i+2) hp (by omega)
     rw [show((18+4*i+2:Nat):Int)=18+4*(i:Int)+2 by omega] at this
     exact this
    repeat apply ai;rfl
    (apply gt;(focus(kernel_rfl));(focus(kernel_rfl)))
    refine dR 4 (Jh rfl) ?_
    repeat first|refine b8 rfl rfl rfl (F.ag _ rfl) i7 (be hp) ?_|apply aS;rfl|refine bj (aw rfl rfl (.inl ⟨rfl,(Jd _ ⟨(by focus(omega)),(by focus(omega))⟩).symm⟩)) rfl rfl rfl ?_|refine bj (aw rfl rfl (.inr (.inr ⟨rfl,(Jd _ ⟨(by focus(omega)),(by focus(omega))⟩).symm⟩))) rfl rfl rfl ?_
    refine aA ?_;(apply dS;rfl;rfl;rfl;(focus(kernel_rfl));exact(hn1))
    refine dR 5 (Jh rfl) ?_
    repeat first|refine b8 rfl rfl rfl (F.ag _ rfl) i7 (be hp) ?_|apply aS;rfl|refine bj (aw rfl rfl (.inl ⟨rfl,(Jd _ ⟨(by focus(omega)),(by focus(omega))⟩).symm⟩)) rfl rfl rfl ?_|refine bj (aw rfl rfl (.inr (.inr ⟨rfl,(Jd _ ⟨(by focus(omega)),(by focus(omega))⟩).symm⟩))) rfl rfl rfl ?_
    refine aA ?_;(apply dS;rfl;rfl;rfl;(focus(kernel_rfl));exact(hn2))
    refine iL ?_
    repeat first|apply aS;rfl|refine oZ (ef (F.zl _ rfl)) rfl rfl rfl ?_|refine pJ (cI (F.sz _ rfl) rfl rfl rfl (by repeat(first|assumption|exact ae)) (by rfl) (by exact Jh rfl) (by rfl)) rfl rfl ?_
    refine aA ⟨by kernel_rfl,?_,?_⟩;(focus(repeat(first|exact Kk|refine⟨.inl rfl,?_⟩|refine⟨.inr (.inl (by(repeat(refine⟨(by first|exact mI rfl|exact aw rfl rfl (.inl ⟨rfl,(Jd _ ⟨by omega,by omega⟩).symm⟩)|exact ba (F.ag _ rfl) rfl (by(repeat(refine ab (by omega) ?_));exact i7) (bk hp)|exact aw rfl rfl (.inr (.inr ⟨rfl,(Jd _ ⟨by omega,by omega⟩).symm⟩))),?_⟩));exact Kk)),?_⟩|refine⟨.inr (.inr (by(repeat(refine⟨(by exact eg rfl (by kernel_rfl) (by first|exact hn1|exact hn2)),?_⟩));exact Kk)),?_⟩)))
    dsimp only
    apply cW (R:=fun H2 n2=>n2=n1+1∧H2.at' n1=some (sbO (ay p i) (ak p i))∧H2.at' r=some (slO (eH p i))∧H2.at' nx=some (pgO p)∧ ∀ m,m<nx→H2.at' m=H.at' m)
    focus exact⟨rfl,by repeat(exact ae),by repeat(first|assumption|refine ab (by omega) ?_),by repeat(first|assumption|refine ab (by omega) ?_),fun m hm=>by(repeat(refine ab (by omega) ?_));exact i8 m hm⟩
    rintro H2 n2 ⟨rfl,j1,j2,j3,j4⟩
    have hf0:ay p i<65536:=cJ p _
    have hf1:ak p i<65536:=cJ p _
    have hll:=eO p i
    by_cases hz:ay p i=0∧ak p i=0
    ·have hso:kY p i:= .inl hz
     repeat first|apply ai;rfl|apply aG;rfl;assumption;rfl|apply dM;rfl;omega
     by_cases hl:i+1=ac p
     ·(apply bh;(focus(kernel_rfl));(focus(kernel_rfl)))
      repeat first|apply aS;rfl|refine bj (aw rfl rfl (.inr (.inl ⟨rfl,(Jd _ ⟨(by focus(omega)),(by focus(omega))⟩).symm⟩))) rfl rfl rfl ?_|apply cq;rfl;rfl|refine ji rfl rfl rfl rfl (fun _=>?_) (fun hq=>absurd hq (by omega))
      refine aA ⟨by kernel_rfl,?_,?_⟩;(focus(repeat(first|exact Kk|apply uy;rfl|apply gi;rfl;kernel_rfl|refine⟨.inr ⟨0,by kernel_rfl,AllH.all (fun _=>(by(exact aw rfl rfl (.inr (.inl ⟨rfl,(Jd _ ⟨by omega,by omega⟩).symm⟩))))) _⟩,?_⟩|apply lJ;kernel_rfl)))
      repeat apply ai;rfl
      (apply bP Tryz.func35 Tryz.results35;rfl)
      exact⟨by dsimp only;omega,j4,.inl ⟨hno fun h=>h.last (by omega) (by rw [← hl];exact hz.2),rfl⟩⟩
     ·(apply bh;(focus(kernel_rfl));(focus(kernel_rfl)))
      repeat first|apply aS;rfl|refine bj (aw rfl rfl (.inr (.inl ⟨rfl,(Jd _ ⟨(by focus(omega)),(by focus(omega))⟩).symm⟩))) rfl rfl rfl ?_|apply cq;rfl;rfl|refine ji rfl rfl rfl rfl (fun hq=>absurd hq (by omega)) (fun _=>?_)
      refine aA ⟨by kernel_rfl,?_,?_⟩;(focus(repeat(first|exact Kk|apply uy;rfl|apply gi;rfl;kernel_rfl|refine⟨.inr ⟨0,by kernel_rfl,AllH.all (fun _=>(by(exact aw rfl rfl (.inr (.inl ⟨rfl,(Jd _ ⟨by omega,by omega⟩).symm⟩))))) _⟩,?_⟩|apply lJ;kernel_rfl)))
      repeat apply ai;rfl
      have hlast:i+1=ac p→0<ac p→ak p (ac p-1)≠0:=fun h=>absurd h hl
      refine nK ?_
      repeat apply ai;rfl
      refine bn rfl rfl rfl rfl (fun _=>?_) (fun _=>?_)
      ·((try dsimp only);(repeat(first|apply ai;rfl|apply aG;rfl;assumption;rfl|apply aL;rfl;omega;omega|apply bM;rfl;rfl;exact(F.un _ rfl);exact(F.sz _ rfl);rfl;exact(F.ze _ rfl);rfl;rfl;rfl;rfl;rfl|refine lL (b:=16) (xs:=eH p i) (a:=(ay p i,ak p i)) rfl rfl rfl rfl (F.un _ rfl) (.inl ⟨_,F.un _ rfl⟩) (F.sz _ rfl) rfl (by kernel_rfl) (by kernel_rfl) (by repeat(first|assumption|refine ab (by omega) ?_)) (by repeat(exact ae)) (by rfl) (qy) (by omega) (by omega) ?_));rw [← mH];exact ih _ _ _ (i+1,n1+1+1) ⟨hi,ly i2 hso,hlast,by dsimp only;omega,by dsimp only;omega,by repeat(exact ae),by repeat(first|assumption|refine ab (by omega) ?_|refine cp (by omega) ?_),fun m hm=>by(repeat(first|refine ab (by omega) ?_|refine cp (by omega) ?_));exact j4 m hm⟩ (by dsimp only;omega) (Kg (Kj rfl)))
      ·((try dsimp only);(repeat(first|apply ai;rfl|apply aG;rfl;assumption;rfl|apply aL;rfl;omega;omega|apply bM;rfl;rfl;exact(F.un _ rfl);exact(F.sz _ rfl);rfl;exact(F.ze _ rfl);rfl;rfl;rfl;rfl;rfl|refine lL (b:=16) (xs:=eH p i) (a:=(ay p i,ak p i)) rfl rfl rfl rfl (F.un _ rfl) (.inl ⟨_,F.un _ rfl⟩) (F.sz _ rfl) rfl (by kernel_rfl) (by kernel_rfl) (by repeat(first|assumption|refine ab (by omega) ?_)) (by repeat(exact ae)) (by rfl) (qy) (by omega) (by omega) ?_));rw [← mH];exact ih _ _ _ (i+1,n1+1+1) ⟨hi,ly i2 hso,hlast,by dsimp only;omega,by dsimp only;omega,by repeat(exact ae),by repeat(first|assumption|refine ab (by omega) ?_|refine cp (by omega) ?_),fun m hm=>by(repeat(first|refine ab (by omega) ?_|refine cp (by omega) ?_));exact j4 m hm⟩ (by dsimp only;omega) (Kg (Kj rfl)))
    ·by_cases hf:ay p i=0
     ·have hzz:ak p i≠0:=fun h=>hz ⟨hf,h⟩
      repeat first|apply ai;rfl|apply aG;rfl;assumption;rfl|apply dM;rfl;omega|apply iv;rfl;omega
      by_cases b1:ak p i<1
      ·((apply bh;(focus(kernel_rfl));(focus(kernel_rfl)));(repeat(first|apply dw;rfl;assumption;rfl|apply aS;rfl|apply cq;rfl;rfl|refine cK rfl rfl rfl rfl (fun _=>?_) (fun hq=>absurd hq (by omega))));refine aA ⟨by kernel_rfl,?_,?_⟩;(focus(repeat(first|exact Kk|apply uy;rfl|apply gi;rfl;kernel_rfl|refine fX 0 rfl (by kernel_rfl) (by(repeat(refine⟨(by(exact am (F.ag _ rfl) rfl (by assumption) (aB rfl))),?_⟩));exact Kk) ?_|apply lJ;kernel_rfl)));(repeat(apply ai;rfl));(apply bP Tryz.func35 Tryz.results35;rfl);exact⟨by dsimp only;omega,j4,.inl ⟨hno fun h=>(by have:=h.slot i hi;omega),rfl⟩⟩)
      by_cases b2:1000<ak p i
      ·((apply bh;(focus(kernel_rfl));(focus(kernel_rfl)));(repeat(first|apply dw;rfl;assumption;rfl|apply aS;rfl|apply cq;rfl;rfl|refine cK rfl rfl rfl rfl (fun hq=>absurd hq (by omega)) (fun _=>?_)|refine fH rfl rfl rfl rfl (fun _=>?_) (fun hq=>absurd hq (by omega))));refine aA ⟨by kernel_rfl,?_,?_⟩;(focus(repeat(first|exact Kk|apply uy;rfl|apply gi;rfl;kernel_rfl|refine fX 0 rfl (by kernel_rfl) (by(repeat(refine⟨(by(exact am (F.ag _ rfl) rfl (by assumption) (aB rfl))),?_⟩));exact Kk) ?_|apply lJ;kernel_rfl)));(repeat(apply ai;rfl));(apply bP Tryz.func35 Tryz.results35;rfl);exact⟨by dsimp only;omega,j4,.inl ⟨hno fun h=>(by have:=h.slot i hi;omega),rfl⟩⟩)
      have b3:ay p i<aD p:=by omega
      ((apply bh;(focus(kernel_rfl));(focus(kernel_rfl)));(repeat(first|refine b8 rfl rfl rfl (F.ag _ rfl) j3 (be hp) ?_|apply bT;rfl;rfl;rfl;(focus(kernel_rfl));exact(jS hp)|apply dw;rfl;assumption;rfl|apply aS;rfl|apply cq;rfl;rfl|refine cK rfl rfl rfl rfl (fun _=>?_) (fun hq=>absurd hq (by omega))|refine cK rfl rfl rfl rfl (fun hq=>absurd hq (by omega)) (fun _=>?_)|refine fH rfl rfl rfl rfl (fun hq=>absurd hq (by omega)) (fun _=>?_)));refine aA ⟨by kernel_rfl,?_,?_⟩;(focus(repeat(first|exact Kk|apply jU;rfl|apply uy;rfl|apply gi;rfl;kernel_rfl|refine fX 0 rfl (by kernel_rfl) (by(repeat(refine⟨(by first|exact am (F.ag _ rfl) rfl (by assumption) (aB rfl)|exact ba (F.ag _ rfl) rfl (by assumption) (bk hp)),?_⟩));exact Kk) ?_|apply lJ;kernel_rfl)));(repeat(apply ai;rfl));(apply bP Tryz.func35 Tryz.results35;rfl);exact⟨by dsimp only;omega,j4,.inl ⟨hno fun h=>(by have:=h.slot i hi;omega),rfl⟩⟩)
     ·repeat first|apply ai;rfl|apply aG;rfl;assumption;rfl|apply iv;rfl;omega
      by_cases b1:ak p i<1
      ·((apply bh;(focus(kernel_rfl));(focus(kernel_rfl)));(repeat(first|apply dw;rfl;assumption;rfl|apply aS;rfl|apply cq;rfl;rfl|refine cK rfl rfl rfl rfl (fun _=>?_) (fun hq=>absurd hq (by omega))));refine aA ⟨by kernel_rfl,?_,?_⟩;(focus(repeat(first|exact Kk|apply uy;rfl|apply gi;rfl;kernel_rfl|refine fX 0 rfl (by kernel_rfl) (by(repeat(refine⟨(by(exact am (F.ag _ rfl) rfl (by assumption) (aB rfl))),?_⟩));exact Kk) ?_|apply lJ;kernel_rfl)));(repeat(apply ai;rfl));(apply bP Tryz.func35 Tryz.results35;rfl);exact⟨by dsimp only;omega,j4,.inl ⟨hno fun h=>(by have:=h.slot i hi;omega),rfl⟩⟩)
      by_cases b2:1000<ak p i
      ·((apply bh;(focus(kernel_rfl));(focus(kernel_rfl)));(repeat(first|apply dw;rfl;assumption;rfl|apply aS;rfl|apply cq;rfl;rfl|refine cK rfl rfl rfl rfl (fun hq=>absurd hq (by omega)) (fun _=>?_)|refine fH rfl rfl rfl rfl (fun _=>?_) (fun hq=>absurd hq (by omega))));refine aA ⟨by kernel_rfl,?_,?_⟩;(focus(repeat(first|exact Kk|apply uy;rfl|apply gi;rfl;kernel_rfl|refine fX 0 rfl (by kernel_rfl) (by(repeat(refine⟨(by(exact am (F.ag _ rfl) rfl (by assumption) (aB rfl))),?_⟩));exact Kk) ?_|apply lJ;kernel_rfl)));(repeat(apply ai;rfl));(apply bP Tryz.func35 Tryz.results35;rfl);exact⟨by dsimp only;omega,j4,.inl ⟨hno fun h=>(by have:=h.slot i hi;omega),rfl⟩⟩)
      by_cases b3:ay p i<aD p
      ·((apply bh;(focus(kernel_rfl));(focus(kernel_rfl)));(repeat(first|refine b8 rfl rfl rfl (F.ag _ rfl) j3 (be hp) ?_|apply bT;rfl;rfl;rfl;(focus(kernel_rfl));exact(jS hp)|apply dw;rfl;assumption;rfl|apply aS;rfl|apply cq;rfl;rfl|refine cK rfl rfl rfl rfl (fun _=>?_) (fun hq=>absurd hq (by omega))|refine cK rfl rfl rfl rfl (fun hq=>absurd hq (by omega)) (fun _=>?_)|refine fH rfl rfl rfl rfl (fun hq=>absurd hq (by omega)) (fun _=>?_)));refine aA ⟨by kernel_rfl,?_,?_⟩;(focus(repeat(first|exact Kk|apply jU;rfl|apply uy;rfl|apply gi;rfl;kernel_rfl|refine fX 0 rfl (by kernel_rfl) (by(repeat(refine⟨(by first|exact am (F.ag _ rfl) rfl (by assumption) (aB rfl)|exact ba (F.ag _ rfl) rfl (by assumption) (bk hp)),?_⟩));exact Kk) ?_|apply lJ;kernel_rfl)));(repeat(apply ai;rfl));(apply bP Tryz.func35 Tryz.results35;rfl);exact⟨by dsimp only;omega,j4,.inl ⟨hno fun h=>(by have:=h.slot i hi;omega),rfl⟩⟩)
      by_cases b4:1024<ay p i+ak p i
      ·((apply bh;(focus(kernel_rfl));(focus(kernel_rfl)));(repeat(first|refine b8 rfl rfl rfl (F.ag _ rfl) j3 (be hp) ?_|apply bT;rfl;rfl;rfl;(focus(kernel_rfl));exact(jS hp)|apply dw;rfl;assumption;rfl|apply aS;rfl|refine bj (aw rfl rfl (.inl ⟨rfl,(Jd _ ⟨(by focus(omega)),(by focus(omega))⟩).symm⟩)) rfl rfl rfl ?_|apply cq;rfl;rfl|refine cK rfl rfl rfl rfl (fun hq=>absurd hq (by omega)) (fun _=>?_)|refine fH rfl rfl rfl rfl (fun _=>?_) (fun hq=>absurd hq (by omega))|refine fH rfl rfl rfl rfl (fun hq=>absurd hq (by omega)) (fun _=>?_)));refine aA ⟨by kernel_rfl,?_,?_⟩;(focus(repeat(first|exact Kk|apply jU;rfl|apply uy;rfl|apply gi;rfl;kernel_rfl|refine⟨.inr ⟨0,by kernel_rfl,AllH.all (fun _=>(by(exact aw rfl rfl (.inl ⟨rfl,(Jd _ ⟨by omega,by omega⟩).symm⟩)))) _⟩,?_⟩|refine fX 0 rfl (by kernel_rfl) (by(repeat(refine⟨(by first|exact am (F.ag _ rfl) rfl (by assumption) (aB rfl)|exact ba (F.ag _ rfl) rfl (by assumption) (bk hp)),?_⟩));exact Kk) ?_|apply lJ;kernel_rfl)));(repeat(apply ai;rfl));(apply bP Tryz.func35 Tryz.results35;rfl);exact⟨by dsimp only;omega,j4,.inl ⟨hno fun h=>(by have:=h.slot i hi;omega),rfl⟩⟩)
      ((apply bh;(focus(kernel_rfl));(focus(kernel_rfl)));(repeat(first|refine b8 rfl rfl rfl (F.ag _ rfl) j3 (be hp) ?_|apply bT;rfl;rfl;rfl;(focus(kernel_rfl));exact(jS hp)|apply dw;rfl;assumption;rfl|apply aS;rfl|refine bj (aw rfl rfl (.inl ⟨rfl,(Jd _ ⟨(by focus(omega)),(by focus(omega))⟩).symm⟩)) rfl rfl rfl ?_|apply cq;rfl;rfl|refine cK rfl rfl rfl rfl (fun hq=>absurd hq (by omega)) (fun _=>?_)|refine fH rfl rfl rfl rfl (fun hq=>absurd hq (by omega)) (fun _=>?_)));refine aA ⟨by kernel_rfl,?_,?_⟩;(focus(repeat(first|exact Kk|apply jU;rfl|apply uy;rfl|apply gi;rfl;kernel_rfl|refine⟨.inr ⟨0,by kernel_rfl,AllH.all (fun _=>(by(exact aw rfl rfl (.inl ⟨rfl,(Jd _ ⟨by omega,by omega⟩).symm⟩)))) _⟩,?_⟩|refine fX 0 rfl (by kernel_rfl) (by(repeat(refine⟨(by first|exact am (F.ag _ rfl) rfl (by assumption) (aB rfl)|exact ba (F.ag _ rfl) rfl (by assumption) (bk hp)),?_⟩));exact Kk) ?_|apply lJ;kernel_rfl)));(repeat(apply ai;rfl));(try dsimp only))
      refine bC (α:=Nat) (fun k=> [(1,.ptr nx 0),(4,.sc (.int .i64 (ac p:Int))),(5,.slu r 0 (eH p i).length),(6,.sc (.int .i64 (i:Int))),(7,.ptr n1 0),(8,.sc (.bool false)),(9,.sc (.int .i64 (k:Int)))])
       (fun k H3 n3=>k≤i∧(∀ k',k'<k→ak p k'≠0→ay p k'+ak p k'≤ay p i∨ay p i+ak p i≤ay p k')∧n3=n1+1∧H3.at' n1=some (sbO (ay p i) (ak p i))∧H3.at' r=some (slO (eH p i))∧H3.at' nx=some (pgO p)∧ ∀ m,m<nx→H3.at' m=H.at' m) (fun k=>i-k) 0
       ⟨Jw _,fun k' h5=>absurd h5 (Nat.not_lt_zero _),rfl,j1,j2,j3,j4⟩ (Kg (Kj rfl)) ?_
      clear j1 j2 j3 j4
      rintro k H3 n3 ⟨k1,k2,rfl,j1,j2,j3,j4⟩ ihk
      repeat apply ai;rfl
      refine bn rfl rfl rfl rfl (fun h5=>?_) (fun h5=>?_)
      ·have hki:k<i:=by omega
       have hkf:ay p k<65536:=cJ p _
       have hkg:ak p k<65536:=cJ p _
       have hcS:=iz p hki
       have hcF:=jC p hki
       repeat apply ai;rfl
       by_cases c1:0<ak p k∧ay p k<ay p i+ak p i∧ay p i<ay p k+ak p k
       ·((apply bh;(focus(kernel_rfl));(focus(kernel_rfl)));(repeat(first|refine bj (am (F.ag _ rfl) rfl j2 hcS) rfl rfl rfl ?_|refine bj (am (F.ag _ rfl) rfl j2 hcF) rfl rfl rfl ?_|apply dw;rfl;assumption;rfl|refine aH (q:=k) rfl rfl rfl rfl (F.un _ rfl) (F.sz _ rfl) (by assumption) (by omega) (by(omega)) (Jv _) ?_|apply aS;rfl|refine bj (aw rfl rfl (.inl ⟨rfl,(Jd _ ⟨(by focus(omega)),(by focus(omega))⟩).symm⟩)) rfl rfl rfl ?_|refine cK rfl rfl rfl rfl (fun _=>?_) (fun hq=>absurd hq (by omega))|refine fH rfl rfl rfl rfl (fun _=>?_) (fun hq=>absurd hq (by omega))));refine aA ⟨by kernel_rfl,?_,?_⟩;(focus(repeat(first|exact Kk|apply gi;rfl;kernel_rfl|refine⟨.inr ⟨0,by kernel_rfl,AllH.all (fun _=>(by(exact aw rfl rfl (.inl ⟨rfl,(Jd _ ⟨by omega,by omega⟩).symm⟩)))) _⟩,?_⟩|refine fX 0 rfl (by kernel_rfl) (by(repeat(refine⟨(by first|exact am (F.ag _ rfl) rfl (by assumption) (aB rfl)|exact am (F.ag _ rfl) rfl j2 hcS|exact am (F.ag _ rfl) rfl j2 hcF|exact aQ (F.un _ rfl) (F.sz _ rfl) rfl rfl j2 rfl (by omega) (Jv _)),?_⟩));exact Kk) ?_|apply lJ;kernel_rfl)));(repeat(apply ai;rfl)))
        (apply bP Tryz.func35 Tryz.results35;rfl)
        exact⟨by dsimp only;omega,j4,.inl ⟨hno fun h=>(by have:=h.apart k i hki hi (by omega) (by omega);omega),rfl⟩⟩
       have hk3: ∀ k',k'<k+1→ak p k'≠0→ay p k'+ak p k'≤ay p i∨ay p i+ak p i≤ay p k':=fun k' h6 h7=>by
        rcases JJ k' k with h8|h8
        ·exact k2 k' h8 h7
        ·obtain rfl:k'=k:=by omega
         omega
       by_cases c2:0<ak p k
       ·by_cases c3:ay p k<ay p i+ak p i
        ·((apply bh;(focus(kernel_rfl));(focus(kernel_rfl)));(repeat(first|refine bj (am (F.ag _ rfl) rfl j2 hcS) rfl rfl rfl ?_|refine bj (am (F.ag _ rfl) rfl j2 hcF) rfl rfl rfl ?_|apply dw;rfl;assumption;rfl|refine aH (q:=k) rfl rfl rfl rfl (F.un _ rfl) (F.sz _ rfl) (by assumption) (by omega) (by(omega)) (Jv _) ?_|apply aS;rfl|refine bj (aw rfl rfl (.inl ⟨rfl,(Jd _ ⟨(by focus(omega)),(by focus(omega))⟩).symm⟩)) rfl rfl rfl ?_|refine cK rfl rfl rfl rfl (fun _=>?_) (fun hq=>absurd hq (by omega))|refine cK rfl rfl rfl rfl (fun hq=>absurd hq (by omega)) (fun _=>?_)|refine fH rfl rfl rfl rfl (fun _=>?_) (fun hq=>absurd hq (by omega))));refine aA ⟨by kernel_rfl,?_,?_⟩;(focus(repeat(first|exact Kk|apply gi;rfl;kernel_rfl|refine⟨.inr ⟨0,by kernel_rfl,AllH.all (fun _=>(by(exact aw rfl rfl (.inl ⟨rfl,(Jd _ ⟨by omega,by omega⟩).symm⟩)))) _⟩,?_⟩|refine fX 0 rfl (by kernel_rfl) (by(repeat(refine⟨(by first|exact am (F.ag _ rfl) rfl (by assumption) (aB rfl)|exact am (F.ag _ rfl) rfl j2 hcS|exact am (F.ag _ rfl) rfl j2 hcF|exact aQ (F.un _ rfl) (F.sz _ rfl) rfl rfl j2 rfl (by omega) (Jv _)),?_⟩));exact Kk) ?_|apply lJ;kernel_rfl)));(repeat(first|apply ai;rfl|apply aL;rfl;omega;omega)))
         dsimp only
         exact ihk _ _ _ (k+1) ⟨by omega,hk3,rfl,j1,j2,j3,j4⟩ (by omega) (Kg (Kj rfl))
        ·((apply bh;(focus(kernel_rfl));(focus(kernel_rfl)));(repeat(first|refine bj (am (F.ag _ rfl) rfl j2 hcS) rfl rfl rfl ?_|refine bj (am (F.ag _ rfl) rfl j2 hcF) rfl rfl rfl ?_|apply dw;rfl;assumption;rfl|refine aH (q:=k) rfl rfl rfl rfl (F.un _ rfl) (F.sz _ rfl) (by assumption) (by omega) (by(omega)) (Jv _) ?_|apply aS;rfl|refine bj (aw rfl rfl (.inl ⟨rfl,(Jd _ ⟨(by focus(omega)),(by focus(omega))⟩).symm⟩)) rfl rfl rfl ?_|apply cq;rfl;rfl|refine cK rfl rfl rfl rfl (fun hq=>absurd hq (by omega)) (fun _=>?_)|refine fH rfl rfl rfl rfl (fun _=>?_) (fun hq=>absurd hq (by omega))));refine aA ⟨by kernel_rfl,?_,?_⟩;(focus(repeat(first|exact Kk|apply uy;rfl|apply gi;rfl;kernel_rfl|refine⟨.inr ⟨0,by kernel_rfl,AllH.all (fun _=>(by(exact aw rfl rfl (.inl ⟨rfl,(Jd _ ⟨by omega,by omega⟩).symm⟩)))) _⟩,?_⟩|refine fX 0 rfl (by kernel_rfl) (by(repeat(refine⟨(by first|exact am (F.ag _ rfl) rfl (by assumption) (aB rfl)|exact am (F.ag _ rfl) rfl j2 hcS|exact am (F.ag _ rfl) rfl j2 hcF|exact aQ (F.un _ rfl) (F.sz _ rfl) rfl rfl j2 rfl (by omega) (Jv _)),?_⟩));exact Kk) ?_|apply lJ;kernel_rfl)));(repeat(first|apply ai;rfl|apply aL;rfl;omega;omega)))
         dsimp only
         exact ihk _ _ _ (k+1) ⟨by omega,hk3,rfl,j1,j2,j3,j4⟩ (by omega) (Kg (Kj rfl))
       ·((apply bh;(focus(kernel_rfl));(focus(kernel_rfl)));(repeat(first|refine bj (am (F.ag _ rfl) rfl j2 hcS) rfl rfl rfl ?_|refine aH (q:=k) rfl rfl rfl rfl (F.un _ rfl) (F.sz _ rfl) (by assumption) (by omega) (by(omega)) (Jv _) ?_|apply aS;rfl|apply cq;rfl;rfl|refine fH rfl rfl rfl rfl (fun hq=>absurd hq (by omega)) (fun _=>?_)));refine aA ⟨by kernel_rfl,?_,?_⟩;(focus(repeat(first|exact Kk|apply uy;rfl|apply gi;rfl;kernel_rfl|refine fX 0 rfl (by kernel_rfl) (by(repeat(refine⟨(by first|exact am (F.ag _ rfl) rfl j2 hcS|exact aQ (F.un _ rfl) (F.sz _ rfl) rfl rfl j2 rfl (by omega) (Jv _)),?_⟩));exact Kk) ?_|apply lJ;kernel_rfl)));(repeat(first|apply ai;rfl|apply aL;rfl;omega;omega)))
        dsimp only
        exact ihk _ _ _ (k+1) ⟨by omega,hk3,rfl,j1,j2,j3,j4⟩ (by omega) (Kg (Kj rfl))
      ·have hki:k=i:=by omega
       rw [hki] at k2
       clear ihk
       have hso:kY p i:= .inr ⟨by omega,k2⟩
       have hlast:i+1=ac p→0<ac p→ak p (ac p-1)≠0:=fun h _=>by rw [← h];show ak p i≠0;omega
       ((try dsimp only);(repeat(first|apply ai;rfl|apply aG;rfl;assumption;rfl|apply aL;rfl;omega;omega|apply bM;rfl;rfl;exact(F.un _ rfl);exact(F.sz _ rfl);rfl;exact(F.ze _ rfl);rfl;rfl;rfl;rfl;rfl|refine lL (b:=16) (xs:=eH p i) (a:=(ay p i,ak p i)) rfl rfl rfl rfl (F.un _ rfl) (.inl ⟨_,F.un _ rfl⟩) (F.sz _ rfl) rfl (by kernel_rfl) (by kernel_rfl) (by repeat(first|assumption|refine ab (by omega) ?_)) (by repeat(exact ae)) (by rfl) (qy) (by omega) (by omega) ?_));rw [← mH];exact ih _ _ _ (i+1,n1+1+1) ⟨hi,ly i2 hso,hlast,by dsimp only;omega,by dsimp only;omega,by repeat(exact ae),by repeat(first|assumption|refine ab (by omega) ?_|refine cp (by omega) ?_),fun m hm=>by(repeat(first|refine ab (by omega) ?_|refine cp (by omega) ?_));exact j4 m hm⟩ (by dsimp only;omega) (Kg (Kj rfl)))
   ·obtain rfl:i=ac p:=by omega
    repeat apply ai;rfl
    (apply bP Tryz.func35 Tryz.results35;rfl)
    have hok:Okp p:=⟨hp,by omega,by omega,fun h=>i3 rfl h,fun j hj=>(i2 j hj).imp id And.left,fun a c h1 h2 h3 h4=>by
     rcases i2 c h2 with h5|h5
     ·exact absurd h5.2 h4
     ·exact h5.2 a h1 h3⟩
    exact⟨by dsimp only;omega,i8,.inr ⟨hyes hok,r,rfl,by omega,i5,i6⟩⟩
theorem CM(hrow:H.at' r=some (slO (eH p (ac p)))):Fnc Tryz.prog 92 [.slu r 0 (eH p (ac p)).length] H nx (fun q=>q=(.sc (.int .i64 (aW p:Int)),H,nx)):=by
 have hll:=eO p (ac p)
 have hs0:ac p<65536:=cJ p 14
 refine Ka Tryz.func92 rfl rfl ?_
 repeat apply ai;rfl
 refine bC (α:=Nat) (fun i=> [(0,.slu r 0 (eH p (ac p)).length),(3,.sc (.int .i64 (i:Int)))])
  (fun i H1 n1=>H1=H∧n1=nx∧i≤ac p∧dp p (ac p-i) i=aW p) (fun i=>ac p-i) 0
  ⟨rfl,rfl,Jw _,rfl⟩ (Kg (Kj rfl)) ?_
 rintro i H1 n1 ⟨rfl,rfl,i1,i2⟩ ih
 repeat apply ai;rfl
 refine bn rfl rfl rfl rfl (fun h3=>?_) (fun h3=>?_)
 ·have hi:i<ac p:=by omega
  have hg:ak p i<65536:=cJ p _
  have hcS:=iz p hi
  have hgo:dp p (ac p-i) i=if ak p i=0 then i else dp p (ac p-(i+1)) (i+1):=by
   rw [show ac p-i=(ac p-(i+1))+1 by omega]
   rfl
  repeat first|refine dq (q:=i) rfl rfl rfl rfl (F.un _ rfl) (F.sz _ rfl) (by assumption) (by omega) (by(omega)) (Jv _) ?_|refine cd (am (F.ag _ rfl) rfl hrow hcS) rfl rfl rfl ?_|apply ai;rfl
  refine cF rfl rfl rfl rfl (fun h4=>?_) (fun h4=>?_)
  ·rw [hgo,JH (by omega)] at i2
   repeat apply ai;rfl
   (apply bP Tryz.func92 Tryz.results92;rfl)
   rw [← i2]
   rfl
  ·rw [hgo,JG (by omega)] at i2
   repeat first|apply ai;rfl|apply aL;rfl;omega;omega
   exact ih _ _ _ (i+1) ⟨rfl,rfl,by omega,i2⟩ (by omega) (Kg (Kj rfl))
 ·have hi:i=ac p:=by omega
  rw [hi,Nat.sub_self] at i2
  have i2:ac p=aW p:=i2
  repeat apply ai;rfl
  (apply bP Tryz.func92 Tryz.results92;rfl)
  rw [hll,i2]
  rfl
theorem tW(hp:p.length=1024):Fnc Tryz.prog 47 [.agg (pgS p)] H nx (fun q=>q=(.sc (.int .i64 (cv p:Int)),H,nx)):=by
 refine Fnc.bv (Free.sc _) ?_
 have hll:=eO p (ac p)
 have hs0:ac p<65536:=cJ p 14
 have hb0:aD p<65536:=cJ p 16
 refine Ka Tryz.func47 rfl rfl ?_
 repeat first|apply bu hp;rfl;(focus((repeat(exact ae));done))|apply ai;rfl
 refine aI rfl rfl rfl (by kernel_rfl) (J9 (pW hp) ?_)
 rintro⟨_,H2,n2⟩ ⟨g1,g2,(⟨hr,rfl⟩|⟨hr,r,rfl,g3,g4,g5⟩)⟩
 ·dsimp only at g1 g2 ⊢
  have hv:cv p=0:=by unfold cv;rw [hr];rfl
  rw [hv]
  repeat apply ai;rfl
  (apply bP Tryz.func47 Tryz.results47;rfl)
  exact⟨rfl,by dsimp only;omega,fun m hm=>(g2 m (by omega)).trans (by(repeat(refine ab (by omega) ?_));rfl)⟩
 ·dsimp only at g1 g2 g3 g4 g5 ⊢
  have hok:=(bi hp).1 hr
  have hh:=hok.head
  have he:=oW p
  have hv:cv p=aD p-18-4*ac p-(if aW p=ac p then 4 else 0):=by unfold cv;rw [hr];rfl
  have hb:H2.at' nx=some (pgO p):=(g2 _ (by omega)).trans (by repeat(exact ae))
  have ho: ∀ m,m<nx→H2.at' m=H.at' m:=fun m hm=>(g2 m (by omega)).trans (by(repeat(refine ab (by omega) ?_));rfl)
  repeat first|apply bu hp;rfl;assumption|apply ai;rfl|apply aL;rfl;omega;omega|apply bY;rfl;kernel_rfl;exact jS hp|apply bY;rfl;kernel_rfl;exact CM g5
  refine cF rfl rfl rfl rfl (fun e1=>?_) (fun e1=>?_)
  ·rw [JH (by omega)] at hv
   repeat first|apply ai;rfl|apply aL;rfl;omega;omega
   refine bn rfl rfl rfl rfl (fun e2=>?_) (fun e2=>?_)
   ·repeat apply ai;rfl
    (apply bP Tryz.func47 Tryz.results47;rfl)
    exact⟨by rw [show cv p=0 by omega];rfl,by dsimp only;omega,ho⟩
   ·repeat apply ai;rfl
    (apply bP Tryz.func47 Tryz.results47;rfl)
    exact⟨congrArg (fun z:Int=>SV.sc (.int .i64 z)) (by omega),by dsimp only;omega,ho⟩
  ·rw [JG (by omega)] at hv
   repeat apply ai;rfl
   refine bn rfl rfl rfl rfl (fun e2=>absurd e2 (by omega)) (fun e2=>?_)
   repeat apply ai;rfl
   (apply bP Tryz.func47 Tryz.results47;rfl)
   exact⟨congrArg (fun z:Int=>SV.sc (.int .i64 z)) (by omega),by dsimp only;omega,ho⟩
def CK(p:List UInt8)(n:Nat)(it:List UInt8):List UInt8:=cm (cm (cm (bf p (aD p-it.length) it) 16 (aD p-it.length)) (18+4*n) (aD p-it.length)) (18+4*n+2) it.length
theorem qG(h:a+it.length≤p.length)(hi:i<it.length):(bf p a (it.take i)).set (a+i) (it[i])=bf p a (it.take (i+1)):=by
 have h1:(it.take i).length=i:=by rw [JK];omega
 have h2:(it.take (i+1)).length=i+1:=by rw [JK];omega
 refine J1 fun j=>?_
 rw [List.getElem?_set,cG (by omega),cG (by omega),h1,h2,bN (by omega),List.getElem?_take,List.getElem?_take]
 by_cases h3:a+i=j
 ·subst h3
  rw [JH rfl,JH (by omega),JH (by omega),show a+i-a=i by omega,JH (by omega),Jf hi]
 ·rw [JG h3]
  by_cases h4:a≤j∧j<a+i
  ·rw [JH h4,JH (by omega),JH (by omega),JH (by omega)]
  ·rw [JG h4,JG (by omega)]
theorem CJ(hp:p.length=1024)(hB:BsIs H s (byV it))(h1:it.length≤aD p)(h2:aD p≤1024)(h3:18+4*n+4≤1024):Fnc Tryz.prog 94 [.agg (pgS p),.sc (.int .i64 (n:Int)),s] H nx (fun q=>q=(.agg (pgS (CK p n it)),H,nx)):=by
 refine Fnc.bv (Free.agg _) ?_
 have hbl:=bK it
 have hP:=bN (p:=p) (o:=aD p-it.length) (l:=it) (by omega)
 refine Ka Tryz.func94 rfl rfl ?_
 refine aX fun hund=>?_
 have hB1: ∀ H1:au,(∀ m,m<nx→H1.at' m=H.at' m)→BsIs H1 s (byV it):=fun H1 h=>hB.frame fun b vo hb=>(h b (hund b vo hb)).trans hb
 repeat first|apply bu hp;rfl;(focus((repeat(first|exact ae|refine ab (by omega) ?_));done))|refine a9 rfl rfl ci ?_|apply ai;rfl|apply cx;rfl|apply aL;rfl;omega;omega|apply bY;rfl;kernel_rfl;exact jS hp|refine dj rfl rfl (F.un _ rfl) rfl (hB1 _ fun m hm=>by(repeat(refine ab (by omega) ?_));rfl) ?_;rw [hbl]
 rw [show((aD p:Nat):Int)-(it.length:Int)=((aD p-it.length:Nat):Int) by omega]
 refine bC (α:=Nat) (fun i=> [(1,.sc (.int .i64 (n:Int))),(2,s),(3,.ptr nx 0),(6,.ptr (nx+1) 0),(7,.sc (.int .i64 ((aD p-it.length:Nat):Int))),(8,.sc (.int .i64 (i:Int)))])
  (fun i H1 n1=>n1=nx+1+1∧i≤it.length∧H1.at' nx=some (pgO (bf p (aD p-it.length) (it.take i)))∧H1.at' (nx+1)=some (pgO zeroP)∧ ∀ m,m<nx→H1.at' m=H.at' m) (fun i=>it.length-i) 0
  ⟨rfl,Jw _,by rw [List.take_zero,show bf p (aD p-it.length) []=p by simp [bf]];(focus((repeat(first|exact ae|refine ab (by omega) ?_));done)),by repeat(exact ae),fun m hm=>by(repeat(refine ab (by omega) ?_));rfl⟩ (Kg (Kj rfl)) ?_
 rintro i H1 n1 ⟨rfl,i1,i2,i3,i4⟩ ih
 have hpi:(bf p (aD p-it.length) (it.take i)).length=1024:=(bN (by rw [JK];omega)).trans hp
 repeat first|apply cx;rfl|(apply dj;rfl;rfl;exact(F.un _ rfl);rfl;exact(hB1 _ i4));rw [hbl]
 refine bn rfl rfl rfl rfl (fun h5=>?_) (fun h5=>?_)
 ·have hi:i<it.length:=by omega
  repeat first|apply ai;rfl|apply aL;rfl;omega;omega
  refine(xX rfl rfl rfl rfl (F.un _ rfl) (F.sz _ rfl) (hB1 _ i4) (j:=i) (by rw [hbl];exact hi) ?_)
  intro b o vo hb hc
  rw [rF] at hc
  have hi2:i<(byV it).length:=by omega
  repeat refine cd (am (F.ag _ rfl) rfl hb hc) rfl rfl rfl ?_
  (apply gr (q:=aD p-it.length+i);rfl;rfl;rfl;rfl;exact(F.un _ rfl);exact(F.sz _ rfl);(focus(omega));(focus(omega)))
  rw [show 0+(aD p-it.length+i)*1=aD p-it.length+i by omega]
  refine dX (cs:=pgS (bf p (aD p-it.length) (it.take i))) rfl rfl rfl (F.sz _ rfl) (by assumption) rfl (Jj (by rw [be hpi];omega)) ?_
  rw [nl,qG (by omega) hi]
  repeat first|apply ai;rfl|apply aL;rfl;omega;omega
  exact ih _ _ _ (i+1) ⟨rfl,by omega,by repeat(exact ae),by repeat(first|assumption|refine ab (by omega) ?_),fun m hm=>by(repeat(refine ab (by omega) ?_));exact i4 m hm⟩ (by omega) (Kg (Kj rfl))
 ·have hi:i=it.length:=by omega
  rw [hi,List.take_length] at i2
  rw [hi,List.take_length] at hpi
  have hw1:=fun(H:au) nx=>gO (H:=H) (nx:=nx) (o:=16) (n:=aD p-it.length) hpi (by decide) (by omega)
  have hl1:(cm (bf p (aD p-it.length) it) 16 (aD p-it.length)).length=1024:=(bD (by omega)).trans hpi
  have hw2:=fun(H:au) nx=>gO (H:=H) (nx:=nx) (o:=18+4*n) (n:=aD p-it.length) hl1 (by omega) (by omega)
  have hl2:(cm (cm (bf p (aD p-it.length) it) 16 (aD p-it.length)) (18+4*n) (aD p-it.length)).length=1024:=(bD (by omega)).trans hl1
  have hw3:=fun(H:au) nx=>gO (H:=H) (nx:=nx) (o:=18+4*n+2) (n:=it.length) hl2 (by omega) (by omega)
  have hl3:(CK p n it).length=1024:=(bD (by omega)).trans hl2
  have hl5:cm (cm (cm (bf p (aD p-it.length) it) 16 (aD p-it.length)) (18+4*n) (aD p-it.length)) (18+4*n+2) it.length=CK p n it:=rfl
  rw [hl5] at hw3
  rw [show((18+4*n:Nat):Int)=18+4*(n:Int) by omega] at hw2
  rw [show((18+4*n+2:Nat):Int)=18+4*(n:Int)+2 by omega] at hw3
  generalize CK p n it=pL at hl3 hw3 ⊢
  clear hl5
  repeat first|apply bu hpi;rfl;assumption|apply bA hl3 ah;rfl;assumption|apply ai;rfl|apply cx;rfl|apply aL;rfl;omega;omega|apply bY;rfl;kernel_rfl;exact hw1 _ _|apply bY;rfl;kernel_rfl;exact hw2 _ _|(apply dj;rfl;rfl;exact(F.un _ rfl);rfl;exact(hB1 _ i4));rw [hbl]|apply bY;rfl;kernel_rfl;exact hw3 _ _
  ((apply bm Tryz.func94 (congrArg Array.toList Tryz.results94));(focus((apply Kc rfl (Ke (F.ag _ rfl) (by repeat(exact ae)) (bk hl3)));(repeat(exact Kb)))))
  exact⟨rfl,by dsimp only;omega,fun m hm=>by(repeat(refine ab (by omega) ?_));exact i4 m hm⟩
theorem eX{l l':List UInt8}{o o':Nat}(h1:o+l.length≤p.length)(h2:o'+l'.length≤p.length)(h:o+l.length≤o'∨o'+l'.length≤o):bf (bf p o l) o' l'=bf (bf p o' l') o l:=by
 refine J1 fun i=>?_
 rw [cG (by rw [bN h1];exact h2),cG h1,cG (by rw [bN h2];exact h1),cG h2]
 by_cases a:o'≤i∧i<o'+l'.length
 ·rw [JH a,JG (by omega),JH a]
 ·rw [JG a,JG a]
theorem Bz(h:Okp p)(h2:it.length≤1000)(hroom:it.length≤du p)(h1:1≤it.length):CK (fu p) (aW p) it=mQ p it:=by
 have hh:=h.head
 have ht:=h.top
 have he:=(eV p).2.2
 have hmb:aD (fu p)=aD p:=jQ h.len (by omega)
 have hml:=oJ h.len
 have hl:=fun n=>bq n 2
 unfold du at hroom
 have ha:18+4*aW p+4+it.length≤aD p:=by split at hroom <;> omega
 unfold CK mQ bJ cm
 rw [hmb]
 generalize fu p=m at hml
 have l1:(bf m 16 (beB (aD p-it.length) 2)).length=1024:=(bN (by rw [hl];omega)).trans hml
 have l2:(bf m (18+4*aW p) (beB (aD p-it.length) 2)).length=1024:=(bN (by rw [hl];omega)).trans hml
 have l3:(bf (bf m 16 (beB (aD p-it.length) 2)) (18+4*aW p) (beB (aD p-it.length) 2)).length=1024:=(bN (by rw [hl];omega)).trans l1
 rw [eX (p:=m) (o:=aD p-it.length) (o':=16) (by omega) (by rw [hl];omega) (by rw [hl];omega),
  eX (o:=aD p-it.length) (o':=18+4*aW p) (by omega) (by rw [hl];omega) (by rw [hl];omega),
  eX (o:=aD p-it.length) (o':=18+4*aW p+2) (by omega) (by rw [hl];omega) (by rw [hl];omega)]
 congr 1
 rw [eX (p:=m) (o:=16) (o':=18+4*aW p) (by rw [hl];omega) (by rw [hl];omega) (by rw [hl];omega),
  eX (o:=16) (o':=18+4*aW p+2) (by rw [hl];omega) (by rw [hl];omega) (by rw [hl];omega)]
theorem zP(hp:p.length=1024)(hB:BsIs H s (byV it))(hr:bg p=true)(h2:it.length≤1000)(hroom:it.length≤du p)(h1:1≤it.length):Fnc Tryz.prog 49 [.agg (pgS p),s] H nx (fun q=>q=(insS (mQ p it,aW p,0),H,nx)):=by
 refine Fnc.bv (sV _) ?_
 have hok:=(bi hp).1 hr
 have hh:=hok.head
 have ht:=hok.top
 have hbl:=bK it
 have hll:=eO p (ac p)
 have hs0:ac p<65536:=cJ p 14
 have he:=(eV p).2.2
 have hls:=Bz hok h2 hroom h1
 have hml:=oJ hp
 have hmb:aD (fu p)=aD p:=jQ hp (by omega)
 have hro:=hroom
 unfold du at hro
 have ha:18+4*aW p+4+it.length≤aD p:=by split at hro <;> omega
 have hlay:=fun(H:au) nx (hB:BsIs H s (byV it))=>CJ (H:=H) (nx:=nx) (n:=aW p) hml hB (by omega) (by omega) (by omega)
 rw [hls] at hlay
 have hre:cv p=du p:=by unfold cv;rw [JH hr]
 have hlen:=(laid hok h2 hroom h1).len
 have hmo:fu p=if aW p=ac p then cm p 14 (ac p+1) else p:=by unfold fu;split;rename_i h;rw [h];rfl
 refine Ka Tryz.func49 rfl rfl ?_
 refine aX fun hund=>?_
 repeat first|apply bu hp;rfl;(focus((repeat(first|exact ae|refine ab (by omega) ?_));done))|refine a9 rfl rfl ci ?_|apply ai;rfl
 refine aI rfl rfl rfl (by kernel_rfl) (J9 (pW hp) ?_)
 rintro⟨_,H2,n2⟩ ⟨g1,g2,(⟨hr2,rfl⟩|⟨_,r,rfl,g3,g4,g5⟩)⟩
 ·rw [hr] at hr2;cases hr2
 dsimp only at g1 g2 g3 g4 g5 ⊢
 have hb:H2.at' nx=some (pgO p):=(g2 _ (by omega)).trans (by repeat(first|exact ae|refine ab (by omega) ?_))
 have hz:H2.at' (nx+1)=some (pgO zeroP):=(g2 _ (by omega)).trans (by repeat(exact ae))
 have ho: ∀ m,m<nx→H2.at' m=H.at' m:=fun m hm=>(g2 m (by omega)).trans (by(repeat(refine ab (by omega) ?_));rfl)
 have hB2: ∀ H1:au,(∀ m,m<nx→H1.at' m=H.at' m)→BsIs H1 s (byV it):=fun H1 h=>hB.frame fun b vo hb=>(h b (hund b vo hb)).trans hb
 have hro5:=fun(H:au) nx=>tW (H:=H) (nx:=nx) hp
 rw [hre] at hro5
 clear g2
 generalize mQ p it=pL at hlen hlay ⊢
 repeat first|apply bu hp;rfl;assumption|apply ai;rfl|apply cx;rfl|apply lx;rfl;omega|(apply dj;rfl;rfl;exact(F.un _ rfl);rfl;exact(hB2 _ ho));rw [hbl]|apply bY;rfl;kernel_rfl;exact hro5 _ _|apply bY;rfl;kernel_rfl;exact CM g5
 refine cF rfl rfl rfl rfl (fun e1=>?_) (fun e1=>?_)
 ·rw [JH (by omega)] at hmo
  have hw:=fun(H:au) nx=>gO (H:=H) (nx:=nx) (o:=14) (n:=ac p+1) hp (by decide) (by omega)
  rw [← hmo,show((ac p+1:Nat):Int)=((eH p (ac p)).length:Int)+1 by omega] at hw
  generalize fu p=pm at hml hw hlay
  repeat first|apply bu hp;rfl;assumption|apply bu hml;rfl;(focus((repeat(exact ae));done))|apply bA hml hp;rfl;assumption|apply bA hlen ah;rfl;(focus((repeat(first|assumption|refine ab (by omega) ?_));done))|apply ai;rfl|apply aL;rfl;omega;omega|apply bY;rfl;kernel_rfl;exact hw _ _|apply bY;rfl;kernel_rfl;exact hlay _ _ (hB2 _ fun m hm=>by(repeat(refine ab (by omega) ?_));exact ho m hm)
  ((apply bm Tryz.func49 (congrArg Array.toList Tryz.results49));(focus((apply Kc rfl (Ke (F.ag _ rfl) (by repeat(exact ae)) (bk hlen)));(repeat(first|exact Kb|apply Kd rfl)))))
  exact⟨rfl,by dsimp only;omega,fun m hm=>by(repeat(refine ab (by omega) ?_));exact ho m hm⟩
 ·rw [JG (by omega)] at hmo
  rw [hmo] at hlay
  repeat first|apply bu hp;rfl;assumption|apply bA hlen ah;rfl;assumption|apply ai;rfl|apply bY;rfl;kernel_rfl;exact hlay _ _ (hB2 _ fun m hm=>by exact ho m hm)
  ((apply bm Tryz.func49 (congrArg Array.toList Tryz.results49));(focus((apply Kc rfl (Ke (F.ag _ rfl) (by repeat(exact ae)) (bk hlen)));(repeat(first|exact Kb|apply Kd rfl)))))
  exact⟨rfl,by dsimp only;omega,fun m hm=>by(repeat(refine ab (by omega) ?_));exact ho m hm⟩
abbrev fndS(r:Nat×Nat×Nat):SV:= .tup [.agg [.sc (.int .i64 (r.1:Int)),.sc (.int .i64 (r.2.1:Int))],.sc (.int .i64 (r.2.2:Int))]
theorem rm(hp:p.length=1024)(hr:bg p=true):Fnc Tryz.prog 90 [.agg (pgS p),.sc (.int .i64 (n:Int))] H nx (fun q=>q=(fndS (cn p n),H,nx)):=by
 refine Fnc.bv (Free.two (Free.agg [.int .i64 ((cn p n).1:Int),.int .i64 ((cn p n).2.1:Int)]) (Free.sc _)) ?_
 have hll:=eO p (ac p)
 have hs0:ac p<65536:=cJ p 14
 refine Ka Tryz.func90 rfl rfl ?_
 repeat first|apply bu hp;rfl;(focus((repeat(first|exact ae|refine ab (by omega) ?_));done))|apply ai;rfl
 refine aI rfl rfl rfl (by kernel_rfl) (J9 (pW hp) ?_)
 rintro⟨_,H2,n2⟩ ⟨g1,g2,(⟨hr2,rfl⟩|⟨_,r,rfl,g3,g4,g5⟩)⟩
 ·rw [hr] at hr2;cases hr2
 dsimp only at g1 g2 g3 g4 g5 ⊢
 have hz:H2.at' (nx+1)=some (sbO 0 0):=(g2 _ (by omega)).trans (by repeat(exact ae))
 have ho: ∀ m,m<nx→H2.at' m=H.at' m:=fun m hm=>(g2 m (by omega)).trans (by(repeat(refine ab (by omega) ?_));rfl)
 clear g2
 repeat first|apply ai;rfl|apply lx;rfl;omega
 refine eN rfl rfl rfl rfl (fun h1=>?_) (fun h1=>?_)
 ·have hv:cn p n=(0,0,6):=by unfold cn;rw [JH (by omega)]
  rw [hv]
  repeat first|apply ai;rfl|apply aG;rfl;assumption;rfl
  ((apply bm Tryz.func90 (congrArg Array.toList Tryz.results90));(focus(repeat(first|exact Kb|apply Kd rfl|apply Kc rfl (Ke (F.ag _ rfl) (by repeat(exact ae)) (aq _ 0 rfl rfl))))))
  exact⟨rfl,by dsimp only;omega,fun m hm=>by(repeat(refine ab (by omega) ?_));exact ho m hm⟩
 ·have hn:n<ac p:=by omega
  have hcS:=iz p hn
  have hcF:=jC p hn
  have hg:ak p n<65536:=cJ p _
  repeat first|refine dq (q:=n) rfl rfl rfl rfl (F.un _ rfl) (F.sz _ rfl) (by assumption) (by omega) (by(omega)) (Jv _) ?_|refine cd (am (F.ag _ rfl) rfl g5 hcS) rfl rfl rfl ?_|apply ai;rfl
  refine cF rfl rfl rfl rfl (fun h4=>?_) (fun h4=>?_)
  ·have hv:cn p n=(0,0,6):=by unfold cn;rw [JG (by omega),JH (by omega)]
   rw [hv]
   repeat first|apply ai;rfl|apply aG;rfl;assumption;rfl
   ((apply bm Tryz.func90 (congrArg Array.toList Tryz.results90));(focus(repeat(first|exact Kb|apply Kd rfl|apply Kc rfl (Ke (F.ag _ rfl) (by repeat(exact ae)) (aq _ 0 rfl rfl))))))
   exact⟨rfl,by dsimp only;omega,fun m hm=>by(repeat(refine ab (by omega) ?_));exact ho m hm⟩
  ·have hv:cn p n=(ay p n,ak p n,0):=by unfold cn;rw [JG (by omega),JG (by omega)]
   rw [hv]
   have hcc:(slO (eH p (ac p))).cellsFrom (n*2) 2=some [.sc (.int .i64 (ay p n:Int)),.sc (.int .i64 (ak p n:Int))]:=by simp only [VO.cellsFrom,hcF,hcS]
   repeat first|refine dq (q:=n) rfl rfl rfl rfl (F.un _ rfl) (F.sz _ rfl) (by assumption) (by omega) (by(omega)) (Jv _) ?_|(refine de rfl (.inr (fun _ h=>by cases h)) ((ba (F.ag _ rfl) rfl g5 hcc).does) ?_);rw [aK rfl]|apply ai;rfl|apply aG;rfl;assumption;rfl
   ((apply bm Tryz.func90 (congrArg Array.toList Tryz.results90));(focus(repeat(first|exact Kb|apply Kd rfl|apply Kc rfl (Ke (F.ag _ rfl) (by repeat(exact ae)) (aq _ 0 rfl rfl))))))
   exact⟨rfl,by dsimp only;omega,fun m hm=>by(repeat(refine ab (by omega) ?_));exact ho m hm⟩
theorem sL{size:Nat}(h1:1≤size)(h2:size≤8)(hn:n≤18446744073709551615):Fnc Tryz.prog 91 [.sc (.int .u64 (n:Int)),.sc (.int .i64 (size:Int))] H nx
 (fun q=>q=(.slu nx 0 (beB n size).length,H.set nx (dat false (beB n size).length 1 5 (byV (beB n size))),nx+1)):=by
 have:=Fnc.next (Hj (H:=H) (nx:=nx) h1 h2 hn)
 rwa [bq]
theorem kG{T:Tr SV}{d:Option Tmp}{ty:TypeId}{pos:String}{af:Array Edge}{gd:Option (Nat×Bool)}{s x:Operand}{v:SV}{a b:List UInt8}(hx0:an T s=some (.slu r 0 a.length))(hx:an T x=some v)(hro:H.at' r=some (dat false a.length 1 5 (byV a)))(hb:BsIs H v (byV b))(h0:0<b.length)(hm:a.length+b.length≤1000000) :
 OpDoes Tryz.prog T H nx ⟨d,.call {callee:= .builtin .append,args:= #[s,x],argTypes:= #[35,35]},ty,pos,af,gd⟩ (.val (.slu nx 0 (a ++ b).length),(H.del r).set nx (dat false (a ++ b).length 1 5 (byV (a ++ b))),nx+1):=by
 have hr:=BsIs.rdv (P:=Tryz.prog) hb
 unfold RdV at hr
 have h:=DU (P:=Tryz.prog) (T:=T) (H:=H) (nx:=nx) (d:=d) (ty:=ty) (pos:=pos) (af:=af) (gd:=gd) (t:=35) (tx:=35) (el:=5) (sz:=1) (m:=(byV b).length) (b:=1) (r:=r) (n:=a.length) (s:=s) (x:=x) (v:=v) (ws:=(byV a).map .sc) (cs:=(byV b).map .sc) (F.un _ rfl) (.inl ⟨_,F.un _ rfl⟩) (F.sz _ rfl) (by decide) (by kernel_rfl) (by kernel_rfl) hx0 hx (hro.trans (congrArg some (gZ _ _ _ _ _).symm)) (by simp) hr (gK hb.1) (by rw [bK];exact h0) (by rw [bK];omega) (by rw [bK];omega)
 rw [bK,←JA,←ki,show nz false (a.length+b.length) 1 5 ((byV (a ++ b)).map .sc)=dat false (a.length+b.length) 1 5 (byV (a ++ b))from gZ _ _ _ _ _,←Jz] at h
 exact h
theorem wt{v:gf}(hv:VerIs H s v)(hm:iT v=true):Fnc Tryz.prog 46 [s] H nx (fun q=> ∃ r',q.1 = .slu r' 0 (aO v).length∧q.2.1.at' r'=some (dat false (aO v).length 1 5 (byV (aO v)))∧nx≤r'∧r'<q.2.2∧nx≤q.2.2∧ ∀ m,m<nx→q.2.1.at' m=H.at' m):=by
 have hmd:=JS hm
 obtain⟨k,w,rfl,hk,hw⟩:=hv
 refine Ka Tryz.func46 rfl rfl ?_
 refine aX fun hund=>?_
 have hK: ∀ H':au,(∀ m,m<nx→H'.at' m=H.at' m)→BsIs H' k (byV v.1):=fun H' h=>hk.frame fun b vo hb=>(h b (hund b vo hb)).trans hb
 have hW: ∀ H':au,(∀ m,m<nx→H'.at' m=H.at' m)→BsIs H' w (byV v.2.1):=fun H' h=>hw.frame fun b vo hb=>(h b (hund b vo hb)).trans hb
 have hl1:=bK v.1
 have hl2:=bK v.2.1
 have l8x:=bq v.2.2.1 8
 have l8y:=bq v.2.2.2 8
 have b0:(H.set nx (fw (eF k w v.2.2.1 v.2.2.2))).at' nx=some (fw (eF k w v.2.2.1 v.2.2.2)):=aj _ _ _
 have o0: ∀ m,m<nx→(H.set nx (fw (eF k w v.2.2.1 v.2.2.2))).at' m=H.at' m:=fun m hm=>aa _ _ (by omega)
 repeat apply ai;rfl
 generalize H.set nx (fw (eF k w v.2.2.1 v.2.2.2))=H0 at b0 o0 ⊢
 (apply bh;(focus(kernel_rfl));(focus(kernel_rfl)))
 repeat first|apply aS;rfl|apply dw;rfl;(focus((repeat(first|assumption|refine ab (by omega) ?_));done));rfl|apply bT;rfl;rfl;rfl;(focus(kernel_rfl));exact(sL (n:=v.2.2.1) (size:=8) (by decide) (by decide) (by omega))|apply bT;rfl;rfl;rfl;(focus(kernel_rfl));exact(sL (n:=v.2.2.2) (size:=8) (by decide) (by decide) (by omega))|refine iM rfl rfl (fun _ h=>by cases h) (kG (a:=beB v.2.2.1 8) (b:=beB v.2.2.2 8) rfl rfl (by repeat(first|exact ae|refine ab (by omega) ?_)) (hU (ro:=false) (n:=(beB v.2.2.2 8).length) (by repeat(exact ae)) rfl) (by omega) (by omega)) ?_
 refine aA ⟨by kernel_rfl,?_,?_⟩;(focus(repeat(first|exact Kk|apply jU;rfl|apply gi;rfl;kernel_rfl|refine fX 0 rfl (by kernel_rfl) (by(repeat(refine⟨(by(exact am (F.ag _ rfl) rfl (by repeat(first|assumption|refine ab (by omega) ?_|refine cp (by omega) ?_)) (aB rfl))),?_⟩));exact Kk) ?_)))
 refine cW (R:=fun H1 n1=>n1=nx+1+1+1+1∧H1.at' nx=some (fw (eF k w v.2.2.1 v.2.2.2))∧H1.at' (nx+1+1+1)=some (dat false (beB v.2.2.1 8 ++ beB v.2.2.2 8).length 1 5 (byV (beB v.2.2.1 8 ++ beB v.2.2.2 8)))∧ ∀ m,m<nx→H1.at' m=H.at' m) ⟨rfl,by repeat(first|assumption|refine ab (by omega) ?_|refine cp (by omega) ?_),by repeat(exact ae),fun m hm=>by(repeat(first|refine ab (by omega) ?_|refine cp (by omega) ?_));exact o0 m hm⟩ ?_
 rintro H1 n1 ⟨rfl,b1,r1,o1⟩
 clear b0 o0
 have la:(beB v.2.2.1 8 ++ beB v.2.2.2 8).length=16:=by rw [Jz,l8x,l8y]
 have lk2:=bq v.1.length 2
 have lab:(beB v.2.2.1 8 ++ beB v.2.2.2 8 ++ beB v.1.length 2).length=18:=by rw [Jz,la,lk2]
 repeat apply ai;rfl
 (apply bh;(focus(kernel_rfl));(focus(kernel_rfl)))
 repeat first|apply aS;rfl|apply dw;rfl;(focus((repeat(first|assumption|refine ab (by omega) ?_|refine cp (by omega) ?_));done));rfl|apply bS;rfl;rfl;exact(fun _ h=>by cases h);exact(fB (F.un _ rfl) rfl (hK _ o1))|refine bj (bR (F.un _ rfl) (F.un _ rfl) rfl (show _=((v.1.length:Nat):Int)from(J5 _ ⟨by omega,by omega⟩).trans (by omega))) rfl rfl rfl ?_|apply bT;rfl;rfl;rfl;(focus(kernel_rfl));exact(sL (n:=v.1.length) (size:=2) (by decide) (by decide) (by omega))|refine iM rfl rfl (fun _ h=>by cases h) (kG (a:=beB v.2.2.1 8 ++ beB v.2.2.2 8) (b:=beB v.1.length 2) rfl rfl (by repeat(first|assumption|refine ab (by omega) ?_)) (hU (ro:=false) (n:=(beB v.1.length 2).length) (by repeat(exact ae)) rfl) (by omega) (by omega)) ?_|refine iM rfl rfl (fun _ h=>by cases h) (kG (a:=beB v.2.2.1 8 ++ beB v.2.2.2 8 ++ beB v.1.length 2) (b:=v.1) rfl rfl (by repeat(exact ae)) (hK _ (fun m hm=>by(repeat(first|refine ab (by omega) ?_|refine cp (by omega) ?_));exact o1 m hm)) (by omega) (by omega)) ?_
 refine aA ⟨by kernel_rfl,?_,?_⟩;(focus(repeat(first|exact Kk|apply jU;rfl|apply gi;rfl;kernel_rfl|refine fX 0 rfl (by kernel_rfl) (by(repeat(refine⟨(by first|exact am (F.ag _ rfl) rfl (by repeat(first|assumption|refine ab (by omega) ?_|refine cp (by omega) ?_)) (aB rfl)|exact fB (F.un _ rfl) rfl (hK _ (fun m hm=>by(repeat(first|refine ab (by omega) ?_|refine cp (by omega) ?_));exact o1 m hm))|exact bR (F.un _ rfl) (F.un _ rfl) rfl (show _=((v.1.length:Nat):Int)from(J5 _ ⟨by omega,by omega⟩).trans (by omega))),?_⟩));exact Kk) ?_)))
 obtain⟨A,hA⟩: ∃ A,A=beB v.2.2.1 8 ++ beB v.2.2.2 8 ++ beB v.1.length 2 ++ v.1:=⟨_,rfl⟩
 refine cW (R:=fun H2 n2=>n2=nx+1+1+1+1+1+1+1∧H2.at' nx=some (fw (eF k w v.2.2.1 v.2.2.2))∧H2.at' (nx+1+1+1+1+1+1)=some (dat false (beB v.2.2.1 8 ++ beB v.2.2.2 8 ++ beB v.1.length 2 ++ v.1).length 1 5 (byV (beB v.2.2.1 8 ++ beB v.2.2.2 8 ++ beB v.1.length 2 ++ v.1)))∧ ∀ m,m<nx→H2.at' m=H.at' m) ⟨rfl,by repeat(first|assumption|refine ab (by omega) ?_|refine cp (by omega) ?_),by repeat(exact ae),fun m hm=>by(repeat(first|refine ab (by omega) ?_|refine cp (by omega) ?_));exact o1 m hm⟩ ?_
 rintro H2 n2 ⟨rfl,b2,r2,o2⟩
 clear b1 o1 r1
 have lA:A.length=18+v.1.length:=by rw [hA,Jz,lab]
 repeat apply ai;rfl
 rw [← hA] at r2 ⊢
 have lv2:=bq v.2.1.length 2
 have lAv:(A ++ beB v.2.1.length 2).length=20+v.1.length:=by rw [Jz,lA,lv2];omega
 have hall:aO v=A ++ beB v.2.1.length 2 ++ v.2.1:=by
  rw [hA]
  unfold aO jl
  simp only [JR]
 rcases Nat.eq_zero_or_pos v.2.1.length with h0|h0
 ·have hv0:v.2.1= []:=Jr h0
  have hw0: ∀ H':au,(∀ m,m<nx→H'.at' m=H.at' m)→RdV Tryz.prog H' 1 w 0 []:=fun H' h=>by
   have:=BsIs.rdv (P:=Tryz.prog) (hW H' h)
   rw [hv0] at this
   exact this
  rw [hv0,JU] at hall
  (apply bh;(focus(kernel_rfl));(focus(kernel_rfl)))
  repeat first|apply aS;rfl|apply dw;rfl;(focus((repeat(first|assumption|refine ab (by omega) ?_|refine cp (by omega) ?_));done));rfl|apply bS;rfl;rfl;exact(fun _ h=>by cases h);exact(fB (F.un _ rfl) rfl (hW _ o2))|refine bj (bR (F.un _ rfl) (F.un _ rfl) rfl (show _=((v.2.1.length:Nat):Int)from(J5 _ ⟨by omega,by omega⟩).trans (by omega))) rfl rfl rfl ?_|apply bT;rfl;rfl;rfl;(focus(kernel_rfl));exact(sL (n:=v.2.1.length) (size:=2) (by decide) (by decide) (by omega))|refine iM rfl rfl (fun _ h=>by cases h) (kG (a:=A) (b:=beB v.2.1.length 2) rfl rfl (by repeat(first|assumption|refine ab (by omega) ?_)) (hU (ro:=false) (n:=(beB v.2.1.length 2).length) (by repeat(exact ae)) rfl) (by omega) (by omega)) ?_|refine iM rfl rfl (fun _ h=>by cases h) (pU (vs:= []) (F.un _ rfl) (.inl ⟨_,F.un _ rfl⟩) (F.sz _ rfl) (by decide) rfl rfl (aj _ _ _) (by omega) (hw0 _ (fun m hm=>by(repeat(first|refine ab (by omega) ?_|refine cp (by omega) ?_));exact o2 m hm)) (fun v hv=>by cases hv)) ?_
  refine aA ⟨by kernel_rfl,?_,?_⟩;(focus(repeat(first|exact Kk|apply jU;rfl|apply gi;rfl;kernel_rfl|refine fX 0 rfl (by kernel_rfl) (by(repeat(refine⟨(by first|exact am (F.ag _ rfl) rfl (by repeat(first|assumption|refine ab (by omega) ?_|refine cp (by omega) ?_)) (aB rfl)|exact fB (F.un _ rfl) rfl (hW _ (fun m hm=>by(repeat(first|refine ab (by omega) ?_|refine cp (by omega) ?_));exact o2 m hm))|exact bR (F.un _ rfl) (F.un _ rfl) rfl (show _=((v.2.1.length:Nat):Int)from(J5 _ ⟨by omega,by omega⟩).trans (by omega))),?_⟩));exact Kk) ?_)))
  (apply bP Tryz.func46 Tryz.results46;rfl)
  rw [hall,hv0]
  exact⟨_,rfl,aj _ _ _,by omega,by dsimp only;omega,by dsimp only;omega,fun m hm=>by(repeat(first|refine ab (by omega) ?_|refine cp (by omega) ?_));exact o2 m hm⟩
 ·(apply bh;(focus(kernel_rfl));(focus(kernel_rfl)))
  repeat first|apply aS;rfl|apply dw;rfl;(focus((repeat(first|assumption|refine ab (by omega) ?_|refine cp (by omega) ?_));done));rfl|apply bS;rfl;rfl;exact(fun _ h=>by cases h);exact(fB (F.un _ rfl) rfl (hW _ o2))|refine bj (bR (F.un _ rfl) (F.un _ rfl) rfl (show _=((v.2.1.length:Nat):Int)from(J5 _ ⟨by omega,by omega⟩).trans (by omega))) rfl rfl rfl ?_|apply bT;rfl;rfl;rfl;(focus(kernel_rfl));exact(sL (n:=v.2.1.length) (size:=2) (by decide) (by decide) (by omega))|refine iM rfl rfl (fun _ h=>by cases h) (kG (a:=A) (b:=beB v.2.1.length 2) rfl rfl (by repeat(first|assumption|refine ab (by omega) ?_)) (hU (ro:=false) (n:=(beB v.2.1.length 2).length) (by repeat(exact ae)) rfl) (by omega) (by omega)) ?_|refine iM rfl rfl (fun _ h=>by cases h) (kG (a:=A ++ beB v.2.1.length 2) (b:=v.2.1) rfl rfl (by repeat(exact ae)) (hW _ (fun m hm=>by(repeat(first|refine ab (by omega) ?_|refine cp (by omega) ?_));exact o2 m hm)) (by omega) (by omega)) ?_
  refine aA ⟨by kernel_rfl,?_,?_⟩;(focus(repeat(first|exact Kk|apply jU;rfl|apply gi;rfl;kernel_rfl|refine fX 0 rfl (by kernel_rfl) (by(repeat(refine⟨(by first|exact am (F.ag _ rfl) rfl (by repeat(first|assumption|refine ab (by omega) ?_|refine cp (by omega) ?_)) (aB rfl)|exact fB (F.un _ rfl) rfl (hW _ (fun m hm=>by(repeat(first|refine ab (by omega) ?_|refine cp (by omega) ?_));exact o2 m hm))|exact bR (F.un _ rfl) (F.un _ rfl) rfl (show _=((v.2.1.length:Nat):Int)from(J5 _ ⟨by omega,by omega⟩).trans (by omega))),?_⟩));exact Kk) ?_)))
  (apply bP Tryz.func46 Tryz.results46;rfl)
  rw [hall]
  exact⟨_,rfl,aj _ _ _,by omega,by dsimp only;omega,by dsimp only;omega,fun m hm=>by(repeat(first|refine ab (by omega) ?_|refine cp (by omega) ?_));exact o2 m hm⟩
theorem Br{T:Tr SV}{d:Option Tmp}{ty:TypeId}{pos:String}{af:Array Edge}{gd:Option (Nat×Bool)}{s x:Operand}{v:SV}{b:List UInt8}(hx0:an T s=some (.sc (.slice none 0 0)))(hx:an T x=some v)(hb:BsIs H v (byV b))(h0:0<b.length)(hm:b.length≤1000000) :
 OpDoes Tryz.prog T H nx ⟨d,.call {callee:= .builtin .append,args:= #[s,x],argTypes:= #[35,35]},ty,pos,af,gd⟩ (.val (.slu nx 0 b.length),H.set nx (u8R false (byV b)),nx+1):=by
 have hr:=BsIs.rdv (P:=Tryz.prog) hb
 unfold RdV at hr
 have h:=mN (P:=Tryz.prog) (T:=T) (H:=H) (nx:=nx) (d:=d) (ty:=ty) (pos:=pos) (af:=af) (gd:=gd) (t:=35) (tx:=35) (el:=5) (sz:=1) (m:=(byV b).length) (b:=1) (s:=s) (x:=x) (v:=v) (cs:=(byV b).map .sc) (F.un _ rfl) (.inl ⟨_,F.un _ rfl⟩) (F.sz _ rfl) (by decide) (by kernel_rfl) (by kernel_rfl) hx0 hx hr (gK hb.1) (by rw [bK];exact h0) (by rw [bK];omega) (by rw [bK];omega)
 rw [show nz false (byV b).length 1 5 ((byV b).map .sc)=dat false (byV b).length 1 5 (byV b)from gZ _ _ _ _ _] at h
 rw [bK] at h
 rw [← bK b] at h ⊢
 exact h
theorem BB(hp:p.length=1024)(hr:bg p=true)(hn:n<ac p)(hs:ak p n≠0):Fnc Tryz.prog 45 [.agg (pgS p),.sc (.int .i64 (n:Int))] H nx (fun q=> ∃ r,q.1 = .tup [.slu r 0 (aV p n).length,.sc (.int .i64 0)]∧q.2.1.at' r=some (u8R false (byV (aV p n)))∧nx≤r∧r<q.2.2∧ ∀ m,m<nx→q.2.1.at' m=H.at' m):=by
 have hb:=cQ hr hn hs
 have hil:=dv hp hb.2.2.2
 have hfd:cn p n=(ay p n,ak p n,0):=by unfold cn;rw [JG (by omega),JG hs]
 have hfs: ∀ (H:au) nx,Fnc Tryz.prog 90 [.agg (pgS p),.sc (.int .i64 (n:Int))] H nx (fun q=>q=(.tup [.agg [.sc (.int .i64 (ay p n:Int)),.sc (.int .i64 (ak p n:Int))],.sc (.int .i64 0)],H,nx)):=fun H nx=>by
  have:=rm (H:=H) (nx:=nx) (n:=n) hp hr
  rw [hfd] at this
  exact this
 refine Ka Tryz.func45 rfl rfl ?_
 repeat first|apply bu hp;rfl;(focus((repeat(exact ae));done))|apply ai;rfl|apply aG;rfl;(focus((repeat(exact ae));done));rfl|apply aL;rfl;omega;omega|apply bY;rfl;kernel_rfl;exact hfs _ _|apply dM;rfl;rfl|apply kV (lw:=ay p n) (hg:=ay p n+ak p n);rfl;rfl;rfl;exact(F.un _ rfl);exact(F.sz _ rfl);rfl;rfl;(focus(omega));(focus(omega));(focus(omega));exact(show ay p n+ak p n-ay p n=ak p n by omega);rfl;exact(JI _)
 refine de rfl (.inr (fun _ h=>by cases h)) (Br (b:=aV p n) rfl rfl (nd (b:=nx) (p:=p) (o:=ay p n) (m:=ak p n) (by repeat(first|exact ae|refine ab (by omega) ?_)) (by omega)) (by omega) (by omega)) ?_
 rw [aK rfl]
 repeat apply ai;rfl
 (apply bP Tryz.func45 Tryz.results45;rfl)
 exact⟨_,rfl,aj _ _ _,by omega,Nat.lt_succ_self _,fun m hm=>by(repeat(refine ab (by omega) ?_));rfl⟩
theorem xk(hp:p.length=1024)(hr:bg p=true)(hn:ac p≤n∨ak p n=0):Fnc Tryz.prog 45 [.agg (pgS p),.sc (.int .i64 (n:Int))] H nx (fun q=>q.1 = .tup [dC,.sc (.int .i64 6)]∧nx≤q.2.2∧ ∀ m,m<nx→q.2.1.at' m=H.at' m):=by
 have hfd:cn p n=(0,0,6):=by unfold cn;split;rfl;rw [JH (by omega)]
 have hfs: ∀ (H:au) nx,Fnc Tryz.prog 90 [.agg (pgS p),.sc (.int .i64 (n:Int))] H nx (fun q=>q=(.tup [.agg [.sc (.int .i64 0),.sc (.int .i64 0)],.sc (.int .i64 6)],H,nx)):=fun H nx=>by
  have:=rm (H:=H) (nx:=nx) (n:=n) hp hr
  rw [hfd] at this
  exact this
 refine Ka Tryz.func45 rfl rfl ?_
 repeat first|apply bu hp;rfl;(focus((repeat(exact ae));done))|apply ai;rfl|apply aG;rfl;(focus((repeat(exact ae));done));rfl|apply bY;rfl;kernel_rfl;exact hfs _ _|apply iv;rfl;decide
 (apply bP Tryz.func45 Tryz.results45;rfl)
 exact⟨rfl,by dsimp only;omega,fun m hm=>by(repeat(refine ab (by omega) ?_));rfl⟩
theorem DB(hp:p.length=1024)(hr:bg p=true)(hn:n<ac p)(hs:ak p n≠0)(hrow:H.at' r=some (u8R false (byV it)))(hit:it.length=ak p n):Fnc Tryz.prog 61 [.agg (pgS p),.sc (.int .i64 (n:Int)),.slu r 0 it.length] H nx (fun q=>q=(pgE (bf p (ay p n) it,0),H,nx)):=by
 refine Fnc.bv (gU _) ?_
 have hb:=cQ hr hn hs
 have hbl:=bK it
 have hfd:cn p n=(ay p n,ak p n,0):=by unfold cn;rw [JG (by omega),JG hs]
 have hfs: ∀ (H:au) nx,Fnc Tryz.prog 90 [.agg (pgS p),.sc (.int .i64 (n:Int))] H nx (fun q=>q=(.tup [.agg [.sc (.int .i64 (ay p n:Int)),.sc (.int .i64 (ak p n:Int))],.sc (.int .i64 0)],H,nx)):=fun H nx=>by
  have:=rm (H:=H) (nx:=nx) (n:=n) hp hr
  rw [hfd] at this
  exact this
 refine Ka Tryz.func61 rfl rfl ?_
 refine aX fun hund=>?_
 have lr:=hund _ _ hrow
 repeat first|apply bu hp;rfl;(focus((repeat(first|exact ae|refine ab (by omega) ?_));done))|refine a9 rfl rfl ci ?_|apply ai;rfl|apply aG;rfl;(focus((repeat(exact ae));done));rfl|apply bY;rfl;kernel_rfl;exact hfs _ _|apply lx;rfl;omega|apply dM;rfl;omega|apply iv;rfl;omega
 refine bC (α:=Nat) (fun i=> [(2,.slu r 0 it.length),(3,.ptr nx 0),(6,.ptr (nx+1) 0),(8,.ptr (nx+1+1) 0),(10,.sc (.int .i64 (i:Int)))])
  (fun i H1 n1=>n1=nx+1+1+1∧i≤it.length∧H1.at' nx=some (pgO (bf p (ay p n) (it.take i)))∧H1.at' (nx+1)=some (pgO zeroP)∧H1.at' (nx+1+1)=some (sbO (ay p n) (ak p n))∧ ∀ m,m<nx→H1.at' m=H.at' m) (fun i=>it.length-i) 0
  ⟨rfl,Jw _,by rw [show it.take 0= [] from rfl,show bf p (ay p n) []=p by simp [bf]];(focus((repeat(first|exact ae|refine ab (by omega) ?_));done)),by repeat(first|exact ae|refine ab (by omega) ?_),by repeat(exact ae),fun m hm=>by(repeat(refine ab (by omega) ?_));rfl⟩ (Kg (Kj rfl)) ?_
 rintro i H1 n1 ⟨rfl,i1,i2,i3,i5,i4⟩ ih
 have hpi:(bf p (ay p n) (it.take i)).length=1024:=(bN (by rw [JK];omega)).trans hp
 have hrow1:=(i4 r lr).trans hrow
 repeat apply ai;rfl
 refine bn rfl rfl rfl rfl (fun h5=>?_) (fun h5=>?_)
 ·have hi:i<it.length:=by omega
  have hcl:(u8R false (byV it)).cell (i*1)=some (.sc (.int .u8 ((it[i]).toNat:Int))):=by
   rw [Nat.mul_one]
   refine ge (by omega) ?_
   rw [Jf (by omega),rF]
  repeat apply ai;rfl
  (apply bh;(focus(kernel_rfl));(focus(kernel_rfl)))
  repeat first|refine bj (am (F.ag _ rfl) rfl hrow1 hcl) rfl rfl rfl ?_|refine bj (am (F.ag _ rfl) rfl i5 (aB rfl)) rfl rfl rfl ?_|refine aH (q:=i) rfl rfl rfl rfl (F.un _ rfl) (F.sz _ rfl) hrow1 rfl hi (by omega) ?_|apply jX (q:=ay p n+i);rfl;rfl;rfl;rfl;exact(F.un _ rfl);exact(F.sz _ rfl);(focus(omega));(focus(omega))|refine dQ (cs:=pgS (bf p (ay p n) (it.take i))) rfl rfl rfl (F.sz _ rfl) i2 rfl (Jj (by rw [be hpi];omega)) ?_|apply aS;rfl|refine bj (aw rfl rfl (.inl ⟨rfl,(Jd _ ⟨(by focus(omega)),(by focus(omega))⟩).symm⟩)) rfl rfl rfl ?_
  refine aA ⟨by kernel_rfl,?_,?_⟩;(focus(repeat(first|exact Kk|apply jU;rfl|apply gi;rfl;kernel_rfl|refine⟨.inr ⟨0,by kernel_rfl,AllH.all (fun _=>(by(exact aw rfl rfl (.inl ⟨rfl,(Jd _ ⟨by omega,by omega⟩).symm⟩)))) _⟩,?_⟩|refine fX 0 rfl (by kernel_rfl) (by(repeat(refine⟨(by first|exact am (F.ag _ rfl) rfl (by repeat(first|assumption|refine ab (by omega) ?_)) (aB rfl)|exact ig (q:=ay p n+i) rfl rfl (F.un _ rfl) (F.sz _ rfl) (by omega) (by omega)),?_⟩));exact Kk) ?_|refine fX 1 rfl (by kernel_rfl) (by(repeat(refine⟨(by first|exact am (F.ag _ rfl) rfl hrow1 hcl|exact aQ (F.un _ rfl) (F.sz _ rfl) rfl rfl hrow1 rfl hi (by omega)),?_⟩));exact Kk) ?_)))
  dsimp only
  rw [show 0+(ay p n+i)*1=ay p n+i by omega,nl,qG (by omega) hi]
  repeat first|apply ai;rfl|apply aL;rfl;omega;omega
  exact ih _ _ _ (i+1) ⟨rfl,by omega,by repeat(exact ae),by repeat(first|assumption|refine ab (by omega) ?_),by(repeat(refine ab (by omega) ?_));exact i5,fun m hm=>by(repeat(refine ab (by omega) ?_));exact i4 m hm⟩ (by omega) (Kg (Kj rfl))
 ·have hi:i=it.length:=by omega
  rw [hi,List.take_length] at i2
  rw [hi,List.take_length] at hpi
  generalize bf p (ay p n) it=pL at hpi i2 ⊢
  repeat first|apply bu hpi;rfl;assumption|apply bA hpi ah;rfl;assumption|apply ai;rfl
  ((apply bm Tryz.func61 (congrArg Array.toList Tryz.results61));(focus((apply Kc rfl (Ke (F.ag _ rfl) (by repeat(exact ae)) (bk hpi)));(repeat(first|exact Kb|apply Kd rfl)))))
  exact⟨rfl,by dsimp only;omega,fun m hm=>by(repeat(refine ab (by omega) ?_));exact i4 m hm⟩
theorem BT(hp:p.length=1024)(hr:bg p=true)(hn:n<ac p)(hs:ak p n≠0):Fnc Tryz.prog 62 [.agg (pgS p),.sc (.int .i64 (n:Int))] H nx (fun q=>q=(pgE (o6 (bJ p n 0 0),0),H,nx)):=by
 refine Fnc.bv (gU _) ?_
 have hok:=(bi hp).1 hr
 have hh:=hok.head
 have ht:=hok.top
 have hfd:cn p n=(ay p n,ak p n,0):=by unfold cn;rw [JG (by omega),JG hs]
 have hfs: ∀ (H:au) nx,Fnc Tryz.prog 90 [.agg (pgS p),.sc (.int .i64 (n:Int))] H nx (fun q=>q=(.tup [.agg [.sc (.int .i64 (ay p n:Int)),.sc (.int .i64 (ak p n:Int))],.sc (.int .i64 0)],H,nx)):=fun H nx=>by
  have:=rm (H:=H) (nx:=nx) (n:=n) hp hr
  rw [hfd] at this
  exact this
 have hl1:(cm p (18+4*n) 0).length=1024:=(bD (by omega)).trans hp
 have hw1:=fun(H:au) nx=>gO (H:=H) (nx:=nx) (o:=18+4*n) (n:=0) hp (by omega) (by decide)
 have hw2:=fun(H:au) nx=>gO (H:=H) (nx:=nx) (o:=18+4*n+2) (n:=0) hl1 (by omega) (by decide)
 rw [show((18+4*n:Nat):Int)=18+4*(n:Int) by omega] at hw1
 rw [show((18+4*n+2:Nat):Int)=18+4*(n:Int)+2 by omega,show cm (cm p (18+4*n) 0) (18+4*n+2) 0=bJ p n 0 0 from rfl] at hw2
 have hxl:(bJ p n 0 0).length=1024:=(fC (by omega)).trans hp
 have hxs:ac (bJ p n 0 0)=ac p:=cS (by omega) (by omega)
 have hx0: ∀ j,j<ac p→ak (bJ p n 0 0) j=0→ay (bJ p n 0 0) j=0:=fun j hj h=>by
  by_cases hjn:j=n
  ·subst hjn
   exact kE (by omega) (by decide)
  ·rw [show ay (bJ p n 0 0) j=ay p j from cS (by omega) (by omega)]
   rw [show ak (bJ p n 0 0) j=ak p j from cS (by omega) (by omega)] at h
   have:=hok.slot j hj
   omega
 generalize bJ p n 0 0=x at hw2 hxl hxs hx0 ⊢
 refine Ka Tryz.func62 rfl rfl ?_
 have hsl: ∀ {H:au} {nx:Nat},Fnc Tryz.prog 76 [.agg (pgS x),.sc (.int .i64 14)] H nx (fun q=>q=(.sc (.int .i64 (ac x:Int)),H,nx)):=fun {H nx}=>oH (o:=14) hxl (by decide)
 repeat first|apply bu hp;rfl;(focus((repeat(first|exact ae|refine ab (by omega) ?_));done))|apply bu hxl;rfl;(focus((repeat(exact ae));done))|apply bA hxl hp;rfl;(focus((repeat(first|exact ae|refine ab (by omega) ?_));done))|refine a9 rfl rfl ci ?_|apply ai;rfl|apply aG;rfl;(focus((repeat(exact ae));done));rfl|apply aL;rfl;omega;omega|apply bY;rfl;kernel_rfl;exact hfs _ _|apply bY;rfl;kernel_rfl;exact hw1 _ _|apply bY;rfl;kernel_rfl;exact hw2 _ _|apply bY;rfl;kernel_rfl;exact hsl|apply dM;rfl;omega
 refine bC (α:=Nat) (fun m=> [(2,.ptr nx 0),(4,.ptr (nx+1) 0),(8,.sc (.int .i64 (m:Int)))])
  (fun m H1 n1=>n1=nx+1+1+1∧m≤ac x∧df x m=df x (ac x)∧H1.at' nx=some (pgO x)∧H1.at' (nx+1)=some (pgO zeroP)∧ ∀ m,m<nx→H1.at' m=H.at' m) (fun m=>m) (ac x)
  ⟨rfl,Jv _,rfl,by repeat(exact ae),by repeat(first|exact ae|refine ab (by omega) ?_),fun m hm=>by(repeat(refine ab (by omega) ?_));rfl⟩ (Kg (Kj rfl)) ?_
 rintro m H1 n1 ⟨rfl,i1,i2,i3,i4,i5⟩ ih
 have hs0:ac p<65536:=cJ p 14
 cases m with
 | zero=>
   have hm:0=df x (ac x):=by rw [← i2];rfl
   repeat first|apply ai;rfl|apply lx;rfl;omega
   (have hv:o6 x=if 0=0 then cm (cm x 14 (0)) 16 1024 else cm x 14 (0):=(by unfold o6;rw [← hm]);have hw3:=fun(H:au) nx=>gO (H:=H) (nx:=nx) (o:=14) (n:=0) hxl (by decide) (by omega);have hl3:(cm x 14 (0)).length=1024:=(bD (by omega)).trans hxl;have hw4:=fun(H:au) nx=>gO (H:=H) (nx:=nx) (o:=16) (n:=1024) hl3 (by decide) (by decide);have hl4:(cm (cm x 14 (0)) 16 1024).length=1024:=(bD (by omega)).trans hl3;rw [hv];generalize cm (cm x 14 (0)) 16 1024=x4 at hw4 hl4 ⊢;generalize cm x 14 (0)=x3 at hw3 hw4 hl3 ⊢;(repeat(first|apply bu hxl;rfl;assumption|apply bA hl3 hxl;rfl;assumption|apply ai;rfl|apply bY;rfl;kernel_rfl;exact hw3 _ _));refine cF rfl rfl rfl rfl (fun e1=>?_) (fun e1=>?_))
   ·((rw [JH (by omega)]);(repeat(first|apply bu hl4;rfl;(focus((repeat(exact ae));done))|apply bu hl3;rfl;(focus((repeat(exact ae));done))|apply bA hl4 hl3;rfl;(focus((repeat(first|exact ae|refine ab (by omega) ?_));done))|apply bA hl4 ah;rfl;(focus((repeat(first|assumption|refine ab (by omega) ?_));done))|apply ai;rfl|apply bY;rfl;kernel_rfl;exact hw4 _ _));((apply bm Tryz.func62 (congrArg Array.toList Tryz.results62));(focus((apply Kc rfl (Ke (F.ag _ rfl) (by repeat(exact ae)) (bk hl4)));(repeat(first|exact Kb|apply Kd rfl)))));exact⟨rfl,(by dsimp only;omega),fun m hm=>by(repeat(refine ab (by omega) ?_));exact i5 m hm⟩)
   ·((rw [JG (by omega)]);(repeat(first|apply bu hl3;rfl;(focus((repeat(exact ae));done))|apply bA hl3 ah;rfl;(focus((repeat(first|assumption|refine ab (by omega) ?_));done))|apply ai;rfl));((apply bm Tryz.func62 (congrArg Array.toList Tryz.results62));(focus((apply Kc rfl (Ke (F.ag _ rfl) (by repeat(exact ae)) (bk hl3)));(repeat(first|exact Kb|apply Kd rfl)))));exact⟨rfl,(by dsimp only;omega),fun m hm=>by(repeat(refine ab (by omega) ?_));exact i5 m hm⟩)
 | succ k=>
   have hk:k<ac p:=by omega
   have hq1: ∀ {H:au} {nx:Nat},Fnc Tryz.prog 76 [.agg (pgS x),.sc (.int .i64 (18+4*((k+1:Nat):Int)-4))] H nx (fun q=>q=(.sc (.int .i64 (ay x k:Int)),H,nx)):=fun {H nx}=>by
    have:=oH (H:=H) (nx:=nx) (o:=18+4*k) hxl (by omega)
    rw [show((18+4*k:Nat):Int)=18+4*((k+1:Nat):Int)-4 by omega] at this
    exact this
   have hq2: ∀ {H:au} {nx:Nat},Fnc Tryz.prog 76 [.agg (pgS x),.sc (.int .i64 (18+4*((k+1:Nat):Int)-2))] H nx (fun q=>q=(.sc (.int .i64 (ak x k:Int)),H,nx)):=fun {H nx}=>by
    have:=oH (H:=H) (nx:=nx) (o:=18+4*k+2) hxl (by omega)
    rw [show((18+4*k+2:Nat):Int)=18+4*((k+1:Nat):Int)-2 by omega] at this
    exact this
   by_cases hz:ak x k=0
   ·have hf0:=hx0 k hk hz
    have htr:df x (k+1)=df x k:=by show(if _ then _ else _)=_;rw [JH hz]
    repeat first|apply bu hxl;rfl;assumption|apply ai;rfl|apply aL;rfl;omega;omega|apply bY;rfl;kernel_rfl;exact hq1|apply bY;rfl;kernel_rfl;exact hq2|apply px;rfl;omega|apply dM;rfl;omega
    rw [show((k+1:Nat):Int)-1=((k:Nat):Int) by omega]
    exact ih _ _ _ k ⟨rfl,by omega,by rw [← htr];exact i2,i3,i4,i5⟩ (by omega) (Kg (Kj rfl))
   ·have htr:df x (k+1)=k+1:=by show(if _ then _ else _)=_;rw [JG hz]
    have hm:k+1=df x (ac x):=by rw [← i2,htr]
    by_cases hf:ay x k=0
    ·repeat first|apply bu hxl;rfl;assumption|apply ai;rfl|apply aL;rfl;omega;omega|apply bY;rfl;kernel_rfl;exact hq1|apply bY;rfl;kernel_rfl;exact hq2|apply px;rfl;omega|apply dM;rfl;omega|apply iv;rfl;omega
     (have hv:o6 x=if k+1=0 then cm (cm x 14 (k+1)) 16 1024 else cm x 14 (k+1):=(by unfold o6;rw [← hm]);have hw3:=fun(H:au) nx=>gO (H:=H) (nx:=nx) (o:=14) (n:=k+1) hxl (by decide) (by omega);have hl3:(cm x 14 (k+1)).length=1024:=(bD (by omega)).trans hxl;have hw4:=fun(H:au) nx=>gO (H:=H) (nx:=nx) (o:=16) (n:=1024) hl3 (by decide) (by decide);have hl4:(cm (cm x 14 (k+1)) 16 1024).length=1024:=(bD (by omega)).trans hl3;rw [hv];generalize cm (cm x 14 (k+1)) 16 1024=x4 at hw4 hl4 ⊢;generalize cm x 14 (k+1)=x3 at hw3 hw4 hl3 ⊢;(repeat(first|apply bA hl3 hxl;rfl;assumption|apply ai;rfl|apply bY;rfl;kernel_rfl;exact hw3 _ _));refine cF rfl rfl rfl rfl (fun e1=>?_) (fun e1=>?_))
     ·((rw [JH (by omega)]);(repeat(first|apply bu hl4;rfl;(focus((repeat(first|exact ae|refine ab (by omega) ?_));done))|apply bu hl3;rfl;(focus((repeat(exact ae));done))|apply bA hl4 hl3;rfl;(focus((repeat(first|exact ae|refine ab (by omega) ?_));done))|apply bA hl4 ah;rfl;(focus((repeat(first|assumption|refine ab (by omega) ?_));done))|apply ai;rfl|apply bY;rfl;kernel_rfl;exact hw4 _ _));((apply bm Tryz.func62 (congrArg Array.toList Tryz.results62));(focus((apply Kc rfl (Ke (F.ag _ rfl) (by repeat(exact ae)) (bk hl4)));(repeat(first|exact Kb|apply Kd rfl)))));exact⟨rfl,(by dsimp only;omega),fun m hm=>by(repeat(refine ab (by omega) ?_));exact i5 m hm⟩)
     ·((rw [JG (by omega)]);(repeat(first|apply bu hl3;rfl;(focus((repeat(exact ae));done))|apply bA hl3 ah;rfl;(focus((repeat(first|assumption|refine ab (by omega) ?_));done))|apply ai;rfl));((apply bm Tryz.func62 (congrArg Array.toList Tryz.results62));(focus((apply Kc rfl (Ke (F.ag _ rfl) (by repeat(exact ae)) (bk hl3)));(repeat(first|exact Kb|apply Kd rfl)))));exact⟨rfl,(by dsimp only;omega),fun m hm=>by(repeat(refine ab (by omega) ?_));exact i5 m hm⟩)
    ·repeat first|apply bu hxl;rfl;assumption|apply ai;rfl|apply aL;rfl;omega;omega|apply bY;rfl;kernel_rfl;exact hq1|apply px;rfl;omega|apply iv;rfl;omega
     (have hv:o6 x=if k+1=0 then cm (cm x 14 (k+1)) 16 1024 else cm x 14 (k+1):=(by unfold o6;rw [← hm]);have hw3:=fun(H:au) nx=>gO (H:=H) (nx:=nx) (o:=14) (n:=k+1) hxl (by decide) (by omega);have hl3:(cm x 14 (k+1)).length=1024:=(bD (by omega)).trans hxl;have hw4:=fun(H:au) nx=>gO (H:=H) (nx:=nx) (o:=16) (n:=1024) hl3 (by decide) (by decide);have hl4:(cm (cm x 14 (k+1)) 16 1024).length=1024:=(bD (by omega)).trans hl3;rw [hv];generalize cm (cm x 14 (k+1)) 16 1024=x4 at hw4 hl4 ⊢;generalize cm x 14 (k+1)=x3 at hw3 hw4 hl3 ⊢;(repeat(first|apply bA hl3 hxl;rfl;assumption|apply ai;rfl|apply bY;rfl;kernel_rfl;exact hw3 _ _));refine cF rfl rfl rfl rfl (fun e1=>?_) (fun e1=>?_))
     ·((rw [JH (by omega)]);(repeat(first|apply bu hl4;rfl;(focus((repeat(first|exact ae|refine ab (by omega) ?_));done))|apply bu hl3;rfl;(focus((repeat(exact ae));done))|apply bA hl4 hl3;rfl;(focus((repeat(first|exact ae|refine ab (by omega) ?_));done))|apply bA hl4 ah;rfl;(focus((repeat(first|assumption|refine ab (by omega) ?_));done))|apply ai;rfl|apply bY;rfl;kernel_rfl;exact hw4 _ _));((apply bm Tryz.func62 (congrArg Array.toList Tryz.results62));(focus((apply Kc rfl (Ke (F.ag _ rfl) (by repeat(exact ae)) (bk hl4)));(repeat(first|exact Kb|apply Kd rfl)))));exact⟨rfl,(by dsimp only;omega),fun m hm=>by(repeat(refine ab (by omega) ?_));exact i5 m hm⟩)
     ·((rw [JG (by omega)]);(repeat(first|apply bu hl3;rfl;(focus((repeat(exact ae));done))|apply bA hl3 ah;rfl;(focus((repeat(first|assumption|refine ab (by omega) ?_));done))|apply ai;rfl));((apply bm Tryz.func62 (congrArg Array.toList Tryz.results62));(focus((apply Kc rfl (Ke (F.ag _ rfl) (by repeat(exact ae)) (bk hl3)));(repeat(first|exact Kb|apply Kd rfl)))));exact⟨rfl,(by dsimp only;omega),fun m hm=>by(repeat(refine ab (by omega) ?_));exact i5 m hm⟩)
theorem wX{o b:Nat}(h:o+2≤p.length):cm (cm p o a) o b=cm p o b:=by
 have hl:=fun n=>bq n 2
 have h1:(bf p o (beB a 2)).length=p.length:=bN (by rw [hl];exact h)
 refine J1 fun i=>?_
 unfold cm
 rw [cG (by rw [h1,hl];exact h),cG (by rw [hl];exact h),cG (by rw [hl];exact h),hl,hl]
 split <;> rfl
theorem w8(hp:p.length=1024)(h:18+4*ac p≤1024):bf p (18+4*ac p) (List.replicate (1024-(18+4*ac p)) 0)=ce p 0:=by
 have hz:=ah
 have hl:(p.take (18+4*ac p)).length=18+4*ac p:=by rw [JK];omega
 refine J1 fun i=>?_
 show _=(bf zeroP 0 (p.take (18+4*ac p)))[i]?
 rw [cG (by rw [JT];omega),cG (by omega),hl,JT]
 by_cases h1:i<18+4*ac p
 ·rw [JG (by omega),JH (by omega),Nat.sub_zero,List.getElem?_take,JH h1]
 ·rw [JG (show ¬ (0≤i∧i<0+(18+4*ac p)) by omega)]
  by_cases h2:i<1024
  ·rw [JH (by omega),List.getElem?_replicate,JH (by omega)]
   unfold zeroP
   rw [List.getElem?_replicate,JH h2]
  ·rw [JG (by omega),J4 (by omega),J4 (by omega)]
def lZ(p:List UInt8)(n:Nat):List UInt8:=cm (ce p n) 16 (1024-bE p n)
theorem oF(h:Okp p)(hn:n≤ac p):(lZ p n).length=1024:=by
 have g:=(sw h n hn).len
 exact(bD (by omega)).trans g
theorem oG(h:Okp p)(hn:n≤ac p):aD (lZ p n)=1024-bE p n:=by
 have g:=(sw h n hn).len
 exact eQ (by omega) (by omega)
theorem w9(hz:ak p n=0):lZ p (n+1)=lZ p n:=by
 have h1:ce p (n+1)=ce p n:=by show(if _ then _ else _)=_;rw [JH hz]
 have h2:bE p (n+1)=bE p n:=by show bE p n+ak p n=_;omega
 unfold lZ
 rw [h1,h2]
theorem y7(h:Okp p)(hn:n<ac p)(hz:ak p n≠0):CK (lZ p n) n (aV p n)=lZ p (n+1):=by
 have hh:=h.head
 have ht:=h.top
 have hs1:=h.sum_le
 have hs2:=dx p (show n+1≤ac p from hn)
 have hs3:bE p (n+1)=bE p n+ak p n:=rfl
 have hsl:=h.slot n hn
 have hil:=dv h.len (p:=p) (j:=n) (by omega)
 have hb:=oG h (Nat.le_of_lt hn)
 have h1:ce p (n+1)=bJ (bf (ce p n) (1024-bE p (n+1)) (aV p n)) n (1024-bE p (n+1)) (ak p n):=by show(if _ then _ else _)=_;rw [JG hz]
 have gl:=(sw h n (Nat.le_of_lt hn)).len
 have hl:=fun n=>bq n 2
 unfold CK
 rw [hb,hil,show 1024-bE p n-ak p n=1024-bE p (n+1) by omega]
 unfold lZ
 rw [h1]
 generalize ce p n=q at gl
 generalize hA:1024-bE p (n+1)=A at *
 have hA2:18+4*ac p≤A∧A+ak p n≤1024:=by omega
 have e1:bf (cm q 16 (1024-bE p n)) A (aV p n)=cm (bf q A (aV p n)) 16 (1024-bE p n):=eX (by rw [hl];omega) (by omega) (by rw [hl];omega)
 have l1:(bf q A (aV p n)).length=1024:=(bN (by omega)).trans gl
 rw [e1,wX (by omega)]
 generalize bf q A (aV p n)=x at l1
 have l2:(cm x (18+4*n) A).length=1024:=(bD (by omega)).trans l1
 have e2:cm (cm x 16 A) (18+4*n) A=cm (cm x (18+4*n) A) 16 A:=eX (by rw [hl];omega) (by rw [hl];omega) (by rw [hl];omega)
 rw [e2]
 show cm (cm _ 16 A) (18+4*n+2) _=cm (cm _ (18+4*n+2) _) 16 A
 exact eX (by rw [hl];omega) (by rw [hl];omega) (by rw [hl];omega)
theorem y8(p:List UInt8):lZ p (ac p)=dL p:=rfl
theorem xJ(hp:p.length=1024)(ha:a≤i)(hi:i<1024):(bf p a ((List.replicate (1024-a) 0).take (i-a))).set i 0=bf p a ((List.replicate (1024-a) 0).take (i+1-a)):=by
 have h:=qG (p:=p) (it:=List.replicate (1024-a) 0) (a:=a) (i:=i-a) (by rw [JT];omega) (by rw [JT];omega)
 rw [List.getElem_replicate,show a+(i-a)=i by omega,show i-a+1=i+1-a by omega] at h
 exact h
theorem y6(hp:p.length=1024)(hr:bg p=true):Fnc Tryz.prog 48 [.agg (pgS p)] H nx (fun q=>q=(pgE (dL p,0),H,nx)):=by
 refine Fnc.bv (gU _) ?_
 have hok:=(bi hp).1 hr
 have hh:=hok.head
 have ht:=hok.top
 have hll:=eO p (ac p)
 refine Ka Tryz.func48 rfl rfl ?_
 repeat first|apply bu hp;rfl;(focus((repeat(first|exact ae|refine ab (by omega) ?_));done))|refine a9 rfl rfl ci ?_|apply ai;rfl
 refine aI rfl rfl rfl (by kernel_rfl) (J9 (pW hp) ?_)
 rintro⟨_,H2,n2⟩ ⟨g1,g2,(⟨hr2,rfl⟩|⟨_,r,rfl,g3,g4,g5⟩)⟩
 ·rw [hr] at hr2;cases hr2
 dsimp only at g1 g2 g3 g4 g5 ⊢
 have hb:H2.at' nx=some (pgO p):=(g2 _ (by omega)).trans (by repeat(first|exact ae|refine ab (by omega) ?_))
 have hz:H2.at' (nx+1)=some (pgO zeroP):=(g2 _ (by omega)).trans (by repeat(exact ae))
 have ho: ∀ m,m<nx→H2.at' m=H.at' m:=fun m hm=>(g2 m (by omega)).trans (by(repeat(refine ab (by omega) ?_));rfl)
 clear g2
 repeat first|apply bu hp;rfl;assumption|apply bA hp ah;rfl;(focus((repeat(exact ae));done))|refine a9 rfl rfl ci ?_|apply ai;rfl|apply aL;rfl;omega;omega
 refine bC (α:=Nat) (fun i=> [(1,.ptr nx 0),(2,.ptr (nx+1) 0),(4,.slu r 0 (eH p (ac p)).length),(6,.ptr n2 0),(7,.sc (.int .i64 (i:Int)))])
  (fun i H1 n1=>n1=n2+1∧18+4*ac p≤i∧i≤1024∧H1.at' n2=some (pgO (bf p (18+4*ac p) ((List.replicate (1024-(18+4*ac p)) 0).take (i-(18+4*ac p)))))∧H1.at' nx=some (pgO p)∧H1.at' (nx+1)=some (pgO zeroP)∧H1.at' r=some (slO (eH p (ac p)))∧ ∀ m,m<nx→H1.at' m=H.at' m) (fun i=>1024-i) (18+4*ac p)
  ⟨rfl,Jv _,by omega,by rw [Nat.sub_self,List.take_zero,show bf p (18+4*ac p) []=p by simp [bf]];(focus((repeat(exact ae));done)),by repeat(first|assumption|refine ab (by omega) ?_),by repeat(first|assumption|refine ab (by omega) ?_),by repeat(first|assumption|refine ab (by omega) ?_),fun m hm=>by(repeat(refine ab (by omega) ?_));exact ho m hm⟩ (Kg (by repeat(first|exact Kk|refine⟨rfl,?_⟩|refine⟨fO (by(omega)),?_⟩))) ?_
 rintro i H1 n1 ⟨rfl,i1,i2,i3,i4,i5,i6,i7⟩ ih
 have hpi:(bf p (18+4*ac p) ((List.replicate (1024-(18+4*ac p)) 0).take (i-(18+4*ac p)))).length=1024:=(bN (by rw [JK,JT];omega)).trans hp
 repeat apply ai;rfl
 refine bn rfl rfl rfl rfl (fun h5=>?_) (fun h5=>?_)
 ·have hi:i<1024:=by omega
  have hset:(pgS (bf p (18+4*ac p) ((List.replicate (1024-(18+4*ac p)) 0).take (i-(18+4*ac p))))).set i (.sc (.int .u8 0))=pgS (bf p (18+4*ac p) ((List.replicate (1024-(18+4*ac p)) 0).take (i+1-(18+4*ac p)))):=by
   rw [← xJ hp i1 hi]
   exact nl _ i 0
  repeat first|apply ai;rfl|apply gr (q:=i);rfl;rfl;rfl;rfl;exact(F.un _ rfl);exact(F.sz _ rfl);(focus(omega));(focus(omega))
  rw [show 0+i*1=i by omega]
  refine dX (cs:=pgS (bf p (18+4*ac p) ((List.replicate (1024-(18+4*ac p)) 0).take (i-(18+4*ac p))))) rfl rfl rfl (F.sz _ rfl) i3 rfl (Jj (by rw [be hpi];omega)) ?_
  rw [hset]
  repeat first|apply ai;rfl|apply aL;rfl;omega;omega
  exact ih _ _ _ (i+1) ⟨rfl,by omega,by omega,by repeat(exact ae),by repeat(first|assumption|refine ab (by omega) ?_),by repeat(first|assumption|refine ab (by omega) ?_),by repeat(first|assumption|refine ab (by omega) ?_),fun m hm=>by(repeat(refine ab (by omega) ?_));exact i7 m hm⟩ (by omega) (Kg (Kj rfl))
 ·have hi:i=1024:=by omega
  subst hi
  rw [Jn (by rw [JT];exact Jv _),w8 hp (by omega)] at i3
  have hl0:=(sw hok 0 (Jw _)).len
  have hw:=fun(H:au) nx=>gO (H:=H) (nx:=nx) (o:=16) (n:=1024) hl0 (by decide) (by decide)
  rw [show cm (ce p 0) 16 1024=lZ p 0 from rfl] at hw
  have hl1:=oF hok (Jw (ac p))
  generalize ce p 0=x0 at i3 hl0 hw
  repeat first|apply bu hl0;rfl;assumption|apply bA hl1 hl0;rfl;assumption|apply ai;rfl|apply bY;rfl;kernel_rfl;exact hw _ _
  clear hw hl1
  refine bC (α:=Nat) (fun j=> [(1,.ptr nx 0),(2,.ptr (nx+1) 0),(4,.slu r 0 (eH p (ac p)).length),(6,.ptr n2 0),(8,.sc (.int .i64 (j:Int)))])
   (fun j H3 n3=>n3=n2+1∧j≤ac p∧H3.at' n2=some (pgO (lZ p j))∧H3.at' nx=some (pgO p)∧H3.at' (nx+1)=some (pgO zeroP)∧H3.at' r=some (slO (eH p (ac p)))∧ ∀ m,m<nx→H3.at' m=H.at' m) (fun j=>ac p-j) 0
   ⟨rfl,Jw _,by repeat(exact ae),by repeat(first|assumption|refine ab (by omega) ?_),by repeat(first|assumption|refine ab (by omega) ?_),by repeat(first|assumption|refine ab (by omega) ?_),fun m hm=>by(repeat(refine ab (by omega) ?_));exact i7 m hm⟩ (Kg (Kj rfl)) ?_
  clear i3 i4 i5 i6 i7 ih
  rintro j H3 n3 ⟨rfl,j1,j2,j3,j4,j5,j6⟩ ih2
  have hlj:=oF hok j1
  repeat apply ai;rfl
  refine bn rfl rfl rfl rfl (fun h6=>?_) (fun h6=>?_)
  ·have hj:j<ac p:=by omega
   have hcS:=iz p hj
   have hcF:=jC p hj
   have hg:ak p j<65536:=cJ p _
   repeat first|refine dq (q:=j) rfl rfl rfl rfl (F.un _ rfl) (F.sz _ rfl) (by assumption) (by omega) (by(omega)) (Jv _) ?_|refine cd (am (F.ag _ rfl) rfl j5 hcS) rfl rfl rfl ?_|apply ai;rfl
   by_cases hs:ak p j=0
   ·rw [← w9 hs] at j2
    repeat first|apply lx;rfl;omega|apply ai;rfl|apply aL;rfl;omega;omega
    exact ih2 _ _ _ (j+1) ⟨rfl,hj,j2,j3,j4,j5,j6⟩ (by omega) (Kg (Kj rfl))
   ·have hsl:=cQ hr hj hs
    have hil:=dv hp (j:=j) hsl.2.2.2
    have hs2:=dx p (show j+1≤ac p from hj)
    have hs3:bE p (j+1)=bE p j+ak p j:=rfl
    have hs1:=hok.sum_le
    have hbg:=oG hok j1
    have hlay: ∀ (H:au) nx',H.at' nx=some (pgO p)→Fnc Tryz.prog 94 [.agg (pgS (lZ p j)),.sc (.int .i64 (j:Int)),.sl nx (ay p j) (ak p j) (1024-ay p j)] H nx' (fun q=>q=(.agg (pgS (lZ p (j+1))),H,nx')):=fun H nx' h=>by
     have:=CJ (H:=H) (nx:=nx') (n:=j) (s:= .sl nx (ay p j) (ak p j) (1024-ay p j)) (it:=aV p j) hlj (nd (o:=ay p j) (m:=ak p j) h (by omega)) (by omega) (by omega) (by omega)
     rwa [y7 hok hj hs] at this
    have hlj2:=oF hok (show j+1≤ac p from hj)
    generalize lZ p j=y at j2 hlj hlay
    repeat first|apply px;rfl;omega|apply ai;rfl
    (apply bh;(focus(kernel_rfl));(focus(kernel_rfl)))
    repeat first|refine b8 rfl rfl rfl (F.ag _ rfl) j2 (be hlj) ?_|refine aH (q:=j) rfl rfl rfl rfl (F.un _ rfl) (F.sz _ rfl) (by assumption) (by omega) (by(omega)) (Jv _) ?_|refine bj (am (F.ag _ rfl) rfl j5 hcF) rfl rfl rfl ?_|refine bj (am (F.ag _ rfl) rfl j5 hcS) rfl rfl rfl ?_|apply bS;rfl;rfl;exact(fun _ h=>by cases h);exact(fW (l:=ay p j) (h:=ay p j+ak p j) (F.un _ rfl) (F.sz _ rfl) rfl rfl rfl (by omega) (by omega) (by omega) (show ay p j+ak p j-ay p j=ak p j by omega) rfl (JI _))|apply bT;rfl;rfl;rfl;(focus(kernel_rfl));exact(hlay _ _ j3)|refine bX rfl rfl rfl (F.sz _ rfl) j2 (be hlj2) (by rw [be hlj];exact Jv _) (iE _) (lc _ _ hlj hlj2) ?_|apply aS;rfl|refine bj (aw rfl rfl (.inl ⟨rfl,(Jd _ ⟨(by focus(omega)),(by focus(omega))⟩).symm⟩)) rfl rfl rfl ?_
    refine aA ⟨by kernel_rfl,?_,?_⟩;(focus(repeat(first|exact Kk|apply jU;rfl|apply gi;rfl;kernel_rfl|refine⟨.inr ⟨0,by kernel_rfl,AllH.all (fun _=>(by(exact aw rfl rfl (.inl ⟨rfl,(Jd _ ⟨by omega,by omega⟩).symm⟩)))) _⟩,?_⟩|refine fX 1 rfl (by kernel_rfl) (by(repeat(refine⟨(by first|exact ba (F.ag _ rfl) rfl (by exact j2) (bk hlj)|exact am (F.ag _ rfl) rfl j5 hcF|exact am (F.ag _ rfl) rfl j5 hcS|exact aQ (F.un _ rfl) (F.sz _ rfl) rfl rfl j5 rfl (by omega) (Jv _)),?_⟩));exact Kk) ?_|apply lJ;kernel_rfl)))
    repeat first|apply ai;rfl|apply aL;rfl;omega;omega
    exact ih2 _ _ _ (j+1) ⟨rfl,hj,by repeat(exact ae),by repeat(first|assumption|refine ab (by omega) ?_),by repeat(first|assumption|refine ab (by omega) ?_),by repeat(first|assumption|refine ab (by omega) ?_),fun m hm=>by(repeat(refine ab (by omega) ?_));exact j6 m hm⟩ (by omega) (Kg (Kj rfl))
  ·have hj:j=ac p:=by omega
   subst hj
   rw [y8] at j2 hlj
   generalize dL p=y at j2 hlj ⊢
   repeat first|apply bu hlj;rfl;assumption|apply bA hlj ah;rfl;assumption|apply ai;rfl
   ((apply bm Tryz.func48 (congrArg Array.toList Tryz.results48));(focus((apply Kc rfl (Ke (F.ag _ rfl) (by repeat(exact ae)) (bk hlj)));(repeat(first|exact Kb|apply Kd rfl)))))
   exact⟨rfl,by dsimp only;omega,fun m hm=>by(repeat(refine ab (by omega) ?_));exact j6 m hm⟩
end
end Go.Proofs.YtnhmbonmlfeifaaGreat
end
section
namespace Go.Sy
open Go Go.Sl Go.RowKit
section
variable {P:Program}
theorem Fnc.Cf{f:FuncId}{args:List SV}{H:au}{nx:Nat}{v:SV}(hv: ∀ e:Env,(∀ n vo,H.at' n=some vo→ ∃ x,e n=some x)→ ∃ u,v.conc e=some u)(h:Fnc P f args H nx (fun q=>q.1=v∧nx≤q.2.2∧ ∀ n,n<nx→q.2.1.at' n=H.at' n)):Fnc P f args H nx (fun q=>q=(v,H,nx)):=by
 have key: ∀ {K:Zone} {w0 w:World} {e e':Env} {u:Value},St K w0 e H nx w→e.le e'→v.conc e'=some u→v.conc e=some u:=fun {K w0 w e e' u} hS hle hu=>by
  obtain⟨z,hz⟩:=hv e fun n vo hn=>by
   obtain⟨x,hx,_⟩:=hS.rel n vo hn
   exact⟨x,hx⟩
  have:=SV.di hle v z hz
  rw [hu] at this
  rw [hz,←this]
 unfold Fnc kg at h ⊢
 rcases h with ⟨h1,u,r,h2,⟨q1,q2,q3⟩,h4⟩|h
 ·refine .inl ⟨h1,u,_,h2,rfl,fun K w0 e w hS=>?_⟩
  obtain⟨e',g1,g2,g3⟩:=h4 K w0 e w hS
  rw [q1] at g3
  exact⟨e,Kh e,hS.drop g1 g2 q3,key hS g1 g3⟩
 ·refine .inr ?_
  split at h
  ·refine⟨fun K w0 e w tmps todo ds kd rof cs hS a2 a3 a4 a5=>?_⟩
   obtain⟨r,⟨q1,q2,q3⟩,e',w',u,g1,g2,g3,g4⟩:=Wp.run h K w0 e w tmps todo ds kd rof cs hS a2 a3 a4 a5
   rw [q1] at g3
   exact⟨_,rfl,e,w',u,Kh e,hS.drop g1 g2 q3,key hS g1 g3,g4⟩
  ·exact h.elim
end
end Go.Sy
end
section
namespace Go.Proofs.YtnhmbonmlfeifaaGreat
open Go Go.Sy Go.Sl Go.RowKit
section
variable {H:au}{C i k n nx o r:Nat}{hm p x:List UInt8}{l:List (Int×Int)}{pf:Nat→List UInt8}
theorem As(hp:p.length=1024)(hi:i<12):(List.replicate i 0 ++ p.drop i).set i 0=List.replicate (i+1) 0 ++ p.drop (i+1):=by
 refine J1 fun j=>?_
 rw [List.getElem?_set]
 by_cases h1:i=j
 ·subst h1
  rw [JH rfl,JH (by simp;omega),Js (by rw [JT];omega),List.getElem?_replicate,JH (by omega)]
 ·rw [JG h1]
  by_cases h2:j<i
  ·rw [Js (by rw [JT];omega),Js (by rw [JT];omega),List.getElem?_replicate,List.getElem?_replicate,JH h2,JH (by omega)]
  ·rw [JQ (by rw [JT];omega),JQ (by rw [JT];omega),JT,JT,List.getElem?_drop,List.getElem?_drop]
   congr 1
   omega
theorem HT(hp:p.length=1024):Fnc Tryz.prog 74 [.agg (pgS p)] H nx (fun q=>q=(.agg (pgS (bareP p)),H,nx)):=by
 refine Fnc.bv (Free.agg _) ?_
 refine Ka Tryz.func74 rfl rfl ?_
 repeat first|refine a9 rfl rfl ci ?_|apply ai;rfl
 refine bC (α:=Nat) (fun i=> [(1,.ptr nx 0),(2,.ptr (nx+1) 0),(3,.sc (.int .i64 (i:Int)))])
  (fun i H1 n1=>n1=nx+1+1∧i≤12∧H1.at' nx=some (pgO (List.replicate i 0 ++ p.drop i))∧H1.at' (nx+1)=some (pgO zeroP)∧ ∀ m,m<nx→H1.at' m=H.at' m) (fun i=>12-i) 0
  ⟨rfl,Jw _,by rw [List.replicate_zero,List.nil_append,List.drop_zero];(focus((repeat(first|exact ae|refine ab (by omega) ?_));done)),by repeat(exact ae),fun m hm=>by(repeat(refine ab (by omega) ?_));rfl⟩ (Kg (Kj rfl)) ?_
 rintro i H1 n1 ⟨rfl,i1,i2,i3,i4⟩ ih
 have hli:(List.replicate i 0 ++ p.drop i).length=1024:=by rw [Jz,JT,JN];omega
 repeat apply ai;rfl
 refine bn rfl rfl rfl rfl (fun h5=>?_) (fun h5=>?_)
 ·have hi:i<12:=by omega
  have hset:(pgS (List.replicate i 0 ++ p.drop i)).set i (.sc (.int .u8 0))=pgS (List.replicate (i+1) 0 ++ p.drop (i+1)):=by
   rw [← As hp hi]
   exact nl _ i 0
  repeat first|apply ai;rfl|apply gr (q:=i);rfl;rfl;rfl;rfl;exact(F.un _ rfl);exact(F.sz _ rfl);(focus(omega));(focus(omega))
  rw [show 0+i*1=i by omega]
  refine dX (cs:=pgS (List.replicate i 0 ++ p.drop i)) rfl rfl rfl (F.sz _ rfl) i2 rfl (Jj (by rw [be hli];omega)) ?_
  rw [hset]
  repeat first|apply ai;rfl|apply aL;rfl;omega;omega
  exact ih _ _ _ (i+1) ⟨rfl,by omega,by repeat(exact ae),by repeat(first|assumption|refine ab (by omega) ?_),fun m hm=>by(repeat(refine ab (by omega) ?_));exact i4 m hm⟩ (by omega) (Kg (Kj rfl))
 ·have hi:i=12:=by omega
  subst hi
  have i2:H1.at' nx=some (pgO (bareP p)):=i2
  have hl:=dT hp
  generalize bareP p=x at i2 hl ⊢
  repeat first|apply bu hl;rfl;assumption|apply bA hl ah;rfl;assumption|apply ai;rfl
  ((apply bm Tryz.func74 (congrArg Array.toList Tryz.results74));(focus((apply Kc rfl (Ke (F.ag _ rfl) (by repeat(exact ae)) (bk hl)));(repeat(exact Kb)))))
  exact⟨rfl,by dsimp only;omega,fun m hm=>by(repeat(refine ab (by omega) ?_));exact i4 m hm⟩
theorem ES{l:List UInt8}(h:BlkAt H r o l)(hi:i+n≤l.length):BlkAt H r (o+i) ((l.drop i).take n):=
 ((h.part (n:=i) (by omega)).2.part (n:=n) (by rw [JN];omega)).1
def x7(r o C:Nat)(l:List UInt8):SV:=if l.length<20 then oh dC dC 0 0 else if l.length<20+beN ((l.drop 16).take 2) then oh dC dC 0 0 else
 oh (.sl r (o+18) (18+beN ((l.drop 16).take 2)-18) (C-18)) (.sl r (if C=20+beN ((l.drop 16).take 2) then o else o+(20+beN ((l.drop 16).take 2))) (l.length-(20+beN ((l.drop 16).take 2))) (C-(20+beN ((l.drop 16).take 2)))) (beN (l.take 8)) (beN ((l.drop 8).take 8))
theorem x5(r o C:Nat)(l:List UInt8):Ja (x7 r o C l):=by
 unfold x7
 split
 ·exact⟨_,_,_,_,rfl,rfl,rfl⟩
 ·split
  ·exact⟨_,_,_,_,rfl,rfl,rfl⟩
  ·exact⟨_,_,_,_,rfl,rfl,rfl⟩
theorem x6{l:List UInt8}(hB:BlkAt H r o l)(e:Env)(he: ∀ n vo,H.at' n=some vo→ ∃ x,e n=some x)(b:Bool): ∃ u,(SV.tup [x7 r o C l,.sc (.bool b)]).conc e=some u:=by
 obtain⟨vo,h,_⟩:=hB
 obtain⟨x,hx⟩:=he r vo h
 unfold x7
 split
 ·exact⟨_,rfl⟩
 ·split
  ·exact⟨_,rfl⟩
  ·simp [SV.conc,SV.aJ,hx]
theorem Ds{l:List UInt8}{v:gf}(hB:BlkAt H r o l)(hC:l.length≤C)(h:ofR l=some v):VerAt H (x7 r o C l) r v:=by
 unfold ofR at h
 split at h
 ·cases h
 ·rename_i h1
  split at h
  ·cases h
  ·rename_i h2
   split at h
   ·have h:=(Option.some.inj h).symm
    subst h
    have hver:ny l=((l.drop 18).take (beN ((l.drop 16).take 2)),l.drop (20+beN ((l.drop 16).take 2)),beN (l.take 8),beN ((l.drop 8).take 8)):=rfl
    unfold x7
    rw [JG h1,JG h2,hver]
    generalize beN ((l.drop 16).take 2)=kk at h2 ⊢
    have lk:((l.drop 18).take kk).length=kk:=by rw [JK,JN];omega
    have lv:(l.drop (20+kk)).length=l.length-(20+kk):=JN
    refine⟨_,_,rfl,.inr ⟨o+18,C-18,?_,ES hB (by omega)⟩,.inr ⟨_,C-(20+kk),by rw [lv],?_⟩⟩
    ·rw [lk,Nat.add_sub_cancel_left]
    ·by_cases hc:C=20+kk
     ·have:l.drop (20+kk)= []:=List.drop_of_length_le (by omega)
      rw [this]
      obtain⟨vo,hvo,_⟩:=hB
      exact BlkAt.none _ hvo _
     ·rw [JG hc]
      exact(hB.part (n:=20+kk) (by omega)).2
   ·cases h
theorem Hi{l:List UInt8}(hB:BlkAt H r o l)(hC:l.length≤C)(hl:l.length≤100000):Fnc Tryz.prog 36 [.sl r o l.length C] H nx (fun q=>q=(.tup [x7 r o C l,.sc (.bool (ofR l).isSome)],H,nx)):=by
 refine Fnc.Cf (fun e he=>x6 hB e he _) ?_
 refine Ka Tryz.func36 rfl rfl ?_
 refine aX fun hund=>?_
 obtain⟨vo0,hr,_⟩:=id hB
 have lr:=hund _ _ hr
 repeat first|apply ai;rfl|refine cd (gA (F.un _ rfl) rfl) rfl rfl rfl ?_
 refine bn rfl rfl rfl rfl (fun h1=>?_) (fun h1=>?_)
 ·have hv:ofR l=none:=by unfold ofR;rw [JH (by omega)]
  repeat first|apply ai;rfl|apply aG;rfl;(focus((repeat(exact ae));done));rfl
  ((apply bm Tryz.func36 (congrArg Array.toList Tryz.results36));(focus(repeat(first|exact Kb|apply Kd rfl|apply Kc rfl (Ke (F.ag _ rfl) (by repeat(exact ae)) (aq _ 0 rfl rfl))))))
  rw [hv,show x7 r o C l=oh dC dC 0 0 from JH (by omega)]
  exact⟨rfl,by dsimp only;omega,fun m hm=>(aa _ _ (by omega)).trans (aa _ _ (by omega))⟩
 ·have h20:20≤l.length:=by omega
  have hB1: ∀ H':au,H'.at' r=H.at' r→BlkAt H' r o l:=fun H' h=>hB.frame h
  have hk16:((l.drop 16).take 2).length=2:=by rw [JK,JN];omega
  have hklt:=mw ((l.drop 16).take 2)
  rw [hk16] at hklt
  repeat apply ai;rfl
  (apply xY (lw:=16) (hg:=18);rfl;rfl;rfl;exact(F.un _ rfl);exact(F.sz _ rfl);exact(ir rfl rfl);exact(ir rfl rfl);(focus(omega));(focus(omega));exact(JG (by omega)))
  refine aI rfl rfl rfl (by kernel_rfl) (J9 (nq (s:= .sl r (o+16) (18-16) (C-16)) (bs:=(l.drop 16).take 2) (by have:=(ES (hB1 _ (aa _ _ (by omega):(H.set nx (fw (eF dC dC 0 0))).at' r=H.at' r)) (i:=16) (n:=2) (by omega)).bs (C:=C-16);rwa [hk16] at this) (by omega)) ?_)
  rintro _ rfl
  dsimp only
  have hof:ofR l=(if l.length<20+beN ((l.drop 16).take 2) then none else if iT (ny l)=true∧beN ((l.drop (18+beN ((l.drop 16).take 2))).take 2)=(l.drop (20+beN ((l.drop 16).take 2))).length then some (ny l) else none):=by unfold ofR;rw [JG (by omega)]
  have hver:ny l=((l.drop 18).take (beN ((l.drop 16).take 2)),l.drop (20+beN ((l.drop 16).take 2)),beN (l.take 8),beN ((l.drop 8).take 8)):=rfl
  have hvb:x7 r o C l=(if l.length<20+beN ((l.drop 16).take 2) then oh dC dC 0 0 else oh (.sl r (o+18) (18+beN ((l.drop 16).take 2)-18) (C-18)) (.sl r (if C=20+beN ((l.drop 16).take 2) then o else o+(20+beN ((l.drop 16).take 2))) (l.length-(20+beN ((l.drop 16).take 2))) (C-(20+beN ((l.drop 16).take 2)))) (beN (l.take 8)) (beN ((l.drop 8).take 8))):=JG (by omega)
  generalize beN ((l.drop 16).take 2)=kk at hklt hof hver hvb ⊢
  repeat first|apply ai;rfl|apply aL;rfl;omega;omega|refine cd (bR (F.un _ rfl) (F.un _ rfl) rfl (show _=((kk:Nat):Int)from Jd _ ⟨by omega,by omega⟩)) rfl rfl rfl ?_|refine cd (gA (F.un _ rfl) rfl) rfl rfl rfl ?_
  refine bn rfl rfl rfl rfl (fun h2=>?_) (fun h2=>?_)
  ·have hv:ofR l=none:=by rw [hof,JH (by omega)]
   repeat first|apply ai;rfl|apply aG;rfl;(focus((repeat(exact ae));done));rfl
   ((apply bm Tryz.func36 (congrArg Array.toList Tryz.results36));(focus(repeat(first|exact Kb|apply Kd rfl|apply Kc rfl (Ke (F.ag _ rfl) (by repeat(exact ae)) (aq _ 0 rfl rfl))))))
   rw [hv,hvb,JH (by omega)]
   exact⟨rfl,by dsimp only;omega,fun m hm=>(aa _ _ (by omega)).trans (aa _ _ (by omega))⟩
  ·have hv:=hof
   rw [JG (by omega)] at hv
   have h2n: ¬ l.length<20+kk:=by omega
   rw [JG h2n] at hvb
   clear hof
   have l8:(l.take 8).length=8:=by rw [JK];omega
   have l16:((l.drop 8).take 8).length=8:=by rw [JK,JN];omega
   have g8: ∀ (H':au) (nx':Nat),H'.at' r=H.at' r→Fnc Tryz.prog 78 [.sl r (o+0) (8-0) (C-0)] H' nx' (fun q=>q=(.sc (.int .u64 (beN (l.take 8):Int)),H',nx')):=fun H' nx' h=>nq (by
    have:=(ES (hB1 H' h) (i:=0) (n:=8) (by omega)).bs (C:=C-0)
    rwa [List.drop_zero,l8] at this) (by omega)
   have g16: ∀ (H':au) (nx':Nat),H'.at' r=H.at' r→Fnc Tryz.prog 78 [.sl r (o+8) (16-8) (C-8)] H' nx' (fun q=>q=(.sc (.int .u64 (beN ((l.drop 8).take 8):Int)),H',nx')):=fun H' nx' h=>nq (by
    have:=(ES (hB1 H' h) (i:=8) (n:=8) (by omega)).bs (C:=C-8)
    rwa [l16] at this) (by omega)
   have lk:((l.drop 18).take kk).length=kk:=by rw [JK,JN];omega
   have lv:(l.drop (20+kk)).length=l.length-(20+kk):=JN
   have hK: ∀ H':au,H'.at' r=H.at' r→BlkS H' (.sl r (o+18) (18+kk-18) (C-18)) r (ny l).1:=fun H' h=>by
    rw [hver]
    refine .inr ⟨o+18,C-18,?_,ES (hB1 H' h) (by omega)⟩
    rw [lk,Nat.add_sub_cancel_left]
   have hV: ∀ H':au,H'.at' r=H.at' r→BlkS H' (.sl r (if C=20+kk then o else o+(20+kk)) (l.length-(20+kk)) (C-(20+kk))) r (ny l).2.1:=fun H' h=>by
    rw [hver]
    refine .inr ⟨if C=20+kk then o else o+(20+kk),C-(20+kk),by rw [lv],?_⟩
    by_cases hc:C=20+kk
    ·have:l.drop (20+kk)= []:=List.drop_of_length_le (by omega)
     rw [this]
     exact BlkAt.none _ (h.trans hr) _
    ·rw [JG hc]
     exact((hB1 H' h).part (n:=20+kk) (by omega)).2
   repeat apply ai;rfl
   (apply gt;(focus(kernel_rfl));(focus(kernel_rfl)))
   refine dR 2 (Jh rfl) ?_
   repeat first|apply aS;rfl|apply bS;rfl;rfl;exact(fun _ h=>by cases h);exact(cR (l:=0) (h:=8) (F.un _ rfl) (F.sz _ rfl) rfl kj (ir rfl rfl) (by omega) (by omega) (JG (by omega)))
   refine aA ?_;refine dS rfl rfl rfl (by kernel_rfl) (g8 _ _ (by(repeat(refine ab (by omega) ?_));rfl)) ?_
   refine dR 2 (Jh rfl) ?_
   repeat first|apply aS;rfl|apply bS;rfl;rfl;exact(fun _ h=>by cases h);exact(cR (l:=8) (h:=16) (F.un _ rfl) (F.sz _ rfl) rfl (ir rfl rfl) (ir rfl rfl) (by omega) (by omega) (JG (by omega)))
   refine aA ?_;refine dS rfl rfl rfl (by kernel_rfl) (g16 _ _ (by(repeat(refine ab (by omega) ?_));rfl)) ?_
   refine iL ?_
   repeat first|apply aS;rfl|refine oZ (ef (F.zl _ rfl)) rfl rfl rfl ?_|refine bj (aw rfl rfl (.inl ⟨rfl,(Jd _ ⟨(by focus(omega)),(by focus(omega))⟩).symm⟩)) rfl rfl rfl ?_|refine pJ (cI (F.sz _ rfl) rfl rfl rfl (by repeat(exact ae)) (by rfl) (by exact Jh rfl) (by rfl)) rfl rfl ?_|apply bS;rfl;rfl;exact(fun _ h=>by cases h);exact(cR (l:=18) (h:=18+kk) (F.un _ rfl) (F.sz _ rfl) rfl (ir rfl rfl) (ir rfl (by omega)) (by omega) (by omega) (JG (by omega)))|apply bS;rfl;rfl;exact(fun _ h=>by cases h);exact(cR (l:=20+kk) (h:=l.length) (F.un _ rfl) (F.sz _ rfl) rfl (ir rfl (by omega)) kj (by omega) (by omega) rfl)
   refine aA ⟨by kernel_rfl,?_,?_⟩;(focus(repeat(first|exact Kk|refine⟨.inl rfl,?_⟩|refine⟨.inr (.inl (by(repeat(refine⟨(by first|exact mI rfl|exact aw rfl rfl (.inl ⟨rfl,(Jd _ ⟨by omega,by omega⟩).symm⟩)|exact cR (l:=0) (h:=8) (F.un _ rfl) (F.sz _ rfl) rfl kj (ir rfl rfl) (by omega) (by omega) (JG (by omega))|exact cR (l:=8) (h:=16) (F.un _ rfl) (F.sz _ rfl) rfl (ir rfl rfl) (ir rfl rfl) (by omega) (by omega) (JG (by omega))|exact cR (l:=18) (h:=18+kk) (F.un _ rfl) (F.sz _ rfl) rfl (ir rfl rfl) (ir rfl (by omega)) (by omega) (by omega) (JG (by omega))|exact cR (l:=20+kk) (h:=l.length) (F.un _ rfl) (F.sz _ rfl) rfl (ir rfl (by omega)) kj (by omega) (by omega) rfl),?_⟩));exact Kk)),?_⟩|refine⟨.inr (.inr (by(repeat(refine⟨(by exact eg rfl (by kernel_rfl) (by first|exact g8 _ _ (by(repeat(refine ab (by omega) ?_));rfl)|exact g16 _ _ (by(repeat(refine ab (by omega) ?_));rfl))),?_⟩));exact Kk)),?_⟩)))
   obtain⟨kS,hkS⟩: ∃ kS,kS=SV.sl r (o+18) (18+kk-18) (C-18):=⟨_,rfl⟩
   refine cW (R:=fun H7 n7=>n7=nx+1+1∧H7.at' (nx+1)=some (fw (eF (.sl r (o+18) (18+kk-18) (C-18)) (.sl r (if C=20+kk then o else o+(20+kk)) (l.length-(20+kk)) (C-(20+kk))) (beN (l.take 8)) (beN ((l.drop 8).take 8))))∧H7.at' nx=some (fw (eF dC dC 0 0))∧ ∀ m,m<nx→H7.at' m=H.at' m) ⟨rfl,by repeat(exact ae),by repeat(first|exact ae|refine ab (by omega) ?_),fun m hm=>by(repeat(refine ab (by omega) ?_));rfl⟩ ?_
   rintro H7 n7 ⟨rfl,b5,b2,bo⟩
   clear kS hkS g8 g16 l8 l16 hk16
   have br:H7.at' r=H.at' r:=bo r lr
   have hat: ∀ H':au,H'.at' r=H7.at' r→VerAt H' (oh (.sl r (o+18) (18+kk-18) (C-18)) (.sl r (if C=20+kk then o else o+(20+kk)) (l.length-(20+kk)) (C-(20+kk))) (beN (l.take 8)) (beN ((l.drop 8).take 8))) r (ny l):=fun H' h=>⟨_,_,by rw [hver],hK H' (h.trans br),hV H' (h.trans br)⟩
   have cM: ∀ (H':au) (nx':Nat),H'.at' r=H7.at' r→Fnc Tryz.prog 18 [oh (.sl r (o+18) (18+kk-18) (C-18)) (.sl r (if C=20+kk then o else o+(20+kk)) (l.length-(20+kk)) (C-(20+kk))) (beN (l.take 8)) (beN ((l.drop 8).take 8))] H' nx' (fun q=>q=(.sc (.bool (iT (ny l))),H',nx')):=fun H' nx' h=>zx (hat H' h).is
   have l2:((l.drop (18+kk)).take 2).length=2:=by rw [JK,JN];omega
   have g2: ∀ (H':au) (nx':Nat),H'.at' r=H7.at' r→Fnc Tryz.prog 78 [.sl r (o+(18+kk)) (20+kk-(18+kk)) (C-(18+kk))] H' nx' (fun q=>q=(.sc (.int .u64 (beN ((l.drop (18+kk)).take 2):Int)),H',nx')):=fun H' nx' h=>nq (by
    have:=(ES (hB1 H' (h.trans br)) (i:=18+kk) (n:=2) (by omega)).bs (C:=C-(18+kk))
    rw [show 20+kk-(18+kk)=2 by omega]
    rwa [l2] at this) (by omega)
   have hn2:=mw ((l.drop (18+kk)).take 2)
   rw [l2] at hn2
   generalize beN ((l.drop (18+kk)).take 2)=n2 at hn2 hv g2
   repeat apply ai;rfl
   cases hm:iT (ny l)with
   | false=>
     rw [hm] at cM
     have hno:ofR l=none:=by rw [hv,JG (fun h=>by rw [hm] at h;cases h.1)]
     (apply gt;(focus(kernel_rfl));(focus(kernel_rfl)))
     refine dR 2 (Jh rfl) ?_
     repeat apply dw;rfl;assumption;rfl
     refine aA ?_;(apply dS;rfl;rfl;rfl;(focus(kernel_rfl));exact(cM _ _ rfl))
     refine iL ?_
     repeat first|apply aS;rfl|apply cq;rfl;rfl|refine pJ (cI (F.sz _ rfl) rfl rfl rfl (by assumption) (by rfl) (by exact Jh rfl) (by rfl)) rfl rfl ?_
     refine aA ⟨by kernel_rfl,?_,?_⟩;(focus(repeat(first|exact Kk|refine⟨.inl rfl,?_⟩|refine⟨.inr (.inl (by(repeat(refine⟨(by first|exact mI rfl|exact ba (F.ag _ rfl) rfl (by repeat(first|assumption|refine ab (by omega) ?_)) (aq _ 0 rfl rfl)),?_⟩));exact Kk)),?_⟩|refine⟨.inr (.inr (by(repeat(refine⟨(by exact eg rfl (by kernel_rfl) (by(exact cM _ _ (by(repeat(refine ab (by omega) ?_));rfl)))),?_⟩));exact Kk)),?_⟩)))
     ((apply bm Tryz.func36 (congrArg Array.toList Tryz.results36));(focus(repeat(first|exact Kb|apply Kd rfl|apply Kc rfl (Ke (F.ag _ rfl) (by repeat(exact ae)) (aq _ 0 rfl rfl))))))
     rw [hno,hvb]
     exact⟨rfl,by dsimp only;omega,fun m hm=>by(repeat(refine ab (by omega) ?_));exact bo m hm⟩
   | true=>
     rw [hm] at cM
     (apply gt;(focus(kernel_rfl));(focus(kernel_rfl)))
     refine dR 2 (Jh rfl) ?_
     repeat apply dw;rfl;assumption;rfl
     refine aA ?_;(apply dS;rfl;rfl;rfl;(focus(kernel_rfl));exact(cM _ _ rfl))
     refine dR 7 (Jh rfl) ?_
     repeat first|apply aS;rfl|refine bj (aw rfl rfl (.inl ⟨rfl,(Jd _ ⟨(by focus(omega)),(by focus(omega))⟩).symm⟩)) rfl rfl rfl ?_|apply bS;rfl;rfl;exact(fun _ h=>by cases h);exact(cR (l:=18+kk) (h:=20+kk) (F.un _ rfl) (F.sz _ rfl) rfl (ir rfl (by omega)) (ir rfl (by omega)) (by omega) (by omega) (JG (by omega)))
     refine aA ?_;(apply dS;rfl;rfl;rfl;(focus(kernel_rfl));exact(g2 _ _ rfl))
     refine iL ?_
     repeat first|apply aS;rfl|apply dw;rfl;assumption;rfl|refine bj (bR (F.un _ rfl) (F.un _ rfl) rfl (show _=((n2:Nat):Int)from Jd _ ⟨by omega,by omega⟩)) rfl rfl rfl ?_|apply bS;rfl;rfl;exact(fun _ h=>by cases h);exact(gA (F.un _ rfl) rfl)
     refine ji rfl rfl rfl rfl (fun e=>?_) (fun e=>?_)
     ·have hyes:ofR l=some (ny l):=by rw [hv,JH ⟨hm,by omega⟩]
      repeat first|apply aS;rfl|refine pJ (cI (F.sz _ rfl) rfl rfl rfl (by assumption) (by rfl) (by exact Jh rfl) (by rfl)) rfl rfl ?_
      refine aA ⟨by kernel_rfl,?_,?_⟩;(focus(repeat(first|exact Kk|refine⟨.inl rfl,?_⟩|refine⟨.inr (.inl (by(repeat(refine⟨(by first|exact mI rfl|exact aw rfl rfl (.inl ⟨rfl,(Jd _ ⟨by omega,by omega⟩).symm⟩)|exact am (F.ag _ rfl) rfl (by repeat(first|assumption|refine ab (by omega) ?_)) (aB rfl)|exact ba (F.ag _ rfl) rfl (by repeat(first|assumption|refine ab (by omega) ?_)) (aq _ 0 rfl rfl)|exact cR (l:=18+kk) (h:=20+kk) (F.un _ rfl) (F.sz _ rfl) rfl (ir rfl (by omega)) (ir rfl (by omega)) (by omega) (by omega) (JG (by omega))|exact gA (F.un _ rfl) rfl|exact bR (F.un _ rfl) (F.un _ rfl) rfl (show _=((n2:Nat):Int)from Jd _ ⟨by omega,by omega⟩)|exact dg rfl rfl (.inl ⟨rfl,(JZ (by omega)).symm⟩)),?_⟩));exact Kk)),?_⟩|refine⟨.inr (.inr (by(repeat(refine⟨(by exact eg rfl (by kernel_rfl) (by first|exact cM _ _ (by(repeat(refine ab (by omega) ?_));rfl)|exact g2 _ _ (by(repeat(refine ab (by omega) ?_));rfl))),?_⟩));exact Kk)),?_⟩)))
      ((apply bm Tryz.func36 (congrArg Array.toList Tryz.results36));(focus(repeat(first|exact Kb|apply Kd rfl|apply Kc rfl (Ke (F.ag _ rfl) (by repeat(exact ae)) (aq _ 0 rfl rfl))))))
      rw [hyes,hvb]
      exact⟨rfl,by dsimp only;omega,fun m hm=>by(repeat(refine ab (by omega) ?_));exact bo m hm⟩
     ·have hno:ofR l=none:=by rw [hv,JG (fun h=>by have:=h.2;omega)]
      repeat first|apply aS;rfl|refine pJ (cI (F.sz _ rfl) rfl rfl rfl (by assumption) (by rfl) (by exact Jh rfl) (by rfl)) rfl rfl ?_
      refine aA ⟨by kernel_rfl,?_,?_⟩;(focus(repeat(first|exact Kk|refine⟨.inl rfl,?_⟩|refine⟨.inr (.inl (by(repeat(refine⟨(by first|exact mI rfl|exact aw rfl rfl (.inl ⟨rfl,(Jd _ ⟨by omega,by omega⟩).symm⟩)|exact am (F.ag _ rfl) rfl (by repeat(first|assumption|refine ab (by omega) ?_)) (aB rfl)|exact ba (F.ag _ rfl) rfl (by repeat(first|assumption|refine ab (by omega) ?_)) (aq _ 0 rfl rfl)|exact cR (l:=18+kk) (h:=20+kk) (F.un _ rfl) (F.sz _ rfl) rfl (ir rfl (by omega)) (ir rfl (by omega)) (by omega) (by omega) (JG (by omega))|exact gA (F.un _ rfl) rfl|exact bR (F.un _ rfl) (F.un _ rfl) rfl (show _=((n2:Nat):Int)from Jd _ ⟨by omega,by omega⟩)|exact dg rfl rfl (.inl ⟨rfl,(J0 (by omega)).symm⟩)),?_⟩));exact Kk)),?_⟩|refine⟨.inr (.inr (by(repeat(refine⟨(by exact eg rfl (by kernel_rfl) (by first|exact cM _ _ (by(repeat(refine ab (by omega) ?_));rfl)|exact g2 _ _ (by(repeat(refine ab (by omega) ?_));rfl))),?_⟩));exact Kk)),?_⟩)))
      ((apply bm Tryz.func36 (congrArg Array.toList Tryz.results36));(focus(repeat(first|exact Kb|apply Kd rfl|apply Kc rfl (Ke (F.ag _ rfl) (by repeat(exact ae)) (aq _ 0 rfl rfl))))))
      rw [hno,hvb]
      exact⟨rfl,by dsimp only;omega,fun m hm=>by(repeat(refine ab (by omega) ?_));exact bo m hm⟩
theorem B5(hi:i<12):(bareP p)[i]? =some 0:=by
 unfold bareP
 rw [Js (by rw [JT];exact hi),List.getElem?_replicate,JH hi]
theorem At(p:List UInt8)(hp:p.length=1024):bareP (bareP p)=bareP p:=nf (dT hp) fun i hi=>B5 hi
theorem yB(h:Okp p):cv (dL p)=1024-bE p (ac p)-18-4*ac p-(if aW p=ac p then 4 else 0):=by
 have g:=li h
 have hr:bg (dL p)=true:=(bi g.len).2 (g.ok h)
 unfold cv du
 rw [JH hr,g.begins,g.slots,g.empty]
theorem Ed{it:List UInt8}(hp:p.length=1024)(hr:bg p=true)(h1:1≤it.length)(h2:it.length≤1000):(fm p it).2=if it.length≤cv p∨it.length≤cv (dL p) then(aW p,0) else(0,5):=by
 have hok:=(bi hp).1 hr
 have g:=li hok
 have hr2:bg (dL p)=true:=(bi g.len).2 (g.ok hok)
 have hins: ∀ q:List UInt8,bg q=true→(iU q it).2=if it.length≤cv q then(aW q,0) else(0,5):=fun q hq=>by
  unfold iU
  rw [JG (by rw [hq];decide),JG (fun h=>h ⟨h1,h2⟩)]
  have:cv q=du q:=by unfold cv;rw [JH hq]
  rw [this]
  by_cases h:it.length≤du q
  ·rw [JG (by omega),JH h]
  ·rw [JH (by omega),JG h]
 unfold fm ff
 by_cases h:it.length≤cv p
 ·rw [JG (by omega),hins p hr,JH h,JH (.inl h)]
 ·rw [JH (by omega)]
  unfold gE
  rw [JH hr]
  dsimp only
  rw [hins _ hr2,g.empty]
  by_cases h3:it.length≤cv (dL p)
  ·rw [JH h3,JH (.inr h3)]
  ·rw [JG h3,JG (by omega)]
abbrev hpO(hm:List UInt8):VO:=ar 33 ((byV hm).map .sc)
theorem gD(hl:hm.length=98304)(hn:n<96):(az hm n).length=1024:=by
 unfold az
 rw [JK,JN]
 omega
theorem BG(hl:hm.length=98304)(hn:n<96):(hpO hm).cellsFrom (0+n*1024) 1024=some (pgS (az hm n)):=by
 refine aq _ _ ?_ (by rw [be (gD hl hn)])
 unfold az
 rw [JI,Nat.mul_comm]
 simp [List.map_take,List.map_drop]
def sg(p:List UInt8):List UInt8×Bool:=if(aU (bareP p)).2=0 then((aU (bareP p)).1,true) else(bareP p,false)
theorem se(hp:p.length=1024):(sg p).1.length=1024:=by
 unfold sg
 split
 ·rename_i h
  exact(cN (p:=bareP p) (q:=(aU (bareP p)).1) (Prod.ext rfl h) (dT hp)).1
 ·exact dT hp
abbrev Bg(r:List UInt8×Bool):SV:= .tup [.agg (pgS r.1),.sc (.bool r.2)]
theorem kP_at(hp:p.length=1024):kP p=(p[12]'(by omega)).toNat:=by
 unfold kP
 rw [Jq,Jf (by omega)]
 rfl
theorem lW{hb:Nat}(hH:H.at' hb=some (hpO hm))(hl:hm.length=98304)(hn:n<96):Fnc Tryz.prog 34 [.ptr hb 0,.sc (.int .i64 (n:Int))] H nx (fun q=>q=(Bg (sg (az hm n)),H,nx)):=by
 refine Fnc.bv (Free.two (Free.agg _) (Free.sc _)) ?_
 have hpl:=gD hl hn
 have hbl:=dT hpl
 have hbb:=At _ hpl
 refine Ka Tryz.func34 rfl rfl ?_
 refine aX fun hund=>?_
 have lH:=hund _ _ hH
 have hv0:sg (az hm n)=if(aU (bareP (az hm n))).2=0 then((aU (bareP (az hm n))).1,true) else(bareP (az hm n),false):=rfl
 repeat first|refine a9 rfl rfl ci ?_|apply ai;rfl|apply gr (q:=n);rfl;rfl;rfl;rfl;exact(F.un _ rfl);exact(F.sz _ rfl);(focus(omega));(focus(omega))
 refine eU rfl rfl rfl (F.ag _ rfl) (by(repeat(refine ab (by omega) ?_));exact hH) (BG hl hn) ?_
 have hbs:=fun(H:au) nx=>HT (H:=H) (nx:=nx) hpl
 rw [hv0]
 clear hv0
 generalize bareP (az hm n)=p at hbl hbb hbs ⊢
 repeat first|apply bA hbl ah;rfl;(focus((repeat(exact ae));done))|refine a9 rfl rfl ci ?_|apply ai;rfl|apply aG;rfl;(focus((repeat(first|exact ae|refine ab (by omega) ?_));done));rfl|apply bY;rfl;kernel_rfl;exact hbs _ _|apply bu hbl;rfl;(focus((repeat(first|exact ae|refine ab (by omega) ?_));done))
 cases hz:decide (p=zeroP)with
 | true=>
   have hrd:aU p=(fE 4,0):=by unfold aU;rw [JH (by unfold ia;rw [hbb];exact hz)]
   have hil:(fE 4).length=1024:=fR 4
   have hi:=fun(H:au) nx=>Eg (H:=H) (nx:=nx) 4
   rw [hrd,JH rfl]
   generalize fE 4=y at hil hi ⊢
   refine cd (qD hbl ah rfl rfl) rfl rfl rfl ?_
   rw [hz]
   repeat first|apply bA hil ah;rfl;(focus((repeat(first|exact ae|refine ab (by omega) ?_));done))|apply ai;rfl|apply bY;rfl;kernel_rfl;exact hi _ _
   ((apply bm Tryz.func34 (congrArg Array.toList Tryz.results34));(focus((apply Kc rfl (Ke (F.ag _ rfl) (by repeat(exact ae)) (bk hil)));(repeat(first|exact Kb|apply Kd rfl)))))
   exact⟨rfl,by dsimp only;omega,fun m hm=>by(repeat(refine ab (by omega) ?_));rfl⟩
 | false=>
   have hun: ¬ ia p=true:=by unfold ia;rw [hbb,hz];decide
   refine cd (qD hbl ah rfl rfl) rfl rfl rfl ?_
   rw [hz]
   repeat first|apply bu hbl;rfl;(focus((repeat(first|exact ae|refine ab (by omega) ?_));done))|apply ai;rfl
   refine aI rfl rfl rfl (by kernel_rfl) (J9 (pW hbl) ?_)
   rintro⟨_,H2,n2⟩ ⟨g1,g2,(⟨hr,rfl⟩|⟨hr,r,rfl,g3,g4,g5⟩)⟩
   ·dsimp only at g1 g2 ⊢
    have hrd:aU p=(zeroP,13):=by unfold aU;rw [JG hun,JH (.inl hr)]
    rw [hrd,JG (by decide)]
    have k1:H2.at' nx=some (pgO zeroP):=(g2 _ (by omega)).trans (by repeat(first|exact ae|refine ab (by omega) ?_))
    have k2:H2.at' (nx+1)=some (pgO p):=(g2 _ (by omega)).trans (by repeat(first|exact ae|refine ab (by omega) ?_))
    have ko: ∀ m,m<nx→H2.at' m=H.at' m:=fun m hm=>(g2 m (by omega)).trans (by(repeat(refine ab (by omega) ?_));rfl)
    clear g2
    repeat first|apply bu hbl;rfl;assumption|apply bA hbl ah;rfl;assumption|apply ai;rfl
    ((apply bm Tryz.func34 (congrArg Array.toList Tryz.results34));(focus((apply Kc rfl (Ke (F.ag _ rfl) (by repeat(exact ae)) (bk hbl)));(repeat(first|exact Kb|apply Kd rfl)))))
    exact⟨rfl,by dsimp only;omega,fun m hm=>by(repeat(refine ab (by omega) ?_));exact ko m hm⟩
   ·dsimp only at g1 g2 g3 g4 g5 ⊢
    have hok:=(bi hbl).1 hr
    have hh:=hok.head
    have ht:=hok.top
    have hll:=eO p (ac p)
    have k1:H2.at' nx=some (pgO zeroP):=(g2 _ (by omega)).trans (by repeat(first|exact ae|refine ab (by omega) ?_))
    have k2:H2.at' (nx+1)=some (pgO p):=(g2 _ (by omega)).trans (by repeat(first|exact ae|refine ab (by omega) ?_))
    have ko: ∀ m,m<nx→H2.at' m=H.at' m:=fun m hm=>(g2 m (by omega)).trans (by(repeat(refine ab (by omega) ?_));rfl)
    clear g2
    have hk:=kP_at hbl
    have hc12:(pgO p).cell (0+12*1)=some (.sc (.int .u8 ((p[12]'(by omega)).toNat:Int))):=nR (p:=p) (i:=12) (by omega)
    have hrd:aU p=if kP p≠4 then(zeroP,13) else if xw p=true then(zeroP,13) else(p,0):=by
     unfold aU
     rw [JG hun]
     by_cases h4:kP p=4
     ·rw [JG (fun h=>by rcases h with h|h;rw [hr] at h;cases h;exact h h4),JG (show ¬ (kP p≠4)from fun h=>h h4)]
     ·rw [JH (.inr h4),JH h4]
    rw [← hk] at hc12
    repeat first|apply ai;rfl|apply gr (q:=12);rfl;rfl;rfl;rfl;exact(F.un _ rfl);exact(F.sz _ rfl);(focus(omega));(focus(omega))|refine cd (am (F.ag _ rfl) rfl k2 hc12) rfl rfl rfl ?_
    by_cases h4:kP p=4
    ·rw [JG (show ¬ (kP p≠4)from fun h=>h h4)] at hrd
     repeat first|apply ai;rfl|apply dM;rfl;omega
     refine bC (α:=Nat) (fun j=> [(4,.ptr nx 0),(6,.ptr (nx+1) 0),(8,.slu r 0 (eH p (ac p)).length),(10,.sc (.int .i64 (j:Int)))])
      (fun j H3 n3=>j≤ac p∧(∀ i,i<j→ak p i≠0→(ofV (aV p i)).isSome=true)∧r<n3∧H3.at' nx=some (pgO zeroP)∧H3.at' (nx+1)=some (pgO p)∧H3.at' r=some (slO (eH p (ac p)))∧ ∀ m,m<nx→H3.at' m=H.at' m) (fun j=>ac p-j) 0
      ⟨Jw _,fun i hi=>absurd hi (Nat.not_lt_zero _),g4,k1,k2,g5,ko⟩ (Kg (Kj rfl)) ?_
     clear k1 k2 ko g5
     rintro j H3 n3 ⟨j1,j2,j3,j4,j5,j6,j7⟩ ih
     repeat apply ai;rfl
     refine bn rfl rfl rfl rfl (fun h6=>?_) (fun h6=>?_)
     ·have hj:j<ac p:=by omega
      have hcS:=iz p hj
      have hcF:=jC p hj
      have hg:ak p j<65536:=cJ p _
      repeat first|refine dq (q:=j) rfl rfl rfl rfl (F.un _ rfl) (F.sz _ rfl) (by assumption) (by omega) (by(omega)) (Jv _) ?_|refine cd (am (F.ag _ rfl) rfl j6 hcS) rfl rfl rfl ?_|apply ai;rfl
      by_cases hs:ak p j=0
      ·repeat first|apply lx;rfl;omega|apply ai;rfl|apply aL;rfl;omega;omega
       exact ih _ _ _ (j+1) ⟨hj,fun i h1 h2=>(by
        rcases JJ i j with h3|h3
        ·exact j2 i h3 h2
        ·obtain rfl:i=j:=by omega
         exact absurd hs h2),j3,j4,j5,j6,j7⟩ (by omega) (Kg (Kj rfl))
      ·have hsl:=cQ hr hj hs
       have hil:=dv hbl (j:=j) hsl.2.2.2
       have hba: ∀ H:au,H.at' (nx+1)=some (pgO p)→BlkAt H (nx+1) (ay p j) (aV p j):=fun H h=>⟨_,h,by
        rw [hil]
        refine aq _ _ ?_ (by simp only [JL];omega)
        unfold aV
        simp [List.map_take,List.map_drop]⟩
       have hof: ∀ (H:au) nx',H.at' (nx+1)=some (pgO p)→Fnc Tryz.prog 36 [.sl (nx+1) (ay p j) (ak p j) (1024-ay p j)] H nx' (fun q=>q=(.tup [x7 (nx+1) (ay p j) (1024-ay p j) (aV p j),.sc (.bool (ofV (aV p j)).isSome)],H,nx')):=fun H nx' h=>by
        have:=Hi (H:=H) (nx:=nx') (r:=nx+1) (o:=ay p j) (C:=1024-ay p j) (l:=aV p j) (hba H h) (by omega) (by omega)
        rwa [hil,←of_eq] at this
       obtain⟨vk,vw,vx,vy,hve,hv1,hv2⟩:=x5 (nx+1) (ay p j) (1024-ay p j) (aV p j)
       rw [hve] at hof
       have hone:bp (eF vk vw vx vy)=true:=by simp only [bp,hv1,hv2];rfl
       repeat first|apply px;rfl;omega|apply ai;rfl
       cases hb:(ofV (aV p j)).isSome with
       | true=>
         rw [hb] at hof
         (apply gt;(focus(kernel_rfl));(focus(kernel_rfl)))
         refine dR 17 (Jh rfl) ?_
         repeat first|refine aH (q:=j) rfl rfl rfl rfl (F.un _ rfl) (F.sz _ rfl) (by assumption) (by omega) (by(omega)) (Jv _) ?_|refine bj (am (F.ag _ rfl) rfl j6 hcF) rfl rfl rfl ?_|refine bj (am (F.ag _ rfl) rfl j6 hcS) rfl rfl rfl ?_|apply bS;rfl;rfl;exact(fun _ h=>by cases h);exact(fW (l:=ay p j) (h:=ay p j+ak p j) (F.un _ rfl) (F.sz _ rfl) rfl rfl rfl (by omega) (by omega) (by omega) (show ay p j+ak p j-ay p j=ak p j by omega) rfl (JI _))|apply aS;rfl|refine bj (aw rfl rfl (.inl ⟨rfl,(Jd _ ⟨(by focus(omega)),(by focus(omega))⟩).symm⟩)) rfl rfl rfl ?_
         refine aA ?_;(apply dS;rfl;rfl;rfl;(focus(kernel_rfl));exact(hof _ _ j5))
         refine iL ?_
         repeat first|refine bX rfl rfl rfl (F.sz _ rfl) (by repeat(first|assumption|exact ae)) rfl (by exact Jh rfl) hone rfl ?_|apply aS;rfl|refine oZ (ef (F.zl _ rfl)) rfl rfl rfl ?_
         refine aA ⟨by kernel_rfl,?_,?_⟩;(focus(repeat(first|exact Kk|refine⟨.inl rfl,?_⟩|refine⟨.inr (.inl (by(repeat(refine⟨(by first|exact mI rfl|exact aw rfl rfl (.inl ⟨rfl,(Jd _ ⟨by omega,by omega⟩).symm⟩)|exact am (F.ag _ rfl) rfl (by(repeat(refine ab (by omega) ?_));exact j6) hcF|exact am (F.ag _ rfl) rfl (by(repeat(refine ab (by omega) ?_));exact j6) hcS|exact aQ (F.un _ rfl) (F.sz _ rfl) rfl rfl (by(repeat(refine ab (by omega) ?_));exact j6) rfl (by omega) (Jv _)|exact fW (l:=ay p j) (h:=ay p j+ak p j) (F.un _ rfl) (F.sz _ rfl) rfl rfl rfl (by omega) (by omega) (by omega) (show ay p j+ak p j-ay p j=ak p j by omega) rfl (JI _)),?_⟩));exact Kk)),?_⟩|refine⟨.inr (.inr (by(repeat(refine⟨(by exact eg rfl (by kernel_rfl) (by exact hof _ _ (by(repeat(refine ab (by omega) ?_));exact j5))),?_⟩));exact Kk)),?_⟩)))
         repeat first|apply ai;rfl|apply aL;rfl;omega;omega
         exact ih _ _ _ (j+1) ⟨hj,fun i h1 h2=>(by
          rcases JJ i j with h3|h3
          ·exact j2 i h3 h2
          ·obtain rfl:i=j:=by omega
           exact hb),by first|omega|(dsimp only;omega),by repeat(first|assumption|refine ab (by omega) ?_),by repeat(first|assumption|refine ab (by omega) ?_),by repeat(first|assumption|refine ab (by omega) ?_),fun m hm=>by(repeat(refine ab (by omega) ?_));exact j7 m hm⟩ (by omega) (Kg (Kj rfl))
       | false=>
         rw [hb] at hof
         have hbad:xw p=true:=List.any_eq_true.2 ⟨j,J2.2 hj,by rw [JZ hs];cases h9:ofV (aV p j)with|none=>rfl|some v=>rw [h9] at hb;cases hb⟩
         rw [JH hbad] at hrd
         rw [hrd,JG (by decide)]
         (apply gt;(focus(kernel_rfl));(focus(kernel_rfl)))
         refine dR 17 (Jh rfl) ?_
         repeat first|refine aH (q:=j) rfl rfl rfl rfl (F.un _ rfl) (F.sz _ rfl) (by assumption) (by omega) (by(omega)) (Jv _) ?_|refine bj (am (F.ag _ rfl) rfl j6 hcF) rfl rfl rfl ?_|refine bj (am (F.ag _ rfl) rfl j6 hcS) rfl rfl rfl ?_|apply bS;rfl;rfl;exact(fun _ h=>by cases h);exact(fW (l:=ay p j) (h:=ay p j+ak p j) (F.un _ rfl) (F.sz _ rfl) rfl rfl rfl (by omega) (by omega) (by omega) (show ay p j+ak p j-ay p j=ak p j by omega) rfl (JI _))|apply aS;rfl|refine bj (aw rfl rfl (.inl ⟨rfl,(Jd _ ⟨(by focus(omega)),(by focus(omega))⟩).symm⟩)) rfl rfl rfl ?_
         refine aA ?_;(apply dS;rfl;rfl;rfl;(focus(kernel_rfl));exact(hof _ _ j5))
         refine iL ?_
         repeat first|refine bX rfl rfl rfl (F.sz _ rfl) (by repeat(first|assumption|exact ae)) rfl (by exact Jh rfl) hone rfl ?_|apply aS;rfl|refine oZ (ef (F.zl _ rfl)) rfl rfl rfl ?_
         refine aA ⟨by kernel_rfl,?_,?_⟩;(focus(repeat(first|exact Kk|refine⟨.inl rfl,?_⟩|refine⟨.inr (.inl (by(repeat(refine⟨(by first|exact mI rfl|exact aw rfl rfl (.inl ⟨rfl,(Jd _ ⟨by omega,by omega⟩).symm⟩)|exact am (F.ag _ rfl) rfl (by(repeat(refine ab (by omega) ?_));exact j6) hcF|exact am (F.ag _ rfl) rfl (by(repeat(refine ab (by omega) ?_));exact j6) hcS|exact aQ (F.un _ rfl) (F.sz _ rfl) rfl rfl (by(repeat(refine ab (by omega) ?_));exact j6) rfl (by omega) (Jv _)|exact fW (l:=ay p j) (h:=ay p j+ak p j) (F.un _ rfl) (F.sz _ rfl) rfl rfl rfl (by omega) (by omega) (by omega) (show ay p j+ak p j-ay p j=ak p j by omega) rfl (JI _)),?_⟩));exact Kk)),?_⟩|refine⟨.inr (.inr (by(repeat(refine⟨(by exact eg rfl (by kernel_rfl) (by exact hof _ _ (by(repeat(refine ab (by omega) ?_));exact j5))),?_⟩));exact Kk)),?_⟩)))
         repeat first|apply bu hbl;rfl;(focus((repeat(first|assumption|refine ab (by omega) ?_));done))|apply bA hbl ah;rfl;(focus((repeat(first|assumption|refine ab (by omega) ?_));done))|apply ai;rfl
         ((apply bm Tryz.func34 (congrArg Array.toList Tryz.results34));(focus((apply Kc rfl (Ke (F.ag _ rfl) (by repeat(exact ae)) (bk hbl)));(repeat(first|exact Kb|apply Kd rfl)))))
         exact⟨rfl,by dsimp only;omega,fun m hm=>by(repeat(refine ab (by omega) ?_));exact j7 m hm⟩
     ·have hj:j=ac p:=by omega
      have hbad: ¬ xw p=true:=fun h=>by
       obtain⟨i,hi,h2⟩:=List.any_eq_true.1 h
       rw [Ju] at h2
       have h3:=j2 i (by have:=J2.1 hi;omega) (JS h2.1)
       cases h9:ofV (aV p i)with
       | none=>rw [h9] at h3;cases h3
       | some v=>rw [h9] at h2;cases h2.2
      rw [JG hbad] at hrd
      rw [hrd,JH rfl]
      repeat first|apply bu hbl;rfl;assumption|apply bA hbl ah;rfl;assumption|apply ai;rfl
      ((apply bm Tryz.func34 (congrArg Array.toList Tryz.results34));(focus((apply Kc rfl (Ke (F.ag _ rfl) (by repeat(exact ae)) (bk hbl)));(repeat(first|exact Kb|apply Kd rfl)))))
      exact⟨rfl,by dsimp only;omega,fun m hm=>by(repeat(refine ab (by omega) ?_));exact j7 m hm⟩
    ·rw [JH h4] at hrd
     rw [hrd,JG (by decide)]
     repeat first|apply ai;rfl|apply iv;rfl;omega|apply bu hbl;rfl;assumption|apply bA hbl ah;rfl;assumption
     ((apply bm Tryz.func34 (congrArg Array.toList Tryz.results34));(focus((apply Kc rfl (Ke (F.ag _ rfl) (by repeat(exact ae)) (bk hbl)));(repeat(first|exact Kb|apply Kd rfl)))))
     exact⟨rfl,by dsimp only;omega,fun m hm=>by(repeat(refine ab (by omega) ?_));exact ko m hm⟩
def dfH(hm:List UInt8)(n:Nat):List UInt8:=bareP (az hm (n-32))
theorem Ey(hl:hm.length=98304)(h1:32≤n)(h2:n<128):(dfH hm n).length=1024:=dT (gD hl (by omega))
theorem vX(hl:hm.length=98304)(hn:n<96)(hx:x.length=1024):((byV hm).map SV.sc).take (0+n*1024) ++ pgS x ++ ((byV hm).map SV.sc).drop (0+n*1024+1024)=(byV (f8 hm n x)).map SV.sc:=by
 unfold f8 bf
 rw [hx,JI,Nat.mul_comm n]
 show _=(byV (hm.take (1024*n) ++ x ++ hm.drop (1024*n+1024))).map SV.sc
 rw [ki,ki,JA,JA]
 simp only [byV,List.map_take,List.map_drop]
theorem uV(hl:hm.length=98304)(hn:n<96)(hx:x.length=1024):(f8 hm n x).length=98304:=by
 unfold f8
 rw [bN (by omega),hl]
def G7(hm:List UInt8):Option (Nat×List UInt8)→List UInt8
 | none=>hm
 | some (n,x)=>f8 hm (n-32) x
theorem zO{it:List UInt8}(hr:bg (ff p it)=true)(h1:1≤it.length)(h2:it.length≤1000):fm p it=if it.length≤cv (ff p it) then(mQ (ff p it) it,aW (ff p it),0) else(zeroP,0,5):=by
 have hre:cv (ff p it)=du (ff p it):=by
  show(if bg (ff p it)=true then du (ff p it) else 0)=_
  rw [JH hr]
 unfold fm iU
 rw [JG (by rw [hr];decide),JG (fun h=>h ⟨h1,h2⟩),hre]
 by_cases h:it.length≤du (ff p it)
 ·rw [JG (by omega),JH h]
 ·rw [JH (by omega),JG h]
theorem Ef{hb:Nat}{s:SV}{v:gf}(hH:H.at' hb=some (hpO hm))(hl:hm.length=98304)(hv:VerIs H s v)(hmay:iT v=true):Fnc Tryz.prog 19 [.ptr hb 0,s] H nx
 (fun q=>q.1 = .tup [.agg [.sc (.int .i64 ((ju (dfH hm) v false).1.1:Int)),.sc (.int .i64 ((ju (dfH hm) v false).1.2.1:Int))],.sc (.int .i64 ((ju (dfH hm) v false).1.2.2:Int))]
   ∧ q.2.1.at' hb=some (hpO (G7 hm (ju (dfH hm) v false).2))∧nx≤q.2.2∧ ∀ m,m<nx→m≠hb→q.2.1.at' m=H.at' m):=by
 have hv0:=hv
 obtain⟨k,w,rfl,hk,hw⟩:=hv
 have hmd:=JS hmay
 have hbl:=er v
 have hM:ju (dfH hm) v false=if(cf (dfH hm) (aO v) 96 32).1≠0 then((0,0,(cf (dfH hm) (aO v) 96 32).1),none)
  else(((cf (dfH hm) (aO v) 96 32).2.1,(cf (dfH hm) (aO v) 96 32).2.2.1,0),some ((cf (dfH hm) (aO v) 96 32).2.1,(cf (dfH hm) (aO v) 96 32).2.2.2)):=by
  unfold ju
  rw [JG (by rw [hmay];decide)]
  split
  ·rfl
  ·rw [JG (by decide)]
 rw [hM]
 clear hM
 refine Ka Tryz.func19 rfl rfl ?_
 refine aX fun hund=>?_
 have lH:=hund _ _ hH
 have hone:bp (eF k w v.2.2.1 v.2.2.2)=true:=by simp only [bp,cX hk,cX hw];rfl
 repeat first|apply ai;rfl|apply aG;rfl;(focus((repeat(first|exact ae|refine ab (by omega) ?_));done));rfl
 refine aI rfl rfl rfl (by kernel_rfl) (J9 (wt (v:=v) (hv0.frame fun b vo hb'=>(aa _ _ (by have:=hund b vo hb';omega)).trans ((aa _ _ (by have:=hund b vo hb';omega)).trans hb')) hmay) ?_)
 rintro⟨_,H2,n2⟩ ⟨rb,rfl,b1,b2,b3,b4,b5⟩
 dsimp only at b1 b2 b3 b4 b5 ⊢
 have c1:H2.at' (nx+1)=some (eE 0 0):=(b5 _ (by omega)).trans (by repeat(exact ae))
 have c2:H2.at' hb=some (hpO hm):=(b5 _ (by omega)).trans (by(repeat(refine ab (by omega) ?_));exact hH)
 have co: ∀ m,m<nx→H2.at' m=H.at' m:=fun m hm=>(b5 _ (by omega)).trans (by(repeat(refine ab (by omega) ?_));rfl)
 clear b5
 generalize aO v=it at hbl b1 ⊢
 have hd0:it.length≤180:=by omega
 have hd1:20≤it.length:=by omega
 clear hbl hmd hone
 repeat apply ai;rfl
 refine bC (α:=Nat) (fun i=> [(0,.ptr hb 0),(4,.ptr (nx+1) 0),(6,.slu rb 0 it.length),(7,.sc (.int .i64 (i:Int)))])
  (fun i H1 n1=>i≤96∧cf (dfH hm) it (96-i) (32+i)=cf (dfH hm) it 96 32∧n2≤n1∧H1.at' (nx+1)=some (eE 0 0)∧H1.at' hb=some (hpO hm)∧H1.at' rb=some (dat false it.length 1 5 (byV it))∧ ∀ m,m<nx→H1.at' m=H.at' m) (fun i=>96-i) 0
  ⟨Jw _,rfl,Jv _,c1,c2,b1,co⟩ (Kg (Kj rfl)) ?_
 clear c1 c2 b1 co
 rintro i H1 n1 ⟨i1,i2,i3,i4,i5,i6,i7⟩ ih
 repeat apply ai;rfl
 refine bn rfl rfl rfl rfl (fun h5=>?_) (fun h5=>?_)
 ·have hi:i<96:=by omega
  have hgo:cf (dfH hm) it (96-i) (32+i)=if(aU (dfH hm (32+i))).2≠0 then(13,0,0,zeroP) else if(fm (aU (dfH hm (32+i))).1 it).2.2≠0 then cf (dfH hm) it (96-(i+1)) (32+(i+1)) else(0,32+i,(fm (aU (dfH hm (32+i))).1 it).2.1,(fm (aU (dfH hm (32+i))).1 it).1):=by
   rw [show 96-i=(96-(i+1))+1 by omega]
   rfl
  have hdf:dfH hm (32+i)=bareP (az hm i):=by unfold dfH;rw [show 32+i-32=i by omega]
  have hpl:=gD hl hi
  have hrl:=se hpl
  have hv5:sg (az hm i)=if(aU (dfH hm (32+i))).2=0 then((aU (dfH hm (32+i))).1,true) else(bareP (az hm i),false):=by rw [hdf];rfl
  rw [i2] at hgo
  have hrs:=fun(H:au) nx (h:H.at' hb=some (hpO hm))=>lW (nx:=nx) h hl hi
  by_cases he:(aU (dfH hm (32+i))).2=0
  ·rw [JH he] at hv5
   rw [JG (fun g=>g he)] at hgo
   obtain⟨hql,hqr,_⟩:=cN (p:=dfH hm (32+i)) (q:=(aU (dfH hm (32+i))).1) (Prod.ext rfl he) (Ey hl (by omega) (by omega))
   rw [hv5] at hrs hrl
   clear hv5 hdf he
   generalize (aU (dfH hm (32+i))).1=q at hrl hrs hql hqr hgo
   dsimp only [Bg] at hrl hrs
   have hro:=fun(H:au) nx=>tW (H:=H) (nx:=nx) hql
   repeat first|apply bA hql ah;rfl;(focus((repeat(exact ae));done))|refine a9 rfl rfl ci ?_|apply ai;rfl|apply bY;rfl;kernel_rfl;exact hrs _ _ i5|apply bu hql;rfl;(focus((repeat(exact ae));done))|apply bY;rfl;kernel_rfl;exact hro _ _
   have hx:=zO (p:=q) (it:=it) (by
    unfold ff gE
    rw [JH hqr]
    split
    ·have g:=li ((bi hql).1 hqr)
     exact(bi g.len).2 (g.ok ((bi hql).1 hqr))
    ·exact hqr) (by omega) (by omega)
   have hxl:=ow (it:=it) hql
   have hroy:ff q it=if cv q<it.length then dL q else q:=by unfold ff gE;rw [JH hqr]
   have hpk:=fun(H:au) nx=>y6 (H:=H) (nx:=nx) hql hqr
   have hgk:=li ((bi hql).1 hqr)
   have hgr:bg (dL q)=true:=(bi hgk.len).2 (hgk.ok ((bi hql).1 hqr))
   have hkl:=hgk.len
   have hj: ∃ y:List UInt8,y=ff q it∧y.length=1024∧bg y=true:=⟨_,rfl,hxl,by
    rw [hroy]
    split
    ·exact hgr
    ·exact hqr⟩
   obtain⟨y,hy,hyl,hyr⟩:=hj
   rw [← hy] at hx hroy
   refine cW (R:=fun H3 n3=>n3=n1+1∧H3.at' n1=some (pgO q)∧H3.at' (nx+1)=some (eE 0 0)∧H3.at' hb=some (hpO hm)∧H3.at' rb=some (dat false it.length 1 5 (byV it))∧ ∀ m,m<nx→H3.at' m=H.at' m) ⟨rfl,by repeat(exact ae),by repeat(first|assumption|refine ab (by omega) ?_),by repeat(first|assumption|refine ab (by omega) ?_),by repeat(first|assumption|refine ab (by omega) ?_),fun m hm=>by(repeat(refine ab (by omega) ?_));exact i7 m hm⟩ ?_
   rintro H3 n3 ⟨rfl,d1,d2,d3,d4,d5⟩
   clear i4 i5 i6 i7
   have hro2:=fun(H:au) nx=>tW (H:=H) (nx:=nx) hyl
   by_cases hlt:cv q<it.length
   ·rw [JH hlt] at hroy
    rw [← hroy] at hpk
    repeat first|apply px;rfl;omega|apply bA hyl hql;rfl;assumption|apply bu hql;rfl;assumption|apply bY;rfl;kernel_rfl;exact hpk _ _|apply ai;rfl
    dsimp only
    clear hpk hgk hgr hkl hro hroy hrs
    (repeat(first|apply bu hyl;rfl;(focus((repeat(exact ae));done))|apply ai;rfl|apply bY;rfl;kernel_rfl;exact hro2 _ _));by_cases hrm:it.length≤cv y
    ·(rw [JH hrm] at hx;rw [hx,JG (fun h=>h rfl)] at hgo;have hre:cv y=du y:=(show(if bg y=true then du y else 0)=_ by rw [JH hyr]);have hlx:=(laid (it:=it) ((bi hyl).1 hyr) (by omega) (by omega) (by omega)).len;have hins:=fun(H:au) nx (h:H.at' rb=some (dat false it.length 1 5 (byV it)))=>zP (H:=H) (nx:=nx) (s:= .slu rb 0 it.length) hyl (jp (show H.at' rb=some (u8R false (byV it)) by rw [rS];exact h)) hyr (by omega) (by omega) (by omega);rw [hgo,JG (fun h=>h rfl)];dsimp only [G7];rw [show 32+i-32=i by omega];clear hgo hx i2;generalize mQ y it=x at hlx hins ⊢;generalize aW y=sl at hins ⊢;(repeat(first|apply lx;rfl;omega|apply bA hlx ah;rfl;(focus((repeat(exact ae));done))|refine a9 rfl rfl ci ?_|apply bu hyl;rfl;(focus((repeat(exact ae));done))|apply bY;rfl;kernel_rfl;exact hins _ _ (by repeat(first|assumption|refine ab (by omega) ?_))|apply ai;rfl));refine cW (R:=fun H5 n5=>n1+1<n5∧H5.at' (n1+1)=some (pgO x)∧H5.at' (nx+1)=some (eE 0 0)∧H5.at' hb=some (hpO hm)∧ ∀ m,m<nx→H5.at' m=H.at' m) ⟨by omega,by repeat(exact ae),by repeat(first|assumption|refine ab (by omega) ?_),by repeat(first|assumption|refine ab (by omega) ?_),fun m hm=>by(repeat(refine ab (by omega) ?_));exact d5 m hm⟩ ?_;rintro H5 n5 ⟨e0,e1,e2,e3,e4⟩;(apply bh;(focus(kernel_rfl));(focus(kernel_rfl)));(repeat(first|refine b8 rfl rfl rfl (F.ag _ rfl) e1 (be hlx) ?_|refine bX rfl rfl rfl (F.sz _ rfl) e3 (be hlx) (by rw [JL,JL,hl];omega) (iE _) (vX hl hi hlx) ?_|apply jX (q:=i);rfl;rfl;rfl;rfl;exact(F.un _ rfl);exact(F.sz _ rfl);(focus(omega));(focus(omega))|apply aS;rfl));refine aA ⟨by kernel_rfl,?_,?_⟩;(focus(repeat(first|exact Kk|apply jU;rfl|apply gi;rfl;kernel_rfl|refine fX 0 rfl (by kernel_rfl) (by(repeat(refine⟨(by first|exact ba (F.ag _ rfl) rfl (by repeat(first|assumption|refine ab (by omega) ?_)) (bk hlx)|exact ig (q:=i) rfl rfl (F.un _ rfl) (F.sz _ rfl) (by omega) (by omega)),?_⟩));exact Kk) ?_)));(repeat(first|apply ai;rfl|apply aG;rfl;(focus((repeat(first|assumption|refine ab (by omega) ?_));done));rfl|apply aL;rfl;omega;omega));((apply bm Tryz.func19 (congrArg Array.toList Tryz.results19));(focus(repeat(first|exact Kb|apply Kd rfl|apply Kc rfl (Ke (F.ag _ rfl) (by repeat(exact ae)) (aq _ 0 rfl rfl))))));exact⟨rfl,by repeat(first|exact ae|refine ab (by omega) ?_),by dsimp only;omega,fun m h1 h2=>by(repeat(refine ab (by omega) ?_));exact e4 m h1⟩)
    ·(rw [JG hrm] at hx;rw [hx,JH (by decide)] at hgo;(repeat(first|apply px;rfl;omega|apply ai;rfl|apply aL;rfl;omega;omega));exact ih _ _ _ (i+1) ⟨by omega,hgo.symm,by omega,by repeat(first|assumption|refine ab (by omega) ?_),by repeat(first|assumption|refine ab (by omega) ?_),by repeat(first|assumption|refine ab (by omega) ?_),fun m hm=>by(repeat(refine ab (by omega) ?_));exact d5 m hm⟩ (by omega) (Kg (Kj rfl)))
   ·rw [JG hlt] at hroy
    subst hroy
    clear hpk hgk hgr hkl hro hrs
    repeat first|apply lx;rfl;omega|apply ai;rfl
    (repeat(first|apply bu hyl;rfl;assumption|apply ai;rfl|apply bY;rfl;kernel_rfl;exact hro2 _ _));by_cases hrm:it.length≤cv y
    ·(rw [JH hrm] at hx;rw [hx,JG (fun h=>h rfl)] at hgo;have hre:cv y=du y:=(show(if bg y=true then du y else 0)=_ by rw [JH hyr]);have hlx:=(laid (it:=it) ((bi hyl).1 hyr) (by omega) (by omega) (by omega)).len;have hins:=fun(H:au) nx (h:H.at' rb=some (dat false it.length 1 5 (byV it)))=>zP (H:=H) (nx:=nx) (s:= .slu rb 0 it.length) hyl (jp (show H.at' rb=some (u8R false (byV it)) by rw [rS];exact h)) hyr (by omega) (by omega) (by omega);rw [hgo,JG (fun h=>h rfl)];dsimp only [G7];rw [show 32+i-32=i by omega];clear hgo hx i2;generalize mQ y it=x at hlx hins ⊢;generalize aW y=sl at hins ⊢;(repeat(first|apply lx;rfl;omega|apply bA hlx ah;rfl;(focus((repeat(exact ae));done))|refine a9 rfl rfl ci ?_|apply bu hyl;rfl;assumption|apply bY;rfl;kernel_rfl;exact hins _ _ (by assumption)|apply ai;rfl));refine cW (R:=fun H5 n5=>n1+1<n5∧H5.at' (n1+1)=some (pgO x)∧H5.at' (nx+1)=some (eE 0 0)∧H5.at' hb=some (hpO hm)∧ ∀ m,m<nx→H5.at' m=H.at' m) ⟨by omega,by repeat(exact ae),by repeat(first|assumption|refine ab (by omega) ?_),by repeat(first|assumption|refine ab (by omega) ?_),fun m hm=>by(repeat(refine ab (by omega) ?_));exact d5 m hm⟩ ?_;rintro H5 n5 ⟨e0,e1,e2,e3,e4⟩;(apply bh;(focus(kernel_rfl));(focus(kernel_rfl)));(repeat(first|refine b8 rfl rfl rfl (F.ag _ rfl) e1 (be hlx) ?_|refine bX rfl rfl rfl (F.sz _ rfl) e3 (be hlx) (by rw [JL,JL,hl];omega) (iE _) (vX hl hi hlx) ?_|apply jX (q:=i);rfl;rfl;rfl;rfl;exact(F.un _ rfl);exact(F.sz _ rfl);(focus(omega));(focus(omega))|apply aS;rfl));refine aA ⟨by kernel_rfl,?_,?_⟩;(focus(repeat(first|exact Kk|apply jU;rfl|apply gi;rfl;kernel_rfl|refine fX 0 rfl (by kernel_rfl) (by(repeat(refine⟨(by first|exact ba (F.ag _ rfl) rfl (by repeat(first|assumption|refine ab (by omega) ?_)) (bk hlx)|exact ig (q:=i) rfl rfl (F.un _ rfl) (F.sz _ rfl) (by omega) (by omega)),?_⟩));exact Kk) ?_)));(repeat(first|apply ai;rfl|apply aG;rfl;(focus((repeat(first|assumption|refine ab (by omega) ?_));done));rfl|apply aL;rfl;omega;omega));((apply bm Tryz.func19 (congrArg Array.toList Tryz.results19));(focus(repeat(first|exact Kb|apply Kd rfl|apply Kc rfl (Ke (F.ag _ rfl) (by repeat(exact ae)) (aq _ 0 rfl rfl))))));exact⟨rfl,by repeat(first|exact ae|refine ab (by omega) ?_),by dsimp only;omega,fun m h1 h2=>by(repeat(refine ab (by omega) ?_));exact e4 m h1⟩)
    ·(rw [JG hrm] at hx;rw [hx,JH (by decide)] at hgo;(repeat(first|apply px;rfl;omega|apply ai;rfl|apply aL;rfl;omega;omega));exact ih _ _ _ (i+1) ⟨by omega,hgo.symm,by omega,by assumption,by assumption,by assumption,fun m hm=>by exact d5 m hm⟩ (by omega) (Kg (Kj rfl)))
  ·rw [JG he] at hv5
   rw [JH he] at hgo
   rw [hv5] at hrs hrl
   rw [hgo,JH (by decide)]
   generalize bareP (az hm i)=q at hrl hrs
   dsimp only [Bg] at hrl hrs
   repeat first|apply bA hrl ah;rfl;(focus((repeat(exact ae));done))|refine a9 rfl rfl ci ?_|apply ai;rfl|apply aG;rfl;(focus((repeat(first|assumption|refine ab (by omega) ?_));done));rfl|apply bY;rfl;kernel_rfl;exact hrs _ _ i5
   ((apply bm Tryz.func19 (congrArg Array.toList Tryz.results19));(focus(repeat(first|exact Kb|apply Kd rfl|apply Kc rfl (Ke (F.ag _ rfl) (by repeat(exact ae)) (aq _ 0 rfl rfl))))))
   exact⟨rfl,by repeat(first|assumption|refine ab (by omega) ?_),by dsimp only;omega,fun m h1 h2=>by(repeat(refine ab (by omega) ?_));exact i7 m h1⟩
 ·have hi:i=96:=by omega
  subst hi
  rw [← i2,show cf (dfH hm) it (96-96) (32+96)=(5,0,0,zeroP)from rfl,JH (by decide)]
  repeat first|apply ai;rfl|apply aG;rfl;assumption;rfl
  ((apply bm Tryz.func19 (congrArg Array.toList Tryz.results19));(focus(repeat(first|exact Kb|apply Kd rfl|apply Kc rfl (Ke (F.ag _ rfl) (by repeat(exact ae)) (aq _ 0 rfl rfl))))))
  exact⟨rfl,by repeat(first|assumption|refine ab (by omega) ?_),by dsimp only;omega,fun m h1 h2=>by(repeat(refine ab (by omega) ?_));exact i7 m h1⟩
abbrev Du:Int×Int→List Value:=fun t=> [.int .i64 t.1,.int .i64 t.2]
theorem tS:RecOf Du 2:=⟨fun _=>rfl,fun a v hv=>by
 simp only [Du,JV,List.not_mem_nil,or_false] at hv
 rcases hv with rfl|rfl <;> rfl⟩
abbrev py(l:List (Int×Int)):VO:=dat false l.length 2 40 (l.flatMap Du)
theorem qr: ∀ (l:List (Int×Int)) (i:Nat) (hi:i<l.length),(l.flatMap Du)[i*2]? =some (.int .i64 (l[i]).1)∧(l.flatMap Du)[i*2+1]? =some (.int .i64 (l[i]).2)
 | [],i,hi=>absurd hi (Nat.not_lt_zero _)
 | t :: l,0,_=>⟨rfl,rfl⟩
 | t :: l,i+1,hi=>by
   have ih:=qr l i (by simpa using hi)
   have e: ∀ k,((t :: l).flatMap Du)[k+2]? =(l.flatMap Du)[k]? :=fun k=>by
    rw [List.flatMap_cons]
    rfl
   rw [show(i+1)*2=i*2+2 by omega,show i*2+2+1=(i*2+1)+2 by omega,e,e]
   exact ih
theorem yb(hi:i<l.length):(py l).cell (i*2)=some (.sc (.int .i64 (l[i]).1)):=ge (by omega) (qr l i hi).1
theorem x9(hi:i<l.length):(py l).cell (i*2+1)=some (.sc (.int .i64 (l[i]).2)):=ge (by omega) (qr l i hi).2
theorem uR(hi:i<l.length):(py l).cellsFrom (i*2) 2=some [.sc (.int .i64 (l[i]).1),.sc (.int .i64 (l[i]).2)]:=by
 simp only [VO.cellsFrom,yb hi,x9 hi]
theorem gC{mem:List UInt8}{a b:Nat}(ha:1024*a+1024≤mem.length)(hx:x.length=1024):az (f8 mem a x) b=if b=a then x else az mem b:=by
 unfold az f8
 by_cases h:b=a
 ·rw [JH h,h]
  have:=vn (p:=mem) (o:=1024*a) (l:=x) (by omega)
  rwa [hx] at this
 ·rw [JG h]
  exact jf fun i h1 h2=>mK (by omega) (by omega)
def jH(hm:List UInt8)(ps:List (Nat×List UInt8)):List UInt8:=ps.foldl (fun m x=>f8 m (x.1-32) x.2) hm
theorem w6(hm:List UInt8)(ps:List (Nat×List UInt8))(n:Nat)(x:List UInt8):jH hm (ps ++ [(n,x)])=f8 (jH hm ps) (n-32) x:=by
 unfold jH
 rw [List.foldl_append]
 rfl
theorem rW(l:List (Int×Int))(t:Int×Int)(n:Nat):aM (l ++ [t]) n=if t.1=(n:Int) then aM l n ++ [t.2.toNat] else aM l n:=by
 unfold aM
 rw [List.filter_append,JA,List.filter_cons,List.filter_nil]
 by_cases h:t.1=(n:Int)
 ·rw [JH h,JH (JZ h)]
  rfl
 ·rw [JG h,JG (by simpa using h),List.map_nil,JU]
theorem ou(a b:List (Int×Int))(n:Nat):aM (a ++ b) n=aM a n ++ aM b n:=by
 unfold aM
 rw [List.filter_append,JA]
theorem wV(hi:i<l.length)(h:(l[i]).1=(n:Int)):aM l n=aM (l.take i) n ++ (l[i]).2.toNat :: aM (l.drop (i+1)) n:=by
 have e:l=l.take i ++ ([l[i]] ++ l.drop (i+1)):=by
  rw [List.singleton_append,List.getElem_cons_drop,List.take_append_drop]
 have e2:aM l n=aM (l.take i ++ ([l[i]] ++ l.drop (i+1))) n:=congrArg (fun z=>aM z n) e
 rw [e2,ou,ou]
 congr 1
 unfold aM
 rw [List.filter_cons,List.filter_nil,JH (JZ h)]
 rfl
theorem uA(p:List UInt8)(S:List Nat)(k:Nat):dh p (S ++ [k])=lp (dh p S) k:=by
 unfold dh
 rw [List.foldl_append]
 rfl
theorem fN{A:Type}{l:List A}(hi:i<l.length):l.take (i+1)=l.take i ++ [l[i]]:=by
 rw [List.take_add_one,Jf hi]
 rfl
def ib(pf:Nat→List UInt8)(l:List (Int×Int))(k:Nat):List (Nat×List UInt8):=(((List.range k).map (32 + ·)).filter fun n=> !(aM l n).isEmpty).map fun n=>(n,rI (aU (pf n)).1 (aM l n))
theorem yI(pf:Nat→List UInt8)(l:List (Int×Int)):ib pf l 96=(dm l).map fun n=>(n,rI (aU (pf n)).1 (aM l n)):=rfl
theorem A8(h:aM l (32+k)= []):ib pf l (k+1)=ib pf l k:=by
 unfold ib
 rw [List.range_succ,JA,List.filter_append]
 simp [h]
theorem yH(h:aM l (32+k)≠ []):ib pf l (k+1)=ib pf l k ++ [(32+k,rI (aU (pf (32+k))).1 (aM l (32+k)))]:=by
 unfold ib
 have hb:(!(aM l (32+k)).isEmpty)=true:=by
  cases hs:aM l (32+k)with
  | nil=>exact absurd hs h
  | cons a b=>rfl
 rw [List.range_succ,JA,List.filter_append,JA]
 simp [hb]
theorem zw{x:Nat×List UInt8}(h:x∈ib pf l k):32≤x.1∧x.1<32+k∧aM l x.1≠ []∧x.2=rI (aU (pf x.1)).1 (aM l x.1):=by
 unfold ib at h
 obtain⟨n,hn,rfl⟩:=J3.1 h
 rw [List.mem_filter] at hn
 obtain⟨i,hi,rfl⟩:=J3.1 hn.1
 have:=J2.1 hi
 refine⟨by dsimp only;omega,by dsimp only;omega,fun e=>?_,rfl⟩
 have h2:=hn.2
 dsimp only at e
 rw [e] at h2
 cases h2
theorem yV(hl:hm.length=98304): ∀ {ps:List (Nat×List UInt8)},(∀ x∈ps,32≤x.1∧x.1<128∧x.2.length=1024)→(jH hm ps).length=98304:=by
 intro ps
 induction ps generalizing hm with
 | nil=>exact fun _=>hl
 | cons x ps ih=>
   intro h
   have hx:=h x JO
   exact ih (uV hl (by omega) hx.2.2) fun y hy=>h y (JP _ hy)
theorem uc(hl:hm.length=98304): ∀ {ps:List (Nat×List UInt8)},(∀ x∈ps,32≤x.1∧x.1<128∧x.2.length=1024∧x.1≠32+n)→az (jH hm ps) n=az hm n:=by
 intro ps
 induction ps generalizing hm with
 | nil=>exact fun _=>rfl
 | cons x ps ih=>
   intro h
   have hx:=h x JO
   refine(ih (uV hl (by omega) hx.2.2.1) fun y hy=>h y (JP _ hy)).trans ?_
   rw [gC (by omega) hx.2.2.1,JG (by omega)]
theorem iH{K V:Type} [DecidableEq K]: ∀ (m:List (K×V×Nat)) {k k':K} (v:V) (c:Nat),k'≠k→gM (gX m k v c) k'=gM m k'
 | [],k,k',v,c,h=>by
   have: ¬ k=k':=fun e=>h e.symm
   simp [gX,gM,this]
 | x :: m,k,k',v,c,h=>by
   by_cases hx:x.1=k
   ·have e:gX (x :: m) k v c=(k,v,x.2.2) :: m:=by simp [gX,hx]
    have h1: ¬ k=k':=fun e=>h e.symm
    have h2: ¬ x.1=k':=fun e=>h (e.symm.trans hx)
    rw [e]
    simp [gM,h1,h2]
   ·have e:gX (x :: m) k v c=x :: gX m k v c:=by simp [gX,hx]
    have ih:=iH m v c h
    rw [e]
    unfold gM at ih ⊢
    rw [List.find?_cons,List.find?_cons]
    split
    ·rfl
    ·exact ih
theorem qS{K V:Type} [DecidableEq K]: ∀ (m:List (K×V×Nat)) (k:K) (v:V) (c:Nat),(gX m k v c).length≤m.length+1
 | [],k,v,c=>Jv _
 | x :: m,k,v,c=>by
   by_cases hx:x.1=k
   ·have e:gX (x :: m) k v c=(k,v,x.2.2) :: m:=by simp [gX,hx]
    rw [e]
    simp
   ·have e:gX (x :: m) k v c=x :: gX m k v c:=by simp [gX,hx]
    have ih:=qS m k v c
    rw [e]
    simp only [Jy]
    omega
def jt(lt:List (Int×Int))(n:Int):List Int:=(lt.filter fun t=>decide (t.1=n)).map (·.2)
theorem wW(lt:List (Int×Int))(n k n':Int):jt (lt ++ [(n,k)]) n'=if n=n' then jt lt n' ++ [k] else jt lt n':=by
 unfold jt
 rw [List.filter_append,JA,List.filter_cons,List.filter_nil]
 by_cases h:n=n'
 ·rw [JH h,JH (JZ h)]
  rfl
 ·rw [JG h,JG (by simpa using h),List.map_nil,JU]
theorem yp{lt:List (Int×Int)}{n:Int}:jt lt n= []↔ ¬ ∃ t∈lt,t.1=n:=by
 unfold jt
 rw [List.map_eq_nil_iff,List.filter_eq_nil_iff]
 constructor
 ·rintro h ⟨t,h1,h2⟩
  exact h t h1 (JZ h2)
 ·intro h t h1 h2
  exact h ⟨t,h1,JS h2⟩
end
structure SlM (H:au) (B nx:Nat) (lt:List (Int×Int)) (m:List (Int×(Nat×List Int)×Nat)) (c:Nat):Prop where
 ok:KOk m c
 len:m.length≤lt.length
 keys: ∀ n,n∈m.map (·.1)↔ ∃ t∈lt,t.1=n
 val: ∀ n r ks,gM m n=some (r,ks)→ks=jt lt n∧B≤r∧r<nx∧H.at' r=some (pY ks)
 sep: ∀ n n' r r' ks ks',gM m n=some (r,ks)→gM m n'=some (r',ks')→n≠n'→r≠r'
section
variable {H:au}{B c nx:Nat}{lt:List (Int×Int)}{m:List (Int×(Nat×List Int)×Nat)}
theorem SlM.frame{H':au}{nx':Nat}(h:SlM H B nx lt m c)(hle:nx≤nx')(hf: ∀ r,B≤r→r<nx→H'.at' r=H.at' r):SlM H' B nx' lt m c:=
 ⟨h.ok,h.len,h.keys,fun n r ks hg=>by
   obtain⟨h1,h2,h3,h4⟩:=h.val n r ks hg
   exact⟨h1,h2,by omega,(hf r h2 h3).trans h4⟩,h.sep⟩
theorem SlM.zero:SlM H B nx [] [] 0:=
 ⟨KOk.nil 0,Jv _,fun n=>by simp,fun n r ks hg=>(by cases hg),fun n n' r r' ks ks' hg=>(by cases hg)⟩
theorem SlM.get(h:SlM H B nx lt m c)(n:Int):(gM m n=none∧jt lt n= [])∨ ∃ r,gM m n=some (r,jt lt n)∧B≤r∧r<nx∧H.at' r=some (pY (jt lt n)):=by
 cases hg:gM m n with
 | none=>exact .inl ⟨rfl,yp.2 fun hx=>ma.1 hg ((h.keys n).2 hx)⟩
 | some v=>
   obtain⟨r,ks⟩:=v
   obtain⟨rfl,h2,h3,h4⟩:=h.val n r ks hg
   exact .inr ⟨r,rfl,h2,h3,h4⟩
theorem SlM.add{H':au}{nx' r':Nat}(h:SlM H B nx lt m c)(n k:Int)(hB:B≤nx)(h1:nx≤r')(h2:r'<nx')(hr:H'.at' r'=some (pY (jt lt n ++ [k])))(hf: ∀ x,B≤x→x<nx→(∀ ks,gM m n≠some (x,ks))→H'.at' x=H.at' x):SlM H' B nx' (lt ++ [(n,k)]) (gX m n (r',jt lt n ++ [k]) c) (pG m n c):=by
 refine⟨h.ok.put n _,?_,fun n'=>?_,fun n' r ks hg=>?_,fun a b r r2 ks ks2 ha hb hab=>?_⟩
 ·have:=qS m n (r',jt lt n ++ [k]) c
  have:=h.len
  rw [Jz]
  simp only [Jy,List.length_nil]
  omega
 ·rw [vL,h.keys]
  constructor
  ·rintro(rfl|⟨t,h3,h4⟩)
   ·exact⟨_,List.mem_append_right _ (JM.2 rfl),rfl⟩
   ·exact⟨t,List.mem_append_left _ h3,h4⟩
  ·rintro⟨t,h3,h4⟩
   rcases List.mem_append.1 h3 with h3|h3
   ·exact .inr ⟨t,h3,h4⟩
   ·rw [JM.1 h3] at h4
    exact .inl h4.symm
 ·rw [wW]
  by_cases he:n'=n
  ·subst he
   rw [oM] at hg
   cases hg
   rw [JH rfl]
   exact⟨rfl,by omega,h2,hr⟩
  ·rw [iH m _ c he] at hg
   obtain⟨h3,h4,h5,h6⟩:=h.val n' r ks hg
   rw [JG (Ne.symm he)]
   exact⟨h3,h4,by omega,(hf r h4 h5 fun ks' hg'=>h.sep n' n r r ks ks' hg hg' he rfl).trans h6⟩
 ·by_cases ea:a=n
  ·subst ea
   rw [oM] at ha
   cases ha
   rw [iH m _ c (Ne.symm hab)] at hb
   have:=(h.val b r2 ks2 hb).2.2.1
   omega
  ·rw [iH m _ c ea] at ha
   by_cases eb:b=n
   ·subst eb
    rw [oM] at hb
    cases hb
    have:=(h.val a r ks ha).2.2.1
    omega
   ·rw [iH m _ c eb] at hb
    exact h.sep a b r r2 ks ks2 ha hb hab
end
structure SeM (lt:List (Int×Int)) (o:List ((Int×Int)×Unit×Nat)) (c:Nat):Prop where
 ok:KOk o c
 len:o.length≤lt.length
 keys: ∀ t,t∈o.map (·.1)↔t∈lt
theorem SeM.zero:SeM [] [] 0:=⟨KOk.nil 0,Jv _,fun t=>by simp⟩
theorem SeM.add{lt:List (Int×Int)}{o:List ((Int×Int)×Unit×Nat)}{c:Nat}(h:SeM lt o c)(t:Int×Int):SeM (lt ++ [t]) (gX o t () c) (pG o t c):=by
 refine⟨h.ok.put t _,?_,fun t'=>?_⟩
 ·have:=qS o t () c
  have:=h.len
  rw [Jz]
  simp only [Jy,List.length_nil]
  omega
 ·rw [vL,h.keys,List.mem_append,JM,Or.comm]
end Go.Proofs.YtnhmbonmlfeifaaGreat
end
section
namespace Go.Sy
open Go Go.Sl Go.RowKit
section
variable {A:Type}{P:Program}
theorem gB{P:Program}{A B:Type}(f:A→Sem B): ∀ s:Sem A,aT P (s >>= f)=(aT P s).bind fun a=>aT P (f a)
 | .pure a=>rfl
 | .program k=>gB f (k P)
 | .mark m k=>gB f k
 | .choose q k=>by
   show(bif q.forced then aT P (k 0 >>= f) else none)=(bif q.forced then aT P (k 0) else none).bind _
   cases q.forced with
   | true=>exact gB f (k 0)
   | false=>rfl
 | .load .. =>rfl
 | .store .. =>rfl
 | .new .. =>rfl
 | .shape .. =>rfl
 | .freeze .. =>rfl
 | .frozen .. =>rfl
 | .getObj .. =>rfl
 | .setObj .. =>rfl
 | .sys .. =>rfl
 | .halt .. =>rfl
theorem eY(a:A):aT P (pure a:Sem A)=some a:=rfl
theorem lC(c:Prop) [Decidable c](a b:Sem A):aT P (if c then a else b)=if c then aT P a else aT P b:=by split <;> rfl
theorem ja{t:TypeId}{d:TypeDesc}(h:P.underlying t=some d):aT P (underlying t)=some d:=by
 show aT P (match P.underlying t with|some d=>(pure d:Sem TypeDesc)|none=>stuck "no such type")=_
 rw [h]
 rfl
theorem so:aT P program=some P:=rfl
end
section
variable {K V:Type} [DecidableEq K]
theorem wC{P:Program}{kt:TypeId}{enc:K→Value}(hE: ∀ a b,aT P (Op.equal kt (enc a) (enc b))=some (decide (a=b)))(k:K): ∀ (l:List (K×SV×Nat)) (i:Nat),
 aT P (Instr.findAsking kt (enc k) (dummies (l.map fun x=>(enc x.1,x.2))) i)=some ((l.findIdx? fun x=>decide (x.1=k)).map fun j=>(i+j,.nilFunc))
 | [],i=>rfl
 | x :: l,i=>by
   have ih:=wC hE k l (i+1)
   simp only [dummies] at ih
   simp only [dummies,Jx,Instr.findAsking,gB,hE,JC,List.findIdx?_cons,lC]
   by_cases h:x.1=k
   ·simp [h,eY]
   ·have h': ¬ k=x.1:=fun e=>h e.symm
    simp only [h,h',decide_false,ih,Option.map_map,Bool.false_eq_true,if_false]
    congr 2
    funext j
    simp only [Function.comp_apply,Jk,and_true]
    omega
theorem BA{P:Program}{kt:TypeId}{kd:TypeDesc}{enc:K→Value}(h:P.underlying kt=some kd)(hn: ∀ a b,Instr.sameNow kd (enc a) (enc b)=none)(hE: ∀ a b,aT P (Op.equal kt (enc a) (enc b))=some (decide (a=b)))
 (hc: ∀ e k,aT P (Instr.checkKey e 10000 kt (enc k))=some ()) (hb: ∀ k,Instr.sameBits 10000 (enc k) (enc k)=true):KEnc P kt enc:=by
 refine⟨fun l k=>?_,fun k=>hc _ _,hb⟩
 unfold nH
 rw [hc]
 simp only
 unfold Instr.findKey
 rw [iZ _ h]
 cases l with
 | nil=>rfl
 | cons x l=>
   have e:Instr.findNow kd (enc k) (dummies ((x :: l).map fun x=>(enc x.1,x.2))) 0=none:=by
    simp only [dummies,Jx,Instr.findNow,hn]
   rw [e]
   simp only [wC hE]
   cases(x :: l).findIdx? fun x=>decide (x.1=k) <;> simp
variable {P:Program} {T:Tr SV} {H:au} {nx:Nat} {d:Option Tmp} {ty:TypeId} {pos:String} {af:Array Edge} {gd:Option (Nat×Bool)}
section
variable {kk:K}{s:SV}{b c:Nat}{val:V→SV}{e kt t:TypeId}{enc:K→Value}{x y:Operand}{m:List (K×V×Nat)}
theorem Bd{v:V}{ok:Bool}(hx:an T x=some (.mp b))(hy:an T y=some s)(hs:s.lit=some (enc kk))(hu:P.underlying t=some (.map kt e))(hE:KEnc P kt enc)
 (hb:H.at' b=some (je enc val m c)) (hg:gM m kk=some v):ReadDoes P T H ⟨d,.lookup t x y ok,ty,pos,af,gd⟩ (bif ok then .tup [val v,.sc (.bool true)] else val v):=by
 refine eJ ?_
 have hk:=Ea m kk
 unfold cy
 simp only [zB,hy,hs,JC,hx,gH,hu,hb,iJ hE]
 cases hi:m.findIdx? fun x=>decide (x.1=kk)with
 | none=>rw [hi] at hk;rw [hk.1] at hg;cases hg
 | some i=>
   rw [hi] at hk
   obtain⟨z,h1,_,h3,_⟩:=hk
   rw [hg] at h3
   simp only [Jc] at h3
   subst h3
   simp only [JX,h1,JB]
theorem yO{z:Value}{ok:Bool}(hx:an T x=some (.mp b))(hy:an T y=some s)(hs:s.lit=some (enc kk))(hu:P.underlying t=some (.map kt e))(hE:KEnc P kt enc)
 (hb:H.at' b=some (je enc val m c)) (hg:gM m kk=none) (hz:dK P e=some z):ReadDoes P T H ⟨d,.lookup t x y ok,ty,pos,af,gd⟩ (bif ok then .tup [.sc z,.sc (.bool false)] else .sc z):=by
 refine eJ ?_
 have hk:=Ea m kk
 unfold cy
 simp only [zB,hy,hs,JC,hx,gH,hu,hb,iJ hE]
 cases hi:m.findIdx? fun x=>decide (x.1=kk)with
 | none=>simp only [hz]
 | some i=>
   rw [hi] at hk
   obtain⟨z,h1,_,h3,_⟩:=hk
   rw [hg] at h3
   cases h3
theorem zb{w:Operand}{v:V}(hx:an T x=some (.mp b))(hy:an T y=some s)(hs:s.lit=some (enc kk))(hu:P.underlying t=some (.map kt e))(hE:KEnc P kt enc)
 (hb:H.at' b=some (je enc val m c)) (hw:an T w=some (val v)):OpDoes P T H nx ⟨d,.mapUpdate t x y w,ty,pos,af,gd⟩ (.skip,H.set b (je enc val (gX m kk v c) (pG m kk c)),nx):=by
 refine jh ?_
 have hk:=Ea m kk
 unfold fT
 simp only [zB,hy,hs,JC,hx,hw,oK,hu,hb,G6,hE.check,iJ hE]
 cases hi:m.findIdx? fun x=>decide (x.1=kk)with
 | none=>
   rw [hi] at hk
   obtain⟨h1,_,h3⟩:=hk
   simp only [je,vO,h3,pG,h1,JA,Jx,List.map_nil]
 | some i=>
   rw [hi] at hk
   obtain⟨z,h1,h2,h3,_,h5⟩:=hk
   simp only [je,vO,h5,pG,h3,JX,h1,JB,h2,hE.bits,cond_true,List.map_set]
end
end
section
variable {P:Program} {ro:Option Nat} {fn nt nx:Nat} {T:Tr SV} {k:List AIt} {dfs:List ADf} {H:au} {Q:Pst} {ops:Array Oper} {i:Nat} {l:List Oper} {d:Option Tmp} {ty:TypeId} {pos:String} {af:Array Edge} {gd:Option (Nat×Bool)}
section
variable {K:Type}{kk:K}{s:SV}{b c:Nat}{V:Type}{val:V→SV}{e kt t:TypeId}{enc:K→Value}{x y:Operand}{m:List (K×V×Nat)}
theorem AJ [DecidableEq K]{v:V}{dd:Nat}(hw:aF T ops ⟨some dd,.lookup t x y true,ty,pos,af,gd⟩=some true)(hd:Nat.blt dd nt=true)(hx:an T x=some (.mp b))(hy:an T y=some s)(hs:s.lit=some (enc kk))(hu:P.underlying t=some (.map kt e))(hE:KEnc P kt enc)(hb:H.at' b=some (je enc val m c))(hg:gM m kk=some v)
 (h:Wp P ro ⟨fn,nt,T.set dd (.tup [val v,.sc (.bool true)]),.inReg ops (i+1) l :: k,dfs,H,nx⟩ Q):Wp P ro ⟨fn,nt,T,.inReg ops i (⟨some dd,.lookup t x y true,ty,pos,af,gd⟩ :: l) :: k,dfs,H,nx⟩ Q:=
 de hw (.inr (fun _ h=>by cases h)) ((Bd (ok:=true) hx hy hs hu hE hb hg).does) (by rw [aK hd];exact h)
theorem AK{V:Type} [DecidableEq K]{val:V→SV}{m:List (K×V×Nat)}{z:Value}{dd:Nat}(hw:aF T ops ⟨some dd,.lookup t x y true,ty,pos,af,gd⟩=some true)(hd:Nat.blt dd nt=true)(hx:an T x=some (.mp b))(hy:an T y=some s)(hs:s.lit=some (enc kk))(hu:P.underlying t=some (.map kt e))(hE:KEnc P kt enc)(hb:H.at' b=some (je enc val m c))(hg:gM m kk=none)(hz:dK P e=some z)
 (h:Wp P ro ⟨fn,nt,T.set dd (.tup [.sc z,.sc (.bool false)]),.inReg ops (i+1) l :: k,dfs,H,nx⟩ Q):Wp P ro ⟨fn,nt,T,.inReg ops i (⟨some dd,.lookup t x y true,ty,pos,af,gd⟩ :: l) :: k,dfs,H,nx⟩ Q:=
 de hw (.inr (fun _ h=>by cases h)) ((yO (ok:=true) hx hy hs hu hE hb hg hz).does) (by rw [aK hd];exact h)
theorem AI [DecidableEq K]{w:Operand}{v:V}(hw:aF T ops ⟨none,.mapUpdate t x y w,ty,pos,af,gd⟩=some true)(hx:an T x=some (.mp b))(hy:an T y=some s)(hs:s.lit=some (enc kk))(hu:P.underlying t=some (.map kt e))(hE:KEnc P kt enc)(hb:H.at' b=some (je enc val m c))(hw2:an T w=some (val v))
 (h:Wp P ro ⟨fn,nt,T,.inReg ops (i+1) l :: k,dfs,(H.set b (je enc val (gX m kk v c) (pG m kk c))),nx⟩ Q):Wp P ro ⟨fn,nt,T,.inReg ops i (⟨none,.mapUpdate t x y w,ty,pos,af,gd⟩ :: l) :: k,dfs,H,nx⟩ Q:=
 rL hw (.inr (fun _ h=>by cases h)) (zb hx hy hs hu hE hb hw2) h
end
end
end Go.Sy
end
section
namespace Go.Proofs.YtnhmbonmlfeifaaGreat
open Go Go.Sy Go.Sl Go.RowKit
abbrev tU(a:Int×Int):Value:= .agg #[.int .i64 a.1,.int .i64 a.2]
theorem nQ{P:Program}{t:TypeId}{cs:Array Value}{off:Nat}{v:Value}{k:IntKind}(hu:P.underlying t=some (.int k))(hv:cs[off]? =some v):aT P (part t cs off)=some v:=by
 simp [part,isAgg,gB,ja hu,hv,eY]
theorem Bj{P:Program}{t:TypeId}{a b:Int}(n:Nat)(hu:P.underlying t=some (.int .i64)):aT P (Op.equalIn (n+1) t (.int .i64 a) (.int .i64 b))=some (a == b):=by
 simp [Op.equalIn,gB,ja hu,eY]
theorem mG:Tryz.prog.underlying 3=some (.int .i64):=by kernel_rfl
theorem DL(n:Nat)(a b:Int×Int):aT Tryz.prog (Op.equalIn (n+1+1) 40 (tU a) (tU b))=some (iB a b):=by
 obtain⟨f,g,hl,f1,f2,f3,g1,g2,g3⟩:=fTd2
 have hp:Tryz.prog.stoodInHeld 40=false:=by kernel_rfl
 have hp1:=fun(v:Value) (c:Value)=>nQ (P:=Tryz.prog) (t:=3) (cs:= #[v,c]) (off:=0) (v:=v) mG rfl
 have hp2:=fun(v:Value) (c:Value)=>nQ (P:=Tryz.prog) (t:=3) (cs:= #[v,c]) (off:=1) (v:=c) mG rfl
 have he:=fun(x y:Int)=>Bj (P:=Tryz.prog) (t:=3) (a:=x) (b:=y) n mG
 rw [Op.equalIn]
 simp only [gB,ja uTd,JC,so,hp,Bool.false_eq_true,if_false]
 rw [← Array.forIn_toList,hl]
 simp only [List.forIn_cons,List.forIn_nil,gB,lC,JH f1,JH g1,f2,f3,g2,g3,eY,JC,hp1,hp2,he]
 unfold iB
 by_cases h1:a.1=b.1 <;> by_cases h2:a.2=b.2 <;> simp [h1,h2,eY,gB,hp1,hp2,he]
theorem DK(a b:Int×Int):aT Tryz.prog (Op.equal 40 (tU a) (tU b))=some (decide (a=b)):=by
 have hd:decide (a=b)=iB a b:=by rw [Bool.eq_iff_iff,J7,gg]
 rw [hd]
 exact DL 9998 a b
theorem DM(e:Bool)(n:Nat)(a:Int×Int):aT Tryz.prog (Instr.checkKey e (n+1+1) 40 (tU a))=some ():=by
 obtain⟨f,g,hl,f1,f2,f3,g1,g2,g3⟩:=fTd2
 have hi: ∀ v:Value,aT Tryz.prog (Instr.checkKey e (n+1) 3 v)=some ():=fun v=>lI (P:=Tryz.prog) mG rfl e n
 have hp1:=fun(v:Value) (c:Value)=>nQ (P:=Tryz.prog) (t:=3) (cs:= #[v,c]) (off:=0) (v:=v) mG rfl
 have hp2:=fun(v:Value) (c:Value)=>nQ (P:=Tryz.prog) (t:=3) (cs:= #[v,c]) (off:=1) (v:=c) mG rfl
 rw [Instr.checkKey]
 simp only [gB,ja uTd,JC]
 rw [← Array.forIn_toList,hl]
 simp [List.forIn_cons,List.forIn_nil,gB,lC,f1,g1,f2,f3,g2,g3,eY,hp1,hp2,hi]
theorem G8(e:Bool)(a:Int×Int):aT Tryz.prog (Instr.checkKey e 10000 40 (tU a))=some ():=DM e 9998 a
theorem ur:KEnc Tryz.prog 40 tU:=
 BA uTd (fun a b=>rfl) DK G8 (fun k=>by simp [tU,Instr.sameBits])
theorem tT(a:Int×Int):(yc a).lit=some (tU a):=rfl
abbrev aP:Value:= .int .u8 0
abbrev fS:Value:= .int .i64 0
def zt0:List Value:= [aP,aP,aP,aP,aP,aP,aP,aP,aP,aP,aP,aP,aP,aP,aP,aP,aP,aP,aP,aP,aP,aP,aP,aP,aP,aP,aP,aP,aP,aP,aP,aP,aP,aP,aP,aP,aP,aP,aP,aP,aP,aP,aP,aP,aP,aP,aP,aP,aP,aP,aP,aP,aP,aP,aP,aP,aP,aP,aP,aP,aP,aP,aP,aP]
theorem xI:zt0=List.replicate 64 aP:=rfl
def zt1:List Value:=List.append zt0 zt0
theorem xH:zt1=List.replicate 128 aP:=by
 show zt0 ++ zt0=_
 rw [xI,J6]
def zt2:List Value:=List.append zt1 zt1
theorem xG:zt2=List.replicate 256 aP:=by
 show zt1 ++ zt1=_
 rw [xH,J6]
def zt3:List Value:=List.append zt2 zt2
theorem xF:zt3=List.replicate 512 aP:=by
 show zt2 ++ zt2=_
 rw [xG,J6]
def zt4:List Value:=List.append zt3 zt3
theorem xE:zt4=List.replicate 1024 aP:=by
 show zt3 ++ zt3=_
 rw [xF,J6]
def zt5:List Value:=List.append zt4 zt4
theorem xD:zt5=List.replicate 2048 aP:=by
 show zt4 ++ zt4=_
 rw [xE,J6]
def zt6:List Value:=List.append zt5 zt5
theorem xC:zt6=List.replicate 4096 aP:=by
 show zt5 ++ zt5=_
 rw [xD,J6]
def zt7:List Value:=List.append zt6 zt6
theorem xB:zt7=List.replicate 8192 aP:=by
 show zt6 ++ zt6=_
 rw [xC,J6]
def zt8:List Value:=List.append zt7 zt7
theorem xA:zt8=List.replicate 16384 aP:=by
 show zt7 ++ zt7=_
 rw [xB,J6]
def zt9:List Value:=List.append zt8 zt8
theorem Ck:zt9=List.replicate 32768 aP:=by
 show zt8 ++ zt8=_
 rw [xA,J6]
def zr0:List Value:=List.append [aP,aP,aP,aP,aP,aP,aP,aP,aP,aP,aP,aP,aP,aP,aP,aP,aP,aP,aP,aP,aP,aP,aP,aP,aP,aP,aP,aP,aP,aP,aP,aP] [aP,aP,aP,aP,aP,aP,aP,aP,aP,aP,aP,aP,aP,aP,aP,aP,aP,aP,aP,aP,aP,aP,aP,aP,aP,aP,aP,aP,aP,aP,aP,aP,aP]
theorem Gi:zr0=List.replicate 65 aP:=rfl
def zr1:List Value:=List.append zt0 zr0
theorem Gh:zr1=List.replicate 129 aP:=by
 show zt0 ++ zr0=_
 rw [xI,Gi,J6]
def zr2:List Value:=List.append zt1 zr1
theorem Gg:zr2=List.replicate 257 aP:=by
 show zt1 ++ zr1=_
 rw [xH,Gh,J6]
def zr3:List Value:=List.append zt2 zr2
theorem Gf:zr3=List.replicate 513 aP:=by
 show zt2 ++ zr2=_
 rw [xG,Gg,J6]
def zr4:List Value:=List.append zt3 zr3
theorem Gd:zr4=List.replicate 1025 aP:=by
 show zt3 ++ zr3=_
 rw [xF,Gf,J6]
def zr5:List Value:=List.append zt4 zr4
theorem Gc:zr5=List.replicate 2049 aP:=by
 show zt4 ++ zr4=_
 rw [xE,Gd,J6]
def zr6:List Value:=List.append zt5 zr5
theorem Gb:zr6=List.replicate 4097 aP:=by
 show zt5 ++ zr5=_
 rw [xD,Gc,J6]
def zr7:List Value:=List.append zt6 zr6
theorem Ga:zr7=List.replicate 8193 aP:=by
 show zt6 ++ zr6=_
 rw [xC,Gb,J6]
def zr8:List Value:=List.append zt7 zr7
theorem E9:zr8=List.replicate 16385 aP:=by
 show zt7 ++ zr7=_
 rw [xB,Ga,J6]
def zr9:List Value:=List.append zt8 zr8
theorem E8:zr9=List.replicate 32769 aP:=by
 show zt8 ++ zr8=_
 rw [xA,E9,J6]
def zr10:List Value:=List.append zt9 zr9
theorem Dd:zr10=List.replicate 65537 aP:=by
 show zt9 ++ zr9=_
 rw [Ck,E8,J6]
def zq0:List Value:=List.append [aP,aP,aP,aP,aP,aP,aP,aP,aP,aP,aP,aP,aP,aP,aP,aP,aP,aP,aP,aP,aP,aP,aP,aP,aP,aP,aP,aP,aP,aP,aP,aP] [aP,aP,aP,aP,aP,aP,aP,aP,aP,aP,aP,aP,aP,aP,aP,aP,aP,aP,aP,aP,aP,aP,aP,aP,aP,aP,aP,aP,aP,aP,aP,fS,fS]
theorem Gv:zq0=List.replicate 63 aP ++ [fS,fS]:=rfl
def zq1:List Value:=List.append zt0 zq0
theorem Gu:zq1=List.replicate 127 aP ++ [fS,fS]:=by
 show zt0 ++ zq0=_
 rw [xI,Gv,←JR,J6]
def zq2:List Value:=List.append zt1 zq1
theorem Gt:zq2=List.replicate 255 aP ++ [fS,fS]:=by
 show zt1 ++ zq1=_
 rw [xH,Gu,←JR,J6]
def zq3:List Value:=List.append zt2 zq2
theorem Gs:zq3=List.replicate 511 aP ++ [fS,fS]:=by
 show zt2 ++ zq2=_
 rw [xG,Gt,←JR,J6]
def zq4:List Value:=List.append zt3 zq3
theorem Gr:zq4=List.replicate 1023 aP ++ [fS,fS]:=by
 show zt3 ++ zq3=_
 rw [xF,Gs,←JR,J6]
def zq5:List Value:=List.append zt4 zq4
theorem Gq:zq5=List.replicate 2047 aP ++ [fS,fS]:=by
 show zt4 ++ zq4=_
 rw [xE,Gr,←JR,J6]
def zq6:List Value:=List.append zt5 zq5
theorem Gp:zq6=List.replicate 4095 aP ++ [fS,fS]:=by
 show zt5 ++ zq5=_
 rw [xD,Gq,←JR,J6]
def zq7:List Value:=List.append zt6 zq6
theorem Gm:zq7=List.replicate 8191 aP ++ [fS,fS]:=by
 show zt6 ++ zq6=_
 rw [xC,Gp,←JR,J6]
def zq8:List Value:=List.append zt7 zq7
theorem Gl:zq8=List.replicate 16383 aP ++ [fS,fS]:=by
 show zt7 ++ zq7=_
 rw [xB,Gm,←JR,J6]
def zq9:List Value:=List.append zt8 zq8
theorem Gj:zq9=List.replicate 32767 aP ++ [fS,fS]:=by
 show zt8 ++ zq8=_
 rw [xA,Gl,←JR,J6]
def zq10:List Value:=List.append zt9 zq9
theorem De:zq10=List.replicate 65535 aP ++ [fS,fS]:=by
 show zt9 ++ zq9=_
 rw [Ck,Gj,←JR,J6]
def zAll:List Value:=List.append zr10 zq10
theorem Dg:zAll=List.replicate 131072 aP ++ [fS,fS]:=by
 show zr10 ++ zq10=_
 rw [Dd,De,←JR,J6]
theorem Cn:dK Tryz.prog 30=some (.agg (List.toArray zAll)):=by kernel_rfl
def wm:List UInt8:= [48,49,50,51,52,53,54,55,56,57]
theorem rR{H:au}{nx x:Nat}{k:ByteArray}(hk:k.size≤1000):Fnc Tryz.prog 20 [.sc (.string k),.sc (.int .u64 (x:Int))] H nx (fun q=>VerIs q.2.1 q.1 (k.data.toList,wm,x,0)∧nx≤q.2.2∧ ∀ m,m<nx→q.2.1.at' m=H.at' m):=by
 refine Ka Tryz.func20 rfl rfl ?_
 repeat first|apply ai;rfl|refine w_vl (ue (F.un _ rfl) (F.un _ rfl) (F.un _ rfl) rfl (by focus(omega))) rfl rfl rfl ?_|apply bM;rfl;rfl;exact(F.un _ rfl);exact(F.sz _ rfl);rfl;exact(F.ze _ rfl);rfl;rfl;rfl;rfl;rfl
 (refine w_vl (DR (F.un _ rfl) (F.un _ rfl) rfl (aj _ _ _) (by focus(decide))) rfl rfl rfl ?_)
 repeat first|apply ai;rfl|apply aG;rfl;(focus((repeat(first|exact ae|refine ab (by omega) ?_));done));rfl
 ((apply bm Tryz.func20 (congrArg Array.toList Tryz.results20));(focus(repeat(first|exact Kb|apply Kc rfl (Ke (F.ag _ rfl) (by repeat(exact ae)) (aq _ 0 rfl rfl))))))
 refine⟨⟨.slu (nx+1) 0 k.size,.slu (nx+1+1) 0 10,rfl,hU (ro:=false) ?_ rfl,hU (ro:=false) (n:=10) ?_ rfl⟩,by dsimp only;omega,fun m hm=>by(repeat(refine ab (by omega) ?_));rfl⟩
 ·(focus((repeat(first|exact ae|refine ab (by omega) ?_));done))
 ·refine(aa _ _ (by omega)).trans ((aj _ _ _).trans ?_)
  exact congrArg some (gZ _ _ _ _ (byV wm))
abbrev zeroM:List UInt8:=List.replicate 131072 0
theorem ix:zeroM.length=131072:=JT
theorem AF:zAll.map SV.sc=sr zeroM 0 0:=by
 rw [Dg,JA,List.map_replicate]
 show _=(byV (List.replicate 131072 0)).map SV.sc ++ _
 rw [show byV (List.replicate 131072 (0:UInt8))=List.replicate 131072 aP from List.map_replicate,List.map_replicate]
 rfl
theorem wa{place:Nat→Option (Nat×Nat)}{cells vc:List SV}{i off size:Nat}{v:SV}(hp:place i=some (off,size))(hv:v.cells=vc)(hl:vc.length=size)(ho:off+size≤cells.length):kU place cells [(i,v)]=some (cells.take off ++ vc ++ cells.drop (off+size)):=by
 subst hv
 have hb:(Nat.beq v.cells.length size && Nat.ble (off+size) cells.length)=true:=by
  rw [Ju]
  exact⟨by rw [hl];exact Nat.beq_refl _,Jj ho⟩
 simp only [kU,hp,hb,cond_true]
theorem v9:kU (fun i=>([(0,131072),(131072,1),(131073,1)]:List (Nat×Nat))[i]?) ((Value.agg (List.toArray zAll)).cells.toList.map .sc) [(1,.sc (.int .i64 (-1)))]=some (sr zeroM (-1) 0):=by
 have e:(Value.agg (List.toArray zAll)).cells.toList.map SV.sc=sr zeroM 0 0:=(congrArg (List.map SV.sc) (List.toList_toArray ..)).trans AF
 have hl:=qI ix 0 0
 have h1:=ip ix
 rw [e,wa (vc:= [.sc (.int .i64 (-1))]) (size:=1) (off:=131072) rfl rfl rfl (by rw [hl];exact Jh rfl),List.take_left' h1,←List.drop_drop,List.drop_left' h1,JR]
 rfl
theorem pP: ∀ {a b:List Int},a.Pairwise (·< ·)→b.Pairwise (·< ·)→(∀ x,x∈a↔x∈b)→a=b
 | [],[],_,_,_=>rfl
 | [],y :: b,_,_,h=>absurd ((h y).2 JO) (by simp)
 | x :: a,[],_,_,h=>absurd ((h x).1 JO) (by simp)
 | x :: a,y :: b,ha,hb,h=>by
   rw [List.pairwise_cons] at ha hb
   have hxy:x=y:=by
    rcases JV.1 ((h x).1 JO)with h1|h1
    ·exact h1
    ·rcases JV.1 ((h y).2 JO)with h2|h2
     ·exact h2.symm
     ·have:=hb.1 x h1
      have:=ha.1 y h2
      omega
   subst hxy
   congr 1
   refine pP ha.2 hb.2 fun z=>?_
   constructor
   ·intro hz
    rcases JV.1 ((h z).1 (JP _ hz))with h1|h1
    ·have:=ha.1 z hz
     omega
    ·exact h1
   ·intro hz
    rcases JV.1 ((h z).2 (JP _ hz))with h1|h1
    ·have:=hb.1 z hz
     omega
    ·exact h1
theorem xj{l:List (Int×Int)}(hM:tO l){ks K:List Int}(hp:ks.Perm K)(hn:K.Nodup)(hs:ks.Pairwise (fun x y=>bl y x=false))(hk: ∀ n,n∈K↔ ∃ t∈l,t.1=n):ks=jP (dm l):=by
 refine pP ?_ ?_ fun x=>?_
 ·have h1:ks.Nodup:=hp.nodup_iff.2 hn
  refine(List.pairwise_and_iff.2 ⟨hs,h1⟩).imp fun {a b} h=>?_
  have h2:=of_decide_eq_false h.1
  have h3:=h.2
  omega
 ·rw [List.pairwise_map]
  exact(lg l).imp fun h=>by omega
 ·rw [hp.mem_iff,hk]
  constructor
  ·rintro⟨t,ht,rfl⟩
   have h2:=JS (hM.1 t ht)
   have h3:(((t.1.toNat:Nat):Int),((t.2.toNat:Nat):Int))=t:=Prod.ext (by dsimp only;omega) (by dsimp only;omega)
   have h4:t.2.toNat∈aM l t.1.toNat:=(gF hM.1).2 (by rw [h3];exact ht)
   exact J3.2 ⟨t.1.toNat,dP.2 ⟨by omega,by omega,fun e=>by rw [e] at h4;cases h4⟩,by omega⟩
  ·intro h
   obtain⟨n,hn,rfl⟩:=J3.1 h
   obtain⟨_,_,h3⟩:=dP.1 hn
   obtain⟨k,hk⟩:=List.exists_mem_of_ne_nil _ h3
   exact⟨_,(gF hM.1).1 hk,rfl⟩
theorem yq{l:List (Int×Int)}(hl: ∀ t∈l,mD t.1 t.2=true)(n:Nat):jt l (n:Int)=jP (aM l n):=by
 unfold jt aM
 rw [jP,List.map_map]
 refine List.map_congr_left fun t ht=>?_
 have h2:=JS (hl t (List.mem_filter.1 ht).1)
 show t.2=((t.2.toNat:Nat):Int)
 omega
def ym(S:List Nat):List Nat:=(gV (jP S)).map Int.toNat
theorem AW(S:List Nat):jP (ym S)=gV (jP S):=by
 unfold ym
 rw [jP,List.map_map]
 conv=>rhs;rw [← List.map_id (gV (jP S))]
 refine List.map_congr_left fun x hx=>?_
 have h:=(fP (jP S)).1.mem_iff.1 hx
 obtain⟨n,_,rfl⟩:=J3.1 h
 show((Int.toNat (n:Int):Nat):Int)=(n:Int)
 omega
theorem gv(S:List Nat):(ym S).Perm S:=by
 have h:=((fP (jP S)).1).map Int.toNat
 refine h.trans (List.Perm.of_eq ?_)
 rw [jP,List.map_map]
 conv=>rhs;rw [← List.map_id S]
 exact List.map_congr_left fun x _=>JY x
theorem qm{p:List UInt8}(h:Okp p){S:List Nat}(hS:S.Nodup):rP (ym S) p=if(∀ k∈S,ll p k=true) then(rI p S,0) else(zeroP,6):=by
 rw [AH h ((gv S).nodup_iff.2 hS)]
 by_cases hh: ∀ k∈S,ll p k=true
 ·have h2: ∀ k∈ym S,ll p k=true:=fun k hk=>hh k ((gv S).mem_iff.1 hk)
  rw [JH hh,JH h2]
  have hH:Has p (ym S):=⟨(gv S).nodup_iff.2 hS,fun n hn=>by
   have:=h2 n hn
   unfold ll at this
   simp at this
   exact this⟩
  rw [Af h hH (gv S)]
 ·have h2: ¬ ∀ k∈ym S,ll p k=true:=fun h3=>hh fun k hk=>h3 k ((gv S).mem_iff.2 hk)
  rw [JG hh,JG h2]
def HF(x:List UInt8):List UInt8:=if x.length=1024 then x else zeroP
theorem BL(x:List UInt8):(HF x).length=1024:=by
 unfold HF
 split
 ·assumption
 ·exact ah
theorem z4{x:List UInt8}(h:x.length=1024):HF x=x:=JH h
abbrev pgV(x:List UInt8):List Value:=byV (HF x)
theorem DO(x:List UInt8):(pgV x).length=1024:=by rw [JL,BL]
theorem y2:RecOf pgV 1024:=⟨DO,fun s v hv=>by
 obtain⟨n,_,rfl⟩:=J3.1 hv
 rfl⟩
abbrev pgR(l:List (List UInt8)):VO:=dat false l.length 1024 27 (l.flatMap pgV)
theorem v5{A:Type}{f:A→List Value}{sz:Nat}(hf:RecOf f sz): ∀ (l:List A) (i:Nat) (hi:i<l.length),((l.flatMap f).drop (i*sz)).take sz=f l[i]
 | [],i,hi=>absurd hi (Nat.not_lt_zero _)
 | x :: l,0,_=>by
   rw [List.flatMap_cons,Nat.zero_mul,List.drop_zero]
   exact List.take_left' (hf.len x)
 | x :: l,i+1,hi=>by
   rw [List.flatMap_cons,Nat.succ_mul,Nat.add_comm,←List.drop_drop,List.drop_left' (hf.len x)]
   exact v5 hf l i (Nat.lt_of_succ_lt_succ hi)
theorem y3{l:List (List UInt8)}{i:Nat}(hi:i<l.length)(h:(l[i]).length=1024):(pgR l).cellsFrom (i*1024) 1024=some (pgS l[i]):=by
 rw [pgR,←gZ]
 refine dB 1024 (i*1024) _ ?_ (be h) (by omega)
 rw [← List.map_drop,←List.map_take,v5 y2 l i hi,pgV,z4 h]
theorem zPgV:dK Tryz.prog 27=some (.agg (List.replicate 1024 (Value.int .u8 0)).toArray):=by kernel_rfl
theorem Es{zs:List SV}(hz:zs.length=1024){p:List UInt8}(hp:p.length=1024):kU (fun i=>some (i*1024,1024)) zs [(0,.agg (pgS p))]=some (pgS p):=by
 have hl:(pgS p).length=1024:=by rw [JL,JL,hp]
 rw [wa (off:=0) (size:=1024) (vc:=pgS p) rfl rfl hl (by omega)]
 rw [List.take_zero,List.nil_append,List.drop_of_length_le (by omega),JU]
end Go.Proofs.YtnhmbonmlfeifaaGreat
end
