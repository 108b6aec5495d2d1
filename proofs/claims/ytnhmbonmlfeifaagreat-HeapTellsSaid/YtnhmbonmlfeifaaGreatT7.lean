import Derived.Test.YtnhmbonmlfeifaaGreatT6
set_option linter.unusedVariables false
set_option linter.unusedSimpArgs false
set_option maxRecDepth 100000
set_option maxHeartbeats 0
section
namespace Go.Proofs.YtnhmbonmlfeifaaGreat
open Go Go.Sy Go.Sl Go.RowKit
section
variable {H:au}{s:SV}{a i n nx r:Nat}{it p:List UInt8}
abbrev Bb:Nat×Nat→List Value:=fun x=> [.int .i64 (x.1:Int),.int .i64 (x.2:Int)]
theorem qL:RecOf Bb 2:=⟨fun _=>rfl,fun a v hv=>by
 simp only [Bb,Ka,List.not_mem_nil,or_false] at hv
 rcases hv with rfl|rfl <;> rfl⟩
def eJ(p:List UInt8)(n:Nat):List (Nat×Nat):=(List.range n).map fun j=>(az p j,aq p j)
theorem eO(p:List UInt8)(n:Nat):(eJ p n).length=n:=by simp [eJ]
theorem mL(p:List UInt8)(n:Nat):eJ p (n+1)=eJ p n ++ [(az p n,aq p n)]:=by simp [eJ,List.range_succ]
abbrev sbO(a b:Nat):VO:=ar 92 [.sc (.int .i64 (a:Int)),.sc (.int .i64 (b:Int))]
abbrev slO(l:List (Nat×Nat)):VO:=dat false l.length 2 92 (l.flatMap Bb)
theorem si(p:List UInt8)(n:Nat):(eJ p n).flatMap Bb=((List.range n).flatMap fun j=> [Value.int .i64 (az p j:Int),.int .i64 (aq p j:Int)]):=by
 unfold eJ
 rw [List.flatMap_map]
theorem rz{f g:Nat→Value}: ∀ (n k:Nat),k<n→((List.range n).flatMap fun j=> [f j,g j])[k*2]? =some (f k)∧((List.range n).flatMap fun j=> [f j,g j])[k*2+1]? =some (g k)
 | 0,k,h=>absurd h (Nat.not_lt_zero _)
 | n+1,k,h=>by
   have hl:((List.range n).flatMap fun j=> [f j,g j]).length=n*2:=by
    rw [List.length_flatMap]
    simp [List.map_const',List.sum_replicate_nat]
   rw [List.range_succ,List.flatMap_append]
   rcases JY k n with h1|h1
   ·rw [JH (by omega),JH (by omega)]
    exact rz n k h1
   ·obtain rfl:k=n:=by omega
    rw [J5 (by omega),J5 (by omega),hl]
    simp
theorem jI(p:List UInt8){k:Nat}(h:k<i):(slO (eJ p i)).cell (k*2)=some (.sc (.int .i64 (az p k:Int))):=by
 refine gi (by rw [eO];omega) ?_
 rw [si p i]
 exact(rz i k h).1
theorem iA(p:List UInt8){k:Nat}(h:k<i):(slO (eJ p i)).cell (k*2+1)=some (.sc (.int .i64 (aq p k:Int))):=by
 refine gi (by rw [eO];omega) ?_
 rw [si p i]
 exact(rz i k h).2
theorem lG(h: ∀ j,j<i→lq p j)(hi:lq p i): ∀ j,j<i+1→lq p j:=fun j hj=>by
 rcases JY j i with h5|h5
 ·exact h j h5
 ·obtain rfl:j=i:=by omega
  exact hi
theorem qf(hp:p.length=1024):Fnc Tryz.prog 35 [.agg (pgS p)] H nx
 (fun q=>nx≤q.2.2∧(∀ m,m<nx→q.2.1.at' m=H.at' m)∧((bl p=false∧q.1 = .tup [dA,.sc (.bool false)])∨(bl p=true∧ ∃ r,q.1 = .tup [.slu r 0 (eJ p (ae p)).length,.sc (.bool true)]∧nx≤r∧r<q.2.2∧q.2.1.at' r=some (slO (eJ p (ae p)))))):=by
 have hno: ¬ Okp p→bl p=false:=(Bh hp).2
 have hyes:Okp p→bl p=true:=(bw hp).2
 have hs0:ae p<65536:=cL p 14
 have hb0:aF p<65536:=cL p 16
 have hsl: ∀ {H:au} {nx:Nat},Fnc Tryz.prog 76 [.agg (pgS p),.sc (.int .i64 14)] H nx (fun q=>q=(.sc (.int .i64 (ae p:Int)),H,nx)):=fun {H nx}=>oY (o:=14) hp (by decide)
 refine Kp Tryz.func35 rfl rfl ?_
 repeat first|apply bv hp;rfl;(focus((repeat(exact ac));done))|apply ai;rfl|apply aL;rfl;omega;omega|apply bU;rfl;kernel_rfl;exact hsl|apply bU;rfl;kernel_rfl;exact jX hp
 refine dQ rfl rfl rfl rfl (fun h1=>?_) (fun h1=>?_)
 ·repeat apply ai;rfl
  (apply bP Tryz.func35 Tryz.results35;rfl)
  exact⟨by dsimp only;omega,fun m hm=>by(repeat(refine ab (by omega) ?_));rfl,.inl ⟨hno fun h=>by have:=h.head;omega,rfl⟩⟩
 ·repeat first|apply bv hp;rfl;(focus((repeat(exact ac));done))|apply ai;rfl|apply bU;rfl;kernel_rfl;exact jX hp
  refine dQ rfl rfl rfl rfl (fun h2=>?_) (fun h2=>?_)
  ·repeat apply ai;rfl
   (apply bP Tryz.func35 Tryz.results35;rfl)
   exact⟨by dsimp only;omega,fun m hm=>by(repeat(refine ab (by omega) ?_));rfl,.inl ⟨hno fun h=>by have:=h.top;omega,rfl⟩⟩
  ·repeat apply ai;rfl
   refine iX (d:=5) 2 92 rfl rfl ?_
   refine bu (α:=Nat×Nat) (fun x=> [(1,.ptr nx 0),(4,.sc (.int .i64 (ae p:Int))),(5,.slu x.2 0 (eJ p x.1).length),(6,.sc (.int .i64 (x.1:Int)))])
    (fun x H1 n1=>x.1≤ae p∧(∀ j,j<x.1→lq p j)∧(x.1=ae p→0<ae p→aq p (ae p-1)≠0)∧nx<x.2∧x.2<n1∧H1.at' x.2=some (slO (eJ p x.1))∧H1.at' nx=some (pgO p)∧ ∀ m,m<nx→H1.at' m=H.at' m) (fun x=>ae p-x.1) (0,nx+1)
    ⟨JL _,fun j hj=>absurd hj (Nat.not_lt_zero _),fun h1 h2=>absurd h1 (by dsimp only;omega),Nat.lt_succ_self _,Nat.lt_succ_self _,by repeat(exact ac),by repeat(first|exact ac|refine ab (by omega) ?_),fun m hm=>by(repeat(refine ab (by omega) ?_));rfl⟩ (Kv (Ky rfl)) ?_
   rintro⟨i,r⟩ H1 n1 ⟨i1,i2,i3,i4,i5,i6,i7,i8⟩ ih
   dsimp only at i1 i2 i3 i4 i5 i6 i7 i8 ⊢
   repeat apply ai;rfl
   refine bh rfl rfl rfl rfl (fun h3=>?_) (fun h3=>?_)
   ·have hi:i<ae p:=by omega
    have hn1: ∀ {H:au} {nx:Nat},Fnc Tryz.prog 76 [.agg (pgS p),.sc (.int .i64 (18+4*(i:Int)))] H nx (fun q=>q=(.sc (.int .i64 (az p i:Int)),H,nx)):=fun {H nx}=>by
     have:=oY (H:=H) (nx:=nx) (o:=18+4*i) hp (by omega)
     rw [show((18+4*i:Nat):Int)=18+4*(i:Int) by omega] at this
     exact this
    have hn2: ∀ {H:au} {nx:Nat},Fnc Tryz.prog 76 [.agg (pgS p),.sc (.int .i64 (18+4*(i:Int)+2))] H nx (fun q=>q=(.sc (.int .i64 (aq p i:Int)),H,nx)):=fun {H nx}=>by
     have:=oY (H:=H) (nx:=nx) (o:=18+4*i+2) hp (by omega)
     rw [show((18+4*i+2:Nat):Int)=18+4*(i:Int)+2 by omega] at this
     exact this
    repeat apply ai;rfl
    (apply gB;(focus(kernel_rfl));(focus(kernel_rfl)))
    refine dW 4 (Jw rfl) ?_
    repeat first|refine cg rfl rfl rfl (F.ag _ rfl) i7 (bf hp) ?_|apply aU;rfl|refine bk (aw rfl rfl (.inl ⟨rfl,(Js _ ⟨(by focus(omega)),(by focus(omega))⟩).symm⟩)) rfl rfl rfl ?_|refine bk (aw rfl rfl (.inr (.inr ⟨rfl,(Js _ ⟨(by focus(omega)),(by focus(omega))⟩).symm⟩))) rfl rfl rfl ?_
    refine aA ?_;(apply dX;rfl;rfl;rfl;(focus(kernel_rfl));exact(hn1))
    refine dW 5 (Jw rfl) ?_
    repeat first|refine cg rfl rfl rfl (F.ag _ rfl) i7 (bf hp) ?_|apply aU;rfl|refine bk (aw rfl rfl (.inl ⟨rfl,(Js _ ⟨(by focus(omega)),(by focus(omega))⟩).symm⟩)) rfl rfl rfl ?_|refine bk (aw rfl rfl (.inr (.inr ⟨rfl,(Js _ ⟨(by focus(omega)),(by focus(omega))⟩).symm⟩))) rfl rfl rfl ?_
    refine aA ?_;(apply dX;rfl;rfl;rfl;(focus(kernel_rfl));exact(hn2))
    refine jw ?_
    repeat first|apply aU;rfl|refine pW (fj (F.zl _ rfl)) rfl rfl rfl ?_|refine rH (da (F.sz _ rfl) rfl rfl rfl (by repeat(first|assumption|exact ac)) (by rfl) (by exact Jw rfl) (by rfl)) rfl rfl ?_
    refine aA ⟨by kernel_rfl,?_,?_⟩;(focus(repeat(first|exact Kz|refine⟨.inl rfl,?_⟩|refine⟨.inr (.inl (by(repeat(refine⟨(by first|exact mO rfl|exact aw rfl rfl (.inl ⟨rfl,(Js _ ⟨by omega,by omega⟩).symm⟩)|exact aW (F.ag _ rfl) rfl (by(repeat(refine ab (by omega) ?_));exact i7) (bm hp)|exact aw rfl rfl (.inr (.inr ⟨rfl,(Js _ ⟨by omega,by omega⟩).symm⟩))),?_⟩));exact Kz)),?_⟩|refine⟨.inr (.inr (by(repeat(refine⟨(by exact ew rfl (by kernel_rfl) (by first|exact hn1|exact hn2)),?_⟩));exact Kz)),?_⟩)))
    dsimp only
    apply cT (R:=fun H2 n2=>n2=n1+1∧H2.at' n1=some (sbO (az p i) (aq p i))∧H2.at' r=some (slO (eJ p i))∧H2.at' nx=some (pgO p)∧ ∀ m,m<nx→H2.at' m=H.at' m)
    focus exact⟨rfl,by repeat(exact ac),by repeat(first|assumption|refine ab (by omega) ?_),by repeat(first|assumption|refine ab (by omega) ?_),fun m hm=>by(repeat(refine ab (by omega) ?_));exact i8 m hm⟩
    rintro H2 n2 ⟨rfl,j1,j2,j3,j4⟩
    have hf0:az p i<65536:=cL p _
    have hf1:aq p i<65536:=cL p _
    have hll:=eO p i
    by_cases hz:az p i=0∧aq p i=0
    ·have hso:lq p i:= .inl hz
     repeat first|apply ai;rfl|apply aH;rfl;assumption;rfl|apply dK;rfl;omega
     by_cases hl:i+1=ae p
     ·(apply bg;(focus(kernel_rfl));(focus(kernel_rfl)))
      repeat first|apply aU;rfl|refine bk (aw rfl rfl (.inr (.inl ⟨rfl,(Js _ ⟨(by focus(omega)),(by focus(omega))⟩).symm⟩))) rfl rfl rfl ?_|apply cv;rfl;rfl|refine lQ rfl rfl rfl rfl (fun _=>?_) (fun hq=>absurd hq (by omega))
      refine aA ⟨by kernel_rfl,?_,?_⟩;(focus(repeat(first|exact Kz|apply uO;rfl|apply gq;rfl;kernel_rfl|refine⟨.inr ⟨0,by kernel_rfl,AllH.all (fun _=>(by(exact aw rfl rfl (.inr (.inl ⟨rfl,(Js _ ⟨by omega,by omega⟩).symm⟩))))) _⟩,?_⟩|apply ml;kernel_rfl)))
      repeat apply ai;rfl
      (apply bP Tryz.func35 Tryz.results35;rfl)
      exact⟨by dsimp only;omega,j4,.inl ⟨hno fun h=>h.last (by omega) (by rw [← hl];exact hz.2),rfl⟩⟩
     ·(apply bg;(focus(kernel_rfl));(focus(kernel_rfl)))
      repeat first|apply aU;rfl|refine bk (aw rfl rfl (.inr (.inl ⟨rfl,(Js _ ⟨(by focus(omega)),(by focus(omega))⟩).symm⟩))) rfl rfl rfl ?_|apply cv;rfl;rfl|refine lQ rfl rfl rfl rfl (fun hq=>absurd hq (by omega)) (fun _=>?_)
      refine aA ⟨by kernel_rfl,?_,?_⟩;(focus(repeat(first|exact Kz|apply uO;rfl|apply gq;rfl;kernel_rfl|refine⟨.inr ⟨0,by kernel_rfl,AllH.all (fun _=>(by(exact aw rfl rfl (.inr (.inl ⟨rfl,(Js _ ⟨by omega,by omega⟩).symm⟩))))) _⟩,?_⟩|apply ml;kernel_rfl)))
      repeat apply ai;rfl
      have hlast:i+1=ae p→0<ae p→aq p (ae p-1)≠0:=fun h=>absurd h hl
      refine nV ?_
      repeat apply ai;rfl
      refine bh rfl rfl rfl rfl (fun _=>?_) (fun _=>?_)
      ·((try dsimp only);(repeat(first|apply ai;rfl|apply aH;rfl;assumption;rfl|apply aL;rfl;omega;omega|apply bq;rfl;rfl;exact(F.un _ rfl);exact(F.sz _ rfl);rfl;exact(F.ze _ rfl);rfl;rfl;rfl;rfl;rfl|refine ll (b:=16) (xs:=eJ p i) (a:=(az p i,aq p i)) rfl rfl rfl rfl (F.un _ rfl) (.inl ⟨_,F.un _ rfl⟩) (F.sz _ rfl) rfl (by kernel_rfl) (by kernel_rfl) (by repeat(first|assumption|refine ab (by omega) ?_)) (by repeat(exact ac)) (by rfl) (qL) (by omega) (by omega) ?_));rw [← mL];exact ih _ _ _ (i+1,n1+1+1) ⟨hi,lG i2 hso,hlast,by dsimp only;omega,by dsimp only;omega,by repeat(exact ac),by repeat(first|assumption|refine ab (by omega) ?_|refine bQ (by omega) ?_),fun m hm=>by(repeat(first|refine ab (by omega) ?_|refine bQ (by omega) ?_));exact j4 m hm⟩ (by dsimp only;omega) (Kv (Ky rfl)))
      ·((try dsimp only);(repeat(first|apply ai;rfl|apply aH;rfl;assumption;rfl|apply aL;rfl;omega;omega|apply bq;rfl;rfl;exact(F.un _ rfl);exact(F.sz _ rfl);rfl;exact(F.ze _ rfl);rfl;rfl;rfl;rfl;rfl|refine ll (b:=16) (xs:=eJ p i) (a:=(az p i,aq p i)) rfl rfl rfl rfl (F.un _ rfl) (.inl ⟨_,F.un _ rfl⟩) (F.sz _ rfl) rfl (by kernel_rfl) (by kernel_rfl) (by repeat(first|assumption|refine ab (by omega) ?_)) (by repeat(exact ac)) (by rfl) (qL) (by omega) (by omega) ?_));rw [← mL];exact ih _ _ _ (i+1,n1+1+1) ⟨hi,lG i2 hso,hlast,by dsimp only;omega,by dsimp only;omega,by repeat(exact ac),by repeat(first|assumption|refine ab (by omega) ?_|refine bQ (by omega) ?_),fun m hm=>by(repeat(first|refine ab (by omega) ?_|refine bQ (by omega) ?_));exact j4 m hm⟩ (by dsimp only;omega) (Kv (Ky rfl)))
    ·by_cases hf:az p i=0
     ·have hzz:aq p i≠0:=fun h=>hz ⟨hf,h⟩
      repeat first|apply ai;rfl|apply aH;rfl;assumption;rfl|apply dK;rfl;omega|apply ig;rfl;omega
      by_cases b1:aq p i<1
      ·((apply bg;(focus(kernel_rfl));(focus(kernel_rfl)));(repeat(first|apply dD;rfl;assumption;rfl|apply aU;rfl|apply cv;rfl;rfl|refine cN rfl rfl rfl rfl (fun _=>?_) (fun hq=>absurd hq (by omega))));refine aA ⟨by kernel_rfl,?_,?_⟩;(focus(repeat(first|exact Kz|apply uO;rfl|apply gq;rfl;kernel_rfl|refine f9 0 rfl (by kernel_rfl) (by(repeat(refine⟨(by(exact an (F.ag _ rfl) rfl (by assumption) (aC rfl))),?_⟩));exact Kz) ?_|apply ml;kernel_rfl)));(repeat(apply ai;rfl));(apply bP Tryz.func35 Tryz.results35;rfl);exact⟨by dsimp only;omega,j4,.inl ⟨hno fun h=>(by have:=h.slot i hi;omega),rfl⟩⟩)
      by_cases b2:1000<aq p i
      ·((apply bg;(focus(kernel_rfl));(focus(kernel_rfl)));(repeat(first|apply dD;rfl;assumption;rfl|apply aU;rfl|apply cv;rfl;rfl|refine cN rfl rfl rfl rfl (fun hq=>absurd hq (by omega)) (fun _=>?_)|refine fI rfl rfl rfl rfl (fun _=>?_) (fun hq=>absurd hq (by omega))));refine aA ⟨by kernel_rfl,?_,?_⟩;(focus(repeat(first|exact Kz|apply uO;rfl|apply gq;rfl;kernel_rfl|refine f9 0 rfl (by kernel_rfl) (by(repeat(refine⟨(by(exact an (F.ag _ rfl) rfl (by assumption) (aC rfl))),?_⟩));exact Kz) ?_|apply ml;kernel_rfl)));(repeat(apply ai;rfl));(apply bP Tryz.func35 Tryz.results35;rfl);exact⟨by dsimp only;omega,j4,.inl ⟨hno fun h=>(by have:=h.slot i hi;omega),rfl⟩⟩)
      have b3:az p i<aF p:=by omega
      ((apply bg;(focus(kernel_rfl));(focus(kernel_rfl)));(repeat(first|refine cg rfl rfl rfl (F.ag _ rfl) j3 (bf hp) ?_|apply b8;rfl;rfl;rfl;(focus(kernel_rfl));exact(jX hp)|apply dD;rfl;assumption;rfl|apply aU;rfl|apply cv;rfl;rfl|refine cN rfl rfl rfl rfl (fun _=>?_) (fun hq=>absurd hq (by omega))|refine cN rfl rfl rfl rfl (fun hq=>absurd hq (by omega)) (fun _=>?_)|refine fI rfl rfl rfl rfl (fun hq=>absurd hq (by omega)) (fun _=>?_)));refine aA ⟨by kernel_rfl,?_,?_⟩;(focus(repeat(first|exact Kz|apply li;rfl|apply uO;rfl|apply gq;rfl;kernel_rfl|refine f9 0 rfl (by kernel_rfl) (by(repeat(refine⟨(by first|exact an (F.ag _ rfl) rfl (by assumption) (aC rfl)|exact aW (F.ag _ rfl) rfl (by assumption) (bm hp)),?_⟩));exact Kz) ?_|apply ml;kernel_rfl)));(repeat(apply ai;rfl));(apply bP Tryz.func35 Tryz.results35;rfl);exact⟨by dsimp only;omega,j4,.inl ⟨hno fun h=>(by have:=h.slot i hi;omega),rfl⟩⟩)
     ·repeat first|apply ai;rfl|apply aH;rfl;assumption;rfl|apply ig;rfl;omega
      by_cases b1:aq p i<1
      ·((apply bg;(focus(kernel_rfl));(focus(kernel_rfl)));(repeat(first|apply dD;rfl;assumption;rfl|apply aU;rfl|apply cv;rfl;rfl|refine cN rfl rfl rfl rfl (fun _=>?_) (fun hq=>absurd hq (by omega))));refine aA ⟨by kernel_rfl,?_,?_⟩;(focus(repeat(first|exact Kz|apply uO;rfl|apply gq;rfl;kernel_rfl|refine f9 0 rfl (by kernel_rfl) (by(repeat(refine⟨(by(exact an (F.ag _ rfl) rfl (by assumption) (aC rfl))),?_⟩));exact Kz) ?_|apply ml;kernel_rfl)));(repeat(apply ai;rfl));(apply bP Tryz.func35 Tryz.results35;rfl);exact⟨by dsimp only;omega,j4,.inl ⟨hno fun h=>(by have:=h.slot i hi;omega),rfl⟩⟩)
      by_cases b2:1000<aq p i
      ·((apply bg;(focus(kernel_rfl));(focus(kernel_rfl)));(repeat(first|apply dD;rfl;assumption;rfl|apply aU;rfl|apply cv;rfl;rfl|refine cN rfl rfl rfl rfl (fun hq=>absurd hq (by omega)) (fun _=>?_)|refine fI rfl rfl rfl rfl (fun _=>?_) (fun hq=>absurd hq (by omega))));refine aA ⟨by kernel_rfl,?_,?_⟩;(focus(repeat(first|exact Kz|apply uO;rfl|apply gq;rfl;kernel_rfl|refine f9 0 rfl (by kernel_rfl) (by(repeat(refine⟨(by(exact an (F.ag _ rfl) rfl (by assumption) (aC rfl))),?_⟩));exact Kz) ?_|apply ml;kernel_rfl)));(repeat(apply ai;rfl));(apply bP Tryz.func35 Tryz.results35;rfl);exact⟨by dsimp only;omega,j4,.inl ⟨hno fun h=>(by have:=h.slot i hi;omega),rfl⟩⟩)
      by_cases b3:az p i<aF p
      ·((apply bg;(focus(kernel_rfl));(focus(kernel_rfl)));(repeat(first|refine cg rfl rfl rfl (F.ag _ rfl) j3 (bf hp) ?_|apply b8;rfl;rfl;rfl;(focus(kernel_rfl));exact(jX hp)|apply dD;rfl;assumption;rfl|apply aU;rfl|apply cv;rfl;rfl|refine cN rfl rfl rfl rfl (fun _=>?_) (fun hq=>absurd hq (by omega))|refine cN rfl rfl rfl rfl (fun hq=>absurd hq (by omega)) (fun _=>?_)|refine fI rfl rfl rfl rfl (fun hq=>absurd hq (by omega)) (fun _=>?_)));refine aA ⟨by kernel_rfl,?_,?_⟩;(focus(repeat(first|exact Kz|apply li;rfl|apply uO;rfl|apply gq;rfl;kernel_rfl|refine f9 0 rfl (by kernel_rfl) (by(repeat(refine⟨(by first|exact an (F.ag _ rfl) rfl (by assumption) (aC rfl)|exact aW (F.ag _ rfl) rfl (by assumption) (bm hp)),?_⟩));exact Kz) ?_|apply ml;kernel_rfl)));(repeat(apply ai;rfl));(apply bP Tryz.func35 Tryz.results35;rfl);exact⟨by dsimp only;omega,j4,.inl ⟨hno fun h=>(by have:=h.slot i hi;omega),rfl⟩⟩)
      by_cases b4:1024<az p i+aq p i
      ·((apply bg;(focus(kernel_rfl));(focus(kernel_rfl)));(repeat(first|refine cg rfl rfl rfl (F.ag _ rfl) j3 (bf hp) ?_|apply b8;rfl;rfl;rfl;(focus(kernel_rfl));exact(jX hp)|apply dD;rfl;assumption;rfl|apply aU;rfl|refine bk (aw rfl rfl (.inl ⟨rfl,(Js _ ⟨(by focus(omega)),(by focus(omega))⟩).symm⟩)) rfl rfl rfl ?_|apply cv;rfl;rfl|refine cN rfl rfl rfl rfl (fun hq=>absurd hq (by omega)) (fun _=>?_)|refine fI rfl rfl rfl rfl (fun _=>?_) (fun hq=>absurd hq (by omega))|refine fI rfl rfl rfl rfl (fun hq=>absurd hq (by omega)) (fun _=>?_)));refine aA ⟨by kernel_rfl,?_,?_⟩;(focus(repeat(first|exact Kz|apply li;rfl|apply uO;rfl|apply gq;rfl;kernel_rfl|refine⟨.inr ⟨0,by kernel_rfl,AllH.all (fun _=>(by(exact aw rfl rfl (.inl ⟨rfl,(Js _ ⟨by omega,by omega⟩).symm⟩)))) _⟩,?_⟩|refine f9 0 rfl (by kernel_rfl) (by(repeat(refine⟨(by first|exact an (F.ag _ rfl) rfl (by assumption) (aC rfl)|exact aW (F.ag _ rfl) rfl (by assumption) (bm hp)),?_⟩));exact Kz) ?_|apply ml;kernel_rfl)));(repeat(apply ai;rfl));(apply bP Tryz.func35 Tryz.results35;rfl);exact⟨by dsimp only;omega,j4,.inl ⟨hno fun h=>(by have:=h.slot i hi;omega),rfl⟩⟩)
      ((apply bg;(focus(kernel_rfl));(focus(kernel_rfl)));(repeat(first|refine cg rfl rfl rfl (F.ag _ rfl) j3 (bf hp) ?_|apply b8;rfl;rfl;rfl;(focus(kernel_rfl));exact(jX hp)|apply dD;rfl;assumption;rfl|apply aU;rfl|refine bk (aw rfl rfl (.inl ⟨rfl,(Js _ ⟨(by focus(omega)),(by focus(omega))⟩).symm⟩)) rfl rfl rfl ?_|apply cv;rfl;rfl|refine cN rfl rfl rfl rfl (fun hq=>absurd hq (by omega)) (fun _=>?_)|refine fI rfl rfl rfl rfl (fun hq=>absurd hq (by omega)) (fun _=>?_)));refine aA ⟨by kernel_rfl,?_,?_⟩;(focus(repeat(first|exact Kz|apply li;rfl|apply uO;rfl|apply gq;rfl;kernel_rfl|refine⟨.inr ⟨0,by kernel_rfl,AllH.all (fun _=>(by(exact aw rfl rfl (.inl ⟨rfl,(Js _ ⟨by omega,by omega⟩).symm⟩)))) _⟩,?_⟩|refine f9 0 rfl (by kernel_rfl) (by(repeat(refine⟨(by first|exact an (F.ag _ rfl) rfl (by assumption) (aC rfl)|exact aW (F.ag _ rfl) rfl (by assumption) (bm hp)),?_⟩));exact Kz) ?_|apply ml;kernel_rfl)));(repeat(apply ai;rfl));(try dsimp only))
      refine bu (α:=Nat) (fun k=> [(1,.ptr nx 0),(4,.sc (.int .i64 (ae p:Int))),(5,.slu r 0 (eJ p i).length),(6,.sc (.int .i64 (i:Int))),(7,.ptr n1 0),(8,.sc (.bool false)),(9,.sc (.int .i64 (k:Int)))])
       (fun k H3 n3=>k≤i∧(∀ k',k'<k→aq p k'≠0→az p k'+aq p k'≤az p i∨az p i+aq p i≤az p k')∧n3=n1+1∧H3.at' n1=some (sbO (az p i) (aq p i))∧H3.at' r=some (slO (eJ p i))∧H3.at' nx=some (pgO p)∧ ∀ m,m<nx→H3.at' m=H.at' m) (fun k=>i-k) 0
       ⟨JL _,fun k' h5=>absurd h5 (Nat.not_lt_zero _),rfl,j1,j2,j3,j4⟩ (Kv (Ky rfl)) ?_
      clear j1 j2 j3 j4
      rintro k H3 n3 ⟨k1,k2,rfl,j1,j2,j3,j4⟩ ihk
      repeat apply ai;rfl
      refine bh rfl rfl rfl rfl (fun h5=>?_) (fun h5=>?_)
      ·have hki:k<i:=by omega
       have hkf:az p k<65536:=cL p _
       have hkg:aq p k<65536:=cL p _
       have hcS:=iA p hki
       have hcF:=jI p hki
       repeat apply ai;rfl
       by_cases c1:0<aq p k∧az p k<az p i+aq p i∧az p i<az p k+aq p k
       ·((apply bg;(focus(kernel_rfl));(focus(kernel_rfl)));(repeat(first|refine bk (an (F.ag _ rfl) rfl j2 hcS) rfl rfl rfl ?_|refine bk (an (F.ag _ rfl) rfl j2 hcF) rfl rfl rfl ?_|apply dD;rfl;assumption;rfl|refine aJ (q:=k) rfl rfl rfl rfl (F.un _ rfl) (F.sz _ rfl) (by assumption) (by omega) (by(omega)) (JK _) ?_|apply aU;rfl|refine bk (aw rfl rfl (.inl ⟨rfl,(Js _ ⟨(by focus(omega)),(by focus(omega))⟩).symm⟩)) rfl rfl rfl ?_|refine cN rfl rfl rfl rfl (fun _=>?_) (fun hq=>absurd hq (by omega))|refine fI rfl rfl rfl rfl (fun _=>?_) (fun hq=>absurd hq (by omega))));refine aA ⟨by kernel_rfl,?_,?_⟩;(focus(repeat(first|exact Kz|apply gq;rfl;kernel_rfl|refine⟨.inr ⟨0,by kernel_rfl,AllH.all (fun _=>(by(exact aw rfl rfl (.inl ⟨rfl,(Js _ ⟨by omega,by omega⟩).symm⟩)))) _⟩,?_⟩|refine f9 0 rfl (by kernel_rfl) (by(repeat(refine⟨(by first|exact an (F.ag _ rfl) rfl (by assumption) (aC rfl)|exact an (F.ag _ rfl) rfl j2 hcS|exact an (F.ag _ rfl) rfl j2 hcF|exact aQ (F.un _ rfl) (F.sz _ rfl) rfl rfl j2 rfl (by omega) (JK _)),?_⟩));exact Kz) ?_|apply ml;kernel_rfl)));(repeat(apply ai;rfl)))
        (apply bP Tryz.func35 Tryz.results35;rfl)
        exact⟨by dsimp only;omega,j4,.inl ⟨hno fun h=>(by have:=h.apart k i hki hi (by omega) (by omega);omega),rfl⟩⟩
       have hk3: ∀ k',k'<k+1→aq p k'≠0→az p k'+aq p k'≤az p i∨az p i+aq p i≤az p k':=fun k' h6 h7=>by
        rcases JY k' k with h8|h8
        ·exact k2 k' h8 h7
        ·obtain rfl:k'=k:=by omega
         omega
       by_cases c2:0<aq p k
       ·by_cases c3:az p k<az p i+aq p i
        ·((apply bg;(focus(kernel_rfl));(focus(kernel_rfl)));(repeat(first|refine bk (an (F.ag _ rfl) rfl j2 hcS) rfl rfl rfl ?_|refine bk (an (F.ag _ rfl) rfl j2 hcF) rfl rfl rfl ?_|apply dD;rfl;assumption;rfl|refine aJ (q:=k) rfl rfl rfl rfl (F.un _ rfl) (F.sz _ rfl) (by assumption) (by omega) (by(omega)) (JK _) ?_|apply aU;rfl|refine bk (aw rfl rfl (.inl ⟨rfl,(Js _ ⟨(by focus(omega)),(by focus(omega))⟩).symm⟩)) rfl rfl rfl ?_|refine cN rfl rfl rfl rfl (fun _=>?_) (fun hq=>absurd hq (by omega))|refine cN rfl rfl rfl rfl (fun hq=>absurd hq (by omega)) (fun _=>?_)|refine fI rfl rfl rfl rfl (fun _=>?_) (fun hq=>absurd hq (by omega))));refine aA ⟨by kernel_rfl,?_,?_⟩;(focus(repeat(first|exact Kz|apply gq;rfl;kernel_rfl|refine⟨.inr ⟨0,by kernel_rfl,AllH.all (fun _=>(by(exact aw rfl rfl (.inl ⟨rfl,(Js _ ⟨by omega,by omega⟩).symm⟩)))) _⟩,?_⟩|refine f9 0 rfl (by kernel_rfl) (by(repeat(refine⟨(by first|exact an (F.ag _ rfl) rfl (by assumption) (aC rfl)|exact an (F.ag _ rfl) rfl j2 hcS|exact an (F.ag _ rfl) rfl j2 hcF|exact aQ (F.un _ rfl) (F.sz _ rfl) rfl rfl j2 rfl (by omega) (JK _)),?_⟩));exact Kz) ?_|apply ml;kernel_rfl)));(repeat(first|apply ai;rfl|apply aL;rfl;omega;omega)))
         dsimp only
         exact ihk _ _ _ (k+1) ⟨by omega,hk3,rfl,j1,j2,j3,j4⟩ (by omega) (Kv (Ky rfl))
        ·((apply bg;(focus(kernel_rfl));(focus(kernel_rfl)));(repeat(first|refine bk (an (F.ag _ rfl) rfl j2 hcS) rfl rfl rfl ?_|refine bk (an (F.ag _ rfl) rfl j2 hcF) rfl rfl rfl ?_|apply dD;rfl;assumption;rfl|refine aJ (q:=k) rfl rfl rfl rfl (F.un _ rfl) (F.sz _ rfl) (by assumption) (by omega) (by(omega)) (JK _) ?_|apply aU;rfl|refine bk (aw rfl rfl (.inl ⟨rfl,(Js _ ⟨(by focus(omega)),(by focus(omega))⟩).symm⟩)) rfl rfl rfl ?_|apply cv;rfl;rfl|refine cN rfl rfl rfl rfl (fun hq=>absurd hq (by omega)) (fun _=>?_)|refine fI rfl rfl rfl rfl (fun _=>?_) (fun hq=>absurd hq (by omega))));refine aA ⟨by kernel_rfl,?_,?_⟩;(focus(repeat(first|exact Kz|apply uO;rfl|apply gq;rfl;kernel_rfl|refine⟨.inr ⟨0,by kernel_rfl,AllH.all (fun _=>(by(exact aw rfl rfl (.inl ⟨rfl,(Js _ ⟨by omega,by omega⟩).symm⟩)))) _⟩,?_⟩|refine f9 0 rfl (by kernel_rfl) (by(repeat(refine⟨(by first|exact an (F.ag _ rfl) rfl (by assumption) (aC rfl)|exact an (F.ag _ rfl) rfl j2 hcS|exact an (F.ag _ rfl) rfl j2 hcF|exact aQ (F.un _ rfl) (F.sz _ rfl) rfl rfl j2 rfl (by omega) (JK _)),?_⟩));exact Kz) ?_|apply ml;kernel_rfl)));(repeat(first|apply ai;rfl|apply aL;rfl;omega;omega)))
         dsimp only
         exact ihk _ _ _ (k+1) ⟨by omega,hk3,rfl,j1,j2,j3,j4⟩ (by omega) (Kv (Ky rfl))
       ·((apply bg;(focus(kernel_rfl));(focus(kernel_rfl)));(repeat(first|refine bk (an (F.ag _ rfl) rfl j2 hcS) rfl rfl rfl ?_|refine aJ (q:=k) rfl rfl rfl rfl (F.un _ rfl) (F.sz _ rfl) (by assumption) (by omega) (by(omega)) (JK _) ?_|apply aU;rfl|apply cv;rfl;rfl|refine fI rfl rfl rfl rfl (fun hq=>absurd hq (by omega)) (fun _=>?_)));refine aA ⟨by kernel_rfl,?_,?_⟩;(focus(repeat(first|exact Kz|apply uO;rfl|apply gq;rfl;kernel_rfl|refine f9 0 rfl (by kernel_rfl) (by(repeat(refine⟨(by first|exact an (F.ag _ rfl) rfl j2 hcS|exact aQ (F.un _ rfl) (F.sz _ rfl) rfl rfl j2 rfl (by omega) (JK _)),?_⟩));exact Kz) ?_|apply ml;kernel_rfl)));(repeat(first|apply ai;rfl|apply aL;rfl;omega;omega)))
        dsimp only
        exact ihk _ _ _ (k+1) ⟨by omega,hk3,rfl,j1,j2,j3,j4⟩ (by omega) (Kv (Ky rfl))
      ·have hki:k=i:=by omega
       rw [hki] at k2
       clear ihk
       have hso:lq p i:= .inr ⟨by omega,k2⟩
       have hlast:i+1=ae p→0<ae p→aq p (ae p-1)≠0:=fun h _=>by rw [← h];show aq p i≠0;omega
       ((try dsimp only);(repeat(first|apply ai;rfl|apply aH;rfl;assumption;rfl|apply aL;rfl;omega;omega|apply bq;rfl;rfl;exact(F.un _ rfl);exact(F.sz _ rfl);rfl;exact(F.ze _ rfl);rfl;rfl;rfl;rfl;rfl|refine ll (b:=16) (xs:=eJ p i) (a:=(az p i,aq p i)) rfl rfl rfl rfl (F.un _ rfl) (.inl ⟨_,F.un _ rfl⟩) (F.sz _ rfl) rfl (by kernel_rfl) (by kernel_rfl) (by repeat(first|assumption|refine ab (by omega) ?_)) (by repeat(exact ac)) (by rfl) (qL) (by omega) (by omega) ?_));rw [← mL];exact ih _ _ _ (i+1,n1+1+1) ⟨hi,lG i2 hso,hlast,by dsimp only;omega,by dsimp only;omega,by repeat(exact ac),by repeat(first|assumption|refine ab (by omega) ?_|refine bQ (by omega) ?_),fun m hm=>by(repeat(first|refine ab (by omega) ?_|refine bQ (by omega) ?_));exact j4 m hm⟩ (by dsimp only;omega) (Kv (Ky rfl)))
   ·obtain rfl:i=ae p:=by omega
    repeat apply ai;rfl
    (apply bP Tryz.func35 Tryz.results35;rfl)
    have hok:Okp p:=⟨hp,by omega,by omega,fun h=>i3 rfl h,fun j hj=>(i2 j hj).imp id And.left,fun a c h1 h2 h3 h4=>by
     rcases i2 c h2 with h5|h5
     ·exact absurd h5.2 h4
     ·exact h5.2 a h1 h3⟩
    exact⟨by dsimp only;omega,i8,.inr ⟨hyes hok,r,rfl,by omega,i5,i6⟩⟩
theorem CX(hrow:H.at' r=some (slO (eJ p (ae p)))):Fnc Tryz.prog 92 [.slu r 0 (eJ p (ae p)).length] H nx (fun q=>q=(.sc (.int .i64 (ba p:Int)),H,nx)):=by
 have hll:=eO p (ae p)
 have hs0:ae p<65536:=cL p 14
 refine Kp Tryz.func92 rfl rfl ?_
 repeat apply ai;rfl
 refine bu (α:=Nat) (fun i=> [(0,.slu r 0 (eJ p (ae p)).length),(3,.sc (.int .i64 (i:Int)))])
  (fun i H1 n1=>H1=H∧n1=nx∧i≤ae p∧dx p (ae p-i) i=ba p) (fun i=>ae p-i) 0
  ⟨rfl,rfl,JL _,rfl⟩ (Kv (Ky rfl)) ?_
 rintro i H1 n1 ⟨rfl,rfl,i1,i2⟩ ih
 repeat apply ai;rfl
 refine bh rfl rfl rfl rfl (fun h3=>?_) (fun h3=>?_)
 ·have hi:i<ae p:=by omega
  have hg:aq p i<65536:=cL p _
  have hcS:=iA p hi
  have hgo:dx p (ae p-i) i=if aq p i=0 then i else dx p (ae p-(i+1)) (i+1):=by
   rw [show ae p-i=(ae p-(i+1))+1 by omega]
   rfl
  repeat first|refine di (q:=i) rfl rfl rfl rfl (F.un _ rfl) (F.sz _ rfl) (by assumption) (by omega) (by(omega)) (JK _) ?_|refine cd (an (F.ag _ rfl) rfl hrow hcS) rfl rfl rfl ?_|apply ai;rfl
  refine cI rfl rfl rfl rfl (fun h4=>?_) (fun h4=>?_)
  ·rw [hgo,JW (by omega)] at i2
   repeat apply ai;rfl
   (apply bP Tryz.func92 Tryz.results92;rfl)
   rw [← i2]
   rfl
  ·rw [hgo,JV (by omega)] at i2
   repeat first|apply ai;rfl|apply aL;rfl;omega;omega
   exact ih _ _ _ (i+1) ⟨rfl,rfl,by omega,i2⟩ (by omega) (Kv (Ky rfl))
 ·have hi:i=ae p:=by omega
  rw [hi,Nat.sub_self] at i2
  have i2:ae p=ba p:=i2
  repeat apply ai;rfl
  (apply bP Tryz.func92 Tryz.results92;rfl)
  rw [hll,i2]
  rfl
theorem ud(hp:p.length=1024):Fnc Tryz.prog 47 [.agg (pgS p)] H nx (fun q=>q=(.sc (.int .i64 (ff p:Int)),H,nx)):=by
 refine Fnc.bz (Free.sc _) ?_
 have hll:=eO p (ae p)
 have hs0:ae p<65536:=cL p 14
 have hb0:aF p<65536:=cL p 16
 refine Kp Tryz.func47 rfl rfl ?_
 repeat first|apply bv hp;rfl;(focus((repeat(exact ac));done))|apply ai;rfl
 refine aI rfl rfl rfl (by kernel_rfl) (Ko (qf hp) ?_)
 rintro⟨_,H2,n2⟩ ⟨g1,g2,(⟨hr,rfl⟩|⟨hr,r,rfl,g3,g4,g5⟩)⟩
 ·dsimp only at g1 g2 ⊢
  have hv:ff p=0:=by unfold ff;rw [hr];rfl
  rw [hv]
  repeat apply ai;rfl
  (apply bP Tryz.func47 Tryz.results47;rfl)
  exact⟨rfl,by dsimp only;omega,fun m hm=>(g2 m (by omega)).trans (by(repeat(refine ab (by omega) ?_));rfl)⟩
 ·dsimp only at g1 g2 g3 g4 g5 ⊢
  have hok:=(bw hp).1 hr
  have hh:=hok.head
  have he:=pn p
  have hv:ff p=aF p-18-4*ae p-(if ba p=ae p then 4 else 0):=by unfold ff;rw [hr];rfl
  have hb:H2.at' nx=some (pgO p):=(g2 _ (by omega)).trans (by repeat(exact ac))
  have ho: ∀ m,m<nx→H2.at' m=H.at' m:=fun m hm=>(g2 m (by omega)).trans (by(repeat(refine ab (by omega) ?_));rfl)
  repeat first|apply bv hp;rfl;assumption|apply ai;rfl|apply aL;rfl;omega;omega|apply bU;rfl;kernel_rfl;exact jX hp|apply bU;rfl;kernel_rfl;exact CX g5
  refine cI rfl rfl rfl rfl (fun e1=>?_) (fun e1=>?_)
  ·rw [JW (by omega)] at hv
   repeat first|apply ai;rfl|apply aL;rfl;omega;omega
   refine bh rfl rfl rfl rfl (fun e2=>?_) (fun e2=>?_)
   ·repeat apply ai;rfl
    (apply bP Tryz.func47 Tryz.results47;rfl)
    exact⟨by rw [show ff p=0 by omega];rfl,by dsimp only;omega,ho⟩
   ·repeat apply ai;rfl
    (apply bP Tryz.func47 Tryz.results47;rfl)
    exact⟨congrArg (fun z:Int=>SV.sc (.int .i64 z)) (by omega),by dsimp only;omega,ho⟩
  ·rw [JV (by omega)] at hv
   repeat apply ai;rfl
   refine bh rfl rfl rfl rfl (fun e2=>absurd e2 (by omega)) (fun e2=>?_)
   repeat apply ai;rfl
   (apply bP Tryz.func47 Tryz.results47;rfl)
   exact⟨congrArg (fun z:Int=>SV.sc (.int .i64 z)) (by omega),by dsimp only;omega,ho⟩
def CV(p:List UInt8)(n:Nat)(it:List UInt8):List UInt8:=cp (cp (cp (be p (aF p-it.length) it) 16 (aF p-it.length)) (18+4*n) (aF p-it.length)) (18+4*n+2) it.length
theorem qS(h:a+it.length≤p.length)(hi:i<it.length):(be p a (it.take i)).set (a+i) (it[i])=be p a (it.take (i+1)):=by
 have h1:(it.take i).length=i:=by rw [JZ];omega
 have h2:(it.take (i+1)).length=i+1:=by rw [JZ];omega
 refine Kg fun j=>?_
 rw [List.getElem?_set,cJ (by omega),cJ (by omega),h1,h2,bM (by omega),List.getElem?_take,List.getElem?_take]
 by_cases h3:a+i=j
 ·subst h3
  rw [JW rfl,JW (by omega),JW (by omega),show a+i-a=i by omega,JW (by omega),Ju hi]
 ·rw [JV h3]
  by_cases h4:a≤j∧j<a+i
  ·rw [JW h4,JW (by omega),JW (by omega),JW (by omega)]
  ·rw [JV h4,JV (by omega)]
theorem CU(hp:p.length=1024)(hB:BsIs H s (byV it))(h1:it.length≤aF p)(h2:aF p≤1024)(h3:18+4*n+4≤1024):Fnc Tryz.prog 94 [.agg (pgS p),.sc (.int .i64 (n:Int)),s] H nx (fun q=>q=(.agg (pgS (CV p n it)),H,nx)):=by
 refine Fnc.bz (Free.agg _) ?_
 have hbl:=bN it
 have hP:=bM (p:=p) (o:=aF p-it.length) (l:=it) (by omega)
 refine Kp Tryz.func94 rfl rfl ?_
 refine aX fun hund=>?_
 have hB1: ∀ H1:au,(∀ m,m<nx→H1.at' m=H.at' m)→BsIs H1 s (byV it):=fun H1 h=>hB.frame fun b vo hb=>(h b (hund b vo hb)).trans hb
 repeat first|apply bv hp;rfl;(focus((repeat(first|exact ac|refine ab (by omega) ?_));done))|refine aZ rfl rfl cj ?_|apply ai;rfl|apply cD;rfl|apply aL;rfl;omega;omega|apply bU;rfl;kernel_rfl;exact jX hp|refine dn rfl rfl (F.un _ rfl) rfl (hB1 _ fun m hm=>by(repeat(refine ab (by omega) ?_));rfl) ?_;rw [hbl]
 rw [show((aF p:Nat):Int)-(it.length:Int)=((aF p-it.length:Nat):Int) by omega]
 refine bu (α:=Nat) (fun i=> [(1,.sc (.int .i64 (n:Int))),(2,s),(3,.ptr nx 0),(6,.ptr (nx+1) 0),(7,.sc (.int .i64 ((aF p-it.length:Nat):Int))),(8,.sc (.int .i64 (i:Int)))])
  (fun i H1 n1=>n1=nx+1+1∧i≤it.length∧H1.at' nx=some (pgO (be p (aF p-it.length) (it.take i)))∧H1.at' (nx+1)=some (pgO zeroP)∧ ∀ m,m<nx→H1.at' m=H.at' m) (fun i=>it.length-i) 0
  ⟨rfl,JL _,by rw [List.take_zero,show be p (aF p-it.length) []=p by simp [be]];(focus((repeat(first|exact ac|refine ab (by omega) ?_));done)),by repeat(exact ac),fun m hm=>by(repeat(refine ab (by omega) ?_));rfl⟩ (Kv (Ky rfl)) ?_
 rintro i H1 n1 ⟨rfl,i1,i2,i3,i4⟩ ih
 have hpi:(be p (aF p-it.length) (it.take i)).length=1024:=(bM (by rw [JZ];omega)).trans hp
 repeat first|apply cD;rfl|(apply dn;rfl;rfl;exact(F.un _ rfl);rfl;exact(hB1 _ i4));rw [hbl]
 refine bh rfl rfl rfl rfl (fun h5=>?_) (fun h5=>?_)
 ·have hi:i<it.length:=by omega
  repeat first|apply ai;rfl|apply aL;rfl;omega;omega
  refine(yq rfl rfl rfl rfl (F.un _ rfl) (F.sz _ rfl) (hB1 _ i4) (j:=i) (by rw [hbl];exact hi) ?_)
  intro b o vo hb hc
  rw [rP] at hc
  have hi2:i<(byV it).length:=by omega
  repeat refine cd (an (F.ag _ rfl) rfl hb hc) rfl rfl rfl ?_
  (apply gA (q:=aF p-it.length+i);rfl;rfl;rfl;rfl;exact(F.un _ rfl);exact(F.sz _ rfl);(focus(omega));(focus(omega)))
  rw [show 0+(aF p-it.length+i)*1=aF p-it.length+i by omega]
  refine dq (cs:=pgS (be p (aF p-it.length) (it.take i))) rfl rfl rfl (F.sz _ rfl) (by assumption) rfl (Jy (by rw [bf hpi];omega)) ?_
  rw [ny,qS (by omega) hi]
  repeat first|apply ai;rfl|apply aL;rfl;omega;omega
  exact ih _ _ _ (i+1) ⟨rfl,by omega,by repeat(exact ac),by repeat(first|assumption|refine ab (by omega) ?_),fun m hm=>by(repeat(refine ab (by omega) ?_));exact i4 m hm⟩ (by omega) (Kv (Ky rfl))
 ·have hi:i=it.length:=by omega
  rw [hi,List.take_length] at i2
  rw [hi,List.take_length] at hpi
  have hw1:=fun(H:au) nx=>gV (H:=H) (nx:=nx) (o:=16) (n:=aF p-it.length) hpi (by decide) (by omega)
  have hl1:(cp (be p (aF p-it.length) it) 16 (aF p-it.length)).length=1024:=(bD (by omega)).trans hpi
  have hw2:=fun(H:au) nx=>gV (H:=H) (nx:=nx) (o:=18+4*n) (n:=aF p-it.length) hl1 (by omega) (by omega)
  have hl2:(cp (cp (be p (aF p-it.length) it) 16 (aF p-it.length)) (18+4*n) (aF p-it.length)).length=1024:=(bD (by omega)).trans hl1
  have hw3:=fun(H:au) nx=>gV (H:=H) (nx:=nx) (o:=18+4*n+2) (n:=it.length) hl2 (by omega) (by omega)
  have hl3:(CV p n it).length=1024:=(bD (by omega)).trans hl2
  have hl5:cp (cp (cp (be p (aF p-it.length) it) 16 (aF p-it.length)) (18+4*n) (aF p-it.length)) (18+4*n+2) it.length=CV p n it:=rfl
  rw [hl5] at hw3
  rw [show((18+4*n:Nat):Int)=18+4*(n:Int) by omega] at hw2
  rw [show((18+4*n+2:Nat):Int)=18+4*(n:Int)+2 by omega] at hw3
  generalize CV p n it=pL at hl3 hw3 ⊢
  clear hl5
  repeat first|apply bv hpi;rfl;assumption|apply bE hl3 aj;rfl;assumption|apply ai;rfl|apply cD;rfl|apply aL;rfl;omega;omega|apply bU;rfl;kernel_rfl;exact hw1 _ _|apply bU;rfl;kernel_rfl;exact hw2 _ _|(apply dn;rfl;rfl;exact(F.un _ rfl);rfl;exact(hB1 _ i4));rw [hbl]|apply bU;rfl;kernel_rfl;exact hw3 _ _
  ((apply bn Tryz.func94 (congrArg Array.toList Tryz.results94));(focus((apply Kr rfl (Kt (F.ag _ rfl) (by repeat(exact ac)) (bm hl3)));(repeat(exact Kq)))))
  exact⟨rfl,by dsimp only;omega,fun m hm=>by(repeat(refine ab (by omega) ?_));exact i4 m hm⟩
theorem eX{l l':List UInt8}{o o':Nat}(h1:o+l.length≤p.length)(h2:o'+l'.length≤p.length)(h:o+l.length≤o'∨o'+l'.length≤o):be (be p o l) o' l'=be (be p o' l') o l:=by
 refine Kg fun i=>?_
 rw [cJ (by rw [bM h1];exact h2),cJ h1,cJ (by rw [bM h2];exact h1),cJ h2]
 by_cases a:o'≤i∧i<o'+l'.length
 ·rw [JW a,JV (by omega),JW a]
 ·rw [JV a,JV a]
theorem BL(h:Okp p)(h2:it.length≤1000)(hroom:it.length≤fQ p)(h1:1≤it.length):CV (fv p) (ba p) it=o7 p it:=by
 have hh:=h.head
 have ht:=h.top
 have he:=(gO p).2.2
 have hmb:aF (fv p)=aF p:=jU h.len (by omega)
 have hml:=o4 h.len
 have hl:=fun n=>bp n 2
 unfold fQ at hroom
 have ha:18+4*ba p+4+it.length≤aF p:=by split at hroom <;> omega
 unfold CV o7 bL cp
 rw [hmb]
 generalize fv p=m at hml
 have l1:(be m 16 (beB (aF p-it.length) 2)).length=1024:=(bM (by rw [hl];omega)).trans hml
 have l2:(be m (18+4*ba p) (beB (aF p-it.length) 2)).length=1024:=(bM (by rw [hl];omega)).trans hml
 have l3:(be (be m 16 (beB (aF p-it.length) 2)) (18+4*ba p) (beB (aF p-it.length) 2)).length=1024:=(bM (by rw [hl];omega)).trans l1
 rw [eX (p:=m) (o:=aF p-it.length) (o':=16) (by omega) (by rw [hl];omega) (by rw [hl];omega),
  eX (o:=aF p-it.length) (o':=18+4*ba p) (by omega) (by rw [hl];omega) (by rw [hl];omega),
  eX (o:=aF p-it.length) (o':=18+4*ba p+2) (by omega) (by rw [hl];omega) (by rw [hl];omega)]
 congr 1
 rw [eX (p:=m) (o:=16) (o':=18+4*ba p) (by rw [hl];omega) (by rw [hl];omega) (by rw [hl];omega),
  eX (o:=16) (o':=18+4*ba p+2) (by rw [hl];omega) (by rw [hl];omega) (by rw [hl];omega)]
theorem z6(hp:p.length=1024)(hB:BsIs H s (byV it))(hr:bl p=true)(h2:it.length≤1000)(hroom:it.length≤fQ p)(h1:1≤it.length):Fnc Tryz.prog 49 [.agg (pgS p),s] H nx (fun q=>q=(insS (o7 p it,ba p,0),H,nx)):=by
 refine Fnc.bz (tf _) ?_
 have hok:=(bw hp).1 hr
 have hh:=hok.head
 have ht:=hok.top
 have hbl:=bN it
 have hll:=eO p (ae p)
 have hs0:ae p<65536:=cL p 14
 have he:=(gO p).2.2
 have hls:=BL hok h2 hroom h1
 have hml:=o4 hp
 have hmb:aF (fv p)=aF p:=jU hp (by omega)
 have hro:=hroom
 unfold fQ at hro
 have ha:18+4*ba p+4+it.length≤aF p:=by split at hro <;> omega
 have hlay:=fun(H:au) nx (hB:BsIs H s (byV it))=>CU (H:=H) (nx:=nx) (n:=ba p) hml hB (by omega) (by omega) (by omega)
 rw [hls] at hlay
 have hre:ff p=fQ p:=by unfold ff;rw [JW hr]
 have hlen:=(laid hok h2 hroom h1).len
 have hmo:fv p=if ba p=ae p then cp p 14 (ae p+1) else p:=by unfold fv;split;rename_i h;rw [h];rfl
 refine Kp Tryz.func49 rfl rfl ?_
 refine aX fun hund=>?_
 repeat first|apply bv hp;rfl;(focus((repeat(first|exact ac|refine ab (by omega) ?_));done))|refine aZ rfl rfl cj ?_|apply ai;rfl
 refine aI rfl rfl rfl (by kernel_rfl) (Ko (qf hp) ?_)
 rintro⟨_,H2,n2⟩ ⟨g1,g2,(⟨hr2,rfl⟩|⟨_,r,rfl,g3,g4,g5⟩)⟩
 ·rw [hr] at hr2;cases hr2
 dsimp only at g1 g2 g3 g4 g5 ⊢
 have hb:H2.at' nx=some (pgO p):=(g2 _ (by omega)).trans (by repeat(first|exact ac|refine ab (by omega) ?_))
 have hz:H2.at' (nx+1)=some (pgO zeroP):=(g2 _ (by omega)).trans (by repeat(exact ac))
 have ho: ∀ m,m<nx→H2.at' m=H.at' m:=fun m hm=>(g2 m (by omega)).trans (by(repeat(refine ab (by omega) ?_));rfl)
 have hB2: ∀ H1:au,(∀ m,m<nx→H1.at' m=H.at' m)→BsIs H1 s (byV it):=fun H1 h=>hB.frame fun b vo hb=>(h b (hund b vo hb)).trans hb
 have hro5:=fun(H:au) nx=>ud (H:=H) (nx:=nx) hp
 rw [hre] at hro5
 clear g2
 generalize o7 p it=pL at hlen hlay ⊢
 repeat first|apply bv hp;rfl;assumption|apply ai;rfl|apply cD;rfl|apply kY;rfl;omega|(apply dn;rfl;rfl;exact(F.un _ rfl);rfl;exact(hB2 _ ho));rw [hbl]|apply bU;rfl;kernel_rfl;exact hro5 _ _|apply bU;rfl;kernel_rfl;exact CX g5
 refine cI rfl rfl rfl rfl (fun e1=>?_) (fun e1=>?_)
 ·rw [JW (by omega)] at hmo
  have hw:=fun(H:au) nx=>gV (H:=H) (nx:=nx) (o:=14) (n:=ae p+1) hp (by decide) (by omega)
  rw [← hmo,show((ae p+1:Nat):Int)=((eJ p (ae p)).length:Int)+1 by omega] at hw
  generalize fv p=pm at hml hw hlay
  repeat first|apply bv hp;rfl;assumption|apply bv hml;rfl;(focus((repeat(exact ac));done))|apply bE hml hp;rfl;assumption|apply bE hlen aj;rfl;(focus((repeat(first|assumption|refine ab (by omega) ?_));done))|apply ai;rfl|apply aL;rfl;omega;omega|apply bU;rfl;kernel_rfl;exact hw _ _|apply bU;rfl;kernel_rfl;exact hlay _ _ (hB2 _ fun m hm=>by(repeat(refine ab (by omega) ?_));exact ho m hm)
  ((apply bn Tryz.func49 (congrArg Array.toList Tryz.results49));(focus((apply Kr rfl (Kt (F.ag _ rfl) (by repeat(exact ac)) (bm hlen)));(repeat(first|exact Kq|apply Ks rfl)))))
  exact⟨rfl,by dsimp only;omega,fun m hm=>by(repeat(refine ab (by omega) ?_));exact ho m hm⟩
 ·rw [JV (by omega)] at hmo
  rw [hmo] at hlay
  repeat first|apply bv hp;rfl;assumption|apply bE hlen aj;rfl;assumption|apply ai;rfl|apply bU;rfl;kernel_rfl;exact hlay _ _ (hB2 _ fun m hm=>by exact ho m hm)
  ((apply bn Tryz.func49 (congrArg Array.toList Tryz.results49));(focus((apply Kr rfl (Kt (F.ag _ rfl) (by repeat(exact ac)) (bm hlen)));(repeat(first|exact Kq|apply Ks rfl)))))
  exact⟨rfl,by dsimp only;omega,fun m hm=>by(repeat(refine ab (by omega) ?_));exact ho m hm⟩
abbrev fndS(r:Nat×Nat×Nat):SV:= .tup [.agg [.sc (.int .i64 (r.1:Int)),.sc (.int .i64 (r.2.1:Int))],.sc (.int .i64 (r.2.2:Int))]
theorem rD(hp:p.length=1024)(hr:bl p=true):Fnc Tryz.prog 90 [.agg (pgS p),.sc (.int .i64 (n:Int))] H nx (fun q=>q=(fndS (cq p n),H,nx)):=by
 refine Fnc.bz (Free.two (Free.agg [.int .i64 ((cq p n).1:Int),.int .i64 ((cq p n).2.1:Int)]) (Free.sc _)) ?_
 have hll:=eO p (ae p)
 have hs0:ae p<65536:=cL p 14
 refine Kp Tryz.func90 rfl rfl ?_
 repeat first|apply bv hp;rfl;(focus((repeat(first|exact ac|refine ab (by omega) ?_));done))|apply ai;rfl
 refine aI rfl rfl rfl (by kernel_rfl) (Ko (qf hp) ?_)
 rintro⟨_,H2,n2⟩ ⟨g1,g2,(⟨hr2,rfl⟩|⟨_,r,rfl,g3,g4,g5⟩)⟩
 ·rw [hr] at hr2;cases hr2
 dsimp only at g1 g2 g3 g4 g5 ⊢
 have hz:H2.at' (nx+1)=some (sbO 0 0):=(g2 _ (by omega)).trans (by repeat(exact ac))
 have ho: ∀ m,m<nx→H2.at' m=H.at' m:=fun m hm=>(g2 m (by omega)).trans (by(repeat(refine ab (by omega) ?_));rfl)
 clear g2
 repeat first|apply ai;rfl|apply kY;rfl;omega
 refine dR rfl rfl rfl rfl (fun h1=>?_) (fun h1=>?_)
 ·have hv:cq p n=(0,0,6):=by unfold cq;rw [JW (by omega)]
  rw [hv]
  repeat first|apply ai;rfl|apply aH;rfl;assumption;rfl
  ((apply bn Tryz.func90 (congrArg Array.toList Tryz.results90));(focus(repeat(first|exact Kq|apply Ks rfl|apply Kr rfl (Kt (F.ag _ rfl) (by repeat(exact ac)) (am _ 0 rfl rfl))))))
  exact⟨rfl,by dsimp only;omega,fun m hm=>by(repeat(refine ab (by omega) ?_));exact ho m hm⟩
 ·have hn:n<ae p:=by omega
  have hcS:=iA p hn
  have hcF:=jI p hn
  have hg:aq p n<65536:=cL p _
  repeat first|refine di (q:=n) rfl rfl rfl rfl (F.un _ rfl) (F.sz _ rfl) (by assumption) (by omega) (by(omega)) (JK _) ?_|refine cd (an (F.ag _ rfl) rfl g5 hcS) rfl rfl rfl ?_|apply ai;rfl
  refine cI rfl rfl rfl rfl (fun h4=>?_) (fun h4=>?_)
  ·have hv:cq p n=(0,0,6):=by unfold cq;rw [JV (by omega),JW (by omega)]
   rw [hv]
   repeat first|apply ai;rfl|apply aH;rfl;assumption;rfl
   ((apply bn Tryz.func90 (congrArg Array.toList Tryz.results90));(focus(repeat(first|exact Kq|apply Ks rfl|apply Kr rfl (Kt (F.ag _ rfl) (by repeat(exact ac)) (am _ 0 rfl rfl))))))
   exact⟨rfl,by dsimp only;omega,fun m hm=>by(repeat(refine ab (by omega) ?_));exact ho m hm⟩
  ·have hv:cq p n=(az p n,aq p n,0):=by unfold cq;rw [JV (by omega),JV (by omega)]
   rw [hv]
   have hcc:(slO (eJ p (ae p))).cellsFrom (n*2) 2=some [.sc (.int .i64 (az p n:Int)),.sc (.int .i64 (aq p n:Int))]:=by simp only [VO.cellsFrom,hcF,hcS]
   repeat first|refine di (q:=n) rfl rfl rfl rfl (F.un _ rfl) (F.sz _ rfl) (by assumption) (by omega) (by(omega)) (JK _) ?_|(refine cS rfl (.inr (fun _ h=>by cases h)) ((aW (F.ag _ rfl) rfl g5 hcc).does) ?_);rw [aG rfl]|apply ai;rfl|apply aH;rfl;assumption;rfl
   ((apply bn Tryz.func90 (congrArg Array.toList Tryz.results90));(focus(repeat(first|exact Kq|apply Ks rfl|apply Kr rfl (Kt (F.ag _ rfl) (by repeat(exact ac)) (am _ 0 rfl rfl))))))
   exact⟨rfl,by dsimp only;omega,fun m hm=>by(repeat(refine ab (by omega) ?_));exact ho m hm⟩
theorem sY{size:Nat}(h1:1≤size)(h2:size≤8)(hn:n≤18446744073709551615):Fnc Tryz.prog 91 [.sc (.int .u64 (n:Int)),.sc (.int .i64 (size:Int))] H nx
 (fun q=>q=(.slu nx 0 (beB n size).length,H.set nx (dat false (beB n size).length 1 5 (byV (beB n size))),nx+1)):=by
 have:=Fnc.next (Hz (H:=H) (nx:=nx) h1 h2 hn)
 rwa [bp]
theorem kJ{T:Tr SV}{d:Option Tmp}{ty:TypeId}{pos:String}{af:Array Edge}{gd:Option (Nat×Bool)}{s x:Operand}{v:SV}{a b:List UInt8}(hx0:ak T s=some (.slu r 0 a.length))(hx:ak T x=some v)(hro:H.at' r=some (dat false a.length 1 5 (byV a)))(hb:BsIs H v (byV b))(h0:0<b.length)(hm:a.length+b.length≤1000000) :
 OpDoes Tryz.prog T H nx ⟨d,.call {callee:= .builtin .append,args:= #[s,x],argTypes:= #[35,35]},ty,pos,af,gd⟩ (.val (.slu nx 0 (a ++ b).length),(H.del r).set nx (dat false (a ++ b).length 1 5 (byV (a ++ b))),nx+1):=by
 have hr:=BsIs.rdv (P:=Tryz.prog) hb
 unfold RdV at hr
 have h:=D7 (P:=Tryz.prog) (T:=T) (H:=H) (nx:=nx) (d:=d) (ty:=ty) (pos:=pos) (af:=af) (gd:=gd) (t:=35) (tx:=35) (el:=5) (sz:=1) (m:=(byV b).length) (b:=1) (r:=r) (n:=a.length) (s:=s) (x:=x) (v:=v) (ws:=(byV a).map .sc) (cs:=(byV b).map .sc) (F.un _ rfl) (.inl ⟨_,F.un _ rfl⟩) (F.sz _ rfl) (by decide) (by kernel_rfl) (by kernel_rfl) hx0 hx (hro.trans (congrArg some (hZ _ _ _ _ _).symm)) (by simp) hr (gR hb.1) (by rw [bN];exact h0) (by rw [bN];omega) (by rw [bN];omega)
 rw [bN,←JP,←kq,show mM false (a.length+b.length) 1 5 ((byV (a ++ b)).map .sc)=dat false (a.length+b.length) 1 5 (byV (a ++ b))from hZ _ _ _ _ _,←JO] at h
 exact h
theorem wN{v:gt}(hv:VerIs H s v)(hm:iJ v=true):Fnc Tryz.prog 46 [s] H nx (fun q=> ∃ r',q.1 = .slu r' 0 (aO v).length∧q.2.1.at' r'=some (dat false (aO v).length 1 5 (byV (aO v)))∧nx≤r'∧r'<q.2.2∧nx≤q.2.2∧ ∀ m,m<nx→q.2.1.at' m=H.at' m):=by
 have hmd:=J7 hm
 obtain⟨k,w,rfl,hk,hw⟩:=hv
 refine Kp Tryz.func46 rfl rfl ?_
 refine aX fun hund=>?_
 have hK: ∀ H':au,(∀ m,m<nx→H'.at' m=H.at' m)→BsIs H' k (byV v.1):=fun H' h=>hk.frame fun b vo hb=>(h b (hund b vo hb)).trans hb
 have hW: ∀ H':au,(∀ m,m<nx→H'.at' m=H.at' m)→BsIs H' w (byV v.2.1):=fun H' h=>hw.frame fun b vo hb=>(h b (hund b vo hb)).trans hb
 have hl1:=bN v.1
 have hl2:=bN v.2.1
 have l8x:=bp v.2.2.1 8
 have l8y:=bp v.2.2.2 8
 have b0:(H.set nx (fx (eF k w v.2.2.1 v.2.2.2))).at' nx=some (fx (eF k w v.2.2.1 v.2.2.2)):=ah _ _ _
 have o0: ∀ m,m<nx→(H.set nx (fx (eF k w v.2.2.1 v.2.2.2))).at' m=H.at' m:=fun m hm=>aa _ _ (by omega)
 repeat apply ai;rfl
 generalize H.set nx (fx (eF k w v.2.2.1 v.2.2.2))=H0 at b0 o0 ⊢
 (apply bg;(focus(kernel_rfl));(focus(kernel_rfl)))
 repeat first|apply aU;rfl|apply dD;rfl;(focus((repeat(first|assumption|refine ab (by omega) ?_));done));rfl|apply b8;rfl;rfl;rfl;(focus(kernel_rfl));exact(sY (n:=v.2.2.1) (size:=8) (by decide) (by decide) (by omega))|apply b8;rfl;rfl;rfl;(focus(kernel_rfl));exact(sY (n:=v.2.2.2) (size:=8) (by decide) (by decide) (by omega))|refine kg rfl rfl (fun _ h=>by cases h) (kJ (a:=beB v.2.2.1 8) (b:=beB v.2.2.2 8) rfl rfl (by repeat(first|exact ac|refine ab (by omega) ?_)) (jx (ro:=false) (n:=(beB v.2.2.2 8).length) (by repeat(exact ac)) rfl) (by omega) (by omega)) ?_
 refine aA ⟨by kernel_rfl,?_,?_⟩;(focus(repeat(first|exact Kz|apply li;rfl|apply gq;rfl;kernel_rfl|refine f9 0 rfl (by kernel_rfl) (by(repeat(refine⟨(by(exact an (F.ag _ rfl) rfl (by repeat(first|assumption|refine ab (by omega) ?_|refine bQ (by omega) ?_)) (aC rfl))),?_⟩));exact Kz) ?_)))
 refine cT (R:=fun H1 n1=>n1=nx+1+1+1+1∧H1.at' nx=some (fx (eF k w v.2.2.1 v.2.2.2))∧H1.at' (nx+1+1+1)=some (dat false (beB v.2.2.1 8 ++ beB v.2.2.2 8).length 1 5 (byV (beB v.2.2.1 8 ++ beB v.2.2.2 8)))∧ ∀ m,m<nx→H1.at' m=H.at' m) ⟨rfl,by repeat(first|assumption|refine ab (by omega) ?_|refine bQ (by omega) ?_),by repeat(exact ac),fun m hm=>by(repeat(first|refine ab (by omega) ?_|refine bQ (by omega) ?_));exact o0 m hm⟩ ?_
 rintro H1 n1 ⟨rfl,b1,r1,o1⟩
 clear b0 o0
 have la:(beB v.2.2.1 8 ++ beB v.2.2.2 8).length=16:=by rw [JO,l8x,l8y]
 have lk2:=bp v.1.length 2
 have lab:(beB v.2.2.1 8 ++ beB v.2.2.2 8 ++ beB v.1.length 2).length=18:=by rw [JO,la,lk2]
 repeat apply ai;rfl
 (apply bg;(focus(kernel_rfl));(focus(kernel_rfl)))
 repeat first|apply aU;rfl|apply dD;rfl;(focus((repeat(first|assumption|refine ab (by omega) ?_|refine bQ (by omega) ?_));done));rfl|apply bH;rfl;rfl;exact(fun _ h=>by cases h);exact(fE (F.un _ rfl) rfl (hK _ o1))|refine bk (bT (F.un _ rfl) (F.un _ rfl) rfl (show _=((v.1.length:Nat):Int)from(Kk _ ⟨by omega,by omega⟩).trans (by omega))) rfl rfl rfl ?_|apply b8;rfl;rfl;rfl;(focus(kernel_rfl));exact(sY (n:=v.1.length) (size:=2) (by decide) (by decide) (by omega))|refine kg rfl rfl (fun _ h=>by cases h) (kJ (a:=beB v.2.2.1 8 ++ beB v.2.2.2 8) (b:=beB v.1.length 2) rfl rfl (by repeat(first|assumption|refine ab (by omega) ?_)) (jx (ro:=false) (n:=(beB v.1.length 2).length) (by repeat(exact ac)) rfl) (by omega) (by omega)) ?_|refine kg rfl rfl (fun _ h=>by cases h) (kJ (a:=beB v.2.2.1 8 ++ beB v.2.2.2 8 ++ beB v.1.length 2) (b:=v.1) rfl rfl (by repeat(exact ac)) (hK _ (fun m hm=>by(repeat(first|refine ab (by omega) ?_|refine bQ (by omega) ?_));exact o1 m hm)) (by omega) (by omega)) ?_
 refine aA ⟨by kernel_rfl,?_,?_⟩;(focus(repeat(first|exact Kz|apply li;rfl|apply gq;rfl;kernel_rfl|refine f9 0 rfl (by kernel_rfl) (by(repeat(refine⟨(by first|exact an (F.ag _ rfl) rfl (by repeat(first|assumption|refine ab (by omega) ?_|refine bQ (by omega) ?_)) (aC rfl)|exact fE (F.un _ rfl) rfl (hK _ (fun m hm=>by(repeat(first|refine ab (by omega) ?_|refine bQ (by omega) ?_));exact o1 m hm))|exact bT (F.un _ rfl) (F.un _ rfl) rfl (show _=((v.1.length:Nat):Int)from(Kk _ ⟨by omega,by omega⟩).trans (by omega))),?_⟩));exact Kz) ?_)))
 obtain⟨A,hA⟩: ∃ A,A=beB v.2.2.1 8 ++ beB v.2.2.2 8 ++ beB v.1.length 2 ++ v.1:=⟨_,rfl⟩
 refine cT (R:=fun H2 n2=>n2=nx+1+1+1+1+1+1+1∧H2.at' nx=some (fx (eF k w v.2.2.1 v.2.2.2))∧H2.at' (nx+1+1+1+1+1+1)=some (dat false (beB v.2.2.1 8 ++ beB v.2.2.2 8 ++ beB v.1.length 2 ++ v.1).length 1 5 (byV (beB v.2.2.1 8 ++ beB v.2.2.2 8 ++ beB v.1.length 2 ++ v.1)))∧ ∀ m,m<nx→H2.at' m=H.at' m) ⟨rfl,by repeat(first|assumption|refine ab (by omega) ?_|refine bQ (by omega) ?_),by repeat(exact ac),fun m hm=>by(repeat(first|refine ab (by omega) ?_|refine bQ (by omega) ?_));exact o1 m hm⟩ ?_
 rintro H2 n2 ⟨rfl,b2,r2,o2⟩
 clear b1 o1 r1
 have lA:A.length=18+v.1.length:=by rw [hA,JO,lab]
 repeat apply ai;rfl
 rw [← hA] at r2 ⊢
 have lv2:=bp v.2.1.length 2
 have lAv:(A ++ beB v.2.1.length 2).length=20+v.1.length:=by rw [JO,lA,lv2];omega
 have hall:aO v=A ++ beB v.2.1.length 2 ++ v.2.1:=by
  rw [hA]
  unfold aO jp
  simp only [J6]
 rcases Nat.eq_zero_or_pos v.2.1.length with h0|h0
 ·have hv0:v.2.1= []:=JG h0
  have hw0: ∀ H':au,(∀ m,m<nx→H'.at' m=H.at' m)→RdV Tryz.prog H' 1 w 0 []:=fun H' h=>by
   have:=BsIs.rdv (P:=Tryz.prog) (hW H' h)
   rw [hv0] at this
   exact this
  rw [hv0,J9] at hall
  (apply bg;(focus(kernel_rfl));(focus(kernel_rfl)))
  repeat first|apply aU;rfl|apply dD;rfl;(focus((repeat(first|assumption|refine ab (by omega) ?_|refine bQ (by omega) ?_));done));rfl|apply bH;rfl;rfl;exact(fun _ h=>by cases h);exact(fE (F.un _ rfl) rfl (hW _ o2))|refine bk (bT (F.un _ rfl) (F.un _ rfl) rfl (show _=((v.2.1.length:Nat):Int)from(Kk _ ⟨by omega,by omega⟩).trans (by omega))) rfl rfl rfl ?_|apply b8;rfl;rfl;rfl;(focus(kernel_rfl));exact(sY (n:=v.2.1.length) (size:=2) (by decide) (by decide) (by omega))|refine kg rfl rfl (fun _ h=>by cases h) (kJ (a:=A) (b:=beB v.2.1.length 2) rfl rfl (by repeat(first|assumption|refine ab (by omega) ?_)) (jx (ro:=false) (n:=(beB v.2.1.length 2).length) (by repeat(exact ac)) rfl) (by omega) (by omega)) ?_|refine kg rfl rfl (fun _ h=>by cases h) (qd (vs:= []) (F.un _ rfl) (.inl ⟨_,F.un _ rfl⟩) (F.sz _ rfl) (by decide) rfl rfl (ah _ _ _) (by omega) (hw0 _ (fun m hm=>by(repeat(first|refine ab (by omega) ?_|refine bQ (by omega) ?_));exact o2 m hm)) (fun v hv=>by cases hv)) ?_
  refine aA ⟨by kernel_rfl,?_,?_⟩;(focus(repeat(first|exact Kz|apply li;rfl|apply gq;rfl;kernel_rfl|refine f9 0 rfl (by kernel_rfl) (by(repeat(refine⟨(by first|exact an (F.ag _ rfl) rfl (by repeat(first|assumption|refine ab (by omega) ?_|refine bQ (by omega) ?_)) (aC rfl)|exact fE (F.un _ rfl) rfl (hW _ (fun m hm=>by(repeat(first|refine ab (by omega) ?_|refine bQ (by omega) ?_));exact o2 m hm))|exact bT (F.un _ rfl) (F.un _ rfl) rfl (show _=((v.2.1.length:Nat):Int)from(Kk _ ⟨by omega,by omega⟩).trans (by omega))),?_⟩));exact Kz) ?_)))
  (apply bP Tryz.func46 Tryz.results46;rfl)
  rw [hall,hv0]
  exact⟨_,rfl,ah _ _ _,by omega,by dsimp only;omega,by dsimp only;omega,fun m hm=>by(repeat(first|refine ab (by omega) ?_|refine bQ (by omega) ?_));exact o2 m hm⟩
 ·(apply bg;(focus(kernel_rfl));(focus(kernel_rfl)))
  repeat first|apply aU;rfl|apply dD;rfl;(focus((repeat(first|assumption|refine ab (by omega) ?_|refine bQ (by omega) ?_));done));rfl|apply bH;rfl;rfl;exact(fun _ h=>by cases h);exact(fE (F.un _ rfl) rfl (hW _ o2))|refine bk (bT (F.un _ rfl) (F.un _ rfl) rfl (show _=((v.2.1.length:Nat):Int)from(Kk _ ⟨by omega,by omega⟩).trans (by omega))) rfl rfl rfl ?_|apply b8;rfl;rfl;rfl;(focus(kernel_rfl));exact(sY (n:=v.2.1.length) (size:=2) (by decide) (by decide) (by omega))|refine kg rfl rfl (fun _ h=>by cases h) (kJ (a:=A) (b:=beB v.2.1.length 2) rfl rfl (by repeat(first|assumption|refine ab (by omega) ?_)) (jx (ro:=false) (n:=(beB v.2.1.length 2).length) (by repeat(exact ac)) rfl) (by omega) (by omega)) ?_|refine kg rfl rfl (fun _ h=>by cases h) (kJ (a:=A ++ beB v.2.1.length 2) (b:=v.2.1) rfl rfl (by repeat(exact ac)) (hW _ (fun m hm=>by(repeat(first|refine ab (by omega) ?_|refine bQ (by omega) ?_));exact o2 m hm)) (by omega) (by omega)) ?_
  refine aA ⟨by kernel_rfl,?_,?_⟩;(focus(repeat(first|exact Kz|apply li;rfl|apply gq;rfl;kernel_rfl|refine f9 0 rfl (by kernel_rfl) (by(repeat(refine⟨(by first|exact an (F.ag _ rfl) rfl (by repeat(first|assumption|refine ab (by omega) ?_|refine bQ (by omega) ?_)) (aC rfl)|exact fE (F.un _ rfl) rfl (hW _ (fun m hm=>by(repeat(first|refine ab (by omega) ?_|refine bQ (by omega) ?_));exact o2 m hm))|exact bT (F.un _ rfl) (F.un _ rfl) rfl (show _=((v.2.1.length:Nat):Int)from(Kk _ ⟨by omega,by omega⟩).trans (by omega))),?_⟩));exact Kz) ?_)))
  (apply bP Tryz.func46 Tryz.results46;rfl)
  rw [hall]
  exact⟨_,rfl,ah _ _ _,by omega,by dsimp only;omega,by dsimp only;omega,fun m hm=>by(repeat(first|refine ab (by omega) ?_|refine bQ (by omega) ?_));exact o2 m hm⟩
theorem BC{T:Tr SV}{d:Option Tmp}{ty:TypeId}{pos:String}{af:Array Edge}{gd:Option (Nat×Bool)}{s x:Operand}{v:SV}{b:List UInt8}(hx0:ak T s=some (.sc (.slice none 0 0)))(hx:ak T x=some v)(hb:BsIs H v (byV b))(h0:0<b.length)(hm:b.length≤1000000) :
 OpDoes Tryz.prog T H nx ⟨d,.call {callee:= .builtin .append,args:= #[s,x],argTypes:= #[35,35]},ty,pos,af,gd⟩ (.val (.slu nx 0 b.length),H.set nx (u8R false (byV b)),nx+1):=by
 have hr:=BsIs.rdv (P:=Tryz.prog) hb
 unfold RdV at hr
 have h:=mX (P:=Tryz.prog) (T:=T) (H:=H) (nx:=nx) (d:=d) (ty:=ty) (pos:=pos) (af:=af) (gd:=gd) (t:=35) (tx:=35) (el:=5) (sz:=1) (m:=(byV b).length) (b:=1) (s:=s) (x:=x) (v:=v) (cs:=(byV b).map .sc) (F.un _ rfl) (.inl ⟨_,F.un _ rfl⟩) (F.sz _ rfl) (by decide) (by kernel_rfl) (by kernel_rfl) hx0 hx hr (gR hb.1) (by rw [bN];exact h0) (by rw [bN];omega) (by rw [bN];omega)
 rw [show mM false (byV b).length 1 5 ((byV b).map .sc)=dat false (byV b).length 1 5 (byV b)from hZ _ _ _ _ _] at h
 rw [bN] at h
 rw [← bN b] at h ⊢
 exact h
theorem BN(hp:p.length=1024)(hr:bl p=true)(hn:n<ae p)(hs:aq p n≠0):Fnc Tryz.prog 45 [.agg (pgS p),.sc (.int .i64 (n:Int))] H nx (fun q=> ∃ r,q.1 = .tup [.slu r 0 (aT p n).length,.sc (.int .i64 0)]∧q.2.1.at' r=some (u8R false (byV (aT p n)))∧nx≤r∧r<q.2.2∧ ∀ m,m<nx→q.2.1.at' m=H.at' m):=by
 have hb:=cV hr hn hs
 have hil:=dB hp hb.2.2.2
 have hfd:cq p n=(az p n,aq p n,0):=by unfold cq;rw [JV (by omega),JV hs]
 have hfs: ∀ (H:au) nx,Fnc Tryz.prog 90 [.agg (pgS p),.sc (.int .i64 (n:Int))] H nx (fun q=>q=(.tup [.agg [.sc (.int .i64 (az p n:Int)),.sc (.int .i64 (aq p n:Int))],.sc (.int .i64 0)],H,nx)):=fun H nx=>by
  have:=rD (H:=H) (nx:=nx) (n:=n) hp hr
  rw [hfd] at this
  exact this
 refine Kp Tryz.func45 rfl rfl ?_
 repeat first|apply bv hp;rfl;(focus((repeat(exact ac));done))|apply ai;rfl|apply aH;rfl;(focus((repeat(exact ac));done));rfl|apply aL;rfl;omega;omega|apply bU;rfl;kernel_rfl;exact hfs _ _|apply dK;rfl;rfl|apply lm (lw:=az p n) (hg:=az p n+aq p n);rfl;rfl;rfl;exact(F.un _ rfl);exact(F.sz _ rfl);rfl;rfl;(focus(omega));(focus(omega));(focus(omega));exact(show az p n+aq p n-az p n=aq p n by omega);rfl;exact(JX _)
 refine cS rfl (.inr (fun _ h=>by cases h)) (BC (b:=aT p n) rfl rfl (nn (b:=nx) (p:=p) (o:=az p n) (m:=aq p n) (by repeat(first|exact ac|refine ab (by omega) ?_)) (by omega)) (by omega) (by omega)) ?_
 rw [aG rfl]
 repeat apply ai;rfl
 (apply bP Tryz.func45 Tryz.results45;rfl)
 exact⟨_,rfl,ah _ _ _,by omega,Nat.lt_succ_self _,fun m hm=>by(repeat(refine ab (by omega) ?_));rfl⟩
theorem xI(hp:p.length=1024)(hr:bl p=true)(hn:ae p≤n∨aq p n=0):Fnc Tryz.prog 45 [.agg (pgS p),.sc (.int .i64 (n:Int))] H nx (fun q=>q.1 = .tup [dA,.sc (.int .i64 6)]∧nx≤q.2.2∧ ∀ m,m<nx→q.2.1.at' m=H.at' m):=by
 have hfd:cq p n=(0,0,6):=by unfold cq;split;rfl;rw [JW (by omega)]
 have hfs: ∀ (H:au) nx,Fnc Tryz.prog 90 [.agg (pgS p),.sc (.int .i64 (n:Int))] H nx (fun q=>q=(.tup [.agg [.sc (.int .i64 0),.sc (.int .i64 0)],.sc (.int .i64 6)],H,nx)):=fun H nx=>by
  have:=rD (H:=H) (nx:=nx) (n:=n) hp hr
  rw [hfd] at this
  exact this
 refine Kp Tryz.func45 rfl rfl ?_
 repeat first|apply bv hp;rfl;(focus((repeat(exact ac));done))|apply ai;rfl|apply aH;rfl;(focus((repeat(exact ac));done));rfl|apply bU;rfl;kernel_rfl;exact hfs _ _|apply ig;rfl;decide
 (apply bP Tryz.func45 Tryz.results45;rfl)
 exact⟨rfl,by dsimp only;omega,fun m hm=>by(repeat(refine ab (by omega) ?_));rfl⟩
theorem DN(hp:p.length=1024)(hr:bl p=true)(hn:n<ae p)(hs:aq p n≠0)(hrow:H.at' r=some (u8R false (byV it)))(hit:it.length=aq p n):Fnc Tryz.prog 61 [.agg (pgS p),.sc (.int .i64 (n:Int)),.slu r 0 it.length] H nx (fun q=>q=(pgE (be p (az p n) it,0),H,nx)):=by
 refine Fnc.bz (hJ _) ?_
 have hb:=cV hr hn hs
 have hbl:=bN it
 have hfd:cq p n=(az p n,aq p n,0):=by unfold cq;rw [JV (by omega),JV hs]
 have hfs: ∀ (H:au) nx,Fnc Tryz.prog 90 [.agg (pgS p),.sc (.int .i64 (n:Int))] H nx (fun q=>q=(.tup [.agg [.sc (.int .i64 (az p n:Int)),.sc (.int .i64 (aq p n:Int))],.sc (.int .i64 0)],H,nx)):=fun H nx=>by
  have:=rD (H:=H) (nx:=nx) (n:=n) hp hr
  rw [hfd] at this
  exact this
 refine Kp Tryz.func61 rfl rfl ?_
 refine aX fun hund=>?_
 have lr:=hund _ _ hrow
 repeat first|apply bv hp;rfl;(focus((repeat(first|exact ac|refine ab (by omega) ?_));done))|refine aZ rfl rfl cj ?_|apply ai;rfl|apply aH;rfl;(focus((repeat(exact ac));done));rfl|apply bU;rfl;kernel_rfl;exact hfs _ _|apply kY;rfl;omega|apply dK;rfl;omega|apply ig;rfl;omega
 refine bu (α:=Nat) (fun i=> [(2,.slu r 0 it.length),(3,.ptr nx 0),(6,.ptr (nx+1) 0),(8,.ptr (nx+1+1) 0),(10,.sc (.int .i64 (i:Int)))])
  (fun i H1 n1=>n1=nx+1+1+1∧i≤it.length∧H1.at' nx=some (pgO (be p (az p n) (it.take i)))∧H1.at' (nx+1)=some (pgO zeroP)∧H1.at' (nx+1+1)=some (sbO (az p n) (aq p n))∧ ∀ m,m<nx→H1.at' m=H.at' m) (fun i=>it.length-i) 0
  ⟨rfl,JL _,by rw [show it.take 0= [] from rfl,show be p (az p n) []=p by simp [be]];(focus((repeat(first|exact ac|refine ab (by omega) ?_));done)),by repeat(first|exact ac|refine ab (by omega) ?_),by repeat(exact ac),fun m hm=>by(repeat(refine ab (by omega) ?_));rfl⟩ (Kv (Ky rfl)) ?_
 rintro i H1 n1 ⟨rfl,i1,i2,i3,i5,i4⟩ ih
 have hpi:(be p (az p n) (it.take i)).length=1024:=(bM (by rw [JZ];omega)).trans hp
 have hrow1:=(i4 r lr).trans hrow
 repeat apply ai;rfl
 refine bh rfl rfl rfl rfl (fun h5=>?_) (fun h5=>?_)
 ·have hi:i<it.length:=by omega
  have hcl:(u8R false (byV it)).cell (i*1)=some (.sc (.int .u8 ((it[i]).toNat:Int))):=by
   rw [Nat.mul_one]
   refine gi (by omega) ?_
   rw [Ju (by omega),rP]
  repeat apply ai;rfl
  (apply bg;(focus(kernel_rfl));(focus(kernel_rfl)))
  repeat first|refine bk (an (F.ag _ rfl) rfl hrow1 hcl) rfl rfl rfl ?_|refine bk (an (F.ag _ rfl) rfl i5 (aC rfl)) rfl rfl rfl ?_|refine aJ (q:=i) rfl rfl rfl rfl (F.un _ rfl) (F.sz _ rfl) hrow1 rfl hi (by omega) ?_|apply jl (q:=az p n+i);rfl;rfl;rfl;rfl;exact(F.un _ rfl);exact(F.sz _ rfl);(focus(omega));(focus(omega))|refine dV (cs:=pgS (be p (az p n) (it.take i))) rfl rfl rfl (F.sz _ rfl) i2 rfl (Jy (by rw [bf hpi];omega)) ?_|apply aU;rfl|refine bk (aw rfl rfl (.inl ⟨rfl,(Js _ ⟨(by focus(omega)),(by focus(omega))⟩).symm⟩)) rfl rfl rfl ?_
  refine aA ⟨by kernel_rfl,?_,?_⟩;(focus(repeat(first|exact Kz|apply li;rfl|apply gq;rfl;kernel_rfl|refine⟨.inr ⟨0,by kernel_rfl,AllH.all (fun _=>(by(exact aw rfl rfl (.inl ⟨rfl,(Js _ ⟨by omega,by omega⟩).symm⟩)))) _⟩,?_⟩|refine f9 0 rfl (by kernel_rfl) (by(repeat(refine⟨(by first|exact an (F.ag _ rfl) rfl (by repeat(first|assumption|refine ab (by omega) ?_)) (aC rfl)|exact gI (q:=az p n+i) rfl rfl (F.un _ rfl) (F.sz _ rfl) (by omega) (by omega)),?_⟩));exact Kz) ?_|refine f9 1 rfl (by kernel_rfl) (by(repeat(refine⟨(by first|exact an (F.ag _ rfl) rfl hrow1 hcl|exact aQ (F.un _ rfl) (F.sz _ rfl) rfl rfl hrow1 rfl hi (by omega)),?_⟩));exact Kz) ?_)))
  dsimp only
  rw [show 0+(az p n+i)*1=az p n+i by omega,ny,qS (by omega) hi]
  repeat first|apply ai;rfl|apply aL;rfl;omega;omega
  exact ih _ _ _ (i+1) ⟨rfl,by omega,by repeat(exact ac),by repeat(first|assumption|refine ab (by omega) ?_),by(repeat(refine ab (by omega) ?_));exact i5,fun m hm=>by(repeat(refine ab (by omega) ?_));exact i4 m hm⟩ (by omega) (Kv (Ky rfl))
 ·have hi:i=it.length:=by omega
  rw [hi,List.take_length] at i2
  rw [hi,List.take_length] at hpi
  generalize be p (az p n) it=pL at hpi i2 ⊢
  repeat first|apply bv hpi;rfl;assumption|apply bE hpi aj;rfl;assumption|apply ai;rfl
  ((apply bn Tryz.func61 (congrArg Array.toList Tryz.results61));(focus((apply Kr rfl (Kt (F.ag _ rfl) (by repeat(exact ac)) (bm hpi)));(repeat(first|exact Kq|apply Ks rfl)))))
  exact⟨rfl,by dsimp only;omega,fun m hm=>by(repeat(refine ab (by omega) ?_));exact i4 m hm⟩
theorem B6(hp:p.length=1024)(hr:bl p=true)(hn:n<ae p)(hs:aq p n≠0):Fnc Tryz.prog 62 [.agg (pgS p),.sc (.int .i64 (n:Int))] H nx (fun q=>q=(pgE (pt (bL p n 0 0),0),H,nx)):=by
 refine Fnc.bz (hJ _) ?_
 have hok:=(bw hp).1 hr
 have hh:=hok.head
 have ht:=hok.top
 have hfd:cq p n=(az p n,aq p n,0):=by unfold cq;rw [JV (by omega),JV hs]
 have hfs: ∀ (H:au) nx,Fnc Tryz.prog 90 [.agg (pgS p),.sc (.int .i64 (n:Int))] H nx (fun q=>q=(.tup [.agg [.sc (.int .i64 (az p n:Int)),.sc (.int .i64 (aq p n:Int))],.sc (.int .i64 0)],H,nx)):=fun H nx=>by
  have:=rD (H:=H) (nx:=nx) (n:=n) hp hr
  rw [hfd] at this
  exact this
 have hl1:(cp p (18+4*n) 0).length=1024:=(bD (by omega)).trans hp
 have hw1:=fun(H:au) nx=>gV (H:=H) (nx:=nx) (o:=18+4*n) (n:=0) hp (by omega) (by decide)
 have hw2:=fun(H:au) nx=>gV (H:=H) (nx:=nx) (o:=18+4*n+2) (n:=0) hl1 (by omega) (by decide)
 rw [show((18+4*n:Nat):Int)=18+4*(n:Int) by omega] at hw1
 rw [show((18+4*n+2:Nat):Int)=18+4*(n:Int)+2 by omega,show cp (cp p (18+4*n) 0) (18+4*n+2) 0=bL p n 0 0 from rfl] at hw2
 have hxl:(bL p n 0 0).length=1024:=(fF (by omega)).trans hp
 have hxs:ae (bL p n 0 0)=ae p:=cX (by omega) (by omega)
 have hx0: ∀ j,j<ae p→aq (bL p n 0 0) j=0→az (bL p n 0 0) j=0:=fun j hj h=>by
  by_cases hjn:j=n
  ·subst hjn
   exact kI (by omega) (by decide)
  ·rw [show az (bL p n 0 0) j=az p j from cX (by omega) (by omega)]
   rw [show aq (bL p n 0 0) j=aq p j from cX (by omega) (by omega)] at h
   have:=hok.slot j hj
   omega
 generalize bL p n 0 0=x at hw2 hxl hxs hx0 ⊢
 refine Kp Tryz.func62 rfl rfl ?_
 have hsl: ∀ {H:au} {nx:Nat},Fnc Tryz.prog 76 [.agg (pgS x),.sc (.int .i64 14)] H nx (fun q=>q=(.sc (.int .i64 (ae x:Int)),H,nx)):=fun {H nx}=>oY (o:=14) hxl (by decide)
 repeat first|apply bv hp;rfl;(focus((repeat(first|exact ac|refine ab (by omega) ?_));done))|apply bv hxl;rfl;(focus((repeat(exact ac));done))|apply bE hxl hp;rfl;(focus((repeat(first|exact ac|refine ab (by omega) ?_));done))|refine aZ rfl rfl cj ?_|apply ai;rfl|apply aH;rfl;(focus((repeat(exact ac));done));rfl|apply aL;rfl;omega;omega|apply bU;rfl;kernel_rfl;exact hfs _ _|apply bU;rfl;kernel_rfl;exact hw1 _ _|apply bU;rfl;kernel_rfl;exact hw2 _ _|apply bU;rfl;kernel_rfl;exact hsl|apply dK;rfl;omega
 refine bu (α:=Nat) (fun m=> [(2,.ptr nx 0),(4,.ptr (nx+1) 0),(8,.sc (.int .i64 (m:Int)))])
  (fun m H1 n1=>n1=nx+1+1+1∧m≤ae x∧dj x m=dj x (ae x)∧H1.at' nx=some (pgO x)∧H1.at' (nx+1)=some (pgO zeroP)∧ ∀ m,m<nx→H1.at' m=H.at' m) (fun m=>m) (ae x)
  ⟨rfl,JK _,rfl,by repeat(exact ac),by repeat(first|exact ac|refine ab (by omega) ?_),fun m hm=>by(repeat(refine ab (by omega) ?_));rfl⟩ (Kv (Ky rfl)) ?_
 rintro m H1 n1 ⟨rfl,i1,i2,i3,i4,i5⟩ ih
 have hs0:ae p<65536:=cL p 14
 cases m with
 | zero=>
   have hm:0=dj x (ae x):=by rw [← i2];rfl
   repeat first|apply ai;rfl|apply kY;rfl;omega
   (have hv:pt x=if 0=0 then cp (cp x 14 (0)) 16 1024 else cp x 14 (0):=(by unfold pt;rw [← hm]);have hw3:=fun(H:au) nx=>gV (H:=H) (nx:=nx) (o:=14) (n:=0) hxl (by decide) (by omega);have hl3:(cp x 14 (0)).length=1024:=(bD (by omega)).trans hxl;have hw4:=fun(H:au) nx=>gV (H:=H) (nx:=nx) (o:=16) (n:=1024) hl3 (by decide) (by decide);have hl4:(cp (cp x 14 (0)) 16 1024).length=1024:=(bD (by omega)).trans hl3;rw [hv];generalize cp (cp x 14 (0)) 16 1024=x4 at hw4 hl4 ⊢;generalize cp x 14 (0)=x3 at hw3 hw4 hl3 ⊢;(repeat(first|apply bv hxl;rfl;assumption|apply bE hl3 hxl;rfl;assumption|apply ai;rfl|apply bU;rfl;kernel_rfl;exact hw3 _ _));refine cI rfl rfl rfl rfl (fun e1=>?_) (fun e1=>?_))
   ·((rw [JW (by omega)]);(repeat(first|apply bv hl4;rfl;(focus((repeat(exact ac));done))|apply bv hl3;rfl;(focus((repeat(exact ac));done))|apply bE hl4 hl3;rfl;(focus((repeat(first|exact ac|refine ab (by omega) ?_));done))|apply bE hl4 aj;rfl;(focus((repeat(first|assumption|refine ab (by omega) ?_));done))|apply ai;rfl|apply bU;rfl;kernel_rfl;exact hw4 _ _));((apply bn Tryz.func62 (congrArg Array.toList Tryz.results62));(focus((apply Kr rfl (Kt (F.ag _ rfl) (by repeat(exact ac)) (bm hl4)));(repeat(first|exact Kq|apply Ks rfl)))));exact⟨rfl,(by dsimp only;omega),fun m hm=>by(repeat(refine ab (by omega) ?_));exact i5 m hm⟩)
   ·((rw [JV (by omega)]);(repeat(first|apply bv hl3;rfl;(focus((repeat(exact ac));done))|apply bE hl3 aj;rfl;(focus((repeat(first|assumption|refine ab (by omega) ?_));done))|apply ai;rfl));((apply bn Tryz.func62 (congrArg Array.toList Tryz.results62));(focus((apply Kr rfl (Kt (F.ag _ rfl) (by repeat(exact ac)) (bm hl3)));(repeat(first|exact Kq|apply Ks rfl)))));exact⟨rfl,(by dsimp only;omega),fun m hm=>by(repeat(refine ab (by omega) ?_));exact i5 m hm⟩)
 | succ k=>
   have hk:k<ae p:=by omega
   have hq1: ∀ {H:au} {nx:Nat},Fnc Tryz.prog 76 [.agg (pgS x),.sc (.int .i64 (18+4*((k+1:Nat):Int)-4))] H nx (fun q=>q=(.sc (.int .i64 (az x k:Int)),H,nx)):=fun {H nx}=>by
    have:=oY (H:=H) (nx:=nx) (o:=18+4*k) hxl (by omega)
    rw [show((18+4*k:Nat):Int)=18+4*((k+1:Nat):Int)-4 by omega] at this
    exact this
   have hq2: ∀ {H:au} {nx:Nat},Fnc Tryz.prog 76 [.agg (pgS x),.sc (.int .i64 (18+4*((k+1:Nat):Int)-2))] H nx (fun q=>q=(.sc (.int .i64 (aq x k:Int)),H,nx)):=fun {H nx}=>by
    have:=oY (H:=H) (nx:=nx) (o:=18+4*k+2) hxl (by omega)
    rw [show((18+4*k+2:Nat):Int)=18+4*((k+1:Nat):Int)-2 by omega] at this
    exact this
   by_cases hz:aq x k=0
   ·have hf0:=hx0 k hk hz
    have htr:dj x (k+1)=dj x k:=by show(if _ then _ else _)=_;rw [JW hz]
    repeat first|apply bv hxl;rfl;assumption|apply ai;rfl|apply aL;rfl;omega;omega|apply bU;rfl;kernel_rfl;exact hq1|apply bU;rfl;kernel_rfl;exact hq2|apply pK;rfl;omega|apply dK;rfl;omega
    rw [show((k+1:Nat):Int)-1=((k:Nat):Int) by omega]
    exact ih _ _ _ k ⟨rfl,by omega,by rw [← htr];exact i2,i3,i4,i5⟩ (by omega) (Kv (Ky rfl))
   ·have htr:dj x (k+1)=k+1:=by show(if _ then _ else _)=_;rw [JV hz]
    have hm:k+1=dj x (ae x):=by rw [← i2,htr]
    by_cases hf:az x k=0
    ·repeat first|apply bv hxl;rfl;assumption|apply ai;rfl|apply aL;rfl;omega;omega|apply bU;rfl;kernel_rfl;exact hq1|apply bU;rfl;kernel_rfl;exact hq2|apply pK;rfl;omega|apply dK;rfl;omega|apply ig;rfl;omega
     (have hv:pt x=if k+1=0 then cp (cp x 14 (k+1)) 16 1024 else cp x 14 (k+1):=(by unfold pt;rw [← hm]);have hw3:=fun(H:au) nx=>gV (H:=H) (nx:=nx) (o:=14) (n:=k+1) hxl (by decide) (by omega);have hl3:(cp x 14 (k+1)).length=1024:=(bD (by omega)).trans hxl;have hw4:=fun(H:au) nx=>gV (H:=H) (nx:=nx) (o:=16) (n:=1024) hl3 (by decide) (by decide);have hl4:(cp (cp x 14 (k+1)) 16 1024).length=1024:=(bD (by omega)).trans hl3;rw [hv];generalize cp (cp x 14 (k+1)) 16 1024=x4 at hw4 hl4 ⊢;generalize cp x 14 (k+1)=x3 at hw3 hw4 hl3 ⊢;(repeat(first|apply bE hl3 hxl;rfl;assumption|apply ai;rfl|apply bU;rfl;kernel_rfl;exact hw3 _ _));refine cI rfl rfl rfl rfl (fun e1=>?_) (fun e1=>?_))
     ·((rw [JW (by omega)]);(repeat(first|apply bv hl4;rfl;(focus((repeat(first|exact ac|refine ab (by omega) ?_));done))|apply bv hl3;rfl;(focus((repeat(exact ac));done))|apply bE hl4 hl3;rfl;(focus((repeat(first|exact ac|refine ab (by omega) ?_));done))|apply bE hl4 aj;rfl;(focus((repeat(first|assumption|refine ab (by omega) ?_));done))|apply ai;rfl|apply bU;rfl;kernel_rfl;exact hw4 _ _));((apply bn Tryz.func62 (congrArg Array.toList Tryz.results62));(focus((apply Kr rfl (Kt (F.ag _ rfl) (by repeat(exact ac)) (bm hl4)));(repeat(first|exact Kq|apply Ks rfl)))));exact⟨rfl,(by dsimp only;omega),fun m hm=>by(repeat(refine ab (by omega) ?_));exact i5 m hm⟩)
     ·((rw [JV (by omega)]);(repeat(first|apply bv hl3;rfl;(focus((repeat(exact ac));done))|apply bE hl3 aj;rfl;(focus((repeat(first|assumption|refine ab (by omega) ?_));done))|apply ai;rfl));((apply bn Tryz.func62 (congrArg Array.toList Tryz.results62));(focus((apply Kr rfl (Kt (F.ag _ rfl) (by repeat(exact ac)) (bm hl3)));(repeat(first|exact Kq|apply Ks rfl)))));exact⟨rfl,(by dsimp only;omega),fun m hm=>by(repeat(refine ab (by omega) ?_));exact i5 m hm⟩)
    ·repeat first|apply bv hxl;rfl;assumption|apply ai;rfl|apply aL;rfl;omega;omega|apply bU;rfl;kernel_rfl;exact hq1|apply pK;rfl;omega|apply ig;rfl;omega
     (have hv:pt x=if k+1=0 then cp (cp x 14 (k+1)) 16 1024 else cp x 14 (k+1):=(by unfold pt;rw [← hm]);have hw3:=fun(H:au) nx=>gV (H:=H) (nx:=nx) (o:=14) (n:=k+1) hxl (by decide) (by omega);have hl3:(cp x 14 (k+1)).length=1024:=(bD (by omega)).trans hxl;have hw4:=fun(H:au) nx=>gV (H:=H) (nx:=nx) (o:=16) (n:=1024) hl3 (by decide) (by decide);have hl4:(cp (cp x 14 (k+1)) 16 1024).length=1024:=(bD (by omega)).trans hl3;rw [hv];generalize cp (cp x 14 (k+1)) 16 1024=x4 at hw4 hl4 ⊢;generalize cp x 14 (k+1)=x3 at hw3 hw4 hl3 ⊢;(repeat(first|apply bE hl3 hxl;rfl;assumption|apply ai;rfl|apply bU;rfl;kernel_rfl;exact hw3 _ _));refine cI rfl rfl rfl rfl (fun e1=>?_) (fun e1=>?_))
     ·((rw [JW (by omega)]);(repeat(first|apply bv hl4;rfl;(focus((repeat(first|exact ac|refine ab (by omega) ?_));done))|apply bv hl3;rfl;(focus((repeat(exact ac));done))|apply bE hl4 hl3;rfl;(focus((repeat(first|exact ac|refine ab (by omega) ?_));done))|apply bE hl4 aj;rfl;(focus((repeat(first|assumption|refine ab (by omega) ?_));done))|apply ai;rfl|apply bU;rfl;kernel_rfl;exact hw4 _ _));((apply bn Tryz.func62 (congrArg Array.toList Tryz.results62));(focus((apply Kr rfl (Kt (F.ag _ rfl) (by repeat(exact ac)) (bm hl4)));(repeat(first|exact Kq|apply Ks rfl)))));exact⟨rfl,(by dsimp only;omega),fun m hm=>by(repeat(refine ab (by omega) ?_));exact i5 m hm⟩)
     ·((rw [JV (by omega)]);(repeat(first|apply bv hl3;rfl;(focus((repeat(exact ac));done))|apply bE hl3 aj;rfl;(focus((repeat(first|assumption|refine ab (by omega) ?_));done))|apply ai;rfl));((apply bn Tryz.func62 (congrArg Array.toList Tryz.results62));(focus((apply Kr rfl (Kt (F.ag _ rfl) (by repeat(exact ac)) (bm hl3)));(repeat(first|exact Kq|apply Ks rfl)))));exact⟨rfl,(by dsimp only;omega),fun m hm=>by(repeat(refine ab (by omega) ?_));exact i5 m hm⟩)
theorem xm{o b:Nat}(h:o+2≤p.length):cp (cp p o a) o b=cp p o b:=by
 have hl:=fun n=>bp n 2
 have h1:(be p o (beB a 2)).length=p.length:=bM (by rw [hl];exact h)
 refine Kg fun i=>?_
 unfold cp
 rw [cJ (by rw [h1,hl];exact h),cJ (by rw [hl];exact h),cJ (by rw [hl];exact h),hl,hl]
 split <;> rfl
theorem xy(hp:p.length=1024)(h:18+4*ae p≤1024):be p (18+4*ae p) (List.replicate (1024-(18+4*ae p)) 0)=cf p 0:=by
 have hz:=aj
 have hl:(p.take (18+4*ae p)).length=18+4*ae p:=by rw [JZ];omega
 refine Kg fun i=>?_
 show _=(be zeroP 0 (p.take (18+4*ae p)))[i]?
 rw [cJ (by rw [J8];omega),cJ (by omega),hl,J8]
 by_cases h1:i<18+4*ae p
 ·rw [JV (by omega),JW (by omega),Nat.sub_zero,List.getElem?_take,JW h1]
 ·rw [JV (show ¬ (0≤i∧i<0+(18+4*ae p)) by omega)]
  by_cases h2:i<1024
  ·rw [JW (by omega),List.getElem?_replicate,JW (by omega)]
   unfold zeroP
   rw [List.getElem?_replicate,JW h2]
  ·rw [JV (by omega),Kj (by omega),Kj (by omega)]
def l9(p:List UInt8)(n:Nat):List UInt8:=cp (cf p n) 16 (1024-bZ p n)
theorem oW(h:Okp p)(hn:n≤ae p):(l9 p n).length=1024:=by
 have g:=(sK h n hn).len
 exact(bD (by omega)).trans g
theorem oX(h:Okp p)(hn:n≤ae p):aF (l9 p n)=1024-bZ p n:=by
 have g:=(sK h n hn).len
 exact eR (by omega) (by omega)
theorem xz(hz:aq p n=0):l9 p (n+1)=l9 p n:=by
 have h1:cf p (n+1)=cf p n:=by show(if _ then _ else _)=_;rw [JW hz]
 have h2:bZ p (n+1)=bZ p n:=by show bZ p n+aq p n=_;omega
 unfold l9
 rw [h1,h2]
theorem zu(h:Okp p)(hn:n<ae p)(hz:aq p n≠0):CV (l9 p n) n (aT p n)=l9 p (n+1):=by
 have hh:=h.head
 have ht:=h.top
 have hs1:=h.sum_le
 have hs2:=dE p (show n+1≤ae p from hn)
 have hs3:bZ p (n+1)=bZ p n+aq p n:=rfl
 have hsl:=h.slot n hn
 have hil:=dB h.len (p:=p) (j:=n) (by omega)
 have hb:=oX h (Nat.le_of_lt hn)
 have h1:cf p (n+1)=bL (be (cf p n) (1024-bZ p (n+1)) (aT p n)) n (1024-bZ p (n+1)) (aq p n):=by show(if _ then _ else _)=_;rw [JV hz]
 have gl:=(sK h n (Nat.le_of_lt hn)).len
 have hl:=fun n=>bp n 2
 unfold CV
 rw [hb,hil,show 1024-bZ p n-aq p n=1024-bZ p (n+1) by omega]
 unfold l9
 rw [h1]
 generalize cf p n=q at gl
 generalize hA:1024-bZ p (n+1)=A at *
 have hA2:18+4*ae p≤A∧A+aq p n≤1024:=by omega
 have e1:be (cp q 16 (1024-bZ p n)) A (aT p n)=cp (be q A (aT p n)) 16 (1024-bZ p n):=eX (by rw [hl];omega) (by omega) (by rw [hl];omega)
 have l1:(be q A (aT p n)).length=1024:=(bM (by omega)).trans gl
 rw [e1,xm (by omega)]
 generalize be q A (aT p n)=x at l1
 have l2:(cp x (18+4*n) A).length=1024:=(bD (by omega)).trans l1
 have e2:cp (cp x 16 A) (18+4*n) A=cp (cp x (18+4*n) A) 16 A:=eX (by rw [hl];omega) (by rw [hl];omega) (by rw [hl];omega)
 rw [e2]
 show cp (cp _ 16 A) (18+4*n+2) _=cp (cp _ (18+4*n+2) _) 16 A
 exact eX (by rw [hl];omega) (by rw [hl];omega) (by rw [hl];omega)
theorem zv(p:List UInt8):l9 p (ae p)=lf p:=rfl
theorem x9(hp:p.length=1024)(ha:a≤i)(hi:i<1024):(be p a ((List.replicate (1024-a) 0).take (i-a))).set i 0=be p a ((List.replicate (1024-a) 0).take (i+1-a)):=by
 have h:=qS (p:=p) (it:=List.replicate (1024-a) 0) (a:=a) (i:=i-a) (by rw [J8];omega) (by rw [J8];omega)
 rw [List.getElem_replicate,show a+(i-a)=i by omega,show i-a+1=i+1-a by omega] at h
 exact h
theorem zt(hp:p.length=1024)(hr:bl p=true):Fnc Tryz.prog 48 [.agg (pgS p)] H nx (fun q=>q=(pgE (lf p,0),H,nx)):=by
 refine Fnc.bz (hJ _) ?_
 have hok:=(bw hp).1 hr
 have hh:=hok.head
 have ht:=hok.top
 have hll:=eO p (ae p)
 refine Kp Tryz.func48 rfl rfl ?_
 repeat first|apply bv hp;rfl;(focus((repeat(first|exact ac|refine ab (by omega) ?_));done))|refine aZ rfl rfl cj ?_|apply ai;rfl
 refine aI rfl rfl rfl (by kernel_rfl) (Ko (qf hp) ?_)
 rintro⟨_,H2,n2⟩ ⟨g1,g2,(⟨hr2,rfl⟩|⟨_,r,rfl,g3,g4,g5⟩)⟩
 ·rw [hr] at hr2;cases hr2
 dsimp only at g1 g2 g3 g4 g5 ⊢
 have hb:H2.at' nx=some (pgO p):=(g2 _ (by omega)).trans (by repeat(first|exact ac|refine ab (by omega) ?_))
 have hz:H2.at' (nx+1)=some (pgO zeroP):=(g2 _ (by omega)).trans (by repeat(exact ac))
 have ho: ∀ m,m<nx→H2.at' m=H.at' m:=fun m hm=>(g2 m (by omega)).trans (by(repeat(refine ab (by omega) ?_));rfl)
 clear g2
 repeat first|apply bv hp;rfl;assumption|apply bE hp aj;rfl;(focus((repeat(exact ac));done))|refine aZ rfl rfl cj ?_|apply ai;rfl|apply aL;rfl;omega;omega
 refine bu (α:=Nat) (fun i=> [(1,.ptr nx 0),(2,.ptr (nx+1) 0),(4,.slu r 0 (eJ p (ae p)).length),(6,.ptr n2 0),(7,.sc (.int .i64 (i:Int)))])
  (fun i H1 n1=>n1=n2+1∧18+4*ae p≤i∧i≤1024∧H1.at' n2=some (pgO (be p (18+4*ae p) ((List.replicate (1024-(18+4*ae p)) 0).take (i-(18+4*ae p)))))∧H1.at' nx=some (pgO p)∧H1.at' (nx+1)=some (pgO zeroP)∧H1.at' r=some (slO (eJ p (ae p)))∧ ∀ m,m<nx→H1.at' m=H.at' m) (fun i=>1024-i) (18+4*ae p)
  ⟨rfl,JK _,by omega,by rw [Nat.sub_self,List.take_zero,show be p (18+4*ae p) []=p by simp [be]];(focus((repeat(exact ac));done)),by repeat(first|assumption|refine ab (by omega) ?_),by repeat(first|assumption|refine ab (by omega) ?_),by repeat(first|assumption|refine ab (by omega) ?_),fun m hm=>by(repeat(refine ab (by omega) ?_));exact ho m hm⟩ (Kv (by repeat(first|exact Kz|refine⟨rfl,?_⟩|refine⟨fP (by(omega)),?_⟩))) ?_
 rintro i H1 n1 ⟨rfl,i1,i2,i3,i4,i5,i6,i7⟩ ih
 have hpi:(be p (18+4*ae p) ((List.replicate (1024-(18+4*ae p)) 0).take (i-(18+4*ae p)))).length=1024:=(bM (by rw [JZ,J8];omega)).trans hp
 repeat apply ai;rfl
 refine bh rfl rfl rfl rfl (fun h5=>?_) (fun h5=>?_)
 ·have hi:i<1024:=by omega
  have hset:(pgS (be p (18+4*ae p) ((List.replicate (1024-(18+4*ae p)) 0).take (i-(18+4*ae p))))).set i (.sc (.int .u8 0))=pgS (be p (18+4*ae p) ((List.replicate (1024-(18+4*ae p)) 0).take (i+1-(18+4*ae p)))):=by
   rw [← x9 hp i1 hi]
   exact ny _ i 0
  repeat first|apply ai;rfl|apply gA (q:=i);rfl;rfl;rfl;rfl;exact(F.un _ rfl);exact(F.sz _ rfl);(focus(omega));(focus(omega))
  rw [show 0+i*1=i by omega]
  refine dq (cs:=pgS (be p (18+4*ae p) ((List.replicate (1024-(18+4*ae p)) 0).take (i-(18+4*ae p))))) rfl rfl rfl (F.sz _ rfl) i3 rfl (Jy (by rw [bf hpi];omega)) ?_
  rw [hset]
  repeat first|apply ai;rfl|apply aL;rfl;omega;omega
  exact ih _ _ _ (i+1) ⟨rfl,by omega,by omega,by repeat(exact ac),by repeat(first|assumption|refine ab (by omega) ?_),by repeat(first|assumption|refine ab (by omega) ?_),by repeat(first|assumption|refine ab (by omega) ?_),fun m hm=>by(repeat(refine ab (by omega) ?_));exact i7 m hm⟩ (by omega) (Kv (Ky rfl))
 ·have hi:i=1024:=by omega
  subst hi
  rw [JC (by rw [J8];exact JK _),xy hp (by omega)] at i3
  have hl0:=(sK hok 0 (JL _)).len
  have hw:=fun(H:au) nx=>gV (H:=H) (nx:=nx) (o:=16) (n:=1024) hl0 (by decide) (by decide)
  rw [show cp (cf p 0) 16 1024=l9 p 0 from rfl] at hw
  have hl1:=oW hok (JL (ae p))
  generalize cf p 0=x0 at i3 hl0 hw
  repeat first|apply bv hl0;rfl;assumption|apply bE hl1 hl0;rfl;assumption|apply ai;rfl|apply bU;rfl;kernel_rfl;exact hw _ _
  clear hw hl1
  refine bu (α:=Nat) (fun j=> [(1,.ptr nx 0),(2,.ptr (nx+1) 0),(4,.slu r 0 (eJ p (ae p)).length),(6,.ptr n2 0),(8,.sc (.int .i64 (j:Int)))])
   (fun j H3 n3=>n3=n2+1∧j≤ae p∧H3.at' n2=some (pgO (l9 p j))∧H3.at' nx=some (pgO p)∧H3.at' (nx+1)=some (pgO zeroP)∧H3.at' r=some (slO (eJ p (ae p)))∧ ∀ m,m<nx→H3.at' m=H.at' m) (fun j=>ae p-j) 0
   ⟨rfl,JL _,by repeat(exact ac),by repeat(first|assumption|refine ab (by omega) ?_),by repeat(first|assumption|refine ab (by omega) ?_),by repeat(first|assumption|refine ab (by omega) ?_),fun m hm=>by(repeat(refine ab (by omega) ?_));exact i7 m hm⟩ (Kv (Ky rfl)) ?_
  clear i3 i4 i5 i6 i7 ih
  rintro j H3 n3 ⟨rfl,j1,j2,j3,j4,j5,j6⟩ ih2
  have hlj:=oW hok j1
  repeat apply ai;rfl
  refine bh rfl rfl rfl rfl (fun h6=>?_) (fun h6=>?_)
  ·have hj:j<ae p:=by omega
   have hcS:=iA p hj
   have hcF:=jI p hj
   have hg:aq p j<65536:=cL p _
   repeat first|refine di (q:=j) rfl rfl rfl rfl (F.un _ rfl) (F.sz _ rfl) (by assumption) (by omega) (by(omega)) (JK _) ?_|refine cd (an (F.ag _ rfl) rfl j5 hcS) rfl rfl rfl ?_|apply ai;rfl
   by_cases hs:aq p j=0
   ·rw [← xz hs] at j2
    repeat first|apply kY;rfl;omega|apply ai;rfl|apply aL;rfl;omega;omega
    exact ih2 _ _ _ (j+1) ⟨rfl,hj,j2,j3,j4,j5,j6⟩ (by omega) (Kv (Ky rfl))
   ·have hsl:=cV hr hj hs
    have hil:=dB hp (j:=j) hsl.2.2.2
    have hs2:=dE p (show j+1≤ae p from hj)
    have hs3:bZ p (j+1)=bZ p j+aq p j:=rfl
    have hs1:=hok.sum_le
    have hbg:=oX hok j1
    have hlay: ∀ (H:au) nx',H.at' nx=some (pgO p)→Fnc Tryz.prog 94 [.agg (pgS (l9 p j)),.sc (.int .i64 (j:Int)),.sl nx (az p j) (aq p j) (1024-az p j)] H nx' (fun q=>q=(.agg (pgS (l9 p (j+1))),H,nx')):=fun H nx' h=>by
     have:=CU (H:=H) (nx:=nx') (n:=j) (s:= .sl nx (az p j) (aq p j) (1024-az p j)) (it:=aT p j) hlj (nn (o:=az p j) (m:=aq p j) h (by omega)) (by omega) (by omega) (by omega)
     rwa [zu hok hj hs] at this
    have hlj2:=oW hok (show j+1≤ae p from hj)
    generalize l9 p j=y at j2 hlj hlay
    repeat first|apply pK;rfl;omega|apply ai;rfl
    (apply bg;(focus(kernel_rfl));(focus(kernel_rfl)))
    repeat first|refine cg rfl rfl rfl (F.ag _ rfl) j2 (bf hlj) ?_|refine aJ (q:=j) rfl rfl rfl rfl (F.un _ rfl) (F.sz _ rfl) (by assumption) (by omega) (by(omega)) (JK _) ?_|refine bk (an (F.ag _ rfl) rfl j5 hcF) rfl rfl rfl ?_|refine bk (an (F.ag _ rfl) rfl j5 hcS) rfl rfl rfl ?_|apply bH;rfl;rfl;exact(fun _ h=>by cases h);exact(fZ (l:=az p j) (h:=az p j+aq p j) (F.un _ rfl) (F.sz _ rfl) rfl rfl rfl (by omega) (by omega) (by omega) (show az p j+aq p j-az p j=aq p j by omega) rfl (JX _))|apply b8;rfl;rfl;rfl;(focus(kernel_rfl));exact(hlay _ _ j3)|refine bY rfl rfl rfl (F.sz _ rfl) j2 (bf hlj2) (by rw [bf hlj];exact JK _) (iH _) (lx _ _ hlj hlj2) ?_|apply aU;rfl|refine bk (aw rfl rfl (.inl ⟨rfl,(Js _ ⟨(by focus(omega)),(by focus(omega))⟩).symm⟩)) rfl rfl rfl ?_
    refine aA ⟨by kernel_rfl,?_,?_⟩;(focus(repeat(first|exact Kz|apply li;rfl|apply gq;rfl;kernel_rfl|refine⟨.inr ⟨0,by kernel_rfl,AllH.all (fun _=>(by(exact aw rfl rfl (.inl ⟨rfl,(Js _ ⟨by omega,by omega⟩).symm⟩)))) _⟩,?_⟩|refine f9 1 rfl (by kernel_rfl) (by(repeat(refine⟨(by first|exact aW (F.ag _ rfl) rfl (by exact j2) (bm hlj)|exact an (F.ag _ rfl) rfl j5 hcF|exact an (F.ag _ rfl) rfl j5 hcS|exact aQ (F.un _ rfl) (F.sz _ rfl) rfl rfl j5 rfl (by omega) (JK _)),?_⟩));exact Kz) ?_|apply ml;kernel_rfl)))
    repeat first|apply ai;rfl|apply aL;rfl;omega;omega
    exact ih2 _ _ _ (j+1) ⟨rfl,hj,by repeat(exact ac),by repeat(first|assumption|refine ab (by omega) ?_),by repeat(first|assumption|refine ab (by omega) ?_),by repeat(first|assumption|refine ab (by omega) ?_),fun m hm=>by(repeat(refine ab (by omega) ?_));exact j6 m hm⟩ (by omega) (Kv (Ky rfl))
  ·have hj:j=ae p:=by omega
   subst hj
   rw [zv] at j2 hlj
   generalize lf p=y at j2 hlj ⊢
   repeat first|apply bv hlj;rfl;assumption|apply bE hlj aj;rfl;assumption|apply ai;rfl
   ((apply bn Tryz.func48 (congrArg Array.toList Tryz.results48));(focus((apply Kr rfl (Kt (F.ag _ rfl) (by repeat(exact ac)) (bm hlj)));(repeat(first|exact Kq|apply Ks rfl)))))
   exact⟨rfl,by dsimp only;omega,fun m hm=>by(repeat(refine ab (by omega) ?_));exact j6 m hm⟩
end
end Go.Proofs.YtnhmbonmlfeifaaGreat
end
section
namespace Go.Sy
open Go Go.Sl Go.RowKit
section
variable {P:Program}
theorem Fnc.Cs{f:FuncId}{args:List SV}{H:au}{nx:Nat}{v:SV}(hv: ∀ e:Env,(∀ n vo,H.at' n=some vo→ ∃ x,e n=some x)→ ∃ u,v.conc e=some u)(h:Fnc P f args H nx (fun q=>q.1=v∧nx≤q.2.2∧ ∀ n,n<nx→q.2.1.at' n=H.at' n)):Fnc P f args H nx (fun q=>q=(v,H,nx)):=by
 have key: ∀ {K:Zone} {w0 w:World} {e e':Env} {u:Value},St K w0 e H nx w→e.le e'→v.conc e'=some u→v.conc e=some u:=fun {K w0 w e e' u} hS hle hu=>by
  obtain⟨z,hz⟩:=hv e fun n vo hn=>by
   obtain⟨x,hx,_⟩:=hS.rel n vo hn
   exact⟨x,hx⟩
  have:=SV.dm hle v z hz
  rw [hu] at this
  rw [hz,←this]
 unfold Fnc kp at h ⊢
 rcases h with ⟨h1,u,r,h2,⟨q1,q2,q3⟩,h4⟩|h
 ·refine .inl ⟨h1,u,_,h2,rfl,fun K w0 e w hS=>?_⟩
  obtain⟨e',g1,g2,g3⟩:=h4 K w0 e w hS
  rw [q1] at g3
  exact⟨e,Kw e,hS.drop g1 g2 q3,key hS g1 g3⟩
 ·refine .inr ?_
  split at h
  ·refine⟨fun K w0 e w tmps todo ds kd rof cs hS a2 a3 a4 a5=>?_⟩
   obtain⟨r,⟨q1,q2,q3⟩,e',w',u,g1,g2,g3,g4⟩:=Wp.run h K w0 e w tmps todo ds kd rof cs hS a2 a3 a4 a5
   rw [q1] at g3
   exact⟨_,rfl,e,w',u,Kw e,hS.drop g1 g2 q3,key hS g1 g3,g4⟩
  ·exact h.elim
end
end Go.Sy
end
section
namespace Go.Proofs.YtnhmbonmlfeifaaGreat
open Go Go.Sy Go.Sl Go.RowKit
section
variable {H:au}{C i k n nx o r:Nat}{hm p x:List UInt8}{l:List (Int×Int)}{pf:Nat→List UInt8}
theorem AF(hp:p.length=1024)(hi:i<12):(List.replicate i 0 ++ p.drop i).set i 0=List.replicate (i+1) 0 ++ p.drop (i+1):=by
 refine Kg fun j=>?_
 rw [List.getElem?_set]
 by_cases h1:i=j
 ·subst h1
  rw [JW rfl,JW (by simp;omega),JH (by rw [J8];omega),List.getElem?_replicate,JW (by omega)]
 ·rw [JV h1]
  by_cases h2:j<i
  ·rw [JH (by rw [J8];omega),JH (by rw [J8];omega),List.getElem?_replicate,List.getElem?_replicate,JW h2,JW (by omega)]
  ·rw [J5 (by rw [J8];omega),J5 (by rw [J8];omega),J8,J8,List.getElem?_drop,List.getElem?_drop]
   congr 1
   omega
theorem Jh(hp:p.length=1024):Fnc Tryz.prog 74 [.agg (pgS p)] H nx (fun q=>q=(.agg (pgS (bareP p)),H,nx)):=by
 refine Fnc.bz (Free.agg _) ?_
 refine Kp Tryz.func74 rfl rfl ?_
 repeat first|refine aZ rfl rfl cj ?_|apply ai;rfl
 refine bu (α:=Nat) (fun i=> [(1,.ptr nx 0),(2,.ptr (nx+1) 0),(3,.sc (.int .i64 (i:Int)))])
  (fun i H1 n1=>n1=nx+1+1∧i≤12∧H1.at' nx=some (pgO (List.replicate i 0 ++ p.drop i))∧H1.at' (nx+1)=some (pgO zeroP)∧ ∀ m,m<nx→H1.at' m=H.at' m) (fun i=>12-i) 0
  ⟨rfl,JL _,by rw [List.replicate_zero,List.nil_append,List.drop_zero];(focus((repeat(first|exact ac|refine ab (by omega) ?_));done)),by repeat(exact ac),fun m hm=>by(repeat(refine ab (by omega) ?_));rfl⟩ (Kv (Ky rfl)) ?_
 rintro i H1 n1 ⟨rfl,i1,i2,i3,i4⟩ ih
 have hli:(List.replicate i 0 ++ p.drop i).length=1024:=by rw [JO,J8,J2];omega
 repeat apply ai;rfl
 refine bh rfl rfl rfl rfl (fun h5=>?_) (fun h5=>?_)
 ·have hi:i<12:=by omega
  have hset:(pgS (List.replicate i 0 ++ p.drop i)).set i (.sc (.int .u8 0))=pgS (List.replicate (i+1) 0 ++ p.drop (i+1)):=by
   rw [← AF hp hi]
   exact ny _ i 0
  repeat first|apply ai;rfl|apply gA (q:=i);rfl;rfl;rfl;rfl;exact(F.un _ rfl);exact(F.sz _ rfl);(focus(omega));(focus(omega))
  rw [show 0+i*1=i by omega]
  refine dq (cs:=pgS (List.replicate i 0 ++ p.drop i)) rfl rfl rfl (F.sz _ rfl) i2 rfl (Jy (by rw [bf hli];omega)) ?_
  rw [hset]
  repeat first|apply ai;rfl|apply aL;rfl;omega;omega
  exact ih _ _ _ (i+1) ⟨rfl,by omega,by repeat(exact ac),by repeat(first|assumption|refine ab (by omega) ?_),fun m hm=>by(repeat(refine ab (by omega) ?_));exact i4 m hm⟩ (by omega) (Kv (Ky rfl))
 ·have hi:i=12:=by omega
  subst hi
  have i2:H1.at' nx=some (pgO (bareP p)):=i2
  have hl:=dY hp
  generalize bareP p=x at i2 hl ⊢
  repeat first|apply bv hl;rfl;assumption|apply bE hl aj;rfl;assumption|apply ai;rfl
  ((apply bn Tryz.func74 (congrArg Array.toList Tryz.results74));(focus((apply Kr rfl (Kt (F.ag _ rfl) (by repeat(exact ac)) (bm hl)));(repeat(exact Kq)))))
  exact⟨rfl,by dsimp only;omega,fun m hm=>by(repeat(refine ab (by omega) ?_));exact i4 m hm⟩
theorem E6{l:List UInt8}(h:BlkAt H r o l)(hi:i+n≤l.length):BlkAt H r (o+i) ((l.drop i).take n):=
 ((h.part (n:=i) (by omega)).2.part (n:=n) (by rw [J2];omega)).1
def yy(r o C:Nat)(l:List UInt8):SV:=if l.length<20 then pM dA dA 0 0 else if l.length<20+beN ((l.drop 16).take 2) then pM dA dA 0 0 else
 pM (.sl r (o+18) (18+beN ((l.drop 16).take 2)-18) (C-18)) (.sl r (if C=20+beN ((l.drop 16).take 2) then o else o+(20+beN ((l.drop 16).take 2))) (l.length-(20+beN ((l.drop 16).take 2))) (C-(20+beN ((l.drop 16).take 2)))) (beN (l.take 8)) (beN ((l.drop 8).take 8))
theorem yw(r o C:Nat)(l:List UInt8):Jp (yy r o C l):=by
 unfold yy
 split
 ·exact⟨_,_,_,_,rfl,rfl,rfl⟩
 ·split
  ·exact⟨_,_,_,_,rfl,rfl,rfl⟩
  ·exact⟨_,_,_,_,rfl,rfl,rfl⟩
theorem yx{l:List UInt8}(hB:BlkAt H r o l)(e:Env)(he: ∀ n vo,H.at' n=some vo→ ∃ x,e n=some x)(b:Bool): ∃ u,(SV.tup [yy r o C l,.sc (.bool b)]).conc e=some u:=by
 obtain⟨vo,h,_⟩:=hB
 obtain⟨x,hx⟩:=he r vo h
 unfold yy
 split
 ·exact⟨_,rfl⟩
 ·split
  ·exact⟨_,rfl⟩
  ·simp [SV.conc,SV.aK,hx]
theorem DD{l:List UInt8}{v:gt}(hB:BlkAt H r o l)(hC:l.length≤C)(h:ofR l=some v):VerAt H (yy r o C l) r v:=by
 unfold ofR at h
 split at h
 ·cases h
 ·rename_i h1
  split at h
  ·cases h
  ·rename_i h2
   split at h
   ·have h:=(Option.some.inj h).symm
    subst h
    have hver:nO l=((l.drop 18).take (beN ((l.drop 16).take 2)),l.drop (20+beN ((l.drop 16).take 2)),beN (l.take 8),beN ((l.drop 8).take 8)):=rfl
    unfold yy
    rw [JV h1,JV h2,hver]
    generalize beN ((l.drop 16).take 2)=kk at h2 ⊢
    have lk:((l.drop 18).take kk).length=kk:=by rw [JZ,J2];omega
    have lv:(l.drop (20+kk)).length=l.length-(20+kk):=J2
    refine⟨_,_,rfl,.inr ⟨o+18,C-18,?_,E6 hB (by omega)⟩,.inr ⟨_,C-(20+kk),by rw [lv],?_⟩⟩
    ·rw [lk,Nat.add_sub_cancel_left]
    ·by_cases hc:C=20+kk
     ·have:l.drop (20+kk)= []:=List.drop_of_length_le (by omega)
      rw [this]
      obtain⟨vo,hvo,_⟩:=hB
      exact BlkAt.none _ hvo _
     ·rw [JV hc]
      exact(hB.part (n:=20+kk) (by omega)).2
   ·cases h
theorem Hy{l:List UInt8}(hB:BlkAt H r o l)(hC:l.length≤C)(hl:l.length≤100000):Fnc Tryz.prog 36 [.sl r o l.length C] H nx (fun q=>q=(.tup [yy r o C l,.sc (.bool (ofR l).isSome)],H,nx)):=by
 refine Fnc.Cs (fun e he=>yx hB e he _) ?_
 refine Kp Tryz.func36 rfl rfl ?_
 refine aX fun hund=>?_
 obtain⟨vo0,hr,_⟩:=id hB
 have lr:=hund _ _ hr
 repeat first|apply ai;rfl|refine cd (gH (F.un _ rfl) rfl) rfl rfl rfl ?_
 refine bh rfl rfl rfl rfl (fun h1=>?_) (fun h1=>?_)
 ·have hv:ofR l=none:=by unfold ofR;rw [JW (by omega)]
  repeat first|apply ai;rfl|apply aH;rfl;(focus((repeat(exact ac));done));rfl
  ((apply bn Tryz.func36 (congrArg Array.toList Tryz.results36));(focus(repeat(first|exact Kq|apply Ks rfl|apply Kr rfl (Kt (F.ag _ rfl) (by repeat(exact ac)) (am _ 0 rfl rfl))))))
  rw [hv,show yy r o C l=pM dA dA 0 0 from JW (by omega)]
  exact⟨rfl,by dsimp only;omega,fun m hm=>(aa _ _ (by omega)).trans (aa _ _ (by omega))⟩
 ·have h20:20≤l.length:=by omega
  have hB1: ∀ H':au,H'.at' r=H.at' r→BlkAt H' r o l:=fun H' h=>hB.frame h
  have hk16:((l.drop 16).take 2).length=2:=by rw [JZ,J2];omega
  have hklt:=mB ((l.drop 16).take 2)
  rw [hk16] at hklt
  repeat apply ai;rfl
  (apply yu (lw:=16) (hg:=18);rfl;rfl;rfl;exact(F.un _ rfl);exact(F.sz _ rfl);exact(iu rfl rfl);exact(iu rfl rfl);(focus(omega));(focus(omega));exact(JV (by omega)))
  refine aI rfl rfl rfl (by kernel_rfl) (Ko (nH (s:= .sl r (o+16) (18-16) (C-16)) (bs:=(l.drop 16).take 2) (by have:=(E6 (hB1 _ (aa _ _ (by omega):(H.set nx (fx (eF dA dA 0 0))).at' r=H.at' r)) (i:=16) (n:=2) (by omega)).bs (C:=C-16);rwa [hk16] at this) (by omega)) ?_)
  rintro _ rfl
  dsimp only
  have hof:ofR l=(if l.length<20+beN ((l.drop 16).take 2) then none else if iJ (nO l)=true∧beN ((l.drop (18+beN ((l.drop 16).take 2))).take 2)=(l.drop (20+beN ((l.drop 16).take 2))).length then some (nO l) else none):=by unfold ofR;rw [JV (by omega)]
  have hver:nO l=((l.drop 18).take (beN ((l.drop 16).take 2)),l.drop (20+beN ((l.drop 16).take 2)),beN (l.take 8),beN ((l.drop 8).take 8)):=rfl
  have hvb:yy r o C l=(if l.length<20+beN ((l.drop 16).take 2) then pM dA dA 0 0 else pM (.sl r (o+18) (18+beN ((l.drop 16).take 2)-18) (C-18)) (.sl r (if C=20+beN ((l.drop 16).take 2) then o else o+(20+beN ((l.drop 16).take 2))) (l.length-(20+beN ((l.drop 16).take 2))) (C-(20+beN ((l.drop 16).take 2)))) (beN (l.take 8)) (beN ((l.drop 8).take 8))):=JV (by omega)
  generalize beN ((l.drop 16).take 2)=kk at hklt hof hver hvb ⊢
  repeat first|apply ai;rfl|apply aL;rfl;omega;omega|refine cd (bT (F.un _ rfl) (F.un _ rfl) rfl (show _=((kk:Nat):Int)from Js _ ⟨by omega,by omega⟩)) rfl rfl rfl ?_|refine cd (gH (F.un _ rfl) rfl) rfl rfl rfl ?_
  refine bh rfl rfl rfl rfl (fun h2=>?_) (fun h2=>?_)
  ·have hv:ofR l=none:=by rw [hof,JW (by omega)]
   repeat first|apply ai;rfl|apply aH;rfl;(focus((repeat(exact ac));done));rfl
   ((apply bn Tryz.func36 (congrArg Array.toList Tryz.results36));(focus(repeat(first|exact Kq|apply Ks rfl|apply Kr rfl (Kt (F.ag _ rfl) (by repeat(exact ac)) (am _ 0 rfl rfl))))))
   rw [hv,hvb,JW (by omega)]
   exact⟨rfl,by dsimp only;omega,fun m hm=>(aa _ _ (by omega)).trans (aa _ _ (by omega))⟩
  ·have hv:=hof
   rw [JV (by omega)] at hv
   have h2n: ¬ l.length<20+kk:=by omega
   rw [JV h2n] at hvb
   clear hof
   have l8:(l.take 8).length=8:=by rw [JZ];omega
   have l16:((l.drop 8).take 8).length=8:=by rw [JZ,J2];omega
   have g8: ∀ (H':au) (nx':Nat),H'.at' r=H.at' r→Fnc Tryz.prog 78 [.sl r (o+0) (8-0) (C-0)] H' nx' (fun q=>q=(.sc (.int .u64 (beN (l.take 8):Int)),H',nx')):=fun H' nx' h=>nH (by
    have:=(E6 (hB1 H' h) (i:=0) (n:=8) (by omega)).bs (C:=C-0)
    rwa [List.drop_zero,l8] at this) (by omega)
   have g16: ∀ (H':au) (nx':Nat),H'.at' r=H.at' r→Fnc Tryz.prog 78 [.sl r (o+8) (16-8) (C-8)] H' nx' (fun q=>q=(.sc (.int .u64 (beN ((l.drop 8).take 8):Int)),H',nx')):=fun H' nx' h=>nH (by
    have:=(E6 (hB1 H' h) (i:=8) (n:=8) (by omega)).bs (C:=C-8)
    rwa [l16] at this) (by omega)
   have lk:((l.drop 18).take kk).length=kk:=by rw [JZ,J2];omega
   have lv:(l.drop (20+kk)).length=l.length-(20+kk):=J2
   have hK: ∀ H':au,H'.at' r=H.at' r→BlkS H' (.sl r (o+18) (18+kk-18) (C-18)) r (nO l).1:=fun H' h=>by
    rw [hver]
    refine .inr ⟨o+18,C-18,?_,E6 (hB1 H' h) (by omega)⟩
    rw [lk,Nat.add_sub_cancel_left]
   have hV: ∀ H':au,H'.at' r=H.at' r→BlkS H' (.sl r (if C=20+kk then o else o+(20+kk)) (l.length-(20+kk)) (C-(20+kk))) r (nO l).2.1:=fun H' h=>by
    rw [hver]
    refine .inr ⟨if C=20+kk then o else o+(20+kk),C-(20+kk),by rw [lv],?_⟩
    by_cases hc:C=20+kk
    ·have:l.drop (20+kk)= []:=List.drop_of_length_le (by omega)
     rw [this]
     exact BlkAt.none _ (h.trans hr) _
    ·rw [JV hc]
     exact((hB1 H' h).part (n:=20+kk) (by omega)).2
   repeat apply ai;rfl
   (apply gB;(focus(kernel_rfl));(focus(kernel_rfl)))
   refine dW 2 (Jw rfl) ?_
   repeat first|apply aU;rfl|apply bH;rfl;rfl;exact(fun _ h=>by cases h);exact(cW (l:=0) (h:=8) (F.un _ rfl) (F.sz _ rfl) rfl ku (iu rfl rfl) (by omega) (by omega) (JV (by omega)))
   refine aA ?_;refine dX rfl rfl rfl (by kernel_rfl) (g8 _ _ (by(repeat(refine ab (by omega) ?_));rfl)) ?_
   refine dW 2 (Jw rfl) ?_
   repeat first|apply aU;rfl|apply bH;rfl;rfl;exact(fun _ h=>by cases h);exact(cW (l:=8) (h:=16) (F.un _ rfl) (F.sz _ rfl) rfl (iu rfl rfl) (iu rfl rfl) (by omega) (by omega) (JV (by omega)))
   refine aA ?_;refine dX rfl rfl rfl (by kernel_rfl) (g16 _ _ (by(repeat(refine ab (by omega) ?_));rfl)) ?_
   refine jw ?_
   repeat first|apply aU;rfl|refine pW (fj (F.zl _ rfl)) rfl rfl rfl ?_|refine bk (aw rfl rfl (.inl ⟨rfl,(Js _ ⟨(by focus(omega)),(by focus(omega))⟩).symm⟩)) rfl rfl rfl ?_|refine rH (da (F.sz _ rfl) rfl rfl rfl (by repeat(exact ac)) (by rfl) (by exact Jw rfl) (by rfl)) rfl rfl ?_|apply bH;rfl;rfl;exact(fun _ h=>by cases h);exact(cW (l:=18) (h:=18+kk) (F.un _ rfl) (F.sz _ rfl) rfl (iu rfl rfl) (iu rfl (by omega)) (by omega) (by omega) (JV (by omega)))|apply bH;rfl;rfl;exact(fun _ h=>by cases h);exact(cW (l:=20+kk) (h:=l.length) (F.un _ rfl) (F.sz _ rfl) rfl (iu rfl (by omega)) ku (by omega) (by omega) rfl)
   refine aA ⟨by kernel_rfl,?_,?_⟩;(focus(repeat(first|exact Kz|refine⟨.inl rfl,?_⟩|refine⟨.inr (.inl (by(repeat(refine⟨(by first|exact mO rfl|exact aw rfl rfl (.inl ⟨rfl,(Js _ ⟨by omega,by omega⟩).symm⟩)|exact cW (l:=0) (h:=8) (F.un _ rfl) (F.sz _ rfl) rfl ku (iu rfl rfl) (by omega) (by omega) (JV (by omega))|exact cW (l:=8) (h:=16) (F.un _ rfl) (F.sz _ rfl) rfl (iu rfl rfl) (iu rfl rfl) (by omega) (by omega) (JV (by omega))|exact cW (l:=18) (h:=18+kk) (F.un _ rfl) (F.sz _ rfl) rfl (iu rfl rfl) (iu rfl (by omega)) (by omega) (by omega) (JV (by omega))|exact cW (l:=20+kk) (h:=l.length) (F.un _ rfl) (F.sz _ rfl) rfl (iu rfl (by omega)) ku (by omega) (by omega) rfl),?_⟩));exact Kz)),?_⟩|refine⟨.inr (.inr (by(repeat(refine⟨(by exact ew rfl (by kernel_rfl) (by first|exact g8 _ _ (by(repeat(refine ab (by omega) ?_));rfl)|exact g16 _ _ (by(repeat(refine ab (by omega) ?_));rfl))),?_⟩));exact Kz)),?_⟩)))
   obtain⟨kS,hkS⟩: ∃ kS,kS=SV.sl r (o+18) (18+kk-18) (C-18):=⟨_,rfl⟩
   refine cT (R:=fun H7 n7=>n7=nx+1+1∧H7.at' (nx+1)=some (fx (eF (.sl r (o+18) (18+kk-18) (C-18)) (.sl r (if C=20+kk then o else o+(20+kk)) (l.length-(20+kk)) (C-(20+kk))) (beN (l.take 8)) (beN ((l.drop 8).take 8))))∧H7.at' nx=some (fx (eF dA dA 0 0))∧ ∀ m,m<nx→H7.at' m=H.at' m) ⟨rfl,by repeat(exact ac),by repeat(first|exact ac|refine ab (by omega) ?_),fun m hm=>by(repeat(refine ab (by omega) ?_));rfl⟩ ?_
   rintro H7 n7 ⟨rfl,b5,b2,bo⟩
   clear kS hkS g8 g16 l8 l16 hk16
   have br:H7.at' r=H.at' r:=bo r lr
   have hat: ∀ H':au,H'.at' r=H7.at' r→VerAt H' (pM (.sl r (o+18) (18+kk-18) (C-18)) (.sl r (if C=20+kk then o else o+(20+kk)) (l.length-(20+kk)) (C-(20+kk))) (beN (l.take 8)) (beN ((l.drop 8).take 8))) r (nO l):=fun H' h=>⟨_,_,by rw [hver],hK H' (h.trans br),hV H' (h.trans br)⟩
   have cM: ∀ (H':au) (nx':Nat),H'.at' r=H7.at' r→Fnc Tryz.prog 18 [pM (.sl r (o+18) (18+kk-18) (C-18)) (.sl r (if C=20+kk then o else o+(20+kk)) (l.length-(20+kk)) (C-(20+kk))) (beN (l.take 8)) (beN ((l.drop 8).take 8))] H' nx' (fun q=>q=(.sc (.bool (iJ (nO l))),H',nx')):=fun H' nx' h=>zR (hat H' h).is
   have l2:((l.drop (18+kk)).take 2).length=2:=by rw [JZ,J2];omega
   have g2: ∀ (H':au) (nx':Nat),H'.at' r=H7.at' r→Fnc Tryz.prog 78 [.sl r (o+(18+kk)) (20+kk-(18+kk)) (C-(18+kk))] H' nx' (fun q=>q=(.sc (.int .u64 (beN ((l.drop (18+kk)).take 2):Int)),H',nx')):=fun H' nx' h=>nH (by
    have:=(E6 (hB1 H' (h.trans br)) (i:=18+kk) (n:=2) (by omega)).bs (C:=C-(18+kk))
    rw [show 20+kk-(18+kk)=2 by omega]
    rwa [l2] at this) (by omega)
   have hn2:=mB ((l.drop (18+kk)).take 2)
   rw [l2] at hn2
   generalize beN ((l.drop (18+kk)).take 2)=n2 at hn2 hv g2
   repeat apply ai;rfl
   cases hm:iJ (nO l)with
   | false=>
     rw [hm] at cM
     have hno:ofR l=none:=by rw [hv,JV (fun h=>by rw [hm] at h;cases h.1)]
     (apply gB;(focus(kernel_rfl));(focus(kernel_rfl)))
     refine dW 2 (Jw rfl) ?_
     repeat apply dD;rfl;assumption;rfl
     refine aA ?_;(apply dX;rfl;rfl;rfl;(focus(kernel_rfl));exact(cM _ _ rfl))
     refine jw ?_
     repeat first|apply aU;rfl|apply cv;rfl;rfl|refine rH (da (F.sz _ rfl) rfl rfl rfl (by assumption) (by rfl) (by exact Jw rfl) (by rfl)) rfl rfl ?_
     refine aA ⟨by kernel_rfl,?_,?_⟩;(focus(repeat(first|exact Kz|refine⟨.inl rfl,?_⟩|refine⟨.inr (.inl (by(repeat(refine⟨(by first|exact mO rfl|exact aW (F.ag _ rfl) rfl (by repeat(first|assumption|refine ab (by omega) ?_)) (am _ 0 rfl rfl)),?_⟩));exact Kz)),?_⟩|refine⟨.inr (.inr (by(repeat(refine⟨(by exact ew rfl (by kernel_rfl) (by(exact cM _ _ (by(repeat(refine ab (by omega) ?_));rfl)))),?_⟩));exact Kz)),?_⟩)))
     ((apply bn Tryz.func36 (congrArg Array.toList Tryz.results36));(focus(repeat(first|exact Kq|apply Ks rfl|apply Kr rfl (Kt (F.ag _ rfl) (by repeat(exact ac)) (am _ 0 rfl rfl))))))
     rw [hno,hvb]
     exact⟨rfl,by dsimp only;omega,fun m hm=>by(repeat(refine ab (by omega) ?_));exact bo m hm⟩
   | true=>
     rw [hm] at cM
     (apply gB;(focus(kernel_rfl));(focus(kernel_rfl)))
     refine dW 2 (Jw rfl) ?_
     repeat apply dD;rfl;assumption;rfl
     refine aA ?_;(apply dX;rfl;rfl;rfl;(focus(kernel_rfl));exact(cM _ _ rfl))
     refine dW 7 (Jw rfl) ?_
     repeat first|apply aU;rfl|refine bk (aw rfl rfl (.inl ⟨rfl,(Js _ ⟨(by focus(omega)),(by focus(omega))⟩).symm⟩)) rfl rfl rfl ?_|apply bH;rfl;rfl;exact(fun _ h=>by cases h);exact(cW (l:=18+kk) (h:=20+kk) (F.un _ rfl) (F.sz _ rfl) rfl (iu rfl (by omega)) (iu rfl (by omega)) (by omega) (by omega) (JV (by omega)))
     refine aA ?_;(apply dX;rfl;rfl;rfl;(focus(kernel_rfl));exact(g2 _ _ rfl))
     refine jw ?_
     repeat first|apply aU;rfl|apply dD;rfl;assumption;rfl|refine bk (bT (F.un _ rfl) (F.un _ rfl) rfl (show _=((n2:Nat):Int)from Js _ ⟨by omega,by omega⟩)) rfl rfl rfl ?_|apply bH;rfl;rfl;exact(fun _ h=>by cases h);exact(gH (F.un _ rfl) rfl)
     refine lQ rfl rfl rfl rfl (fun e=>?_) (fun e=>?_)
     ·have hyes:ofR l=some (nO l):=by rw [hv,JW ⟨hm,by omega⟩]
      repeat first|apply aU;rfl|refine rH (da (F.sz _ rfl) rfl rfl rfl (by assumption) (by rfl) (by exact Jw rfl) (by rfl)) rfl rfl ?_
      refine aA ⟨by kernel_rfl,?_,?_⟩;(focus(repeat(first|exact Kz|refine⟨.inl rfl,?_⟩|refine⟨.inr (.inl (by(repeat(refine⟨(by first|exact mO rfl|exact aw rfl rfl (.inl ⟨rfl,(Js _ ⟨by omega,by omega⟩).symm⟩)|exact an (F.ag _ rfl) rfl (by repeat(first|assumption|refine ab (by omega) ?_)) (aC rfl)|exact aW (F.ag _ rfl) rfl (by repeat(first|assumption|refine ab (by omega) ?_)) (am _ 0 rfl rfl)|exact cW (l:=18+kk) (h:=20+kk) (F.un _ rfl) (F.sz _ rfl) rfl (iu rfl (by omega)) (iu rfl (by omega)) (by omega) (by omega) (JV (by omega))|exact gH (F.un _ rfl) rfl|exact bT (F.un _ rfl) (F.un _ rfl) rfl (show _=((n2:Nat):Int)from Js _ ⟨by omega,by omega⟩)|exact dl rfl rfl (.inl ⟨rfl,(Ke (by omega)).symm⟩)),?_⟩));exact Kz)),?_⟩|refine⟨.inr (.inr (by(repeat(refine⟨(by exact ew rfl (by kernel_rfl) (by first|exact cM _ _ (by(repeat(refine ab (by omega) ?_));rfl)|exact g2 _ _ (by(repeat(refine ab (by omega) ?_));rfl))),?_⟩));exact Kz)),?_⟩)))
      ((apply bn Tryz.func36 (congrArg Array.toList Tryz.results36));(focus(repeat(first|exact Kq|apply Ks rfl|apply Kr rfl (Kt (F.ag _ rfl) (by repeat(exact ac)) (am _ 0 rfl rfl))))))
      rw [hyes,hvb]
      exact⟨rfl,by dsimp only;omega,fun m hm=>by(repeat(refine ab (by omega) ?_));exact bo m hm⟩
     ·have hno:ofR l=none:=by rw [hv,JV (fun h=>by have:=h.2;omega)]
      repeat first|apply aU;rfl|refine rH (da (F.sz _ rfl) rfl rfl rfl (by assumption) (by rfl) (by exact Jw rfl) (by rfl)) rfl rfl ?_
      refine aA ⟨by kernel_rfl,?_,?_⟩;(focus(repeat(first|exact Kz|refine⟨.inl rfl,?_⟩|refine⟨.inr (.inl (by(repeat(refine⟨(by first|exact mO rfl|exact aw rfl rfl (.inl ⟨rfl,(Js _ ⟨by omega,by omega⟩).symm⟩)|exact an (F.ag _ rfl) rfl (by repeat(first|assumption|refine ab (by omega) ?_)) (aC rfl)|exact aW (F.ag _ rfl) rfl (by repeat(first|assumption|refine ab (by omega) ?_)) (am _ 0 rfl rfl)|exact cW (l:=18+kk) (h:=20+kk) (F.un _ rfl) (F.sz _ rfl) rfl (iu rfl (by omega)) (iu rfl (by omega)) (by omega) (by omega) (JV (by omega))|exact gH (F.un _ rfl) rfl|exact bT (F.un _ rfl) (F.un _ rfl) rfl (show _=((n2:Nat):Int)from Js _ ⟨by omega,by omega⟩)|exact dl rfl rfl (.inl ⟨rfl,(Kf (by omega)).symm⟩)),?_⟩));exact Kz)),?_⟩|refine⟨.inr (.inr (by(repeat(refine⟨(by exact ew rfl (by kernel_rfl) (by first|exact cM _ _ (by(repeat(refine ab (by omega) ?_));rfl)|exact g2 _ _ (by(repeat(refine ab (by omega) ?_));rfl))),?_⟩));exact Kz)),?_⟩)))
      ((apply bn Tryz.func36 (congrArg Array.toList Tryz.results36));(focus(repeat(first|exact Kq|apply Ks rfl|apply Kr rfl (Kt (F.ag _ rfl) (by repeat(exact ac)) (am _ 0 rfl rfl))))))
      rw [hno,hvb]
      exact⟨rfl,by dsimp only;omega,fun m hm=>by(repeat(refine ab (by omega) ?_));exact bo m hm⟩
theorem Cj(hi:i<12):(bareP p)[i]? =some 0:=by
 unfold bareP
 rw [JH (by rw [J8];exact hi),List.getElem?_replicate,JW hi]
theorem AG(p:List UInt8)(hp:p.length=1024):bareP (bareP p)=bareP p:=no (dY hp) fun i hi=>Cj hi
abbrev hpO(hm:List UInt8):VO:=ar 33 ((byV hm).map .sc)
theorem gK(hl:hm.length=98304)(hn:n<96):(ay hm n).length=1024:=by
 unfold ay
 rw [JZ,J2]
 omega
theorem BS(hl:hm.length=98304)(hn:n<96):(hpO hm).cellsFrom (0+n*1024) 1024=some (pgS (ay hm n)):=by
 refine am _ _ ?_ (by rw [bf (gK hl hn)])
 unfold ay
 rw [JX,Nat.mul_comm]
 simp [List.map_take,List.map_drop]
def sB(p:List UInt8):List UInt8×Bool:=if(aS (bareP p)).2=0 then((aS (bareP p)).1,true) else(bareP p,false)
theorem sA(hp:p.length=1024):(sB p).1.length=1024:=by
 unfold sB
 split
 ·rename_i h
  exact(cQ (p:=bareP p) (q:=(aS (bareP p)).1) (Prod.ext rfl h) (dY hp)).1
 ·exact dY hp
abbrev Bs(r:List UInt8×Bool):SV:= .tup [.agg (pgS r.1),.sc (.bool r.2)]
theorem kP_at(hp:p.length=1024):kP p=(p[12]'(by omega)).toNat:=by
 unfold kP
 rw [JF,Ju (by omega)]
 rfl
theorem l5{hb:Nat}(hH:H.at' hb=some (hpO hm))(hl:hm.length=98304)(hn:n<96):Fnc Tryz.prog 34 [.ptr hb 0,.sc (.int .i64 (n:Int))] H nx (fun q=>q=(Bs (sB (ay hm n)),H,nx)):=by
 refine Fnc.bz (Free.two (Free.agg _) (Free.sc _)) ?_
 have hpl:=gK hl hn
 have hbl:=dY hpl
 have hbb:=AG _ hpl
 refine Kp Tryz.func34 rfl rfl ?_
 refine aX fun hund=>?_
 have lH:=hund _ _ hH
 have hv0:sB (ay hm n)=if(aS (bareP (ay hm n))).2=0 then((aS (bareP (ay hm n))).1,true) else(bareP (ay hm n),false):=rfl
 repeat first|refine aZ rfl rfl cj ?_|apply ai;rfl|apply gA (q:=n);rfl;rfl;rfl;rfl;exact(F.un _ rfl);exact(F.sz _ rfl);(focus(omega));(focus(omega))
 refine dP rfl rfl rfl (F.ag _ rfl) (by(repeat(refine ab (by omega) ?_));exact hH) (BS hl hn) ?_
 have hbs:=fun(H:au) nx=>Jh (H:=H) (nx:=nx) hpl
 rw [hv0]
 clear hv0
 generalize bareP (ay hm n)=p at hbl hbb hbs ⊢
 repeat first|apply bE hbl aj;rfl;(focus((repeat(exact ac));done))|refine aZ rfl rfl cj ?_|apply ai;rfl|apply aH;rfl;(focus((repeat(first|exact ac|refine ab (by omega) ?_));done));rfl|apply bU;rfl;kernel_rfl;exact hbs _ _|apply bv hbl;rfl;(focus((repeat(first|exact ac|refine ab (by omega) ?_));done))
 cases hz:decide (p=zeroP)with
 | true=>
   have hrd:aS p=(eV 4,0):=by unfold aS;rw [JW (by unfold ii;rw [hbb];exact hz)]
   have hil:(eV 4).length=1024:=fT 4
   have hi:=fun(H:au) nx=>Eu (H:=H) (nx:=nx) 4
   rw [hrd,JW rfl]
   generalize eV 4=y at hil hi ⊢
   refine cd (qQ hbl aj rfl rfl) rfl rfl rfl ?_
   rw [hz]
   repeat first|apply bE hil aj;rfl;(focus((repeat(first|exact ac|refine ab (by omega) ?_));done))|apply ai;rfl|apply bU;rfl;kernel_rfl;exact hi _ _
   ((apply bn Tryz.func34 (congrArg Array.toList Tryz.results34));(focus((apply Kr rfl (Kt (F.ag _ rfl) (by repeat(exact ac)) (bm hil)));(repeat(first|exact Kq|apply Ks rfl)))))
   exact⟨rfl,by dsimp only;omega,fun m hm=>by(repeat(refine ab (by omega) ?_));rfl⟩
 | false=>
   have hun: ¬ ii p=true:=by unfold ii;rw [hbb,hz];decide
   refine cd (qQ hbl aj rfl rfl) rfl rfl rfl ?_
   rw [hz]
   repeat first|apply bv hbl;rfl;(focus((repeat(first|exact ac|refine ab (by omega) ?_));done))|apply ai;rfl
   refine aI rfl rfl rfl (by kernel_rfl) (Ko (qf hbl) ?_)
   rintro⟨_,H2,n2⟩ ⟨g1,g2,(⟨hr,rfl⟩|⟨hr,r,rfl,g3,g4,g5⟩)⟩
   ·dsimp only at g1 g2 ⊢
    have hrd:aS p=(zeroP,13):=by unfold aS;rw [JV hun,JW (.inl hr)]
    rw [hrd,JV (by decide)]
    have k1:H2.at' nx=some (pgO zeroP):=(g2 _ (by omega)).trans (by repeat(first|exact ac|refine ab (by omega) ?_))
    have k2:H2.at' (nx+1)=some (pgO p):=(g2 _ (by omega)).trans (by repeat(first|exact ac|refine ab (by omega) ?_))
    have ko: ∀ m,m<nx→H2.at' m=H.at' m:=fun m hm=>(g2 m (by omega)).trans (by(repeat(refine ab (by omega) ?_));rfl)
    clear g2
    repeat first|apply bv hbl;rfl;assumption|apply bE hbl aj;rfl;assumption|apply ai;rfl
    ((apply bn Tryz.func34 (congrArg Array.toList Tryz.results34));(focus((apply Kr rfl (Kt (F.ag _ rfl) (by repeat(exact ac)) (bm hbl)));(repeat(first|exact Kq|apply Ks rfl)))))
    exact⟨rfl,by dsimp only;omega,fun m hm=>by(repeat(refine ab (by omega) ?_));exact ko m hm⟩
   ·dsimp only at g1 g2 g3 g4 g5 ⊢
    have hok:=(bw hbl).1 hr
    have hh:=hok.head
    have ht:=hok.top
    have hll:=eO p (ae p)
    have k1:H2.at' nx=some (pgO zeroP):=(g2 _ (by omega)).trans (by repeat(first|exact ac|refine ab (by omega) ?_))
    have k2:H2.at' (nx+1)=some (pgO p):=(g2 _ (by omega)).trans (by repeat(first|exact ac|refine ab (by omega) ?_))
    have ko: ∀ m,m<nx→H2.at' m=H.at' m:=fun m hm=>(g2 m (by omega)).trans (by(repeat(refine ab (by omega) ?_));rfl)
    clear g2
    have hk:=kP_at hbl
    have hc12:(pgO p).cell (0+12*1)=some (.sc (.int .u8 ((p[12]'(by omega)).toNat:Int))):=oe (p:=p) (i:=12) (by omega)
    have hrd:aS p=if kP p≠4 then(zeroP,13) else if xR p=true then(zeroP,13) else(p,0):=by
     unfold aS
     rw [JV hun]
     by_cases h4:kP p=4
     ·rw [JV (fun h=>by rcases h with h|h;rw [hr] at h;cases h;exact h h4),JV (show ¬ (kP p≠4)from fun h=>h h4)]
     ·rw [JW (.inr h4),JW h4]
    rw [← hk] at hc12
    repeat first|apply ai;rfl|apply gA (q:=12);rfl;rfl;rfl;rfl;exact(F.un _ rfl);exact(F.sz _ rfl);(focus(omega));(focus(omega))|refine cd (an (F.ag _ rfl) rfl k2 hc12) rfl rfl rfl ?_
    by_cases h4:kP p=4
    ·rw [JV (show ¬ (kP p≠4)from fun h=>h h4)] at hrd
     repeat first|apply ai;rfl|apply dK;rfl;omega
     refine bu (α:=Nat) (fun j=> [(4,.ptr nx 0),(6,.ptr (nx+1) 0),(8,.slu r 0 (eJ p (ae p)).length),(10,.sc (.int .i64 (j:Int)))])
      (fun j H3 n3=>j≤ae p∧(∀ i,i<j→aq p i≠0→(ofV (aT p i)).isSome=true)∧r<n3∧H3.at' nx=some (pgO zeroP)∧H3.at' (nx+1)=some (pgO p)∧H3.at' r=some (slO (eJ p (ae p)))∧ ∀ m,m<nx→H3.at' m=H.at' m) (fun j=>ae p-j) 0
      ⟨JL _,fun i hi=>absurd hi (Nat.not_lt_zero _),g4,k1,k2,g5,ko⟩ (Kv (Ky rfl)) ?_
     clear k1 k2 ko g5
     rintro j H3 n3 ⟨j1,j2,j3,j4,j5,j6,j7⟩ ih
     repeat apply ai;rfl
     refine bh rfl rfl rfl rfl (fun h6=>?_) (fun h6=>?_)
     ·have hj:j<ae p:=by omega
      have hcS:=iA p hj
      have hcF:=jI p hj
      have hg:aq p j<65536:=cL p _
      repeat first|refine di (q:=j) rfl rfl rfl rfl (F.un _ rfl) (F.sz _ rfl) (by assumption) (by omega) (by(omega)) (JK _) ?_|refine cd (an (F.ag _ rfl) rfl j6 hcS) rfl rfl rfl ?_|apply ai;rfl
      by_cases hs:aq p j=0
      ·repeat first|apply kY;rfl;omega|apply ai;rfl|apply aL;rfl;omega;omega
       exact ih _ _ _ (j+1) ⟨hj,fun i h1 h2=>(by
        rcases JY i j with h3|h3
        ·exact j2 i h3 h2
        ·obtain rfl:i=j:=by omega
         exact absurd hs h2),j3,j4,j5,j6,j7⟩ (by omega) (Kv (Ky rfl))
      ·have hsl:=cV hr hj hs
       have hil:=dB hbl (j:=j) hsl.2.2.2
       have hba: ∀ H:au,H.at' (nx+1)=some (pgO p)→BlkAt H (nx+1) (az p j) (aT p j):=fun H h=>⟨_,h,by
        rw [hil]
        refine am _ _ ?_ (by simp only [J0];omega)
        unfold aT
        simp [List.map_take,List.map_drop]⟩
       have hof: ∀ (H:au) nx',H.at' (nx+1)=some (pgO p)→Fnc Tryz.prog 36 [.sl (nx+1) (az p j) (aq p j) (1024-az p j)] H nx' (fun q=>q=(.tup [yy (nx+1) (az p j) (1024-az p j) (aT p j),.sc (.bool (ofV (aT p j)).isSome)],H,nx')):=fun H nx' h=>by
        have:=Hy (H:=H) (nx:=nx') (r:=nx+1) (o:=az p j) (C:=1024-az p j) (l:=aT p j) (hba H h) (by omega) (by omega)
        rwa [hil,←of_eq] at this
       obtain⟨vk,vw,vx,vy,hve,hv1,hv2⟩:=yw (nx+1) (az p j) (1024-az p j) (aT p j)
       rw [hve] at hof
       have hone:bi (eF vk vw vx vy)=true:=by simp only [bi,hv1,hv2];rfl
       repeat first|apply pK;rfl;omega|apply ai;rfl
       cases hb:(ofV (aT p j)).isSome with
       | true=>
         rw [hb] at hof
         (apply gB;(focus(kernel_rfl));(focus(kernel_rfl)))
         refine dW 17 (Jw rfl) ?_
         repeat first|refine aJ (q:=j) rfl rfl rfl rfl (F.un _ rfl) (F.sz _ rfl) (by assumption) (by omega) (by(omega)) (JK _) ?_|refine bk (an (F.ag _ rfl) rfl j6 hcF) rfl rfl rfl ?_|refine bk (an (F.ag _ rfl) rfl j6 hcS) rfl rfl rfl ?_|apply bH;rfl;rfl;exact(fun _ h=>by cases h);exact(fZ (l:=az p j) (h:=az p j+aq p j) (F.un _ rfl) (F.sz _ rfl) rfl rfl rfl (by omega) (by omega) (by omega) (show az p j+aq p j-az p j=aq p j by omega) rfl (JX _))|apply aU;rfl|refine bk (aw rfl rfl (.inl ⟨rfl,(Js _ ⟨(by focus(omega)),(by focus(omega))⟩).symm⟩)) rfl rfl rfl ?_
         refine aA ?_;(apply dX;rfl;rfl;rfl;(focus(kernel_rfl));exact(hof _ _ j5))
         refine jw ?_
         repeat first|refine bY rfl rfl rfl (F.sz _ rfl) (by repeat(first|assumption|exact ac)) rfl (by exact Jw rfl) hone rfl ?_|apply aU;rfl|refine pW (fj (F.zl _ rfl)) rfl rfl rfl ?_
         refine aA ⟨by kernel_rfl,?_,?_⟩;(focus(repeat(first|exact Kz|refine⟨.inl rfl,?_⟩|refine⟨.inr (.inl (by(repeat(refine⟨(by first|exact mO rfl|exact aw rfl rfl (.inl ⟨rfl,(Js _ ⟨by omega,by omega⟩).symm⟩)|exact an (F.ag _ rfl) rfl (by(repeat(refine ab (by omega) ?_));exact j6) hcF|exact an (F.ag _ rfl) rfl (by(repeat(refine ab (by omega) ?_));exact j6) hcS|exact aQ (F.un _ rfl) (F.sz _ rfl) rfl rfl (by(repeat(refine ab (by omega) ?_));exact j6) rfl (by omega) (JK _)|exact fZ (l:=az p j) (h:=az p j+aq p j) (F.un _ rfl) (F.sz _ rfl) rfl rfl rfl (by omega) (by omega) (by omega) (show az p j+aq p j-az p j=aq p j by omega) rfl (JX _)),?_⟩));exact Kz)),?_⟩|refine⟨.inr (.inr (by(repeat(refine⟨(by exact ew rfl (by kernel_rfl) (by exact hof _ _ (by(repeat(refine ab (by omega) ?_));exact j5))),?_⟩));exact Kz)),?_⟩)))
         repeat first|apply ai;rfl|apply aL;rfl;omega;omega
         exact ih _ _ _ (j+1) ⟨hj,fun i h1 h2=>(by
          rcases JY i j with h3|h3
          ·exact j2 i h3 h2
          ·obtain rfl:i=j:=by omega
           exact hb),by first|omega|(dsimp only;omega),by repeat(first|assumption|refine ab (by omega) ?_),by repeat(first|assumption|refine ab (by omega) ?_),by repeat(first|assumption|refine ab (by omega) ?_),fun m hm=>by(repeat(refine ab (by omega) ?_));exact j7 m hm⟩ (by omega) (Kv (Ky rfl))
       | false=>
         rw [hb] at hof
         have hbad:xR p=true:=List.any_eq_true.2 ⟨j,Kh.2 hj,by rw [Ke hs];cases h9:ofV (aT p j)with|none=>rfl|some v=>rw [h9] at hb;cases hb⟩
         rw [JW hbad] at hrd
         rw [hrd,JV (by decide)]
         (apply gB;(focus(kernel_rfl));(focus(kernel_rfl)))
         refine dW 17 (Jw rfl) ?_
         repeat first|refine aJ (q:=j) rfl rfl rfl rfl (F.un _ rfl) (F.sz _ rfl) (by assumption) (by omega) (by(omega)) (JK _) ?_|refine bk (an (F.ag _ rfl) rfl j6 hcF) rfl rfl rfl ?_|refine bk (an (F.ag _ rfl) rfl j6 hcS) rfl rfl rfl ?_|apply bH;rfl;rfl;exact(fun _ h=>by cases h);exact(fZ (l:=az p j) (h:=az p j+aq p j) (F.un _ rfl) (F.sz _ rfl) rfl rfl rfl (by omega) (by omega) (by omega) (show az p j+aq p j-az p j=aq p j by omega) rfl (JX _))|apply aU;rfl|refine bk (aw rfl rfl (.inl ⟨rfl,(Js _ ⟨(by focus(omega)),(by focus(omega))⟩).symm⟩)) rfl rfl rfl ?_
         refine aA ?_;(apply dX;rfl;rfl;rfl;(focus(kernel_rfl));exact(hof _ _ j5))
         refine jw ?_
         repeat first|refine bY rfl rfl rfl (F.sz _ rfl) (by repeat(first|assumption|exact ac)) rfl (by exact Jw rfl) hone rfl ?_|apply aU;rfl|refine pW (fj (F.zl _ rfl)) rfl rfl rfl ?_
         refine aA ⟨by kernel_rfl,?_,?_⟩;(focus(repeat(first|exact Kz|refine⟨.inl rfl,?_⟩|refine⟨.inr (.inl (by(repeat(refine⟨(by first|exact mO rfl|exact aw rfl rfl (.inl ⟨rfl,(Js _ ⟨by omega,by omega⟩).symm⟩)|exact an (F.ag _ rfl) rfl (by(repeat(refine ab (by omega) ?_));exact j6) hcF|exact an (F.ag _ rfl) rfl (by(repeat(refine ab (by omega) ?_));exact j6) hcS|exact aQ (F.un _ rfl) (F.sz _ rfl) rfl rfl (by(repeat(refine ab (by omega) ?_));exact j6) rfl (by omega) (JK _)|exact fZ (l:=az p j) (h:=az p j+aq p j) (F.un _ rfl) (F.sz _ rfl) rfl rfl rfl (by omega) (by omega) (by omega) (show az p j+aq p j-az p j=aq p j by omega) rfl (JX _)),?_⟩));exact Kz)),?_⟩|refine⟨.inr (.inr (by(repeat(refine⟨(by exact ew rfl (by kernel_rfl) (by exact hof _ _ (by(repeat(refine ab (by omega) ?_));exact j5))),?_⟩));exact Kz)),?_⟩)))
         repeat first|apply bv hbl;rfl;(focus((repeat(first|assumption|refine ab (by omega) ?_));done))|apply bE hbl aj;rfl;(focus((repeat(first|assumption|refine ab (by omega) ?_));done))|apply ai;rfl
         ((apply bn Tryz.func34 (congrArg Array.toList Tryz.results34));(focus((apply Kr rfl (Kt (F.ag _ rfl) (by repeat(exact ac)) (bm hbl)));(repeat(first|exact Kq|apply Ks rfl)))))
         exact⟨rfl,by dsimp only;omega,fun m hm=>by(repeat(refine ab (by omega) ?_));exact j7 m hm⟩
     ·have hj:j=ae p:=by omega
      have hbad: ¬ xR p=true:=fun h=>by
       obtain⟨i,hi,h2⟩:=List.any_eq_true.1 h
       rw [JJ] at h2
       have h3:=j2 i (by have:=Kh.1 hi;omega) (J7 h2.1)
       cases h9:ofV (aT p i)with
       | none=>rw [h9] at h3;cases h3
       | some v=>rw [h9] at h2;cases h2.2
      rw [JV hbad] at hrd
      rw [hrd,JW rfl]
      repeat first|apply bv hbl;rfl;assumption|apply bE hbl aj;rfl;assumption|apply ai;rfl
      ((apply bn Tryz.func34 (congrArg Array.toList Tryz.results34));(focus((apply Kr rfl (Kt (F.ag _ rfl) (by repeat(exact ac)) (bm hbl)));(repeat(first|exact Kq|apply Ks rfl)))))
      exact⟨rfl,by dsimp only;omega,fun m hm=>by(repeat(refine ab (by omega) ?_));exact j7 m hm⟩
    ·rw [JW h4] at hrd
     rw [hrd,JV (by decide)]
     repeat first|apply ai;rfl|apply ig;rfl;omega|apply bv hbl;rfl;assumption|apply bE hbl aj;rfl;assumption
     ((apply bn Tryz.func34 (congrArg Array.toList Tryz.results34));(focus((apply Kr rfl (Kt (F.ag _ rfl) (by repeat(exact ac)) (bm hbl)));(repeat(first|exact Kq|apply Ks rfl)))))
     exact⟨rfl,by dsimp only;omega,fun m hm=>by(repeat(refine ab (by omega) ?_));exact ko m hm⟩
def dfH(hm:List UInt8)(n:Nat):List UInt8:=bareP (ay hm (n-32))
theorem EN(hl:hm.length=98304)(h1:32≤n)(h2:n<128):(dfH hm n).length=1024:=dY (gK hl (by omega))
theorem wn(hl:hm.length=98304)(hn:n<96)(hx:x.length=1024):((byV hm).map SV.sc).take (0+n*1024) ++ pgS x ++ ((byV hm).map SV.sc).drop (0+n*1024+1024)=(byV (gD hm n x)).map SV.sc:=by
 unfold gD be
 rw [hx,JX,Nat.mul_comm n]
 show _=(byV (hm.take (1024*n) ++ x ++ hm.drop (1024*n+1024))).map SV.sc
 rw [kq,kq,JP,JP]
 simp only [byV,List.map_take,List.map_drop]
theorem vv(hl:hm.length=98304)(hn:n<96)(hx:x.length=1024):(gD hm n x).length=98304:=by
 unfold gD
 rw [bM (by omega),hl]
def Hn(hm:List UInt8):Option (Nat×List UInt8)→List UInt8
 | none=>hm
 | some (n,x)=>gD hm (n-32) x
theorem z5{it:List UInt8}(hr:bl (gF p it)=true)(h1:1≤it.length)(h2:it.length≤1000):f8 p it=if it.length≤ff (gF p it) then(o7 (gF p it) it,ba (gF p it),0) else(zeroP,0,5):=by
 have hre:ff (gF p it)=fQ (gF p it):=by
  show(if bl (gF p it)=true then fQ (gF p it) else 0)=_
  rw [JW hr]
 unfold f8 nG
 rw [JV (by rw [hr];decide),JV (fun h=>h ⟨h1,h2⟩),hre]
 by_cases h:it.length≤fQ (gF p it)
 ·rw [JV (by omega),JW h]
 ·rw [JW (by omega),JV h]
theorem Et{hb:Nat}{s:SV}{v:gt}(hH:H.at' hb=some (hpO hm))(hl:hm.length=98304)(hv:VerIs H s v)(hmay:iJ v=true):Fnc Tryz.prog 19 [.ptr hb 0,s] H nx
 (fun q=>q.1 = .tup [.agg [.sc (.int .i64 ((lg (dfH hm) v false).1.1:Int)),.sc (.int .i64 ((lg (dfH hm) v false).1.2.1:Int))],.sc (.int .i64 ((lg (dfH hm) v false).1.2.2:Int))]
   ∧ q.2.1.at' hb=some (hpO (Hn hm (lg (dfH hm) v false).2))∧nx≤q.2.2∧ ∀ m,m<nx→m≠hb→q.2.1.at' m=H.at' m):=by
 have hv0:=hv
 obtain⟨k,w,rfl,hk,hw⟩:=hv
 have hmd:=J7 hmay
 have hbl:=ez v
 have hM:lg (dfH hm) v false=if(cu (dfH hm) (aO v) 96 32).1≠0 then((0,0,(cu (dfH hm) (aO v) 96 32).1),none)
  else(((cu (dfH hm) (aO v) 96 32).2.1,(cu (dfH hm) (aO v) 96 32).2.2.1,0),some ((cu (dfH hm) (aO v) 96 32).2.1,(cu (dfH hm) (aO v) 96 32).2.2.2)):=by
  unfold lg
  rw [JV (by rw [hmay];decide)]
  split
  ·rfl
  ·rw [JV (by decide)]
 rw [hM]
 clear hM
 refine Kp Tryz.func19 rfl rfl ?_
 refine aX fun hund=>?_
 have lH:=hund _ _ hH
 have hone:bi (eF k w v.2.2.1 v.2.2.2)=true:=by simp only [bi,cF hk,cF hw];rfl
 repeat first|apply ai;rfl|apply aH;rfl;(focus((repeat(first|exact ac|refine ab (by omega) ?_));done));rfl
 refine aI rfl rfl rfl (by kernel_rfl) (Ko (wN (v:=v) (hv0.frame fun b vo hb'=>(aa _ _ (by have:=hund b vo hb';omega)).trans ((aa _ _ (by have:=hund b vo hb';omega)).trans hb')) hmay) ?_)
 rintro⟨_,H2,n2⟩ ⟨rb,rfl,b1,b2,b3,b4,b5⟩
 dsimp only at b1 b2 b3 b4 b5 ⊢
 have c1:H2.at' (nx+1)=some (eH 0 0):=(b5 _ (by omega)).trans (by repeat(exact ac))
 have c2:H2.at' hb=some (hpO hm):=(b5 _ (by omega)).trans (by(repeat(refine ab (by omega) ?_));exact hH)
 have co: ∀ m,m<nx→H2.at' m=H.at' m:=fun m hm=>(b5 _ (by omega)).trans (by(repeat(refine ab (by omega) ?_));rfl)
 clear b5
 generalize aO v=it at hbl b1 ⊢
 have hd0:it.length≤180:=by omega
 have hd1:20≤it.length:=by omega
 clear hbl hmd hone
 repeat apply ai;rfl
 refine bu (α:=Nat) (fun i=> [(0,.ptr hb 0),(4,.ptr (nx+1) 0),(6,.slu rb 0 it.length),(7,.sc (.int .i64 (i:Int)))])
  (fun i H1 n1=>i≤96∧cu (dfH hm) it (96-i) (32+i)=cu (dfH hm) it 96 32∧n2≤n1∧H1.at' (nx+1)=some (eH 0 0)∧H1.at' hb=some (hpO hm)∧H1.at' rb=some (dat false it.length 1 5 (byV it))∧ ∀ m,m<nx→H1.at' m=H.at' m) (fun i=>96-i) 0
  ⟨JL _,rfl,JK _,c1,c2,b1,co⟩ (Kv (Ky rfl)) ?_
 clear c1 c2 b1 co
 rintro i H1 n1 ⟨i1,i2,i3,i4,i5,i6,i7⟩ ih
 repeat apply ai;rfl
 refine bh rfl rfl rfl rfl (fun h5=>?_) (fun h5=>?_)
 ·have hi:i<96:=by omega
  have hgo:cu (dfH hm) it (96-i) (32+i)=if(aS (dfH hm (32+i))).2≠0 then(13,0,0,zeroP) else if(f8 (aS (dfH hm (32+i))).1 it).2.2≠0 then cu (dfH hm) it (96-(i+1)) (32+(i+1)) else(0,32+i,(f8 (aS (dfH hm (32+i))).1 it).2.1,(f8 (aS (dfH hm (32+i))).1 it).1):=by
   rw [show 96-i=(96-(i+1))+1 by omega]
   rfl
  have hdf:dfH hm (32+i)=bareP (ay hm i):=by unfold dfH;rw [show 32+i-32=i by omega]
  have hpl:=gK hl hi
  have hrl:=sA hpl
  have hv5:sB (ay hm i)=if(aS (dfH hm (32+i))).2=0 then((aS (dfH hm (32+i))).1,true) else(bareP (ay hm i),false):=by rw [hdf];rfl
  rw [i2] at hgo
  have hrs:=fun(H:au) nx (h:H.at' hb=some (hpO hm))=>l5 (nx:=nx) h hl hi
  by_cases he:(aS (dfH hm (32+i))).2=0
  ·rw [JW he] at hv5
   rw [JV (fun g=>g he)] at hgo
   obtain⟨hql,hqr,_⟩:=cQ (p:=dfH hm (32+i)) (q:=(aS (dfH hm (32+i))).1) (Prod.ext rfl he) (EN hl (by omega) (by omega))
   rw [hv5] at hrs hrl
   clear hv5 hdf he
   generalize (aS (dfH hm (32+i))).1=q at hrl hrs hql hqr hgo
   dsimp only [Bs] at hrl hrs
   have hro:=fun(H:au) nx=>ud (H:=H) (nx:=nx) hql
   repeat first|apply bE hql aj;rfl;(focus((repeat(exact ac));done))|refine aZ rfl rfl cj ?_|apply ai;rfl|apply bU;rfl;kernel_rfl;exact hrs _ _ i5|apply bv hql;rfl;(focus((repeat(exact ac));done))|apply bU;rfl;kernel_rfl;exact hro _ _
   have hx:=z5 (p:=q) (it:=it) (by
    unfold gF jf
    rw [JW hqr]
    split
    ·have g:=qc ((bw hql).1 hqr)
     exact(bw g.len).2 (g.ok ((bw hql).1 hqr))
    ·exact hqr) (by omega) (by omega)
   have hxl:=oN (it:=it) hql
   have hroy:gF q it=if ff q<it.length then lf q else q:=by unfold gF jf;rw [JW hqr]
   have hpk:=fun(H:au) nx=>zt (H:=H) (nx:=nx) hql hqr
   have hgk:=qc ((bw hql).1 hqr)
   have hgr:bl (lf q)=true:=(bw hgk.len).2 (hgk.ok ((bw hql).1 hqr))
   have hkl:=hgk.len
   have hj: ∃ y:List UInt8,y=gF q it∧y.length=1024∧bl y=true:=⟨_,rfl,hxl,by
    rw [hroy]
    split
    ·exact hgr
    ·exact hqr⟩
   obtain⟨y,hy,hyl,hyr⟩:=hj
   rw [← hy] at hx hroy
   refine cT (R:=fun H3 n3=>n3=n1+1∧H3.at' n1=some (pgO q)∧H3.at' (nx+1)=some (eH 0 0)∧H3.at' hb=some (hpO hm)∧H3.at' rb=some (dat false it.length 1 5 (byV it))∧ ∀ m,m<nx→H3.at' m=H.at' m) ⟨rfl,by repeat(exact ac),by repeat(first|assumption|refine ab (by omega) ?_),by repeat(first|assumption|refine ab (by omega) ?_),by repeat(first|assumption|refine ab (by omega) ?_),fun m hm=>by(repeat(refine ab (by omega) ?_));exact i7 m hm⟩ ?_
   rintro H3 n3 ⟨rfl,d1,d2,d3,d4,d5⟩
   clear i4 i5 i6 i7
   have hro2:=fun(H:au) nx=>ud (H:=H) (nx:=nx) hyl
   by_cases hlt:ff q<it.length
   ·rw [JW hlt] at hroy
    rw [← hroy] at hpk
    repeat first|apply pK;rfl;omega|apply bE hyl hql;rfl;assumption|apply bv hql;rfl;assumption|apply bU;rfl;kernel_rfl;exact hpk _ _|apply ai;rfl
    dsimp only
    clear hpk hgk hgr hkl hro hroy hrs
    (repeat(first|apply bv hyl;rfl;(focus((repeat(exact ac));done))|apply ai;rfl|apply bU;rfl;kernel_rfl;exact hro2 _ _));by_cases hrm:it.length≤ff y
    ·(rw [JW hrm] at hx;rw [hx,JV (fun h=>h rfl)] at hgo;have hre:ff y=fQ y:=(show(if bl y=true then fQ y else 0)=_ by rw [JW hyr]);have hlx:=(laid (it:=it) ((bw hyl).1 hyr) (by omega) (by omega) (by omega)).len;have hins:=fun(H:au) nx (h:H.at' rb=some (dat false it.length 1 5 (byV it)))=>z6 (H:=H) (nx:=nx) (s:= .slu rb 0 it.length) hyl (js (show H.at' rb=some (u8R false (byV it)) by rw [r7];exact h)) hyr (by omega) (by omega) (by omega);rw [hgo,JV (fun h=>h rfl)];dsimp only [Hn];rw [show 32+i-32=i by omega];clear hgo hx i2;generalize o7 y it=x at hlx hins ⊢;generalize ba y=sl at hins ⊢;(repeat(first|apply kY;rfl;omega|apply bE hlx aj;rfl;(focus((repeat(exact ac));done))|refine aZ rfl rfl cj ?_|apply bv hyl;rfl;(focus((repeat(exact ac));done))|apply bU;rfl;kernel_rfl;exact hins _ _ (by repeat(first|assumption|refine ab (by omega) ?_))|apply ai;rfl));refine cT (R:=fun H5 n5=>n1+1<n5∧H5.at' (n1+1)=some (pgO x)∧H5.at' (nx+1)=some (eH 0 0)∧H5.at' hb=some (hpO hm)∧ ∀ m,m<nx→H5.at' m=H.at' m) ⟨by omega,by repeat(exact ac),by repeat(first|assumption|refine ab (by omega) ?_),by repeat(first|assumption|refine ab (by omega) ?_),fun m hm=>by(repeat(refine ab (by omega) ?_));exact d5 m hm⟩ ?_;rintro H5 n5 ⟨e0,e1,e2,e3,e4⟩;(apply bg;(focus(kernel_rfl));(focus(kernel_rfl)));(repeat(first|refine cg rfl rfl rfl (F.ag _ rfl) e1 (bf hlx) ?_|refine bY rfl rfl rfl (F.sz _ rfl) e3 (bf hlx) (by rw [J0,J0,hl];omega) (iH _) (wn hl hi hlx) ?_|apply jl (q:=i);rfl;rfl;rfl;rfl;exact(F.un _ rfl);exact(F.sz _ rfl);(focus(omega));(focus(omega))|apply aU;rfl));refine aA ⟨by kernel_rfl,?_,?_⟩;(focus(repeat(first|exact Kz|apply li;rfl|apply gq;rfl;kernel_rfl|refine f9 0 rfl (by kernel_rfl) (by(repeat(refine⟨(by first|exact aW (F.ag _ rfl) rfl (by repeat(first|assumption|refine ab (by omega) ?_)) (bm hlx)|exact gI (q:=i) rfl rfl (F.un _ rfl) (F.sz _ rfl) (by omega) (by omega)),?_⟩));exact Kz) ?_)));(repeat(first|apply ai;rfl|apply aH;rfl;(focus((repeat(first|assumption|refine ab (by omega) ?_));done));rfl|apply aL;rfl;omega;omega));((apply bn Tryz.func19 (congrArg Array.toList Tryz.results19));(focus(repeat(first|exact Kq|apply Ks rfl|apply Kr rfl (Kt (F.ag _ rfl) (by repeat(exact ac)) (am _ 0 rfl rfl))))));exact⟨rfl,by repeat(first|exact ac|refine ab (by omega) ?_),by dsimp only;omega,fun m h1 h2=>by(repeat(refine ab (by omega) ?_));exact e4 m h1⟩)
    ·(rw [JV hrm] at hx;rw [hx,JW (by decide)] at hgo;(repeat(first|apply pK;rfl;omega|apply ai;rfl|apply aL;rfl;omega;omega));exact ih _ _ _ (i+1) ⟨by omega,hgo.symm,by omega,by repeat(first|assumption|refine ab (by omega) ?_),by repeat(first|assumption|refine ab (by omega) ?_),by repeat(first|assumption|refine ab (by omega) ?_),fun m hm=>by(repeat(refine ab (by omega) ?_));exact d5 m hm⟩ (by omega) (Kv (Ky rfl)))
   ·rw [JV hlt] at hroy
    subst hroy
    clear hpk hgk hgr hkl hro hrs
    repeat first|apply kY;rfl;omega|apply ai;rfl
    (repeat(first|apply bv hyl;rfl;assumption|apply ai;rfl|apply bU;rfl;kernel_rfl;exact hro2 _ _));by_cases hrm:it.length≤ff y
    ·(rw [JW hrm] at hx;rw [hx,JV (fun h=>h rfl)] at hgo;have hre:ff y=fQ y:=(show(if bl y=true then fQ y else 0)=_ by rw [JW hyr]);have hlx:=(laid (it:=it) ((bw hyl).1 hyr) (by omega) (by omega) (by omega)).len;have hins:=fun(H:au) nx (h:H.at' rb=some (dat false it.length 1 5 (byV it)))=>z6 (H:=H) (nx:=nx) (s:= .slu rb 0 it.length) hyl (js (show H.at' rb=some (u8R false (byV it)) by rw [r7];exact h)) hyr (by omega) (by omega) (by omega);rw [hgo,JV (fun h=>h rfl)];dsimp only [Hn];rw [show 32+i-32=i by omega];clear hgo hx i2;generalize o7 y it=x at hlx hins ⊢;generalize ba y=sl at hins ⊢;(repeat(first|apply kY;rfl;omega|apply bE hlx aj;rfl;(focus((repeat(exact ac));done))|refine aZ rfl rfl cj ?_|apply bv hyl;rfl;assumption|apply bU;rfl;kernel_rfl;exact hins _ _ (by assumption)|apply ai;rfl));refine cT (R:=fun H5 n5=>n1+1<n5∧H5.at' (n1+1)=some (pgO x)∧H5.at' (nx+1)=some (eH 0 0)∧H5.at' hb=some (hpO hm)∧ ∀ m,m<nx→H5.at' m=H.at' m) ⟨by omega,by repeat(exact ac),by repeat(first|assumption|refine ab (by omega) ?_),by repeat(first|assumption|refine ab (by omega) ?_),fun m hm=>by(repeat(refine ab (by omega) ?_));exact d5 m hm⟩ ?_;rintro H5 n5 ⟨e0,e1,e2,e3,e4⟩;(apply bg;(focus(kernel_rfl));(focus(kernel_rfl)));(repeat(first|refine cg rfl rfl rfl (F.ag _ rfl) e1 (bf hlx) ?_|refine bY rfl rfl rfl (F.sz _ rfl) e3 (bf hlx) (by rw [J0,J0,hl];omega) (iH _) (wn hl hi hlx) ?_|apply jl (q:=i);rfl;rfl;rfl;rfl;exact(F.un _ rfl);exact(F.sz _ rfl);(focus(omega));(focus(omega))|apply aU;rfl));refine aA ⟨by kernel_rfl,?_,?_⟩;(focus(repeat(first|exact Kz|apply li;rfl|apply gq;rfl;kernel_rfl|refine f9 0 rfl (by kernel_rfl) (by(repeat(refine⟨(by first|exact aW (F.ag _ rfl) rfl (by repeat(first|assumption|refine ab (by omega) ?_)) (bm hlx)|exact gI (q:=i) rfl rfl (F.un _ rfl) (F.sz _ rfl) (by omega) (by omega)),?_⟩));exact Kz) ?_)));(repeat(first|apply ai;rfl|apply aH;rfl;(focus((repeat(first|assumption|refine ab (by omega) ?_));done));rfl|apply aL;rfl;omega;omega));((apply bn Tryz.func19 (congrArg Array.toList Tryz.results19));(focus(repeat(first|exact Kq|apply Ks rfl|apply Kr rfl (Kt (F.ag _ rfl) (by repeat(exact ac)) (am _ 0 rfl rfl))))));exact⟨rfl,by repeat(first|exact ac|refine ab (by omega) ?_),by dsimp only;omega,fun m h1 h2=>by(repeat(refine ab (by omega) ?_));exact e4 m h1⟩)
    ·(rw [JV hrm] at hx;rw [hx,JW (by decide)] at hgo;(repeat(first|apply pK;rfl;omega|apply ai;rfl|apply aL;rfl;omega;omega));exact ih _ _ _ (i+1) ⟨by omega,hgo.symm,by omega,by assumption,by assumption,by assumption,fun m hm=>by exact d5 m hm⟩ (by omega) (Kv (Ky rfl)))
  ·rw [JV he] at hv5
   rw [JW he] at hgo
   rw [hv5] at hrs hrl
   rw [hgo,JW (by decide)]
   generalize bareP (ay hm i)=q at hrl hrs
   dsimp only [Bs] at hrl hrs
   repeat first|apply bE hrl aj;rfl;(focus((repeat(exact ac));done))|refine aZ rfl rfl cj ?_|apply ai;rfl|apply aH;rfl;(focus((repeat(first|assumption|refine ab (by omega) ?_));done));rfl|apply bU;rfl;kernel_rfl;exact hrs _ _ i5
   ((apply bn Tryz.func19 (congrArg Array.toList Tryz.results19));(focus(repeat(first|exact Kq|apply Ks rfl|apply Kr rfl (Kt (F.ag _ rfl) (by repeat(exact ac)) (am _ 0 rfl rfl))))))
   exact⟨rfl,by repeat(first|assumption|refine ab (by omega) ?_),by dsimp only;omega,fun m h1 h2=>by(repeat(refine ab (by omega) ?_));exact i7 m h1⟩
 ·have hi:i=96:=by omega
  subst hi
  rw [← i2,show cu (dfH hm) it (96-96) (32+96)=(5,0,0,zeroP)from rfl,JW (by decide)]
  repeat first|apply ai;rfl|apply aH;rfl;assumption;rfl
  ((apply bn Tryz.func19 (congrArg Array.toList Tryz.results19));(focus(repeat(first|exact Kq|apply Ks rfl|apply Kr rfl (Kt (F.ag _ rfl) (by repeat(exact ac)) (am _ 0 rfl rfl))))))
  exact⟨rfl,by repeat(first|assumption|refine ab (by omega) ?_),by dsimp only;omega,fun m h1 h2=>by(repeat(refine ab (by omega) ?_));exact i7 m h1⟩
abbrev DF:Int×Int→List Value:=fun t=> [.int .i64 t.1,.int .i64 t.2]
theorem qF:RecOf DF 2:=⟨fun _=>rfl,fun a v hv=>by
 simp only [DF,Ka,List.not_mem_nil,or_false] at hv
 rcases hv with rfl|rfl <;> rfl⟩
abbrev oI(l:List (Int×Int)):VO:=dat false l.length 2 40 (l.flatMap DF)
theorem qG: ∀ (l:List (Int×Int)) (i:Nat) (hi:i<l.length),(l.flatMap DF)[i*2]? =some (.int .i64 (l[i]).1)∧(l.flatMap DF)[i*2+1]? =some (.int .i64 (l[i]).2)
 | [],i,hi=>absurd hi (Nat.not_lt_zero _)
 | t :: l,0,_=>⟨rfl,rfl⟩
 | t :: l,i+1,hi=>by
   have ih:=qG l i (by simpa using hi)
   have e: ∀ k,((t :: l).flatMap DF)[k+2]? =(l.flatMap DF)[k]? :=fun k=>by
    rw [List.flatMap_cons]
    rfl
   rw [show(i+1)*2=i*2+2 by omega,show i*2+2+1=(i*2+1)+2 by omega,e,e]
   exact ih
theorem yA(hi:i<l.length):(oI l).cell (i*2)=some (.sc (.int .i64 (l[i]).1)):=gi (by omega) (qG l i hi).1
theorem yz(hi:i<l.length):(oI l).cell (i*2+1)=some (.sc (.int .i64 (l[i]).2)):=gi (by omega) (qG l i hi).2
theorem vq(hi:i<l.length):(oI l).cellsFrom (i*2) 2=some [.sc (.int .i64 (l[i]).1),.sc (.int .i64 (l[i]).2)]:=by
 simp only [VO.cellsFrom,yA hi,yz hi]
theorem iG{mem:List UInt8}{a b:Nat}(ha:1024*a+1024≤mem.length)(hx:x.length=1024):ay (gD mem a x) b=if b=a then x else ay mem b:=by
 unfold ay gD
 by_cases h:b=a
 ·rw [JW h,h]
  have:=vK (p:=mem) (o:=1024*a) (l:=x) (by omega)
  rwa [hx] at this
 ·rw [JV h]
  exact ji fun i h1 h2=>mR (by omega) (by omega)
def jM(hm:List UInt8)(ps:List (Nat×List UInt8)):List UInt8:=ps.foldl (fun m x=>gD m (x.1-32) x.2) hm
theorem xw(hm:List UInt8)(ps:List (Nat×List UInt8))(n:Nat)(x:List UInt8):jM hm (ps ++ [(n,x)])=gD (jM hm ps) (n-32) x:=by
 unfold jM
 rw [List.foldl_append]
 rfl
theorem sh(l:List (Int×Int))(t:Int×Int)(n:Nat):aM (l ++ [t]) n=if t.1=(n:Int) then aM l n ++ [t.2.toNat] else aM l n:=by
 unfold aM
 rw [List.filter_append,JP,List.filter_cons,List.filter_nil]
 by_cases h:t.1=(n:Int)
 ·rw [JW h,JW (Ke h)]
  rfl
 ·rw [JV h,JV (by simpa using h),List.map_nil,J9]
theorem oK(a b:List (Int×Int))(n:Nat):aM (a ++ b) n=aM a n ++ aM b n:=by
 unfold aM
 rw [List.filter_append,JP]
theorem xk(hi:i<l.length)(h:(l[i]).1=(n:Int)):aM l n=aM (l.take i) n ++ (l[i]).2.toNat :: aM (l.drop (i+1)) n:=by
 have e:l=l.take i ++ ([l[i]] ++ l.drop (i+1)):=by
  rw [List.singleton_append,List.getElem_cons_drop,List.take_append_drop]
 have e2:aM l n=aM (l.take i ++ ([l[i]] ++ l.drop (i+1))) n:=congrArg (fun z=>aM z n) e
 rw [e2,oK,oK]
 congr 1
 unfold aM
 rw [List.filter_cons,List.filter_nil,JW (Ke h)]
 rfl
theorem uQ(p:List UInt8)(S:List Nat)(k:Nat):db p (S ++ [k])=lD (db p S) k:=by
 unfold db
 rw [List.foldl_append]
 rfl
theorem fO{A:Type}{l:List A}(hi:i<l.length):l.take (i+1)=l.take i ++ [l[i]]:=by
 rw [List.take_add_one,Ju hi]
 rfl
def ij(pf:Nat→List UInt8)(l:List (Int×Int))(k:Nat):List (Nat×List UInt8):=(((List.range k).map (32 + ·)).filter fun n=> !(aM l n).isEmpty).map fun n=>(n,rI (aS (pf n)).1 (aM l n))
theorem y5(pf:Nat→List UInt8)(l:List (Int×Int)):ij pf l 96=(b7 l).map fun n=>(n,rI (aS (pf n)).1 (aM l n)):=rfl
theorem Bj(h:aM l (32+k)= []):ij pf l (k+1)=ij pf l k:=by
 unfold ij
 rw [List.range_succ,JP,List.filter_append]
 simp [h]
theorem y4(h:aM l (32+k)≠ []):ij pf l (k+1)=ij pf l k ++ [(32+k,rI (aS (pf (32+k))).1 (aM l (32+k)))]:=by
 unfold ij
 have hb:(!(aM l (32+k)).isEmpty)=true:=by
  cases hs:aM l (32+k)with
  | nil=>exact absurd hs h
  | cons a b=>rfl
 rw [List.range_succ,JP,List.filter_append,JP]
 simp [hb]
theorem zQ{x:Nat×List UInt8}(h:x∈ij pf l k):32≤x.1∧x.1<32+k∧aM l x.1≠ []∧x.2=rI (aS (pf x.1)).1 (aM l x.1):=by
 unfold ij at h
 obtain⟨n,hn,rfl⟩:=Ki.1 h
 rw [List.mem_filter] at hn
 obtain⟨i,hi,rfl⟩:=Ki.1 hn.1
 have:=Kh.1 hi
 refine⟨by dsimp only;omega,by dsimp only;omega,fun e=>?_,rfl⟩
 have h2:=hn.2
 dsimp only at e
 rw [e] at h2
 cases h2
theorem zm(hl:hm.length=98304): ∀ {ps:List (Nat×List UInt8)},(∀ x∈ps,32≤x.1∧x.1<128∧x.2.length=1024)→(jM hm ps).length=98304:=by
 intro ps
 induction ps generalizing hm with
 | nil=>exact fun _=>hl
 | cons x ps ih=>
   intro h
   have hx:=h x J3
   exact ih (vv hl (by omega) hx.2.2) fun y hy=>h y (J4 _ hy)
theorem uo(hl:hm.length=98304): ∀ {ps:List (Nat×List UInt8)},(∀ x∈ps,32≤x.1∧x.1<128∧x.2.length=1024∧x.1≠32+n)→ay (jM hm ps) n=ay hm n:=by
 intro ps
 induction ps generalizing hm with
 | nil=>exact fun _=>rfl
 | cons x ps ih=>
   intro h
   have hx:=h x J3
   refine(ih (vv hl (by omega) hx.2.2.1) fun y hy=>h y (J4 _ hy)).trans ?_
   rw [iG (by omega) hx.2.2.1,JV (by omega)]
theorem gp{K V:Type} [DecidableEq K]: ∀ (m:List (K×V×Nat)) {k k':K} (v:V) (c:Nat),k'≠k→fX (gN m k v c) k'=fX m k'
 | [],k,k',v,c,h=>by
   have: ¬ k=k':=fun e=>h e.symm
   simp [gN,fX,this]
 | x :: m,k,k',v,c,h=>by
   by_cases hx:x.1=k
   ·have e:gN (x :: m) k v c=(k,v,x.2.2) :: m:=by simp [gN,hx]
    have h1: ¬ k=k':=fun e=>h e.symm
    have h2: ¬ x.1=k':=fun e=>h (e.symm.trans hx)
    rw [e]
    simp [fX,h1,h2]
   ·have e:gN (x :: m) k v c=x :: gN m k v c:=by simp [gN,hx]
    have ih:=gp m v c h
    rw [e]
    unfold fX at ih ⊢
    rw [List.find?_cons,List.find?_cons]
    split
    ·rfl
    ·exact ih
theorem rg{K V:Type} [DecidableEq K]: ∀ (m:List (K×V×Nat)) (k:K) (v:V) (c:Nat),(gN m k v c).length≤m.length+1
 | [],k,v,c=>JK _
 | x :: m,k,v,c=>by
   by_cases hx:x.1=k
   ·have e:gN (x :: m) k v c=(k,v,x.2.2) :: m:=by simp [gN,hx]
    rw [e]
    simp
   ·have e:gN (x :: m) k v c=x :: gN m k v c:=by simp [gN,hx]
    have ih:=rg m k v c
    rw [e]
    simp only [JN]
    omega
def jz(lt:List (Int×Int))(n:Int):List Int:=(lt.filter fun t=>decide (t.1=n)).map (·.2)
theorem xl(lt:List (Int×Int))(n k n':Int):jz (lt ++ [(n,k)]) n'=if n=n' then jz lt n' ++ [k] else jz lt n':=by
 unfold jz
 rw [List.filter_append,JP,List.filter_cons,List.filter_nil]
 by_cases h:n=n'
 ·rw [JW h,JW (Ke h)]
  rfl
 ·rw [JV h,JV (by simpa using h),List.map_nil,J9]
theorem yO{lt:List (Int×Int)}{n:Int}:jz lt n= []↔ ¬ ∃ t∈lt,t.1=n:=by
 unfold jz
 rw [List.map_eq_nil_iff,List.filter_eq_nil_iff]
 constructor
 ·rintro h ⟨t,h1,h2⟩
  exact h t h1 (Ke h2)
 ·intro h t h1 h2
  exact h ⟨t,h1,J7 h2⟩
end
structure SlM (H:au) (B nx:Nat) (lt:List (Int×Int)) (m:List (Int×(Nat×List Int)×Nat)) (c:Nat):Prop where
 ok:KOk m c
 len:m.length≤lt.length
 keys: ∀ n,n∈m.map (·.1)↔ ∃ t∈lt,t.1=n
 val: ∀ n r ks,fX m n=some (r,ks)→ks=jz lt n∧B≤r∧r<nx∧H.at' r=some (qh ks)
 sep: ∀ n n' r r' ks ks',fX m n=some (r,ks)→fX m n'=some (r',ks')→n≠n'→r≠r'
section
variable {H:au}{B c nx:Nat}{lt:List (Int×Int)}{m:List (Int×(Nat×List Int)×Nat)}
theorem SlM.frame{H':au}{nx':Nat}(h:SlM H B nx lt m c)(hle:nx≤nx')(hf: ∀ r,B≤r→r<nx→H'.at' r=H.at' r):SlM H' B nx' lt m c:=
 ⟨h.ok,h.len,h.keys,fun n r ks hg=>by
   obtain⟨h1,h2,h3,h4⟩:=h.val n r ks hg
   exact⟨h1,h2,by omega,(hf r h2 h3).trans h4⟩,h.sep⟩
theorem SlM.zero:SlM H B nx [] [] 0:=
 ⟨KOk.nil 0,JK _,fun n=>by simp,fun n r ks hg=>(by cases hg),fun n n' r r' ks ks' hg=>(by cases hg)⟩
theorem SlM.get(h:SlM H B nx lt m c)(n:Int):(fX m n=none∧jz lt n= [])∨ ∃ r,fX m n=some (r,jz lt n)∧B≤r∧r<nx∧H.at' r=some (qh (jz lt n)):=by
 cases hg:fX m n with
 | none=>exact .inl ⟨rfl,yO.2 fun hx=>iK.1 hg ((h.keys n).2 hx)⟩
 | some v=>
   obtain⟨r,ks⟩:=v
   obtain⟨rfl,h2,h3,h4⟩:=h.val n r ks hg
   exact .inr ⟨r,rfl,h2,h3,h4⟩
theorem SlM.add{H':au}{nx' r':Nat}(h:SlM H B nx lt m c)(n k:Int)(hB:B≤nx)(h1:nx≤r')(h2:r'<nx')(hr:H'.at' r'=some (qh (jz lt n ++ [k])))(hf: ∀ x,B≤x→x<nx→(∀ ks,fX m n≠some (x,ks))→H'.at' x=H.at' x):SlM H' B nx' (lt ++ [(n,k)]) (gN m n (r',jz lt n ++ [k]) c) (oq m n c):=by
 refine⟨h.ok.put n _,?_,fun n'=>?_,fun n' r ks hg=>?_,fun a b r r2 ks ks2 ha hb hab=>?_⟩
 ·have:=rg m n (r',jz lt n ++ [k]) c
  have:=h.len
  rw [JO]
  simp only [JN,List.length_nil]
  omega
 ·rw [v7,h.keys]
  constructor
  ·rintro(rfl|⟨t,h3,h4⟩)
   ·exact⟨_,List.mem_append_right _ (J1.2 rfl),rfl⟩
   ·exact⟨t,List.mem_append_left _ h3,h4⟩
  ·rintro⟨t,h3,h4⟩
   rcases List.mem_append.1 h3 with h3|h3
   ·exact .inr ⟨t,h3,h4⟩
   ·rw [J1.1 h3] at h4
    exact .inl h4.symm
 ·rw [xl]
  by_cases he:n'=n
  ·subst he
   rw [mh] at hg
   cases hg
   rw [JW rfl]
   exact⟨rfl,by omega,h2,hr⟩
  ·rw [gp m _ c he] at hg
   obtain⟨h3,h4,h5,h6⟩:=h.val n' r ks hg
   rw [JV (Ne.symm he)]
   exact⟨h3,h4,by omega,(hf r h4 h5 fun ks' hg'=>h.sep n' n r r ks ks' hg hg' he rfl).trans h6⟩
 ·by_cases ea:a=n
  ·subst ea
   rw [mh] at ha
   cases ha
   rw [gp m _ c (Ne.symm hab)] at hb
   have:=(h.val b r2 ks2 hb).2.2.1
   omega
  ·rw [gp m _ c ea] at ha
   by_cases eb:b=n
   ·subst eb
    rw [mh] at hb
    cases hb
    have:=(h.val a r ks ha).2.2.1
    omega
   ·rw [gp m _ c eb] at hb
    exact h.sep a b r r2 ks ks2 ha hb hab
end
structure SeM (lt:List (Int×Int)) (o:List ((Int×Int)×Unit×Nat)) (c:Nat):Prop where
 ok:KOk o c
 len:o.length≤lt.length
 keys: ∀ t,t∈o.map (·.1)↔t∈lt
theorem SeM.zero:SeM [] [] 0:=⟨KOk.nil 0,JK _,fun t=>by simp⟩
theorem SeM.add{lt:List (Int×Int)}{o:List ((Int×Int)×Unit×Nat)}{c:Nat}(h:SeM lt o c)(t:Int×Int):SeM (lt ++ [t]) (gN o t () c) (oq o t c):=by
 refine⟨h.ok.put t _,?_,fun t'=>?_⟩
 ·have:=rg o t () c
  have:=h.len
  rw [JO]
  simp only [JN,List.length_nil]
  omega
 ·rw [v7,h.keys,List.mem_append,J1,Or.comm]
end Go.Proofs.YtnhmbonmlfeifaaGreat
end
section
namespace Go.Sy
open Go Go.Sl Go.RowKit
section
variable {A:Type}{P:Program}
theorem gJ{P:Program}{A B:Type}(f:A→Sem B): ∀ s:Sem A,aV P (s >>= f)=(aV P s).bind fun a=>aV P (f a)
 | .pure a=>rfl
 | .program k=>gJ f (k P)
 | .mark m k=>gJ f k
 | .choose q k=>by
   show(bif q.forced then aV P (k 0 >>= f) else none)=(bif q.forced then aV P (k 0) else none).bind _
   cases q.forced with
   | true=>exact gJ f (k 0)
   | false=>rfl
 | .load .. =>rfl
 | .store .. =>rfl
 | .new .. =>rfl
 | .shape .. =>rfl
 | .freeze .. =>rfl
 | .frozen .. =>rfl
 | .getObj .. =>rfl
 | .setObj .. =>rfl
 | .sys .. =>rfl
 | .halt .. =>rfl
theorem eY(a:A):aV P (pure a:Sem A)=some a:=rfl
theorem lJ(c:Prop) [Decidable c](a b:Sem A):aV P (if c then a else b)=if c then aV P a else aV P b:=by split <;> rfl
theorem jd{t:TypeId}{d:TypeDesc}(h:P.underlying t=some d):aV P (underlying t)=some d:=by
 show aV P (match P.underlying t with|some d=>(pure d:Sem TypeDesc)|none=>stuck "no such type")=_
 rw [h]
 rfl
theorem sI:aV P program=some P:=rfl
end
section
variable {K V:Type} [DecidableEq K]
theorem wU{P:Program}{kt:TypeId}{enc:K→Value}(hE: ∀ a b,aV P (Op.equal kt (enc a) (enc b))=some (decide (a=b)))(k:K): ∀ (l:List (K×SV×Nat)) (i:Nat),
 aV P (Instr.findAsking kt (enc k) (dummies (l.map fun x=>(enc x.1,x.2))) i)=some ((l.findIdx? fun x=>decide (x.1=k)).map fun j=>(i+j,.nilFunc))
 | [],i=>rfl
 | x :: l,i=>by
   have ih:=wU hE k l (i+1)
   simp only [dummies] at ih
   simp only [dummies,JM,Instr.findAsking,gJ,hE,JR,List.findIdx?_cons,lJ]
   by_cases h:x.1=k
   ·simp [h,eY]
   ·have h': ¬ k=x.1:=fun e=>h e.symm
    simp only [h,h',decide_false,ih,Option.map_map,Bool.false_eq_true,if_false]
    congr 2
    funext j
    simp only [Function.comp_apply,Jz,and_true]
    omega
theorem BM{P:Program}{kt:TypeId}{kd:TypeDesc}{enc:K→Value}(h:P.underlying kt=some kd)(hn: ∀ a b,Instr.sameNow kd (enc a) (enc b)=none)(hE: ∀ a b,aV P (Op.equal kt (enc a) (enc b))=some (decide (a=b)))
 (hc: ∀ e k,aV P (Instr.checkKey e 10000 kt (enc k))=some ()) (hb: ∀ k,Instr.sameBits 10000 (enc k) (enc k)=true):KEnc P kt enc:=by
 refine⟨fun l k=>?_,fun k=>hc _ _,hb⟩
 unfold nS
 rw [hc]
 simp only
 unfold Instr.findKey
 rw [jc _ h]
 cases l with
 | nil=>rfl
 | cons x l=>
   have e:Instr.findNow kd (enc k) (dummies ((x :: l).map fun x=>(enc x.1,x.2))) 0=none:=by
    simp only [dummies,JM,Instr.findNow,hn]
   rw [e]
   simp only [wU hE]
   cases(x :: l).findIdx? fun x=>decide (x.1=k) <;> simp
variable {P:Program} {T:Tr SV} {H:au} {nx:Nat} {d:Option Tmp} {ty:TypeId} {pos:String} {af:Array Edge} {gd:Option (Nat×Bool)}
section
variable {kk:K}{s:SV}{b c:Nat}{val:V→SV}{e kt t:TypeId}{enc:K→Value}{x y:Operand}{m:List (K×V×Nat)}
theorem Bo{v:V}{ok:Bool}(hx:ak T x=some (.mp b))(hy:ak T y=some s)(hs:s.lit=some (enc kk))(hu:P.underlying t=some (.map kt e))(hE:KEnc P kt enc)
 (hb:H.at' b=some (gg enc val m c)) (hg:fX m kk=some v):ReadDoes P T H ⟨d,.lookup t x y ok,ty,pos,af,gd⟩ (bif ok then .tup [val v,.sc (.bool true)] else val v):=by
 refine dS ?_
 have hk:=En m kk
 unfold cw
 simp only [zV,hy,hs,JR,hx,gM,hu,hb,iL hE]
 cases hi:m.findIdx? fun x=>decide (x.1=kk)with
 | none=>rw [hi] at hk;rw [hk.1] at hg;cases hg
 | some i=>
   rw [hi] at hk
   obtain⟨z,h1,_,h3,_⟩:=hk
   rw [hg] at h3
   simp only [Jr] at h3
   subst h3
   simp only [Kc,h1,JQ]
theorem zc{z:Value}{ok:Bool}(hx:ak T x=some (.mp b))(hy:ak T y=some s)(hs:s.lit=some (enc kk))(hu:P.underlying t=some (.map kt e))(hE:KEnc P kt enc)
 (hb:H.at' b=some (gg enc val m c)) (hg:fX m kk=none) (hz:dJ P e=some z):ReadDoes P T H ⟨d,.lookup t x y ok,ty,pos,af,gd⟩ (bif ok then .tup [.sc z,.sc (.bool false)] else .sc z):=by
 refine dS ?_
 have hk:=En m kk
 unfold cw
 simp only [zV,hy,hs,JR,hx,gM,hu,hb,iL hE]
 cases hi:m.findIdx? fun x=>decide (x.1=kk)with
 | none=>simp only [hz]
 | some i=>
   rw [hi] at hk
   obtain⟨z,h1,_,h3,_⟩:=hk
   rw [hg] at h3
   cases h3
theorem zy{w:Operand}{v:V}(hx:ak T x=some (.mp b))(hy:ak T y=some s)(hs:s.lit=some (enc kk))(hu:P.underlying t=some (.map kt e))(hE:KEnc P kt enc)
 (hb:H.at' b=some (gg enc val m c)) (hw:ak T w=some (val v)):OpDoes P T H nx ⟨d,.mapUpdate t x y w,ty,pos,af,gd⟩ (.skip,H.set b (gg enc val (gN m kk v c) (oq m kk c)),nx):=by
 refine jk ?_
 have hk:=En m kk
 unfold fV
 simp only [zV,hy,hs,JR,hx,hw,o5,hu,hb,Hm,hE.check,iL hE]
 cases hi:m.findIdx? fun x=>decide (x.1=kk)with
 | none=>
   rw [hi] at hk
   obtain⟨h1,_,h3⟩:=hk
   simp only [gg,wa,h3,oq,h1,JP,JM,List.map_nil]
 | some i=>
   rw [hi] at hk
   obtain⟨z,h1,h2,h3,_,h5⟩:=hk
   simp only [gg,wa,h5,oq,h3,Kc,h1,JQ,h2,hE.bits,cond_true,List.map_set]
end
end
section
variable {P:Program} {ro:Option Nat} {fn nt nx:Nat} {T:Tr SV} {k:List AIt} {dfs:List ADf} {H:au} {Q:Pst} {ops:Array Oper} {i:Nat} {l:List Oper} {d:Option Tmp} {ty:TypeId} {pos:String} {af:Array Edge} {gd:Option (Nat×Bool)}
section
variable {K:Type}{kk:K}{s:SV}{b c:Nat}{V:Type}{val:V→SV}{e kt t:TypeId}{enc:K→Value}{x y:Operand}{m:List (K×V×Nat)}
theorem AW [DecidableEq K]{v:V}{dd:Nat}(hw:aE T ops ⟨some dd,.lookup t x y true,ty,pos,af,gd⟩=some true)(hd:Nat.blt dd nt=true)(hx:ak T x=some (.mp b))(hy:ak T y=some s)(hs:s.lit=some (enc kk))(hu:P.underlying t=some (.map kt e))(hE:KEnc P kt enc)(hb:H.at' b=some (gg enc val m c))(hg:fX m kk=some v)
 (h:Wp P ro ⟨fn,nt,T.set dd (.tup [val v,.sc (.bool true)]),.inReg ops (i+1) l :: k,dfs,H,nx⟩ Q):Wp P ro ⟨fn,nt,T,.inReg ops i (⟨some dd,.lookup t x y true,ty,pos,af,gd⟩ :: l) :: k,dfs,H,nx⟩ Q:=
 cS hw (.inr (fun _ h=>by cases h)) ((Bo (ok:=true) hx hy hs hu hE hb hg).does) (by rw [aG hd];exact h)
theorem AX{V:Type} [DecidableEq K]{val:V→SV}{m:List (K×V×Nat)}{z:Value}{dd:Nat}(hw:aE T ops ⟨some dd,.lookup t x y true,ty,pos,af,gd⟩=some true)(hd:Nat.blt dd nt=true)(hx:ak T x=some (.mp b))(hy:ak T y=some s)(hs:s.lit=some (enc kk))(hu:P.underlying t=some (.map kt e))(hE:KEnc P kt enc)(hb:H.at' b=some (gg enc val m c))(hg:fX m kk=none)(hz:dJ P e=some z)
 (h:Wp P ro ⟨fn,nt,T.set dd (.tup [.sc z,.sc (.bool false)]),.inReg ops (i+1) l :: k,dfs,H,nx⟩ Q):Wp P ro ⟨fn,nt,T,.inReg ops i (⟨some dd,.lookup t x y true,ty,pos,af,gd⟩ :: l) :: k,dfs,H,nx⟩ Q:=
 cS hw (.inr (fun _ h=>by cases h)) ((zc (ok:=true) hx hy hs hu hE hb hg hz).does) (by rw [aG hd];exact h)
theorem AV [DecidableEq K]{w:Operand}{v:V}(hw:aE T ops ⟨none,.mapUpdate t x y w,ty,pos,af,gd⟩=some true)(hx:ak T x=some (.mp b))(hy:ak T y=some s)(hs:s.lit=some (enc kk))(hu:P.underlying t=some (.map kt e))(hE:KEnc P kt enc)(hb:H.at' b=some (gg enc val m c))(hw2:ak T w=some (val v))
 (h:Wp P ro ⟨fn,nt,T,.inReg ops (i+1) l :: k,dfs,(H.set b (gg enc val (gN m kk v c) (oq m kk c))),nx⟩ Q):Wp P ro ⟨fn,nt,T,.inReg ops i (⟨none,.mapUpdate t x y w,ty,pos,af,gd⟩ :: l) :: k,dfs,H,nx⟩ Q:=
 pY hw (.inr (fun _ h=>by cases h)) (zy hx hy hs hu hE hb hw2) h
end
end
end Go.Sy
end
section
namespace Go.Proofs.YtnhmbonmlfeifaaGreat
open Go Go.Sy Go.Sl Go.RowKit
abbrev ub(a:Int×Int):Value:= .agg #[.int .i64 a.1,.int .i64 a.2]
theorem od{P:Program}{t:TypeId}{cs:Array Value}{off:Nat}{v:Value}{k:IntKind}(hu:P.underlying t=some (.int k))(hv:cs[off]? =some v):aV P (part t cs off)=some v:=by
 simp [part,isAgg,gJ,jd hu,hv,eY]
theorem Bw{P:Program}{t:TypeId}{a b:Int}(n:Nat)(hu:P.underlying t=some (.int .i64)):aV P (Op.equalIn (n+1) t (.int .i64 a) (.int .i64 b))=some (a == b):=by
 simp [Op.equalIn,gJ,jd hu,eY]
theorem mK:Tryz.prog.underlying 3=some (.int .i64):=by kernel_rfl
theorem DY(n:Nat)(a b:Int×Int):aV Tryz.prog (Op.equalIn (n+1+1) 40 (ub a) (ub b))=some (iC a b):=by
 obtain⟨f,g,hl,f1,f2,f3,g1,g2,g3⟩:=fTd2
 have hp:Tryz.prog.stoodInHeld 40=false:=by kernel_rfl
 have hp1:=fun(v:Value) (c:Value)=>od (P:=Tryz.prog) (t:=3) (cs:= #[v,c]) (off:=0) (v:=v) mK rfl
 have hp2:=fun(v:Value) (c:Value)=>od (P:=Tryz.prog) (t:=3) (cs:= #[v,c]) (off:=1) (v:=c) mK rfl
 have he:=fun(x y:Int)=>Bw (P:=Tryz.prog) (t:=3) (a:=x) (b:=y) n mK
 rw [Op.equalIn]
 simp only [gJ,jd uTd,JR,sI,hp,Bool.false_eq_true,if_false]
 rw [← Array.forIn_toList,hl]
 simp only [List.forIn_cons,List.forIn_nil,gJ,lJ,JW f1,JW g1,f2,f3,g2,g3,eY,JR,hp1,hp2,he]
 unfold iC
 by_cases h1:a.1=b.1 <;> by_cases h2:a.2=b.2 <;> simp [h1,h2,eY,gJ,hp1,hp2,he]
theorem DX(a b:Int×Int):aV Tryz.prog (Op.equal 40 (ub a) (ub b))=some (decide (a=b)):=by
 have hd:decide (a=b)=iC a b:=by rw [Bool.eq_iff_iff,Km,gj]
 rw [hd]
 exact DY 9998 a b
theorem DZ(e:Bool)(n:Nat)(a:Int×Int):aV Tryz.prog (Instr.checkKey e (n+1+1) 40 (ub a))=some ():=by
 obtain⟨f,g,hl,f1,f2,f3,g1,g2,g3⟩:=fTd2
 have hi: ∀ v:Value,aV Tryz.prog (Instr.checkKey e (n+1) 3 v)=some ():=fun v=>lT (P:=Tryz.prog) mK rfl e n
 have hp1:=fun(v:Value) (c:Value)=>od (P:=Tryz.prog) (t:=3) (cs:= #[v,c]) (off:=0) (v:=v) mK rfl
 have hp2:=fun(v:Value) (c:Value)=>od (P:=Tryz.prog) (t:=3) (cs:= #[v,c]) (off:=1) (v:=c) mK rfl
 rw [Instr.checkKey]
 simp only [gJ,jd uTd,JR]
 rw [← Array.forIn_toList,hl]
 simp [List.forIn_cons,List.forIn_nil,gJ,lJ,f1,g1,f2,f3,g2,g3,eY,hp1,hp2,hi]
theorem Ho(e:Bool)(a:Int×Int):aV Tryz.prog (Instr.checkKey e 10000 40 (ub a))=some ():=DZ e 9998 a
theorem uF:KEnc Tryz.prog 40 ub:=
 BM uTd (fun a b=>rfl) DX Ho (fun k=>by simp [ub,Instr.sameBits])
theorem ua(a:Int×Int):(yB a).lit=some (ub a):=rfl
abbrev aP:Value:= .int .u8 0
abbrev fU:Value:= .int .i64 0
def zt0:List Value:= [aP,aP,aP,aP,aP,aP,aP,aP,aP,aP,aP,aP,aP,aP,aP,aP,aP,aP,aP,aP,aP,aP,aP,aP,aP,aP,aP,aP,aP,aP,aP,aP,aP,aP,aP,aP,aP,aP,aP,aP,aP,aP,aP,aP,aP,aP,aP,aP,aP,aP,aP,aP,aP,aP,aP,aP,aP,aP,aP,aP,aP,aP,aP,aP]
theorem x8:zt0=List.replicate 64 aP:=rfl
def zt1:List Value:=List.append zt0 zt0
theorem x7:zt1=List.replicate 128 aP:=by
 show zt0 ++ zt0=_
 rw [x8,Kl]
def zt2:List Value:=List.append zt1 zt1
theorem x6:zt2=List.replicate 256 aP:=by
 show zt1 ++ zt1=_
 rw [x7,Kl]
def zt3:List Value:=List.append zt2 zt2
theorem x5:zt3=List.replicate 512 aP:=by
 show zt2 ++ zt2=_
 rw [x6,Kl]
def zt4:List Value:=List.append zt3 zt3
theorem xZ:zt4=List.replicate 1024 aP:=by
 show zt3 ++ zt3=_
 rw [x5,Kl]
def zt5:List Value:=List.append zt4 zt4
theorem xY:zt5=List.replicate 2048 aP:=by
 show zt4 ++ zt4=_
 rw [xZ,Kl]
def zt6:List Value:=List.append zt5 zt5
theorem xX:zt6=List.replicate 4096 aP:=by
 show zt5 ++ zt5=_
 rw [xY,Kl]
def zt7:List Value:=List.append zt6 zt6
theorem xW:zt7=List.replicate 8192 aP:=by
 show zt6 ++ zt6=_
 rw [xX,Kl]
def zt8:List Value:=List.append zt7 zt7
theorem xV:zt8=List.replicate 16384 aP:=by
 show zt7 ++ zt7=_
 rw [xW,Kl]
def zt9:List Value:=List.append zt8 zt8
theorem Cy:zt9=List.replicate 32768 aP:=by
 show zt8 ++ zt8=_
 rw [xV,Kl]
def zr0:List Value:=List.append [aP,aP,aP,aP,aP,aP,aP,aP,aP,aP,aP,aP,aP,aP,aP,aP,aP,aP,aP,aP,aP,aP,aP,aP,aP,aP,aP,aP,aP,aP,aP,aP] [aP,aP,aP,aP,aP,aP,aP,aP,aP,aP,aP,aP,aP,aP,aP,aP,aP,aP,aP,aP,aP,aP,aP,aP,aP,aP,aP,aP,aP,aP,aP,aP,aP]
theorem GA:zr0=List.replicate 65 aP:=rfl
def zr1:List Value:=List.append zt0 zr0
theorem Gz:zr1=List.replicate 129 aP:=by
 show zt0 ++ zr0=_
 rw [x8,GA,Kl]
def zr2:List Value:=List.append zt1 zr1
theorem Gy:zr2=List.replicate 257 aP:=by
 show zt1 ++ zr1=_
 rw [x7,Gz,Kl]
def zr3:List Value:=List.append zt2 zr2
theorem Gw:zr3=List.replicate 513 aP:=by
 show zt2 ++ zr2=_
 rw [x6,Gy,Kl]
def zr4:List Value:=List.append zt3 zr3
theorem Gv:zr4=List.replicate 1025 aP:=by
 show zt3 ++ zr3=_
 rw [x5,Gw,Kl]
def zr5:List Value:=List.append zt4 zr4
theorem Gu:zr5=List.replicate 2049 aP:=by
 show zt4 ++ zr4=_
 rw [xZ,Gv,Kl]
def zr6:List Value:=List.append zt5 zr5
theorem Gt:zr6=List.replicate 4097 aP:=by
 show zt5 ++ zr5=_
 rw [xY,Gu,Kl]
def zr7:List Value:=List.append zt6 zr6
theorem Gs:zr7=List.replicate 8193 aP:=by
 show zt6 ++ zr6=_
 rw [xX,Gt,Kl]
def zr8:List Value:=List.append zt7 zr7
theorem Gr:zr8=List.replicate 16385 aP:=by
 show zt7 ++ zr7=_
 rw [xW,Gs,Kl]
def zr9:List Value:=List.append zt8 zr8
theorem Gq:zr9=List.replicate 32769 aP:=by
 show zt8 ++ zr8=_
 rw [xV,Gr,Kl]
def zr10:List Value:=List.append zt9 zr9
theorem Dn:zr10=List.replicate 65537 aP:=by
 show zt9 ++ zr9=_
 rw [Cy,Gq,Kl]
def zq0:List Value:=List.append [aP,aP,aP,aP,aP,aP,aP,aP,aP,aP,aP,aP,aP,aP,aP,aP,aP,aP,aP,aP,aP,aP,aP,aP,aP,aP,aP,aP,aP,aP,aP,aP] [aP,aP,aP,aP,aP,aP,aP,aP,aP,aP,aP,aP,aP,aP,aP,aP,aP,aP,aP,aP,aP,aP,aP,aP,aP,aP,aP,aP,aP,aP,aP,fU,fU]
theorem GK:zq0=List.replicate 63 aP ++ [fU,fU]:=rfl
def zq1:List Value:=List.append zt0 zq0
theorem GJ:zq1=List.replicate 127 aP ++ [fU,fU]:=by
 show zt0 ++ zq0=_
 rw [x8,GK,←J6,Kl]
def zq2:List Value:=List.append zt1 zq1
theorem GI:zq2=List.replicate 255 aP ++ [fU,fU]:=by
 show zt1 ++ zq1=_
 rw [x7,GJ,←J6,Kl]
def zq3:List Value:=List.append zt2 zq2
theorem GH:zq3=List.replicate 511 aP ++ [fU,fU]:=by
 show zt2 ++ zq2=_
 rw [x6,GI,←J6,Kl]
def zq4:List Value:=List.append zt3 zq3
theorem GG:zq4=List.replicate 1023 aP ++ [fU,fU]:=by
 show zt3 ++ zq3=_
 rw [x5,GH,←J6,Kl]
def zq5:List Value:=List.append zt4 zq4
theorem GF:zq5=List.replicate 2047 aP ++ [fU,fU]:=by
 show zt4 ++ zq4=_
 rw [xZ,GG,←J6,Kl]
def zq6:List Value:=List.append zt5 zq5
theorem GE:zq6=List.replicate 4095 aP ++ [fU,fU]:=by
 show zt5 ++ zq5=_
 rw [xY,GF,←J6,Kl]
def zq7:List Value:=List.append zt6 zq6
theorem GD:zq7=List.replicate 8191 aP ++ [fU,fU]:=by
 show zt6 ++ zq6=_
 rw [xX,GE,←J6,Kl]
def zq8:List Value:=List.append zt7 zq7
theorem GC:zq8=List.replicate 16383 aP ++ [fU,fU]:=by
 show zt7 ++ zq7=_
 rw [xW,GD,←J6,Kl]
def zq9:List Value:=List.append zt8 zq8
theorem GB:zq9=List.replicate 32767 aP ++ [fU,fU]:=by
 show zt8 ++ zq8=_
 rw [xV,GC,←J6,Kl]
def zq10:List Value:=List.append zt9 zq9
theorem Do:zq10=List.replicate 65535 aP ++ [fU,fU]:=by
 show zt9 ++ zq9=_
 rw [Cy,GB,←J6,Kl]
def zAll:List Value:=List.append zr10 zq10
theorem Dq:zAll=List.replicate 131072 aP ++ [fU,fU]:=by
 show zr10 ++ zq10=_
 rw [Dn,Do,←J6,Kl]
theorem yd:dJ Tryz.prog 30=some (.agg (List.toArray zAll)):=by kernel_rfl
def nJ:List UInt8:= [48,49,50,51,52,53,54,55,56,57]
theorem oE{H:au}{nx x:Nat}{k:ByteArray}(hk:k.size≤1000):Fnc Tryz.prog 20 [.sc (.string k),.sc (.int .u64 (x:Int))] H nx (fun q=>VerIs q.2.1 q.1 (k.data.toList,nJ,x,0)∧nx≤q.2.2∧ ∀ m,m<nx→q.2.1.at' m=H.at' m):=by
 refine Kp Tryz.func20 rfl rfl ?_
 repeat first|apply ai;rfl|refine GY (ut (F.un _ rfl) (F.un _ rfl) (F.un _ rfl) rfl (by focus(omega))) rfl rfl rfl ?_|apply bq;rfl;rfl;exact(F.un _ rfl);exact(F.sz _ rfl);rfl;exact(F.ze _ rfl);rfl;rfl;rfl;rfl;rfl
 (refine GY (D5 (F.un _ rfl) (F.un _ rfl) rfl (ah _ _ _) (by focus(decide))) rfl rfl rfl ?_)
 repeat first|apply ai;rfl|apply aH;rfl;(focus((repeat(first|exact ac|refine ab (by omega) ?_));done));rfl
 ((apply bn Tryz.func20 (congrArg Array.toList Tryz.results20));(focus(repeat(first|exact Kq|apply Kr rfl (Kt (F.ag _ rfl) (by repeat(exact ac)) (am _ 0 rfl rfl))))))
 refine⟨⟨.slu (nx+1) 0 k.size,.slu (nx+1+1) 0 10,rfl,jx (ro:=false) ?_ rfl,jx (ro:=false) (n:=10) ?_ rfl⟩,by dsimp only;omega,fun m hm=>by(repeat(refine ab (by omega) ?_));rfl⟩
 ·(focus((repeat(first|exact ac|refine ab (by omega) ?_));done))
 ·refine(aa _ _ (by omega)).trans ((ah _ _ _).trans ?_)
  exact congrArg some (hZ _ _ _ _ (byV nJ))
abbrev zeroM:List UInt8:=List.replicate 131072 0
theorem fM:zeroM.length=131072:=J8
theorem uZ:zAll.map SV.sc=qa zeroM 0 0:=by
 rw [Dq,JP,List.map_replicate]
 show _=(byV (List.replicate 131072 0)).map SV.sc ++ _
 rw [show byV (List.replicate 131072 (0:UInt8))=List.replicate 131072 aP from List.map_replicate,List.map_replicate]
 rfl
theorem rE{place:Nat→Option (Nat×Nat)}{cells vc:List SV}{i off size:Nat}{v:SV}(hp:place i=some (off,size))(hv:v.cells=vc)(hl:vc.length=size)(ho:off+size≤cells.length):iM place cells [(i,v)]=some (cells.take off ++ vc ++ cells.drop (off+size)):=by
 subst hv
 have hb:(Nat.beq v.cells.length size && Nat.ble (off+size) cells.length)=true:=by
  rw [JJ]
  exact⟨by rw [hl];exact Nat.beq_refl _,Jy ho⟩
 simp only [iM,hp,hb,cond_true]
theorem wy:iM (fun i=>([(0,131072),(131072,1),(131073,1)]:List (Nat×Nat))[i]?) ((Value.agg (List.toArray zAll)).cells.toList.map .sc) [(1,.sc (.int .i64 (-1)))]=some (qa zeroM (-1) 0):=by
 have e:(Value.agg (List.toArray zAll)).cells.toList.map SV.sc=qa zeroM 0 0:=(congrArg (List.map SV.sc) (List.toList_toArray ..)).trans uZ
 have hl:=mT fM 0 0
 have h1:=fu fM
 rw [e,rE (vc:= [.sc (.int .i64 (-1))]) (size:=1) (off:=131072) rfl rfl rfl (by rw [hl];exact Jw rfl),List.take_left' h1,←List.drop_drop,List.drop_left' h1,J6]
 rfl
theorem p5: ∀ {a b:List Int},a.Pairwise (·< ·)→b.Pairwise (·< ·)→(∀ x,x∈a↔x∈b)→a=b
 | [],[],_,_,_=>rfl
 | [],y :: b,_,_,h=>absurd ((h y).2 J3) (by simp)
 | x :: a,[],_,_,h=>absurd ((h x).1 J3) (by simp)
 | x :: a,y :: b,ha,hb,h=>by
   rw [List.pairwise_cons] at ha hb
   have hxy:x=y:=by
    rcases Ka.1 ((h x).1 J3)with h1|h1
    ·exact h1
    ·rcases Ka.1 ((h y).2 J3)with h2|h2
     ·exact h2.symm
     ·have:=hb.1 x h1
      have:=ha.1 y h2
      omega
   subst hxy
   congr 1
   refine p5 ha.2 hb.2 fun z=>?_
   constructor
   ·intro hz
    rcases Ka.1 ((h z).1 (J4 _ hz))with h1|h1
    ·have:=ha.1 z hz
     omega
    ·exact h1
   ·intro hz
    rcases Ka.1 ((h z).2 (J4 _ hz))with h1|h1
    ·have:=hb.1 z hz
     omega
    ·exact h1
theorem xH{l:List (Int×Int)}(hM:s6 l){ks K:List Int}(hp:ks.Perm K)(hn:K.Nodup)(hs:ks.Pairwise (fun x y=>bj y x=false))(hk: ∀ n,n∈K↔ ∃ t∈l,t.1=n):ks=jT (b7 l):=by
 refine p5 ?_ ?_ fun x=>?_
 ·have h1:ks.Nodup:=hp.nodup_iff.2 hn
  refine(List.pairwise_and_iff.2 ⟨hs,h1⟩).imp fun {a b} h=>?_
  have h2:=of_decide_eq_false h.1
  have h3:=h.2
  omega
 ·rw [List.pairwise_map]
  exact(eQ l).imp fun h=>by omega
 ·rw [hp.mem_iff,hk]
  constructor
  ·rintro⟨t,ht,rfl⟩
   have h2:=J7 (hM.1 t ht)
   have h3:(((t.1.toNat:Nat):Int),((t.2.toNat:Nat):Int))=t:=Prod.ext (by dsimp only;omega) (by dsimp only;omega)
   have h4:t.2.toNat∈aM l t.1.toNat:=(dU hM.1).2 (by rw [h3];exact ht)
   exact Ki.2 ⟨t.1.toNat,cY.2 ⟨by omega,by omega,fun e=>by rw [e] at h4;cases h4⟩,by omega⟩
  ·intro h
   obtain⟨n,hn,rfl⟩:=Ki.1 h
   obtain⟨_,_,h3⟩:=cY.1 hn
   obtain⟨k,hk⟩:=List.exists_mem_of_ne_nil _ h3
   exact⟨_,(dU hM.1).1 hk,rfl⟩
theorem yP{l:List (Int×Int)}(hl: ∀ t∈l,mH t.1 t.2=true)(n:Nat):jz l (n:Int)=jT (aM l n):=by
 unfold jz aM
 rw [jT,List.map_map]
 refine List.map_congr_left fun t ht=>?_
 have h2:=J7 (hl t (List.mem_filter.1 ht).1)
 show t.2=((t.2.toNat:Nat):Int)
 omega
def yM(S:List Nat):List Nat:=(hU (jT S)).map Int.toNat
theorem A9(S:List Nat):jT (yM S)=hU (jT S):=by
 unfold yM
 rw [jT,List.map_map]
 conv=>rhs;rw [← List.map_id (hU (jT S))]
 refine List.map_congr_left fun x hx=>?_
 have h:=(fR (jT S)).1.mem_iff.1 hx
 obtain⟨n,_,rfl⟩:=Ki.1 h
 show((Int.toNat (n:Int):Nat):Int)=(n:Int)
 omega
theorem gC(S:List Nat):(yM S).Perm S:=by
 have h:=((fR (jT S)).1).map Int.toNat
 refine h.trans (List.Perm.of_eq ?_)
 rw [jT,List.map_map]
 conv=>rhs;rw [← List.map_id S]
 exact List.map_congr_left fun x _=>Kd x
theorem qB{p:List UInt8}(h:Okp p){S:List Nat}(hS:S.Nodup):rZ (yM S) p=if(∀ k∈S,jB p k=true) then(rI p S,0) else(zeroP,6):=by
 rw [AU h ((gC S).nodup_iff.2 hS)]
 by_cases hh: ∀ k∈S,jB p k=true
 ·have h2: ∀ k∈yM S,jB p k=true:=fun k hk=>hh k ((gC S).mem_iff.1 hk)
  rw [JW hh,JW h2]
  have hH:Has p (yM S):=⟨(gC S).nodup_iff.2 hS,fun n hn=>by
   have:=h2 n hn
   unfold jB at this
   simp at this
   exact this⟩
  rw [As h hH (gC S)]
 ·have h2: ¬ ∀ k∈yM S,jB p k=true:=fun h3=>hh fun k hk=>h3 k ((gC S).mem_iff.2 hk)
  rw [JV hh,JV h2]
def HS(x:List UInt8):List UInt8:=if x.length=1024 then x else zeroP
theorem BY(x:List UInt8):(HS x).length=1024:=by
 unfold HS
 split
 ·assumption
 ·exact aj
theorem Ah{x:List UInt8}(h:x.length=1024):HS x=x:=JW h
abbrev pgV(x:List UInt8):List Value:=byV (HS x)
theorem D2(x:List UInt8):(pgV x).length=1024:=by rw [J0,BY]
theorem zp:RecOf pgV 1024:=⟨D2,fun s v hv=>by
 obtain⟨n,_,rfl⟩:=Ki.1 hv
 rfl⟩
abbrev pgR(l:List (List UInt8)):VO:=dat false l.length 1024 27 (l.flatMap pgV)
theorem wu{A:Type}{f:A→List Value}{sz:Nat}(hf:RecOf f sz): ∀ (l:List A) (i:Nat) (hi:i<l.length),((l.flatMap f).drop (i*sz)).take sz=f l[i]
 | [],i,hi=>absurd hi (Nat.not_lt_zero _)
 | x :: l,0,_=>by
   rw [List.flatMap_cons,Nat.zero_mul,List.drop_zero]
   exact List.take_left' (hf.len x)
 | x :: l,i+1,hi=>by
   rw [List.flatMap_cons,Nat.succ_mul,Nat.add_comm,←List.drop_drop,List.drop_left' (hf.len x)]
   exact wu hf l i (Nat.lt_of_succ_lt_succ hi)
theorem zq{l:List (List UInt8)}{i:Nat}(hi:i<l.length)(h:(l[i]).length=1024):(pgR l).cellsFrom (i*1024) 1024=some (pgS l[i]):=by
 rw [pgR,←hZ]
 refine dI 1024 (i*1024) _ ?_ (bf h) (by omega)
 rw [← List.map_drop,←List.map_take,wu zp l i hi,pgV,Ah h]
theorem zPgV:dJ Tryz.prog 27=some (.agg (List.replicate 1024 (Value.int .u8 0)).toArray):=by kernel_rfl
theorem EG{zs:List SV}(hz:zs.length=1024){p:List UInt8}(hp:p.length=1024):iM (fun i=>some (i*1024,1024)) zs [(0,.agg (pgS p))]=some (pgS p):=by
 have hl:(pgS p).length=1024:=by rw [J0,J0,hp]
 rw [rE (off:=0) (size:=1024) (vc:=pgS p) rfl rfl hl (by omega)]
 rw [List.take_zero,List.nil_append,List.drop_of_length_le (by omega),J9]
end Go.Proofs.YtnhmbonmlfeifaaGreat
end
