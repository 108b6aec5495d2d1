import Derived.Test.YtnhmbonmlfeifaaGreatV6
set_option linter.unusedVariables false
set_option linter.unusedSimpArgs false
set_option maxRecDepth 100000
set_option maxHeartbeats 0
section
namespace Go.Proofs.YtnhmbonmlfeifaaGreat
open Go Go.Sy Go.Sl Go.RowKit
section
variable {H:au}{s:SV}{a i n nx r:Nat}{it p:List UInt8}
abbrev AA:Nat×Nat→List Value:=fun x=> [.int .i64 (x.1:Int),.int .i64 (x.2:Int)]
theorem qe:RecOf AA 2:=⟨fun _=>rfl,fun a v hv=>by
 simp only [AA,Js,List.not_mem_nil,or_false] at hv
 rcases hv with rfl|rfl <;> rfl⟩
def eF(p:List UInt8)(n:Nat):List (Nat×Nat):=(List.range n).map fun j=>(ay p j,ar p j)
theorem eL(p:List UInt8)(n:Nat):(eF p n).length=n:=by simp [eF]
theorem mz(p:List UInt8)(n:Nat):eF p (n+1)=eF p n ++ [(ay p n,ar p n)]:=by simp [eF,List.range_succ]
abbrev sbO(a b:Nat):VO:=aq 92 [.sc (.int .i64 (a:Int)),.sc (.int .i64 (b:Int))]
abbrev slO(l:List (Nat×Nat)):VO:=dat false l.length 2 92 (l.flatMap AA)
theorem rF(p:List UInt8)(n:Nat):(eF p n).flatMap AA=((List.range n).flatMap fun j=> [Value.int .i64 (ay p j:Int),.int .i64 (ar p j:Int)]):=by
 unfold eF
 rw [List.flatMap_map]
theorem qH{f g:Nat→Value}: ∀ (n k:Nat),k<n→((List.range n).flatMap fun j=> [f j,g j])[k*2]? =some (f k)∧((List.range n).flatMap fun j=> [f j,g j])[k*2+1]? =some (g k)
 | 0,k,h=>absurd h (Nat.not_lt_zero _)
 | n+1,k,h=>by
   have hl:((List.range n).flatMap fun j=> [f j,g j]).length=n*2:=by
    rw [List.length_flatMap]
    simp [List.map_const',List.sum_replicate_nat]
   rw [List.range_succ,List.flatMap_append]
   rcases Jg k n with h1|h1
   ·rw [HP (by omega),HP (by omega)]
    exact qH n k h1
   ·obtain rfl:k=n:=by omega
    rw [Jn (by omega),Jn (by omega),hl]
    simp
theorem jr(p:List UInt8){k:Nat}(h:k<i):(slO (eF p i)).cell (k*2)=some (.sc (.int .i64 (ay p k:Int))):=by
 refine fW (by rw [eL];omega) ?_
 rw [rF p i]
 exact(qH i k h).1
theorem io(p:List UInt8){k:Nat}(h:k<i):(slO (eF p i)).cell (k*2+1)=some (.sc (.int .i64 (ar p k:Int))):=by
 refine fW (by rw [eL];omega) ?_
 rw [rF p i]
 exact(qH i k h).2
theorem li(h: ∀ j,j<i→kQ p j)(hi:kQ p i): ∀ j,j<i+1→kQ p j:=fun j hj=>by
 rcases Jg j i with h5|h5
 ·exact h j h5
 ·obtain rfl:j=i:=by omega
  exact hi
theorem pG(hp:p.length=1024):Fnc Tryz.prog 35 [.agg (pgS p)] H nx
 (fun q=>nx≤q.2.2∧(∀ m,m<nx→q.2.1.at' m=H.at' m)∧((bl p=false∧q.1 = .tup [dy,.sc (.bool false)])∨(bl p=true∧ ∃ r,q.1 = .tup [.slu r 0 (eF p (ae p)).length,.sc (.bool true)]∧nx≤r∧r<q.2.2∧q.2.1.at' r=some (slO (eF p (ae p)))))):=by
 have hno: ¬ Okp p→bl p=false:=(AF hp).2
 have hyes:Okp p→bl p=true:=(bw hp).2
 have hs0:ae p<65536:=cI p 14
 have hb0:aE p<65536:=cI p 16
 have hsl: ∀ {H:au} {nx:Nat},Fnc Tryz.prog 76 [.agg (pgS p),.sc (.int .i64 14)] H nx (fun q=>q=(.sc (.int .i64 (ae p:Int)),H,nx)):=fun {H nx}=>ou (o:=14) hp (by decide)
 refine JH Tryz.func35 rfl rfl ?_
 repeat first|apply bq hp;rfl;(focus((repeat(exact ac));done))|apply aj;rfl|apply aK;rfl;omega;omega|apply bY;rfl;kernel_rfl;exact hsl|apply bY;rfl;kernel_rfl;exact jI hp
 refine ej rfl rfl rfl rfl (fun h1=>?_) (fun h1=>?_)
 ·repeat apply aj;rfl
  (apply bP Tryz.func35 Tryz.results35;rfl)
  exact⟨by dsimp only;omega,fun m hm=>by(repeat(refine ab (by omega) ?_));rfl,.inl ⟨hno fun h=>by have:=h.head;omega,rfl⟩⟩
 ·repeat first|apply bq hp;rfl;(focus((repeat(exact ac));done))|apply aj;rfl|apply bY;rfl;kernel_rfl;exact jI hp
  refine ej rfl rfl rfl rfl (fun h2=>?_) (fun h2=>?_)
  ·repeat apply aj;rfl
   (apply bP Tryz.func35 Tryz.results35;rfl)
   exact⟨by dsimp only;omega,fun m hm=>by(repeat(refine ab (by omega) ?_));rfl,.inl ⟨hno fun h=>by have:=h.top;omega,rfl⟩⟩
  ·repeat apply aj;rfl
   refine jX (d:=5) 2 92 rfl rfl ?_
   refine bv (α:=Nat×Nat) (fun x=> [(1,.ptr nx 0),(4,.sc (.int .i64 (ae p:Int))),(5,.slu x.2 0 (eF p x.1).length),(6,.sc (.int .i64 (x.1:Int)))])
    (fun x H1 n1=>x.1≤ae p∧(∀ j,j<x.1→kQ p j)∧(x.1=ae p→0<ae p→ar p (ae p-1)≠0)∧nx<x.2∧x.2<n1∧H1.at' x.2=some (slO (eF p x.1))∧H1.at' nx=some (pgO p)∧ ∀ m,m<nx→H1.at' m=H.at' m) (fun x=>ae p-x.1) (0,nx+1)
    ⟨HT _,fun j hj=>absurd hj (Nat.not_lt_zero _),fun h1 h2=>absurd h1 (by dsimp only;omega),Nat.lt_succ_self _,Nat.lt_succ_self _,by repeat(exact ac),by repeat(first|exact ac|refine ab (by omega) ?_),fun m hm=>by(repeat(refine ab (by omega) ?_));rfl⟩ (JN (JQ rfl)) ?_
   rintro⟨i,r⟩ H1 n1 ⟨i1,i2,i3,i4,i5,i6,i7,i8⟩ ih
   dsimp only at i1 i2 i3 i4 i5 i6 i7 i8 ⊢
   repeat apply aj;rfl
   refine bi rfl rfl rfl rfl (fun h3=>?_) (fun h3=>?_)
   ·have hi:i<ae p:=by omega
    have hn1: ∀ {H:au} {nx:Nat},Fnc Tryz.prog 76 [.agg (pgS p),.sc (.int .i64 (18+4*(i:Int)))] H nx (fun q=>q=(.sc (.int .i64 (ay p i:Int)),H,nx)):=fun {H nx}=>by
     have:=ou (H:=H) (nx:=nx) (o:=18+4*i) hp (by omega)
     rw [show((18+4*i:Nat):Int)=18+4*(i:Int) by omega] at this
     exact this
    have hn2: ∀ {H:au} {nx:Nat},Fnc Tryz.prog 76 [.agg (pgS p),.sc (.int .i64 (18+4*(i:Int)+2))] H nx (fun q=>q=(.sc (.int .i64 (ar p i:Int)),H,nx)):=fun {H nx}=>by
     have:=ou (H:=H) (nx:=nx) (o:=18+4*i+2) hp (by omega)
     rw [show((18+4*i+2:Nat):Int)=18+4*(i:Int)+2 by omega] at this
     exact this
    repeat apply aj;rfl
    (apply ge;(focus(kernel_rfl));(focus(kernel_rfl)))
    refine dR 4 (Hz rfl) ?_
    repeat first|refine cg rfl rfl rfl (F.ag _ rfl) i7 (be hp) ?_|apply aU;rfl|refine bk (aw rfl rfl (.inl ⟨rfl,(Hu _ ⟨(by focus(omega)),(by focus(omega))⟩).symm⟩)) rfl rfl rfl ?_|refine bk (aw rfl rfl (.inr (.inr ⟨rfl,(Hu _ ⟨(by focus(omega)),(by focus(omega))⟩).symm⟩))) rfl rfl rfl ?_
    refine aA ?_;(apply dS;rfl;rfl;rfl;(focus(kernel_rfl));exact(hn1))
    refine dR 5 (Hz rfl) ?_
    repeat first|refine cg rfl rfl rfl (F.ag _ rfl) i7 (be hp) ?_|apply aU;rfl|refine bk (aw rfl rfl (.inl ⟨rfl,(Hu _ ⟨(by focus(omega)),(by focus(omega))⟩).symm⟩)) rfl rfl rfl ?_|refine bk (aw rfl rfl (.inr (.inr ⟨rfl,(Hu _ ⟨(by focus(omega)),(by focus(omega))⟩).symm⟩))) rfl rfl rfl ?_
    refine aA ?_;(apply dS;rfl;rfl;rfl;(focus(kernel_rfl));exact(hn2))
    refine jf ?_
    repeat first|apply aU;rfl|refine pt (e9 (F.zl _ rfl)) rfl rfl rfl ?_|refine qO (cW (F.sz _ rfl) rfl rfl rfl (by repeat(first|assumption|exact ac)) (by rfl) (by exact Hz rfl) (by rfl)) rfl rfl ?_
    refine aA ⟨by kernel_rfl,?_,?_⟩;(focus(repeat(first|exact JR|refine⟨.inl rfl,?_⟩|refine⟨.inr (.inl (by(repeat(refine⟨(by first|exact mA rfl|exact aw rfl rfl (.inl ⟨rfl,(Hu _ ⟨by omega,by omega⟩).symm⟩)|exact aV (F.ag _ rfl) rfl (by(repeat(refine ab (by omega) ?_));exact i7) (bm hp)|exact aw rfl rfl (.inr (.inr ⟨rfl,(Hu _ ⟨by omega,by omega⟩).symm⟩))),?_⟩));exact JR)),?_⟩|refine⟨.inr (.inr (by(repeat(refine⟨(by exact dZ rfl (by kernel_rfl) (by first|exact hn1|exact hn2)),?_⟩));exact JR)),?_⟩)))
    dsimp only
    apply cL (R:=fun H2 n2=>n2=n1+1∧H2.at' n1=some (sbO (ay p i) (ar p i))∧H2.at' r=some (slO (eF p i))∧H2.at' nx=some (pgO p)∧ ∀ m,m<nx→H2.at' m=H.at' m)
    focus exact⟨rfl,by repeat(exact ac),by repeat(first|assumption|refine ab (by omega) ?_),by repeat(first|assumption|refine ab (by omega) ?_),fun m hm=>by(repeat(refine ab (by omega) ?_));exact i8 m hm⟩
    rintro H2 n2 ⟨rfl,j1,j2,j3,j4⟩
    have hf0:ay p i<65536:=cI p _
    have hf1:ar p i<65536:=cI p _
    have hll:=eL p i
    by_cases hz:ay p i=0∧ar p i=0
    ·have hso:kQ p i:= .inl hz
     repeat first|apply aj;rfl|apply aG;rfl;assumption;rfl|apply dH;rfl;omega
     by_cases hl:i+1=ae p
     ·(apply bg;(focus(kernel_rfl));(focus(kernel_rfl)))
      repeat first|apply aU;rfl|refine bk (aw rfl rfl (.inr (.inl ⟨rfl,(Hu _ ⟨(by focus(omega)),(by focus(omega))⟩).symm⟩))) rfl rfl rfl ?_|apply cp;rfl;rfl|refine ly rfl rfl rfl rfl (fun _=>?_) (fun hq=>absurd hq (by omega))
      refine aA ⟨by kernel_rfl,?_,?_⟩;(focus(repeat(first|exact JR|apply ui;rfl|apply gu;rfl;kernel_rfl|refine⟨.inr ⟨0,by kernel_rfl,AllH.all (fun _=>(by(exact aw rfl rfl (.inr (.inl ⟨rfl,(Hu _ ⟨by omega,by omega⟩).symm⟩))))) _⟩,?_⟩|apply mv;kernel_rfl)))
      repeat apply aj;rfl
      (apply bP Tryz.func35 Tryz.results35;rfl)
      exact⟨by dsimp only;omega,j4,.inl ⟨hno fun h=>h.last (by omega) (by rw [← hl];exact hz.2),rfl⟩⟩
     ·(apply bg;(focus(kernel_rfl));(focus(kernel_rfl)))
      repeat first|apply aU;rfl|refine bk (aw rfl rfl (.inr (.inl ⟨rfl,(Hu _ ⟨(by focus(omega)),(by focus(omega))⟩).symm⟩))) rfl rfl rfl ?_|apply cp;rfl;rfl|refine ly rfl rfl rfl rfl (fun hq=>absurd hq (by omega)) (fun _=>?_)
      refine aA ⟨by kernel_rfl,?_,?_⟩;(focus(repeat(first|exact JR|apply ui;rfl|apply gu;rfl;kernel_rfl|refine⟨.inr ⟨0,by kernel_rfl,AllH.all (fun _=>(by(exact aw rfl rfl (.inr (.inl ⟨rfl,(Hu _ ⟨by omega,by omega⟩).symm⟩))))) _⟩,?_⟩|apply mv;kernel_rfl)))
      repeat apply aj;rfl
      have hlast:i+1=ae p→0<ae p→ar p (ae p-1)≠0:=fun h=>absurd h hl
      refine nw ?_
      repeat apply aj;rfl
      refine bi rfl rfl rfl rfl (fun _=>?_) (fun _=>?_)
      ·((try dsimp only);(repeat(first|apply aj;rfl|apply aG;rfl;assumption;rfl|apply aK;rfl;omega;omega|apply bB;rfl;rfl;exact(F.un _ rfl);exact(F.sz _ rfl);rfl;exact(F.ze _ rfl);rfl;rfl;rfl;rfl;rfl|refine lC (b:=16) (xs:=eF p i) (a:=(ay p i,ar p i)) rfl rfl rfl rfl (F.un _ rfl) (.inl ⟨_,F.un _ rfl⟩) (F.sz _ rfl) rfl (by kernel_rfl) (by kernel_rfl) (by repeat(first|assumption|refine ab (by omega) ?_)) (by repeat(exact ac)) (by rfl) (qe) (by omega) (by omega) ?_));rw [← mz];exact ih _ _ _ (i+1,n1+1+1) ⟨hi,li i2 hso,hlast,by dsimp only;omega,by dsimp only;omega,by repeat(exact ac),by repeat(first|assumption|refine ab (by omega) ?_|refine bX (by omega) ?_),fun m hm=>by(repeat(first|refine ab (by omega) ?_|refine bX (by omega) ?_));exact j4 m hm⟩ (by dsimp only;omega) (JN (JQ rfl)))
      ·((try dsimp only);(repeat(first|apply aj;rfl|apply aG;rfl;assumption;rfl|apply aK;rfl;omega;omega|apply bB;rfl;rfl;exact(F.un _ rfl);exact(F.sz _ rfl);rfl;exact(F.ze _ rfl);rfl;rfl;rfl;rfl;rfl|refine lC (b:=16) (xs:=eF p i) (a:=(ay p i,ar p i)) rfl rfl rfl rfl (F.un _ rfl) (.inl ⟨_,F.un _ rfl⟩) (F.sz _ rfl) rfl (by kernel_rfl) (by kernel_rfl) (by repeat(first|assumption|refine ab (by omega) ?_)) (by repeat(exact ac)) (by rfl) (qe) (by omega) (by omega) ?_));rw [← mz];exact ih _ _ _ (i+1,n1+1+1) ⟨hi,li i2 hso,hlast,by dsimp only;omega,by dsimp only;omega,by repeat(exact ac),by repeat(first|assumption|refine ab (by omega) ?_|refine bX (by omega) ?_),fun m hm=>by(repeat(first|refine ab (by omega) ?_|refine bX (by omega) ?_));exact j4 m hm⟩ (by dsimp only;omega) (JN (JQ rfl)))
    ·by_cases hf:ay p i=0
     ·have hzz:ar p i≠0:=fun h=>hz ⟨hf,h⟩
      repeat first|apply aj;rfl|apply aG;rfl;assumption;rfl|apply dH;rfl;omega|apply ii;rfl;omega
      by_cases b1:ar p i<1
      ·((apply bg;(focus(kernel_rfl));(focus(kernel_rfl)));(repeat(first|apply dA;rfl;assumption;rfl|apply aU;rfl|apply cp;rfl;rfl|refine cJ rfl rfl rfl rfl (fun _=>?_) (fun hq=>absurd hq (by omega))));refine aA ⟨by kernel_rfl,?_,?_⟩;(focus(repeat(first|exact JR|apply ui;rfl|apply gu;rfl;kernel_rfl|refine fT 0 rfl (by kernel_rfl) (by(repeat(refine⟨(by(exact an (F.ag _ rfl) rfl (by assumption) (aD rfl))),?_⟩));exact JR) ?_|apply mv;kernel_rfl)));(repeat(apply aj;rfl));(apply bP Tryz.func35 Tryz.results35;rfl);exact⟨by dsimp only;omega,j4,.inl ⟨hno fun h=>(by have:=h.slot i hi;omega),rfl⟩⟩)
      by_cases b2:1000<ar p i
      ·((apply bg;(focus(kernel_rfl));(focus(kernel_rfl)));(repeat(first|apply dA;rfl;assumption;rfl|apply aU;rfl|apply cp;rfl;rfl|refine cJ rfl rfl rfl rfl (fun hq=>absurd hq (by omega)) (fun _=>?_)|refine fB rfl rfl rfl rfl (fun _=>?_) (fun hq=>absurd hq (by omega))));refine aA ⟨by kernel_rfl,?_,?_⟩;(focus(repeat(first|exact JR|apply ui;rfl|apply gu;rfl;kernel_rfl|refine fT 0 rfl (by kernel_rfl) (by(repeat(refine⟨(by(exact an (F.ag _ rfl) rfl (by assumption) (aD rfl))),?_⟩));exact JR) ?_|apply mv;kernel_rfl)));(repeat(apply aj;rfl));(apply bP Tryz.func35 Tryz.results35;rfl);exact⟨by dsimp only;omega,j4,.inl ⟨hno fun h=>(by have:=h.slot i hi;omega),rfl⟩⟩)
      have b3:ay p i<aE p:=by omega
      ((apply bg;(focus(kernel_rfl));(focus(kernel_rfl)));(repeat(first|refine cg rfl rfl rfl (F.ag _ rfl) j3 (be hp) ?_|apply bW;rfl;rfl;rfl;(focus(kernel_rfl));exact(jI hp)|apply dA;rfl;assumption;rfl|apply aU;rfl|apply cp;rfl;rfl|refine cJ rfl rfl rfl rfl (fun _=>?_) (fun hq=>absurd hq (by omega))|refine cJ rfl rfl rfl rfl (fun hq=>absurd hq (by omega)) (fun _=>?_)|refine fB rfl rfl rfl rfl (fun hq=>absurd hq (by omega)) (fun _=>?_)));refine aA ⟨by kernel_rfl,?_,?_⟩;(focus(repeat(first|exact JR|apply kp;rfl|apply ui;rfl|apply gu;rfl;kernel_rfl|refine fT 0 rfl (by kernel_rfl) (by(repeat(refine⟨(by first|exact an (F.ag _ rfl) rfl (by assumption) (aD rfl)|exact aV (F.ag _ rfl) rfl (by assumption) (bm hp)),?_⟩));exact JR) ?_|apply mv;kernel_rfl)));(repeat(apply aj;rfl));(apply bP Tryz.func35 Tryz.results35;rfl);exact⟨by dsimp only;omega,j4,.inl ⟨hno fun h=>(by have:=h.slot i hi;omega),rfl⟩⟩)
     ·repeat first|apply aj;rfl|apply aG;rfl;assumption;rfl|apply ii;rfl;omega
      by_cases b1:ar p i<1
      ·((apply bg;(focus(kernel_rfl));(focus(kernel_rfl)));(repeat(first|apply dA;rfl;assumption;rfl|apply aU;rfl|apply cp;rfl;rfl|refine cJ rfl rfl rfl rfl (fun _=>?_) (fun hq=>absurd hq (by omega))));refine aA ⟨by kernel_rfl,?_,?_⟩;(focus(repeat(first|exact JR|apply ui;rfl|apply gu;rfl;kernel_rfl|refine fT 0 rfl (by kernel_rfl) (by(repeat(refine⟨(by(exact an (F.ag _ rfl) rfl (by assumption) (aD rfl))),?_⟩));exact JR) ?_|apply mv;kernel_rfl)));(repeat(apply aj;rfl));(apply bP Tryz.func35 Tryz.results35;rfl);exact⟨by dsimp only;omega,j4,.inl ⟨hno fun h=>(by have:=h.slot i hi;omega),rfl⟩⟩)
      by_cases b2:1000<ar p i
      ·((apply bg;(focus(kernel_rfl));(focus(kernel_rfl)));(repeat(first|apply dA;rfl;assumption;rfl|apply aU;rfl|apply cp;rfl;rfl|refine cJ rfl rfl rfl rfl (fun hq=>absurd hq (by omega)) (fun _=>?_)|refine fB rfl rfl rfl rfl (fun _=>?_) (fun hq=>absurd hq (by omega))));refine aA ⟨by kernel_rfl,?_,?_⟩;(focus(repeat(first|exact JR|apply ui;rfl|apply gu;rfl;kernel_rfl|refine fT 0 rfl (by kernel_rfl) (by(repeat(refine⟨(by(exact an (F.ag _ rfl) rfl (by assumption) (aD rfl))),?_⟩));exact JR) ?_|apply mv;kernel_rfl)));(repeat(apply aj;rfl));(apply bP Tryz.func35 Tryz.results35;rfl);exact⟨by dsimp only;omega,j4,.inl ⟨hno fun h=>(by have:=h.slot i hi;omega),rfl⟩⟩)
      by_cases b3:ay p i<aE p
      ·((apply bg;(focus(kernel_rfl));(focus(kernel_rfl)));(repeat(first|refine cg rfl rfl rfl (F.ag _ rfl) j3 (be hp) ?_|apply bW;rfl;rfl;rfl;(focus(kernel_rfl));exact(jI hp)|apply dA;rfl;assumption;rfl|apply aU;rfl|apply cp;rfl;rfl|refine cJ rfl rfl rfl rfl (fun _=>?_) (fun hq=>absurd hq (by omega))|refine cJ rfl rfl rfl rfl (fun hq=>absurd hq (by omega)) (fun _=>?_)|refine fB rfl rfl rfl rfl (fun hq=>absurd hq (by omega)) (fun _=>?_)));refine aA ⟨by kernel_rfl,?_,?_⟩;(focus(repeat(first|exact JR|apply kp;rfl|apply ui;rfl|apply gu;rfl;kernel_rfl|refine fT 0 rfl (by kernel_rfl) (by(repeat(refine⟨(by first|exact an (F.ag _ rfl) rfl (by assumption) (aD rfl)|exact aV (F.ag _ rfl) rfl (by assumption) (bm hp)),?_⟩));exact JR) ?_|apply mv;kernel_rfl)));(repeat(apply aj;rfl));(apply bP Tryz.func35 Tryz.results35;rfl);exact⟨by dsimp only;omega,j4,.inl ⟨hno fun h=>(by have:=h.slot i hi;omega),rfl⟩⟩)
      by_cases b4:1024<ay p i+ar p i
      ·((apply bg;(focus(kernel_rfl));(focus(kernel_rfl)));(repeat(first|refine cg rfl rfl rfl (F.ag _ rfl) j3 (be hp) ?_|apply bW;rfl;rfl;rfl;(focus(kernel_rfl));exact(jI hp)|apply dA;rfl;assumption;rfl|apply aU;rfl|refine bk (aw rfl rfl (.inl ⟨rfl,(Hu _ ⟨(by focus(omega)),(by focus(omega))⟩).symm⟩)) rfl rfl rfl ?_|apply cp;rfl;rfl|refine cJ rfl rfl rfl rfl (fun hq=>absurd hq (by omega)) (fun _=>?_)|refine fB rfl rfl rfl rfl (fun _=>?_) (fun hq=>absurd hq (by omega))|refine fB rfl rfl rfl rfl (fun hq=>absurd hq (by omega)) (fun _=>?_)));refine aA ⟨by kernel_rfl,?_,?_⟩;(focus(repeat(first|exact JR|apply kp;rfl|apply ui;rfl|apply gu;rfl;kernel_rfl|refine⟨.inr ⟨0,by kernel_rfl,AllH.all (fun _=>(by(exact aw rfl rfl (.inl ⟨rfl,(Hu _ ⟨by omega,by omega⟩).symm⟩)))) _⟩,?_⟩|refine fT 0 rfl (by kernel_rfl) (by(repeat(refine⟨(by first|exact an (F.ag _ rfl) rfl (by assumption) (aD rfl)|exact aV (F.ag _ rfl) rfl (by assumption) (bm hp)),?_⟩));exact JR) ?_|apply mv;kernel_rfl)));(repeat(apply aj;rfl));(apply bP Tryz.func35 Tryz.results35;rfl);exact⟨by dsimp only;omega,j4,.inl ⟨hno fun h=>(by have:=h.slot i hi;omega),rfl⟩⟩)
      ((apply bg;(focus(kernel_rfl));(focus(kernel_rfl)));(repeat(first|refine cg rfl rfl rfl (F.ag _ rfl) j3 (be hp) ?_|apply bW;rfl;rfl;rfl;(focus(kernel_rfl));exact(jI hp)|apply dA;rfl;assumption;rfl|apply aU;rfl|refine bk (aw rfl rfl (.inl ⟨rfl,(Hu _ ⟨(by focus(omega)),(by focus(omega))⟩).symm⟩)) rfl rfl rfl ?_|apply cp;rfl;rfl|refine cJ rfl rfl rfl rfl (fun hq=>absurd hq (by omega)) (fun _=>?_)|refine fB rfl rfl rfl rfl (fun hq=>absurd hq (by omega)) (fun _=>?_)));refine aA ⟨by kernel_rfl,?_,?_⟩;(focus(repeat(first|exact JR|apply kp;rfl|apply ui;rfl|apply gu;rfl;kernel_rfl|refine⟨.inr ⟨0,by kernel_rfl,AllH.all (fun _=>(by(exact aw rfl rfl (.inl ⟨rfl,(Hu _ ⟨by omega,by omega⟩).symm⟩)))) _⟩,?_⟩|refine fT 0 rfl (by kernel_rfl) (by(repeat(refine⟨(by first|exact an (F.ag _ rfl) rfl (by assumption) (aD rfl)|exact aV (F.ag _ rfl) rfl (by assumption) (bm hp)),?_⟩));exact JR) ?_|apply mv;kernel_rfl)));(repeat(apply aj;rfl));(try dsimp only))
      refine bv (α:=Nat) (fun k=> [(1,.ptr nx 0),(4,.sc (.int .i64 (ae p:Int))),(5,.slu r 0 (eF p i).length),(6,.sc (.int .i64 (i:Int))),(7,.ptr n1 0),(8,.sc (.bool false)),(9,.sc (.int .i64 (k:Int)))])
       (fun k H3 n3=>k≤i∧(∀ k',k'<k→ar p k'≠0→ay p k'+ar p k'≤ay p i∨ay p i+ar p i≤ay p k')∧n3=n1+1∧H3.at' n1=some (sbO (ay p i) (ar p i))∧H3.at' r=some (slO (eF p i))∧H3.at' nx=some (pgO p)∧ ∀ m,m<nx→H3.at' m=H.at' m) (fun k=>i-k) 0
       ⟨HT _,fun k' h5=>absurd h5 (Nat.not_lt_zero _),rfl,j1,j2,j3,j4⟩ (JN (JQ rfl)) ?_
      clear j1 j2 j3 j4
      rintro k H3 n3 ⟨k1,k2,rfl,j1,j2,j3,j4⟩ ihk
      repeat apply aj;rfl
      refine bi rfl rfl rfl rfl (fun h5=>?_) (fun h5=>?_)
      ·have hki:k<i:=by omega
       have hkf:ay p k<65536:=cI p _
       have hkg:ar p k<65536:=cI p _
       have hcS:=io p hki
       have hcF:=jr p hki
       repeat apply aj;rfl
       by_cases c1:0<ar p k∧ay p k<ay p i+ar p i∧ay p i<ay p k+ar p k
       ·((apply bg;(focus(kernel_rfl));(focus(kernel_rfl)));(repeat(first|refine bk (an (F.ag _ rfl) rfl j2 hcS) rfl rfl rfl ?_|refine bk (an (F.ag _ rfl) rfl j2 hcF) rfl rfl rfl ?_|apply dA;rfl;assumption;rfl|refine aH (q:=k) rfl rfl rfl rfl (F.un _ rfl) (F.sz _ rfl) (by assumption) (by omega) (by(omega)) (HS _) ?_|apply aU;rfl|refine bk (aw rfl rfl (.inl ⟨rfl,(Hu _ ⟨(by focus(omega)),(by focus(omega))⟩).symm⟩)) rfl rfl rfl ?_|refine cJ rfl rfl rfl rfl (fun _=>?_) (fun hq=>absurd hq (by omega))|refine fB rfl rfl rfl rfl (fun _=>?_) (fun hq=>absurd hq (by omega))));refine aA ⟨by kernel_rfl,?_,?_⟩;(focus(repeat(first|exact JR|apply gu;rfl;kernel_rfl|refine⟨.inr ⟨0,by kernel_rfl,AllH.all (fun _=>(by(exact aw rfl rfl (.inl ⟨rfl,(Hu _ ⟨by omega,by omega⟩).symm⟩)))) _⟩,?_⟩|refine fT 0 rfl (by kernel_rfl) (by(repeat(refine⟨(by first|exact an (F.ag _ rfl) rfl (by assumption) (aD rfl)|exact an (F.ag _ rfl) rfl j2 hcS|exact an (F.ag _ rfl) rfl j2 hcF|exact aN (F.un _ rfl) (F.sz _ rfl) rfl rfl j2 rfl (by omega) (HS _)),?_⟩));exact JR) ?_|apply mv;kernel_rfl)));(repeat(apply aj;rfl)))
        (apply bP Tryz.func35 Tryz.results35;rfl)
        exact⟨by dsimp only;omega,j4,.inl ⟨hno fun h=>(by have:=h.apart k i hki hi (by omega) (by omega);omega),rfl⟩⟩
       have hk3: ∀ k',k'<k+1→ar p k'≠0→ay p k'+ar p k'≤ay p i∨ay p i+ar p i≤ay p k':=fun k' h6 h7=>by
        rcases Jg k' k with h8|h8
        ·exact k2 k' h8 h7
        ·obtain rfl:k'=k:=by omega
         omega
       by_cases c2:0<ar p k
       ·by_cases c3:ay p k<ay p i+ar p i
        ·((apply bg;(focus(kernel_rfl));(focus(kernel_rfl)));(repeat(first|refine bk (an (F.ag _ rfl) rfl j2 hcS) rfl rfl rfl ?_|refine bk (an (F.ag _ rfl) rfl j2 hcF) rfl rfl rfl ?_|apply dA;rfl;assumption;rfl|refine aH (q:=k) rfl rfl rfl rfl (F.un _ rfl) (F.sz _ rfl) (by assumption) (by omega) (by(omega)) (HS _) ?_|apply aU;rfl|refine bk (aw rfl rfl (.inl ⟨rfl,(Hu _ ⟨(by focus(omega)),(by focus(omega))⟩).symm⟩)) rfl rfl rfl ?_|refine cJ rfl rfl rfl rfl (fun _=>?_) (fun hq=>absurd hq (by omega))|refine cJ rfl rfl rfl rfl (fun hq=>absurd hq (by omega)) (fun _=>?_)|refine fB rfl rfl rfl rfl (fun _=>?_) (fun hq=>absurd hq (by omega))));refine aA ⟨by kernel_rfl,?_,?_⟩;(focus(repeat(first|exact JR|apply gu;rfl;kernel_rfl|refine⟨.inr ⟨0,by kernel_rfl,AllH.all (fun _=>(by(exact aw rfl rfl (.inl ⟨rfl,(Hu _ ⟨by omega,by omega⟩).symm⟩)))) _⟩,?_⟩|refine fT 0 rfl (by kernel_rfl) (by(repeat(refine⟨(by first|exact an (F.ag _ rfl) rfl (by assumption) (aD rfl)|exact an (F.ag _ rfl) rfl j2 hcS|exact an (F.ag _ rfl) rfl j2 hcF|exact aN (F.un _ rfl) (F.sz _ rfl) rfl rfl j2 rfl (by omega) (HS _)),?_⟩));exact JR) ?_|apply mv;kernel_rfl)));(repeat(first|apply aj;rfl|apply aK;rfl;omega;omega)))
         dsimp only
         exact ihk _ _ _ (k+1) ⟨by omega,hk3,rfl,j1,j2,j3,j4⟩ (by omega) (JN (JQ rfl))
        ·((apply bg;(focus(kernel_rfl));(focus(kernel_rfl)));(repeat(first|refine bk (an (F.ag _ rfl) rfl j2 hcS) rfl rfl rfl ?_|refine bk (an (F.ag _ rfl) rfl j2 hcF) rfl rfl rfl ?_|apply dA;rfl;assumption;rfl|refine aH (q:=k) rfl rfl rfl rfl (F.un _ rfl) (F.sz _ rfl) (by assumption) (by omega) (by(omega)) (HS _) ?_|apply aU;rfl|refine bk (aw rfl rfl (.inl ⟨rfl,(Hu _ ⟨(by focus(omega)),(by focus(omega))⟩).symm⟩)) rfl rfl rfl ?_|apply cp;rfl;rfl|refine cJ rfl rfl rfl rfl (fun hq=>absurd hq (by omega)) (fun _=>?_)|refine fB rfl rfl rfl rfl (fun _=>?_) (fun hq=>absurd hq (by omega))));refine aA ⟨by kernel_rfl,?_,?_⟩;(focus(repeat(first|exact JR|apply ui;rfl|apply gu;rfl;kernel_rfl|refine⟨.inr ⟨0,by kernel_rfl,AllH.all (fun _=>(by(exact aw rfl rfl (.inl ⟨rfl,(Hu _ ⟨by omega,by omega⟩).symm⟩)))) _⟩,?_⟩|refine fT 0 rfl (by kernel_rfl) (by(repeat(refine⟨(by first|exact an (F.ag _ rfl) rfl (by assumption) (aD rfl)|exact an (F.ag _ rfl) rfl j2 hcS|exact an (F.ag _ rfl) rfl j2 hcF|exact aN (F.un _ rfl) (F.sz _ rfl) rfl rfl j2 rfl (by omega) (HS _)),?_⟩));exact JR) ?_|apply mv;kernel_rfl)));(repeat(first|apply aj;rfl|apply aK;rfl;omega;omega)))
         dsimp only
         exact ihk _ _ _ (k+1) ⟨by omega,hk3,rfl,j1,j2,j3,j4⟩ (by omega) (JN (JQ rfl))
       ·((apply bg;(focus(kernel_rfl));(focus(kernel_rfl)));(repeat(first|refine bk (an (F.ag _ rfl) rfl j2 hcS) rfl rfl rfl ?_|refine aH (q:=k) rfl rfl rfl rfl (F.un _ rfl) (F.sz _ rfl) (by assumption) (by omega) (by(omega)) (HS _) ?_|apply aU;rfl|apply cp;rfl;rfl|refine fB rfl rfl rfl rfl (fun hq=>absurd hq (by omega)) (fun _=>?_)));refine aA ⟨by kernel_rfl,?_,?_⟩;(focus(repeat(first|exact JR|apply ui;rfl|apply gu;rfl;kernel_rfl|refine fT 0 rfl (by kernel_rfl) (by(repeat(refine⟨(by first|exact an (F.ag _ rfl) rfl j2 hcS|exact aN (F.un _ rfl) (F.sz _ rfl) rfl rfl j2 rfl (by omega) (HS _)),?_⟩));exact JR) ?_|apply mv;kernel_rfl)));(repeat(first|apply aj;rfl|apply aK;rfl;omega;omega)))
        dsimp only
        exact ihk _ _ _ (k+1) ⟨by omega,hk3,rfl,j1,j2,j3,j4⟩ (by omega) (JN (JQ rfl))
      ·have hki:k=i:=by omega
       rw [hki] at k2
       clear ihk
       have hso:kQ p i:= .inr ⟨by omega,k2⟩
       have hlast:i+1=ae p→0<ae p→ar p (ae p-1)≠0:=fun h _=>by rw [← h];show ar p i≠0;omega
       ((try dsimp only);(repeat(first|apply aj;rfl|apply aG;rfl;assumption;rfl|apply aK;rfl;omega;omega|apply bB;rfl;rfl;exact(F.un _ rfl);exact(F.sz _ rfl);rfl;exact(F.ze _ rfl);rfl;rfl;rfl;rfl;rfl|refine lC (b:=16) (xs:=eF p i) (a:=(ay p i,ar p i)) rfl rfl rfl rfl (F.un _ rfl) (.inl ⟨_,F.un _ rfl⟩) (F.sz _ rfl) rfl (by kernel_rfl) (by kernel_rfl) (by repeat(first|assumption|refine ab (by omega) ?_)) (by repeat(exact ac)) (by rfl) (qe) (by omega) (by omega) ?_));rw [← mz];exact ih _ _ _ (i+1,n1+1+1) ⟨hi,li i2 hso,hlast,by dsimp only;omega,by dsimp only;omega,by repeat(exact ac),by repeat(first|assumption|refine ab (by omega) ?_|refine bX (by omega) ?_),fun m hm=>by(repeat(first|refine ab (by omega) ?_|refine bX (by omega) ?_));exact j4 m hm⟩ (by dsimp only;omega) (JN (JQ rfl)))
   ·obtain rfl:i=ae p:=by omega
    repeat apply aj;rfl
    (apply bP Tryz.func35 Tryz.results35;rfl)
    have hok:Okp p:=⟨hp,by omega,by omega,fun h=>i3 rfl h,fun j hj=>(i2 j hj).imp id And.left,fun a c h1 h2 h3 h4=>by
     rcases i2 c h2 with h5|h5
     ·exact absurd h5.2 h4
     ·exact h5.2 a h1 h3⟩
    exact⟨by dsimp only;omega,i8,.inr ⟨hyes hok,r,rfl,by omega,i5,i6⟩⟩
theorem Cl(hrow:H.at' r=some (slO (eF p (ae p)))):Fnc Tryz.prog 92 [.slu r 0 (eF p (ae p)).length] H nx (fun q=>q=(.sc (.int .i64 (ba p:Int)),H,nx)):=by
 have hll:=eL p (ae p)
 have hs0:ae p<65536:=cI p 14
 refine JH Tryz.func92 rfl rfl ?_
 repeat apply aj;rfl
 refine bv (α:=Nat) (fun i=> [(0,.slu r 0 (eF p (ae p)).length),(3,.sc (.int .i64 (i:Int)))])
  (fun i H1 n1=>H1=H∧n1=nx∧i≤ae p∧dv p (ae p-i) i=ba p) (fun i=>ae p-i) 0
  ⟨rfl,rfl,HT _,rfl⟩ (JN (JQ rfl)) ?_
 rintro i H1 n1 ⟨rfl,rfl,i1,i2⟩ ih
 repeat apply aj;rfl
 refine bi rfl rfl rfl rfl (fun h3=>?_) (fun h3=>?_)
 ·have hi:i<ae p:=by omega
  have hg:ar p i<65536:=cI p _
  have hcS:=io p hi
  have hgo:dv p (ae p-i) i=if ar p i=0 then i else dv p (ae p-(i+1)) (i+1):=by
   rw [show ae p-i=(ae p-(i+1))+1 by omega]
   rfl
  repeat first|refine dw (q:=i) rfl rfl rfl rfl (F.un _ rfl) (F.sz _ rfl) (by assumption) (by omega) (by(omega)) (HS _) ?_|refine cc (an (F.ag _ rfl) rfl hrow hcS) rfl rfl rfl ?_|apply aj;rfl
  refine cF rfl rfl rfl rfl (fun h4=>?_) (fun h4=>?_)
  ·rw [hgo,Je (by omega)] at i2
   repeat apply aj;rfl
   (apply bP Tryz.func92 Tryz.results92;rfl)
   rw [← i2]
   rfl
  ·rw [hgo,Jd (by omega)] at i2
   repeat first|apply aj;rfl|apply aK;rfl;omega;omega
   exact ih _ _ _ (i+1) ⟨rfl,rfl,by omega,i2⟩ (by omega) (JN (JQ rfl))
 ·have hi:i=ae p:=by omega
  rw [hi,Nat.sub_self] at i2
  have i2:ae p=ba p:=i2
  repeat apply aj;rfl
  (apply bP Tryz.func92 Tryz.results92;rfl)
  rw [hll,i2]
  rfl
theorem tG(hp:p.length=1024):Fnc Tryz.prog 47 [.agg (pgS p)] H nx (fun q=>q=(.sc (.int .i64 (eY p:Int)),H,nx)):=by
 refine Fnc.bu (Free.sc _) ?_
 have hll:=eL p (ae p)
 have hs0:ae p<65536:=cI p 14
 have hb0:aE p<65536:=cI p 16
 refine JH Tryz.func47 rfl rfl ?_
 repeat first|apply bq hp;rfl;(focus((repeat(exact ac));done))|apply aj;rfl
 refine aL rfl rfl rfl (by kernel_rfl) (JG (pG hp) ?_)
 rintro⟨_,H2,n2⟩ ⟨g1,g2,(⟨hr,rfl⟩|⟨hr,r,rfl,g3,g4,g5⟩)⟩
 ·dsimp only at g1 g2 ⊢
  have hv:eY p=0:=by unfold eY;rw [hr];rfl
  rw [hv]
  repeat apply aj;rfl
  (apply bP Tryz.func47 Tryz.results47;rfl)
  exact⟨rfl,by dsimp only;omega,fun m hm=>(g2 m (by omega)).trans (by(repeat(refine ab (by omega) ?_));rfl)⟩
 ·dsimp only at g1 g2 g3 g4 g5 ⊢
  have hok:=(bw hp).1 hr
  have hh:=hok.head
  have he:=oL p
  have hv:eY p=aE p-18-4*ae p-(if ba p=ae p then 4 else 0):=by unfold eY;rw [hr];rfl
  have hb:H2.at' nx=some (pgO p):=(g2 _ (by omega)).trans (by repeat(exact ac))
  have ho: ∀ m,m<nx→H2.at' m=H.at' m:=fun m hm=>(g2 m (by omega)).trans (by(repeat(refine ab (by omega) ?_));rfl)
  repeat first|apply bq hp;rfl;assumption|apply aj;rfl|apply aK;rfl;omega;omega|apply bY;rfl;kernel_rfl;exact jI hp|apply bY;rfl;kernel_rfl;exact Cl g5
  refine cF rfl rfl rfl rfl (fun e1=>?_) (fun e1=>?_)
  ·rw [Je (by omega)] at hv
   repeat first|apply aj;rfl|apply aK;rfl;omega;omega
   refine bi rfl rfl rfl rfl (fun e2=>?_) (fun e2=>?_)
   ·repeat apply aj;rfl
    (apply bP Tryz.func47 Tryz.results47;rfl)
    exact⟨by rw [show eY p=0 by omega];rfl,by dsimp only;omega,ho⟩
   ·repeat apply aj;rfl
    (apply bP Tryz.func47 Tryz.results47;rfl)
    exact⟨congrArg (fun z:Int=>SV.sc (.int .i64 z)) (by omega),by dsimp only;omega,ho⟩
  ·rw [Jd (by omega)] at hv
   repeat apply aj;rfl
   refine bi rfl rfl rfl rfl (fun e2=>absurd e2 (by omega)) (fun e2=>?_)
   repeat apply aj;rfl
   (apply bP Tryz.func47 Tryz.results47;rfl)
   exact⟨congrArg (fun z:Int=>SV.sc (.int .i64 z)) (by omega),by dsimp only;omega,ho⟩
def Cj(p:List UInt8)(n:Nat)(it:List UInt8):List UInt8:=cm (cm (cm (bf p (aE p-it.length) it) 16 (aE p-it.length)) (18+4*n) (aE p-it.length)) (18+4*n+2) it.length
theorem qm(h:a+it.length≤p.length)(hi:i<it.length):(bf p a (it.take i)).set (a+i) (it[i])=bf p a (it.take (i+1)):=by
 have h1:(it.take i).length=i:=by rw [Jh];omega
 have h2:(it.take (i+1)).length=i+1:=by rw [Jh];omega
 refine Jy fun j=>?_
 rw [List.getElem?_set,cG (by omega),cG (by omega),h1,h2,bM (by omega),List.getElem?_take,List.getElem?_take]
 by_cases h3:a+i=j
 ·subst h3
  rw [Je rfl,Je (by omega),Je (by omega),show a+i-a=i by omega,Je (by omega),Hx hi]
 ·rw [Jd h3]
  by_cases h4:a≤j∧j<a+i
  ·rw [Je h4,Je (by omega),Je (by omega),Je (by omega)]
  ·rw [Jd h4,Jd (by omega)]
theorem Ci(hp:p.length=1024)(hB:BsIs H s (byV it))(h1:it.length≤aE p)(h2:aE p≤1024)(h3:18+4*n+4≤1024):Fnc Tryz.prog 94 [.agg (pgS p),.sc (.int .i64 (n:Int)),s] H nx (fun q=>q=(.agg (pgS (Cj p n it)),H,nx)):=by
 refine Fnc.bu (Free.agg _) ?_
 have hbl:=bN it
 have hP:=bM (p:=p) (o:=aE p-it.length) (l:=it) (by omega)
 refine JH Tryz.func94 rfl rfl ?_
 refine aW fun hund=>?_
 have hB1: ∀ H1:au,(∀ m,m<nx→H1.at' m=H.at' m)→BsIs H1 s (byV it):=fun H1 h=>hB.frame fun b vo hb=>(h b (hund b vo hb)).trans hb
 repeat first|apply bq hp;rfl;(focus((repeat(first|exact ac|refine ab (by omega) ?_));done))|refine aY rfl rfl ce ?_|apply aj;rfl|apply cw;rfl|apply aK;rfl;omega;omega|apply bY;rfl;kernel_rfl;exact jI hp|refine dl rfl rfl (F.un _ rfl) rfl (hB1 _ fun m hm=>by(repeat(refine ab (by omega) ?_));rfl) ?_;rw [hbl]
 rw [show((aE p:Nat):Int)-(it.length:Int)=((aE p-it.length:Nat):Int) by omega]
 refine bv (α:=Nat) (fun i=> [(1,.sc (.int .i64 (n:Int))),(2,s),(3,.ptr nx 0),(6,.ptr (nx+1) 0),(7,.sc (.int .i64 ((aE p-it.length:Nat):Int))),(8,.sc (.int .i64 (i:Int)))])
  (fun i H1 n1=>n1=nx+1+1∧i≤it.length∧H1.at' nx=some (pgO (bf p (aE p-it.length) (it.take i)))∧H1.at' (nx+1)=some (pgO zeroP)∧ ∀ m,m<nx→H1.at' m=H.at' m) (fun i=>it.length-i) 0
  ⟨rfl,HT _,by rw [List.take_zero,show bf p (aE p-it.length) []=p by simp [bf]];(focus((repeat(first|exact ac|refine ab (by omega) ?_));done)),by repeat(exact ac),fun m hm=>by(repeat(refine ab (by omega) ?_));rfl⟩ (JN (JQ rfl)) ?_
 rintro i H1 n1 ⟨rfl,i1,i2,i3,i4⟩ ih
 have hpi:(bf p (aE p-it.length) (it.take i)).length=1024:=(bM (by rw [Jh];omega)).trans hp
 repeat first|apply cw;rfl|(apply dl;rfl;rfl;exact(F.un _ rfl);rfl;exact(hB1 _ i4));rw [hbl]
 refine bi rfl rfl rfl rfl (fun h5=>?_) (fun h5=>?_)
 ·have hi:i<it.length:=by omega
  repeat first|apply aj;rfl|apply aK;rfl;omega;omega
  refine(xK rfl rfl rfl rfl (F.un _ rfl) (F.sz _ rfl) (hB1 _ i4) (j:=i) (by rw [hbl];exact hi) ?_)
  intro b o vo hb hc
  rw [qW] at hc
  have hi2:i<(byV it).length:=by omega
  repeat refine cc (an (F.ag _ rfl) rfl hb hc) rfl rfl rfl ?_
  (apply eR (q:=aE p-it.length+i);rfl;rfl;rfl;rfl;exact(F.un _ rfl);exact(F.sz _ rfl);(focus(omega));(focus(omega)))
  rw [show 0+(aE p-it.length+i)*1=aE p-it.length+i by omega]
  refine dg (cs:=pgS (bf p (aE p-it.length) (it.take i))) rfl rfl rfl (F.sz _ rfl) (by assumption) rfl (HG (by rw [be hpi];omega)) ?_
  rw [lG,qm (by omega) hi]
  repeat first|apply aj;rfl|apply aK;rfl;omega;omega
  exact ih _ _ _ (i+1) ⟨rfl,by omega,by repeat(exact ac),by repeat(first|assumption|refine ab (by omega) ?_),fun m hm=>by(repeat(refine ab (by omega) ?_));exact i4 m hm⟩ (by omega) (JN (JQ rfl))
 ·have hi:i=it.length:=by omega
  rw [hi,List.take_length] at i2
  rw [hi,List.take_length] at hpi
  have hw1:=fun(H:au) nx=>gF (H:=H) (nx:=nx) (o:=16) (n:=aE p-it.length) hpi (by decide) (by omega)
  have hl1:(cm (bf p (aE p-it.length) it) 16 (aE p-it.length)).length=1024:=(bE (by omega)).trans hpi
  have hw2:=fun(H:au) nx=>gF (H:=H) (nx:=nx) (o:=18+4*n) (n:=aE p-it.length) hl1 (by omega) (by omega)
  have hl2:(cm (cm (bf p (aE p-it.length) it) 16 (aE p-it.length)) (18+4*n) (aE p-it.length)).length=1024:=(bE (by omega)).trans hl1
  have hw3:=fun(H:au) nx=>gF (H:=H) (nx:=nx) (o:=18+4*n+2) (n:=it.length) hl2 (by omega) (by omega)
  have hl3:(Cj p n it).length=1024:=(bE (by omega)).trans hl2
  have hl5:cm (cm (cm (bf p (aE p-it.length) it) 16 (aE p-it.length)) (18+4*n) (aE p-it.length)) (18+4*n+2) it.length=Cj p n it:=rfl
  rw [hl5] at hw3
  rw [show((18+4*n:Nat):Int)=18+4*(n:Int) by omega] at hw2
  rw [show((18+4*n+2:Nat):Int)=18+4*(n:Int)+2 by omega] at hw3
  generalize Cj p n it=pL at hl3 hw3 ⊢
  clear hl5
  repeat first|apply bq hpi;rfl;assumption|apply bC hl3 ai;rfl;assumption|apply aj;rfl|apply cw;rfl|apply aK;rfl;omega;omega|apply bY;rfl;kernel_rfl;exact hw1 _ _|apply bY;rfl;kernel_rfl;exact hw2 _ _|(apply dl;rfl;rfl;exact(F.un _ rfl);rfl;exact(hB1 _ i4));rw [hbl]|apply bY;rfl;kernel_rfl;exact hw3 _ _
  ((apply bn Tryz.func94 (congrArg Array.toList Tryz.results94));(focus((apply JJ rfl (JL (F.ag _ rfl) (by repeat(exact ac)) (bm hl3)));(repeat(exact JI)))))
  exact⟨rfl,by dsimp only;omega,fun m hm=>by(repeat(refine ab (by omega) ?_));exact i4 m hm⟩
theorem eT{l l':List UInt8}{o o':Nat}(h1:o+l.length≤p.length)(h2:o'+l'.length≤p.length)(h:o+l.length≤o'∨o'+l'.length≤o):bf (bf p o l) o' l'=bf (bf p o' l') o l:=by
 refine Jy fun i=>?_
 rw [cG (by rw [bM h1];exact h2),cG h1,cG (by rw [bM h2];exact h1),cG h2]
 by_cases a:o'≤i∧i<o'+l'.length
 ·rw [Je a,Jd (by omega),Je a]
 ·rw [Jd a,Jd a]
theorem A9(h:Okp p)(h2:it.length≤1000)(hroom:it.length≤fI p)(h1:1≤it.length):Cj (fj p) (ba p) it=oy p it:=by
 have hh:=h.head
 have ht:=h.top
 have he:=(gv p).2.2
 have hmb:aE (fj p)=aE p:=jG h.len (by omega)
 have hml:=ow h.len
 have hl:=fun n=>bp n 2
 unfold fI at hroom
 have ha:18+4*ba p+4+it.length≤aE p:=by split at hroom <;> omega
 unfold Cj oy bK cm
 rw [hmb]
 generalize fj p=m at hml
 have l1:(bf m 16 (beB (aE p-it.length) 2)).length=1024:=(bM (by rw [hl];omega)).trans hml
 have l2:(bf m (18+4*ba p) (beB (aE p-it.length) 2)).length=1024:=(bM (by rw [hl];omega)).trans hml
 have l3:(bf (bf m 16 (beB (aE p-it.length) 2)) (18+4*ba p) (beB (aE p-it.length) 2)).length=1024:=(bM (by rw [hl];omega)).trans l1
 rw [eT (p:=m) (o:=aE p-it.length) (o':=16) (by omega) (by rw [hl];omega) (by rw [hl];omega),
  eT (o:=aE p-it.length) (o':=18+4*ba p) (by omega) (by rw [hl];omega) (by rw [hl];omega),
  eT (o:=aE p-it.length) (o':=18+4*ba p+2) (by omega) (by rw [hl];omega) (by rw [hl];omega)]
 congr 1
 rw [eT (p:=m) (o:=16) (o':=18+4*ba p) (by rw [hl];omega) (by rw [hl];omega) (by rw [hl];omega),
  eT (o:=16) (o':=18+4*ba p+2) (by rw [hl];omega) (by rw [hl];omega) (by rw [hl];omega)]
theorem zt(hp:p.length=1024)(hB:BsIs H s (byV it))(hr:bl p=true)(h2:it.length≤1000)(hroom:it.length≤fI p)(h1:1≤it.length):Fnc Tryz.prog 49 [.agg (pgS p),s] H nx (fun q=>q=(insS (oy p it,ba p,0),H,nx)):=by
 refine Fnc.bu (sE _) ?_
 have hok:=(bw hp).1 hr
 have hh:=hok.head
 have ht:=hok.top
 have hbl:=bN it
 have hll:=eL p (ae p)
 have hs0:ae p<65536:=cI p 14
 have he:=(gv p).2.2
 have hls:=A9 hok h2 hroom h1
 have hml:=ow hp
 have hmb:aE (fj p)=aE p:=jG hp (by omega)
 have hro:=hroom
 unfold fI at hro
 have ha:18+4*ba p+4+it.length≤aE p:=by split at hro <;> omega
 have hlay:=fun(H:au) nx (hB:BsIs H s (byV it))=>Ci (H:=H) (nx:=nx) (n:=ba p) hml hB (by omega) (by omega) (by omega)
 rw [hls] at hlay
 have hre:eY p=fI p:=by unfold eY;rw [Je hr]
 have hlen:=(laid hok h2 hroom h1).len
 have hmo:fj p=if ba p=ae p then cm p 14 (ae p+1) else p:=by unfold fj;split;rename_i h;rw [h];rfl
 refine JH Tryz.func49 rfl rfl ?_
 refine aW fun hund=>?_
 repeat first|apply bq hp;rfl;(focus((repeat(first|exact ac|refine ab (by omega) ?_));done))|refine aY rfl rfl ce ?_|apply aj;rfl
 refine aL rfl rfl rfl (by kernel_rfl) (JG (pG hp) ?_)
 rintro⟨_,H2,n2⟩ ⟨g1,g2,(⟨hr2,rfl⟩|⟨_,r,rfl,g3,g4,g5⟩)⟩
 ·rw [hr] at hr2;cases hr2
 dsimp only at g1 g2 g3 g4 g5 ⊢
 have hb:H2.at' nx=some (pgO p):=(g2 _ (by omega)).trans (by repeat(first|exact ac|refine ab (by omega) ?_))
 have hz:H2.at' (nx+1)=some (pgO zeroP):=(g2 _ (by omega)).trans (by repeat(exact ac))
 have ho: ∀ m,m<nx→H2.at' m=H.at' m:=fun m hm=>(g2 m (by omega)).trans (by(repeat(refine ab (by omega) ?_));rfl)
 have hB2: ∀ H1:au,(∀ m,m<nx→H1.at' m=H.at' m)→BsIs H1 s (byV it):=fun H1 h=>hB.frame fun b vo hb=>(h b (hund b vo hb)).trans hb
 have hro5:=fun(H:au) nx=>tG (H:=H) (nx:=nx) hp
 rw [hre] at hro5
 clear g2
 generalize oy p it=pL at hlen hlay ⊢
 repeat first|apply bq hp;rfl;assumption|apply aj;rfl|apply cw;rfl|apply kM;rfl;omega|(apply dl;rfl;rfl;exact(F.un _ rfl);rfl;exact(hB2 _ ho));rw [hbl]|apply bY;rfl;kernel_rfl;exact hro5 _ _|apply bY;rfl;kernel_rfl;exact Cl g5
 refine cF rfl rfl rfl rfl (fun e1=>?_) (fun e1=>?_)
 ·rw [Je (by omega)] at hmo
  have hw:=fun(H:au) nx=>gF (H:=H) (nx:=nx) (o:=14) (n:=ae p+1) hp (by decide) (by omega)
  rw [← hmo,show((ae p+1:Nat):Int)=((eF p (ae p)).length:Int)+1 by omega] at hw
  generalize fj p=pm at hml hw hlay
  repeat first|apply bq hp;rfl;assumption|apply bq hml;rfl;(focus((repeat(exact ac));done))|apply bC hml hp;rfl;assumption|apply bC hlen ai;rfl;(focus((repeat(first|assumption|refine ab (by omega) ?_));done))|apply aj;rfl|apply aK;rfl;omega;omega|apply bY;rfl;kernel_rfl;exact hw _ _|apply bY;rfl;kernel_rfl;exact hlay _ _ (hB2 _ fun m hm=>by(repeat(refine ab (by omega) ?_));exact ho m hm)
  ((apply bn Tryz.func49 (congrArg Array.toList Tryz.results49));(focus((apply JJ rfl (JL (F.ag _ rfl) (by repeat(exact ac)) (bm hlen)));(repeat(first|exact JI|apply JK rfl)))))
  exact⟨rfl,by dsimp only;omega,fun m hm=>by(repeat(refine ab (by omega) ?_));exact ho m hm⟩
 ·rw [Jd (by omega)] at hmo
  rw [hmo] at hlay
  repeat first|apply bq hp;rfl;assumption|apply bC hlen ai;rfl;assumption|apply aj;rfl|apply bY;rfl;kernel_rfl;exact hlay _ _ (hB2 _ fun m hm=>by exact ho m hm)
  ((apply bn Tryz.func49 (congrArg Array.toList Tryz.results49));(focus((apply JJ rfl (JL (F.ag _ rfl) (by repeat(exact ac)) (bm hlen)));(repeat(first|exact JI|apply JK rfl)))))
  exact⟨rfl,by dsimp only;omega,fun m hm=>by(repeat(refine ab (by omega) ?_));exact ho m hm⟩
abbrev fndS(r:Nat×Nat×Nat):SV:= .tup [.agg [.sc (.int .i64 (r.1:Int)),.sc (.int .i64 (r.2.1:Int))],.sc (.int .i64 (r.2.2:Int))]
theorem qL(hp:p.length=1024)(hr:bl p=true):Fnc Tryz.prog 90 [.agg (pgS p),.sc (.int .i64 (n:Int))] H nx (fun q=>q=(fndS (cn p n),H,nx)):=by
 refine Fnc.bu (Free.two (Free.agg [.int .i64 ((cn p n).1:Int),.int .i64 ((cn p n).2.1:Int)]) (Free.sc _)) ?_
 have hll:=eL p (ae p)
 have hs0:ae p<65536:=cI p 14
 refine JH Tryz.func90 rfl rfl ?_
 repeat first|apply bq hp;rfl;(focus((repeat(first|exact ac|refine ab (by omega) ?_));done))|apply aj;rfl
 refine aL rfl rfl rfl (by kernel_rfl) (JG (pG hp) ?_)
 rintro⟨_,H2,n2⟩ ⟨g1,g2,(⟨hr2,rfl⟩|⟨_,r,rfl,g3,g4,g5⟩)⟩
 ·rw [hr] at hr2;cases hr2
 dsimp only at g1 g2 g3 g4 g5 ⊢
 have hz:H2.at' (nx+1)=some (sbO 0 0):=(g2 _ (by omega)).trans (by repeat(exact ac))
 have ho: ∀ m,m<nx→H2.at' m=H.at' m:=fun m hm=>(g2 m (by omega)).trans (by(repeat(refine ab (by omega) ?_));rfl)
 clear g2
 repeat first|apply aj;rfl|apply kM;rfl;omega
 refine er rfl rfl rfl rfl (fun h1=>?_) (fun h1=>?_)
 ·have hv:cn p n=(0,0,6):=by unfold cn;rw [Je (by omega)]
  rw [hv]
  repeat first|apply aj;rfl|apply aG;rfl;assumption;rfl
  ((apply bn Tryz.func90 (congrArg Array.toList Tryz.results90));(focus(repeat(first|exact JI|apply JK rfl|apply JJ rfl (JL (F.ag _ rfl) (by repeat(exact ac)) (am _ 0 rfl rfl))))))
  exact⟨rfl,by dsimp only;omega,fun m hm=>by(repeat(refine ab (by omega) ?_));exact ho m hm⟩
 ·have hn:n<ae p:=by omega
  have hcS:=io p hn
  have hcF:=jr p hn
  have hg:ar p n<65536:=cI p _
  repeat first|refine dw (q:=n) rfl rfl rfl rfl (F.un _ rfl) (F.sz _ rfl) (by assumption) (by omega) (by(omega)) (HS _) ?_|refine cc (an (F.ag _ rfl) rfl g5 hcS) rfl rfl rfl ?_|apply aj;rfl
  refine cF rfl rfl rfl rfl (fun h4=>?_) (fun h4=>?_)
  ·have hv:cn p n=(0,0,6):=by unfold cn;rw [Jd (by omega),Je (by omega)]
   rw [hv]
   repeat first|apply aj;rfl|apply aG;rfl;assumption;rfl
   ((apply bn Tryz.func90 (congrArg Array.toList Tryz.results90));(focus(repeat(first|exact JI|apply JK rfl|apply JJ rfl (JL (F.ag _ rfl) (by repeat(exact ac)) (am _ 0 rfl rfl))))))
   exact⟨rfl,by dsimp only;omega,fun m hm=>by(repeat(refine ab (by omega) ?_));exact ho m hm⟩
  ·have hv:cn p n=(ay p n,ar p n,0):=by unfold cn;rw [Jd (by omega),Jd (by omega)]
   rw [hv]
   have hcc:(slO (eF p (ae p))).cellsFrom (n*2) 2=some [.sc (.int .i64 (ay p n:Int)),.sc (.int .i64 (ar p n:Int))]:=by simp only [VO.cellsFrom,hcF,hcS]
   repeat first|refine dw (q:=n) rfl rfl rfl rfl (F.un _ rfl) (F.sz _ rfl) (by assumption) (by omega) (by(omega)) (HS _) ?_|(refine cZ rfl (.inr (fun _ h=>by cases h)) ((aV (F.ag _ rfl) rfl g5 hcc).does) ?_);rw [aI rfl]|apply aj;rfl|apply aG;rfl;assumption;rfl
   ((apply bn Tryz.func90 (congrArg Array.toList Tryz.results90));(focus(repeat(first|exact JI|apply JK rfl|apply JJ rfl (JL (F.ag _ rfl) (by repeat(exact ac)) (am _ 0 rfl rfl))))))
   exact⟨rfl,by dsimp only;omega,fun m hm=>by(repeat(refine ab (by omega) ?_));exact ho m hm⟩
theorem so{size:Nat}(h1:1≤size)(h2:size≤8)(hn:n≤18446744073709551615):Fnc Tryz.prog 91 [.sc (.int .u64 (n:Int)),.sc (.int .i64 (size:Int))] H nx
 (fun q=>q=(.slu nx 0 (beB n size).length,H.set nx (dat false (beB n size).length 1 5 (byV (beB n size))),nx+1)):=by
 have:=Fnc.next (GM (H:=H) (nx:=nx) h1 h2 hn)
 rwa [bp]
theorem kj{T:Tr SV}{d:Option Tmp}{ty:TypeId}{pos:String}{af:Array Edge}{gd:Option (Nat×Bool)}{s x:Operand}{v:SV}{a b:List UInt8}(hx0:ak T s=some (.slu r 0 a.length))(hx:ak T x=some v)(hro:H.at' r=some (dat false a.length 1 5 (byV a)))(hb:BsIs H v (byV b))(h0:0<b.length)(hm:a.length+b.length≤1000000) :
 OpDoes Tryz.prog T H nx ⟨d,.call {callee:= .builtin .append,args:= #[s,x],argTypes:= #[35,35]},ty,pos,af,gd⟩ (.val (.slu nx 0 (a ++ b).length),(H.del r).set nx (dat false (a ++ b).length 1 5 (byV (a ++ b))),nx+1):=by
 have hr:=BsIs.rdv (P:=Tryz.prog) hb
 unfold RdV at hr
 have h:=Dr (P:=Tryz.prog) (T:=T) (H:=H) (nx:=nx) (d:=d) (ty:=ty) (pos:=pos) (af:=af) (gd:=gd) (t:=35) (tx:=35) (el:=5) (sz:=1) (m:=(byV b).length) (b:=1) (r:=r) (n:=a.length) (s:=s) (x:=x) (v:=v) (ws:=(byV a).map .sc) (cs:=(byV b).map .sc) (F.un _ rfl) (.inl ⟨_,F.un _ rfl⟩) (F.sz _ rfl) (by decide) (by kernel_rfl) (by kernel_rfl) hx0 hx (hro.trans (congrArg some (gQ _ _ _ _ _).symm)) (by simp) hr (gA hb.1) (by rw [bN];exact h0) (by rw [bN];omega) (by rw [bN];omega)
 rw [bN,←HX,←jT,show nn false (a.length+b.length) 1 5 ((byV (a ++ b)).map .sc)=dat false (a.length+b.length) 1 5 (byV (a ++ b))from gQ _ _ _ _ _,←HW] at h
 exact h
theorem wd{v:fY}(hv:VerIs H s v)(hm:iS v=true):Fnc Tryz.prog 46 [s] H nx (fun q=> ∃ r',q.1 = .slu r' 0 (aR v).length∧q.2.1.at' r'=some (dat false (aR v).length 1 5 (byV (aR v)))∧nx≤r'∧r'<q.2.2∧nx≤q.2.2∧ ∀ m,m<nx→q.2.1.at' m=H.at' m):=by
 have hmd:=Jp hm
 obtain⟨k,w,rfl,hk,hw⟩:=hv
 refine JH Tryz.func46 rfl rfl ?_
 refine aW fun hund=>?_
 have hK: ∀ H':au,(∀ m,m<nx→H'.at' m=H.at' m)→BsIs H' k (byV v.1):=fun H' h=>hk.frame fun b vo hb=>(h b (hund b vo hb)).trans hb
 have hW: ∀ H':au,(∀ m,m<nx→H'.at' m=H.at' m)→BsIs H' w (byV v.2.1):=fun H' h=>hw.frame fun b vo hb=>(h b (hund b vo hb)).trans hb
 have hl1:=bN v.1
 have hl2:=bN v.2.1
 have l8x:=bp v.2.2.1 8
 have l8y:=bp v.2.2.2 8
 have b0:(H.set nx (fm (ew k w v.2.2.1 v.2.2.2))).at' nx=some (fm (ew k w v.2.2.1 v.2.2.2)):=ah _ _ _
 have o0: ∀ m,m<nx→(H.set nx (fm (ew k w v.2.2.1 v.2.2.2))).at' m=H.at' m:=fun m hm=>aa _ _ (by omega)
 repeat apply aj;rfl
 generalize H.set nx (fm (ew k w v.2.2.1 v.2.2.2))=H0 at b0 o0 ⊢
 (apply bg;(focus(kernel_rfl));(focus(kernel_rfl)))
 repeat first|apply aU;rfl|apply dA;rfl;(focus((repeat(first|assumption|refine ab (by omega) ?_));done));rfl|apply bW;rfl;rfl;rfl;(focus(kernel_rfl));exact(so (n:=v.2.2.1) (size:=8) (by decide) (by decide) (by omega))|apply bW;rfl;rfl;rfl;(focus(kernel_rfl));exact(so (n:=v.2.2.2) (size:=8) (by decide) (by decide) (by omega))|refine jO rfl rfl (fun _ h=>by cases h) (kj (a:=beB v.2.2.1 8) (b:=beB v.2.2.2 8) rfl rfl (by repeat(first|exact ac|refine ab (by omega) ?_)) (jg (ro:=false) (n:=(beB v.2.2.2 8).length) (by repeat(exact ac)) rfl) (by omega) (by omega)) ?_
 refine aA ⟨by kernel_rfl,?_,?_⟩;(focus(repeat(first|exact JR|apply kp;rfl|apply gu;rfl;kernel_rfl|refine fT 0 rfl (by kernel_rfl) (by(repeat(refine⟨(by(exact an (F.ag _ rfl) rfl (by repeat(first|assumption|refine ab (by omega) ?_|refine bX (by omega) ?_)) (aD rfl))),?_⟩));exact JR) ?_)))
 refine cL (R:=fun H1 n1=>n1=nx+1+1+1+1∧H1.at' nx=some (fm (ew k w v.2.2.1 v.2.2.2))∧H1.at' (nx+1+1+1)=some (dat false (beB v.2.2.1 8 ++ beB v.2.2.2 8).length 1 5 (byV (beB v.2.2.1 8 ++ beB v.2.2.2 8)))∧ ∀ m,m<nx→H1.at' m=H.at' m) ⟨rfl,by repeat(first|assumption|refine ab (by omega) ?_|refine bX (by omega) ?_),by repeat(exact ac),fun m hm=>by(repeat(first|refine ab (by omega) ?_|refine bX (by omega) ?_));exact o0 m hm⟩ ?_
 rintro H1 n1 ⟨rfl,b1,r1,o1⟩
 clear b0 o0
 have la:(beB v.2.2.1 8 ++ beB v.2.2.2 8).length=16:=by rw [HW,l8x,l8y]
 have lk2:=bp v.1.length 2
 have lab:(beB v.2.2.1 8 ++ beB v.2.2.2 8 ++ beB v.1.length 2).length=18:=by rw [HW,la,lk2]
 repeat apply aj;rfl
 (apply bg;(focus(kernel_rfl));(focus(kernel_rfl)))
 repeat first|apply aU;rfl|apply dA;rfl;(focus((repeat(first|assumption|refine ab (by omega) ?_|refine bX (by omega) ?_));done));rfl|apply bI;rfl;rfl;exact(fun _ h=>by cases h);exact(fv (F.un _ rfl) rfl (hK _ o1))|refine bk (bR (F.un _ rfl) (F.un _ rfl) rfl (show _=((v.1.length:Nat):Int)from(JC _ ⟨by omega,by omega⟩).trans (by omega))) rfl rfl rfl ?_|apply bW;rfl;rfl;rfl;(focus(kernel_rfl));exact(so (n:=v.1.length) (size:=2) (by decide) (by decide) (by omega))|refine jO rfl rfl (fun _ h=>by cases h) (kj (a:=beB v.2.2.1 8 ++ beB v.2.2.2 8) (b:=beB v.1.length 2) rfl rfl (by repeat(first|assumption|refine ab (by omega) ?_)) (jg (ro:=false) (n:=(beB v.1.length 2).length) (by repeat(exact ac)) rfl) (by omega) (by omega)) ?_|refine jO rfl rfl (fun _ h=>by cases h) (kj (a:=beB v.2.2.1 8 ++ beB v.2.2.2 8 ++ beB v.1.length 2) (b:=v.1) rfl rfl (by repeat(exact ac)) (hK _ (fun m hm=>by(repeat(first|refine ab (by omega) ?_|refine bX (by omega) ?_));exact o1 m hm)) (by omega) (by omega)) ?_
 refine aA ⟨by kernel_rfl,?_,?_⟩;(focus(repeat(first|exact JR|apply kp;rfl|apply gu;rfl;kernel_rfl|refine fT 0 rfl (by kernel_rfl) (by(repeat(refine⟨(by first|exact an (F.ag _ rfl) rfl (by repeat(first|assumption|refine ab (by omega) ?_|refine bX (by omega) ?_)) (aD rfl)|exact fv (F.un _ rfl) rfl (hK _ (fun m hm=>by(repeat(first|refine ab (by omega) ?_|refine bX (by omega) ?_));exact o1 m hm))|exact bR (F.un _ rfl) (F.un _ rfl) rfl (show _=((v.1.length:Nat):Int)from(JC _ ⟨by omega,by omega⟩).trans (by omega))),?_⟩));exact JR) ?_)))
 obtain⟨A,hA⟩: ∃ A,A=beB v.2.2.1 8 ++ beB v.2.2.2 8 ++ beB v.1.length 2 ++ v.1:=⟨_,rfl⟩
 refine cL (R:=fun H2 n2=>n2=nx+1+1+1+1+1+1+1∧H2.at' nx=some (fm (ew k w v.2.2.1 v.2.2.2))∧H2.at' (nx+1+1+1+1+1+1)=some (dat false (beB v.2.2.1 8 ++ beB v.2.2.2 8 ++ beB v.1.length 2 ++ v.1).length 1 5 (byV (beB v.2.2.1 8 ++ beB v.2.2.2 8 ++ beB v.1.length 2 ++ v.1)))∧ ∀ m,m<nx→H2.at' m=H.at' m) ⟨rfl,by repeat(first|assumption|refine ab (by omega) ?_|refine bX (by omega) ?_),by repeat(exact ac),fun m hm=>by(repeat(first|refine ab (by omega) ?_|refine bX (by omega) ?_));exact o1 m hm⟩ ?_
 rintro H2 n2 ⟨rfl,b2,r2,o2⟩
 clear b1 o1 r1
 have lA:A.length=18+v.1.length:=by rw [hA,HW,lab]
 repeat apply aj;rfl
 rw [← hA] at r2 ⊢
 have lv2:=bp v.2.1.length 2
 have lAv:(A ++ beB v.2.1.length 2).length=20+v.1.length:=by rw [HW,lA,lv2];omega
 have hall:aR v=A ++ beB v.2.1.length 2 ++ v.2.1:=by
  rw [hA]
  unfold aR iZ
  simp only [Jo]
 rcases Nat.eq_zero_or_pos v.2.1.length with h0|h0
 ·have hv0:v.2.1= []:=HO h0
  have hw0: ∀ H':au,(∀ m,m<nx→H'.at' m=H.at' m)→RdV Tryz.prog H' 1 w 0 []:=fun H' h=>by
   have:=BsIs.rdv (P:=Tryz.prog) (hW H' h)
   rw [hv0] at this
   exact this
  rw [hv0,Jr] at hall
  (apply bg;(focus(kernel_rfl));(focus(kernel_rfl)))
  repeat first|apply aU;rfl|apply dA;rfl;(focus((repeat(first|assumption|refine ab (by omega) ?_|refine bX (by omega) ?_));done));rfl|apply bI;rfl;rfl;exact(fun _ h=>by cases h);exact(fv (F.un _ rfl) rfl (hW _ o2))|refine bk (bR (F.un _ rfl) (F.un _ rfl) rfl (show _=((v.2.1.length:Nat):Int)from(JC _ ⟨by omega,by omega⟩).trans (by omega))) rfl rfl rfl ?_|apply bW;rfl;rfl;rfl;(focus(kernel_rfl));exact(so (n:=v.2.1.length) (size:=2) (by decide) (by decide) (by omega))|refine jO rfl rfl (fun _ h=>by cases h) (kj (a:=A) (b:=beB v.2.1.length 2) rfl rfl (by repeat(first|assumption|refine ab (by omega) ?_)) (jg (ro:=false) (n:=(beB v.2.1.length 2).length) (by repeat(exact ac)) rfl) (by omega) (by omega)) ?_|refine jO rfl rfl (fun _ h=>by cases h) (pE (vs:= []) (F.un _ rfl) (.inl ⟨_,F.un _ rfl⟩) (F.sz _ rfl) (by decide) rfl rfl (ah _ _ _) (by omega) (hw0 _ (fun m hm=>by(repeat(first|refine ab (by omega) ?_|refine bX (by omega) ?_));exact o2 m hm)) (fun v hv=>by cases hv)) ?_
  refine aA ⟨by kernel_rfl,?_,?_⟩;(focus(repeat(first|exact JR|apply kp;rfl|apply gu;rfl;kernel_rfl|refine fT 0 rfl (by kernel_rfl) (by(repeat(refine⟨(by first|exact an (F.ag _ rfl) rfl (by repeat(first|assumption|refine ab (by omega) ?_|refine bX (by omega) ?_)) (aD rfl)|exact fv (F.un _ rfl) rfl (hW _ (fun m hm=>by(repeat(first|refine ab (by omega) ?_|refine bX (by omega) ?_));exact o2 m hm))|exact bR (F.un _ rfl) (F.un _ rfl) rfl (show _=((v.2.1.length:Nat):Int)from(JC _ ⟨by omega,by omega⟩).trans (by omega))),?_⟩));exact JR) ?_)))
  (apply bP Tryz.func46 Tryz.results46;rfl)
  rw [hall,hv0]
  exact⟨_,rfl,ah _ _ _,by omega,by dsimp only;omega,by dsimp only;omega,fun m hm=>by(repeat(first|refine ab (by omega) ?_|refine bX (by omega) ?_));exact o2 m hm⟩
 ·(apply bg;(focus(kernel_rfl));(focus(kernel_rfl)))
  repeat first|apply aU;rfl|apply dA;rfl;(focus((repeat(first|assumption|refine ab (by omega) ?_|refine bX (by omega) ?_));done));rfl|apply bI;rfl;rfl;exact(fun _ h=>by cases h);exact(fv (F.un _ rfl) rfl (hW _ o2))|refine bk (bR (F.un _ rfl) (F.un _ rfl) rfl (show _=((v.2.1.length:Nat):Int)from(JC _ ⟨by omega,by omega⟩).trans (by omega))) rfl rfl rfl ?_|apply bW;rfl;rfl;rfl;(focus(kernel_rfl));exact(so (n:=v.2.1.length) (size:=2) (by decide) (by decide) (by omega))|refine jO rfl rfl (fun _ h=>by cases h) (kj (a:=A) (b:=beB v.2.1.length 2) rfl rfl (by repeat(first|assumption|refine ab (by omega) ?_)) (jg (ro:=false) (n:=(beB v.2.1.length 2).length) (by repeat(exact ac)) rfl) (by omega) (by omega)) ?_|refine jO rfl rfl (fun _ h=>by cases h) (kj (a:=A ++ beB v.2.1.length 2) (b:=v.2.1) rfl rfl (by repeat(exact ac)) (hW _ (fun m hm=>by(repeat(first|refine ab (by omega) ?_|refine bX (by omega) ?_));exact o2 m hm)) (by omega) (by omega)) ?_
  refine aA ⟨by kernel_rfl,?_,?_⟩;(focus(repeat(first|exact JR|apply kp;rfl|apply gu;rfl;kernel_rfl|refine fT 0 rfl (by kernel_rfl) (by(repeat(refine⟨(by first|exact an (F.ag _ rfl) rfl (by repeat(first|assumption|refine ab (by omega) ?_|refine bX (by omega) ?_)) (aD rfl)|exact fv (F.un _ rfl) rfl (hW _ (fun m hm=>by(repeat(first|refine ab (by omega) ?_|refine bX (by omega) ?_));exact o2 m hm))|exact bR (F.un _ rfl) (F.un _ rfl) rfl (show _=((v.2.1.length:Nat):Int)from(JC _ ⟨by omega,by omega⟩).trans (by omega))),?_⟩));exact JR) ?_)))
  (apply bP Tryz.func46 Tryz.results46;rfl)
  rw [hall]
  exact⟨_,rfl,ah _ _ _,by omega,by dsimp only;omega,by dsimp only;omega,fun m hm=>by(repeat(first|refine ab (by omega) ?_|refine bX (by omega) ?_));exact o2 m hm⟩
theorem A1{T:Tr SV}{d:Option Tmp}{ty:TypeId}{pos:String}{af:Array Edge}{gd:Option (Nat×Bool)}{s x:Operand}{v:SV}{b:List UInt8}(hx0:ak T s=some (.sc (.slice none 0 0)))(hx:ak T x=some v)(hb:BsIs H v (byV b))(h0:0<b.length)(hm:b.length≤1000000) :
 OpDoes Tryz.prog T H nx ⟨d,.call {callee:= .builtin .append,args:= #[s,x],argTypes:= #[35,35]},ty,pos,af,gd⟩ (.val (.slu nx 0 b.length),H.set nx (u8R false (byV b)),nx+1):=by
 have hr:=BsIs.rdv (P:=Tryz.prog) hb
 unfold RdV at hr
 have h:=mF (P:=Tryz.prog) (T:=T) (H:=H) (nx:=nx) (d:=d) (ty:=ty) (pos:=pos) (af:=af) (gd:=gd) (t:=35) (tx:=35) (el:=5) (sz:=1) (m:=(byV b).length) (b:=1) (s:=s) (x:=x) (v:=v) (cs:=(byV b).map .sc) (F.un _ rfl) (.inl ⟨_,F.un _ rfl⟩) (F.sz _ rfl) (by decide) (by kernel_rfl) (by kernel_rfl) hx0 hx hr (gA hb.1) (by rw [bN];exact h0) (by rw [bN];omega) (by rw [bN];omega)
 rw [show nn false (byV b).length 1 5 ((byV b).map .sc)=dat false (byV b).length 1 5 (byV b)from gQ _ _ _ _ _] at h
 rw [bN] at h
 rw [← bN b] at h ⊢
 exact h
theorem Bb(hp:p.length=1024)(hr:bl p=true)(hn:n<ae p)(hs:ar p n≠0):Fnc Tryz.prog 45 [.agg (pgS p),.sc (.int .i64 (n:Int))] H nx (fun q=> ∃ r,q.1 = .tup [.slu r 0 (aS p n).length,.sc (.int .i64 0)]∧q.2.1.at' r=some (u8R false (byV (aS p n)))∧nx≤r∧r<q.2.2∧ ∀ m,m<nx→q.2.1.at' m=H.at' m):=by
 have hb:=cQ hr hn hs
 have hil:=dz hp hb.2.2.2
 have hfd:cn p n=(ay p n,ar p n,0):=by unfold cn;rw [Jd (by omega),Jd hs]
 have hfs: ∀ (H:au) nx,Fnc Tryz.prog 90 [.agg (pgS p),.sc (.int .i64 (n:Int))] H nx (fun q=>q=(.tup [.agg [.sc (.int .i64 (ay p n:Int)),.sc (.int .i64 (ar p n:Int))],.sc (.int .i64 0)],H,nx)):=fun H nx=>by
  have:=qL (H:=H) (nx:=nx) (n:=n) hp hr
  rw [hfd] at this
  exact this
 refine JH Tryz.func45 rfl rfl ?_
 repeat first|apply bq hp;rfl;(focus((repeat(exact ac));done))|apply aj;rfl|apply aG;rfl;(focus((repeat(exact ac));done));rfl|apply aK;rfl;omega;omega|apply bY;rfl;kernel_rfl;exact hfs _ _|apply dH;rfl;rfl|apply kL (lw:=ay p n) (hg:=ay p n+ar p n);rfl;rfl;rfl;exact(F.un _ rfl);exact(F.sz _ rfl);rfl;rfl;(focus(omega));(focus(omega));(focus(omega));exact(show ay p n+ar p n-ay p n=ar p n by omega);rfl;exact(Jf _)
 refine cZ rfl (.inr (fun _ h=>by cases h)) (A1 (b:=aS p n) rfl rfl (mT (b:=nx) (p:=p) (o:=ay p n) (m:=ar p n) (by repeat(first|exact ac|refine ab (by omega) ?_)) (by omega)) (by omega) (by omega)) ?_
 rw [aI rfl]
 repeat apply aj;rfl
 (apply bP Tryz.func45 Tryz.results45;rfl)
 exact⟨_,rfl,ah _ _ _,by omega,Nat.lt_succ_self _,fun m hm=>by(repeat(refine ab (by omega) ?_));rfl⟩
theorem w6(hp:p.length=1024)(hr:bl p=true)(hn:ae p≤n∨ar p n=0):Fnc Tryz.prog 45 [.agg (pgS p),.sc (.int .i64 (n:Int))] H nx (fun q=>q.1 = .tup [dy,.sc (.int .i64 6)]∧nx≤q.2.2∧ ∀ m,m<nx→q.2.1.at' m=H.at' m):=by
 have hfd:cn p n=(0,0,6):=by unfold cn;split;rfl;rw [Je (by omega)]
 have hfs: ∀ (H:au) nx,Fnc Tryz.prog 90 [.agg (pgS p),.sc (.int .i64 (n:Int))] H nx (fun q=>q=(.tup [.agg [.sc (.int .i64 0),.sc (.int .i64 0)],.sc (.int .i64 6)],H,nx)):=fun H nx=>by
  have:=qL (H:=H) (nx:=nx) (n:=n) hp hr
  rw [hfd] at this
  exact this
 refine JH Tryz.func45 rfl rfl ?_
 repeat first|apply bq hp;rfl;(focus((repeat(exact ac));done))|apply aj;rfl|apply aG;rfl;(focus((repeat(exact ac));done));rfl|apply bY;rfl;kernel_rfl;exact hfs _ _|apply ii;rfl;decide
 (apply bP Tryz.func45 Tryz.results45;rfl)
 exact⟨rfl,by dsimp only;omega,fun m hm=>by(repeat(refine ab (by omega) ?_));rfl⟩
theorem Da(hp:p.length=1024)(hr:bl p=true)(hn:n<ae p)(hs:ar p n≠0)(hrow:H.at' r=some (u8R false (byV it)))(hit:it.length=ar p n):Fnc Tryz.prog 61 [.agg (pgS p),.sc (.int .i64 (n:Int)),.slu r 0 it.length] H nx (fun q=>q=(pgE (bf p (ay p n) it,0),H,nx)):=by
 refine Fnc.bu (gL _) ?_
 have hb:=cQ hr hn hs
 have hbl:=bN it
 have hfd:cn p n=(ay p n,ar p n,0):=by unfold cn;rw [Jd (by omega),Jd hs]
 have hfs: ∀ (H:au) nx,Fnc Tryz.prog 90 [.agg (pgS p),.sc (.int .i64 (n:Int))] H nx (fun q=>q=(.tup [.agg [.sc (.int .i64 (ay p n:Int)),.sc (.int .i64 (ar p n:Int))],.sc (.int .i64 0)],H,nx)):=fun H nx=>by
  have:=qL (H:=H) (nx:=nx) (n:=n) hp hr
  rw [hfd] at this
  exact this
 refine JH Tryz.func61 rfl rfl ?_
 refine aW fun hund=>?_
 have lr:=hund _ _ hrow
 repeat first|apply bq hp;rfl;(focus((repeat(first|exact ac|refine ab (by omega) ?_));done))|refine aY rfl rfl ce ?_|apply aj;rfl|apply aG;rfl;(focus((repeat(exact ac));done));rfl|apply bY;rfl;kernel_rfl;exact hfs _ _|apply kM;rfl;omega|apply dH;rfl;omega|apply ii;rfl;omega
 refine bv (α:=Nat) (fun i=> [(2,.slu r 0 it.length),(3,.ptr nx 0),(6,.ptr (nx+1) 0),(8,.ptr (nx+1+1) 0),(10,.sc (.int .i64 (i:Int)))])
  (fun i H1 n1=>n1=nx+1+1+1∧i≤it.length∧H1.at' nx=some (pgO (bf p (ay p n) (it.take i)))∧H1.at' (nx+1)=some (pgO zeroP)∧H1.at' (nx+1+1)=some (sbO (ay p n) (ar p n))∧ ∀ m,m<nx→H1.at' m=H.at' m) (fun i=>it.length-i) 0
  ⟨rfl,HT _,by rw [show it.take 0= [] from rfl,show bf p (ay p n) []=p by simp [bf]];(focus((repeat(first|exact ac|refine ab (by omega) ?_));done)),by repeat(first|exact ac|refine ab (by omega) ?_),by repeat(exact ac),fun m hm=>by(repeat(refine ab (by omega) ?_));rfl⟩ (JN (JQ rfl)) ?_
 rintro i H1 n1 ⟨rfl,i1,i2,i3,i5,i4⟩ ih
 have hpi:(bf p (ay p n) (it.take i)).length=1024:=(bM (by rw [Jh];omega)).trans hp
 have hrow1:=(i4 r lr).trans hrow
 repeat apply aj;rfl
 refine bi rfl rfl rfl rfl (fun h5=>?_) (fun h5=>?_)
 ·have hi:i<it.length:=by omega
  have hcl:(u8R false (byV it)).cell (i*1)=some (.sc (.int .u8 ((it[i]).toNat:Int))):=by
   rw [Nat.mul_one]
   refine fW (by omega) ?_
   rw [Hx (by omega),qW]
  repeat apply aj;rfl
  (apply bg;(focus(kernel_rfl));(focus(kernel_rfl)))
  repeat first|refine bk (an (F.ag _ rfl) rfl hrow1 hcl) rfl rfl rfl ?_|refine bk (an (F.ag _ rfl) rfl i5 (aD rfl)) rfl rfl rfl ?_|refine aH (q:=i) rfl rfl rfl rfl (F.un _ rfl) (F.sz _ rfl) hrow1 rfl hi (by omega) ?_|apply jM (q:=ay p n+i);rfl;rfl;rfl;rfl;exact(F.un _ rfl);exact(F.sz _ rfl);(focus(omega));(focus(omega))|refine dQ (cs:=pgS (bf p (ay p n) (it.take i))) rfl rfl rfl (F.sz _ rfl) i2 rfl (HG (by rw [be hpi];omega)) ?_|apply aU;rfl|refine bk (aw rfl rfl (.inl ⟨rfl,(Hu _ ⟨(by focus(omega)),(by focus(omega))⟩).symm⟩)) rfl rfl rfl ?_
  refine aA ⟨by kernel_rfl,?_,?_⟩;(focus(repeat(first|exact JR|apply kp;rfl|apply gu;rfl;kernel_rfl|refine⟨.inr ⟨0,by kernel_rfl,AllH.all (fun _=>(by(exact aw rfl rfl (.inl ⟨rfl,(Hu _ ⟨by omega,by omega⟩).symm⟩)))) _⟩,?_⟩|refine fT 0 rfl (by kernel_rfl) (by(repeat(refine⟨(by first|exact an (F.ag _ rfl) rfl (by repeat(first|assumption|refine ab (by omega) ?_)) (aD rfl)|exact gW (q:=ay p n+i) rfl rfl (F.un _ rfl) (F.sz _ rfl) (by omega) (by omega)),?_⟩));exact JR) ?_|refine fT 1 rfl (by kernel_rfl) (by(repeat(refine⟨(by first|exact an (F.ag _ rfl) rfl hrow1 hcl|exact aN (F.un _ rfl) (F.sz _ rfl) rfl rfl hrow1 rfl hi (by omega)),?_⟩));exact JR) ?_)))
  dsimp only
  rw [show 0+(ay p n+i)*1=ay p n+i by omega,lG,qm (by omega) hi]
  repeat first|apply aj;rfl|apply aK;rfl;omega;omega
  exact ih _ _ _ (i+1) ⟨rfl,by omega,by repeat(exact ac),by repeat(first|assumption|refine ab (by omega) ?_),by(repeat(refine ab (by omega) ?_));exact i5,fun m hm=>by(repeat(refine ab (by omega) ?_));exact i4 m hm⟩ (by omega) (JN (JQ rfl))
 ·have hi:i=it.length:=by omega
  rw [hi,List.take_length] at i2
  rw [hi,List.take_length] at hpi
  generalize bf p (ay p n) it=pL at hpi i2 ⊢
  repeat first|apply bq hpi;rfl;assumption|apply bC hpi ai;rfl;assumption|apply aj;rfl
  ((apply bn Tryz.func61 (congrArg Array.toList Tryz.results61));(focus((apply JJ rfl (JL (F.ag _ rfl) (by repeat(exact ac)) (bm hpi)));(repeat(first|exact JI|apply JK rfl)))))
  exact⟨rfl,by dsimp only;omega,fun m hm=>by(repeat(refine ab (by omega) ?_));exact i4 m hm⟩
theorem Bt(hp:p.length=1024)(hr:bl p=true)(hn:n<ae p)(hs:ar p n≠0):Fnc Tryz.prog 62 [.agg (pgS p),.sc (.int .i64 (n:Int))] H nx (fun q=>q=(pgE (oQ (bK p n 0 0),0),H,nx)):=by
 refine Fnc.bu (gL _) ?_
 have hok:=(bw hp).1 hr
 have hh:=hok.head
 have ht:=hok.top
 have hfd:cn p n=(ay p n,ar p n,0):=by unfold cn;rw [Jd (by omega),Jd hs]
 have hfs: ∀ (H:au) nx,Fnc Tryz.prog 90 [.agg (pgS p),.sc (.int .i64 (n:Int))] H nx (fun q=>q=(.tup [.agg [.sc (.int .i64 (ay p n:Int)),.sc (.int .i64 (ar p n:Int))],.sc (.int .i64 0)],H,nx)):=fun H nx=>by
  have:=qL (H:=H) (nx:=nx) (n:=n) hp hr
  rw [hfd] at this
  exact this
 have hl1:(cm p (18+4*n) 0).length=1024:=(bE (by omega)).trans hp
 have hw1:=fun(H:au) nx=>gF (H:=H) (nx:=nx) (o:=18+4*n) (n:=0) hp (by omega) (by decide)
 have hw2:=fun(H:au) nx=>gF (H:=H) (nx:=nx) (o:=18+4*n+2) (n:=0) hl1 (by omega) (by decide)
 rw [show((18+4*n:Nat):Int)=18+4*(n:Int) by omega] at hw1
 rw [show((18+4*n+2:Nat):Int)=18+4*(n:Int)+2 by omega,show cm (cm p (18+4*n) 0) (18+4*n+2) 0=bK p n 0 0 from rfl] at hw2
 have hxl:(bK p n 0 0).length=1024:=(fw (by omega)).trans hp
 have hxs:ae (bK p n 0 0)=ae p:=cT (by omega) (by omega)
 have hx0: ∀ j,j<ae p→ar (bK p n 0 0) j=0→ay (bK p n 0 0) j=0:=fun j hj h=>by
  by_cases hjn:j=n
  ·subst hjn
   exact ki (by omega) (by decide)
  ·rw [show ay (bK p n 0 0) j=ay p j from cT (by omega) (by omega)]
   rw [show ar (bK p n 0 0) j=ar p j from cT (by omega) (by omega)] at h
   have:=hok.slot j hj
   omega
 generalize bK p n 0 0=x at hw2 hxl hxs hx0 ⊢
 refine JH Tryz.func62 rfl rfl ?_
 have hsl: ∀ {H:au} {nx:Nat},Fnc Tryz.prog 76 [.agg (pgS x),.sc (.int .i64 14)] H nx (fun q=>q=(.sc (.int .i64 (ae x:Int)),H,nx)):=fun {H nx}=>ou (o:=14) hxl (by decide)
 repeat first|apply bq hp;rfl;(focus((repeat(first|exact ac|refine ab (by omega) ?_));done))|apply bq hxl;rfl;(focus((repeat(exact ac));done))|apply bC hxl hp;rfl;(focus((repeat(first|exact ac|refine ab (by omega) ?_));done))|refine aY rfl rfl ce ?_|apply aj;rfl|apply aG;rfl;(focus((repeat(exact ac));done));rfl|apply aK;rfl;omega;omega|apply bY;rfl;kernel_rfl;exact hfs _ _|apply bY;rfl;kernel_rfl;exact hw1 _ _|apply bY;rfl;kernel_rfl;exact hw2 _ _|apply bY;rfl;kernel_rfl;exact hsl|apply dH;rfl;omega
 refine bv (α:=Nat) (fun m=> [(2,.ptr nx 0),(4,.ptr (nx+1) 0),(8,.sc (.int .i64 (m:Int)))])
  (fun m H1 n1=>n1=nx+1+1+1∧m≤ae x∧de x m=de x (ae x)∧H1.at' nx=some (pgO x)∧H1.at' (nx+1)=some (pgO zeroP)∧ ∀ m,m<nx→H1.at' m=H.at' m) (fun m=>m) (ae x)
  ⟨rfl,HS _,rfl,by repeat(exact ac),by repeat(first|exact ac|refine ab (by omega) ?_),fun m hm=>by(repeat(refine ab (by omega) ?_));rfl⟩ (JN (JQ rfl)) ?_
 rintro m H1 n1 ⟨rfl,i1,i2,i3,i4,i5⟩ ih
 have hs0:ae p<65536:=cI p 14
 cases m with
 | zero=>
   have hm:0=de x (ae x):=by rw [← i2];rfl
   repeat first|apply aj;rfl|apply kM;rfl;omega
   (have hv:oQ x=if 0=0 then cm (cm x 14 (0)) 16 1024 else cm x 14 (0):=(by unfold oQ;rw [← hm]);have hw3:=fun(H:au) nx=>gF (H:=H) (nx:=nx) (o:=14) (n:=0) hxl (by decide) (by omega);have hl3:(cm x 14 (0)).length=1024:=(bE (by omega)).trans hxl;have hw4:=fun(H:au) nx=>gF (H:=H) (nx:=nx) (o:=16) (n:=1024) hl3 (by decide) (by decide);have hl4:(cm (cm x 14 (0)) 16 1024).length=1024:=(bE (by omega)).trans hl3;rw [hv];generalize cm (cm x 14 (0)) 16 1024=x4 at hw4 hl4 ⊢;generalize cm x 14 (0)=x3 at hw3 hw4 hl3 ⊢;(repeat(first|apply bq hxl;rfl;assumption|apply bC hl3 hxl;rfl;assumption|apply aj;rfl|apply bY;rfl;kernel_rfl;exact hw3 _ _));refine cF rfl rfl rfl rfl (fun e1=>?_) (fun e1=>?_))
   ·((rw [Je (by omega)]);(repeat(first|apply bq hl4;rfl;(focus((repeat(exact ac));done))|apply bq hl3;rfl;(focus((repeat(exact ac));done))|apply bC hl4 hl3;rfl;(focus((repeat(first|exact ac|refine ab (by omega) ?_));done))|apply bC hl4 ai;rfl;(focus((repeat(first|assumption|refine ab (by omega) ?_));done))|apply aj;rfl|apply bY;rfl;kernel_rfl;exact hw4 _ _));((apply bn Tryz.func62 (congrArg Array.toList Tryz.results62));(focus((apply JJ rfl (JL (F.ag _ rfl) (by repeat(exact ac)) (bm hl4)));(repeat(first|exact JI|apply JK rfl)))));exact⟨rfl,(by dsimp only;omega),fun m hm=>by(repeat(refine ab (by omega) ?_));exact i5 m hm⟩)
   ·((rw [Jd (by omega)]);(repeat(first|apply bq hl3;rfl;(focus((repeat(exact ac));done))|apply bC hl3 ai;rfl;(focus((repeat(first|assumption|refine ab (by omega) ?_));done))|apply aj;rfl));((apply bn Tryz.func62 (congrArg Array.toList Tryz.results62));(focus((apply JJ rfl (JL (F.ag _ rfl) (by repeat(exact ac)) (bm hl3)));(repeat(first|exact JI|apply JK rfl)))));exact⟨rfl,(by dsimp only;omega),fun m hm=>by(repeat(refine ab (by omega) ?_));exact i5 m hm⟩)
 | succ k=>
   have hk:k<ae p:=by omega
   have hq1: ∀ {H:au} {nx:Nat},Fnc Tryz.prog 76 [.agg (pgS x),.sc (.int .i64 (18+4*((k+1:Nat):Int)-4))] H nx (fun q=>q=(.sc (.int .i64 (ay x k:Int)),H,nx)):=fun {H nx}=>by
    have:=ou (H:=H) (nx:=nx) (o:=18+4*k) hxl (by omega)
    rw [show((18+4*k:Nat):Int)=18+4*((k+1:Nat):Int)-4 by omega] at this
    exact this
   have hq2: ∀ {H:au} {nx:Nat},Fnc Tryz.prog 76 [.agg (pgS x),.sc (.int .i64 (18+4*((k+1:Nat):Int)-2))] H nx (fun q=>q=(.sc (.int .i64 (ar x k:Int)),H,nx)):=fun {H nx}=>by
    have:=ou (H:=H) (nx:=nx) (o:=18+4*k+2) hxl (by omega)
    rw [show((18+4*k+2:Nat):Int)=18+4*((k+1:Nat):Int)-2 by omega] at this
    exact this
   by_cases hz:ar x k=0
   ·have hf0:=hx0 k hk hz
    have htr:de x (k+1)=de x k:=by show(if _ then _ else _)=_;rw [Je hz]
    repeat first|apply bq hxl;rfl;assumption|apply aj;rfl|apply aK;rfl;omega;omega|apply bY;rfl;kernel_rfl;exact hq1|apply bY;rfl;kernel_rfl;exact hq2|apply o9;rfl;omega|apply dH;rfl;omega
    rw [show((k+1:Nat):Int)-1=((k:Nat):Int) by omega]
    exact ih _ _ _ k ⟨rfl,by omega,by rw [← htr];exact i2,i3,i4,i5⟩ (by omega) (JN (JQ rfl))
   ·have htr:de x (k+1)=k+1:=by show(if _ then _ else _)=_;rw [Jd hz]
    have hm:k+1=de x (ae x):=by rw [← i2,htr]
    by_cases hf:ay x k=0
    ·repeat first|apply bq hxl;rfl;assumption|apply aj;rfl|apply aK;rfl;omega;omega|apply bY;rfl;kernel_rfl;exact hq1|apply bY;rfl;kernel_rfl;exact hq2|apply o9;rfl;omega|apply dH;rfl;omega|apply ii;rfl;omega
     (have hv:oQ x=if k+1=0 then cm (cm x 14 (k+1)) 16 1024 else cm x 14 (k+1):=(by unfold oQ;rw [← hm]);have hw3:=fun(H:au) nx=>gF (H:=H) (nx:=nx) (o:=14) (n:=k+1) hxl (by decide) (by omega);have hl3:(cm x 14 (k+1)).length=1024:=(bE (by omega)).trans hxl;have hw4:=fun(H:au) nx=>gF (H:=H) (nx:=nx) (o:=16) (n:=1024) hl3 (by decide) (by decide);have hl4:(cm (cm x 14 (k+1)) 16 1024).length=1024:=(bE (by omega)).trans hl3;rw [hv];generalize cm (cm x 14 (k+1)) 16 1024=x4 at hw4 hl4 ⊢;generalize cm x 14 (k+1)=x3 at hw3 hw4 hl3 ⊢;(repeat(first|apply bC hl3 hxl;rfl;assumption|apply aj;rfl|apply bY;rfl;kernel_rfl;exact hw3 _ _));refine cF rfl rfl rfl rfl (fun e1=>?_) (fun e1=>?_))
     ·((rw [Je (by omega)]);(repeat(first|apply bq hl4;rfl;(focus((repeat(first|exact ac|refine ab (by omega) ?_));done))|apply bq hl3;rfl;(focus((repeat(exact ac));done))|apply bC hl4 hl3;rfl;(focus((repeat(first|exact ac|refine ab (by omega) ?_));done))|apply bC hl4 ai;rfl;(focus((repeat(first|assumption|refine ab (by omega) ?_));done))|apply aj;rfl|apply bY;rfl;kernel_rfl;exact hw4 _ _));((apply bn Tryz.func62 (congrArg Array.toList Tryz.results62));(focus((apply JJ rfl (JL (F.ag _ rfl) (by repeat(exact ac)) (bm hl4)));(repeat(first|exact JI|apply JK rfl)))));exact⟨rfl,(by dsimp only;omega),fun m hm=>by(repeat(refine ab (by omega) ?_));exact i5 m hm⟩)
     ·((rw [Jd (by omega)]);(repeat(first|apply bq hl3;rfl;(focus((repeat(exact ac));done))|apply bC hl3 ai;rfl;(focus((repeat(first|assumption|refine ab (by omega) ?_));done))|apply aj;rfl));((apply bn Tryz.func62 (congrArg Array.toList Tryz.results62));(focus((apply JJ rfl (JL (F.ag _ rfl) (by repeat(exact ac)) (bm hl3)));(repeat(first|exact JI|apply JK rfl)))));exact⟨rfl,(by dsimp only;omega),fun m hm=>by(repeat(refine ab (by omega) ?_));exact i5 m hm⟩)
    ·repeat first|apply bq hxl;rfl;assumption|apply aj;rfl|apply aK;rfl;omega;omega|apply bY;rfl;kernel_rfl;exact hq1|apply o9;rfl;omega|apply ii;rfl;omega
     (have hv:oQ x=if k+1=0 then cm (cm x 14 (k+1)) 16 1024 else cm x 14 (k+1):=(by unfold oQ;rw [← hm]);have hw3:=fun(H:au) nx=>gF (H:=H) (nx:=nx) (o:=14) (n:=k+1) hxl (by decide) (by omega);have hl3:(cm x 14 (k+1)).length=1024:=(bE (by omega)).trans hxl;have hw4:=fun(H:au) nx=>gF (H:=H) (nx:=nx) (o:=16) (n:=1024) hl3 (by decide) (by decide);have hl4:(cm (cm x 14 (k+1)) 16 1024).length=1024:=(bE (by omega)).trans hl3;rw [hv];generalize cm (cm x 14 (k+1)) 16 1024=x4 at hw4 hl4 ⊢;generalize cm x 14 (k+1)=x3 at hw3 hw4 hl3 ⊢;(repeat(first|apply bC hl3 hxl;rfl;assumption|apply aj;rfl|apply bY;rfl;kernel_rfl;exact hw3 _ _));refine cF rfl rfl rfl rfl (fun e1=>?_) (fun e1=>?_))
     ·((rw [Je (by omega)]);(repeat(first|apply bq hl4;rfl;(focus((repeat(first|exact ac|refine ab (by omega) ?_));done))|apply bq hl3;rfl;(focus((repeat(exact ac));done))|apply bC hl4 hl3;rfl;(focus((repeat(first|exact ac|refine ab (by omega) ?_));done))|apply bC hl4 ai;rfl;(focus((repeat(first|assumption|refine ab (by omega) ?_));done))|apply aj;rfl|apply bY;rfl;kernel_rfl;exact hw4 _ _));((apply bn Tryz.func62 (congrArg Array.toList Tryz.results62));(focus((apply JJ rfl (JL (F.ag _ rfl) (by repeat(exact ac)) (bm hl4)));(repeat(first|exact JI|apply JK rfl)))));exact⟨rfl,(by dsimp only;omega),fun m hm=>by(repeat(refine ab (by omega) ?_));exact i5 m hm⟩)
     ·((rw [Jd (by omega)]);(repeat(first|apply bq hl3;rfl;(focus((repeat(exact ac));done))|apply bC hl3 ai;rfl;(focus((repeat(first|assumption|refine ab (by omega) ?_));done))|apply aj;rfl));((apply bn Tryz.func62 (congrArg Array.toList Tryz.results62));(focus((apply JJ rfl (JL (F.ag _ rfl) (by repeat(exact ac)) (bm hl3)));(repeat(first|exact JI|apply JK rfl)))));exact⟨rfl,(by dsimp only;omega),fun m hm=>by(repeat(refine ab (by omega) ?_));exact i5 m hm⟩)
theorem wK{o b:Nat}(h:o+2≤p.length):cm (cm p o a) o b=cm p o b:=by
 have hl:=fun n=>bp n 2
 have h1:(bf p o (beB a 2)).length=p.length:=bM (by rw [hl];exact h)
 refine Jy fun i=>?_
 unfold cm
 rw [cG (by rw [h1,hl];exact h),cG (by rw [hl];exact h),cG (by rw [hl];exact h),hl,hl]
 split <;> rfl
theorem wQ(hp:p.length=1024)(h:18+4*ae p≤1024):bf p (18+4*ae p) (List.replicate (1024-(18+4*ae p)) 0)=cf p 0:=by
 have hz:=ai
 have hl:(p.take (18+4*ae p)).length=18+4*ae p:=by rw [Jh];omega
 refine Jy fun i=>?_
 show _=(bf zeroP 0 (p.take (18+4*ae p)))[i]?
 rw [cG (by rw [Jq];omega),cG (by omega),hl,Jq]
 by_cases h1:i<18+4*ae p
 ·rw [Jd (by omega),Je (by omega),Nat.sub_zero,List.getElem?_take,Je h1]
 ·rw [Jd (show ¬ (0≤i∧i<0+(18+4*ae p)) by omega)]
  by_cases h2:i<1024
  ·rw [Je (by omega),List.getElem?_replicate,Je (by omega)]
   unfold zeroP
   rw [List.getElem?_replicate,Je h2]
  ·rw [Jd (by omega),JB (by omega),JB (by omega)]
def lQ(p:List UInt8)(n:Nat):List UInt8:=cm (cf p n) 16 (1024-bZ p n)
theorem oq(h:Okp p)(hn:n≤ae p):(lQ p n).length=1024:=by
 have g:=(rZ h n hn).len
 exact(bE (by omega)).trans g
theorem ot(h:Okp p)(hn:n≤ae p):aE (lQ p n)=1024-bZ p n:=by
 have g:=(rZ h n hn).len
 exact eN (by omega) (by omega)
theorem wR(hz:ar p n=0):lQ p (n+1)=lQ p n:=by
 have h1:cf p (n+1)=cf p n:=by show(if _ then _ else _)=_;rw [Je hz]
 have h2:bZ p (n+1)=bZ p n:=by show bZ p n+ar p n=_;omega
 unfold lQ
 rw [h1,h2]
theorem yL(h:Okp p)(hn:n<ae p)(hz:ar p n≠0):Cj (lQ p n) n (aS p n)=lQ p (n+1):=by
 have hh:=h.head
 have ht:=h.top
 have hs1:=h.sum_le
 have hs2:=dB p (show n+1≤ae p from hn)
 have hs3:bZ p (n+1)=bZ p n+ar p n:=rfl
 have hsl:=h.slot n hn
 have hil:=dz h.len (p:=p) (j:=n) (by omega)
 have hb:=ot h (Nat.le_of_lt hn)
 have h1:cf p (n+1)=bK (bf (cf p n) (1024-bZ p (n+1)) (aS p n)) n (1024-bZ p (n+1)) (ar p n):=by show(if _ then _ else _)=_;rw [Jd hz]
 have gl:=(rZ h n (Nat.le_of_lt hn)).len
 have hl:=fun n=>bp n 2
 unfold Cj
 rw [hb,hil,show 1024-bZ p n-ar p n=1024-bZ p (n+1) by omega]
 unfold lQ
 rw [h1]
 generalize cf p n=q at gl
 generalize hA:1024-bZ p (n+1)=A at *
 have hA2:18+4*ae p≤A∧A+ar p n≤1024:=by omega
 have e1:bf (cm q 16 (1024-bZ p n)) A (aS p n)=cm (bf q A (aS p n)) 16 (1024-bZ p n):=eT (by rw [hl];omega) (by omega) (by rw [hl];omega)
 have l1:(bf q A (aS p n)).length=1024:=(bM (by omega)).trans gl
 rw [e1,wK (by omega)]
 generalize bf q A (aS p n)=x at l1
 have l2:(cm x (18+4*n) A).length=1024:=(bE (by omega)).trans l1
 have e2:cm (cm x 16 A) (18+4*n) A=cm (cm x (18+4*n) A) 16 A:=eT (by rw [hl];omega) (by rw [hl];omega) (by rw [hl];omega)
 rw [e2]
 show cm (cm _ 16 A) (18+4*n+2) _=cm (cm _ (18+4*n+2) _) 16 A
 exact eT (by rw [hl];omega) (by rw [hl];omega) (by rw [hl];omega)
theorem yM(p:List UInt8):lQ p (ae p)=ln p:=rfl
theorem xw(hp:p.length=1024)(ha:a≤i)(hi:i<1024):(bf p a ((List.replicate (1024-a) 0).take (i-a))).set i 0=bf p a ((List.replicate (1024-a) 0).take (i+1-a)):=by
 have h:=qm (p:=p) (it:=List.replicate (1024-a) 0) (a:=a) (i:=i-a) (by rw [Jq];omega) (by rw [Jq];omega)
 rw [List.getElem_replicate,show a+(i-a)=i by omega,show i-a+1=i+1-a by omega] at h
 exact h
theorem yK(hp:p.length=1024)(hr:bl p=true):Fnc Tryz.prog 48 [.agg (pgS p)] H nx (fun q=>q=(pgE (ln p,0),H,nx)):=by
 refine Fnc.bu (gL _) ?_
 have hok:=(bw hp).1 hr
 have hh:=hok.head
 have ht:=hok.top
 have hll:=eL p (ae p)
 refine JH Tryz.func48 rfl rfl ?_
 repeat first|apply bq hp;rfl;(focus((repeat(first|exact ac|refine ab (by omega) ?_));done))|refine aY rfl rfl ce ?_|apply aj;rfl
 refine aL rfl rfl rfl (by kernel_rfl) (JG (pG hp) ?_)
 rintro⟨_,H2,n2⟩ ⟨g1,g2,(⟨hr2,rfl⟩|⟨_,r,rfl,g3,g4,g5⟩)⟩
 ·rw [hr] at hr2;cases hr2
 dsimp only at g1 g2 g3 g4 g5 ⊢
 have hb:H2.at' nx=some (pgO p):=(g2 _ (by omega)).trans (by repeat(first|exact ac|refine ab (by omega) ?_))
 have hz:H2.at' (nx+1)=some (pgO zeroP):=(g2 _ (by omega)).trans (by repeat(exact ac))
 have ho: ∀ m,m<nx→H2.at' m=H.at' m:=fun m hm=>(g2 m (by omega)).trans (by(repeat(refine ab (by omega) ?_));rfl)
 clear g2
 repeat first|apply bq hp;rfl;assumption|apply bC hp ai;rfl;(focus((repeat(exact ac));done))|refine aY rfl rfl ce ?_|apply aj;rfl|apply aK;rfl;omega;omega
 refine bv (α:=Nat) (fun i=> [(1,.ptr nx 0),(2,.ptr (nx+1) 0),(4,.slu r 0 (eF p (ae p)).length),(6,.ptr n2 0),(7,.sc (.int .i64 (i:Int)))])
  (fun i H1 n1=>n1=n2+1∧18+4*ae p≤i∧i≤1024∧H1.at' n2=some (pgO (bf p (18+4*ae p) ((List.replicate (1024-(18+4*ae p)) 0).take (i-(18+4*ae p)))))∧H1.at' nx=some (pgO p)∧H1.at' (nx+1)=some (pgO zeroP)∧H1.at' r=some (slO (eF p (ae p)))∧ ∀ m,m<nx→H1.at' m=H.at' m) (fun i=>1024-i) (18+4*ae p)
  ⟨rfl,HS _,by omega,by rw [Nat.sub_self,List.take_zero,show bf p (18+4*ae p) []=p by simp [bf]];(focus((repeat(exact ac));done)),by repeat(first|assumption|refine ab (by omega) ?_),by repeat(first|assumption|refine ab (by omega) ?_),by repeat(first|assumption|refine ab (by omega) ?_),fun m hm=>by(repeat(refine ab (by omega) ?_));exact ho m hm⟩ (JN (by repeat(first|exact JR|refine⟨rfl,?_⟩|refine⟨fH (by(omega)),?_⟩))) ?_
 rintro i H1 n1 ⟨rfl,i1,i2,i3,i4,i5,i6,i7⟩ ih
 have hpi:(bf p (18+4*ae p) ((List.replicate (1024-(18+4*ae p)) 0).take (i-(18+4*ae p)))).length=1024:=(bM (by rw [Jh,Jq];omega)).trans hp
 repeat apply aj;rfl
 refine bi rfl rfl rfl rfl (fun h5=>?_) (fun h5=>?_)
 ·have hi:i<1024:=by omega
  have hset:(pgS (bf p (18+4*ae p) ((List.replicate (1024-(18+4*ae p)) 0).take (i-(18+4*ae p))))).set i (.sc (.int .u8 0))=pgS (bf p (18+4*ae p) ((List.replicate (1024-(18+4*ae p)) 0).take (i+1-(18+4*ae p)))):=by
   rw [← xw hp i1 hi]
   exact lG _ i 0
  repeat first|apply aj;rfl|apply eR (q:=i);rfl;rfl;rfl;rfl;exact(F.un _ rfl);exact(F.sz _ rfl);(focus(omega));(focus(omega))
  rw [show 0+i*1=i by omega]
  refine dg (cs:=pgS (bf p (18+4*ae p) ((List.replicate (1024-(18+4*ae p)) 0).take (i-(18+4*ae p))))) rfl rfl rfl (F.sz _ rfl) i3 rfl (HG (by rw [be hpi];omega)) ?_
  rw [hset]
  repeat first|apply aj;rfl|apply aK;rfl;omega;omega
  exact ih _ _ _ (i+1) ⟨rfl,by omega,by omega,by repeat(exact ac),by repeat(first|assumption|refine ab (by omega) ?_),by repeat(first|assumption|refine ab (by omega) ?_),by repeat(first|assumption|refine ab (by omega) ?_),fun m hm=>by(repeat(refine ab (by omega) ?_));exact i7 m hm⟩ (by omega) (JN (JQ rfl))
 ·have hi:i=1024:=by omega
  subst hi
  rw [HK (by rw [Jq];exact HS _),wQ hp (by omega)] at i3
  have hl0:=(rZ hok 0 (HT _)).len
  have hw:=fun(H:au) nx=>gF (H:=H) (nx:=nx) (o:=16) (n:=1024) hl0 (by decide) (by decide)
  rw [show cm (cf p 0) 16 1024=lQ p 0 from rfl] at hw
  have hl1:=oq hok (HT (ae p))
  generalize cf p 0=x0 at i3 hl0 hw
  repeat first|apply bq hl0;rfl;assumption|apply bC hl1 hl0;rfl;assumption|apply aj;rfl|apply bY;rfl;kernel_rfl;exact hw _ _
  clear hw hl1
  refine bv (α:=Nat) (fun j=> [(1,.ptr nx 0),(2,.ptr (nx+1) 0),(4,.slu r 0 (eF p (ae p)).length),(6,.ptr n2 0),(8,.sc (.int .i64 (j:Int)))])
   (fun j H3 n3=>n3=n2+1∧j≤ae p∧H3.at' n2=some (pgO (lQ p j))∧H3.at' nx=some (pgO p)∧H3.at' (nx+1)=some (pgO zeroP)∧H3.at' r=some (slO (eF p (ae p)))∧ ∀ m,m<nx→H3.at' m=H.at' m) (fun j=>ae p-j) 0
   ⟨rfl,HT _,by repeat(exact ac),by repeat(first|assumption|refine ab (by omega) ?_),by repeat(first|assumption|refine ab (by omega) ?_),by repeat(first|assumption|refine ab (by omega) ?_),fun m hm=>by(repeat(refine ab (by omega) ?_));exact i7 m hm⟩ (JN (JQ rfl)) ?_
  clear i3 i4 i5 i6 i7 ih
  rintro j H3 n3 ⟨rfl,j1,j2,j3,j4,j5,j6⟩ ih2
  have hlj:=oq hok j1
  repeat apply aj;rfl
  refine bi rfl rfl rfl rfl (fun h6=>?_) (fun h6=>?_)
  ·have hj:j<ae p:=by omega
   have hcS:=io p hj
   have hcF:=jr p hj
   have hg:ar p j<65536:=cI p _
   repeat first|refine dw (q:=j) rfl rfl rfl rfl (F.un _ rfl) (F.sz _ rfl) (by assumption) (by omega) (by(omega)) (HS _) ?_|refine cc (an (F.ag _ rfl) rfl j5 hcS) rfl rfl rfl ?_|apply aj;rfl
   by_cases hs:ar p j=0
   ·rw [← wR hs] at j2
    repeat first|apply kM;rfl;omega|apply aj;rfl|apply aK;rfl;omega;omega
    exact ih2 _ _ _ (j+1) ⟨rfl,hj,j2,j3,j4,j5,j6⟩ (by omega) (JN (JQ rfl))
   ·have hsl:=cQ hr hj hs
    have hil:=dz hp (j:=j) hsl.2.2.2
    have hs2:=dB p (show j+1≤ae p from hj)
    have hs3:bZ p (j+1)=bZ p j+ar p j:=rfl
    have hs1:=hok.sum_le
    have hbg:=ot hok j1
    have hlay: ∀ (H:au) nx',H.at' nx=some (pgO p)→Fnc Tryz.prog 94 [.agg (pgS (lQ p j)),.sc (.int .i64 (j:Int)),.sl nx (ay p j) (ar p j) (1024-ay p j)] H nx' (fun q=>q=(.agg (pgS (lQ p (j+1))),H,nx')):=fun H nx' h=>by
     have:=Ci (H:=H) (nx:=nx') (n:=j) (s:= .sl nx (ay p j) (ar p j) (1024-ay p j)) (it:=aS p j) hlj (mT (o:=ay p j) (m:=ar p j) h (by omega)) (by omega) (by omega) (by omega)
     rwa [yL hok hj hs] at this
    have hlj2:=oq hok (show j+1≤ae p from hj)
    generalize lQ p j=y at j2 hlj hlay
    repeat first|apply o9;rfl;omega|apply aj;rfl
    (apply bg;(focus(kernel_rfl));(focus(kernel_rfl)))
    repeat first|refine cg rfl rfl rfl (F.ag _ rfl) j2 (be hlj) ?_|refine aH (q:=j) rfl rfl rfl rfl (F.un _ rfl) (F.sz _ rfl) (by assumption) (by omega) (by(omega)) (HS _) ?_|refine bk (an (F.ag _ rfl) rfl j5 hcF) rfl rfl rfl ?_|refine bk (an (F.ag _ rfl) rfl j5 hcS) rfl rfl rfl ?_|apply bI;rfl;rfl;exact(fun _ h=>by cases h);exact(fQ (l:=ay p j) (h:=ay p j+ar p j) (F.un _ rfl) (F.sz _ rfl) rfl rfl rfl (by omega) (by omega) (by omega) (show ay p j+ar p j-ay p j=ar p j by omega) rfl (Jf _))|apply bW;rfl;rfl;rfl;(focus(kernel_rfl));exact(hlay _ _ j3)|refine bU rfl rfl rfl (F.sz _ rfl) j2 (be hlj2) (by rw [be hlj];exact HS _) (iv _) (kU _ _ hlj hlj2) ?_|apply aU;rfl|refine bk (aw rfl rfl (.inl ⟨rfl,(Hu _ ⟨(by focus(omega)),(by focus(omega))⟩).symm⟩)) rfl rfl rfl ?_
    refine aA ⟨by kernel_rfl,?_,?_⟩;(focus(repeat(first|exact JR|apply kp;rfl|apply gu;rfl;kernel_rfl|refine⟨.inr ⟨0,by kernel_rfl,AllH.all (fun _=>(by(exact aw rfl rfl (.inl ⟨rfl,(Hu _ ⟨by omega,by omega⟩).symm⟩)))) _⟩,?_⟩|refine fT 1 rfl (by kernel_rfl) (by(repeat(refine⟨(by first|exact aV (F.ag _ rfl) rfl (by exact j2) (bm hlj)|exact an (F.ag _ rfl) rfl j5 hcF|exact an (F.ag _ rfl) rfl j5 hcS|exact aN (F.un _ rfl) (F.sz _ rfl) rfl rfl j5 rfl (by omega) (HS _)),?_⟩));exact JR) ?_|apply mv;kernel_rfl)))
    repeat first|apply aj;rfl|apply aK;rfl;omega;omega
    exact ih2 _ _ _ (j+1) ⟨rfl,hj,by repeat(exact ac),by repeat(first|assumption|refine ab (by omega) ?_),by repeat(first|assumption|refine ab (by omega) ?_),by repeat(first|assumption|refine ab (by omega) ?_),fun m hm=>by(repeat(refine ab (by omega) ?_));exact j6 m hm⟩ (by omega) (JN (JQ rfl))
  ·have hj:j=ae p:=by omega
   subst hj
   rw [yM] at j2 hlj
   generalize ln p=y at j2 hlj ⊢
   repeat first|apply bq hlj;rfl;assumption|apply bC hlj ai;rfl;assumption|apply aj;rfl
   ((apply bn Tryz.func48 (congrArg Array.toList Tryz.results48));(focus((apply JJ rfl (JL (F.ag _ rfl) (by repeat(exact ac)) (bm hlj)));(repeat(first|exact JI|apply JK rfl)))))
   exact⟨rfl,by dsimp only;omega,fun m hm=>by(repeat(refine ab (by omega) ?_));exact j6 m hm⟩
end
end Go.Proofs.YtnhmbonmlfeifaaGreat
end
section
namespace Go.Sy
open Go Go.Sl Go.RowKit
section
variable {P:Program}
theorem Fnc.BO{f:FuncId}{args:List SV}{H:au}{nx:Nat}{v:SV}(hv: ∀ e:Env,(∀ n vo,H.at' n=some vo→ ∃ x,e n=some x)→ ∃ u,v.conc e=some u)(h:Fnc P f args H nx (fun q=>q.1=v∧nx≤q.2.2∧ ∀ n,n<nx→q.2.1.at' n=H.at' n)):Fnc P f args H nx (fun q=>q=(v,H,nx)):=by
 have key: ∀ {K:Zone} {w0 w:World} {e e':Env} {u:Value},St K w0 e H nx w→e.le e'→v.conc e'=some u→v.conc e=some u:=fun {K w0 w e e' u} hS hle hu=>by
  obtain⟨z,hz⟩:=hv e fun n vo hn=>by
   obtain⟨x,hx,_⟩:=hS.rel n vo hn
   exact⟨x,hx⟩
  have:=SV.dj hle v z hz
  rw [hu] at this
  rw [hz,←this]
 unfold Fnc jS at h ⊢
 rcases h with ⟨h1,u,r,h2,⟨q1,q2,q3⟩,h4⟩|h
 ·refine .inl ⟨h1,u,_,h2,rfl,fun K w0 e w hS=>?_⟩
  obtain⟨e',g1,g2,g3⟩:=h4 K w0 e w hS
  rw [q1] at g3
  exact⟨e,JO e,hS.drop g1 g2 q3,key hS g1 g3⟩
 ·refine .inr ?_
  split at h
  ·refine⟨fun K w0 e w tmps todo ds kd rof cs hS a2 a3 a4 a5=>?_⟩
   obtain⟨r,⟨q1,q2,q3⟩,e',w',u,g1,g2,g3,g4⟩:=Wp.run h K w0 e w tmps todo ds kd rof cs hS a2 a3 a4 a5
   rw [q1] at g3
   exact⟨_,rfl,e,w',u,JO e,hS.drop g1 g2 q3,key hS g1 g3,g4⟩
  ·exact h.elim
end
end Go.Sy
end
section
namespace Go.Proofs.YtnhmbonmlfeifaaGreat
open Go Go.Sy Go.Sl Go.RowKit
section
variable {H:au}{C i k n nx o r:Nat}{hm p x:List UInt8}{l:List (Int×Int)}{pf:Nat→List UInt8}
theorem zZ(hp:p.length=1024)(hi:i<12):(List.replicate i 0 ++ p.drop i).set i 0=List.replicate (i+1) 0 ++ p.drop (i+1):=by
 refine Jy fun j=>?_
 rw [List.getElem?_set]
 by_cases h1:i=j
 ·subst h1
  rw [Je rfl,Je (by simp;omega),HP (by rw [Jq];omega),List.getElem?_replicate,Je (by omega)]
 ·rw [Jd h1]
  by_cases h2:j<i
  ·rw [HP (by rw [Jq];omega),HP (by rw [Jq];omega),List.getElem?_replicate,List.getElem?_replicate,Je h2,Je (by omega)]
  ·rw [Jn (by rw [Jq];omega),Jn (by rw [Jq];omega),Jq,Jq,List.getElem?_drop,List.getElem?_drop]
   congr 1
   omega
theorem Hh(hp:p.length=1024):Fnc Tryz.prog 74 [.agg (pgS p)] H nx (fun q=>q=(.agg (pgS (bareP p)),H,nx)):=by
 refine Fnc.bu (Free.agg _) ?_
 refine JH Tryz.func74 rfl rfl ?_
 repeat first|refine aY rfl rfl ce ?_|apply aj;rfl
 refine bv (α:=Nat) (fun i=> [(1,.ptr nx 0),(2,.ptr (nx+1) 0),(3,.sc (.int .i64 (i:Int)))])
  (fun i H1 n1=>n1=nx+1+1∧i≤12∧H1.at' nx=some (pgO (List.replicate i 0 ++ p.drop i))∧H1.at' (nx+1)=some (pgO zeroP)∧ ∀ m,m<nx→H1.at' m=H.at' m) (fun i=>12-i) 0
  ⟨rfl,HT _,by rw [List.replicate_zero,List.nil_append,List.drop_zero];(focus((repeat(first|exact ac|refine ab (by omega) ?_));done)),by repeat(exact ac),fun m hm=>by(repeat(refine ab (by omega) ?_));rfl⟩ (JN (JQ rfl)) ?_
 rintro i H1 n1 ⟨rfl,i1,i2,i3,i4⟩ ih
 have hli:(List.replicate i 0 ++ p.drop i).length=1024:=by rw [HW,Jq,Jk];omega
 repeat apply aj;rfl
 refine bi rfl rfl rfl rfl (fun h5=>?_) (fun h5=>?_)
 ·have hi:i<12:=by omega
  have hset:(pgS (List.replicate i 0 ++ p.drop i)).set i (.sc (.int .u8 0))=pgS (List.replicate (i+1) 0 ++ p.drop (i+1)):=by
   rw [← zZ hp hi]
   exact lG _ i 0
  repeat first|apply aj;rfl|apply eR (q:=i);rfl;rfl;rfl;rfl;exact(F.un _ rfl);exact(F.sz _ rfl);(focus(omega));(focus(omega))
  rw [show 0+i*1=i by omega]
  refine dg (cs:=pgS (List.replicate i 0 ++ p.drop i)) rfl rfl rfl (F.sz _ rfl) i2 rfl (HG (by rw [be hli];omega)) ?_
  rw [hset]
  repeat first|apply aj;rfl|apply aK;rfl;omega;omega
  exact ih _ _ _ (i+1) ⟨rfl,by omega,by repeat(exact ac),by repeat(first|assumption|refine ab (by omega) ?_),fun m hm=>by(repeat(refine ab (by omega) ?_));exact i4 m hm⟩ (by omega) (JN (JQ rfl))
 ·have hi:i=12:=by omega
  subst hi
  have i2:H1.at' nx=some (pgO (bareP p)):=i2
  have hl:=dT hp
  generalize bareP p=x at i2 hl ⊢
  repeat first|apply bq hl;rfl;assumption|apply bC hl ai;rfl;assumption|apply aj;rfl
  ((apply bn Tryz.func74 (congrArg Array.toList Tryz.results74));(focus((apply JJ rfl (JL (F.ag _ rfl) (by repeat(exact ac)) (bm hl)));(repeat(exact JI)))))
  exact⟨rfl,by dsimp only;omega,fun m hm=>by(repeat(refine ab (by omega) ?_));exact i4 m hm⟩
theorem Eo{l:List UInt8}(h:BlkAt H r o l)(hi:i+n≤l.length):BlkAt H r (o+i) ((l.drop i).take n):=
 ((h.part (n:=i) (by omega)).2.part (n:=n) (by rw [Jk];omega)).1
def xP(r o C:Nat)(l:List UInt8):SV:=if l.length<20 then nV dy dy 0 0 else if l.length<20+beN ((l.drop 16).take 2) then nV dy dy 0 0 else
 nV (.sl r (o+18) (18+beN ((l.drop 16).take 2)-18) (C-18)) (.sl r (if C=20+beN ((l.drop 16).take 2) then o else o+(20+beN ((l.drop 16).take 2))) (l.length-(20+beN ((l.drop 16).take 2))) (C-(20+beN ((l.drop 16).take 2)))) (beN (l.take 8)) (beN ((l.drop 8).take 8))
theorem xN(r o C:Nat)(l:List UInt8):Hq (xP r o C l):=by
 unfold xP
 split
 ·exact⟨_,_,_,_,rfl,rfl,rfl⟩
 ·split
  ·exact⟨_,_,_,_,rfl,rfl,rfl⟩
  ·exact⟨_,_,_,_,rfl,rfl,rfl⟩
theorem xO{l:List UInt8}(hB:BlkAt H r o l)(e:Env)(he: ∀ n vo,H.at' n=some vo→ ∃ x,e n=some x)(b:Bool): ∃ u,(SV.tup [xP r o C l,.sc (.bool b)]).conc e=some u:=by
 obtain⟨vo,h,_⟩:=hB
 obtain⟨x,hx⟩:=he r vo h
 unfold xP
 split
 ·exact⟨_,rfl⟩
 ·split
  ·exact⟨_,rfl⟩
  ·simp [SV.conc,SV.aJ,hx]
theorem C1{l:List UInt8}{v:fY}(hB:BlkAt H r o l)(hC:l.length≤C)(h:ofR l=some v):VerAt H (xP r o C l) r v:=by
 unfold ofR at h
 split at h
 ·cases h
 ·rename_i h1
  split at h
  ·cases h
  ·rename_i h2
   split at h
   ·have h:=(Option.some.inj h).symm
    subst h
    have hver:nl l=((l.drop 18).take (beN ((l.drop 16).take 2)),l.drop (20+beN ((l.drop 16).take 2)),beN (l.take 8),beN ((l.drop 8).take 8)):=rfl
    unfold xP
    rw [Jd h1,Jd h2,hver]
    generalize beN ((l.drop 16).take 2)=kk at h2 ⊢
    have lk:((l.drop 18).take kk).length=kk:=by rw [Jh,Jk];omega
    have lv:(l.drop (20+kk)).length=l.length-(20+kk):=Jk
    refine⟨_,_,rfl,.inr ⟨o+18,C-18,?_,Eo hB (by omega)⟩,.inr ⟨_,C-(20+kk),by rw [lv],?_⟩⟩
    ·rw [lk,Nat.add_sub_cancel_left]
    ·by_cases hc:C=20+kk
     ·have:l.drop (20+kk)= []:=List.drop_of_length_le (by omega)
      rw [this]
      obtain⟨vo,hvo,_⟩:=hB
      exact BlkAt.none _ hvo _
     ·rw [Jd hc]
      exact(hB.part (n:=20+kk) (by omega)).2
   ·cases h
theorem GL{l:List UInt8}(hB:BlkAt H r o l)(hC:l.length≤C)(hl:l.length≤100000):Fnc Tryz.prog 36 [.sl r o l.length C] H nx (fun q=>q=(.tup [xP r o C l,.sc (.bool (ofR l).isSome)],H,nx)):=by
 refine Fnc.BO (fun e he=>xO hB e he _) ?_
 refine JH Tryz.func36 rfl rfl ?_
 refine aW fun hund=>?_
 obtain⟨vo0,hr,_⟩:=id hB
 have lr:=hund _ _ hr
 repeat first|apply aj;rfl|refine cc (gj (F.un _ rfl) rfl) rfl rfl rfl ?_
 refine bi rfl rfl rfl rfl (fun h1=>?_) (fun h1=>?_)
 ·have hv:ofR l=none:=by unfold ofR;rw [Je (by omega)]
  repeat first|apply aj;rfl|apply aG;rfl;(focus((repeat(exact ac));done));rfl
  ((apply bn Tryz.func36 (congrArg Array.toList Tryz.results36));(focus(repeat(first|exact JI|apply JK rfl|apply JJ rfl (JL (F.ag _ rfl) (by repeat(exact ac)) (am _ 0 rfl rfl))))))
  rw [hv,show xP r o C l=nV dy dy 0 0 from Je (by omega)]
  exact⟨rfl,by dsimp only;omega,fun m hm=>(aa _ _ (by omega)).trans (aa _ _ (by omega))⟩
 ·have h20:20≤l.length:=by omega
  have hB1: ∀ H':au,H'.at' r=H.at' r→BlkAt H' r o l:=fun H' h=>hB.frame h
  have hk16:((l.drop 16).take 2).length=2:=by rw [Jh,Jk];omega
  have hklt:=ml ((l.drop 16).take 2)
  rw [hk16] at hklt
  repeat apply aj;rfl
  (apply xL (lw:=16) (hg:=18);rfl;rfl;rfl;exact(F.un _ rfl);exact(F.sz _ rfl);exact(ic rfl rfl);exact(ic rfl rfl);(focus(omega));(focus(omega));exact(Jd (by omega)))
  refine aL rfl rfl rfl (by kernel_rfl) (JG (ng (s:= .sl r (o+16) (18-16) (C-16)) (bs:=(l.drop 16).take 2) (by have:=(Eo (hB1 _ (aa _ _ (by omega):(H.set nx (fm (ew dy dy 0 0))).at' r=H.at' r)) (i:=16) (n:=2) (by omega)).bs (C:=C-16);rwa [hk16] at this) (by omega)) ?_)
  rintro _ rfl
  dsimp only
  have hof:ofR l=(if l.length<20+beN ((l.drop 16).take 2) then none else if iS (nl l)=true∧beN ((l.drop (18+beN ((l.drop 16).take 2))).take 2)=(l.drop (20+beN ((l.drop 16).take 2))).length then some (nl l) else none):=by unfold ofR;rw [Jd (by omega)]
  have hver:nl l=((l.drop 18).take (beN ((l.drop 16).take 2)),l.drop (20+beN ((l.drop 16).take 2)),beN (l.take 8),beN ((l.drop 8).take 8)):=rfl
  have hvb:xP r o C l=(if l.length<20+beN ((l.drop 16).take 2) then nV dy dy 0 0 else nV (.sl r (o+18) (18+beN ((l.drop 16).take 2)-18) (C-18)) (.sl r (if C=20+beN ((l.drop 16).take 2) then o else o+(20+beN ((l.drop 16).take 2))) (l.length-(20+beN ((l.drop 16).take 2))) (C-(20+beN ((l.drop 16).take 2)))) (beN (l.take 8)) (beN ((l.drop 8).take 8))):=Jd (by omega)
  generalize beN ((l.drop 16).take 2)=kk at hklt hof hver hvb ⊢
  repeat first|apply aj;rfl|apply aK;rfl;omega;omega|refine cc (bR (F.un _ rfl) (F.un _ rfl) rfl (show _=((kk:Nat):Int)from Hu _ ⟨by omega,by omega⟩)) rfl rfl rfl ?_|refine cc (gj (F.un _ rfl) rfl) rfl rfl rfl ?_
  refine bi rfl rfl rfl rfl (fun h2=>?_) (fun h2=>?_)
  ·have hv:ofR l=none:=by rw [hof,Je (by omega)]
   repeat first|apply aj;rfl|apply aG;rfl;(focus((repeat(exact ac));done));rfl
   ((apply bn Tryz.func36 (congrArg Array.toList Tryz.results36));(focus(repeat(first|exact JI|apply JK rfl|apply JJ rfl (JL (F.ag _ rfl) (by repeat(exact ac)) (am _ 0 rfl rfl))))))
   rw [hv,hvb,Je (by omega)]
   exact⟨rfl,by dsimp only;omega,fun m hm=>(aa _ _ (by omega)).trans (aa _ _ (by omega))⟩
  ·have hv:=hof
   rw [Jd (by omega)] at hv
   have h2n: ¬ l.length<20+kk:=by omega
   rw [Jd h2n] at hvb
   clear hof
   have l8:(l.take 8).length=8:=by rw [Jh];omega
   have l16:((l.drop 8).take 8).length=8:=by rw [Jh,Jk];omega
   have g8: ∀ (H':au) (nx':Nat),H'.at' r=H.at' r→Fnc Tryz.prog 78 [.sl r (o+0) (8-0) (C-0)] H' nx' (fun q=>q=(.sc (.int .u64 (beN (l.take 8):Int)),H',nx')):=fun H' nx' h=>ng (by
    have:=(Eo (hB1 H' h) (i:=0) (n:=8) (by omega)).bs (C:=C-0)
    rwa [List.drop_zero,l8] at this) (by omega)
   have g16: ∀ (H':au) (nx':Nat),H'.at' r=H.at' r→Fnc Tryz.prog 78 [.sl r (o+8) (16-8) (C-8)] H' nx' (fun q=>q=(.sc (.int .u64 (beN ((l.drop 8).take 8):Int)),H',nx')):=fun H' nx' h=>ng (by
    have:=(Eo (hB1 H' h) (i:=8) (n:=8) (by omega)).bs (C:=C-8)
    rwa [l16] at this) (by omega)
   have lk:((l.drop 18).take kk).length=kk:=by rw [Jh,Jk];omega
   have lv:(l.drop (20+kk)).length=l.length-(20+kk):=Jk
   have hK: ∀ H':au,H'.at' r=H.at' r→BlkS H' (.sl r (o+18) (18+kk-18) (C-18)) r (nl l).1:=fun H' h=>by
    rw [hver]
    refine .inr ⟨o+18,C-18,?_,Eo (hB1 H' h) (by omega)⟩
    rw [lk,Nat.add_sub_cancel_left]
   have hV: ∀ H':au,H'.at' r=H.at' r→BlkS H' (.sl r (if C=20+kk then o else o+(20+kk)) (l.length-(20+kk)) (C-(20+kk))) r (nl l).2.1:=fun H' h=>by
    rw [hver]
    refine .inr ⟨if C=20+kk then o else o+(20+kk),C-(20+kk),by rw [lv],?_⟩
    by_cases hc:C=20+kk
    ·have:l.drop (20+kk)= []:=List.drop_of_length_le (by omega)
     rw [this]
     exact BlkAt.none _ (h.trans hr) _
    ·rw [Jd hc]
     exact((hB1 H' h).part (n:=20+kk) (by omega)).2
   repeat apply aj;rfl
   (apply ge;(focus(kernel_rfl));(focus(kernel_rfl)))
   refine dR 2 (Hz rfl) ?_
   repeat first|apply aU;rfl|apply bI;rfl;rfl;exact(fun _ h=>by cases h);exact(cR (l:=0) (h:=8) (F.un _ rfl) (F.sz _ rfl) rfl jU (ic rfl rfl) (by omega) (by omega) (Jd (by omega)))
   refine aA ?_;refine dS rfl rfl rfl (by kernel_rfl) (g8 _ _ (by(repeat(refine ab (by omega) ?_));rfl)) ?_
   refine dR 2 (Hz rfl) ?_
   repeat first|apply aU;rfl|apply bI;rfl;rfl;exact(fun _ h=>by cases h);exact(cR (l:=8) (h:=16) (F.un _ rfl) (F.sz _ rfl) rfl (ic rfl rfl) (ic rfl rfl) (by omega) (by omega) (Jd (by omega)))
   refine aA ?_;refine dS rfl rfl rfl (by kernel_rfl) (g16 _ _ (by(repeat(refine ab (by omega) ?_));rfl)) ?_
   refine jf ?_
   repeat first|apply aU;rfl|refine pt (e9 (F.zl _ rfl)) rfl rfl rfl ?_|refine bk (aw rfl rfl (.inl ⟨rfl,(Hu _ ⟨(by focus(omega)),(by focus(omega))⟩).symm⟩)) rfl rfl rfl ?_|refine qO (cW (F.sz _ rfl) rfl rfl rfl (by repeat(exact ac)) (by rfl) (by exact Hz rfl) (by rfl)) rfl rfl ?_|apply bI;rfl;rfl;exact(fun _ h=>by cases h);exact(cR (l:=18) (h:=18+kk) (F.un _ rfl) (F.sz _ rfl) rfl (ic rfl rfl) (ic rfl (by omega)) (by omega) (by omega) (Jd (by omega)))|apply bI;rfl;rfl;exact(fun _ h=>by cases h);exact(cR (l:=20+kk) (h:=l.length) (F.un _ rfl) (F.sz _ rfl) rfl (ic rfl (by omega)) jU (by omega) (by omega) rfl)
   refine aA ⟨by kernel_rfl,?_,?_⟩;(focus(repeat(first|exact JR|refine⟨.inl rfl,?_⟩|refine⟨.inr (.inl (by(repeat(refine⟨(by first|exact mA rfl|exact aw rfl rfl (.inl ⟨rfl,(Hu _ ⟨by omega,by omega⟩).symm⟩)|exact cR (l:=0) (h:=8) (F.un _ rfl) (F.sz _ rfl) rfl jU (ic rfl rfl) (by omega) (by omega) (Jd (by omega))|exact cR (l:=8) (h:=16) (F.un _ rfl) (F.sz _ rfl) rfl (ic rfl rfl) (ic rfl rfl) (by omega) (by omega) (Jd (by omega))|exact cR (l:=18) (h:=18+kk) (F.un _ rfl) (F.sz _ rfl) rfl (ic rfl rfl) (ic rfl (by omega)) (by omega) (by omega) (Jd (by omega))|exact cR (l:=20+kk) (h:=l.length) (F.un _ rfl) (F.sz _ rfl) rfl (ic rfl (by omega)) jU (by omega) (by omega) rfl),?_⟩));exact JR)),?_⟩|refine⟨.inr (.inr (by(repeat(refine⟨(by exact dZ rfl (by kernel_rfl) (by first|exact g8 _ _ (by(repeat(refine ab (by omega) ?_));rfl)|exact g16 _ _ (by(repeat(refine ab (by omega) ?_));rfl))),?_⟩));exact JR)),?_⟩)))
   obtain⟨kS,hkS⟩: ∃ kS,kS=SV.sl r (o+18) (18+kk-18) (C-18):=⟨_,rfl⟩
   refine cL (R:=fun H7 n7=>n7=nx+1+1∧H7.at' (nx+1)=some (fm (ew (.sl r (o+18) (18+kk-18) (C-18)) (.sl r (if C=20+kk then o else o+(20+kk)) (l.length-(20+kk)) (C-(20+kk))) (beN (l.take 8)) (beN ((l.drop 8).take 8))))∧H7.at' nx=some (fm (ew dy dy 0 0))∧ ∀ m,m<nx→H7.at' m=H.at' m) ⟨rfl,by repeat(exact ac),by repeat(first|exact ac|refine ab (by omega) ?_),fun m hm=>by(repeat(refine ab (by omega) ?_));rfl⟩ ?_
   rintro H7 n7 ⟨rfl,b5,b2,bo⟩
   clear kS hkS g8 g16 l8 l16 hk16
   have br:H7.at' r=H.at' r:=bo r lr
   have hat: ∀ H':au,H'.at' r=H7.at' r→VerAt H' (nV (.sl r (o+18) (18+kk-18) (C-18)) (.sl r (if C=20+kk then o else o+(20+kk)) (l.length-(20+kk)) (C-(20+kk))) (beN (l.take 8)) (beN ((l.drop 8).take 8))) r (nl l):=fun H' h=>⟨_,_,by rw [hver],hK H' (h.trans br),hV H' (h.trans br)⟩
   have cM: ∀ (H':au) (nx':Nat),H'.at' r=H7.at' r→Fnc Tryz.prog 18 [nV (.sl r (o+18) (18+kk-18) (C-18)) (.sl r (if C=20+kk then o else o+(20+kk)) (l.length-(20+kk)) (C-(20+kk))) (beN (l.take 8)) (beN ((l.drop 8).take 8))] H' nx' (fun q=>q=(.sc (.bool (iS (nl l))),H',nx')):=fun H' nx' h=>zd (hat H' h).is
   have l2:((l.drop (18+kk)).take 2).length=2:=by rw [Jh,Jk];omega
   have g2: ∀ (H':au) (nx':Nat),H'.at' r=H7.at' r→Fnc Tryz.prog 78 [.sl r (o+(18+kk)) (20+kk-(18+kk)) (C-(18+kk))] H' nx' (fun q=>q=(.sc (.int .u64 (beN ((l.drop (18+kk)).take 2):Int)),H',nx')):=fun H' nx' h=>ng (by
    have:=(Eo (hB1 H' (h.trans br)) (i:=18+kk) (n:=2) (by omega)).bs (C:=C-(18+kk))
    rw [show 20+kk-(18+kk)=2 by omega]
    rwa [l2] at this) (by omega)
   have hn2:=ml ((l.drop (18+kk)).take 2)
   rw [l2] at hn2
   generalize beN ((l.drop (18+kk)).take 2)=n2 at hn2 hv g2
   repeat apply aj;rfl
   cases hm:iS (nl l)with
   | false=>
     rw [hm] at cM
     have hno:ofR l=none:=by rw [hv,Jd (fun h=>by rw [hm] at h;cases h.1)]
     (apply ge;(focus(kernel_rfl));(focus(kernel_rfl)))
     refine dR 2 (Hz rfl) ?_
     repeat apply dA;rfl;assumption;rfl
     refine aA ?_;(apply dS;rfl;rfl;rfl;(focus(kernel_rfl));exact(cM _ _ rfl))
     refine jf ?_
     repeat first|apply aU;rfl|apply cp;rfl;rfl|refine qO (cW (F.sz _ rfl) rfl rfl rfl (by assumption) (by rfl) (by exact Hz rfl) (by rfl)) rfl rfl ?_
     refine aA ⟨by kernel_rfl,?_,?_⟩;(focus(repeat(first|exact JR|refine⟨.inl rfl,?_⟩|refine⟨.inr (.inl (by(repeat(refine⟨(by first|exact mA rfl|exact aV (F.ag _ rfl) rfl (by repeat(first|assumption|refine ab (by omega) ?_)) (am _ 0 rfl rfl)),?_⟩));exact JR)),?_⟩|refine⟨.inr (.inr (by(repeat(refine⟨(by exact dZ rfl (by kernel_rfl) (by(exact cM _ _ (by(repeat(refine ab (by omega) ?_));rfl)))),?_⟩));exact JR)),?_⟩)))
     ((apply bn Tryz.func36 (congrArg Array.toList Tryz.results36));(focus(repeat(first|exact JI|apply JK rfl|apply JJ rfl (JL (F.ag _ rfl) (by repeat(exact ac)) (am _ 0 rfl rfl))))))
     rw [hno,hvb]
     exact⟨rfl,by dsimp only;omega,fun m hm=>by(repeat(refine ab (by omega) ?_));exact bo m hm⟩
   | true=>
     rw [hm] at cM
     (apply ge;(focus(kernel_rfl));(focus(kernel_rfl)))
     refine dR 2 (Hz rfl) ?_
     repeat apply dA;rfl;assumption;rfl
     refine aA ?_;(apply dS;rfl;rfl;rfl;(focus(kernel_rfl));exact(cM _ _ rfl))
     refine dR 7 (Hz rfl) ?_
     repeat first|apply aU;rfl|refine bk (aw rfl rfl (.inl ⟨rfl,(Hu _ ⟨(by focus(omega)),(by focus(omega))⟩).symm⟩)) rfl rfl rfl ?_|apply bI;rfl;rfl;exact(fun _ h=>by cases h);exact(cR (l:=18+kk) (h:=20+kk) (F.un _ rfl) (F.sz _ rfl) rfl (ic rfl (by omega)) (ic rfl (by omega)) (by omega) (by omega) (Jd (by omega)))
     refine aA ?_;(apply dS;rfl;rfl;rfl;(focus(kernel_rfl));exact(g2 _ _ rfl))
     refine jf ?_
     repeat first|apply aU;rfl|apply dA;rfl;assumption;rfl|refine bk (bR (F.un _ rfl) (F.un _ rfl) rfl (show _=((n2:Nat):Int)from Hu _ ⟨by omega,by omega⟩)) rfl rfl rfl ?_|apply bI;rfl;rfl;exact(fun _ h=>by cases h);exact(gj (F.un _ rfl) rfl)
     refine ly rfl rfl rfl rfl (fun e=>?_) (fun e=>?_)
     ·have hyes:ofR l=some (nl l):=by rw [hv,Je ⟨hm,by omega⟩]
      repeat first|apply aU;rfl|refine qO (cW (F.sz _ rfl) rfl rfl rfl (by assumption) (by rfl) (by exact Hz rfl) (by rfl)) rfl rfl ?_
      refine aA ⟨by kernel_rfl,?_,?_⟩;(focus(repeat(first|exact JR|refine⟨.inl rfl,?_⟩|refine⟨.inr (.inl (by(repeat(refine⟨(by first|exact mA rfl|exact aw rfl rfl (.inl ⟨rfl,(Hu _ ⟨by omega,by omega⟩).symm⟩)|exact an (F.ag _ rfl) rfl (by repeat(first|assumption|refine ab (by omega) ?_)) (aD rfl)|exact aV (F.ag _ rfl) rfl (by repeat(first|assumption|refine ab (by omega) ?_)) (am _ 0 rfl rfl)|exact cR (l:=18+kk) (h:=20+kk) (F.un _ rfl) (F.sz _ rfl) rfl (ic rfl (by omega)) (ic rfl (by omega)) (by omega) (by omega) (Jd (by omega))|exact gj (F.un _ rfl) rfl|exact bR (F.un _ rfl) (F.un _ rfl) rfl (show _=((n2:Nat):Int)from Hu _ ⟨by omega,by omega⟩)|exact di rfl rfl (.inl ⟨rfl,(Jw (by omega)).symm⟩)),?_⟩));exact JR)),?_⟩|refine⟨.inr (.inr (by(repeat(refine⟨(by exact dZ rfl (by kernel_rfl) (by first|exact cM _ _ (by(repeat(refine ab (by omega) ?_));rfl)|exact g2 _ _ (by(repeat(refine ab (by omega) ?_));rfl))),?_⟩));exact JR)),?_⟩)))
      ((apply bn Tryz.func36 (congrArg Array.toList Tryz.results36));(focus(repeat(first|exact JI|apply JK rfl|apply JJ rfl (JL (F.ag _ rfl) (by repeat(exact ac)) (am _ 0 rfl rfl))))))
      rw [hyes,hvb]
      exact⟨rfl,by dsimp only;omega,fun m hm=>by(repeat(refine ab (by omega) ?_));exact bo m hm⟩
     ·have hno:ofR l=none:=by rw [hv,Jd (fun h=>by have:=h.2;omega)]
      repeat first|apply aU;rfl|refine qO (cW (F.sz _ rfl) rfl rfl rfl (by assumption) (by rfl) (by exact Hz rfl) (by rfl)) rfl rfl ?_
      refine aA ⟨by kernel_rfl,?_,?_⟩;(focus(repeat(first|exact JR|refine⟨.inl rfl,?_⟩|refine⟨.inr (.inl (by(repeat(refine⟨(by first|exact mA rfl|exact aw rfl rfl (.inl ⟨rfl,(Hu _ ⟨by omega,by omega⟩).symm⟩)|exact an (F.ag _ rfl) rfl (by repeat(first|assumption|refine ab (by omega) ?_)) (aD rfl)|exact aV (F.ag _ rfl) rfl (by repeat(first|assumption|refine ab (by omega) ?_)) (am _ 0 rfl rfl)|exact cR (l:=18+kk) (h:=20+kk) (F.un _ rfl) (F.sz _ rfl) rfl (ic rfl (by omega)) (ic rfl (by omega)) (by omega) (by omega) (Jd (by omega))|exact gj (F.un _ rfl) rfl|exact bR (F.un _ rfl) (F.un _ rfl) rfl (show _=((n2:Nat):Int)from Hu _ ⟨by omega,by omega⟩)|exact di rfl rfl (.inl ⟨rfl,(Jx (by omega)).symm⟩)),?_⟩));exact JR)),?_⟩|refine⟨.inr (.inr (by(repeat(refine⟨(by exact dZ rfl (by kernel_rfl) (by first|exact cM _ _ (by(repeat(refine ab (by omega) ?_));rfl)|exact g2 _ _ (by(repeat(refine ab (by omega) ?_));rfl))),?_⟩));exact JR)),?_⟩)))
      ((apply bn Tryz.func36 (congrArg Array.toList Tryz.results36));(focus(repeat(first|exact JI|apply JK rfl|apply JJ rfl (JL (F.ag _ rfl) (by repeat(exact ac)) (am _ 0 rfl rfl))))))
      rw [hno,hvb]
      exact⟨rfl,by dsimp only;omega,fun m hm=>by(repeat(refine ab (by omega) ?_));exact bo m hm⟩
theorem BF(hi:i<12):(bareP p)[i]? =some 0:=by
 unfold bareP
 rw [HP (by rw [Jq];exact hi),List.getElem?_replicate,Je hi]
theorem z4(p:List UInt8)(hp:p.length=1024):bareP (bareP p)=bareP p:=mU (dT hp) fun i hi=>BF hi
abbrev hpO(hm:List UInt8):VO:=aq 33 ((byV hm).map .sc)
theorem gp(hl:hm.length=98304)(hn:n<96):(az hm n).length=1024:=by
 unfold az
 rw [Jh,Jk]
 omega
theorem vL(hl:hm.length=98304)(hn:n<96):(hpO hm).cellsFrom (0+n*1024) 1024=some (pgS (az hm n)):=by
 refine am _ _ ?_ (by rw [be (gp hl hn)])
 unfold az
 rw [Jf,Nat.mul_comm]
 simp [List.map_take,List.map_drop]
def rP(p:List UInt8):List UInt8×Bool:=if(aX (bareP p)).2=0 then((aX (bareP p)).1,true) else(bareP p,false)
theorem rO(hp:p.length=1024):(rP p).1.length=1024:=by
 unfold rP
 split
 ·rename_i h
  exact(cN (p:=bareP p) (q:=(aX (bareP p)).1) (Prod.ext rfl h) (dT hp)).1
 ·exact dT hp
abbrev AQ(r:List UInt8×Bool):SV:= .tup [.agg (pgS r.1),.sc (.bool r.2)]
theorem kP_at(hp:p.length=1024):kP p=(p[12]'(by omega)).toNat:=by
 unfold kP
 rw [HN,Hx (by omega)]
 rfl
theorem lN{hb:Nat}(hH:H.at' hb=some (hpO hm))(hl:hm.length=98304)(hn:n<96):Fnc Tryz.prog 34 [.ptr hb 0,.sc (.int .i64 (n:Int))] H nx (fun q=>q=(AQ (rP (az hm n)),H,nx)):=by
 refine Fnc.bu (Free.two (Free.agg _) (Free.sc _)) ?_
 have hpl:=gp hl hn
 have hbl:=dT hpl
 have hbb:=z4 _ hpl
 refine JH Tryz.func34 rfl rfl ?_
 refine aW fun hund=>?_
 have lH:=hund _ _ hH
 have hv0:rP (az hm n)=if(aX (bareP (az hm n))).2=0 then((aX (bareP (az hm n))).1,true) else(bareP (az hm n),false):=rfl
 repeat first|refine aY rfl rfl ce ?_|apply aj;rfl|apply eR (q:=n);rfl;rfl;rfl;rfl;exact(F.un _ rfl);exact(F.sz _ rfl);(focus(omega));(focus(omega))
 refine dG rfl rfl rfl (F.ag _ rfl) (by(repeat(refine ab (by omega) ?_));exact hH) (vL hl hn) ?_
 have hbs:=fun(H:au) nx=>Hh (H:=H) (nx:=nx) hpl
 rw [hv0]
 clear hv0
 generalize bareP (az hm n)=p at hbl hbb hbs ⊢
 repeat first|apply bC hbl ai;rfl;(focus((repeat(exact ac));done))|refine aY rfl rfl ce ?_|apply aj;rfl|apply aG;rfl;(focus((repeat(first|exact ac|refine ab (by omega) ?_));done));rfl|apply bY;rfl;kernel_rfl;exact hbs _ _|apply bq hbl;rfl;(focus((repeat(first|exact ac|refine ab (by omega) ?_));done))
 cases hz:decide (p=zeroP)with
 | true=>
   have hrd:aX p=(fy 4,0):=by unfold aX;rw [Je (by unfold gU;rw [hbb];exact hz)]
   have hil:(fy 4).length=1024:=fL 4
   have hi:=fun(H:au) nx=>DM (H:=H) (nx:=nx) 4
   rw [hrd,Je rfl]
   generalize fy 4=y at hil hi ⊢
   refine cc (qj hbl ai rfl rfl) rfl rfl rfl ?_
   rw [hz]
   repeat first|apply bC hil ai;rfl;(focus((repeat(first|exact ac|refine ab (by omega) ?_));done))|apply aj;rfl|apply bY;rfl;kernel_rfl;exact hi _ _
   ((apply bn Tryz.func34 (congrArg Array.toList Tryz.results34));(focus((apply JJ rfl (JL (F.ag _ rfl) (by repeat(exact ac)) (bm hil)));(repeat(first|exact JI|apply JK rfl)))))
   exact⟨rfl,by dsimp only;omega,fun m hm=>by(repeat(refine ab (by omega) ?_));rfl⟩
 | false=>
   have hun: ¬ gU p=true:=by unfold gU;rw [hbb,hz];decide
   refine cc (qj hbl ai rfl rfl) rfl rfl rfl ?_
   rw [hz]
   repeat first|apply bq hbl;rfl;(focus((repeat(first|exact ac|refine ab (by omega) ?_));done))|apply aj;rfl
   refine aL rfl rfl rfl (by kernel_rfl) (JG (pG hbl) ?_)
   rintro⟨_,H2,n2⟩ ⟨g1,g2,(⟨hr,rfl⟩|⟨hr,r,rfl,g3,g4,g5⟩)⟩
   ·dsimp only at g1 g2 ⊢
    have hrd:aX p=(zeroP,13):=by unfold aX;rw [Jd hun,Je (.inl hr)]
    rw [hrd,Jd (by decide)]
    have k1:H2.at' nx=some (pgO zeroP):=(g2 _ (by omega)).trans (by repeat(first|exact ac|refine ab (by omega) ?_))
    have k2:H2.at' (nx+1)=some (pgO p):=(g2 _ (by omega)).trans (by repeat(first|exact ac|refine ab (by omega) ?_))
    have ko: ∀ m,m<nx→H2.at' m=H.at' m:=fun m hm=>(g2 m (by omega)).trans (by(repeat(refine ab (by omega) ?_));rfl)
    clear g2
    repeat first|apply bq hbl;rfl;assumption|apply bC hbl ai;rfl;assumption|apply aj;rfl
    ((apply bn Tryz.func34 (congrArg Array.toList Tryz.results34));(focus((apply JJ rfl (JL (F.ag _ rfl) (by repeat(exact ac)) (bm hbl)));(repeat(first|exact JI|apply JK rfl)))))
    exact⟨rfl,by dsimp only;omega,fun m hm=>by(repeat(refine ab (by omega) ?_));exact ko m hm⟩
   ·dsimp only at g1 g2 g3 g4 g5 ⊢
    have hok:=(bw hbl).1 hr
    have hh:=hok.head
    have ht:=hok.top
    have hll:=eL p (ae p)
    have k1:H2.at' nx=some (pgO zeroP):=(g2 _ (by omega)).trans (by repeat(first|exact ac|refine ab (by omega) ?_))
    have k2:H2.at' (nx+1)=some (pgO p):=(g2 _ (by omega)).trans (by repeat(first|exact ac|refine ab (by omega) ?_))
    have ko: ∀ m,m<nx→H2.at' m=H.at' m:=fun m hm=>(g2 m (by omega)).trans (by(repeat(refine ab (by omega) ?_));rfl)
    clear g2
    have hk:=kP_at hbl
    have hc12:(pgO p).cell (0+12*1)=some (.sc (.int .u8 ((p[12]'(by omega)).toNat:Int))):=nI (p:=p) (i:=12) (by omega)
    have hrd:aX p=if kP p≠4 then(zeroP,13) else if xg p=true then(zeroP,13) else(p,0):=by
     unfold aX
     rw [Jd hun]
     by_cases h4:kP p=4
     ·rw [Jd (fun h=>by rcases h with h|h;rw [hr] at h;cases h;exact h h4),Jd (show ¬ (kP p≠4)from fun h=>h h4)]
     ·rw [Je (.inr h4),Je h4]
    rw [← hk] at hc12
    repeat first|apply aj;rfl|apply eR (q:=12);rfl;rfl;rfl;rfl;exact(F.un _ rfl);exact(F.sz _ rfl);(focus(omega));(focus(omega))|refine cc (an (F.ag _ rfl) rfl k2 hc12) rfl rfl rfl ?_
    by_cases h4:kP p=4
    ·rw [Jd (show ¬ (kP p≠4)from fun h=>h h4)] at hrd
     repeat first|apply aj;rfl|apply dH;rfl;omega
     refine bv (α:=Nat) (fun j=> [(4,.ptr nx 0),(6,.ptr (nx+1) 0),(8,.slu r 0 (eF p (ae p)).length),(10,.sc (.int .i64 (j:Int)))])
      (fun j H3 n3=>j≤ae p∧(∀ i,i<j→ar p i≠0→(ofV (aS p i)).isSome=true)∧r<n3∧H3.at' nx=some (pgO zeroP)∧H3.at' (nx+1)=some (pgO p)∧H3.at' r=some (slO (eF p (ae p)))∧ ∀ m,m<nx→H3.at' m=H.at' m) (fun j=>ae p-j) 0
      ⟨HT _,fun i hi=>absurd hi (Nat.not_lt_zero _),g4,k1,k2,g5,ko⟩ (JN (JQ rfl)) ?_
     clear k1 k2 ko g5
     rintro j H3 n3 ⟨j1,j2,j3,j4,j5,j6,j7⟩ ih
     repeat apply aj;rfl
     refine bi rfl rfl rfl rfl (fun h6=>?_) (fun h6=>?_)
     ·have hj:j<ae p:=by omega
      have hcS:=io p hj
      have hcF:=jr p hj
      have hg:ar p j<65536:=cI p _
      repeat first|refine dw (q:=j) rfl rfl rfl rfl (F.un _ rfl) (F.sz _ rfl) (by assumption) (by omega) (by(omega)) (HS _) ?_|refine cc (an (F.ag _ rfl) rfl j6 hcS) rfl rfl rfl ?_|apply aj;rfl
      by_cases hs:ar p j=0
      ·repeat first|apply kM;rfl;omega|apply aj;rfl|apply aK;rfl;omega;omega
       exact ih _ _ _ (j+1) ⟨hj,fun i h1 h2=>(by
        rcases Jg i j with h3|h3
        ·exact j2 i h3 h2
        ·obtain rfl:i=j:=by omega
         exact absurd hs h2),j3,j4,j5,j6,j7⟩ (by omega) (JN (JQ rfl))
      ·have hsl:=cQ hr hj hs
       have hil:=dz hbl (j:=j) hsl.2.2.2
       have hba: ∀ H:au,H.at' (nx+1)=some (pgO p)→BlkAt H (nx+1) (ay p j) (aS p j):=fun H h=>⟨_,h,by
        rw [hil]
        refine am _ _ ?_ (by simp only [Ji];omega)
        unfold aS
        simp [List.map_take,List.map_drop]⟩
       have hof: ∀ (H:au) nx',H.at' (nx+1)=some (pgO p)→Fnc Tryz.prog 36 [.sl (nx+1) (ay p j) (ar p j) (1024-ay p j)] H nx' (fun q=>q=(.tup [xP (nx+1) (ay p j) (1024-ay p j) (aS p j),.sc (.bool (ofV (aS p j)).isSome)],H,nx')):=fun H nx' h=>by
        have:=GL (H:=H) (nx:=nx') (r:=nx+1) (o:=ay p j) (C:=1024-ay p j) (l:=aS p j) (hba H h) (by omega) (by omega)
        rwa [hil,←of_eq] at this
       obtain⟨vk,vw,vx,vy,hve,hv1,hv2⟩:=xN (nx+1) (ay p j) (1024-ay p j) (aS p j)
       rw [hve] at hof
       have hone:bh (ew vk vw vx vy)=true:=by simp only [bh,hv1,hv2];rfl
       repeat first|apply o9;rfl;omega|apply aj;rfl
       cases hb:(ofV (aS p j)).isSome with
       | true=>
         rw [hb] at hof
         (apply ge;(focus(kernel_rfl));(focus(kernel_rfl)))
         refine dR 17 (Hz rfl) ?_
         repeat first|refine aH (q:=j) rfl rfl rfl rfl (F.un _ rfl) (F.sz _ rfl) (by assumption) (by omega) (by(omega)) (HS _) ?_|refine bk (an (F.ag _ rfl) rfl j6 hcF) rfl rfl rfl ?_|refine bk (an (F.ag _ rfl) rfl j6 hcS) rfl rfl rfl ?_|apply bI;rfl;rfl;exact(fun _ h=>by cases h);exact(fQ (l:=ay p j) (h:=ay p j+ar p j) (F.un _ rfl) (F.sz _ rfl) rfl rfl rfl (by omega) (by omega) (by omega) (show ay p j+ar p j-ay p j=ar p j by omega) rfl (Jf _))|apply aU;rfl|refine bk (aw rfl rfl (.inl ⟨rfl,(Hu _ ⟨(by focus(omega)),(by focus(omega))⟩).symm⟩)) rfl rfl rfl ?_
         refine aA ?_;(apply dS;rfl;rfl;rfl;(focus(kernel_rfl));exact(hof _ _ j5))
         refine jf ?_
         repeat first|refine bU rfl rfl rfl (F.sz _ rfl) (by repeat(first|assumption|exact ac)) rfl (by exact Hz rfl) hone rfl ?_|apply aU;rfl|refine pt (e9 (F.zl _ rfl)) rfl rfl rfl ?_
         refine aA ⟨by kernel_rfl,?_,?_⟩;(focus(repeat(first|exact JR|refine⟨.inl rfl,?_⟩|refine⟨.inr (.inl (by(repeat(refine⟨(by first|exact mA rfl|exact aw rfl rfl (.inl ⟨rfl,(Hu _ ⟨by omega,by omega⟩).symm⟩)|exact an (F.ag _ rfl) rfl (by(repeat(refine ab (by omega) ?_));exact j6) hcF|exact an (F.ag _ rfl) rfl (by(repeat(refine ab (by omega) ?_));exact j6) hcS|exact aN (F.un _ rfl) (F.sz _ rfl) rfl rfl (by(repeat(refine ab (by omega) ?_));exact j6) rfl (by omega) (HS _)|exact fQ (l:=ay p j) (h:=ay p j+ar p j) (F.un _ rfl) (F.sz _ rfl) rfl rfl rfl (by omega) (by omega) (by omega) (show ay p j+ar p j-ay p j=ar p j by omega) rfl (Jf _)),?_⟩));exact JR)),?_⟩|refine⟨.inr (.inr (by(repeat(refine⟨(by exact dZ rfl (by kernel_rfl) (by exact hof _ _ (by(repeat(refine ab (by omega) ?_));exact j5))),?_⟩));exact JR)),?_⟩)))
         repeat first|apply aj;rfl|apply aK;rfl;omega;omega
         exact ih _ _ _ (j+1) ⟨hj,fun i h1 h2=>(by
          rcases Jg i j with h3|h3
          ·exact j2 i h3 h2
          ·obtain rfl:i=j:=by omega
           exact hb),by first|omega|(dsimp only;omega),by repeat(first|assumption|refine ab (by omega) ?_),by repeat(first|assumption|refine ab (by omega) ?_),by repeat(first|assumption|refine ab (by omega) ?_),fun m hm=>by(repeat(refine ab (by omega) ?_));exact j7 m hm⟩ (by omega) (JN (JQ rfl))
       | false=>
         rw [hb] at hof
         have hbad:xg p=true:=List.any_eq_true.2 ⟨j,Jz.2 hj,by rw [Jw hs];cases h9:ofV (aS p j)with|none=>rfl|some v=>rw [h9] at hb;cases hb⟩
         rw [Je hbad] at hrd
         rw [hrd,Jd (by decide)]
         (apply ge;(focus(kernel_rfl));(focus(kernel_rfl)))
         refine dR 17 (Hz rfl) ?_
         repeat first|refine aH (q:=j) rfl rfl rfl rfl (F.un _ rfl) (F.sz _ rfl) (by assumption) (by omega) (by(omega)) (HS _) ?_|refine bk (an (F.ag _ rfl) rfl j6 hcF) rfl rfl rfl ?_|refine bk (an (F.ag _ rfl) rfl j6 hcS) rfl rfl rfl ?_|apply bI;rfl;rfl;exact(fun _ h=>by cases h);exact(fQ (l:=ay p j) (h:=ay p j+ar p j) (F.un _ rfl) (F.sz _ rfl) rfl rfl rfl (by omega) (by omega) (by omega) (show ay p j+ar p j-ay p j=ar p j by omega) rfl (Jf _))|apply aU;rfl|refine bk (aw rfl rfl (.inl ⟨rfl,(Hu _ ⟨(by focus(omega)),(by focus(omega))⟩).symm⟩)) rfl rfl rfl ?_
         refine aA ?_;(apply dS;rfl;rfl;rfl;(focus(kernel_rfl));exact(hof _ _ j5))
         refine jf ?_
         repeat first|refine bU rfl rfl rfl (F.sz _ rfl) (by repeat(first|assumption|exact ac)) rfl (by exact Hz rfl) hone rfl ?_|apply aU;rfl|refine pt (e9 (F.zl _ rfl)) rfl rfl rfl ?_
         refine aA ⟨by kernel_rfl,?_,?_⟩;(focus(repeat(first|exact JR|refine⟨.inl rfl,?_⟩|refine⟨.inr (.inl (by(repeat(refine⟨(by first|exact mA rfl|exact aw rfl rfl (.inl ⟨rfl,(Hu _ ⟨by omega,by omega⟩).symm⟩)|exact an (F.ag _ rfl) rfl (by(repeat(refine ab (by omega) ?_));exact j6) hcF|exact an (F.ag _ rfl) rfl (by(repeat(refine ab (by omega) ?_));exact j6) hcS|exact aN (F.un _ rfl) (F.sz _ rfl) rfl rfl (by(repeat(refine ab (by omega) ?_));exact j6) rfl (by omega) (HS _)|exact fQ (l:=ay p j) (h:=ay p j+ar p j) (F.un _ rfl) (F.sz _ rfl) rfl rfl rfl (by omega) (by omega) (by omega) (show ay p j+ar p j-ay p j=ar p j by omega) rfl (Jf _)),?_⟩));exact JR)),?_⟩|refine⟨.inr (.inr (by(repeat(refine⟨(by exact dZ rfl (by kernel_rfl) (by exact hof _ _ (by(repeat(refine ab (by omega) ?_));exact j5))),?_⟩));exact JR)),?_⟩)))
         repeat first|apply bq hbl;rfl;(focus((repeat(first|assumption|refine ab (by omega) ?_));done))|apply bC hbl ai;rfl;(focus((repeat(first|assumption|refine ab (by omega) ?_));done))|apply aj;rfl
         ((apply bn Tryz.func34 (congrArg Array.toList Tryz.results34));(focus((apply JJ rfl (JL (F.ag _ rfl) (by repeat(exact ac)) (bm hbl)));(repeat(first|exact JI|apply JK rfl)))))
         exact⟨rfl,by dsimp only;omega,fun m hm=>by(repeat(refine ab (by omega) ?_));exact j7 m hm⟩
     ·have hj:j=ae p:=by omega
      have hbad: ¬ xg p=true:=fun h=>by
       obtain⟨i,hi,h2⟩:=List.any_eq_true.1 h
       rw [HR] at h2
       have h3:=j2 i (by have:=Jz.1 hi;omega) (Jp h2.1)
       cases h9:ofV (aS p i)with
       | none=>rw [h9] at h3;cases h3
       | some v=>rw [h9] at h2;cases h2.2
      rw [Jd hbad] at hrd
      rw [hrd,Je rfl]
      repeat first|apply bq hbl;rfl;assumption|apply bC hbl ai;rfl;assumption|apply aj;rfl
      ((apply bn Tryz.func34 (congrArg Array.toList Tryz.results34));(focus((apply JJ rfl (JL (F.ag _ rfl) (by repeat(exact ac)) (bm hbl)));(repeat(first|exact JI|apply JK rfl)))))
      exact⟨rfl,by dsimp only;omega,fun m hm=>by(repeat(refine ab (by omega) ?_));exact j7 m hm⟩
    ·rw [Je h4] at hrd
     rw [hrd,Jd (by decide)]
     repeat first|apply aj;rfl|apply ii;rfl;omega|apply bq hbl;rfl;assumption|apply bC hbl ai;rfl;assumption
     ((apply bn Tryz.func34 (congrArg Array.toList Tryz.results34));(focus((apply JJ rfl (JL (F.ag _ rfl) (by repeat(exact ac)) (bm hbl)));(repeat(first|exact JI|apply JK rfl)))))
     exact⟨rfl,by dsimp only;omega,fun m hm=>by(repeat(refine ab (by omega) ?_));exact ko m hm⟩
def dfH(hm:List UInt8)(n:Nat):List UInt8:=bareP (az hm (n-32))
theorem D5(hl:hm.length=98304)(h1:32≤n)(h2:n<128):(dfH hm n).length=1024:=dT (gp hl (by omega))
theorem vK(hl:hm.length=98304)(hn:n<96)(hx:x.length=1024):((byV hm).map SV.sc).take (0+n*1024) ++ pgS x ++ ((byV hm).map SV.sc).drop (0+n*1024+1024)=(byV (gH hm n x)).map SV.sc:=by
 unfold gH bf
 rw [hx,Jf,Nat.mul_comm n]
 show _=(byV (hm.take (1024*n) ++ x ++ hm.drop (1024*n+1024))).map SV.sc
 rw [jT,jT,HX,HX]
 simp only [byV,List.map_take,List.map_drop]
theorem uG(hl:hm.length=98304)(hn:n<96)(hx:x.length=1024):(gH hm n x).length=98304:=by
 unfold gH
 rw [bM (by omega),hl]
def GB(hm:List UInt8):Option (Nat×List UInt8)→List UInt8
 | none=>hm
 | some (n,x)=>gH hm (n-32) x
theorem zr{it:List UInt8}(hr:bl (gh p it)=true)(h1:1≤it.length)(h2:it.length≤1000):hY p it=if it.length≤eY (gh p it) then(oy (gh p it) it,ba (gh p it),0) else(zeroP,0,5):=by
 have hre:eY (gh p it)=fI (gh p it):=by
  show(if bl (gh p it)=true then fI (gh p it) else 0)=_
  rw [Je hr]
 unfold hY nf
 rw [Jd (by rw [hr];decide),Jd (fun h=>h ⟨h1,h2⟩),hre]
 by_cases h:it.length≤fI (gh p it)
 ·rw [Jd (by omega),Je h]
 ·rw [Je (by omega),Jd h]
theorem DL{hb:Nat}{s:SV}{v:fY}(hH:H.at' hb=some (hpO hm))(hl:hm.length=98304)(hv:VerIs H s v)(hmay:iS v=true):Fnc Tryz.prog 19 [.ptr hb 0,s] H nx
 (fun q=>q.1 = .tup [.agg [.sc (.int .i64 ((lB (dfH hm) v false).1.1:Int)),.sc (.int .i64 ((lB (dfH hm) v false).1.2.1:Int))],.sc (.int .i64 ((lB (dfH hm) v false).1.2.2:Int))]
   ∧ q.2.1.at' hb=some (hpO (GB hm (lB (dfH hm) v false).2))∧nx≤q.2.2∧ ∀ m,m<nx→m≠hb→q.2.1.at' m=H.at' m):=by
 have hv0:=hv
 obtain⟨k,w,rfl,hk,hw⟩:=hv
 have hmd:=Jp hmay
 have hbl:=ef v
 have hM:lB (dfH hm) v false=if(cu (dfH hm) (aR v) 96 32).1≠0 then((0,0,(cu (dfH hm) (aR v) 96 32).1),none)
  else(((cu (dfH hm) (aR v) 96 32).2.1,(cu (dfH hm) (aR v) 96 32).2.2.1,0),some ((cu (dfH hm) (aR v) 96 32).2.1,(cu (dfH hm) (aR v) 96 32).2.2.2)):=by
  unfold lB
  rw [Jd (by rw [hmay];decide)]
  split
  ·rfl
  ·rw [Jd (by decide)]
 rw [hM]
 clear hM
 refine JH Tryz.func19 rfl rfl ?_
 refine aW fun hund=>?_
 have lH:=hund _ _ hH
 have hone:bh (ew k w v.2.2.1 v.2.2.2)=true:=by simp only [bh,cC hk,cC hw];rfl
 repeat first|apply aj;rfl|apply aG;rfl;(focus((repeat(first|exact ac|refine ab (by omega) ?_));done));rfl
 refine aL rfl rfl rfl (by kernel_rfl) (JG (wd (v:=v) (hv0.frame fun b vo hb'=>(aa _ _ (by have:=hund b vo hb';omega)).trans ((aa _ _ (by have:=hund b vo hb';omega)).trans hb')) hmay) ?_)
 rintro⟨_,H2,n2⟩ ⟨rb,rfl,b1,b2,b3,b4,b5⟩
 dsimp only at b1 b2 b3 b4 b5 ⊢
 have c1:H2.at' (nx+1)=some (ez 0 0):=(b5 _ (by omega)).trans (by repeat(exact ac))
 have c2:H2.at' hb=some (hpO hm):=(b5 _ (by omega)).trans (by(repeat(refine ab (by omega) ?_));exact hH)
 have co: ∀ m,m<nx→H2.at' m=H.at' m:=fun m hm=>(b5 _ (by omega)).trans (by(repeat(refine ab (by omega) ?_));rfl)
 clear b5
 generalize aR v=it at hbl b1 ⊢
 have hd0:it.length≤180:=by omega
 have hd1:20≤it.length:=by omega
 clear hbl hmd hone
 repeat apply aj;rfl
 refine bv (α:=Nat) (fun i=> [(0,.ptr hb 0),(4,.ptr (nx+1) 0),(6,.slu rb 0 it.length),(7,.sc (.int .i64 (i:Int)))])
  (fun i H1 n1=>i≤96∧cu (dfH hm) it (96-i) (32+i)=cu (dfH hm) it 96 32∧n2≤n1∧H1.at' (nx+1)=some (ez 0 0)∧H1.at' hb=some (hpO hm)∧H1.at' rb=some (dat false it.length 1 5 (byV it))∧ ∀ m,m<nx→H1.at' m=H.at' m) (fun i=>96-i) 0
  ⟨HT _,rfl,HS _,c1,c2,b1,co⟩ (JN (JQ rfl)) ?_
 clear c1 c2 b1 co
 rintro i H1 n1 ⟨i1,i2,i3,i4,i5,i6,i7⟩ ih
 repeat apply aj;rfl
 refine bi rfl rfl rfl rfl (fun h5=>?_) (fun h5=>?_)
 ·have hi:i<96:=by omega
  have hgo:cu (dfH hm) it (96-i) (32+i)=if(aX (dfH hm (32+i))).2≠0 then(13,0,0,zeroP) else if(hY (aX (dfH hm (32+i))).1 it).2.2≠0 then cu (dfH hm) it (96-(i+1)) (32+(i+1)) else(0,32+i,(hY (aX (dfH hm (32+i))).1 it).2.1,(hY (aX (dfH hm (32+i))).1 it).1):=by
   rw [show 96-i=(96-(i+1))+1 by omega]
   rfl
  have hdf:dfH hm (32+i)=bareP (az hm i):=by unfold dfH;rw [show 32+i-32=i by omega]
  have hpl:=gp hl hi
  have hrl:=rO hpl
  have hv5:rP (az hm i)=if(aX (dfH hm (32+i))).2=0 then((aX (dfH hm (32+i))).1,true) else(bareP (az hm i),false):=by rw [hdf];rfl
  rw [i2] at hgo
  have hrs:=fun(H:au) nx (h:H.at' hb=some (hpO hm))=>lN (nx:=nx) h hl hi
  by_cases he:(aX (dfH hm (32+i))).2=0
  ·rw [Je he] at hv5
   rw [Jd (fun g=>g he)] at hgo
   obtain⟨hql,hqr,_⟩:=cN (p:=dfH hm (32+i)) (q:=(aX (dfH hm (32+i))).1) (Prod.ext rfl he) (D5 hl (by omega) (by omega))
   rw [hv5] at hrs hrl
   clear hv5 hdf he
   generalize (aX (dfH hm (32+i))).1=q at hrl hrs hql hqr hgo
   dsimp only [AQ] at hrl hrs
   have hro:=fun(H:au) nx=>tG (H:=H) (nx:=nx) hql
   repeat first|apply bC hql ai;rfl;(focus((repeat(exact ac));done))|refine aY rfl rfl ce ?_|apply aj;rfl|apply bY;rfl;kernel_rfl;exact hrs _ _ i5|apply bq hql;rfl;(focus((repeat(exact ac));done))|apply bY;rfl;kernel_rfl;exact hro _ _
   have hx:=zr (p:=q) (it:=it) (by
    unfold gh iP
    rw [Je hqr]
    split
    ·have g:=rY ((bw hql).1 hqr)
     exact(bw g.len).2 (g.ok ((bw hql).1 hqr))
    ·exact hqr) (by omega) (by omega)
   have hxl:=oc (it:=it) hql
   have hroy:gh q it=if eY q<it.length then ln q else q:=by unfold gh iP;rw [Je hqr]
   have hpk:=fun(H:au) nx=>yK (H:=H) (nx:=nx) hql hqr
   have hgk:=rY ((bw hql).1 hqr)
   have hgr:bl (ln q)=true:=(bw hgk.len).2 (hgk.ok ((bw hql).1 hqr))
   have hkl:=hgk.len
   have hj: ∃ y:List UInt8,y=gh q it∧y.length=1024∧bl y=true:=⟨_,rfl,hxl,by
    rw [hroy]
    split
    ·exact hgr
    ·exact hqr⟩
   obtain⟨y,hy,hyl,hyr⟩:=hj
   rw [← hy] at hx hroy
   refine cL (R:=fun H3 n3=>n3=n1+1∧H3.at' n1=some (pgO q)∧H3.at' (nx+1)=some (ez 0 0)∧H3.at' hb=some (hpO hm)∧H3.at' rb=some (dat false it.length 1 5 (byV it))∧ ∀ m,m<nx→H3.at' m=H.at' m) ⟨rfl,by repeat(exact ac),by repeat(first|assumption|refine ab (by omega) ?_),by repeat(first|assumption|refine ab (by omega) ?_),by repeat(first|assumption|refine ab (by omega) ?_),fun m hm=>by(repeat(refine ab (by omega) ?_));exact i7 m hm⟩ ?_
   rintro H3 n3 ⟨rfl,d1,d2,d3,d4,d5⟩
   clear i4 i5 i6 i7
   have hro2:=fun(H:au) nx=>tG (H:=H) (nx:=nx) hyl
   by_cases hlt:eY q<it.length
   ·rw [Je hlt] at hroy
    rw [← hroy] at hpk
    repeat first|apply o9;rfl;omega|apply bC hyl hql;rfl;assumption|apply bq hql;rfl;assumption|apply bY;rfl;kernel_rfl;exact hpk _ _|apply aj;rfl
    dsimp only
    clear hpk hgk hgr hkl hro hroy hrs
    (repeat(first|apply bq hyl;rfl;(focus((repeat(exact ac));done))|apply aj;rfl|apply bY;rfl;kernel_rfl;exact hro2 _ _));by_cases hrm:it.length≤eY y
    ·(rw [Je hrm] at hx;rw [hx,Jd (fun h=>h rfl)] at hgo;have hre:eY y=fI y:=(show(if bl y=true then fI y else 0)=_ by rw [Je hyr]);have hlx:=(laid (it:=it) ((bw hyl).1 hyr) (by omega) (by omega) (by omega)).len;have hins:=fun(H:au) nx (h:H.at' rb=some (dat false it.length 1 5 (byV it)))=>zt (H:=H) (nx:=nx) (s:= .slu rb 0 it.length) hyl (jc (show H.at' rb=some (u8R false (byV it)) by rw [rA];exact h)) hyr (by omega) (by omega) (by omega);rw [hgo,Jd (fun h=>h rfl)];dsimp only [GB];rw [show 32+i-32=i by omega];clear hgo hx i2;generalize oy y it=x at hlx hins ⊢;generalize ba y=sl at hins ⊢;(repeat(first|apply kM;rfl;omega|apply bC hlx ai;rfl;(focus((repeat(exact ac));done))|refine aY rfl rfl ce ?_|apply bq hyl;rfl;(focus((repeat(exact ac));done))|apply bY;rfl;kernel_rfl;exact hins _ _ (by repeat(first|assumption|refine ab (by omega) ?_))|apply aj;rfl));refine cL (R:=fun H5 n5=>n1+1<n5∧H5.at' (n1+1)=some (pgO x)∧H5.at' (nx+1)=some (ez 0 0)∧H5.at' hb=some (hpO hm)∧ ∀ m,m<nx→H5.at' m=H.at' m) ⟨by omega,by repeat(exact ac),by repeat(first|assumption|refine ab (by omega) ?_),by repeat(first|assumption|refine ab (by omega) ?_),fun m hm=>by(repeat(refine ab (by omega) ?_));exact d5 m hm⟩ ?_;rintro H5 n5 ⟨e0,e1,e2,e3,e4⟩;(apply bg;(focus(kernel_rfl));(focus(kernel_rfl)));(repeat(first|refine cg rfl rfl rfl (F.ag _ rfl) e1 (be hlx) ?_|refine bU rfl rfl rfl (F.sz _ rfl) e3 (be hlx) (by rw [Ji,Ji,hl];omega) (iv _) (vK hl hi hlx) ?_|apply jM (q:=i);rfl;rfl;rfl;rfl;exact(F.un _ rfl);exact(F.sz _ rfl);(focus(omega));(focus(omega))|apply aU;rfl));refine aA ⟨by kernel_rfl,?_,?_⟩;(focus(repeat(first|exact JR|apply kp;rfl|apply gu;rfl;kernel_rfl|refine fT 0 rfl (by kernel_rfl) (by(repeat(refine⟨(by first|exact aV (F.ag _ rfl) rfl (by repeat(first|assumption|refine ab (by omega) ?_)) (bm hlx)|exact gW (q:=i) rfl rfl (F.un _ rfl) (F.sz _ rfl) (by omega) (by omega)),?_⟩));exact JR) ?_)));(repeat(first|apply aj;rfl|apply aG;rfl;(focus((repeat(first|assumption|refine ab (by omega) ?_));done));rfl|apply aK;rfl;omega;omega));((apply bn Tryz.func19 (congrArg Array.toList Tryz.results19));(focus(repeat(first|exact JI|apply JK rfl|apply JJ rfl (JL (F.ag _ rfl) (by repeat(exact ac)) (am _ 0 rfl rfl))))));exact⟨rfl,by repeat(first|exact ac|refine ab (by omega) ?_),by dsimp only;omega,fun m h1 h2=>by(repeat(refine ab (by omega) ?_));exact e4 m h1⟩)
    ·(rw [Jd hrm] at hx;rw [hx,Je (by decide)] at hgo;(repeat(first|apply o9;rfl;omega|apply aj;rfl|apply aK;rfl;omega;omega));exact ih _ _ _ (i+1) ⟨by omega,hgo.symm,by omega,by repeat(first|assumption|refine ab (by omega) ?_),by repeat(first|assumption|refine ab (by omega) ?_),by repeat(first|assumption|refine ab (by omega) ?_),fun m hm=>by(repeat(refine ab (by omega) ?_));exact d5 m hm⟩ (by omega) (JN (JQ rfl)))
   ·rw [Jd hlt] at hroy
    subst hroy
    clear hpk hgk hgr hkl hro hrs
    repeat first|apply kM;rfl;omega|apply aj;rfl
    (repeat(first|apply bq hyl;rfl;assumption|apply aj;rfl|apply bY;rfl;kernel_rfl;exact hro2 _ _));by_cases hrm:it.length≤eY y
    ·(rw [Je hrm] at hx;rw [hx,Jd (fun h=>h rfl)] at hgo;have hre:eY y=fI y:=(show(if bl y=true then fI y else 0)=_ by rw [Je hyr]);have hlx:=(laid (it:=it) ((bw hyl).1 hyr) (by omega) (by omega) (by omega)).len;have hins:=fun(H:au) nx (h:H.at' rb=some (dat false it.length 1 5 (byV it)))=>zt (H:=H) (nx:=nx) (s:= .slu rb 0 it.length) hyl (jc (show H.at' rb=some (u8R false (byV it)) by rw [rA];exact h)) hyr (by omega) (by omega) (by omega);rw [hgo,Jd (fun h=>h rfl)];dsimp only [GB];rw [show 32+i-32=i by omega];clear hgo hx i2;generalize oy y it=x at hlx hins ⊢;generalize ba y=sl at hins ⊢;(repeat(first|apply kM;rfl;omega|apply bC hlx ai;rfl;(focus((repeat(exact ac));done))|refine aY rfl rfl ce ?_|apply bq hyl;rfl;assumption|apply bY;rfl;kernel_rfl;exact hins _ _ (by assumption)|apply aj;rfl));refine cL (R:=fun H5 n5=>n1+1<n5∧H5.at' (n1+1)=some (pgO x)∧H5.at' (nx+1)=some (ez 0 0)∧H5.at' hb=some (hpO hm)∧ ∀ m,m<nx→H5.at' m=H.at' m) ⟨by omega,by repeat(exact ac),by repeat(first|assumption|refine ab (by omega) ?_),by repeat(first|assumption|refine ab (by omega) ?_),fun m hm=>by(repeat(refine ab (by omega) ?_));exact d5 m hm⟩ ?_;rintro H5 n5 ⟨e0,e1,e2,e3,e4⟩;(apply bg;(focus(kernel_rfl));(focus(kernel_rfl)));(repeat(first|refine cg rfl rfl rfl (F.ag _ rfl) e1 (be hlx) ?_|refine bU rfl rfl rfl (F.sz _ rfl) e3 (be hlx) (by rw [Ji,Ji,hl];omega) (iv _) (vK hl hi hlx) ?_|apply jM (q:=i);rfl;rfl;rfl;rfl;exact(F.un _ rfl);exact(F.sz _ rfl);(focus(omega));(focus(omega))|apply aU;rfl));refine aA ⟨by kernel_rfl,?_,?_⟩;(focus(repeat(first|exact JR|apply kp;rfl|apply gu;rfl;kernel_rfl|refine fT 0 rfl (by kernel_rfl) (by(repeat(refine⟨(by first|exact aV (F.ag _ rfl) rfl (by repeat(first|assumption|refine ab (by omega) ?_)) (bm hlx)|exact gW (q:=i) rfl rfl (F.un _ rfl) (F.sz _ rfl) (by omega) (by omega)),?_⟩));exact JR) ?_)));(repeat(first|apply aj;rfl|apply aG;rfl;(focus((repeat(first|assumption|refine ab (by omega) ?_));done));rfl|apply aK;rfl;omega;omega));((apply bn Tryz.func19 (congrArg Array.toList Tryz.results19));(focus(repeat(first|exact JI|apply JK rfl|apply JJ rfl (JL (F.ag _ rfl) (by repeat(exact ac)) (am _ 0 rfl rfl))))));exact⟨rfl,by repeat(first|exact ac|refine ab (by omega) ?_),by dsimp only;omega,fun m h1 h2=>by(repeat(refine ab (by omega) ?_));exact e4 m h1⟩)
    ·(rw [Jd hrm] at hx;rw [hx,Je (by decide)] at hgo;(repeat(first|apply o9;rfl;omega|apply aj;rfl|apply aK;rfl;omega;omega));exact ih _ _ _ (i+1) ⟨by omega,hgo.symm,by omega,by assumption,by assumption,by assumption,fun m hm=>by exact d5 m hm⟩ (by omega) (JN (JQ rfl)))
  ·rw [Jd he] at hv5
   rw [Je he] at hgo
   rw [hv5] at hrs hrl
   rw [hgo,Je (by decide)]
   generalize bareP (az hm i)=q at hrl hrs
   dsimp only [AQ] at hrl hrs
   repeat first|apply bC hrl ai;rfl;(focus((repeat(exact ac));done))|refine aY rfl rfl ce ?_|apply aj;rfl|apply aG;rfl;(focus((repeat(first|assumption|refine ab (by omega) ?_));done));rfl|apply bY;rfl;kernel_rfl;exact hrs _ _ i5
   ((apply bn Tryz.func19 (congrArg Array.toList Tryz.results19));(focus(repeat(first|exact JI|apply JK rfl|apply JJ rfl (JL (F.ag _ rfl) (by repeat(exact ac)) (am _ 0 rfl rfl))))))
   exact⟨rfl,by repeat(first|assumption|refine ab (by omega) ?_),by dsimp only;omega,fun m h1 h2=>by(repeat(refine ab (by omega) ?_));exact i7 m h1⟩
 ·have hi:i=96:=by omega
  subst hi
  rw [← i2,show cu (dfH hm) it (96-96) (32+96)=(5,0,0,zeroP)from rfl,Je (by decide)]
  repeat first|apply aj;rfl|apply aG;rfl;assumption;rfl
  ((apply bn Tryz.func19 (congrArg Array.toList Tryz.results19));(focus(repeat(first|exact JI|apply JK rfl|apply JJ rfl (JL (F.ag _ rfl) (by repeat(exact ac)) (am _ 0 rfl rfl))))))
  exact⟨rfl,by repeat(first|assumption|refine ab (by omega) ?_),by dsimp only;omega,fun m h1 h2=>by(repeat(refine ab (by omega) ?_));exact i7 m h1⟩
abbrev C3:Int×Int→List Value:=fun t=> [.int .i64 t.1,.int .i64 t.2]
theorem tC:RecOf C3 2:=⟨fun _=>rfl,fun a v hv=>by
 simp only [C3,Js,List.not_mem_nil,or_false] at hv
 rcases hv with rfl|rfl <;> rfl⟩
abbrev pb(l:List (Int×Int)):VO:=dat false l.length 2 40 (l.flatMap C3)
theorem p9: ∀ (l:List (Int×Int)) (i:Nat) (hi:i<l.length),(l.flatMap C3)[i*2]? =some (.int .i64 (l[i]).1)∧(l.flatMap C3)[i*2+1]? =some (.int .i64 (l[i]).2)
 | [],i,hi=>absurd hi (Nat.not_lt_zero _)
 | t :: l,0,_=>⟨rfl,rfl⟩
 | t :: l,i+1,hi=>by
   have ih:=p9 l i (by simpa using hi)
   have e: ∀ k,((t :: l).flatMap C3)[k+2]? =(l.flatMap C3)[k]? :=fun k=>by
    rw [List.flatMap_cons]
    rfl
   rw [show(i+1)*2=i*2+2 by omega,show i*2+2+1=(i*2+1)+2 by omega,e,e]
   exact ih
theorem xR(hi:i<l.length):(pb l).cell (i*2)=some (.sc (.int .i64 (l[i]).1)):=fW (by omega) (p9 l i hi).1
theorem xQ(hi:i<l.length):(pb l).cell (i*2+1)=some (.sc (.int .i64 (l[i]).2)):=fW (by omega) (p9 l i hi).2
theorem uD(hi:i<l.length):(pb l).cellsFrom (i*2) 2=some [.sc (.int .i64 (l[i]).1),.sc (.int .i64 (l[i]).2)]:=by
 simp only [VO.cellsFrom,xR hi,xQ hi]
theorem jB{mem:List UInt8}{a b:Nat}(ha:1024*a+1024≤mem.length)(hx:x.length=1024):az (gH mem a x) b=if b=a then x else az mem b:=by
 unfold az gH
 by_cases h:b=a
 ·rw [Je h,h]
  have:=uT (p:=mem) (o:=1024*a) (l:=x) (by omega)
  rwa [hx] at this
 ·rw [Jd h]
  exact iU fun i h1 h2=>mC (by omega) (by omega)
def jx(hm:List UInt8)(ps:List (Nat×List UInt8)):List UInt8:=ps.foldl (fun m x=>gH m (x.1-32) x.2) hm
theorem wO(hm:List UInt8)(ps:List (Nat×List UInt8))(n:Nat)(x:List UInt8):jx hm (ps ++ [(n,x)])=gH (jx hm ps) (n-32) x:=by
 unfold jx
 rw [List.foldl_append]
 rfl
theorem rE(l:List (Int×Int))(t:Int×Int)(n:Nat):aM (l ++ [t]) n=if t.1=(n:Int) then aM l n ++ [t.2.toNat] else aM l n:=by
 unfold aM
 rw [List.filter_append,HX,List.filter_cons,List.filter_nil]
 by_cases h:t.1=(n:Int)
 ·rw [Je h,Je (Jw h)]
  rfl
 ·rw [Jd h,Jd (by simpa using h),List.map_nil,Jr]
theorem nZ(a b:List (Int×Int))(n:Nat):aM (a ++ b) n=aM a n ++ aM b n:=by
 unfold aM
 rw [List.filter_append,HX]
theorem wI(hi:i<l.length)(h:(l[i]).1=(n:Int)):aM l n=aM (l.take i) n ++ (l[i]).2.toNat :: aM (l.drop (i+1)) n:=by
 have e:l=l.take i ++ ([l[i]] ++ l.drop (i+1)):=by
  rw [List.singleton_append,List.getElem_cons_drop,List.take_append_drop]
 have e2:aM l n=aM (l.take i ++ ([l[i]] ++ l.drop (i+1))) n:=congrArg (fun z=>aM z n) e
 rw [e2,nZ,nZ]
 congr 1
 unfold aM
 rw [List.filter_cons,List.filter_nil,Je (Jw h)]
 rfl
theorem uk(p:List UInt8)(S:List Nat)(k:Nat):df p (S ++ [k])=lf (df p S) k:=by
 unfold df
 rw [List.foldl_append]
 rfl
theorem fG{A:Type}{l:List A}(hi:i<l.length):l.take (i+1)=l.take i ++ [l[i]]:=by
 rw [List.take_add_one,Hx hi]
 rfl
def gV(pf:Nat→List UInt8)(l:List (Int×Int))(k:Nat):List (Nat×List UInt8):=(((List.range k).map (32 + ·)).filter fun n=> !(aM l n).isEmpty).map fun n=>(n,rd (aX (pf n)).1 (aM l n))
theorem yn(pf:Nat→List UInt8)(l:List (Int×Int)):gV pf l 96=(dq l).map fun n=>(n,rd (aX (pf n)).1 (aM l n)):=rfl
theorem AI(h:aM l (32+k)= []):gV pf l (k+1)=gV pf l k:=by
 unfold gV
 rw [List.range_succ,HX,List.filter_append]
 simp [h]
theorem ym(h:aM l (32+k)≠ []):gV pf l (k+1)=gV pf l k ++ [(32+k,rd (aX (pf (32+k))).1 (aM l (32+k)))]:=by
 unfold gV
 have hb:(!(aM l (32+k)).isEmpty)=true:=by
  cases hs:aM l (32+k)with
  | nil=>exact absurd hs h
  | cons a b=>rfl
 rw [List.range_succ,HX,List.filter_append,HX]
 simp [hb]
theorem zc{x:Nat×List UInt8}(h:x∈gV pf l k):32≤x.1∧x.1<32+k∧aM l x.1≠ []∧x.2=rd (aX (pf x.1)).1 (aM l x.1):=by
 unfold gV at h
 obtain⟨n,hn,rfl⟩:=JA.1 h
 rw [List.mem_filter] at hn
 obtain⟨i,hi,rfl⟩:=JA.1 hn.1
 have:=Jz.1 hi
 refine⟨by dsimp only;omega,by dsimp only;omega,fun e=>?_,rfl⟩
 have h2:=hn.2
 dsimp only at e
 rw [e] at h2
 cases h2
theorem yE(hl:hm.length=98304): ∀ {ps:List (Nat×List UInt8)},(∀ x∈ps,32≤x.1∧x.1<128∧x.2.length=1024)→(jx hm ps).length=98304:=by
 intro ps
 induction ps generalizing hm with
 | nil=>exact fun _=>hl
 | cons x ps ih=>
   intro h
   have hx:=h x Jl
   exact ih (uG hl (by omega) hx.2.2) fun y hy=>h y (Jm _ hy)
theorem tQ(hl:hm.length=98304): ∀ {ps:List (Nat×List UInt8)},(∀ x∈ps,32≤x.1∧x.1<128∧x.2.length=1024∧x.1≠32+n)→az (jx hm ps) n=az hm n:=by
 intro ps
 induction ps generalizing hm with
 | nil=>exact fun _=>rfl
 | cons x ps ih=>
   intro h
   have hx:=h x Jl
   refine(ih (uG hl (by omega) hx.2.2.1) fun y hy=>h y (Jm _ hy)).trans ?_
   rw [jB (by omega) hx.2.2.1,Jd (by omega)]
theorem ix{K V:Type} [DecidableEq K]: ∀ (m:List (K×V×Nat)) {k k':K} (v:V) (c:Nat),k'≠k→gC (gO m k v c) k'=gC m k'
 | [],k,k',v,c,h=>by
   have: ¬ k=k':=fun e=>h e.symm
   simp [gO,gC,this]
 | x :: m,k,k',v,c,h=>by
   by_cases hx:x.1=k
   ·have e:gO (x :: m) k v c=(k,v,x.2.2) :: m:=by simp [gO,hx]
    have h1: ¬ k=k':=fun e=>h e.symm
    have h2: ¬ x.1=k':=fun e=>h (e.symm.trans hx)
    rw [e]
    simp [gC,h1,h2]
   ·have e:gO (x :: m) k v c=x :: gO m k v c:=by simp [gO,hx]
    have ih:=ix m v c h
    rw [e]
    unfold gC at ih ⊢
    rw [List.find?_cons,List.find?_cons]
    split
    ·rfl
    ·exact ih
theorem qz{K V:Type} [DecidableEq K]: ∀ (m:List (K×V×Nat)) (k:K) (v:V) (c:Nat),(gO m k v c).length≤m.length+1
 | [],k,v,c=>HS _
 | x :: m,k,v,c=>by
   by_cases hx:x.1=k
   ·have e:gO (x :: m) k v c=(k,v,x.2.2) :: m:=by simp [gO,hx]
    rw [e]
    simp
   ·have e:gO (x :: m) k v c=x :: gO m k v c:=by simp [gO,hx]
    have ih:=qz m k v c
    rw [e]
    simp only [HV]
    omega
def ji(lt:List (Int×Int))(n:Int):List Int:=(lt.filter fun t=>decide (t.1=n)).map (·.2)
theorem wJ(lt:List (Int×Int))(n k n':Int):ji (lt ++ [(n,k)]) n'=if n=n' then ji lt n' ++ [k] else ji lt n':=by
 unfold ji
 rw [List.filter_append,HX,List.filter_cons,List.filter_nil]
 by_cases h:n=n'
 ·rw [Je h,Je (Jw h)]
  rfl
 ·rw [Jd h,Jd (by simpa using h),List.map_nil,Jr]
theorem x8{lt:List (Int×Int)}{n:Int}:ji lt n= []↔ ¬ ∃ t∈lt,t.1=n:=by
 unfold ji
 rw [List.map_eq_nil_iff,List.filter_eq_nil_iff]
 constructor
 ·rintro h ⟨t,h1,h2⟩
  exact h t h1 (Jw h2)
 ·intro h t h1 h2
  exact h ⟨t,h1,Jp h2⟩
end
structure SlM (H:au) (B nx:Nat) (lt:List (Int×Int)) (m:List (Int×(Nat×List Int)×Nat)) (c:Nat):Prop where
 ok:KOk m c
 len:m.length≤lt.length
 keys: ∀ n,n∈m.map (·.1)↔ ∃ t∈lt,t.1=n
 val: ∀ n r ks,gC m n=some (r,ks)→ks=ji lt n∧B≤r∧r<nx∧H.at' r=some (pI ks)
 sep: ∀ n n' r r' ks ks',gC m n=some (r,ks)→gC m n'=some (r',ks')→n≠n'→r≠r'
section
variable {H:au}{B c nx:Nat}{lt:List (Int×Int)}{m:List (Int×(Nat×List Int)×Nat)}
theorem SlM.frame{H':au}{nx':Nat}(h:SlM H B nx lt m c)(hle:nx≤nx')(hf: ∀ r,B≤r→r<nx→H'.at' r=H.at' r):SlM H' B nx' lt m c:=
 ⟨h.ok,h.len,h.keys,fun n r ks hg=>by
   obtain⟨h1,h2,h3,h4⟩:=h.val n r ks hg
   exact⟨h1,h2,by omega,(hf r h2 h3).trans h4⟩,h.sep⟩
theorem SlM.zero:SlM H B nx [] [] 0:=
 ⟨KOk.nil 0,HS _,fun n=>by simp,fun n r ks hg=>(by cases hg),fun n n' r r' ks ks' hg=>(by cases hg)⟩
theorem SlM.get(h:SlM H B nx lt m c)(n:Int):(gC m n=none∧ji lt n= [])∨ ∃ r,gC m n=some (r,ji lt n)∧B≤r∧r<nx∧H.at' r=some (pI (ji lt n)):=by
 cases hg:gC m n with
 | none=>exact .inl ⟨rfl,x8.2 fun hx=>lX.1 hg ((h.keys n).2 hx)⟩
 | some v=>
   obtain⟨r,ks⟩:=v
   obtain⟨rfl,h2,h3,h4⟩:=h.val n r ks hg
   exact .inr ⟨r,rfl,h2,h3,h4⟩
theorem SlM.add{H':au}{nx' r':Nat}(h:SlM H B nx lt m c)(n k:Int)(hB:B≤nx)(h1:nx≤r')(h2:r'<nx')(hr:H'.at' r'=some (pI (ji lt n ++ [k])))(hf: ∀ x,B≤x→x<nx→(∀ ks,gC m n≠some (x,ks))→H'.at' x=H.at' x):SlM H' B nx' (lt ++ [(n,k)]) (gO m n (r',ji lt n ++ [k]) c) (po m n c):=by
 refine⟨h.ok.put n _,?_,fun n'=>?_,fun n' r ks hg=>?_,fun a b r r2 ks ks2 ha hb hab=>?_⟩
 ·have:=qz m n (r',ji lt n ++ [k]) c
  have:=h.len
  rw [HW]
  simp only [HV,List.length_nil]
  omega
 ·rw [vt,h.keys]
  constructor
  ·rintro(rfl|⟨t,h3,h4⟩)
   ·exact⟨_,List.mem_append_right _ (Jj.2 rfl),rfl⟩
   ·exact⟨t,List.mem_append_left _ h3,h4⟩
  ·rintro⟨t,h3,h4⟩
   rcases List.mem_append.1 h3 with h3|h3
   ·exact .inr ⟨t,h3,h4⟩
   ·rw [Jj.1 h3] at h4
    exact .inl h4.symm
 ·rw [wJ]
  by_cases he:n'=n
  ·subst he
   rw [oz] at hg
   cases hg
   rw [Je rfl]
   exact⟨rfl,by omega,h2,hr⟩
  ·rw [ix m _ c he] at hg
   obtain⟨h3,h4,h5,h6⟩:=h.val n' r ks hg
   rw [Jd (Ne.symm he)]
   exact⟨h3,h4,by omega,(hf r h4 h5 fun ks' hg'=>h.sep n' n r r ks ks' hg hg' he rfl).trans h6⟩
 ·by_cases ea:a=n
  ·subst ea
   rw [oz] at ha
   cases ha
   rw [ix m _ c (Ne.symm hab)] at hb
   have:=(h.val b r2 ks2 hb).2.2.1
   omega
  ·rw [ix m _ c ea] at ha
   by_cases eb:b=n
   ·subst eb
    rw [oz] at hb
    cases hb
    have:=(h.val a r ks ha).2.2.1
    omega
   ·rw [ix m _ c eb] at hb
    exact h.sep a b r r2 ks ks2 ha hb hab
end
structure SeM (lt:List (Int×Int)) (o:List ((Int×Int)×Unit×Nat)) (c:Nat):Prop where
 ok:KOk o c
 len:o.length≤lt.length
 keys: ∀ t,t∈o.map (·.1)↔t∈lt
theorem SeM.zero:SeM [] [] 0:=⟨KOk.nil 0,HS _,fun t=>by simp⟩
theorem SeM.add{lt:List (Int×Int)}{o:List ((Int×Int)×Unit×Nat)}{c:Nat}(h:SeM lt o c)(t:Int×Int):SeM (lt ++ [t]) (gO o t () c) (po o t c):=by
 refine⟨h.ok.put t _,?_,fun t'=>?_⟩
 ·have:=qz o t () c
  have:=h.len
  rw [HW]
  simp only [HV,List.length_nil]
  omega
 ·rw [vt,h.keys,List.mem_append,Jj,Or.comm]
end Go.Proofs.YtnhmbonmlfeifaaGreat
end
section
namespace Go.Sy
open Go Go.Sl Go.RowKit
section
variable {A:Type}{P:Program}
theorem gm{P:Program}{A B:Type}(f:A→Sem B): ∀ s:Sem A,aT P (s >>= f)=(aT P s).bind fun a=>aT P (f a)
 | .pure a=>rfl
 | .program k=>gm f (k P)
 | .mark m k=>gm f k
 | .choose q k=>by
   show(bif q.forced then aT P (k 0 >>= f) else none)=(bif q.forced then aT P (k 0) else none).bind _
   cases q.forced with
   | true=>exact gm f (k 0)
   | false=>rfl
 | .load .. =>rfl
 | .store .. =>rfl
 | .new .. =>rfl
 | .shape .. =>rfl
 | .freeze .. =>rfl
 | .frozen .. =>rfl
 | .getObj .. =>rfl
 | .setObj .. =>rfl
 | .sys .. =>rfl
 | .halt .. =>rfl
theorem eU(a:A):aT P (pure a:Sem A)=some a:=rfl
theorem lm(c:Prop) [Decidable c](a b:Sem A):aT P (if c then a else b)=if c then aT P a else aT P b:=by split <;> rfl
theorem iN{t:TypeId}{d:TypeDesc}(h:P.underlying t=some d):aT P (underlying t)=some d:=by
 show aT P (match P.underlying t with|some d=>(pure d:Sem TypeDesc)|none=>stuck "no such type")=_
 rw [h]
 rfl
theorem rU:aT P program=some P:=rfl
end
section
variable {K V:Type} [DecidableEq K]
theorem wl{P:Program}{kt:TypeId}{enc:K→Value}(hE: ∀ a b,aT P (Op.equal kt (enc a) (enc b))=some (decide (a=b)))(k:K): ∀ (l:List (K×SV×Nat)) (i:Nat),
 aT P (Instr.findAsking kt (enc k) (dummies (l.map fun x=>(enc x.1,x.2))) i)=some ((l.findIdx? fun x=>decide (x.1=k)).map fun j=>(i+j,.nilFunc))
 | [],i=>rfl
 | x :: l,i=>by
   have ih:=wl hE k l (i+1)
   simp only [dummies] at ih
   simp only [dummies,HU,Instr.findAsking,gm,hE,HZ,List.findIdx?_cons,lm]
   by_cases h:x.1=k
   ·simp [h,eU]
   ·have h': ¬ k=x.1:=fun e=>h e.symm
    simp only [h,h',decide_false,ih,Option.map_map,Bool.false_eq_true,if_false]
    congr 2
    funext j
    simp only [Function.comp_apply,HH,and_true]
    omega
theorem Ba{P:Program}{kt:TypeId}{kd:TypeDesc}{enc:K→Value}(h:P.underlying kt=some kd)(hn: ∀ a b,Instr.sameNow kd (enc a) (enc b)=none)(hE: ∀ a b,aT P (Op.equal kt (enc a) (enc b))=some (decide (a=b)))
 (hc: ∀ e k,aT P (Instr.checkKey e 10000 kt (enc k))=some ()) (hb: ∀ k,Instr.sameBits 10000 (enc k) (enc k)=true):KEnc P kt enc:=by
 refine⟨fun l k=>?_,fun k=>hc _ _,hb⟩
 unfold nr
 rw [hc]
 simp only
 unfold Instr.findKey
 rw [iM _ h]
 cases l with
 | nil=>rfl
 | cons x l=>
   have e:Instr.findNow kd (enc k) (dummies ((x :: l).map fun x=>(enc x.1,x.2))) 0=none:=by
    simp only [dummies,HU,Instr.findNow,hn]
   rw [e]
   simp only [wl hE]
   cases(x :: l).findIdx? fun x=>decide (x.1=k) <;> simp
variable {P:Program} {T:Tr SV} {H:au} {nx:Nat} {d:Option Tmp} {ty:TypeId} {pos:String} {af:Array Edge} {gd:Option (Nat×Bool)}
section
variable {kk:K}{s:SV}{b c:Nat}{val:V→SV}{e kt t:TypeId}{enc:K→Value}{x y:Operand}{m:List (K×V×Nat)}
theorem AN{v:V}{ok:Bool}(hx:ak T x=some (.mp b))(hy:ak T y=some s)(hs:s.lit=some (enc kk))(hu:P.underlying t=some (.map kt e))(hE:KEnc P kt enc)
 (hb:H.at' b=some (iT enc val m c)) (hg:gC m kk=some v):ReadDoes P T H ⟨d,.lookup t x y ok,ty,pos,af,gd⟩ (bif ok then .tup [val v,.sc (.bool true)] else val v):=by
 refine eH ?_
 have hk:=DH m kk
 unfold cx
 simp only [zi,hy,hs,HZ,hx,gt,hu,hb,iy hE]
 cases hi:m.findIdx? fun x=>decide (x.1=kk)with
 | none=>rw [hi] at hk;rw [hk.1] at hg;cases hg
 | some i=>
   rw [hi] at hk
   obtain⟨z,h1,_,h3,_⟩:=hk
   rw [hg] at h3
   simp only [Ht] at h3
   subst h3
   simp only [Ju,h1,HY]
theorem yx{z:Value}{ok:Bool}(hx:ak T x=some (.mp b))(hy:ak T y=some s)(hs:s.lit=some (enc kk))(hu:P.underlying t=some (.map kt e))(hE:KEnc P kt enc)
 (hb:H.at' b=some (iT enc val m c)) (hg:gC m kk=none) (hz:dM P e=some z):ReadDoes P T H ⟨d,.lookup t x y ok,ty,pos,af,gd⟩ (bif ok then .tup [.sc z,.sc (.bool false)] else .sc z):=by
 refine eH ?_
 have hk:=DH m kk
 unfold cx
 simp only [zi,hy,hs,HZ,hx,gt,hu,hb,iy hE]
 cases hi:m.findIdx? fun x=>decide (x.1=kk)with
 | none=>simp only [hz]
 | some i=>
   rw [hi] at hk
   obtain⟨z,h1,_,h3,_⟩:=hk
   rw [hg] at h3
   cases h3
theorem yP{w:Operand}{v:V}(hx:ak T x=some (.mp b))(hy:ak T y=some s)(hs:s.lit=some (enc kk))(hu:P.underlying t=some (.map kt e))(hE:KEnc P kt enc)
 (hb:H.at' b=some (iT enc val m c)) (hw:ak T w=some (val v)):OpDoes P T H nx ⟨d,.mapUpdate t x y w,ty,pos,af,gd⟩ (.skip,H.set b (iT enc val (gO m kk v c) (po m kk c)),nx):=by
 refine iW ?_
 have hk:=DH m kk
 unfold fN
 simp only [zi,hy,hs,HZ,hx,hw,ox,hu,hb,GA,hE.check,iy hE]
 cases hi:m.findIdx? fun x=>decide (x.1=kk)with
 | none=>
   rw [hi] at hk
   obtain⟨h1,_,h3⟩:=hk
   simp only [iT,vz,h3,po,h1,HX,HU,List.map_nil]
 | some i=>
   rw [hi] at hk
   obtain⟨z,h1,h2,h3,_,h5⟩:=hk
   simp only [iT,vz,h5,po,h3,Ju,h1,HY,h2,hE.bits,cond_true,List.map_set]
end
end
section
variable {P:Program} {ro:Option Nat} {fn nt nx:Nat} {T:Tr SV} {k:List AIt} {dfs:List ADf} {H:au} {Q:Pst} {ops:Array Oper} {i:Nat} {l:List Oper} {d:Option Tmp} {ty:TypeId} {pos:String} {af:Array Edge} {gd:Option (Nat×Bool)}
section
variable {K:Type}{kk:K}{s:SV}{b c:Nat}{V:Type}{val:V→SV}{e kt t:TypeId}{enc:K→Value}{x y:Operand}{m:List (K×V×Nat)}
theorem Al [DecidableEq K]{v:V}{dd:Nat}(hw:aF T ops ⟨some dd,.lookup t x y true,ty,pos,af,gd⟩=some true)(hd:Nat.blt dd nt=true)(hx:ak T x=some (.mp b))(hy:ak T y=some s)(hs:s.lit=some (enc kk))(hu:P.underlying t=some (.map kt e))(hE:KEnc P kt enc)(hb:H.at' b=some (iT enc val m c))(hg:gC m kk=some v)
 (h:Wp P ro ⟨fn,nt,T.set dd (.tup [val v,.sc (.bool true)]),.inReg ops (i+1) l :: k,dfs,H,nx⟩ Q):Wp P ro ⟨fn,nt,T,.inReg ops i (⟨some dd,.lookup t x y true,ty,pos,af,gd⟩ :: l) :: k,dfs,H,nx⟩ Q:=
 cZ hw (.inr (fun _ h=>by cases h)) ((AN (ok:=true) hx hy hs hu hE hb hg).does) (by rw [aI hd];exact h)
theorem Am{V:Type} [DecidableEq K]{val:V→SV}{m:List (K×V×Nat)}{z:Value}{dd:Nat}(hw:aF T ops ⟨some dd,.lookup t x y true,ty,pos,af,gd⟩=some true)(hd:Nat.blt dd nt=true)(hx:ak T x=some (.mp b))(hy:ak T y=some s)(hs:s.lit=some (enc kk))(hu:P.underlying t=some (.map kt e))(hE:KEnc P kt enc)(hb:H.at' b=some (iT enc val m c))(hg:gC m kk=none)(hz:dM P e=some z)
 (h:Wp P ro ⟨fn,nt,T.set dd (.tup [.sc z,.sc (.bool false)]),.inReg ops (i+1) l :: k,dfs,H,nx⟩ Q):Wp P ro ⟨fn,nt,T,.inReg ops i (⟨some dd,.lookup t x y true,ty,pos,af,gd⟩ :: l) :: k,dfs,H,nx⟩ Q:=
 cZ hw (.inr (fun _ h=>by cases h)) ((yx (ok:=true) hx hy hs hu hE hb hg hz).does) (by rw [aI hd];exact h)
theorem Ak [DecidableEq K]{w:Operand}{v:V}(hw:aF T ops ⟨none,.mapUpdate t x y w,ty,pos,af,gd⟩=some true)(hx:ak T x=some (.mp b))(hy:ak T y=some s)(hs:s.lit=some (enc kk))(hu:P.underlying t=some (.map kt e))(hE:KEnc P kt enc)(hb:H.at' b=some (iT enc val m c))(hw2:ak T w=some (val v))
 (h:Wp P ro ⟨fn,nt,T,.inReg ops (i+1) l :: k,dfs,(H.set b (iT enc val (gO m kk v c) (po m kk c))),nx⟩ Q):Wp P ro ⟨fn,nt,T,.inReg ops i (⟨none,.mapUpdate t x y w,ty,pos,af,gd⟩ :: l) :: k,dfs,H,nx⟩ Q:=
 ri hw (.inr (fun _ h=>by cases h)) (yP hx hy hs hu hE hb hw2) h
end
end
end Go.Sy
end
section
namespace Go.Proofs.YtnhmbonmlfeifaaGreat
open Go Go.Sy Go.Sl Go.RowKit
abbrev tE(a:Int×Int):Value:= .agg #[.int .i64 a.1,.int .i64 a.2]
theorem nH{P:Program}{t:TypeId}{cs:Array Value}{off:Nat}{v:Value}{k:IntKind}(hu:P.underlying t=some (.int k))(hv:cs[off]? =some v):aT P (part t cs off)=some v:=by
 simp [part,isAgg,gm,iN hu,hv,eU]
theorem AT{P:Program}{t:TypeId}{a b:Int}(n:Nat)(hu:P.underlying t=some (.int .i64)):aT P (Op.equalIn (n+1) t (.int .i64 a) (.int .i64 b))=some (a == b):=by
 simp [Op.equalIn,gm,iN hu,eU]
theorem my:Tryz.prog.underlying 3=some (.int .i64):=by kernel_rfl
theorem Dj(n:Nat)(a b:Int×Int):aT Tryz.prog (Op.equalIn (n+1+1) 40 (tE a) (tE b))=some (gg a b):=by
 obtain⟨f,g,hl,f1,f2,f3,g1,g2,g3⟩:=fTd2
 have hp:Tryz.prog.stoodInHeld 40=false:=by kernel_rfl
 have hp1:=fun(v:Value) (c:Value)=>nH (P:=Tryz.prog) (t:=3) (cs:= #[v,c]) (off:=0) (v:=v) my rfl
 have hp2:=fun(v:Value) (c:Value)=>nH (P:=Tryz.prog) (t:=3) (cs:= #[v,c]) (off:=1) (v:=c) my rfl
 have he:=fun(x y:Int)=>AT (P:=Tryz.prog) (t:=3) (a:=x) (b:=y) n my
 rw [Op.equalIn]
 simp only [gm,iN uTd,HZ,rU,hp,Bool.false_eq_true,if_false]
 rw [← Array.forIn_toList,hl]
 simp only [List.forIn_cons,List.forIn_nil,gm,lm,Je f1,Je g1,f2,f3,g2,g3,eU,HZ,hp1,hp2,he]
 unfold gg
 by_cases h1:a.1=b.1 <;> by_cases h2:a.2=b.2 <;> simp [h1,h2,eU,gm,hp1,hp2,he]
theorem Di(a b:Int×Int):aT Tryz.prog (Op.equal 40 (tE a) (tE b))=some (decide (a=b)):=by
 have hd:decide (a=b)=gg a b:=by rw [Bool.eq_iff_iff,JE,fu]
 rw [hd]
 exact Dj 9998 a b
theorem Dk(e:Bool)(n:Nat)(a:Int×Int):aT Tryz.prog (Instr.checkKey e (n+1+1) 40 (tE a))=some ():=by
 obtain⟨f,g,hl,f1,f2,f3,g1,g2,g3⟩:=fTd2
 have hi: ∀ v:Value,aT Tryz.prog (Instr.checkKey e (n+1) 3 v)=some ():=fun v=>lz (P:=Tryz.prog) my rfl e n
 have hp1:=fun(v:Value) (c:Value)=>nH (P:=Tryz.prog) (t:=3) (cs:= #[v,c]) (off:=0) (v:=v) my rfl
 have hp2:=fun(v:Value) (c:Value)=>nH (P:=Tryz.prog) (t:=3) (cs:= #[v,c]) (off:=1) (v:=c) my rfl
 rw [Instr.checkKey]
 simp only [gm,iN uTd,HZ]
 rw [← Array.forIn_toList,hl]
 simp [List.forIn_cons,List.forIn_nil,gm,lm,f1,g1,f2,f3,g2,g3,eU,hp1,hp2,hi]
theorem GC(e:Bool)(a:Int×Int):aT Tryz.prog (Instr.checkKey e 10000 40 (tE a))=some ():=Dk e 9998 a
theorem t9:KEnc Tryz.prog 40 tE:=
 Ba uTd (fun a b=>rfl) Di GC (fun k=>by simp [tE,Instr.sameBits])
theorem tD(a:Int×Int):(wE a).lit=some (tE a):=rfl
abbrev aP:Value:= .int .u8 0
abbrev fM:Value:= .int .i64 0
def zt0:List Value:= [aP,aP,aP,aP,aP,aP,aP,aP,aP,aP,aP,aP,aP,aP,aP,aP,aP,aP,aP,aP,aP,aP,aP,aP,aP,aP,aP,aP,aP,aP,aP,aP,aP,aP,aP,aP,aP,aP,aP,aP,aP,aP,aP,aP,aP,aP,aP,aP,aP,aP,aP,aP,aP,aP,aP,aP,aP,aP,aP,aP,aP,aP,aP,aP]
theorem xv:zt0=List.replicate 64 aP:=rfl
def zt1:List Value:=List.append zt0 zt0
theorem xu:zt1=List.replicate 128 aP:=by
 show zt0 ++ zt0=_
 rw [xv,JD]
def zt2:List Value:=List.append zt1 zt1
theorem xt:zt2=List.replicate 256 aP:=by
 show zt1 ++ zt1=_
 rw [xu,JD]
def zt3:List Value:=List.append zt2 zt2
theorem xq:zt3=List.replicate 512 aP:=by
 show zt2 ++ zt2=_
 rw [xt,JD]
def zt4:List Value:=List.append zt3 zt3
theorem xp:zt4=List.replicate 1024 aP:=by
 show zt3 ++ zt3=_
 rw [xq,JD]
def zt5:List Value:=List.append zt4 zt4
theorem xn:zt5=List.replicate 2048 aP:=by
 show zt4 ++ zt4=_
 rw [xp,JD]
def zt6:List Value:=List.append zt5 zt5
theorem xm:zt6=List.replicate 4096 aP:=by
 show zt5 ++ zt5=_
 rw [xn,JD]
def zt7:List Value:=List.append zt6 zt6
theorem xl:zt7=List.replicate 8192 aP:=by
 show zt6 ++ zt6=_
 rw [xm,JD]
def zt8:List Value:=List.append zt7 zt7
theorem xk:zt8=List.replicate 16384 aP:=by
 show zt7 ++ zt7=_
 rw [xl,JD]
def zt9:List Value:=List.append zt8 zt8
theorem BT:zt9=List.replicate 32768 aP:=by
 show zt8 ++ zt8=_
 rw [xk,JD]
def zr0:List Value:=List.append [aP,aP,aP,aP,aP,aP,aP,aP,aP,aP,aP,aP,aP,aP,aP,aP,aP,aP,aP,aP,aP,aP,aP,aP,aP,aP,aP,aP,aP,aP,aP,aP] [aP,aP,aP,aP,aP,aP,aP,aP,aP,aP,aP,aP,aP,aP,aP,aP,aP,aP,aP,aP,aP,aP,aP,aP,aP,aP,aP,aP,aP,aP,aP,aP,aP]
theorem EO:zr0=List.replicate 65 aP:=rfl
def zr1:List Value:=List.append zt0 zr0
theorem EN:zr1=List.replicate 129 aP:=by
 show zt0 ++ zr0=_
 rw [xv,EO,JD]
def zr2:List Value:=List.append zt1 zr1
theorem EM:zr2=List.replicate 257 aP:=by
 show zt1 ++ zr1=_
 rw [xu,EN,JD]
def zr3:List Value:=List.append zt2 zr2
theorem EL:zr3=List.replicate 513 aP:=by
 show zt2 ++ zr2=_
 rw [xt,EM,JD]
def zr4:List Value:=List.append zt3 zr3
theorem EK:zr4=List.replicate 1025 aP:=by
 show zt3 ++ zr3=_
 rw [xq,EL,JD]
def zr5:List Value:=List.append zt4 zr4
theorem EJ:zr5=List.replicate 2049 aP:=by
 show zt4 ++ zr4=_
 rw [xp,EK,JD]
def zr6:List Value:=List.append zt5 zr5
theorem EI:zr6=List.replicate 4097 aP:=by
 show zt5 ++ zr5=_
 rw [xn,EJ,JD]
def zr7:List Value:=List.append zt6 zr6
theorem EH:zr7=List.replicate 8193 aP:=by
 show zt6 ++ zr6=_
 rw [xm,EI,JD]
def zr8:List Value:=List.append zt7 zr7
theorem EG:zr8=List.replicate 16385 aP:=by
 show zt7 ++ zr7=_
 rw [xl,EH,JD]
def zr9:List Value:=List.append zt8 zr8
theorem EF:zr9=List.replicate 32769 aP:=by
 show zt8 ++ zr8=_
 rw [xk,EG,JD]
def zr10:List Value:=List.append zt9 zr9
theorem CM:zr10=List.replicate 65537 aP:=by
 show zt9 ++ zr9=_
 rw [BT,EF,JD]
def zq0:List Value:=List.append [aP,aP,aP,aP,aP,aP,aP,aP,aP,aP,aP,aP,aP,aP,aP,aP,aP,aP,aP,aP,aP,aP,aP,aP,aP,aP,aP,aP,aP,aP,aP,aP] [aP,aP,aP,aP,aP,aP,aP,aP,aP,aP,aP,aP,aP,aP,aP,aP,aP,aP,aP,aP,aP,aP,aP,aP,aP,aP,aP,aP,aP,aP,aP,fM,fM]
theorem EY:zq0=List.replicate 63 aP ++ [fM,fM]:=rfl
def zq1:List Value:=List.append zt0 zq0
theorem EX:zq1=List.replicate 127 aP ++ [fM,fM]:=by
 show zt0 ++ zq0=_
 rw [xv,EY,←Jo,JD]
def zq2:List Value:=List.append zt1 zq1
theorem EW:zq2=List.replicate 255 aP ++ [fM,fM]:=by
 show zt1 ++ zq1=_
 rw [xu,EX,←Jo,JD]
def zq3:List Value:=List.append zt2 zq2
theorem EV:zq3=List.replicate 511 aP ++ [fM,fM]:=by
 show zt2 ++ zq2=_
 rw [xt,EW,←Jo,JD]
def zq4:List Value:=List.append zt3 zq3
theorem EU:zq4=List.replicate 1023 aP ++ [fM,fM]:=by
 show zt3 ++ zq3=_
 rw [xq,EV,←Jo,JD]
def zq5:List Value:=List.append zt4 zq4
theorem ET:zq5=List.replicate 2047 aP ++ [fM,fM]:=by
 show zt4 ++ zq4=_
 rw [xp,EU,←Jo,JD]
def zq6:List Value:=List.append zt5 zq5
theorem ES:zq6=List.replicate 4095 aP ++ [fM,fM]:=by
 show zt5 ++ zq5=_
 rw [xn,ET,←Jo,JD]
def zq7:List Value:=List.append zt6 zq6
theorem ER:zq7=List.replicate 8191 aP ++ [fM,fM]:=by
 show zt6 ++ zq6=_
 rw [xm,ES,←Jo,JD]
def zq8:List Value:=List.append zt7 zq7
theorem EQ:zq8=List.replicate 16383 aP ++ [fM,fM]:=by
 show zt7 ++ zq7=_
 rw [xl,ER,←Jo,JD]
def zq9:List Value:=List.append zt8 zq8
theorem EP:zq9=List.replicate 32767 aP ++ [fM,fM]:=by
 show zt8 ++ zq8=_
 rw [xk,EQ,←Jo,JD]
def zq10:List Value:=List.append zt9 zq9
theorem CN:zq10=List.replicate 65535 aP ++ [fM,fM]:=by
 show zt9 ++ zq9=_
 rw [BT,EP,←Jo,JD]
def zAll:List Value:=List.append zr10 zq10
theorem CP:zAll=List.replicate 131072 aP ++ [fM,fM]:=by
 show zr10 ++ zq10=_
 rw [CM,CN,←Jo,JD]
theorem BW:dM Tryz.prog 30=some (.agg (List.toArray zAll)):=by kernel_rfl
def v8:List UInt8:= [48,49,50,51,52,53,54,55,56,57]
theorem rz{H:au}{nx x:Nat}{k:ByteArray}(hk:k.size≤1000):Fnc Tryz.prog 20 [.sc (.string k),.sc (.int .u64 (x:Int))] H nx (fun q=>VerIs q.2.1 q.1 (k.data.toList,v8,x,0)∧nx≤q.2.2∧ ∀ m,m<nx→q.2.1.at' m=H.at' m):=by
 refine JH Tryz.func20 rfl rfl ?_
 repeat first|apply aj;rfl|refine w_vl (tS (F.un _ rfl) (F.un _ rfl) (F.un _ rfl) rfl (by focus(omega))) rfl rfl rfl ?_|apply bB;rfl;rfl;exact(F.un _ rfl);exact(F.sz _ rfl);rfl;exact(F.ze _ rfl);rfl;rfl;rfl;rfl;rfl
 (refine w_vl (Dp (F.un _ rfl) (F.un _ rfl) rfl (ah _ _ _) (by focus(decide))) rfl rfl rfl ?_)
 repeat first|apply aj;rfl|apply aG;rfl;(focus((repeat(first|exact ac|refine ab (by omega) ?_));done));rfl
 ((apply bn Tryz.func20 (congrArg Array.toList Tryz.results20));(focus(repeat(first|exact JI|apply JJ rfl (JL (F.ag _ rfl) (by repeat(exact ac)) (am _ 0 rfl rfl))))))
 refine⟨⟨.slu (nx+1) 0 k.size,.slu (nx+1+1) 0 10,rfl,jg (ro:=false) ?_ rfl,jg (ro:=false) (n:=10) ?_ rfl⟩,by dsimp only;omega,fun m hm=>by(repeat(refine ab (by omega) ?_));rfl⟩
 ·(focus((repeat(first|exact ac|refine ab (by omega) ?_));done))
 ·refine(aa _ _ (by omega)).trans ((ah _ _ _).trans ?_)
  exact congrArg some (gQ _ _ _ _ (byV v8))
abbrev zeroM:List UInt8:=List.replicate 131072 0
theorem ik:zeroM.length=131072:=Jq
theorem Ah:zAll.map SV.sc=rX zeroM 0 0:=by
 rw [CP,HX,List.map_replicate]
 show _=(byV (List.replicate 131072 0)).map SV.sc ++ _
 rw [show byV (List.replicate 131072 (0:UInt8))=List.replicate 131072 aP from List.map_replicate,List.map_replicate]
 rfl
theorem vV{place:Nat→Option (Nat×Nat)}{cells vc:List SV}{i off size:Nat}{v:SV}(hp:place i=some (off,size))(hv:v.cells=vc)(hl:vc.length=size)(ho:off+size≤cells.length):kK place cells [(i,v)]=some (cells.take off ++ vc ++ cells.drop (off+size)):=by
 subst hv
 have hb:(Nat.beq v.cells.length size && Nat.ble (off+size) cells.length)=true:=by
  rw [HR]
  exact⟨by rw [hl];exact Nat.beq_refl _,HG ho⟩
 simp only [kK,hp,hb,cond_true]
theorem vU:kK (fun i=>([(0,131072),(131072,1),(131073,1)]:List (Nat×Nat))[i]?) ((Value.agg (List.toArray zAll)).cells.toList.map .sc) [(1,.sc (.int .i64 (-1)))]=some (rX zeroM (-1) 0):=by
 have e:(Value.agg (List.toArray zAll)).cells.toList.map SV.sc=rX zeroM 0 0:=(congrArg (List.map SV.sc) (List.toList_toArray ..)).trans Ah
 have hl:=qo ik 0 0
 have h1:=ia ik
 rw [e,vV (vc:= [.sc (.int .i64 (-1))]) (size:=1) (off:=131072) rfl rfl rfl (by rw [hl];exact Hz rfl),List.take_left' h1,←List.drop_drop,List.drop_left' h1,Jo]
 rfl
theorem py: ∀ {a b:List Int},a.Pairwise (·< ·)→b.Pairwise (·< ·)→(∀ x,x∈a↔x∈b)→a=b
 | [],[],_,_,_=>rfl
 | [],y :: b,_,_,h=>absurd ((h y).2 Jl) (by simp)
 | x :: a,[],_,_,h=>absurd ((h x).1 Jl) (by simp)
 | x :: a,y :: b,ha,hb,h=>by
   rw [List.pairwise_cons] at ha hb
   have hxy:x=y:=by
    rcases Js.1 ((h x).1 Jl)with h1|h1
    ·exact h1
    ·rcases Js.1 ((h y).2 Jl)with h2|h2
     ·exact h2.symm
     ·have:=hb.1 x h1
      have:=ha.1 y h2
      omega
   subst hxy
   congr 1
   refine py ha.2 hb.2 fun z=>?_
   constructor
   ·intro hz
    rcases Js.1 ((h z).1 (Jm _ hz))with h1|h1
    ·have:=ha.1 z hz
     omega
    ·exact h1
   ·intro hz
    rcases Js.1 ((h z).2 (Jm _ hz))with h1|h1
    ·have:=hb.1 z hz
     omega
    ·exact h1
theorem w5{l:List (Int×Int)}(hM:tz l){ks K:List Int}(hp:ks.Perm K)(hn:K.Nodup)(hs:ks.Pairwise (fun x y=>bj y x=false))(hk: ∀ n,n∈K↔ ∃ t∈l,t.1=n):ks=jF (dq l):=by
 refine py ?_ ?_ fun x=>?_
 ·have h1:ks.Nodup:=hp.nodup_iff.2 hn
  refine(List.pairwise_and_iff.2 ⟨hs,h1⟩).imp fun {a b} h=>?_
  have h2:=of_decide_eq_false h.1
  have h3:=h.2
  omega
 ·rw [List.pairwise_map]
  exact(kX l).imp fun h=>by omega
 ·rw [hp.mem_iff,hk]
  constructor
  ·rintro⟨t,ht,rfl⟩
   have h2:=Jp (hM.1 t ht)
   have h3:(((t.1.toNat:Nat):Int),((t.2.toNat:Nat):Int))=t:=Prod.ext (by dsimp only;omega) (by dsimp only;omega)
   have h4:t.2.toNat∈aM l t.1.toNat:=(gq hM.1).2 (by rw [h3];exact ht)
   exact JA.2 ⟨t.1.toNat,dP.2 ⟨by omega,by omega,fun e=>by rw [e] at h4;cases h4⟩,by omega⟩
  ·intro h
   obtain⟨n,hn,rfl⟩:=JA.1 h
   obtain⟨_,_,h3⟩:=dP.1 hn
   obtain⟨k,hk⟩:=List.exists_mem_of_ne_nil _ h3
   exact⟨_,(gq hM.1).1 hk,rfl⟩
theorem x9{l:List (Int×Int)}(hl: ∀ t∈l,mu t.1 t.2=true)(n:Nat):ji l (n:Int)=jF (aM l n):=by
 unfold ji aM
 rw [jF,List.map_map]
 refine List.map_congr_left fun t ht=>?_
 have h2:=Jp (hl t (List.mem_filter.1 ht).1)
 show t.2=((t.2.toNat:Nat):Int)
 omega
def x6(S:List Nat):List Nat:=(gM (jF S)).map Int.toNat
theorem Ay(S:List Nat):jF (x6 S)=gM (jF S):=by
 unfold x6
 rw [jF,List.map_map]
 conv=>rhs;rw [← List.map_id (gM (jF S))]
 refine List.map_congr_left fun x hx=>?_
 have h:=(fJ (jF S)).1.mem_iff.1 hx
 obtain⟨n,_,rfl⟩:=JA.1 h
 show((Int.toNat (n:Int):Nat):Int)=(n:Int)
 omega
theorem gf(S:List Nat):(x6 S).Perm S:=by
 have h:=((fJ (jF S)).1).map Int.toNat
 refine h.trans (List.Perm.of_eq ?_)
 rw [jF,List.map_map]
 conv=>rhs;rw [← List.map_id S]
 exact List.map_congr_left fun x _=>Jv x
theorem p5{p:List UInt8}(h:Okp p){S:List Nat}(hS:S.Nodup):rx (x6 S) p=if(∀ k∈S,kY p k=true) then(rd p S,0) else(zeroP,6):=by
 rw [Aj h ((gf S).nodup_iff.2 hS)]
 by_cases hh: ∀ k∈S,kY p k=true
 ·have h2: ∀ k∈x6 S,kY p k=true:=fun k hk=>hh k ((gf S).mem_iff.1 hk)
  rw [Je hh,Je h2]
  have hH:Has p (x6 S):=⟨(gf S).nodup_iff.2 hS,fun n hn=>by
   have:=h2 n hn
   unfold kY at this
   simp at this
   exact this⟩
  rw [zN h hH (gf S)]
 ·have h2: ¬ ∀ k∈x6 S,kY p k=true:=fun h3=>hh fun k hk=>h3 k ((gf S).mem_iff.2 hk)
  rw [Jd hh,Jd h2]
def G2(x:List UInt8):List UInt8:=if x.length=1024 then x else zeroP
theorem Bl(x:List UInt8):(G2 x).length=1024:=by
 unfold G2
 split
 ·assumption
 ·exact ai
theorem zE{x:List UInt8}(h:x.length=1024):G2 x=x:=Je h
abbrev pgV(x:List UInt8):List Value:=byV (G2 x)
theorem Dm(x:List UInt8):(pgV x).length=1024:=by rw [Ji,Bl]
theorem yH:RecOf pgV 1024:=⟨Dm,fun s v hv=>by
 obtain⟨n,_,rfl⟩:=JA.1 hv
 rfl⟩
abbrev pgR(l:List (List UInt8)):VO:=dat false l.length 1024 27 (l.flatMap pgV)
theorem vQ{A:Type}{f:A→List Value}{sz:Nat}(hf:RecOf f sz): ∀ (l:List A) (i:Nat) (hi:i<l.length),((l.flatMap f).drop (i*sz)).take sz=f l[i]
 | [],i,hi=>absurd hi (Nat.not_lt_zero _)
 | x :: l,0,_=>by
   rw [List.flatMap_cons,Nat.zero_mul,List.drop_zero]
   exact List.take_left' (hf.len x)
 | x :: l,i+1,hi=>by
   rw [List.flatMap_cons,Nat.succ_mul,Nat.add_comm,←List.drop_drop,List.drop_left' (hf.len x)]
   exact vQ hf l i (Nat.lt_of_succ_lt_succ hi)
theorem yI{l:List (List UInt8)}{i:Nat}(hi:i<l.length)(h:(l[i]).length=1024):(pgR l).cellsFrom (i*1024) 1024=some (pgS l[i]):=by
 rw [pgR,←gQ]
 refine dF 1024 (i*1024) _ ?_ (be h) (by omega)
 rw [← List.map_drop,←List.map_take,vQ yH l i hi,pgV,zE h]
theorem zPgV:dM Tryz.prog 27=some (.agg (List.replicate 1024 (Value.int .u8 0)).toArray):=by kernel_rfl
theorem DY{zs:List SV}(hz:zs.length=1024){p:List UInt8}(hp:p.length=1024):kK (fun i=>some (i*1024,1024)) zs [(0,.agg (pgS p))]=some (pgS p):=by
 have hl:(pgS p).length=1024:=by rw [Ji,Ji,hp]
 rw [vV (off:=0) (size:=1024) (vc:=pgS p) rfl rfl hl (by omega)]
 rw [List.take_zero,List.nil_append,List.drop_of_length_le (by omega),Jr]
end Go.Proofs.YtnhmbonmlfeifaaGreat
end
