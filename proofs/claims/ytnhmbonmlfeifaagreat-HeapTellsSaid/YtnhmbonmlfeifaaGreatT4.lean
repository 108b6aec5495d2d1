import Derived.Laws.StructEq
import Derived.ChangeKeysEq
import Derived.Test.YtnhmbonmlfeifaaGreatT3
set_option linter.unusedVariables false
set_option linter.unusedSimpArgs false
set_option maxRecDepth 100000
set_option maxHeartbeats 0
section
namespace Go.Proofs.YtnhmbonmlfeifaaGreat
open Go Go.Sy Go.Sl Go.RowKit
section
variable {H:au}{b n nx o:Nat}{l p:List UInt8}
abbrev pgS(p:List UInt8):List SV:=(byV p).map .sc
abbrev pgO(p:List UInt8):VO:=ar 27 (pgS p)
theorem bf(h:p.length=n):(pgS p).length=n:=by simpa using h
def be(p:List UInt8)(o:Nat)(l:List UInt8):List UInt8:=p.take o ++ l ++ p.drop (o+l.length)
theorem bM(h:o+l.length≤p.length):(be p o l).length=p.length:=by
 unfold be
 simp only [JO,JZ,J2]
 omega
def gT(p:List UInt8)(at':Nat):Nat:=beN ((p.drop at').take 2)
def cp(p:List UInt8)(at' n:Nat):List UInt8:=be p at' (beB n 2)
theorem bD(h:o+2≤p.length):(cp p o n).length=p.length:=bM (by rw [bp];exact h)
theorem cL(p:List UInt8)(o:Nat):gT p o<65536:=by
 have h1:=mB ((p.drop o).take 2)
 have h2:((p.drop o).take 2).length≤2:=by rw [JZ];omega
 have h3:256 ^ ((p.drop o).take 2).length≤256 ^ 2:=Nat.pow_le_pow_right (by decide) h2
 unfold gT
 omega
theorem oe{i:Nat}(hi:i<p.length):(pgO p).cell i=some (.sc (.int .u8 ((p[i]).toNat:Int))):=aC (by simp [hi])
theorem mU(hn:(byV l).length=n):(pgS p).take o ++ (byV l).map .sc ++ (pgS p).drop (o+n)=pgS (be p o l):=by
 subst hn
 unfold be
 simp [List.map_take,List.map_drop]
theorem nn{m C:Nat}(hb:H.at' b=some (pgO p))(h:o+m≤p.length):BsIs H (.sl b o m C) (byV ((p.drop o).take m)):=by
 have hl:(byV ((p.drop o).take m)).length=m:=by simp;omega
 refine⟨fun v hv=>?_,.inr (.inr ⟨b,o,C,_,by rw [hl],hb,?_⟩)⟩
 ·obtain⟨c,_,rfl⟩:=Ki.1 hv
  rfl
 ·rw [hl]
  exact am _ o (by simp [List.map_take,List.map_drop]) (by simpa using hl)
theorem jx{r:Nat}{ro:Bool}(hb:H.at' r=some (dat ro n 1 5 (byV l)))(hn:l.length=n):BsIs H (.slu r 0 n) (byV l):=
 BsIs.row (fun v hv=>by obtain⟨c,_,rfl⟩:=Ki.1 hv;rfl) hb (by simpa using hn)
theorem oh(hb:H.at' b=some (pgO p))(hp:p.length=1024)(ho:o+2≤1024):Fnc Tryz.prog 100 [.ptr b 0,.sc (.int .i64 (o:Int))] H nx (fun q=>q=(.sc (.int .i64 (gT p o:Int)),H,nx)):=by
 have hl:((p.drop o).take 2).length=2:=by simp;omega
 have hlt:=cL p o
 have hg: ∀ {nx C:Nat},Fnc Tryz.prog 102 [.sl b o 2 C] H nx (fun q=>q=(.tup [.sc (.int .u64 (gT p o:Int)),.sc (.int .i64 0)],H,nx)):=HQ (nn hb (by omega)) (by omega) (by omega)
 refine Kp Tryz.func100 rfl rfl ?_
 repeat first|apply ai;rfl|apply aL;rfl;omega;omega|apply lm (lw:=o) (hg:=o+2);rfl;rfl;rfl;exact(F.un _ rfl);exact(F.sz _ rfl);rfl;rfl;(focus(omega));(focus(omega));(focus(omega));exact(show o+2-o=2 by omega);rfl;exact(JX o)|apply bU;rfl;kernel_rfl;exact hg|refine cd (bT (F.un _ rfl) (F.un _ rfl) rfl (show _=((gT p o:Nat):Int)from Js _ ⟨by omega,by omega⟩)) rfl rfl rfl ?_
 (apply bP Tryz.func100 Tryz.results100;rfl)
 rfl
abbrev ae(p:List UInt8):Nat:=gT p 14
abbrev aF(p:List UInt8):Nat:=gT p 16
theorem ja(hb:H.at' b=some (pgO p))(hp:p.length=1024):Fnc Tryz.prog 64 [.ptr b 0] H nx (fun q=>q=(.sc (.int .i64 (ae p:Int)),H,nx)):=by
 refine Kp Tryz.func64 rfl rfl ?_
 repeat first|apply ai;rfl|apply bU;rfl;kernel_rfl;exact oh (o:=14) hb hp (by decide)
 (apply bP Tryz.func64 Tryz.results64;rfl)
 rfl
theorem rQ(hb:H.at' b=some (pgO p))(hp:p.length=1024):Fnc Tryz.prog 70 [.ptr b 0] H nx (fun q=>q=(.sc (.int .i64 (aF p:Int)),H,nx)):=by
 refine Kp Tryz.func70 rfl rfl ?_
 repeat first|apply ai;rfl|apply bU;rfl;kernel_rfl;exact oh (o:=16) hb hp (by decide)
 (apply bP Tryz.func70 Tryz.results70;rfl)
 rfl
abbrev EF(f:Nat):SV:= .fn (.func 101) [] [.ptr f 0]
abbrev BZ(b:Nat):VO:=ar 128 [.ptr b 0]
theorem mi:Fnc Tryz.prog 80 [.ptr b 0] H nx (fun q=>q=(EF nx,H.set nx (BZ b),nx+1)):=by
 refine Kp Tryz.func80 rfl rfl ?_
 repeat apply ai;rfl
 (apply bP Tryz.func80 Tryz.results80;rfl)
 rfl
abbrev az(p:List UInt8)(n:Nat):Nat:=gT p (18+4*n)
abbrev aq(p:List UInt8)(n:Nat):Nat:=gT p (18+4*n+2)
theorem oy{f:Nat}(hf:H.at' f=some (BZ b))(hb:H.at' b=some (pgO p))(hp:p.length=1024)(hn:18+4*n+4≤1024):Fnc Tryz.prog 101 [.sc (.int .i64 (n:Int)),.ptr f 0] H nx
 (fun q=>q=(.tup [.sc (.int .i64 (az p n:Int)),.sc (.int .i64 (aq p n:Int))],H,nx)):=by
 have h1: ∀ nx,Fnc Tryz.prog 100 [.ptr b 0,.sc (.int .i64 (18+4*(n:Int)))] H nx (fun q=>q=(.sc (.int .i64 (az p n:Int)),H,nx)):=fun nx=>by
  have:=oh (nx:=nx) (o:=18+4*n) hb hp (by omega)
  rw [show((18+4*n:Nat):Int)=18+4*(n:Int) by omega] at this
  exact this
 have h2: ∀ nx,Fnc Tryz.prog 100 [.ptr b 0,.sc (.int .i64 (18+4*(n:Int)+2))] H nx (fun q=>q=(.sc (.int .i64 (aq p n:Int)),H,nx)):=fun nx=>by
  have:=oh (nx:=nx) (o:=18+4*n+2) hb hp (by omega)
  rw [show((18+4*n+2:Nat):Int)=18+4*(n:Int)+2 by omega] at this
  exact this
 refine Kp Tryz.func101 rfl rfl ?_
 repeat first|apply ai;rfl|apply aL;rfl;omega;omega
 (apply ck;(focus(kernel_rfl));(focus(kernel_rfl)))
 repeat first|apply aU;rfl|refine bk (aw rfl rfl (.inl ⟨rfl,(Js _ ⟨(by focus(omega)),(by focus(omega))⟩).symm⟩)) rfl rfl rfl ?_|refine bk (an (F.ag _ rfl) rfl hf (aC rfl)) rfl rfl rfl ?_|apply b8;rfl;rfl;rfl;(focus(kernel_rfl));exact(h1 _)|apply b8;rfl;rfl;rfl;(focus(kernel_rfl));exact(h2 _)
 refine aA ⟨by kernel_rfl,?_,?_⟩;(focus(repeat(first|exact Kz|apply fw;rfl|apply eL;rfl|refine⟨.inr (by(repeat(refine⟨(by first|exact aw rfl rfl (.inl ⟨rfl,(Js _ ⟨by omega,by omega⟩).symm⟩)|exact an (F.ag _ rfl) rfl (by assumption) (aC rfl)),?_⟩));exact Kz),?_⟩)))
 (apply bP Tryz.func101 Tryz.results101;rfl)
 rfl
theorem pO(hb:H.at' b=some (pgO p))(hp:p.length=1024)(ho:o+2≤1024)(hn:n<65536):Fnc Tryz.prog 66 [.ptr b 0,.sc (.int .i64 (o:Int)),.sc (.int .i64 (n:Int))] H nx
 (fun q=>q.1 = .tup []∧q.2.1.at' b=some (pgO (cp p o n))∧nx≤q.2.2∧ ∀ m,m<nx→m≠b→q.2.1.at' m=H.at' m):=by
 refine Kp Tryz.func66 rfl rfl ?_
 refine aX fun hund=>?_
 have hlt:=hund _ _ hb
 repeat first|apply ai;rfl|refine cd (bT (F.un _ rfl) (F.un _ rfl) rfl (show _=((n:Nat):Int)from Kk _ ⟨by omega,by omega⟩)) rfl rfl rfl ?_
 refine aI rfl rfl rfl (by kernel_rfl) (Ko (Bv (n:=n) (size:=2) (by omega) (by decide) (by decide) (by omega)) ?_)
 rintro⟨_,H2,n2⟩ ⟨rfl,h2,rfl,h4⟩
 dsimp only at h2 h4 ⊢
 have hb2:=(h4 b hlt).trans hb
 repeat first|apply ai;rfl|apply aL;rfl;omega;omega|apply lm (lw:=o) (hg:=o+2);rfl;rfl;rfl;exact(F.un _ rfl);exact(F.sz _ rfl);rfl;rfl;(focus(omega));(focus(omega));(focus(omega));exact(show o+2-o=2 by omega);rfl;exact(JX o)|refine cd (dl rfl rfl (.inl ⟨rfl,rfl⟩)) rfl rfl rfl ?_
 refine oC rfl rfl rfl rfl (F.un _ rfl) (F.sz _ rfl) hb2 (jx h2 (by rw [bp])) (by simp [bp]) (by simp [bp];omega) ?_
 repeat apply ai;rfl
 (apply CF Tryz.func66 Tryz.results66;rfl)
 refine⟨rfl,?_,JT _,fun m hm hmb=>(aa _ _ hmb).trans (h4 m hm)⟩
 rw [ah,mU (by simp [bp])]
 rfl
def bL(p:List UInt8)(n a s:Nat):List UInt8:=cp (cp p (18+4*n) a) (18+4*n+2) s
theorem fF{a s:Nat}(h:18+4*n+4≤p.length):(bL p n a s).length=p.length:=by
 unfold bL
 rw [bD,bD (by omega)]
 rw [bD (by omega)]
 omega
theorem qT(hb:H.at' b=some (pgO p))(hp:p.length=1024){a s:Nat}(hn:18+4*n+4≤1024)(ha:a<65536)(hs:s<65536):Fnc Tryz.prog 65 [.ptr b 0,.sc (.int .i64 (n:Int)),.sc (.int .i64 (a:Int)),.sc (.int .i64 (s:Int))] H nx
 (fun q=>q.1 = .tup []∧q.2.1.at' b=some (pgO (bL p n a s))∧nx≤q.2.2∧ ∀ m,m<nx→m≠b→q.2.1.at' m=H.at' m):=by
 have h1: ∀ {H:au} {nx:Nat},H.at' b=some (pgO p)→Fnc Tryz.prog 66 [.ptr b 0,.sc (.int .i64 (18+4*(n:Int))),.sc (.int .i64 (a:Int))] H nx _:=fun {H nx} hb=>by
  have:=pO (nx:=nx) (o:=18+4*n) hb hp (by omega) ha
  rw [show((18+4*n:Nat):Int)=18+4*(n:Int) by omega] at this
  exact this
 have h2: ∀ {H:au} {nx:Nat},H.at' b=some (pgO (cp p (18+4*n) a))→Fnc Tryz.prog 66 [.ptr b 0,.sc (.int .i64 (18+4*(n:Int)+2)),.sc (.int .i64 (s:Int))] H nx _:=fun {H nx} hb=>by
  have:=pO (nx:=nx) (o:=18+4*n+2) hb (by rw [bD (by omega)];exact hp) (by omega) hs
  rw [show((18+4*n+2:Nat):Int)=18+4*(n:Int)+2 by omega] at this
  exact this
 refine Kp Tryz.func65 rfl rfl ?_
 refine aX fun hund=>?_
 have hlt:=hund _ _ hb
 repeat first|apply ai;rfl|apply aL;rfl;omega;omega
 refine aI rfl rfl rfl (by kernel_rfl) (Ko (h1 hb) ?_)
 rintro⟨_,H2,n2⟩ ⟨rfl,g2,g3,g4⟩
 dsimp only at g2 g3 g4 ⊢
 repeat first|apply ai;rfl|apply aL;rfl;omega;omega
 refine aI rfl rfl rfl (by kernel_rfl) (Ko (h2 g2) ?_)
 rintro⟨_,H3,n3⟩ ⟨rfl,k2,k3,k4⟩
 dsimp only at k2 k3 k4 ⊢
 repeat apply ai;rfl
 (apply CF Tryz.func65 Tryz.results65;rfl)
 exact⟨rfl,k2,JS g3 k3,fun m hm hmb=>(k4 m (by omega) hmb).trans (g4 m hm hmb)⟩
theorem s7:Fnc Tryz.prog 68 [.sc (.int .i64 (n:Int))] H nx (fun q=>q=(.sc (.bool (decide (1≤n∧n≤1000))),H,nx)):=by
 refine Kp Tryz.func68 rfl rfl ?_
 (repeat' (first|apply ai;rfl|(refine dR rfl rfl rfl rfl ?_ ?_ <;> intro hq)|(refine pZ rfl rfl rfl rfl ?_ ?_ <;> intro hq2)))
 all_goals(apply bP Tryz.func68 Tryz.results68;rfl)
 all_goals first|(rw [Ke (by omega)];rfl)|(rw [Kf (by omega)];rfl)
def zeroP:List UInt8:=List.replicate 1024 0
theorem aj:zeroP.length=1024:=J8
def eV(k:UInt8):List UInt8:=cp (zeroP.set 12 k) 16 1024
theorem fT(k:UInt8):(eV k).length=1024:=by
 unfold eV
 rw [bD (by rw [List.length_set,aj];decide),List.length_set,aj]
theorem cj:rU Tryz.prog 27=some (pgS zeroP):=by kernel_rfl
theorem lx(a b:List UInt8)(ha:a.length=1024)(hb:b.length=1024):List.take 0 (pgS a) ++ (SV.agg (pgS b)).cells ++ List.drop (0+1024) (pgS a)=pgS b:=by
 rw [List.take_zero,List.nil_append,JX,List.drop_of_length_le (by simp [ha]),J9]
 rfl
theorem iH(p:List UInt8):bi (pgS p)=true:=by
 induction p with
 | nil=>rfl
 | cons c p ih=>exact ih
theorem bm(hp:p.length=1024):(pgO p).cellsFrom 0 1024=some (pgS p):=
 am _ 0 (by rw [List.drop_zero,JC (by simp [hp])]) (by simp [hp])
theorem ny(p:List UInt8)(i:Nat)(c:UInt8):(pgS p).set i (.sc (.int .u8 (c.toNat:Int)))=pgS (p.set i c):=by simp [List.map_set]
end
section
variable {ro:Option Nat} {fn nt nx d b:Nat} {T:Tr SV} {k k':List AIt} {dfs:List ADf} {H:au} {Q:Pst} {p q:List UInt8}
theorem bv(hp:p.length=1024)(h:ldW xS nt T k=some (b,1024,d,k'))(hb:H.at' b=some (pgO p))(hw:Wp Tryz.prog ro ⟨fn,nt,T.set d (.agg (pgS p)),k',dfs,H,nx⟩ Q):Wp Tryz.prog ro ⟨fn,nt,T,k,dfs,H,nx⟩ Q:=w_ldW jF h hb (bf hp) hw
theorem bE(hp:p.length=1024)(hq:q.length=1024)(h:stW xS nt T k=some (b,1024,pgS p,k'))(hb:H.at' b=some (pgO q))(hw:Wp Tryz.prog ro ⟨fn,nt,T,k',dfs,H.set b (pgO p),nx⟩ Q):Wp Tryz.prog ro ⟨fn,nt,T,k,dfs,H,nx⟩ Q:=w_stW jF h hb (bf hp) (bf hq) (iH p) hw
end
section
variable {H:au}{a b i n nx o:Nat}{ls:List SV}{l p:List UInt8}{seen:List (Nat×Nat)}{bs:List (List Value)}
theorem D9(hi:i<p.length)(c:UInt8):List.take i (pgS p) ++ (SV.sc (.int .u8 (c.toNat:Int))).cells ++ List.drop (i+1) (pgS p)=pgS (p.set i c):=by
 rw [← ny,List.set_eq_take_append_cons_drop,JW (by simpa using hi)]
 simp [SV.cells]
theorem HO(k:UInt8):Fnc Tryz.prog 86 [.sc (.int .u8 (k.toNat:Int))] H nx (fun q=>q.1 = .agg (pgS (eV k))∧nx≤q.2.2∧ ∀ m,m<nx→q.2.1.at' m=H.at' m):=by
 refine Kp Tryz.func86 rfl rfl ?_
 have hl0:(pgS zeroP).length=1024:=by rw [J0,J0];exact aj
 repeat first|apply ai;rfl|apply aH;rfl;(focus((repeat(exact ac));done));rfl|refine aZ rfl rfl cj ?_|apply gA (q:=12);rfl;rfl;rfl;rfl;exact(F.un _ rfl);exact(F.sz _ rfl);(focus(omega));(focus(omega))
 rw [D9 (p:=zeroP) (i:=0+12*1) (by rw [aj];decide) k,show 0+12*1=12 from rfl]
 refine aI rfl rfl rfl (by kernel_rfl) (Ko (pO (b:=nx+1) (p:=zeroP.set 12 k) (o:=16) (n:=1024) (by repeat(exact ac)) (by rw [List.length_set];exact aj) (by decide) (by decide)) ?_)
 rintro⟨_,H2,n2⟩ ⟨rfl,g2,g3,g4⟩
 dsimp only at g2 g3 g4 ⊢
 have hres:H2.at' nx=some (pgO zeroP):=(g4 nx (by omega) (by omega)).trans (by repeat(first|exact ac|refine ab (by omega) ?_))
 have hl:(eV k).length=1024:=fT k
 repeat first|apply ai;rfl|apply aH;rfl;assumption;rfl
 rw [show cp (zeroP.set 12 k) 16 1024=eV k from rfl,lx zeroP (eV k) aj hl]
 ((apply bn Tryz.func86 (congrArg Array.toList Tryz.results86));(focus((apply Kr rfl (Kt (F.ag _ rfl) (by repeat(exact ac)) (bm hl)));(repeat(exact Kq)))))
 exact⟨rfl,by dsimp only;omega,fun m hm=>(aa _ _ (by omega)).trans ((g4 m (by omega) (by omega)).trans (by(repeat(refine ab (by omega) ?_));rfl))⟩
theorem HN(k:UInt8):Fnc Tryz.prog 86 [.sc (.int .u8 (k.toNat:Int))] H nx (fun q=>q=(.agg (pgS (eV k)),H,nx)):=Fnc.bz (Free.agg _) (HO k)
def cK(seen:List (Nat×Nat))(i:Nat):Bool:=seen.any fun x=>decide (x.1≤i∧i<x.1+x.2)
def uE(seen:List (Nat×Nat))(a s:Nat):Bool:=(List.range s).any fun j=>cK seen (a+j)
def fg(p:List UInt8):Nat→Nat→List (Nat×Nat)→Bool→Bool
 | 0,_,_,fine=>fine
 | k+1,n,seen,_=>
   if az p n=0∧aq p n=0 then fg p k (n+1) seen (decide (n+1<ae p))
   else if aq p n<1∨1000<aq p n∨az p n<aF p∨1024<az p n+aq p n then false
   else if uE seen (az p n) (aq p n) then false else fg p k (n+1) ((az p n,aq p n) :: seen) true
def bl(p:List UInt8):Bool:=decide (18+4*ae p≤aF p∧aF p≤1024) && fg p (ae p) 0 [] true
abbrev E0(f:Nat→Bool):List SV:=(List.range 1024).map fun i=> .sc (.bool (f i))
abbrev E1(f:Nat→Bool):VO:=ar 163 (E0 f)
theorem zTak:rU Tryz.prog 163=some (E0 fun _=>false):=by kernel_rfl
theorem vt(f:Nat→Bool)(hi:i<1024):(E1 f).cell i=some (.sc (.bool (f i))):=aC (by simp [hi])
theorem wK(seen:List (Nat×Nat))(a:Nat):cK ((a,0) :: seen)=cK seen:=by
 funext i
 simp only [cK,List.any_cons,Nat.add_zero]
 rw [Kf (by omega),Bool.false_or]
theorem Db(seen:List (Nat×Nat))(h:a≤i):cK ((a,i-a) :: seen) i=cK seen i:=by
 simp only [cK,List.any_cons]
 rw [Kf (by omega),Bool.false_or]
theorem yD(h:a≤i):(E0 (cK ((a,i-a) :: seen))).set i (.sc (.bool true))=E0 (cK ((a,i+1-a) :: seen)):=by
 refine Kg fun j=>?_
 rw [List.getElem?_set,Kc,Kc,J0,List.length_range]
 rcases JY j 1024 with hj|hj
 ·rw [List.getElem?_range hj]
  by_cases he:i=j
  ·subst he
   rw [JW rfl,JW hj]
   simp only [JQ,cK,List.any_cons]
   rw [Ke (by omega),Bool.true_or]
  ·rw [JV he]
   simp only [JQ,cK,List.any_cons]
   rw [show decide (a≤j∧j<a+(i-a))=decide (a≤j∧j<a+(i+1-a))from decide_eq_decide.2 (by omega)]
 ·rw [Kj (by simpa using hj)]
  by_cases he:i=j
  ·subst he
   rw [JW rfl,JV (by omega)]
   rfl
  ·rw [JV he]
   rfl
theorem md{s:Nat}(h1:a≤i)(h2:i<a+s)(h:cK seen i=true):uE seen a s=true:=by
 unfold uE
 rw [List.any_eq_true]
 exact⟨i-a,Kh.2 (by omega),by rw [show a+(i-a)=i by omega];exact h⟩
theorem v8{s:Nat}(h: ∀ j,a≤j→j<a+s→cK seen j=false):uE seen a s=false:=by
 unfold uE
 rw [List.any_eq_false]
 intro j hj
 rw [h (a+j) (by omega) (by have:=Kh.1 hj;omega)]
 decide
theorem DQ(hb:H.at' b=some (pgO p))(hp:p.length=1024):Fnc Tryz.prog 63 [.ptr b 0] H nx (fun q=>q.1 = .sc (.bool (bl p))∧nx≤q.2.2∧ ∀ m,m<nx→q.2.1.at' m=H.at' m):=by
 have hs:ae p<65536:=cL p 14
 have hg:aF p<65536:=cL p 16
 refine Kp Tryz.func63 rfl rfl ?_
 refine aX fun hund=>?_
 have hlt:=hund _ _ hb
 repeat first|apply ai;rfl|apply aL;rfl;omega;omega|apply bU;rfl;kernel_rfl;exact ja hb hp|apply bU;rfl;kernel_rfl;exact rQ hb hp
 refine bh rfl rfl rfl rfl (fun h1=>?_) (fun h1=>?_)
 ·repeat apply ai;rfl
  (apply bP Tryz.func63 Tryz.results63;rfl)
  refine⟨?_,JK _,fun m _=>rfl⟩
  unfold bl
  rw [Kf (by omega)]
  rfl
 repeat apply ai;rfl
 refine dQ rfl rfl rfl rfl (fun h2=>?_) (fun h2=>?_)
 ·repeat apply ai;rfl
  (apply bP Tryz.func63 Tryz.results63;rfl)
  refine⟨?_,JK _,fun m _=>rfl⟩
  unfold bl
  rw [Kf (by omega)]
  rfl
 have hrp:bl p=fg p (ae p) 0 [] true:=by
  unfold bl
  rw [Ke (by omega),Bool.true_and]
 rw [hrp]
 repeat first|apply ai;rfl|apply bU;rfl;kernel_rfl;exact mi|refine aZ rfl rfl zTak ?_
 refine bu (α:=Nat×List (Nat×Nat)×Bool) (fun x=> [(0,.ptr b 0),(3,.sc (.int .i64 (ae p:Int))),(4,.sc (.int .i64 (aF p:Int))),(5,EF nx),(6,.ptr (nx+1) 0),(7,.sc (.bool x.2.2)),(27,.sc (.int .i64 (ae p:Int))),(28,.sc (.int .i64 (x.1:Int)))])
  (fun x H1 n1=>n1=nx+1+1∧x.1≤ae p∧fg p (ae p-x.1) x.1 x.2.1 x.2.2=fg p (ae p) 0 [] true∧H1.at' nx=some (BZ b)∧H1.at' (nx+1)=some (E1 (cK x.2.1))∧ ∀ m,m<nx→H1.at' m=H.at' m) (fun x=>ae p-x.1) (0,[],true)
  ⟨rfl,JL _,rfl,by repeat(first|exact ac|refine ab (by omega) ?_),ah _ _ _,fun m hm=>(aa _ _ (by omega)).trans (aa _ _ (by omega))⟩ (Kv (Ky rfl)) ?_
 rintro⟨n,seen,fine⟩ H1 n1 ⟨rfl,h3,h4,h5,h6,h7⟩ ih
 dsimp only at h3 h4 h5 h6 h7 ih ⊢
 have hb1:=(h7 b hlt).trans hb
 have ha0:az p n<65536:=cL p _
 have hz0:aq p n<65536:=cL p _
 repeat apply ai;rfl
 refine bh rfl rfl rfl rfl (fun h8=>?_) (fun h8=>?_)
 ·have hn:n<ae p:=by omega
  have hgo:fg p (ae p-n) n seen fine=if az p n=0∧aq p n=0 then fg p (ae p-(n+1)) (n+1) seen (decide (n+1<ae p))
   else if aq p n<1∨1000<aq p n∨az p n<aF p∨1024<az p n+aq p n then false
   else if uE seen (az p n) (aq p n) then false else fg p (ae p-(n+1)) (n+1) ((az p n,aq p n) :: seen) true:=by
   rw [show ae p-n=(ae p-(n+1))+1 by omega]
   rfl
  repeat apply ai;rfl
  refine jE rfl rfl rfl rfl (by kernel_rfl) (Ko (oy h5 hb1 hp (n:=n) (by omega)) ?_)
  rintro _ rfl
  dsimp only
  repeat apply ai;rfl
  by_cases hE:az p n=0∧aq p n=0
  ·refine cI rfl rfl rfl rfl (fun _=>?_) (fun hq=>absurd (by omega) hq)
   repeat apply ai;rfl
   refine cI rfl rfl rfl rfl (fun _=>?_) (fun hq=>absurd (by omega) hq)
   repeat first|apply ai;rfl|apply aL;rfl;omega;omega|refine cd (dl rfl rfl (.inr (.inr (.inl ⟨rfl,rfl⟩)))) rfl rfl rfl ?_
   refine ih _ _ _ (n+1,seen,decide (n+1<ae p)) ⟨rfl,hn,?_,h5,h6,h7⟩ (by omega) ?_
   ·rw [← h4,hgo,JW hE]
   ·rw [show decide ((n:Int)<(ae p:Int)-1)=decide (n+1<ae p)from decide_eq_decide.2 (by omega)]
    exact Kv (by repeat(first|exact Kz|refine⟨rfl,?_⟩))
  ·have hgo2:=hgo
   rw [JV hE] at hgo2
   refine cI rfl rfl rfl rfl (fun e1=>?_) (fun e1=>?_)
   ·repeat apply ai;rfl
    refine cI rfl rfl rfl rfl (fun hq=>absurd hq (by omega)) (fun _=>?_)
    repeat apply ai;rfl
    refine bh rfl rfl rfl rfl (fun c1=>?_) (fun c1=>?_)
    ·(repeat(apply ai;rfl));(apply bP Tryz.func63 Tryz.results63;rfl);exact⟨by rw [← h4,hgo2,JW (by omega)];rfl,by dsimp only;omega,h7⟩
    repeat apply ai;rfl
    refine dQ rfl rfl rfl rfl (fun c2=>?_) (fun c2=>?_)
    ·(repeat(apply ai;rfl));(apply bP Tryz.func63 Tryz.results63;rfl);exact⟨by rw [← h4,hgo2,JW (by omega)];rfl,by dsimp only;omega,h7⟩
    repeat apply ai;rfl
    refine bh rfl rfl rfl rfl (fun c3=>?_) (fun c3=>?_)
    ·(repeat(apply ai;rfl));(apply bP Tryz.func63 Tryz.results63;rfl);exact⟨by rw [← h4,hgo2,JW (by omega)];rfl,by dsimp only;omega,h7⟩
    repeat first|apply ai;rfl|apply aL;rfl;omega;omega
    refine dQ rfl rfl rfl rfl (fun c4=>?_) (fun c4=>?_)
    ·(repeat(apply ai;rfl));(apply bP Tryz.func63 Tryz.results63;rfl);exact⟨by rw [← h4,hgo2,JW (by omega)];rfl,by dsimp only;omega,h7⟩
    rw [JV (by omega)] at hgo2
    repeat apply ai;rfl
    refine bu (α:=Nat) (fun i=> [(0,.ptr b 0),(3,.sc (.int .i64 (ae p:Int))),(4,.sc (.int .i64 (aF p:Int))),(5,EF nx),(6,.ptr (nx+1) 0),(8,.sc (.int .i64 (n:Int))),(9,.sc (.int .i64 (az p n:Int))),(10,.sc (.int .i64 (aq p n:Int))),(11,.sc (.int .i64 (i:Int))),(27,.sc (.int .i64 (ae p:Int))),(28,.sc (.int .i64 (n:Int)))])
     (fun i H2 n2=>n2=nx+1+1∧az p n≤i∧i≤az p n+aq p n∧(∀ j,az p n≤j→j<i→cK seen j=false)∧H2.at' nx=some (BZ b)∧H2.at' (nx+1)=some (E1 (cK ((az p n,i-az p n) :: seen)))∧ ∀ m,m<nx→H2.at' m=H.at' m) (fun i=>az p n+aq p n-i) (az p n)
     ⟨rfl,JK _,by omega,fun j g1 g2=>absurd g1 (by omega),h5,by rw [Nat.sub_self];exact h6.trans (congrArg (fun f=>some (E1 f)) (wK _ _).symm),h7⟩ (Kv (Ky rfl)) ?_
    rintro i H2 n2 ⟨rfl,g1,g2,g3,g4,g5,g6⟩ ih2
    repeat first|apply ai;rfl|apply aL;rfl;omega;omega
    refine bh rfl rfl rfl rfl (fun c5=>?_) (fun c5=>?_)
    ·have hi:i<1024:=by omega
     have hc:=vt (cK ((az p n,i-az p n) :: seen)) hi
     rw [Db seen g1] at hc
     cases hci:cK seen i with
     | true=>
       rw [hci] at hc
       repeat first|apply ai;rfl|apply gA (q:=i);rfl;rfl;rfl;rfl;exact(F.un _ rfl);exact(F.sz _ rfl);(focus(omega));(focus(omega))|refine cd (an (F.ag _ rfl) rfl g5 (by rw [JX,Nat.mul_one];exact hc)) rfl rfl rfl ?_
       (apply bP Tryz.func63 Tryz.results63;rfl)
       exact⟨by rw [← h4,hgo2,JW (md (by omega) (by omega) hci)];rfl,by dsimp only;omega,g6⟩
     | false=>
       rw [hci] at hc
       repeat first|apply ai;rfl|apply gA (q:=i);rfl;rfl;rfl;rfl;exact(F.un _ rfl);exact(F.sz _ rfl);(focus(omega));(focus(omega))|refine cd (an (F.ag _ rfl) rfl g5 (by rw [JX,Nat.mul_one];exact hc)) rfl rfl rfl ?_
       refine dq (v:= .sc (.bool true)) (cs:=E0 (cK ((az p n,i-az p n) :: seen))) rfl rfl rfl (F.sz _ rfl) g5 rfl (by rw [JX,Nat.mul_one];exact Jy (by rw [J0,List.length_range];exact hi)) ?_
       rw [JX,Nat.mul_one,yD g1]
       repeat first|apply ai;rfl|apply aL;rfl;omega;omega
       refine ih2 _ _ _ (i+1) ⟨rfl,by omega,by omega,fun j k1 k2=>?_,(aa _ _ (by omega)).trans g4,ah _ _ _,fun m hm=>(aa _ _ (by omega)).trans (g6 m hm)⟩ (by omega) (Kv (Ky rfl))
       rcases JY j i with k3|k3
       ·exact g3 j k1 k3
       ·obtain rfl:j=i:=by omega
        exact hci
    ·obtain rfl:i=az p n+aq p n:=by omega
     rw [Nat.add_sub_cancel_left] at g5
     rw [JV (by rw [v8 g3];decide)] at hgo2
     repeat first|apply ai;rfl|apply aL;rfl;omega;omega
     exact ih _ _ _ (n+1,(az p n,aq p n) :: seen,true) ⟨rfl,hn,by rw [← h4,hgo2],g4,g5,g6⟩ (by omega) (Kv (Ky rfl))
   ·repeat apply ai;rfl
    refine bh rfl rfl rfl rfl (fun c1=>?_) (fun c1=>?_)
    ·(repeat(apply ai;rfl));(apply bP Tryz.func63 Tryz.results63;rfl);exact⟨by rw [← h4,hgo2,JW (by omega)];rfl,by dsimp only;omega,h7⟩
    repeat apply ai;rfl
    refine dQ rfl rfl rfl rfl (fun c2=>?_) (fun c2=>?_)
    ·(repeat(apply ai;rfl));(apply bP Tryz.func63 Tryz.results63;rfl);exact⟨by rw [← h4,hgo2,JW (by omega)];rfl,by dsimp only;omega,h7⟩
    repeat apply ai;rfl
    refine bh rfl rfl rfl rfl (fun c3=>?_) (fun c3=>?_)
    ·(repeat(apply ai;rfl));(apply bP Tryz.func63 Tryz.results63;rfl);exact⟨by rw [← h4,hgo2,JW (by omega)];rfl,by dsimp only;omega,h7⟩
    repeat first|apply ai;rfl|apply aL;rfl;omega;omega
    refine dQ rfl rfl rfl rfl (fun c4=>?_) (fun c4=>?_)
    ·(repeat(apply ai;rfl));(apply bP Tryz.func63 Tryz.results63;rfl);exact⟨by rw [← h4,hgo2,JW (by omega)];rfl,by dsimp only;omega,h7⟩
    rw [JV (by omega)] at hgo2
    repeat apply ai;rfl
    refine bu (α:=Nat) (fun i=> [(0,.ptr b 0),(3,.sc (.int .i64 (ae p:Int))),(4,.sc (.int .i64 (aF p:Int))),(5,EF nx),(6,.ptr (nx+1) 0),(8,.sc (.int .i64 (n:Int))),(9,.sc (.int .i64 (az p n:Int))),(10,.sc (.int .i64 (aq p n:Int))),(11,.sc (.int .i64 (i:Int))),(27,.sc (.int .i64 (ae p:Int))),(28,.sc (.int .i64 (n:Int)))])
     (fun i H2 n2=>n2=nx+1+1∧az p n≤i∧i≤az p n+aq p n∧(∀ j,az p n≤j→j<i→cK seen j=false)∧H2.at' nx=some (BZ b)∧H2.at' (nx+1)=some (E1 (cK ((az p n,i-az p n) :: seen)))∧ ∀ m,m<nx→H2.at' m=H.at' m) (fun i=>az p n+aq p n-i) (az p n)
     ⟨rfl,JK _,by omega,fun j g1 g2=>absurd g1 (by omega),h5,by rw [Nat.sub_self];exact h6.trans (congrArg (fun f=>some (E1 f)) (wK _ _).symm),h7⟩ (Kv (Ky rfl)) ?_
    rintro i H2 n2 ⟨rfl,g1,g2,g3,g4,g5,g6⟩ ih2
    repeat first|apply ai;rfl|apply aL;rfl;omega;omega
    refine bh rfl rfl rfl rfl (fun c5=>?_) (fun c5=>?_)
    ·have hi:i<1024:=by omega
     have hc:=vt (cK ((az p n,i-az p n) :: seen)) hi
     rw [Db seen g1] at hc
     cases hci:cK seen i with
     | true=>
       rw [hci] at hc
       repeat first|apply ai;rfl|apply gA (q:=i);rfl;rfl;rfl;rfl;exact(F.un _ rfl);exact(F.sz _ rfl);(focus(omega));(focus(omega))|refine cd (an (F.ag _ rfl) rfl g5 (by rw [JX,Nat.mul_one];exact hc)) rfl rfl rfl ?_
       (apply bP Tryz.func63 Tryz.results63;rfl)
       exact⟨by rw [← h4,hgo2,JW (md (by omega) (by omega) hci)];rfl,by dsimp only;omega,g6⟩
     | false=>
       rw [hci] at hc
       repeat first|apply ai;rfl|apply gA (q:=i);rfl;rfl;rfl;rfl;exact(F.un _ rfl);exact(F.sz _ rfl);(focus(omega));(focus(omega))|refine cd (an (F.ag _ rfl) rfl g5 (by rw [JX,Nat.mul_one];exact hc)) rfl rfl rfl ?_
       refine dq (v:= .sc (.bool true)) (cs:=E0 (cK ((az p n,i-az p n) :: seen))) rfl rfl rfl (F.sz _ rfl) g5 rfl (by rw [JX,Nat.mul_one];exact Jy (by rw [J0,List.length_range];exact hi)) ?_
       rw [JX,Nat.mul_one,yD g1]
       repeat first|apply ai;rfl|apply aL;rfl;omega;omega
       refine ih2 _ _ _ (i+1) ⟨rfl,by omega,by omega,fun j k1 k2=>?_,(aa _ _ (by omega)).trans g4,ah _ _ _,fun m hm=>(aa _ _ (by omega)).trans (g6 m hm)⟩ (by omega) (Kv (Ky rfl))
       rcases JY j i with k3|k3
       ·exact g3 j k1 k3
       ·obtain rfl:j=i:=by omega
        exact hci
    ·obtain rfl:i=az p n+aq p n:=by omega
     rw [Nat.add_sub_cancel_left] at g5
     rw [JV (by rw [v8 g3];decide)] at hgo2
     repeat first|apply ai;rfl|apply aL;rfl;omega;omega
     exact ih _ _ _ (n+1,(az p n,aq p n) :: seen,true) ⟨rfl,hn,by rw [← h4,hgo2],g4,g5,g6⟩ (by omega) (Kv (Ky rfl))
 ·obtain rfl:n=ae p:=by omega
  rw [Nat.sub_self] at h4
  have h4:fine=fg p (ae p) 0 [] true:=h4
  repeat apply ai;rfl
  (apply bP Tryz.func63 Tryz.results63;rfl)
  exact⟨by rw [← h4];rfl,by dsimp only;omega,h7⟩
theorem gG(hb:H.at' b=some (pgO p))(hp:p.length=1024):Fnc Tryz.prog 63 [.ptr b 0] H nx (fun q=>q=(.sc (.bool (bl p)),H,nx)):=Fnc.bz (fun _ _ _ h=>h) (DQ hb hp)
def dx(p:List UInt8):Nat→Nat→Nat
 | 0,n=>n
 | k+1,n=>if aq p n=0 then n else dx p k (n+1)
def ba(p:List UInt8):Nat:=dx p (ae p) 0
theorem qm(p:List UInt8): ∀ k n,dx p k n≤n+k
 | 0,n=>JK _
 | k+1,n=>by
   unfold dx
   split
   ·omega
   ·have:=qm p k (n+1);omega
theorem pn(p:List UInt8):ba p≤ae p:=by have:=qm p (ae p) 0;unfold ba;omega
def xK(p:List UInt8):Prop:=p.length=1024∧18+4*ae p≤aF p∧aF p≤1024
theorem fH(hp:p.length=1024)(h:bl p=true):xK p:=by
 unfold bl at h
 rw [JJ,Km] at h
 exact⟨hp,h.1⟩
theorem EK(hb:H.at' b=some (pgO p))(hp:xK p):Fnc Tryz.prog 69 [.ptr b 0] H nx (fun q=>q.1 = .sc (.int .i64 (ba p:Int))∧nx≤q.2.2∧ ∀ m,m<nx→q.2.1.at' m=H.at' m):=by
 obtain⟨hp,hp1,hp2⟩:=hp
 have hs:ae p<65536:=cL p 14
 refine Kp Tryz.func69 rfl rfl ?_
 refine aX fun hund=>?_
 have hlt:=hund _ _ hb
 have hb0: ∀ {vo:VO},(H.set nx vo).at' b=some (pgO p):=fun {vo}=>(aa _ _ (by omega)).trans hb
 repeat first|apply ai;rfl|apply bU;rfl;kernel_rfl;exact mi|apply bU;rfl;kernel_rfl;exact ja hb0 hp
 refine bu (α:=Nat) (fun n=> [(0,.ptr b 0),(3,EF nx),(10,.sc (.int .i64 (ae p:Int))),(11,.sc (.int .i64 (n:Int)))])
  (fun n H1 n1=>n1=nx+1∧n≤ae p∧dx p (ae p-n) n=ba p∧H1=H.set nx (BZ b)) (fun n=>ae p-n) 0
  ⟨rfl,JL _,rfl,rfl⟩ (Kv (Ky rfl)) ?_
 rintro n H1 n1 ⟨rfl,h3,h4,rfl⟩ ih
 repeat apply ai;rfl
 refine bh rfl rfl rfl rfl (fun h8=>?_) (fun h8=>?_)
 ·have hgo:dx p (ae p-n) n=if aq p n=0 then n else dx p (ae p-(n+1)) (n+1):=by
   rw [show ae p-n=(ae p-(n+1))+1 by omega]
   rfl
  repeat apply ai;rfl
  refine jE rfl rfl rfl rfl (by kernel_rfl) (Ko (oy (ah _ _ _) hb0 hp (n:=n) (by omega)) ?_)
  rintro _ rfl
  dsimp only
  repeat apply ai;rfl
  refine cI rfl rfl rfl rfl (fun e1=>?_) (fun e1=>?_)
  ·repeat apply ai;rfl
   (apply bP Tryz.func69 Tryz.results69;rfl)
   refine⟨?_,JT _,fun m hm=>aa _ _ (by omega)⟩
   rw [← h4,hgo,JW (by omega)]
   rfl
  ·repeat first|apply ai;rfl|apply aL;rfl;omega;omega
   exact ih _ _ _ (n+1) ⟨rfl,by omega,by rw [← h4,hgo,JV (by omega)],rfl⟩ (by omega) (Kv (Ky rfl))
 ·obtain rfl:n=ae p:=by omega
  rw [Nat.sub_self] at h4
  have h4:ae p=ba p:=h4
  repeat first|apply ai;rfl|apply bU;rfl;kernel_rfl;exact ja hb0 hp
  (apply bP Tryz.func69 Tryz.results69;rfl)
  refine⟨?_,JT _,fun m hm=>aa _ _ (by omega)⟩
  rw [← h4]
  rfl
theorem Ap(hb:H.at' b=some (pgO p))(hp:xK p):Fnc Tryz.prog 69 [.ptr b 0] H nx (fun q=>q=(.sc (.int .i64 (ba p:Int)),H,nx)):=Fnc.bz (fun _ _ _ h=>h) (EK hb hp)
def fQ(p:List UInt8):Nat:=aF p-18-4*ae p-(if ba p=ae p then 4 else 0)
theorem CM(hb:H.at' b=some (pgO p))(hp:xK p):Fnc Tryz.prog 67 [.ptr b 0] H nx (fun q=>q=(.sc (.int .i64 (fQ p:Int)),H,nx)):=by
 have hp0:=hp
 obtain⟨hp,hp1,hp2⟩:=hp
 have hs:ae p<65536:=cL p 14
 have he:=pn p
 refine Kp Tryz.func67 rfl rfl ?_
 repeat first|apply ai;rfl|apply aL;rfl;omega;omega|apply bU;rfl;kernel_rfl;exact ja hb hp|apply bU;rfl;kernel_rfl;exact rQ hb hp|apply bU;rfl;kernel_rfl;exact Ap hb hp0
 refine cI rfl rfl rfl rfl (fun e1=>?_) (fun e1=>?_)
 ·repeat first|apply ai;rfl|apply aL;rfl;omega;omega|apply CE (c:=(fQ p:Int));rfl;rfl;rfl;rfl;(focus(unfold fQ;rw [JW (by omega)];omega))
  (apply bP Tryz.func67 Tryz.results67;rfl)
  rfl
 ·repeat first|apply ai;rfl|apply CE (c:=(fQ p:Int));rfl;rfl;rfl;rfl;(focus(unfold fQ;rw [JV (by omega)];omega))
  (apply bP Tryz.func67 Tryz.results67;rfl)
  rfl
theorem cJ(h:o+l.length≤p.length)(i:Nat):(be p o l)[i]? =if o≤i∧i<o+l.length then l[i-o]? else p[i]? :=by
 have ho:(p.take o).length=o:=by rw [JZ];omega
 unfold be
 rcases JY i o with h1|h1
 ·rw [JV (by omega),J6,JH (by omega),List.getElem?_take_of_lt h1]
 ·rcases JY i (o+l.length)with h2|h2
  ·rw [JW ⟨h1,h2⟩,JH (by rw [JO];omega),J5 (by omega),ho]
  ·rw [JV (by omega),J5 (by rw [JO];omega),JO,ho,List.getElem?_drop]
   congr 1
   omega
theorem jS{q:List UInt8}(h: ∀ i,o≤i→i<o+2→p[i]? =q[i]?):gT p o=gT q o:=by
 unfold gT
 congr 1
 refine Kg fun i=>?_
 rcases JY i 2 with hi|hi
 ·rw [List.getElem?_take_of_lt hi,List.getElem?_take_of_lt hi,List.getElem?_drop,List.getElem?_drop]
  exact h _ (by omega) (by omega)
 ·rw [Kj (by rw [JZ];omega),Kj (by rw [JZ];omega)]
theorem ol{o':Nat}(h:o+l.length≤p.length)(h2:o'+2≤o∨o+l.length≤o'):gT (be p o l) o'=gT p o':=
 jS fun i h3 h4=>by rw [cJ h,JV (by omega)]
theorem cR{o':Nat}(h:o+2≤p.length)(h2:o'+2≤o∨o+2≤o'):gT (cp p o n) o'=gT p o':=
 ol (by rw [bp];exact h) (by rw [bp];exact h2)
theorem ER(h:n<65536):beN (beB n 2)=n:=by
 show 256*(256*0+(UInt8.ofNat (n / 256 ^ 1)).toNat)+(UInt8.ofNat (n / 256 ^ 0)).toNat=n
 have t: ∀ k,(UInt8.ofNat k).toNat=k % 256:=fun k=>by simp
 rw [t,t]
 omega
theorem eR(h:o+2≤p.length)(hn:n<65536):gT (cp p o n) o=n:=by
 have:((cp p o n).drop o).take 2=beB n 2:=by
  unfold cp be
  rw [J6,List.drop_left' (by rw [JZ];omega),List.take_left' (bp n 2)]
 unfold gT
 rw [this,ER hn]
theorem ix:nL Tryz.prog 27 []=some (.agg (pgS zeroP)):=by kernel_rfl
def fv(p:List UInt8):List UInt8:=if ba p=ae p then cp p 14 (ba p+1) else p
def o7(p it:List UInt8):List UInt8:=be (cp (bL (fv p) (ba p) (aF (fv p)-it.length) it.length) 16 (aF (fv p)-it.length)) (aF (fv p)-it.length) it
def nG(p it:List UInt8):List UInt8×Nat×Nat:=
 if bl p=false then(zeroP,0,4) else if ¬ (1≤it.length∧it.length≤1000) then(zeroP,0,2) else if fQ p<it.length then(zeroP,0,5) else(o7 p it,ba p,0)
abbrev insS(r:List UInt8×Nat×Nat):SV:= .tup [.agg (pgS r.1),.sc (.int .i64 (r.2.1:Int)),.sc (.int .i64 (r.2.2:Int))]
theorem BO{it:List UInt8}{s:SV}(hp:p.length=1024)(hB:BsIs H s (byV it))(hit:it.length≤4611686018427387904):Fnc Tryz.prog 30 [.agg (pgS p),s] H nx (fun q=>q.1=insS (nG p it)∧nx≤q.2.2∧ ∀ m,m<nx→q.2.1.at' m=H.at' m):=by
 have hlen:(byV it).length=it.length:=by simp
 refine Kp Tryz.func30 rfl rfl ?_
 refine aX fun hund=>?_
 repeat first|apply ai;rfl|refine aZ rfl rfl cj ?_
 have hb1:((H.set nx (pgO p)).set (nx+1) (pgO zeroP)).at' nx=some (pgO p):=by repeat(first|exact ac|refine ab (by omega) ?_)
 have hz1:((H.set nx (pgO p)).set (nx+1) (pgO zeroP)).at' (nx+1)=some (pgO zeroP):=by repeat(exact ac)
 have ho1: ∀ m,m<nx→((H.set nx (pgO p)).set (nx+1) (pgO zeroP)).at' m=H.at' m:=fun m hm=>by(repeat(refine ab (by omega) ?_));rfl
 have hB2: ∀ H':au,(∀ m,m<nx→H'.at' m=H.at' m)→BsIs H' s (byV it):=fun H' h=>hB.frame fun b vo hb=>(h b (hund b vo hb)).trans hb
 have hB1:=hB2 _ ho1
 generalize (H.set nx (pgO p)).set (nx+1) (pgO zeroP)=H1 at hb1 hz1 ho1 hB1 ⊢
 cases hr:bl p with
 | false=>
   have hv:nG p it=(zeroP,0,4):=by unfold nG;rw [JW hr]
   have hrs:=fun nx=>gG (nx:=nx) hb1 hp
   rw [hr] at hrs
   repeat first|apply ai;rfl|apply aH;rfl;assumption;rfl|apply bU;rfl;kernel_rfl;exact hrs _|refine cd (dg ix) rfl rfl rfl ?_
   rw [lx _ _ aj aj]
   ((apply bn Tryz.func30 (congrArg Array.toList Tryz.results30));(focus((apply Kr rfl (Kt (F.ag _ rfl) (by repeat(exact ac)) (bm aj)));(repeat(first|exact Kq|apply Ks rfl)))))
   exact⟨by rw [hv];rfl,by dsimp only;omega,fun m hm=>(aa _ _ (by omega)).trans (ho1 m hm)⟩
 | true=>
   have hf:=fH hp hr
   have hrs:=fun nx=>gG (nx:=nx) hb1 hp
   rw [hr] at hrs
   have hmi:=fun(H:au) nx=>s7 (H:=H) (nx:=nx) (n:=it.length)
   have hlB:=hlen
   by_cases hm:1≤it.length∧it.length≤1000
   ·have hmt:decide (1≤it.length∧it.length≤1000)=true:=Ke hm
    rw [hmt] at hmi
    repeat first|apply cD;rfl|apply bU;rfl;kernel_rfl;exact hrs _|refine dn rfl rfl (F.un _ rfl) rfl hB1 ?_;rw [hlen]|apply bU;rfl;kernel_rfl;exact hmi _ _|apply bU;rfl;kernel_rfl;exact CM hb1 hf
    refine dQ rfl rfl rfl rfl (fun h1=>?_) (fun h1=>?_)
    ·have hv:nG p it=(zeroP,0,5):=by unfold nG;rw [JV (by rw [hr];decide),JV (fun hq=>hq hm),JW (by omega)]
     repeat first|apply ai;rfl|apply aH;rfl;assumption;rfl|refine cd (dg ix) rfl rfl rfl ?_
     rw [lx _ _ aj aj]
     ((apply bn Tryz.func30 (congrArg Array.toList Tryz.results30));(focus((apply Kr rfl (Kt (F.ag _ rfl) (by repeat(exact ac)) (bm aj)));(repeat(first|exact Kq|apply Ks rfl)))))
     exact⟨by rw [hv];rfl,by dsimp only;omega,fun m hm=>(aa _ _ (by omega)).trans (ho1 m hm)⟩
    ·have hv:nG p it=(o7 p it,ba p,0):=by unfold nG;rw [JV (by rw [hr];decide),JV (fun hq=>hq hm),JV (by omega)]
     have hel:=pn p
     have hf1:=hf.2.1
     have hf2:=hf.2.2
     have hro:it.length+18+4*ae p+(if ba p=ae p then 4 else 0)≤aF p:=by
      have:fQ p=aF p-18-4*ae p-(if ba p=ae p then 4 else 0):=rfl
      omega
     repeat first|apply ai;rfl|apply bU;rfl;kernel_rfl;exact Ap hb1 hf|apply bU;rfl;kernel_rfl;exact ja hb1 hp
     refine cI rfl rfl rfl rfl (fun e1=>?_) (fun e1=>?_)
     ·have en:ba p=ae p:=by omega
      rw [JW en] at hro
      have hmo:cp p 14 (ba p+1)=fv p:=by unfold fv;rw [JW en]
      repeat first|apply ai;rfl|apply aL;rfl;omega;omega
      rw [show((ba p:Nat):Int)+1=((ba p+1:Nat):Int) by omega]
      refine aI rfl rfl rfl (by kernel_rfl) (Ko (pO hb1 hp (o:=14) (n:=ba p+1) (by decide) (by omega)) ?_)
      rintro⟨_,H2,n2⟩ ⟨rfl,hb2,hn2,g4⟩
      dsimp only at hb2 hn2 g4 ⊢
      have hp1:(cp p 14 (ba p+1)).length=1024:=by rw [bD (by omega)];exact hp
      have hbe:aF (cp p 14 (ba p+1))=aF p:=cR (by omega) (by omega)
      have k2: ∀ m,m<nx→H2.at' m=H.at' m:=fun m hm=>(g4 m (by omega) (by omega)).trans (ho1 m hm)
      have hz2:H2.at' (nx+1)=some (pgO zeroP):=(g4 _ (by omega) (by omega)).trans hz1
      generalize cp p 14 (ba p+1)=p1 at hmo hb2 hp1 hbe
      repeat first|apply ai;rfl|apply cD;rfl|apply aL;rfl;omega;omega|apply bU;rfl;kernel_rfl;exact rQ hb2 hp1|(apply dn;rfl;rfl;exact(F.un _ rfl);rfl;exact(hB2 _ k2));rw [hlen]
      rw [show((aF p1:Nat):Int)-(it.length:Int)=((aF p1-it.length:Nat):Int) by omega]
      refine aI rfl rfl rfl (by kernel_rfl) (Ko (qT hb2 hp1 (n:=ba p) (a:=aF p1-it.length) (s:=it.length) (by omega) (by omega) (by omega)) ?_)
      rintro⟨_,H3,n3⟩ ⟨rfl,q2,q3,q4⟩
      dsimp only at q2 q3 q4 ⊢
      have hp2:(bL p1 (ba p) (aF p1-it.length) it.length).length=1024:=by rw [fF (by omega)];exact hp1
      repeat apply ai;rfl
      refine aI rfl rfl rfl (by kernel_rfl) (Ko (pO q2 hp2 (o:=16) (n:=aF p1-it.length) (by decide) (by omega)) ?_)
      rintro⟨_,H4,n4⟩ ⟨rfl,r2,r3,r4⟩
      dsimp only at r2 r3 r4 ⊢
      have hp3:(cp (bL p1 (ba p) (aF p1-it.length) it.length) 16 (aF p1-it.length)).length=1024:=by rw [bD (by omega)];exact hp2
      have k4: ∀ m,m<nx→H4.at' m=H.at' m:=fun m hm=>(r4 m (by omega) (by omega)).trans ((q4 m (by omega) (by omega)).trans (k2 m hm))
      have hz4:H4.at' (nx+1)=some (pgO zeroP):=(r4 _ (by omega) (by omega)).trans ((q4 _ (by omega) (by omega)).trans hz2)
      repeat first|apply ai;rfl|apply lm (lw:=aF p1-it.length) (hg:=1024) (m:=1024-(aF p1-it.length));rfl;rfl;rfl;exact(F.un _ rfl);exact(F.sz _ rfl);rfl;rfl;(focus(omega));(focus(omega));(focus(omega));rfl;rfl;exact(JX _)
      refine oC rfl rfl rfl rfl (F.un _ rfl) (F.sz _ rfl) r2 (hB2 _ k4) (by omega) (by rw [bf hp3];omega) ?_
      rw [mU rfl]
      have hlay:be (cp (bL p1 (ba p) (aF p1-it.length) it.length) 16 (aF p1-it.length)) (aF p1-it.length) it=o7 p it:=by rw [hmo];rfl
      have hp4:(o7 p it).length=1024:=by rw [← hlay,bM (by omega)];exact hp3
      rw [hlay]
      clear hlay
      generalize o7 p it=pL at hv hp4 ⊢
      repeat first|apply bv hp4;rfl;(focus((repeat(exact ac));done))|apply bE hp4 aj;rfl;(focus((repeat(first|assumption|refine ab (by omega) ?_));done))|apply ai;rfl
      ((apply bn Tryz.func30 (congrArg Array.toList Tryz.results30));(focus((apply Kr rfl (Kt (F.ag _ rfl) (by repeat(exact ac)) (bm hp4)));(repeat(first|exact Kq|apply Ks rfl)))))
      exact⟨by rw [hv];rfl,JS (JS (JT _) (JT _)) (JS hn2 (JS q3 r3)),fun m hm=>(aa _ _ (by omega)).trans ((aa _ _ (by omega)).trans (k4 m hm))⟩
     ·have en: ¬ ba p=ae p:=by omega
      rw [JV en] at hro
      obtain⟨p1,hmo,hb2,hp1,hbe⟩: ∃ p1,p1=fv p∧H1.at' nx=some (pgO p1)∧p1.length=1024∧aF p1=aF p:=⟨p,by unfold fv;rw [JV en],hb1,hp,rfl⟩
      have hz2:=hz1
      have k2:=ho1
      have hn2:nx+1+1≤nx+1+1:=JK _
      repeat first|apply ai;rfl|apply cD;rfl|apply aL;rfl;omega;omega|apply bU;rfl;kernel_rfl;exact rQ hb2 hp1|(apply dn;rfl;rfl;exact(F.un _ rfl);rfl;exact(hB2 _ k2));rw [hlen]
      rw [show((aF p1:Nat):Int)-(it.length:Int)=((aF p1-it.length:Nat):Int) by omega]
      refine aI rfl rfl rfl (by kernel_rfl) (Ko (qT hb2 hp1 (n:=ba p) (a:=aF p1-it.length) (s:=it.length) (by omega) (by omega) (by omega)) ?_)
      rintro⟨_,H3,n3⟩ ⟨rfl,q2,q3,q4⟩
      dsimp only at q2 q3 q4 ⊢
      have hp2:(bL p1 (ba p) (aF p1-it.length) it.length).length=1024:=by rw [fF (by omega)];exact hp1
      repeat apply ai;rfl
      refine aI rfl rfl rfl (by kernel_rfl) (Ko (pO q2 hp2 (o:=16) (n:=aF p1-it.length) (by decide) (by omega)) ?_)
      rintro⟨_,H4,n4⟩ ⟨rfl,r2,r3,r4⟩
      dsimp only at r2 r3 r4 ⊢
      have hp3:(cp (bL p1 (ba p) (aF p1-it.length) it.length) 16 (aF p1-it.length)).length=1024:=by rw [bD (by omega)];exact hp2
      have k4: ∀ m,m<nx→H4.at' m=H.at' m:=fun m hm=>(r4 m (by omega) (by omega)).trans ((q4 m (by omega) (by omega)).trans (k2 m hm))
      have hz4:H4.at' (nx+1)=some (pgO zeroP):=(r4 _ (by omega) (by omega)).trans ((q4 _ (by omega) (by omega)).trans hz2)
      repeat first|apply ai;rfl|apply lm (lw:=aF p1-it.length) (hg:=1024) (m:=1024-(aF p1-it.length));rfl;rfl;rfl;exact(F.un _ rfl);exact(F.sz _ rfl);rfl;rfl;(focus(omega));(focus(omega));(focus(omega));rfl;rfl;exact(JX _)
      refine oC rfl rfl rfl rfl (F.un _ rfl) (F.sz _ rfl) r2 (hB2 _ k4) (by omega) (by rw [bf hp3];omega) ?_
      rw [mU rfl]
      have hlay:be (cp (bL p1 (ba p) (aF p1-it.length) it.length) 16 (aF p1-it.length)) (aF p1-it.length) it=o7 p it:=by rw [hmo];rfl
      have hp4:(o7 p it).length=1024:=by rw [← hlay,bM (by omega)];exact hp3
      rw [hlay]
      clear hlay
      generalize o7 p it=pL at hv hp4 ⊢
      repeat first|apply bv hp4;rfl;(focus((repeat(exact ac));done))|apply bE hp4 aj;rfl;(focus((repeat(first|assumption|refine ab (by omega) ?_));done))|apply ai;rfl
      ((apply bn Tryz.func30 (congrArg Array.toList Tryz.results30));(focus((apply Kr rfl (Kt (F.ag _ rfl) (by repeat(exact ac)) (bm hp4)));(repeat(first|exact Kq|apply Ks rfl)))))
      exact⟨by rw [hv];rfl,JS (JS (JT _) (JT _)) (JS hn2 (JS q3 r3)),fun m hm=>(aa _ _ (by omega)).trans ((aa _ _ (by omega)).trans (k4 m hm))⟩
   ·have hmt:decide (1≤it.length∧it.length≤1000)=false:=Kf hm
    rw [hmt] at hmi
    have hv:nG p it=(zeroP,0,2):=by unfold nG;rw [JV (by rw [hr];decide),JW hm]
    repeat first|apply ai;rfl|apply cD;rfl|apply aH;rfl;assumption;rfl|apply bU;rfl;kernel_rfl;exact hrs _|refine dn rfl rfl (F.un _ rfl) rfl hB1 ?_;rw [hlen]|apply bU;rfl;kernel_rfl;exact hmi _ _|refine cd (dg ix) rfl rfl rfl ?_
    rw [lx _ _ aj aj]
    ((apply bn Tryz.func30 (congrArg Array.toList Tryz.results30));(focus((apply Kr rfl (Kt (F.ag _ rfl) (by repeat(exact ac)) (bm aj)));(repeat(first|exact Kq|apply Ks rfl)))))
    exact⟨by rw [hv];rfl,by dsimp only;omega,fun m hm=>(aa _ _ (by omega)).trans (ho1 m hm)⟩
theorem Free.Di{a b c:SV}(ha:Free a)(hb:Free b)(hc:Free c):Free (.tup [a,b,c]):=fun e e' u h=>by
 simp only [SV.conc,SV.aK] at h ⊢
 cases h1:a.conc e with
 | none=>rw [h1] at h;simp at h
 | some x=>
   cases h2:b.conc e with
   | none=>rw [h1,h2] at h;simp at h
   | some y=>
     cases h3:c.conc e with
     | none=>rw [h1,h2,h3] at h;simp at h
     | some z=>
       rw [h1,h2,h3] at h
       rw [ha e e' x h1,hb e e' y h2,hc e e' z h3]
       exact h
theorem tf(r:List UInt8×Nat×Nat):Free (insS r):=Free.Di (Free.agg _) (Free.sc _) (Free.sc _)
theorem ri{it:List UInt8}{s:SV}(hp:p.length=1024)(hB:BsIs H s (byV it))(hit:it.length≤4611686018427387904):Fnc Tryz.prog 30 [.agg (pgS p),s] H nx (fun q=>q=(insS (nG p it),H,nx)):=Fnc.bz (tf _) (BO hp hB hit)
def cq(p:List UInt8)(n:Nat):Nat×Nat×Nat:=if ae p≤n then(0,0,6) else if aq p n=0 then(0,0,6) else(az p n,aq p n,0)
abbrev HU(r:Nat×Nat×Nat):SV:= .tup [.sc (.int .i64 (r.1:Int)),.sc (.int .i64 (r.2.1:Int)),.sc (.int .i64 (r.2.2:Int))]
theorem HT(hb:H.at' b=some (pgO p))(hp:xK p):Fnc Tryz.prog 89 [.ptr b 0,.sc (.int .i64 (n:Int))] H nx (fun q=>q.1=HU (cq p n)∧nx≤q.2.2∧ ∀ m,m<nx→q.2.1.at' m=H.at' m):=by
 obtain⟨hp,hp1,hp2⟩:=hp
 refine Kp Tryz.func89 rfl rfl ?_
 refine aX fun hund=>?_
 have hlt:=hund _ _ hb
 have hb0: ∀ {vo:VO},(H.set nx vo).at' b=some (pgO p):=fun {vo}=>(aa _ _ (by omega)).trans hb
 repeat first|apply ai;rfl|apply bU;rfl;kernel_rfl;exact ja hb hp
 refine dR rfl rfl rfl rfl (fun h1=>?_) (fun h1=>?_)
 ·repeat apply ai;rfl
  (apply bP Tryz.func89 Tryz.results89;rfl)
  refine⟨?_,JK _,fun m hm=>rfl⟩
  unfold cq
  rw [JW (by omega)]
  rfl
 ·repeat first|apply ai;rfl|apply bU;rfl;kernel_rfl;exact mi
  refine jE rfl rfl rfl rfl (by kernel_rfl) (Ko (oy (ah _ _ _) hb0 hp (n:=n) (by omega)) ?_)
  rintro _ rfl
  dsimp only
  repeat apply ai;rfl
  refine cI rfl rfl rfl rfl (fun h2=>?_) (fun h2=>?_)
  ·repeat apply ai;rfl
   (apply bP Tryz.func89 Tryz.results89;rfl)
   refine⟨?_,JT _,fun m hm=>aa _ _ (by omega)⟩
   unfold cq
   rw [JV (by omega),JW (by omega)]
   rfl
  ·repeat apply ai;rfl
   (apply bP Tryz.func89 Tryz.results89;rfl)
   refine⟨?_,JT _,fun m hm=>aa _ _ (by omega)⟩
   unfold cq
   rw [JV (by omega),JV (by omega)]
   rfl
theorem wx(hb:H.at' b=some (pgO p))(hp:xK p):Fnc Tryz.prog 89 [.ptr b 0,.sc (.int .i64 (n:Int))] H nx (fun q=>q=(HU (cq p n),H,nx)):=Fnc.bz (Free.Di (Free.sc _) (Free.sc _) (Free.sc _)) (HT hb hp)
abbrev pgE(r:List UInt8×Nat):SV:= .tup [.agg (pgS r.1),.sc (.int .i64 (r.2:Int))]
theorem hJ(r:List UInt8×Nat):Free (pgE r):=Free.two (Free.agg _) (Free.sc _)
theorem EY(hp:p.length=1024):Fnc Tryz.prog 87 [.agg (pgS p)] H nx (fun q=>q.1 = .sc (.bool (bl p))∧nx≤q.2.2∧ ∀ m,m<nx→q.2.1.at' m=H.at' m):=by
 refine Kp Tryz.func87 rfl rfl ?_
 have hb1:(H.set nx (pgO p)).at' nx=some (pgO p):=ah _ _ _
 repeat first|apply ai;rfl|apply bU;rfl;kernel_rfl;exact gG hb1 hp
 (apply bP Tryz.func87 Tryz.results87;rfl)
 exact⟨rfl,JT _,fun m hm=>aa _ _ (by omega)⟩
theorem EX(hp:p.length=1024):Fnc Tryz.prog 87 [.agg (pgS p)] H nx (fun q=>q=(.sc (.bool (bl p)),H,nx)):=Fnc.bz (fun _ _ _ h=>h) (EY hp)
abbrev HI(f q:Nat):SV:= .fn (.func 79) [] [.ptr f 0,.ptr q 0]
theorem uH(hp:p.length=1024):Fnc Tryz.prog 39 [.agg (pgS p)] H nx (fun q=>q=(HI (nx+1) nx,(H.set nx (pgO p)).set (nx+1) (ar 4 [.sc (.bool (bl p))]),nx+1+1)):=by
 refine Kp Tryz.func39 rfl rfl ?_
 have hb1:(H.set nx (pgO p)).at' nx=some (pgO p):=ah _ _ _
 repeat first|apply ai;rfl|apply aH;rfl;(focus((repeat(exact ac));done));rfl|apply bU;rfl;kernel_rfl;exact gG hb1 hp
 (apply bP Tryz.func39 Tryz.results39;rfl)
 refine Prod.ext rfl (Prod.ext ?_ rfl)
 funext n
 by_cases hn:n=nx+1
 ·subst hn
  exact(ah _ _ _).trans (ah _ _ _).symm
 ·exact(aa _ _ hn).trans ((aa _ _ hn).trans (aa _ _ hn).symm)
def LsIs(H:au)(ls:List SV)(bs:List (List Value)):Prop:=ls.length=bs.length∧ ∀ (j:Nat) s vs,ls[j]? =some s→bs[j]? =some vs→BsIs H s vs
abbrev bsR(ro:Bool)(ls:List SV):VO:=mM ro ls.length 1 35 ls
abbrev u8R(ro:Bool)(vs:List Value):VO:=dat ro vs.length 1 5 vs
abbrev u8Z:Value:= .int .u8 0
theorem LsIs.at(h:LsIs H ls bs){j:Nat}(hj:j<ls.length): ∃ s vs,ls[j]? =some s∧bs[j]? =some vs∧BsIs H s vs:=by
 obtain⟨h1,h2⟩:=h
 exact⟨ls[j],bs[j]'(by omega),by simp [hj],by rw [Ju],h2 j _ _ (by simp [hj]) (by rw [Ju])⟩
theorem jY{j:Nat}{vs:List Value}(h:bs[j]? =some vs):(bs.take (j+1)).flatten=(bs.take j).flatten ++ vs:=by
 rw [List.take_add_one,h]
 simp
theorem uM(bs:List (List Value))(j:Nat):(bs.take j).flatten.length≤bs.flatten.length:=by
 conv=>rhs;rw [← List.take_append_drop j bs,List.flatten_append,JO]
 omega
theorem wv(h: ∀ vs∈bs,t5 vs):t5 bs.flatten:=by
 intro v hv
 obtain⟨l,hl,hv⟩:=List.mem_flatten.1 hv
 exact h l hl v hv
theorem HH{r:Nat}{ro:Bool}(hr:H.at' r=some (bsR ro ls))(hb:LsIs H ls bs)(hsz:bs.flatten.length≤140737488355328)(hl:ls.length≤4611686018427387904):Fnc Tryz.prog 73 [.slu r 0 ls.length] H nx
 (fun q=> ∃ r',q.1 = .slu r' 0 bs.flatten.length∧q.2.1.at' r'=some (u8R false bs.flatten)∧nx≤r'∧r'<q.2.2∧nx≤q.2.2∧ ∀ n,n<nx→q.2.1.at' n=H.at' n):=by
 refine Kp Tryz.func73 rfl rfl ?_
 refine aX fun hund=>?_
 have hlt:=hund _ _ hr
 repeat apply ai;rfl
 refine bu (α:=Nat) (fun j=> [(0,.slu r 0 ls.length),(2,.sc (.slice none 0 0)),(3,.sc (.int .i64 ((bs.take j).flatten.length:Nat))),(9,.slu r 0 ls.length),(10,.sc (.int .i64 (ls.length:Int))),(11,.sc (.int .i64 (j:Int)))]) (fun j H1 n1=>H1=H∧n1=nx∧j≤ls.length) (fun j=>ls.length-j) 0
  ⟨rfl,rfl,JL _⟩ (Kv (Ky rfl)) ?_
 rintro j H1 n1 ⟨rfl,rfl,h1⟩ ih
 repeat apply ai;rfl
 (apply bh;rfl;rfl;rfl;rfl)
 all_goals intro h6
 ·obtain⟨s,vs,g1,g2,g3⟩:=hb.at (j:=j) (by omega)
  have hle:=uM bs (j+1)
  have hft:=jY g2
  rw [hft,JO] at hle
  have hcell:(bsR ro ls).cell (j*1)=some s:=mz (by rw [Nat.mul_one];exact g1) (by omega)
  repeat first|apply ai;rfl|apply cD;rfl|apply aL;rfl;omega;omega|refine di (q:=j) rfl rfl rfl rfl (F.un _ rfl) (F.sz _ rfl) (by assumption) (by omega) (by(omega)) (JK _) ?_|refine cd (an (F.ag _ rfl) rfl hr hcell) rfl rfl rfl ?_|refine dn rfl rfl (F.un _ rfl) rfl g3 ?_
  refine ih _ _ _ (j+1) ⟨rfl,rfl,by omega⟩ (by omega) ?_
  rw [hft,JO]
  exact Kv (by repeat(first|exact Kz|refine⟨rfl,?_⟩))
 ·obtain rfl:j=ls.length:=by omega
  have hall:bs.take ls.length=bs:=JC (by have:=hb.1;omega)
  rw [hall]
  repeat first|apply ai;rfl|apply qC (z:=u8Z) (bb:=1) (n:=0) (m:=bs.flatten.length);rfl;rfl;exact(F.un _ rfl);exact(F.sz _ rfl);exact(F.ze _ rfl);(focus(kernel_rfl));rfl;rfl;rfl;exact(JL _);(focus(omega));(focus(omega))
  have hrep: ∀ n,t5 (List.replicate n u8Z):=fun n v hv=>by rw [(List.mem_replicate.1 hv).2];rfl
  refine bu (α:=Nat) (fun j=> [(0,.slu r 0 ls.length),(6,.slu n1 0 (bs.take j).flatten.length),(22,.slu r 0 ls.length),(23,.sc (.int .i64 (ls.length:Int))),(24,.sc (.int .i64 (j:Int)))]) (fun j H2 n2=>n2=n1+1∧j≤ls.length∧H2.at' n1=some (dat false bs.flatten.length 1 5 ((bs.take j).flatten ++ List.replicate (bs.flatten.length-(bs.take j).flatten.length) u8Z))∧ ∀ n,n<n1→H2.at' n=H1.at' n) (fun j=>ls.length-j) 0
   ⟨rfl,JL _,by rw [ah];simp,fun n hn=>aa _ _ (by omega)⟩ (Kv (Ky rfl)) ?_
  clear ih
  rintro j H2 n2 ⟨rfl,h2,h3,h4⟩ ih
  have hr2:H2.at' r=some (bsR ro ls):=(h4 r hlt).trans hr
  repeat apply ai;rfl
  (apply bh;rfl;rfl;rfl;rfl)
  all_goals intro h7
  ·obtain⟨s,vs,g1,g2,g3⟩:=hb.at (j:=j) (by omega)
   have g4:BsIs H2 s vs:=g3.frame fun b vo hbv=>(h4 b (hund b vo hbv)).trans hbv
   have hle:=uM bs (j+1)
   have hle0:=uM bs j
   have hft:=jY g2
   rw [hft,JO] at hle
   have hcell:(bsR ro ls).cell (j*1)=some s:=mz (by rw [Nat.mul_one];exact g1) (by omega)
   repeat first|apply ai;rfl|refine di (q:=j) rfl rfl rfl rfl (F.un _ rfl) (F.sz _ rfl) (by assumption) (by omega) (by(omega)) (JK _) ?_|refine cd (an (F.ag _ rfl) rfl hr2 hcell) rfl rfl rfl ?_
   rcases Nat.eq_zero_or_pos vs.length with h0|h0
   ·have:vs= []:=JG h0
    subst this
    refine yv (vs:= []) rfl rfl rfl rfl (F.un _ rfl) (.inl ⟨_,F.un _ rfl⟩) (F.sz _ rfl) (by decide) h3 (by omega) (BsIs.rdv g4) g4.1 ?_
    repeat first|apply ai;rfl|apply aL;rfl;omega;omega
    refine ih _ _ _ (j+1) ⟨rfl,by omega,by rw [hft,J9];exact h3,h4⟩ (by omega) ?_
    rw [hft,J9]
    exact Kv (by repeat(first|exact Kz|refine⟨rfl,?_⟩))
   ·refine xd (vs:=vs) (ws:=(bs.take (j+1)).flatten ++ List.replicate (bs.flatten.length-(bs.take (j+1)).flatten.length) u8Z) rfl rfl rfl rfl (F.un _ rfl) (.inl ⟨_,F.un _ rfl⟩) (F.sz _ rfl) h3 (BsIs.rdv g4) g4.1 (by omega) (by omega) (by omega) (by rw [JO,J8];omega) ?_ ?_
    ·rw [hft,JO,JX,Nat.mul_one,Nat.mul_one,List.take_left' rfl,←List.drop_drop,List.drop_left' rfl,List.drop_replicate,Nat.sub_sub]
    ·repeat first|apply ai;rfl|apply aL;rfl;omega;omega
     refine ih _ _ _ (j+1) ⟨rfl,by omega,ah _ _ _,fun n hn=>(aa _ _ (by omega)).trans (h4 n hn)⟩ (by omega) ?_
     rw [hft,JO]
     exact Kv (by repeat(first|exact Kz|refine⟨rfl,?_⟩))
  ·obtain rfl:j=ls.length:=by omega
   rw [hall] at h3 ⊢
   repeat apply ai;rfl
   (apply bP Tryz.func73 Tryz.results73;rfl)
   refine⟨n1,rfl,?_,JK _,Nat.lt_succ_self _,JT _,h4⟩
   rw [Nat.sub_self,List.replicate_zero,J9] at h3
   exact h3
theorem s9{r:Nat}{ro:Bool}(hr:H.at' r=some (bsR ro ls))(hb:LsIs H ls bs)(hsz:bs.flatten.length≤140737488355328)(hl:ls.length≤4611686018427387904):Fnc Tryz.prog 73 [.slu r 0 ls.length] H nx
 (fun q=>q=(.slu nx 0 bs.flatten.length,H.set nx (u8R false bs.flatten),nx+1)):=Fnc.next (HH hr hb hsz hl)
abbrev gt:=List UInt8×List UInt8×Nat×Nat
def iJ(v:gt):Bool:=decide ((1≤v.1.length∧v.1.length≤32)∧v.2.1.length≤128∧(1≤v.2.2.1∧v.2.2.1≤4000)∧v.2.2.2≤4000)
def jp(l:List UInt8):List UInt8:=beB l.length 2 ++ l
def aO(v:gt):List UInt8:=beB v.2.2.1 8 ++ (beB v.2.2.2 8 ++ (jp v.1 ++ jp v.2.1))
theorem ez(v:gt):(aO v).length=20+v.1.length+v.2.1.length:=by
 unfold aO jp
 simp only [JO,bp]
 omega
def eI:Option (List UInt8)→Nat→List UInt8×Option (List UInt8)
 | none,_=>([],none)
 | some l,n=>if n≤l.length then(l.take n,some (l.drop n)) else([],none)
theorem ef(h:n≤l.length):eI (some l) n=(l.take n,some (l.drop n)):=JW h
theorem gW(h:l.length<n):eI (some l) n=([],none):=JV (by omega)
def ir(st:Option (List UInt8)):List UInt8×Option (List UInt8):=eI (eI st 2).2 (beN (eI st 2).1)
theorem qr:ir none=([],none):=rfl
def jP(l:List UInt8):gt×Option (List UInt8):=
 let a:=eI (some l) 8
 let b:=eI a.2 8
 let k:=ir b.2
 let v:=ir k.2
 ((k.1,v.1,beN a.1,beN b.1),v.2)
def C4(st:Option (List UInt8))(v:gt):Option gt:=if st=some []∧iJ v=true then some v else none
theorem uN{st:Option (List UInt8)}{v:gt}(h:st≠some []):C4 st v=none:=JV fun h'=>h h'.1
def ofV(l:List UInt8):Option gt:=if 180<l.length then none else C4 (jP l).2 (jP l).1
def nO(l:List UInt8):gt:=let k:=beN ((l.drop 16).take 2);((l.drop 18).take k,l.drop (20+k),beN (l.take 8),beN ((l.drop 8).take 8))
def ofR(l:List UInt8):Option gt:=
 if l.length<20 then none else if l.length<20+beN ((l.drop 16).take 2) then none
 else if iJ (nO l)=true∧beN ((l.drop (18+beN ((l.drop 16).take 2))).take 2)=(l.drop (20+beN ((l.drop 16).take 2))).length then some (nO l) else none
theorem kO{m:List UInt8}(h2:2≤m.length):ir (some m)=eI (some (m.drop 2)) (beN (m.take 2)):=by
 unfold ir
 rw [ef h2]
theorem pB{m:List UInt8}(h2:m.length<2):ir (some m)=([],none):=by
 unfold ir
 rw [gW h2]
 rfl
theorem of_eq(l:List UInt8):ofV l=ofR l:=by
 have hnone: ∀ {v:gt},C4 none v=none:=uN (fun h=>by cases h)
 unfold ofR
 by_cases h16:l.length<16
 ·rw [JW (by omega)]
  unfold ofV
  rw [JV (by omega)]
  have:(jP l).2=none:=by
   unfold jP
   by_cases h8:l.length<8
   ·rw [gW h8];rfl
   ·rw [ef (by omega)]
    simp only
    rw [gW (by rw [J2];omega)]
    rfl
  rw [this,hnone]
 ·have e1:jP l=(((ir (some (l.drop 16))).1,(ir (ir (some (l.drop 16))).2).1,beN (l.take 8),beN ((l.drop 8).take 8)),(ir (ir (some (l.drop 16))).2).2):=by
   unfold jP
   rw [ef (by omega)]
   simp only
   rw [ef (by rw [J2];omega)]
   simp only [List.drop_drop]
  unfold ofV
  rw [e1]
  by_cases h18:l.length<18
  ·rw [JW (show l.length<20 by omega),JV (by omega),pB (by rw [J2];omega),qr,hnone]
  ·rw [kO (by rw [J2];omega),List.drop_drop,show 16+2=18 from rfl]
   have hver:nO l=((l.drop 18).take (beN ((l.drop 16).take 2)),l.drop (20+beN ((l.drop 16).take 2)),beN (l.take 8),beN ((l.drop 8).take 8)):=rfl
   generalize hk:beN ((l.drop 16).take 2)=k at hver ⊢
   by_cases hk1:l.length<18+k
   ·rw [gW (by rw [J2];omega)]
    simp only [qr]
    rw [hnone]
    have:(if l.length<20 then none else if l.length<20+k then none else if iJ (nO l)=true∧beN ((l.drop (18+k)).take 2)=(l.drop (20+k)).length then some (nO l) else none)=none:=by
     split
     ·rfl
     ·rw [JW (by omega)]
    rw [this]
    split <;> rfl
   ·rw [ef (by rw [J2];omega),List.drop_drop]
    simp only
    by_cases h20:l.length<20+k
    ·rw [pB (by rw [J2];omega)]
     simp only
     rw [hnone,JW h20]
     split <;> (split <;> rfl)
    ·rw [kO (by rw [J2];omega),List.drop_drop,show 18+k+2=20+k by omega]
     generalize hn:beN ((l.drop (18+k)).take 2)=n
     rw [JV (show ¬ l.length<20 by omega),JV h20,hver]
     have hlen:(l.drop (20+k)).length=l.length-(20+k):=J2
     by_cases hn1:n=(l.drop (20+k)).length
     ·rw [ef (by omega),hn1,List.take_length,List.drop_length]
      simp only
      by_cases hm:iJ ((l.drop 18).take k,l.drop (20+k),beN (l.take 8),beN ((l.drop 8).take 8))=true
      ·have hb:=J7 hm
       simp only [JZ,J2] at hb
       rw [JV (show ¬ 180<l.length by omega),JW (show iJ ((l.drop 18).take k,l.drop (20+k),beN (l.take 8),beN ((l.drop 8).take 8))=true∧True from⟨hm,trivial⟩)]
       exact JW ⟨rfl,hm⟩
      ·rw [JV (show ¬ (iJ ((l.drop 18).take k,l.drop (20+k),beN (l.take 8),beN ((l.drop 8).take 8))=true∧True)from fun h=>hm h.1)]
       have:C4 (some []) ((l.drop 18).take k,l.drop (20+k),beN (l.take 8),beN ((l.drop 8).take 8))=none:=JV fun h=>hm h.2
       rw [this]
       split <;> rfl
     ·have hno: ¬ (iJ ((l.drop 18).take k,l.drop (20+k),beN (l.take 8),beN ((l.drop 8).take 8))=true∧n=(l.drop (20+k)).length):=fun h=>hn1 h.2
      rw [JV hno]
      by_cases hn2:(l.drop (20+k)).length<n
      ·rw [gW hn2]
       simp only
       rw [hnone]
       split <;> rfl
      ·rw [ef (by omega)]
       simp only
       rw [uN (fun h=>?_)]
       ·split <;> rfl
       ·have:=congrArg List.length (Option.some.inj h)
        simp only [J2,List.length_nil] at this
        omega
theorem ry: ∀ (l:List UInt8) (a:Nat),l.foldl (fun n c=>256*n+c.toNat) a=a*256 ^ l.length+beN l
 | [],a=>by simp [beN]
 | c :: l,a=>by
   have h1:=ry l (256*a+c.toNat)
   have h2:=ry l c.toNat
   simp only [List.foldl_cons,JN]
   rw [h1]
   have:beN (c :: l)=c.toNat*256 ^ l.length+beN l:=by
    show l.foldl _ (256*0+c.toNat)=_
    rw [Nat.mul_zero,JX,h2]
   rw [this,Nat.pow_succ,Nat.add_mul,Nat.mul_comm (256 ^ l.length) 256,←Nat.mul_assoc,Nat.mul_comm a 256]
   omega
theorem wS(c:UInt8)(l:List UInt8):beN (c :: l)=c.toNat*256 ^ l.length+beN l:=by
 show l.foldl _ (256*0+c.toNat)=_
 rw [Nat.mul_zero,JX,ry]
theorem kQ(n size:Nat):beB n (size+1)=UInt8.ofNat (n / 256 ^ size) :: beB n size:=by
 unfold beB
 rw [List.range_succ_eq_map,JM,List.map_map]
 congr 1
 refine List.map_congr_left fun i _=>?_
 simp only [Function.comp]
 rw [show size+1-1-(i+1)=size-1-i by omega]
theorem AC: ∀ (size n:Nat),beN (beB n size)=n % 256 ^ size
 | 0,n=>by simp [beB,beN,Nat.mod_one]
 | size+1,n=>by
   have e:256 ^ (size+1)=256 ^ size*256:=Nat.pow_succ _ _
   rw [kQ,wS,bp,AC size n,UInt8.toNat_ofNat',e,Nat.mod_mul]
   show n / 256 ^ size % 256*256 ^ size+n % 256 ^ size=_
   rw [Nat.mul_comm (256 ^ size)]
   exact Nat.add_comm _ _
theorem rR{size:Nat}(h:n<256 ^ size):beN (beB n size)=n:=by rw [AC,Nat.mod_eq_of_lt h]
theorem vV{v:gt}(h:iJ v=true):ofV (aO v)=some v:=by
 have hm:=J7 h
 have hl:=ez v
 have e2:beN (beB v.1.length 2)=v.1.length:=rR (by omega)
 have e3:beN (beB v.2.1.length 2)=v.2.1.length:=rR (by omega)
 have e4:beN (beB v.2.2.1 8)=v.2.2.1:=rR (by omega)
 have e5:beN (beB v.2.2.2 8)=v.2.2.2:=rR (by omega)
 have hp:jP (aO v)=(v,some []):=by
  unfold jP
  rw [ef (by rw [hl];omega)]
  unfold aO
  rw [List.take_left' (bp _ _),List.drop_left' (bp _ _)]
  simp only
  rw [ef (by rw [JO,bp];omega),List.take_left' (bp _ _),List.drop_left' (bp _ _)]
  simp only
  unfold jp
  rw [J6,kO (by rw [JO,bp];omega),List.take_left' (bp _ _),List.drop_left' (bp _ _),e2]
  rw [ef (by rw [JO];omega),List.take_left' rfl,List.drop_left' rfl]
  simp only
  rw [kO (by rw [JO,bp];omega),List.take_left' (bp _ _),List.drop_left' (bp _ _),e3]
  rw [ef (JK _),List.take_length,List.drop_length,e4,e5]
 unfold ofV
 rw [JV (by omega),hp]
 exact JW ⟨rfl,h⟩
end
end Go.Proofs.YtnhmbonmlfeifaaGreat
end
section
namespace Go.Sy
open Go Go.Sl Go.RowKit
section
variable {P:Program} {T:Tr SV} {H:au} {nx:Nat} {d:Option Tmp} {ty:TypeId} {pos:String} {af:Array Edge} {gd:Option (Nat×Bool)}
section
variable {n:Nat}{t:TypeId}{x:Operand}
theorem xL{m:Array (String×TypeId)}(hu:P.underlying t=some (.interface m))(w:World):(Op.equal t .nilIface .nilIface).run P w = .ok true w:=by
 have: ∀ n,(Op.equalIn (n+1) t .nilIface .nilIface).run P w = .ok true w:=fun n=>by simp [Op.equalIn,run_underlying hu]
 exact this 9999
theorem jK{yt:TypeId}{m:Array (String×TypeId)}(hx:ak T x=some (.sc .nilIface))(hu:P.underlying t=some (.interface m)):ReadDoes P T H ⟨d,.binOp .neq t x (.const .nilIface) yt,ty,pos,af,gd⟩ (.sc (.bool false)):=by
 refine eK fun ev w he=>?_
 have e1:=he x _ hx _ rfl
 have e2:=he (.const .nilIface) _ rfl _ rfl
 have hg:(eqGuard .neq t x (.const .nilIface) .nilIface .nilIface).run P w = .ok () w:=by cases x <;> rfl
 have hq:(Op.equal t .nilIface .nilIface).run P w = .ok true w:=xL hu w
 have hb:(binOp .neq t .nilIface .nilIface).run P w = .ok (.bool false) w:=by
  simp only [binOp,Sem.run_bind,hq,Result.andThen_ok,Sem.run_pure,Bool.not_true]
 simp only [execOp,e1,e2,Sem.run_bind,hg,hb,Result.andThen_ok,Sem.run_pure]
theorem zB{el:TypeId}{b o C:Nat}{bt:TypeId}{cs:List SV}{z:Value}(hu:P.underlying t=some (.slice el))(hz:dJ P el=some z)(hx:ak T x=some (.sl b o (n+1) C))(hb:H.at' b=some (ar bt cs))(zs:List SV)(hzs:iw z (n+1)=zs)(h1:bi zs=true)(ho:o+zs.length≤cs.length) :
 OpDoes P T H nx ⟨d,.call {callee:= .builtin .clear,args:= #[x],argTypes:= #[t]},ty,pos,af,gd⟩ (.val (.sc (.tuple #[])),H.set b (ar bt (cs.take o ++ zs ++ cs.drop (o+zs.length))),nx):=by
 subst hzs
 have hst:(ar bt cs).setCells o (iw z (n+1))=some (ar bt (cs.take o ++ iw z (n+1) ++ cs.drop (o+(iw z (n+1)).length))):=gY (t:=bt) (iw z (n+1)) cs o ho h1
 have hcp:mv P H nx t (.sl b o (n+1) C)=some (.val (.sc (.tuple #[])),H.set b (ar bt (cs.take o ++ iw z (n+1) ++ cs.drop (o+(iw z (n+1)).length))),nx):=by
  simp only [mv,hu,hz,eW,hb,hst]
 refine jk ?_
 simp only [fV,dw,hx,JR,eT,hcp]
theorem zL{fz:Nat×Nat}(h:Ga fz n):Ga (if(fz.1 == fz.2)=true then(n,n+1) else(min fz.1 n,max fz.2 (n+1))) n:=by
 obtain⟨h1,h2⟩:=h
 split
 ·exact⟨JT _,fun i hi=>by simp;omega⟩
 ·rename_i hne
  simp only [beq_iff_eq] at hne
  have hn:n≤fz.1:=by
   rcases JY fz.1 n with hlt|hge
   ·have:=h2 fz.1 hlt
    simp at this
    omega
   ·exact hge
  refine⟨by simp;omega,fun i hi=>?_⟩
  simp only [Bool.and_eq_false_iff,decide_eq_false_iff_not]
  left
  omega
theorem D5{s el rt:TypeId}{b eo ne:Nat}{c:Tr SV}(hu:P.underlying s=some (.slice el))(he:P.underlying el=some (.int .u8))(hx:ak T x=some (.slu b eo n))(hb:H.at' b=some (.row false ne 1 rt c))(h0:0<ne) :
 OpDoes P T H nx ⟨d,.convert s s x,ty,pos,af,gd⟩ (.val (.slu b eo n),H.set b (.row false ne 1 rt c),nx):=by
 intro K w0 e w ev hS hE
 obtain⟨y,hy,hl⟩:=hS.rel _ _ hb
 obtain⟨g1,g2,g3,g4⟩:=Lies.row hl
 have hnil:=g3 h0
 rcases hl with ⟨q0,o,q1,q2,q3⟩|⟨q,_⟩
 ·obtain⟨f0,cs,fz,tt,rfl,f2,f3,f4,f5,f6,f7⟩:=q3
  obtain⟨lo,hi⟩:=fz
  have hv:(SV.slu b eo n).conc e=some (.slice (some ⟨y.blk,y.base+eo*y.sz,none⟩) n (y.cap-eo)):=by simp [SV.conc,hy,Ent.at,hnil]
  have e1:=hE x _ hx
  rw [hv] at e1
  simp only [Jr] at e1
  have hsh:w.shape? y.blk=some (tt,cs.size):=by
   unfold World.shape?
   rw [q2]
  have hfz:(w.freeze ⟨y.blk,cs.size,none⟩ 1).heap[y.blk]? =some (.cells cs tt (if(lo == hi)=true then(cs.size,cs.size+1) else(min lo cs.size,max hi (cs.size+1)))):=by
   unfold World.freeze
   rw [JV (by decide)]
   simp [Array.getElem?_modify,q2]
  have ht:Turned w (w.freeze ⟨y.blk,cs.size,none⟩ 1) y.blk:=by
   unfold World.freeze
   rw [JV (by decide)]
   refine⟨rfl,rfl,rfl,by simp,fun j _ hj=>?_⟩
   simp [Array.getElem?_modify,Ne.symm hj]
  have hrun:(Go.convert s s (.slice (some ⟨y.blk,y.base+eo*y.sz,none⟩) n (y.cap-eo))).run P w = .ok (.slice (some ⟨y.blk,y.base+eo*y.sz,none⟩) n (y.cap-eo)) (w.freeze ⟨y.blk,cs.size,none⟩ 1):=by
   simp [Go.convert,run_underlying hu,run_underlying he,markStringish,hsh]
  refine⟨e,w.freeze ⟨y.blk,cs.size,none⟩ 1,Kw e,hS.upd hb hy hnil rfl rfl ht hfz ⟨f0,cs,_,tt,rfl,f2,f3,f4,fun _=>zL (fz:=(lo,hi)) (f5 rfl),f6,f7⟩,_,hv,?_⟩
  simp only [execOp,←e1]
  simp [hrun]
 ·rw [hnil] at q
  cases q
end
end
section
variable {P:Program} {ro:Option Nat} {fn nt nx i:Nat} {T:Tr SV} {k:List AIt} {dfs:List ADf} {H:au} {Q:Pst} {ops:Array Oper} {l:List Oper} {ty:TypeId} {pos:String} {af:Array Edge} {gd:Option (Nat×Bool)}
section
variable {args:List SV}{x:Operand}
theorem lF{as1:List Operand}{ats:Array TypeId}{g:FuncId}{fa fb:List SV}(hw:aE T ops ⟨none,.defer {callee:= .value x,args:=as1.toArray,argTypes:=ats},ty,pos,af,gd⟩=some true)(hx:ak T x=some (.fn (.func g) fa fb))(ha:dw T as1=some args)(hm:bW P g=true)
 (h:Wp P none ⟨fn,nt,T,.inReg ops (i+1) l :: k,.call g (fa ++ args ++ fb) :: dfs,H,nx⟩ Q):Wp P none ⟨fn,nt,T,.inReg ops i (⟨none,.defer {callee:= .value x,args:=as1.toArray,argTypes:=ats},ty,pos,af,gd⟩ :: l) :: k,dfs,H,nx⟩ Q:=by
 refine .step (.inr ⟨hw,.inl rfl,OpDoes.any (out:=(.dfr (.call g (fa ++ args ++ fb)),H,nx)) ?_ ⟨rfl,h⟩⟩)
 intro K w0 e w ev hS hE
 refine mn hS hE ?_
 unfold fV
 simp only [ce,ha,hx,dL,hm,cond_true]
theorem jD{dd:Nat}(hw:aE T ops ⟨some dd,.call {callee:= .builtin .recover,args:= #[],argTypes:= #[]},ty,pos,af,gd⟩=some true)(hd:Nat.blt dd nt=true)
 (h:Wp P none ⟨fn,nt,T.set dd (.sc .nilIface),.inReg ops (i+1) l :: k,dfs,H,nx⟩ Q):Wp P none ⟨fn,nt,T,.inReg ops i (⟨some dd,.call {callee:= .builtin .recover,args:= #[],argTypes:= #[]},ty,pos,af,gd⟩ :: l) :: k,dfs,H,nx⟩ Q:=by
 refine .step (.inr ⟨hw,.inl rfl,OpDoes.any (out:=(.recover,H,nx)) ?_ ⟨rfl,?_⟩⟩)
 ·intro K w0 e w ev hS hE
  refine mn hS hE ?_
  unfold fV
  simp only [dw,JR,eT]
 ·rw [aG hd]
  exact h
theorem lV{name:String}{as1:List Operand}{ats:Array TypeId}{t:TypeId}{v:SV}{dd:Nat}(g:FuncId)(hw:aE T ops ⟨some dd,.call {callee:= .invoke x name,args:=as1.toArray,argTypes:=ats},ty,pos,af,gd⟩=some true)(hd:Nat.blt dd nt=true)(hx:ak T x=some (.ifc t v))(ha:dw T as1=some args)(hm:lK P t name=some g)
 (h:Fnc P g (v :: args) H nx (fun r=>Wp P ro ⟨fn,nt,T.set dd r.1,.inReg ops (i+1) l :: k,dfs,r.2.1,r.2.2⟩ Q)) :
 Wp P ro ⟨fn,nt,T,.inReg ops i (⟨some dd,.call {callee:= .invoke x name,args:=as1.toArray,argTypes:=ats},ty,pos,af,gd⟩ :: l) :: k,dfs,H,nx⟩ Q:=by
 refine ve hw (args:=v :: args) ?_ (by simp only [aG hd];exact h)
 simp only [ce,ha,hx,hm]
theorem AZ{t el:TypeId}{b o n C:Nat}{bt:TypeId}{cs:List SV}{z:Value}{dd:Option Nat}(zs:List SV)(hw:aE T ops ⟨dd,.call {callee:= .builtin .clear,args:= #[x],argTypes:= #[t]},ty,pos,af,gd⟩=some true)(hx:ak T x=some (.sl b o (n+1) C))(hu:P.underlying t=some (.slice el))(hz:dJ P el=some z)(hb:H.at' b=some (ar bt cs))(hzs:iw z (n+1)=zs)(h1:bi zs=true)(ho:o+zs.length≤cs.length)
 (h:Wp P ro ⟨fn,nt,mG nt T dd (.sc (.tuple #[])),.inReg ops (i+1) l :: k,dfs,H.set b (ar bt (cs.take o ++ zs ++ cs.drop (o+zs.length))),nx⟩ Q):Wp P ro ⟨fn,nt,T,.inReg ops i (⟨dd,.call {callee:= .builtin .clear,args:= #[x],argTypes:= #[t]},ty,pos,af,gd⟩ :: l) :: k,dfs,H,nx⟩ Q:=
 cS hw (.inr (fun _ h=>by cases h)) (zB hu hz hx hb zs hzs h1 ho) h
theorem eE{rl:List ResultVar}{F:Func}{g:FuncId}(hf:P.funcs[fn]? =some F)(hl:F.results.toList=rl)(hg:bW P g=true)(h:Fnc P g args H nx (fun r=> ∃ vs,ResIs P r.2.1 T rl vs∧Q (fY vs,r.2.1,r.2.2))):Wp P none ⟨fn,nt,T,.code .ret :: k,[.call g args],H,nx⟩ Q:=by
 refine CC (Ej hg (Ko h ?_))
 rintro⟨v,H',n'⟩ ⟨vs,h1,h2⟩
 exact CS (by simp only [fh,hf,hl]) h1.res h2
end
end
end Go.Sy
end
section
namespace Go.Proofs.YtnhmbonmlfeifaaGreat
open Go Go.Sy Go.Sl Go.RowKit
section
variable {H H':au}{s:SV}{v:gt}{b n nx o r:Nat}{l p:List UInt8}{st:Option (List UInt8)}
abbrev dA:SV:= .sc (.slice none 0 0)
abbrev rdO(s:SV)(w:Bool):VO:=ar 167 [s,.sc (.bool w)]
theorem Dd(H:au):BsIs H dA (byV []):=⟨fun v hv=>by simp at hv,.inl ⟨rfl,_,_,rfl⟩⟩
theorem zF(l:List UInt8):t5 (byV l):=fun v hv=>by obtain⟨c,_,rfl⟩:=Ki.1 hv;rfl
theorem bN(l:List UInt8):(byV l).length=l.length:=J0 _
def BlkAt(H:au)(r o:Nat)(l:List UInt8):Prop:= ∃ vo,H.at' r=some vo∧vo.cellsFrom o l.length=some ((byV l).map .sc)
theorem BlkAt.bs{C:Nat}(h:BlkAt H r o l):BsIs H (.sl r o l.length C) (byV l):=by
 obtain⟨vo,h1,h2⟩:=h
 exact⟨zF l,.inr (.inr ⟨r,o,C,vo,by rw [bN],h1,by rw [bN];exact h2⟩)⟩
theorem iq{vo:VO}: ∀ (n m o:Nat) (l:List SV),vo.cellsFrom o (n+m)=some l→vo.cellsFrom o n=some (l.take n)∧vo.cellsFrom (o+n) m=some (l.drop n)
 | 0,m,o,l,h=>by
   rw [JX] at h
   exact⟨by simp [VO.cellsFrom],by simpa using h⟩
 | n+1,m,o,l,h=>by
   rw [show n+1+m=(n+m)+1 by omega] at h
   simp only [VO.cellsFrom] at h ⊢
   cases h1:vo.cell o with
   | none=>rw [h1] at h;cases h
   | some s=>
     rw [h1] at h
     simp only at h ⊢
     cases h2:vo.cellsFrom (o+1) (n+m)with
     | none=>rw [h2] at h;cases h
     | some l'=>
       rw [h2] at h
       simp only [Jr] at h
       subst h
       obtain⟨g1,g2⟩:=iq n m (o+1) l' h2
       rw [g1,show o+(n+1)=o+1+n by omega]
       exact⟨by simp,by simpa using g2⟩
theorem BlkAt.part(h:BlkAt H r o l)(hn:n≤l.length):BlkAt H r o (l.take n)∧BlkAt H r (o+n) (l.drop n):=by
 obtain⟨vo,h1,h2⟩:=h
 rw [show l.length=n+(l.length-n) by omega] at h2
 obtain⟨g1,g2⟩:=iq n (l.length-n) o _ h2
 refine⟨⟨vo,h1,?_⟩,⟨vo,h1,?_⟩⟩
 ·rw [JZ,Nat.min_eq_left hn,g1]
  simp [List.map_take]
 ·rw [J2,g2]
  simp [List.map_drop]
theorem BlkAt.frame(h:BlkAt H r o l)(hf:H'.at' r=H.at' r):BlkAt H' r o l:=by
 obtain⟨vo,h1,h2⟩:=h
 exact⟨vo,hf.trans h1,h2⟩
theorem BlkAt.none(H:au){vo:VO}(h:H.at' r=some vo)(o:Nat):BlkAt H r o []:=⟨vo,h,rfl⟩
def RdSt(H:au)(b r:Nat):Option (List UInt8)→Prop
 | some l=> ∃ o C,H.at' b=some (rdO (.sl r o l.length C) true)∧l.length≤C∧BlkAt H r o l
 | none=> ∃ s,H.at' b=some (rdO s false)
def BlkS(H:au)(s:SV)(r:Nat)(l:List UInt8):Prop:=(s=dA∧l= [])∨ ∃ o C,s = .sl r o l.length C∧BlkAt H r o l
theorem BlkS.bs(h:BlkS H s r l):BsIs H s (byV l):=by
 rcases h with ⟨rfl,rfl⟩|⟨o,C,rfl,h⟩
 ·exact Dd _
 ·exact h.bs
theorem BlkS.frame(h:BlkS H s r l)(hf:H'.at' r=H.at' r):BlkS H' s r l:=by
 rcases h with h|⟨o,C,h1,h2⟩
 ·exact .inl h
 ·exact .inr ⟨o,C,h1,h2.frame hf⟩
theorem kL{w:Bool}(hb:H.at' b=some (rdO s w)):Fnc Tryz.prog 104 [.ptr b 0] H nx (fun q=>q=(.sc (.bool (!w)),H,nx)):=by
 refine Kp Tryz.func104 rfl rfl ?_
 repeat first|apply ai;rfl|apply aH;rfl;assumption;rfl|refine cd (fi rfl rfl (F.un _ rfl) rfl) rfl rfl rfl ?_
 (apply bP Tryz.func104 Tryz.results104;rfl)
 rfl
theorem vu{n:Int}(hb:H.at' b=some (rdO s true))(hs:BsIs H s (byV l))(hn:n<0∨(l.length:Int)<n):Fnc Tryz.prog 103 [.ptr b 0,.sc (.int .i64 n)] H nx (fun q=> ∃ H',q=(dA,H',nx)∧H'.at' b=some (rdO dA false)∧ ∀ m,m≠b→H'.at' m=H.at' m):=by
 refine Kp Tryz.func103 rfl rfl ?_
 (repeat' (first|apply ai;rfl|apply aH;rfl;(focus((repeat(first|assumption|exact ac));done));rfl|refine GZ (da (F.sz _ rfl) rfl rfl rfl (by assumption) (by rfl) (by exact Jw rfl) (by rfl)) rfl rfl ?_|apply bU;rfl;kernel_rfl;exact kL hb|(refine bh rfl rfl rfl rfl ?_ ?_ <;> intro hq1)|refine dn rfl rfl (F.un _ rfl) rfl hs ?_;rw [bN]|(refine dQ rfl rfl rfl rfl ?_ ?_ <;> intro hq2)|exfalso;omega))
 all_goals(apply bP Tryz.func103 Tryz.results103;rfl)
 all_goals exact⟨_,rfl,ah _ _ _,fun m hm=>(aa _ _ hm).trans (aa _ _ hm)⟩
theorem yG{n:Int}(hb:H.at' b=some (rdO s false)):Fnc Tryz.prog 103 [.ptr b 0,.sc (.int .i64 n)] H nx (fun q=>q=(dA,H,nx)):=by
 refine Kp Tryz.func103 rfl rfl ?_
 repeat first|apply ai;rfl|apply bU;rfl;kernel_rfl;exact kL hb
 (apply bP Tryz.func103 Tryz.results103;rfl)
 rfl
theorem DH{C:Nat}(hb:H.at' b=some (rdO (.sl r o l.length C) true))(hC:l.length≤C)(hn:n≤l.length):Fnc Tryz.prog 103 [.ptr b 0,.sc (.int .i64 (n:Int))] H nx (fun q=> ∃ H',q=(.sl r o n n,H',nx)∧H'.at' b=some (rdO (.sl r (if C=n then o else o+n) (l.length-n) (C-n)) true)∧ ∀ m,m≠b→H'.at' m=H.at' m):=by
 have ho:(bif Nat.beq n 0 then o else o+0*1)=o:=by cases Nat.beq n 0 <;> simp
 refine Kp Tryz.func103 rfl rfl ?_
 repeat first|apply ai;rfl|apply aH;rfl;assumption;rfl|apply bU;rfl;kernel_rfl;exact kL hb|apply kY;rfl;omega|refine cd (gH (F.un _ rfl) rfl) rfl rfl rfl ?_
 (apply G2 (lw:=0) (hg:=n) (m:=n);rfl;rfl;rfl;exact(F.un _ rfl);exact(F.sz _ rfl);rfl;exact(iu rfl rfl);exact(iu rfl rfl);exact(JL _);exact(JK _);(focus(omega)))
 rw [ho]
 repeat first|apply ai;rfl|apply aH;rfl;assumption;rfl
 (apply yu (lw:=n) (hg:=l.length);rfl;rfl;rfl;exact(F.un _ rfl);exact(F.sz _ rfl);exact(iu rfl rfl);rfl;(focus(omega));(focus(omega));rfl)
 repeat first|apply ai;rfl|apply aH;rfl;assumption;rfl
 (apply bP Tryz.func103 Tryz.results103;rfl)
 exact⟨_,rfl,ah _ _ _,fun m hm=>aa _ _ hm⟩
theorem yF(h:RdSt H b r st)(hne:r≠b):Fnc Tryz.prog 103 [.ptr b 0,.sc (.int .i64 (n:Int))] H nx (fun q=> ∃ s H',q=(s,H',nx)∧BlkS H' s r (eI st n).1∧RdSt H' b r (eI st n).2∧ ∀ m,m≠b→H'.at' m=H.at' m):=by
 cases st with
 | none=>
   obtain⟨s,hs⟩:=h
   refine Ko (yG hs) ?_
   rintro _ rfl
   exact⟨_,_,rfl,.inl ⟨rfl,rfl⟩,⟨s,hs⟩,fun m _=>rfl⟩
 | some l=>
   obtain⟨o,C,h1,h2,h4⟩:=h
   by_cases hn:n≤l.length
   ·rw [ef hn]
    refine Ko (DH h1 h2 hn) ?_
    rintro _ ⟨H',rfl,g1,g2⟩
    obtain⟨k1,k2⟩:=(h4.frame (g2 r hne)).part hn
    have hlt:(l.take n).length=n:=by rw [JZ];omega
    refine⟨_,_,rfl,.inr ⟨o,n,by rw [hlt],k1⟩,?_,g2⟩
    have hld:(l.drop n).length=l.length-n:=J2
    refine⟨if C=n then o else o+n,C-n,by rw [hld];exact g1,by omega,?_⟩
    by_cases hc:C=n
    ·have:l.drop n= []:=List.drop_of_length_le (by omega)
     rw [this]
     obtain⟨vo,hv,_⟩:=k2
     exact BlkAt.none _ hv _
    ·rw [JV hc]
     exact k2
   ·rw [gW (by omega)]
    refine Ko (vu h1 (h4.bs) (.inr (by omega))) ?_
    rintro _ ⟨H',rfl,g1,g2⟩
    exact⟨_,_,rfl,.inl ⟨rfl,rfl⟩,⟨_,g1⟩,g2⟩
theorem Af(hb:BsIs H s (byV [])):Fnc Tryz.prog 102 [s] H nx (fun q=>q=(.tup [.sc (.int .u64 0),.sc (.int .i64 2)],H,nx)):=by
 refine Kp Tryz.func102 rfl rfl ?_
 repeat first|apply cD;rfl|refine dn rfl rfl (F.un _ rfl) rfl hb ?_
 refine bh rfl rfl rfl rfl (fun _=>?_) (fun hq=>absurd hq (by decide))
 repeat apply ai;rfl
 (apply bP Tryz.func102 Tryz.results102;rfl)
 rfl
theorem C2{bs:List UInt8}(hb:BsIs H s (byV bs))(h2:bs.length≤8):Fnc Tryz.prog 102 [s] H nx (fun q=> ∃ e:Int,q=(.tup [.sc (.int .u64 (beN bs:Int)),.sc (.int .i64 e)],H,nx)):=by
 cases bs with
 | nil=>
   refine Ko (Af hb) ?_
   rintro _ rfl
   exact⟨2,rfl⟩
 | cons c bs=>
   refine Ko (HQ hb (Nat.succ_le_succ (JL _)) h2) ?_
   rintro _ rfl
   exact⟨0,rfl⟩
theorem yH(st:Option (List UInt8))(n:Nat):(eI st n).1= []∨(eI st n).1.length=n:=by
 cases st with
 | none=>exact .inl rfl
 | some l=>
   by_cases h:n≤l.length
   ·rw [ef h,JZ]
    exact .inr (by omega)
   ·rw [gW (by omega)]
    exact .inl rfl
theorem qK(st:Option (List UInt8))(n:Nat):(eI st n).1.length≤n:=by
 rcases yH st n with h|h
 ·rw [h];exact JL _
 ·exact Nat.le_of_eq h
theorem HD(h:RdSt H b r st)(hne:r≠b)(h1:1≤n)(h2:n≤8):Fnc Tryz.prog 82 [.ptr b 0,.sc (.int .i64 (n:Int))] H nx (fun q=> ∃ H',q=(.sc (.int .u64 (beN (eI st n).1:Int)),H',nx)∧RdSt H' b r (eI st n).2∧ ∀ m,m≠b→H'.at' m=H.at' m):=by
 refine Kp Tryz.func82 rfl rfl ?_
 repeat first|apply ai;rfl|apply kY;rfl;omega
 refine aI rfl rfl rfl (by kernel_rfl) (Ko (yF (n:=n) h hne) ?_)
 rintro _ ⟨s,H',rfl,g1,g2,g3⟩
 dsimp only
 refine aI rfl rfl rfl (by kernel_rfl) (Ko (C2 g1.bs (JS (qK _ _) h2)) ?_)
 rintro _ ⟨e,rfl⟩
 dsimp only
 repeat apply ai;rfl
 (apply bP Tryz.func82 Tryz.results82;rfl)
 exact⟨_,rfl,g2,g3⟩
theorem zJ(hb:H.at' b=some (rdO (.slu r 0 l.length) true))(hr:H.at' r=some (dat false l.length 1 5 (byV l)))(hbk:BlkAt H r 0 l)(hne:r≠b)(h1:1≤n)(h2:n≤8):Fnc Tryz.prog 82 [.ptr b 0,.sc (.int .i64 (n:Int))] H nx (fun q=> ∃ H',q=(.sc (.int .u64 (beN (eI (some l) n).1:Int)),H',nx)∧RdSt H' b r (eI (some l) n).2∧ ∀ m,m≠b→H'.at' m=H.at' m):=by
 refine Kp Tryz.func82 rfl rfl ?_
 by_cases hl:l.length=0
 ·have hs0:eI (some l) n=([],none):=gW (by omega)
  rw [hs0]
  repeat first|apply ai;rfl|apply kY;rfl;omega
  refine aI rfl rfl rfl (by kernel_rfl) (Ko (vu (n:=(n:Int)) (l:=l) hb (jx hr (by rfl)) (.inr (by omega))) ?_)
  rintro _ ⟨H',rfl,g1,g2⟩
  dsimp only
  refine aI rfl rfl rfl (by kernel_rfl) (Ko (Af (Dd _)) ?_)
  rintro _ rfl
  dsimp only
  repeat apply ai;rfl
  (apply bP Tryz.func82 Tryz.results82;rfl)
  exact⟨_,rfl,⟨_,g1⟩,g2⟩
 ·refine w9 [] [.sc (.bool true)] hb hr (by omega) (by omega) ?_
  intro C hC
  have hst:RdSt (H.set b (ar 167 ([] ++ .sl r (0*1) l.length C :: [.sc (.bool true)]))) b r (some l):=⟨0,C,ah _ _ _,hC,hbk.frame (aa _ _ hne)⟩
  have hfr: ∀ m,m≠b→(H.set b (ar 167 ([] ++ .sl r (0*1) l.length C :: [.sc (.bool true)]))).at' m=H.at' m:=fun m hm=>aa _ _ hm
  generalize H.set b (ar 167 ([] ++ .sl r (0*1) l.length C :: [.sc (.bool true)]))=H0 at hst hfr ⊢
  repeat first|apply ai;rfl|apply kY;rfl;omega
  refine aI rfl rfl rfl (by kernel_rfl) (Ko (yF (n:=n) hst hne) ?_)
  rintro _ ⟨s,H',rfl,g1,g2,g3⟩
  dsimp only
  refine aI rfl rfl rfl (by kernel_rfl) (Ko (C2 g1.bs (JS (qK _ _) h2)) ?_)
  rintro _ ⟨e,rfl⟩
  dsimp only
  repeat apply ai;rfl
  (apply bP Tryz.func82 Tryz.results82;rfl)
  exact⟨_,rfl,g2,fun m hm=>(g3 m hm).trans (hfr m hm)⟩
theorem AA(h:RdSt H b r st)(hne:r≠b):Fnc Tryz.prog 83 [.ptr b 0] H nx (fun q=> ∃ s H',q=(s,H',nx)∧BlkS H' s r (ir st).1∧RdSt H' b r (ir st).2∧ ∀ m,m≠b→H'.at' m=H.at' m):=by
 have hlt:=mB (eI st 2).1
 have hp:256 ^ (eI st 2).1.length≤256 ^ 2:=Nat.pow_le_pow_right (by decide) (qK _ _)
 refine Kp Tryz.func83 rfl rfl ?_
 repeat apply ai;rfl
 refine aI rfl rfl rfl (by kernel_rfl) (Ko (HD (n:=2) h hne (by decide) (by decide)) ?_)
 rintro _ ⟨H1,rfl,g1,g2⟩
 dsimp only
 repeat refine cd (bT (F.un _ rfl) (F.un _ rfl) rfl (show _=((beN (eI st 2).1:Nat):Int)from Js _ ⟨by omega,by omega⟩)) rfl rfl rfl ?_
 refine aI rfl rfl rfl (by kernel_rfl) (Ko (yF (n:=beN (eI st 2).1) g1 hne) ?_)
 rintro _ ⟨s,H2,rfl,k1,k2,k3⟩
 dsimp only
 repeat apply ai;rfl
 (apply bP Tryz.func83 Tryz.results83;rfl)
 exact⟨_,_,rfl,k1,k2,fun m hm=>(k3 m hm).trans (g2 m hm)⟩
def endR:Option (List UInt8)→Nat
 | some []=>0
 | _=>4
theorem HF(hb:H.at' b=some (rdO s true))(hs:BsIs H s (byV l)):Fnc Tryz.prog 105 [.ptr b 0] H nx (fun q=>q=(.sc (.int .i64 (l.length:Int)),H,nx)):=by
 refine Kp Tryz.func105 rfl rfl ?_
 repeat first|apply ai;rfl|apply aH;rfl;assumption;rfl|apply bU;rfl;kernel_rfl;exact kL hb|refine dn rfl rfl (F.un _ rfl) rfl hs ?_;rw [bN]
 (apply bP Tryz.func105 Tryz.results105;rfl)
 rfl
theorem end_s(h:RdSt H b r st):Fnc Tryz.prog 84 [.ptr b 0] H nx (fun q=>q=(.sc (.int .i64 (endR st:Int)),H,nx)):=by
 refine Kp Tryz.func84 rfl rfl ?_
 cases st with
 | none=>
   obtain⟨s,hs⟩:=h
   repeat first|apply ai;rfl|refine cd (fi rfl rfl (F.un _ rfl) rfl) rfl rfl rfl ?_|apply bU;rfl;kernel_rfl;exact kL hs
   (apply bP Tryz.func84 Tryz.results84;rfl)
   rfl
 | some l=>
   obtain⟨o,C,h1,h2,h4⟩:=h
   have hb4:=h4.bs (C:=C)
   repeat first|apply ai;rfl|refine cd (fi rfl rfl (F.un _ rfl) rfl) rfl rfl rfl ?_|apply bU;rfl;kernel_rfl;exact kL h1|apply bU;rfl;kernel_rfl;exact HF h1 hb4
   refine dQ rfl rfl rfl rfl (fun hq=>?_) (fun hq=>?_)
   all_goals(repeat(apply ai;rfl))
   all_goals(apply bP Tryz.func84 Tryz.results84;rfl)
   all_goals(cases l with|nil=>_|cons c l=>_)
   all_goals first|rfl|(exfalso;simp at hq;done)|(exfalso;simp only [JN,List.length_nil] at hq;omega)
abbrev pM(k w:SV)(x y:Nat):SV:= .agg [k,w,.sc (.int .u64 (x:Int)),.sc (.int .u64 (y:Int))]
def VerIs(H:au)(s:SV)(v:gt):Prop:= ∃ k w,s=pM k w v.2.2.1 v.2.2.2∧BsIs H k (byV v.1)∧BsIs H w (byV v.2.1)
theorem VerIs.frame(h:VerIs H s v)(hf: ∀ b vo,H.at' b=some vo→H'.at' b=some vo):VerIs H' s v:=by
 obtain⟨k,w,h1,h2,h3⟩:=h
 exact⟨k,w,h1,h2.frame hf,h3.frame hf⟩
abbrev iV:gt:=([],[],0,0)
theorem Ei(hv:VerIs H s v):Fnc Tryz.prog 71 [s] H nx (fun q=>q=(.sc (.bool (iJ v)),H,nx)):=by
 refine Fnc.bz (Free.sc _) ?_
 obtain⟨k,w,rfl,hk,hw⟩:=hv
 refine Kp Tryz.func71 rfl rfl ?_
 refine aX fun hund=>?_
 have hf: ∀ {vo:VO} (b:Nat) (vo':VO),H.at' b=some vo'→(H.set nx vo).at' b=some vo':=fun b vo' hb=>(aa _ _ (by have:=hund b vo' hb;omega)).trans hb
 have hk2: ∀ {vo:VO},BsIs (H.set nx vo) k (byV v.1):=fun {vo}=>hk.frame hf
 have hw2: ∀ {vo:VO},BsIs (H.set nx vo) w (byV v.2.1):=fun {vo}=>hw.frame hf
 have hm:iJ v=decide ((1≤v.1.length∧v.1.length≤32)∧v.2.1.length≤128∧(1≤v.2.2.1∧v.2.2.1≤4000)∧v.2.2.2≤4000):=rfl
 have hl1:=bN v.1
 have hl2:=bN v.2.1
 (repeat' (first|apply ai;rfl|apply aH;rfl;(focus((repeat(exact ac));done));rfl|refine dn rfl rfl (F.un _ rfl) rfl hk2 ?_;rw [bN]|refine dn rfl rfl (F.un _ rfl) rfl hw2 ?_;rw [bN]|(refine dR rfl rfl rfl rfl ?_ ?_ <;> intro hq)|(refine pZ rfl rfl rfl rfl ?_ ?_ <;> intro hq2)))
 all_goals(apply bP Tryz.func71 Tryz.results71;rfl)
 all_goals(refine⟨?_,JT _,fun m hm=>aa _ _ (by omega)⟩)
 all_goals(rw [hm];first|(rw [Ke (by omega)];rfl)|(rw [Kf (by omega)];rfl))
theorem LsIs.nil(H:au):LsIs H [] []:=⟨rfl,fun j s vs h=>by simp at h⟩
theorem LsIs.cons{vs:List Value}{ls:List SV}{bs:List (List Value)}(h:BsIs H s vs)(t:LsIs H ls bs):LsIs H (s :: ls) (vs :: bs):=by
 refine⟨by simp [t.1],fun j s' vs' h1 h2=>?_⟩
 cases j with
 | zero=>
   simp only [JI,Jr] at h1 h2
   subst h1 h2
   exact h
 | succ j=>exact t.2 j s' vs' (by simpa using h1) (by simpa using h2)
theorem kq(a b:List UInt8):byV (a ++ b)=byV a ++ byV b:=JP
theorem shr8(n:Nat):((n:Nat):Int).fdiv (2 ^ (min (8:Int).toNat IntKind.i64.bits))=((n / 256:Nat):Int):=by
 rw [show min (8:Int).toNat IntKind.i64.bits=8 from rfl,Int.fdiv_eq_ediv_of_nonneg _ (by decide)]
 omega
theorem ES(n:Nat):byV (beB n 2)= [.int .u8 ((UInt8.ofNat (n / 256)).toNat:Int),.int .u8 ((UInt8.ofNat n).toNat:Int)]:=by
 rw [kQ,kQ]
 simp [beB]
theorem De(hs:BsIs H s (byV l))(hl:l.length≤65535):Fnc Tryz.prog 72 [s] H nx (fun q=> ∃ r,q.1 = .tup [.slu r 0 (jp l).length,.sc (.int .i64 0)]∧q.2.1.at' r=some (u8R false (byV (jp l)))∧nx≤r∧r<q.2.2∧ ∀ m,m<nx→q.2.1.at' m=H.at' m):=by
 refine Kp Tryz.func72 rfl rfl ?_
 refine aX fun hund=>?_
 have hbl:(byV (jp l))= [.int .u8 ((UInt8.ofNat (l.length / 256)).toNat:Int),.int .u8 ((UInt8.ofNat l.length).toNat:Int)] ++ (byV l ++ []):=by
  unfold jp
  rw [kq,ES,J9]
 have hf: ∀ (vo vo':VO) (b:Nat) (w:VO),H.at' b=some w→((H.set nx vo).set (nx+1) vo').at' b=some w:=fun vo vo' b w hb=>by
  have:=hund b w hb
  exact(aa _ _ (by omega)).trans ((aa _ _ (by omega)).trans hb)
 have hs0:=hs
 repeat first|apply cD;rfl|refine dn rfl rfl (F.un _ rfl) rfl hs ?_;rw [bN]
 refine dQ rfl rfl rfl rfl (fun hq=>absurd hq (by omega)) (fun _=>?_)
 repeat first|apply cD;rfl|refine dn rfl rfl (F.un _ rfl) rfl hs ?_;rw [bN]|refine cd (oQ rfl rfl (by focus(decide)) (shr8 _)) rfl rfl rfl ?_|refine cd (bT (F.un _ rfl) (F.un _ rfl) rfl (xc _)) rfl rfl rfl ?_
 obtain⟨_,⟨_,_,_,rfl⟩|⟨r0,eo,ne,ro0,t0,us,rfl,hb0,hn0,hu0⟩|⟨b0,o0,C0,vo0,rfl,hb0,hc0⟩⟩:=hs0
 all_goals(repeat(first|apply bq;rfl;rfl;exact(F.un _ rfl);exact(F.sz _ rfl);rfl;exact(F.ze _ rfl);rfl;rfl;rfl;rfl;rfl|apply ai;rfl))
 all_goals
  refine aI rfl rfl rfl (by kernel_rfl) (Ko (s9 (bs:= [[.int .u8 ((UInt8.ofNat (l.length / 256)).toNat:Int),.int .u8 ((UInt8.ofNat l.length).toNat:Int)],byV l]) (ls:= [_,_]) (ah _ _ _) (LsIs.cons (BsIs.row (ne:=2) (fun v hv=>by rcases Ka.1 hv with rfl|hv;rfl;rw [J1.1 hv];rfl) ((aa _ _ (by omega)).trans ((ah _ _ _).trans (congrArg some (hZ _ _ _ _ [.int .u8 ((UInt8.ofNat (l.length / 256)).toNat:Int),.int .u8 ((UInt8.ofNat l.length).toNat:Int)])))) rfl) (LsIs.cons (hs.frame (hf _ _)) (LsIs.nil _))) (by simp;omega) (Jw rfl)) ?_)
  rintro _ rfl
  dsimp only
  repeat apply ai;rfl
  (apply bP Tryz.func72 Tryz.results72;rfl)
 all_goals
  refine⟨nx+1+1,?_,?_,by omega,Nat.lt_succ_self _,fun m hm=>by(repeat(refine ab (by omega) ?_));rfl⟩
  ·rw [show(jp l).length=(byV (jp l)).length from(bN _).symm,hbl]
   rfl
  ·refine(ah _ _ _).trans ?_
   rw [hbl]
   rfl
theorem js{ro:Bool}(h:H.at' r=some (u8R ro (byV l))):BsIs H (.slu r 0 l.length) (byV l):=by
 have:=BsIs.row (zF l) h rfl
 rwa [bN] at this
theorem Ax(hv:VerIs H s v)(hm:iJ v=true):Fnc Tryz.prog 32 [s] H nx (fun q=> ∃ r,q.1 = .tup [.slu r 0 (aO v).length,.sc (.int .i64 0)]∧q.2.1.at' r=some (u8R false (byV (aO v)))∧nx≤r∧r<q.2.2∧ ∀ m,m<nx→q.2.1.at' m=H.at' m):=by
 have hv0:=hv
 have hb:=J7 hm
 obtain⟨k,w,rfl,hk,hw⟩:=hv
 refine Kp Tryz.func32 rfl rfl ?_
 refine aX fun hund=>?_
 repeat first|apply ai;rfl|apply aH;rfl;(focus((repeat(exact ac));done));rfl
 have hm1:=Ei (H:=H.set nx (ar 38 [k,w,.sc (.int .u64 (v.2.2.1:Int)),.sc (.int .u64 (v.2.2.2:Int))])) (nx:=nx+1) (hv0.frame fun b vo hb=>(aa _ _ (by have:=hund b vo hb;omega)).trans hb)
 rw [hm] at hm1
 repeat first|apply ai;rfl|apply aH;rfl;(focus((repeat(exact ac));done));rfl|apply bU;rfl;kernel_rfl;exact hm1
 refine aI rfl rfl rfl (by kernel_rfl) (Ko (Bv (n:=v.2.2.1) (size:=8) (by omega) (by decide) (by decide) (by omega)) ?_)
 rintro⟨_,H2,n2⟩ ⟨rfl,a2,rfl,a4⟩
 dsimp only at a2 a4 ⊢
 have hbox2:H2.at' nx=some (ar 38 [k,w,.sc (.int .u64 (v.2.2.1:Int)),.sc (.int .u64 (v.2.2.2:Int))]):=(a4 nx (by omega)).trans (ah _ _ _)
 repeat first|apply ai;rfl|apply aH;rfl;assumption;rfl
 refine aI rfl rfl rfl (by kernel_rfl) (Ko (Bv (n:=v.2.2.2) (size:=8) (by omega) (by decide) (by decide) (by omega)) ?_)
 rintro⟨_,H3,n3⟩ ⟨rfl,b2,rfl,b4⟩
 dsimp only at b2 b4 ⊢
 have hbox3:=(b4 nx (by omega)).trans hbox2
 have h3: ∀ m,m<nx→H3.at' m=H.at' m:=fun m hm=>(b4 m (by omega)).trans ((a4 m (by omega)).trans (aa _ _ (by omega)))
 repeat first|apply ai;rfl|apply aH;rfl;assumption;rfl
 refine aI rfl rfl rfl (by kernel_rfl) (Ko (De (hk.frame fun b vo hb=>(h3 b (hund b vo hb)).trans hb) (by omega)) ?_)
 rintro⟨_,H4,n4⟩ ⟨r4,rfl,c2,c3,c4,c5⟩
 dsimp only at c2 c3 c4 c5 ⊢
 have hbox4:=(c5 nx (by omega)).trans hbox3
 have h4: ∀ m,m<nx→H4.at' m=H.at' m:=fun m hm=>(c5 m (by omega)).trans (h3 m hm)
 repeat first|apply ai;rfl|apply aH;rfl;assumption;rfl
 refine aI rfl rfl rfl (by kernel_rfl) (Ko (De (hw.frame fun b vo hb=>(h4 b (hund b vo hb)).trans hb) (by omega)) ?_)
 rintro⟨_,H5,n5⟩ ⟨r5,rfl,d2,d3,d4,d5⟩
 dsimp only at d2 d3 d4 d5 ⊢
 have h5: ∀ m,m<nx→H5.at' m=H.at' m:=fun m hm=>(d5 m (by omega)).trans (h4 m hm)
 have e1:H5.at' (nx+1)=some (dat false 8 1 5 (byV (beB v.2.2.1 8))):=(d5 _ (by omega)).trans ((c5 _ (by omega)).trans ((b4 _ (by omega)).trans a2))
 have e2:H5.at' (nx+1+1)=some (dat false 8 1 5 (byV (beB v.2.2.2 8))):=(d5 _ (by omega)).trans ((c5 _ (by omega)).trans b2)
 have e3:H5.at' r4=some (u8R false (byV (jp v.1))):=(d5 _ (by omega)).trans c2
 clear a2 a4 b2 b4 c2 c5
 refine aX fun hund5=>?_
 repeat first|apply bq;rfl;rfl;exact(F.un _ rfl);exact(F.sz _ rfl);rfl;exact(F.ze _ rfl);rfl;rfl;rfl;rfl;rfl|apply ai;rfl
 have hfr: ∀ (vo:VO) (b:Nat) (x:VO),H5.at' b=some x→(H5.set n5 vo).at' b=some x:=fun vo b x hx=>(aa _ _ (by have:=hund5 b x hx;omega)).trans hx
 have hfl:byV (aO v)=byV (beB v.2.2.1 8) ++ (byV (beB v.2.2.2 8) ++ (byV (jp v.1) ++ (byV (jp v.2.1) ++ []))):=by
  unfold aO
  rw [kq,kq,kq,J9]
 have hvl:=ez v
 refine aI rfl rfl rfl (by kernel_rfl) (Ko (s9 (bs:= [byV (beB v.2.2.1 8),byV (beB v.2.2.2 8),byV (jp v.1),byV (jp v.2.1)]) (ls:= [_,_,_,_]) (ah _ _ _) (LsIs.cons ((jx e1 (bp _ _)).frame (hfr _)) (LsIs.cons ((jx e2 (bp _ _)).frame (hfr _)) (LsIs.cons ((js e3).frame (hfr _)) (LsIs.cons ((js d2).frame (hfr _)) (LsIs.nil _))))) (by show(byV (beB v.2.2.1 8) ++ (byV (beB v.2.2.2 8) ++ (byV (jp v.1) ++ (byV (jp v.2.1) ++ [])))).length≤_;rw [← hfl,bN,hvl];omega) (Jw rfl)) ?_)
 rintro _ rfl
 dsimp only
 repeat apply ai;rfl
 (apply bP Tryz.func32 Tryz.results32;rfl)
 refine⟨n5+1,?_,?_,by omega,Nat.lt_succ_self _,fun m hm=>(aa _ _ (by omega)).trans ((aa _ _ (by omega)).trans (h5 m hm))⟩
 ·rw [show(aO v).length=(byV (aO v)).length from(bN _).symm,hfl]
  rfl
 ·refine(ah _ _ _).trans ?_
  rw [hfl]
  rfl
theorem Cd(hv:VerIs H s v)(hm:iJ v=false):Fnc Tryz.prog 32 [s] H nx (fun q=>q=(.tup [dA,.sc (.int .i64 2)],H,nx)):=by
 refine Fnc.bz (Free.two (Free.sc _) (Free.sc _)) ?_
 have hv0:=hv
 obtain⟨k,w,rfl,hk,hw⟩:=hv
 refine Kp Tryz.func32 rfl rfl ?_
 refine aX fun hund=>?_
 have hm1:=Ei (H:=H.set nx (ar 38 [k,w,.sc (.int .u64 (v.2.2.1:Int)),.sc (.int .u64 (v.2.2.2:Int))])) (nx:=nx+1) (hv0.frame fun b vo hb=>(aa _ _ (by have:=hund b vo hb;omega)).trans hb)
 rw [hm] at hm1
 repeat first|apply ai;rfl|apply aH;rfl;(focus((repeat(exact ac));done));rfl|apply bU;rfl;kernel_rfl;exact hm1
 (apply bP Tryz.func32 Tryz.results32;rfl)
 exact⟨rfl,JT _,fun m hm=>aa _ _ (by omega)⟩
theorem r7(ro:Bool)(l:List UInt8):u8R ro (byV l)=dat ro l.length 1 5 (byV l):=by
 show dat ro (byV l).length 1 _ _=_
 rw [bN]
theorem tL{ro:Bool}(h:H.at' r=some (dat ro l.length 1 5 (byV l))):BlkAt H r 0 l:=by
 refine⟨_,h,?_⟩
 exact jn l.length 0 (by rw [List.drop_zero];exact JC (by rw [bN];exact JK _)) (bN l) (by omega)
theorem Hg(hs:BsIs H s (byV l))(hl:l.length≤140737488355328):Fnc Tryz.prog 81 [s] H nx (fun q=> ∃ r b,q.1 = .ptr b 0∧q.2.1.at' b=some (rdO (.slu r 0 l.length) true)∧q.2.1.at' r=some (dat false l.length 1 5 (byV l))∧r≠b∧nx≤r∧nx≤b∧r<q.2.2∧b<q.2.2∧ ∀ m,m<nx→q.2.1.at' m=H.at' m):=by
 refine Kp Tryz.func81 rfl rfl ?_
 refine aX fun hund=>?_
 have hfr: ∀ (vo:VO) (b:Nat) (x:VO),H.at' b=some x→(H.set nx vo).at' b=some x:=fun vo b x hx=>(aa _ _ (by have:=hund b x hx;omega)).trans hx
 have hs0:=hs
 obtain⟨_,⟨_,_,_,rfl⟩|⟨r0,eo,ne,ro0,t0,us,rfl,hb0,hn0,hu0⟩|⟨b0,o0,C0,vo0,rfl,hb0,hc0⟩⟩:=hs0
 all_goals(repeat(first|apply bq;rfl;rfl;exact(F.un _ rfl);exact(F.sz _ rfl);rfl;exact(F.ze _ rfl);rfl;rfl;rfl;rfl;rfl|apply ai;rfl))
 all_goals
  refine aI rfl rfl rfl (by kernel_rfl) (Ko (s9 (bs:= [byV l]) (ls:= [_]) (ah _ _ _) (LsIs.cons (hs.frame (hfr _)) (LsIs.nil _)) (by show(byV l ++ []).length≤_;rw [J9,bN];exact hl) (Jw rfl)) ?_)
  rintro _ rfl
  dsimp only
  have hfl: [byV l].flatten=byV l:=J9 _
  rw [hfl,bN]
  repeat apply ai;rfl
  (apply bP Tryz.func81 Tryz.results81;rfl)
  refine⟨nx+1,nx+1+1,rfl,ah _ _ _,((aa _ _ (by omega)).trans (ah _ _ _)).trans (congrArg some (r7 _ _)),by omega,by omega,by omega,by dsimp only;omega,by dsimp only;omega,fun m hm=>by(repeat(refine ab (by omega) ?_));rfl⟩
def aT(p:List UInt8)(j:Nat):List UInt8:=(p.drop (az p j)).take (aq p j)
theorem jb(p:List UInt8): ∀ (k n:Nat) (seen:List (Nat×Nat)) (fine:Bool),fg p k n seen fine=true→ ∀ j,n≤j→j<n+k→(az p j=0∧aq p j=0)∨(1≤aq p j∧aq p j≤1000∧aF p≤az p j∧az p j+aq p j≤1024)
 | 0,n,seen,fine,_,j,h1,h2=>absurd h1 (by omega)
 | k+1,n,seen,fine,h,j,h1,h2=>by
   unfold fg at h
   split at h
   ·rename_i h3
    rcases JY n j with h4|h4
    ·exact jb p k (n+1) _ _ h j (by omega) (by omega)
    ·obtain rfl:n=j:=by omega
     exact .inl h3
   ·split at h
    ·cases h
    ·split at h
     ·cases h
     ·rename_i h5 _
      rcases JY n j with h4|h4
      ·exact jb p k (n+1) _ _ h j (by omega) (by omega)
      ·obtain rfl:n=j:=by omega
       exact .inr (by omega)
theorem cV(h:bl p=true){j:Nat}(hj:j<ae p)(hs:aq p j≠0):1≤aq p j∧aq p j≤1000∧aF p≤az p j∧az p j+aq p j≤1024:=by
 unfold bl at h
 rw [JJ] at h
 rcases jb p _ _ _ _ h.2 j (JL _) (by omega)with h1|h1
 ·exact absurd h1.2 hs
 ·exact h1
theorem dB(hp:p.length=1024){j:Nat}(h:az p j+aq p j≤1024):(aT p j).length=aq p j:=by
 unfold aT
 rw [JZ,J2]
 omega
theorem uG{l f q:Nat}(hp:p.length=1024)(hr:bl p=true){f2 nt2:Nat}{T2:Tr SV}{ps:Array Tmp}{ca cb:Code}{dr:Nat}(hps:ps.size=2)(I:Nat→au→Nat→Prop)(J:au→Nat→Prop)
 (hI: ∀ j H nx,I j H nx→H.at' l=some (.loop .ready none f2 nt2 T2 ps ca cb dr)∧H.at' f=some (ar 4 [.sc (.bool true)])∧H.at' q=some (pgO p)∧l<nx∧f<nx∧q<nx)
 (hgrow: ∀ j H nx H' nx',I j H nx→nx≤nx'→(∀ m,m<nx→H'.at' m=H.at' m)→I j H' nx')
 (hskip: ∀ j H nx,I j H nx→aq p j=0→I (j+1) H nx)
 (hround: ∀ j H1 n1 r,I j H1 n1→nx≤r→r<n1→j<ae p→aq p j≠0→H1.at' r=some (u8R false (byV (aT p j))) →
   Wp Tryz.prog (some l) ⟨f2,nt2,(ps.toList.zip [.sc (.int .i64 (j:Int)),.slu r 0 (aT p j).length]).foldl (fun T x=>mG nt2 T (some x.1) x.2) T2,[.code ca,.beginRound,.code cb],[],H1,n1⟩ (fun x=>(x.1 = .sc (.bool true)∧I (j+1) x.2.1 x.2.2∧n1≤x.2.2∧x.2.1.at' nx=H1.at' nx)∨(x.1 = .sc (.bool false)∧J x.2.1 x.2.2)))
 (h0:I 0 H nx):Fnc Tryz.prog 79 [.yld l,.ptr f 0,.ptr q 0] H nx (fun r=>I (ae p) r.2.1 r.2.2∨J r.2.1 r.2.2):=by
 have hf:=fH hp hr
 obtain⟨_,hp1,hp2⟩:=hf
 have hJ0:Nat.beq ps.size 2=true:=by rw [hps];rfl
 refine Kp Tryz.func79 rfl rfl ?_
 obtain⟨i1,i2,i3,i4,i5,i6⟩:=hI _ _ _ h0
 have hg1:I 0 (H.set nx (BZ q)) (nx+1):=hgrow _ _ _ _ _ h0 (JT _) fun m hm=>aa _ _ (by omega)
 have hq1: ∀ {vo:VO},(H.set nx vo).at' q=some (pgO p):=fun {vo}=>(aa _ _ (by omega)).trans i3
 repeat first|apply ai;rfl|apply aH;rfl;assumption;rfl|apply bU;rfl;kernel_rfl;exact mi|apply bU;rfl;kernel_rfl;exact ja hq1 hp
 refine bu (α:=Nat) (fun j=> [(0,.yld l),(2,.ptr q 0),(4,EF nx),(11,.sc (.int .i64 (ae p:Int))),(12,.sc (.int .i64 (j:Int)))])
  (fun j H1 n1=>j≤ae p∧I j H1 n1∧nx+1≤n1∧H1.at' nx=some (BZ q)) (fun j=>ae p-j) 0
  ⟨JL _,hg1,JK _,ah _ _ _⟩ (Kv (Ky rfl)) ?_
 clear hg1 h0 hq1 i1 i2 i3
 rintro j H1 n1 ⟨h1,h2,h3,h4⟩ ih
 obtain⟨k1,k2,k3,k4,k5,k6⟩:=hI _ _ _ h2
 repeat apply ai;rfl
 refine bh rfl rfl rfl rfl (fun h5=>?_) (fun h5=>?_)
 ·repeat apply ai;rfl
  refine jE rfl rfl rfl rfl (by kernel_rfl) (Ko (oy h4 k3 hp (n:=j) (by omega)) ?_)
  rintro _ rfl
  dsimp only
  repeat apply ai;rfl
  refine cI rfl rfl rfl rfl (fun e1=>?_) (fun e1=>?_)
  ·repeat first|apply ai;rfl|apply aL;rfl;omega;omega
   exact ih _ _ _ (j+1) ⟨by omega,hskip _ _ _ h2 (by omega),h3,h4⟩ (by omega) (Kv (Ky rfl))
  ·have hs:=cV hr (j:=j) (by omega) (by omega)
   have hil:=dB hp hs.2.2.2
   have hbl:=bN (aT p j)
   repeat first|apply ai;rfl|apply aL;rfl;omega;omega|apply lm (lw:=az p j) (hg:=az p j+aq p j);rfl;rfl;rfl;exact(F.un _ rfl);exact(F.sz _ rfl);rfl;rfl;(focus(omega));(focus(omega));(focus(omega));exact(show az p j+aq p j-az p j=aq p j by omega);rfl;exact(JX _)|refine cd (fi rfl rfl Tryz.underlying139 rfl) rfl rfl rfl ?_|apply bq;rfl;rfl;exact(F.un _ rfl);exact(F.sz _ rfl);rfl;exact(F.ze _ rfl);rfl;rfl;rfl;rfl;rfl
   refine aI rfl rfl rfl (by kernel_rfl) (Ko (s9 (bs:= [byV (aT p j)]) (ls:= [_]) (ah _ _ _) (LsIs.cons (nn ((aa _ _ (by omega)).trans k3) (by omega)) (LsIs.nil _)) (by show(byV (aT p j) ++ []).length≤_;rw [J9];omega) (Jw rfl)) ?_)
   rintro _ rfl
   dsimp only
   have hfl: [byV (aT p j)].flatten=byV (aT p j):=J9 _
   rw [hfl,bN]
   have hg:I j ((H1.set n1 (bsR false [.sl q (az p j) (aq p j) (1024-az p j)])).set (n1+1) (u8R false (byV (aT p j)))) (n1+1+1):=hgrow _ _ _ _ _ h2 (by omega) fun m hm=>(aa _ _ (by omega)).trans (aa _ _ (by omega))
   have hl2:=(hI _ _ _ hg).1
   refine yn (n:=l) rfl rfl rfl rfl hl2 hJ0 ?_
   refine Wp.mono (hround j _ _ (n1+1) hg (by omega) (by omega) (by omega) (by omega) (ah _ _ _)) ?_
   rintro⟨v,H2,n2⟩ (⟨rfl,g2,g3,g4⟩|⟨rfl,g2⟩)
   ·dsimp only at g2 g3 g4 ⊢
    repeat first|apply ai;rfl|apply aL;rfl;omega;omega
    exact ih _ _ _ (j+1) ⟨by omega,g2,by omega,g4.trans ((aa _ _ (by omega)).trans ((aa _ _ (by omega)).trans h4))⟩ (by omega) (Kv (Ky rfl))
   ·dsimp only at g2 ⊢
    repeat apply ai;rfl
    (apply bP Tryz.func79 Tryz.results79;rfl)
    exact .inr g2
 ·obtain rfl:j=ae p:=by omega
  repeat apply ai;rfl
  (apply CF Tryz.func79 Tryz.results79;rfl)
  exact .inl h2
abbrev fx(s:List SV):VO:=ar 38 s
abbrev eF(k w:SV)(x y:Nat):List SV:= [k,w,.sc (.int .u64 (x:Int)),.sc (.int .u64 (y:Int))]
def BD(o:Option gt):Nat:=if o.isSome then 0 else 13
theorem BlkS.Dk{k w:SV}(hk:BlkS H k r v.1)(hw:BlkS H w r v.2.1):VerIs H (pM k w v.2.2.1 v.2.2.2) v:=⟨k,w,rfl,hk.bs,hw.bs⟩
def VerAt(H:au)(s:SV)(r:Nat)(v:gt):Prop:= ∃ k w,s=pM k w v.2.2.1 v.2.2.2∧BlkS H k r v.1∧BlkS H w r v.2.1
theorem VerAt.is(h:VerAt H s r v):VerIs H s v:=by
 obtain⟨k,w,h1,h2,h3⟩:=h
 exact⟨k,w,h1,h2.bs,h3.bs⟩
theorem VerAt.frame(h:VerAt H s r v)(hf:H'.at' r=H.at' r):VerAt H' s r v:=by
 obtain⟨k,w,h1,h2,h3⟩:=h
 exact⟨k,w,h1,h2.frame hf,h3.frame hf⟩
theorem gv(H:au)(r:Nat):VerAt H (pM dA dA 0 0) r iV:=⟨dA,dA,rfl,.inl ⟨rfl,rfl⟩,.inl ⟨rfl,rfl⟩⟩
theorem RdSt.frame(h:RdSt H b r st)(hb:H'.at' b=H.at' b)(hr:H'.at' r=H.at' r):RdSt H' b r st:=by
 cases st with
 | none=>obtain⟨s,h⟩:=h;exact⟨s,hb.trans h⟩
 | some l=>obtain⟨o,C,h1,h2,h3⟩:=h;exact⟨o,C,hb.trans h1,h2,h3.frame hr⟩
theorem of_s(hs:BsIs H s (byV l))(hl:l.length≤140737488355328):Fnc Tryz.prog 40 [s] H nx (fun q=> ∃ s' r,q.1 = .tup [s',.sc (.int .i64 (BD (ofV l):Int))]∧VerAt q.2.1 s' r ((ofV l).getD iV)∧nx≤r∧nx≤q.2.2∧ ∀ m,m<nx→q.2.1.at' m=H.at' m):=by
 refine Kp Tryz.func40 rfl rfl ?_
 refine aX fun hund=>?_
 have hs1: ∀ {vo:VO},BsIs (H.set nx vo) s (byV l):=fun {vo}=>hs.frame fun b x hb=>(aa _ _ (by have:=hund b x hb;omega)).trans hb
 repeat first|apply cD;rfl|refine dn rfl rfl (F.un _ rfl) rfl hs1 ?_;rw [bN]
 refine dQ rfl rfl rfl rfl (fun h1=>?_) (fun h1=>?_)
 ·have hv:ofV l=none:=by unfold ofV;rw [JW (by omega)]
  repeat first|apply ai;rfl|apply aH;rfl;(focus((repeat(exact ac));done));rfl
  ((apply bn Tryz.func40 (congrArg Array.toList Tryz.results40));(focus(repeat(first|exact Kq|apply Ks rfl|apply Kr rfl (Kt (F.ag _ rfl) (by repeat(exact ac)) (am _ 0 rfl rfl))))))
  rw [hv]
  exact⟨_,nx,rfl,gv _ _,JK _,JT _,fun m hm=>(aa _ _ (by omega)).trans (aa _ _ (by omega))⟩
 ·have hv:ofV l=C4 (jP l).2 (jP l).1:=by unfold ofV;rw [JV (by omega)]
  have hp:jP l=(((ir (eI (eI (some l) 8).2 8).2).1,(ir (ir (eI (eI (some l) 8).2 8).2).2).1,beN (eI (some l) 8).1,beN (eI (eI (some l) 8).2 8).1),(ir (ir (eI (eI (some l) 8).2 8).2).2).2):=rfl
  repeat apply ai;rfl
  refine aI rfl rfl rfl (by kernel_rfl) (Ko (Hg hs1 hl) ?_)
  rintro⟨_,H1,n1⟩ ⟨r,b,rfl,a1,a2,a3,a4,a5,a6,a7,a8⟩
  dsimp only at a1 a2 a6 a7 a8 ⊢
  have ares:H1.at' nx=some (fx (eF dA dA 0 0)):=(a8 nx (by omega)).trans (ah _ _ _)
  have aold: ∀ m,m<nx→H1.at' m=H.at' m:=fun m hm=>(a8 m (by omega)).trans (aa _ _ (by omega))
  clear a8
  repeat apply ai;rfl
  refine aI rfl rfl rfl (by kernel_rfl) (Ko (zJ (l:=l) (n:=8) (r:=r) (by(repeat(refine ab (by omega) ?_));exact a1) (by(repeat(refine ab (by omega) ?_));exact a2) ((tL a2).frame (by(repeat(refine ab (by omega) ?_));rfl)) a3 (by decide) (by decide)) ?_)
  rintro _ ⟨H2,rfl,b1,b2⟩
  dsimp only
  have bbox:H2.at' n1=some (fx (eF dA dA 0 0)):=(b2 n1 (by omega)).trans (ah _ _ _)
  have bres:H2.at' nx=some (fx (eF dA dA 0 0)):=(b2 nx (by omega)).trans ((aa _ _ (by omega)).trans ares)
  have bold: ∀ m,m<nx→H2.at' m=H.at' m:=fun m hm=>(b2 m (by omega)).trans ((aa _ _ (by omega)).trans (aold m hm))
  clear b2 a1 a2 ares aold hs1
  repeat first|apply ai;rfl|apply aH;rfl;assumption;rfl
  refine aI rfl rfl rfl (by kernel_rfl) (Ko (HD (n:=8) (b1.frame (aa _ _ (by omega)) (aa _ _ (by omega))) a3 (by decide) (by decide)) ?_)
  rintro _ ⟨H3,rfl,c1,c2⟩
  dsimp only
  have cbox:=(c2 n1 (by omega)).trans (ah _ _ _)
  have cres:H3.at' nx=some (fx (eF dA dA 0 0)):=(c2 nx (by omega)).trans ((aa _ _ (by omega)).trans bres)
  have cold: ∀ m,m<nx→H3.at' m=H.at' m:=fun m hm=>(c2 m (by omega)).trans ((aa _ _ (by omega)).trans (bold m hm))
  clear c2 b1 bbox bres bold
  repeat first|apply ai;rfl|apply aH;rfl;assumption;rfl
  refine aI rfl rfl rfl (by kernel_rfl) (Ko (AA (c1.frame (aa _ _ (by omega)) (aa _ _ (by omega))) a3) ?_)
  rintro _ ⟨k,H4,rfl,d0,d1,d2⟩
  dsimp only
  have dbox:=(d2 n1 (by omega)).trans (ah _ _ _)
  have dres:H4.at' nx=some (fx (eF dA dA 0 0)):=(d2 nx (by omega)).trans ((aa _ _ (by omega)).trans cres)
  have dold: ∀ m,m<nx→H4.at' m=H.at' m:=fun m hm=>(d2 m (by omega)).trans ((aa _ _ (by omega)).trans (cold m hm))
  clear d2 c1 cbox cres cold
  have hk1:k.one=true:=by rcases d0 with ⟨rfl,_⟩|⟨o,C,rfl,_⟩ <;> rfl
  repeat first|apply ai;rfl|refine dq rfl rfl rfl (F.sz _ rfl) (by assumption) hk1 (by rfl) ?_
  refine aI rfl rfl rfl (by kernel_rfl) (Ko (AA (d1.frame (aa _ _ (by omega)) (aa _ _ (by omega))) a3) ?_)
  rintro _ ⟨w,H5,rfl,e0,e1,e2⟩
  dsimp only
  have ebox:=(e2 n1 (by omega)).trans (ah _ _ _)
  have eres:H5.at' nx=some (fx (eF dA dA 0 0)):=(e2 nx (by omega)).trans ((aa _ _ (by omega)).trans dres)
  have eold: ∀ m,m<nx→H5.at' m=H.at' m:=fun m hm=>(e2 m (by omega)).trans ((aa _ _ (by omega)).trans (dold m hm))
  have d0':BlkS H5 k r _:=d0.frame ((e2 r a3).trans (aa _ _ (by omega)))
  clear e2 d1 d0 dbox dres dold
  have hw1:w.one=true:=by rcases e0 with ⟨rfl,_⟩|⟨o,C,rfl,_⟩ <;> rfl
  repeat first|apply ai;rfl|refine dq rfl rfl rfl (F.sz _ rfl) (by assumption) hw1 (by rfl) ?_
  refine aI rfl rfl rfl (by kernel_rfl) (Ko (end_s (e1.frame (aa _ _ (by omega)) (aa _ _ (by omega)))) ?_)
  rintro _ rfl
  dsimp only
  have fold: ∀ (vo:VO) m,m<nx→(H5.set n1 vo).at' m=H.at' m:=fun vo m hm=>(aa _ _ (by omega)).trans (eold m hm)
  rw [hv,hp]
  dsimp only
  generalize eI (some l) 8=p1 at *
  generalize eI p1.2 8=p2 at *
  generalize ir p2.2=p3 at *
  generalize ir p3.2=p4 at *
  have g1:BlkS (H5.set n1 (fx (eF k w (beN p1.1) (beN p2.1)))) k r p3.1:=d0'.frame (aa _ _ (by omega))
  have g2:BlkS (H5.set n1 (fx (eF k w (beN p1.1) (beN p2.1)))) w r p4.1:=e0.frame (aa _ _ (by omega))
  have g3:VerIs (H5.set n1 (fx (eF k w (beN p1.1) (beN p2.1)))) (pM k w (beN p1.1) (beN p2.1)) (p3.1,p4.1,beN p1.1,beN p2.1):=BlkS.Dk (v:=(p3.1,p4.1,beN p1.1,beN p2.1)) g1 g2
  have fbox:(H5.set n1 (fx (eF k w (beN p1.1) (beN p2.1)))).at' n1=some (fx (eF k w (beN p1.1) (beN p2.1))):=ah _ _ _
  have fres:(H5.set n1 (fx (eF k w (beN p1.1) (beN p2.1)))).at' nx=some (fx (eF dA dA 0 0)):=(aa _ _ (by omega)).trans eres
  have fold2:=fold (fx (eF k w (beN p1.1) (beN p2.1)))
  refine cT (R:=fun H6 n6=>H6=H5.set n1 (fx (eF k w (beN p1.1) (beN p2.1)))∧n6=n1+1) ⟨rfl,rfl⟩ ?_
  rintro H6 n6 ⟨hH6,rfl⟩
  rw [← hH6] at g1 g2 g3 fbox fres fold2
  clear hH6 d0' e0 e1 ebox eres eold fold
  by_cases he:p4.2=some []
  ·rw [show endR p4.2=0 by rw [he];rfl,he]
   have hm:=Ei (nx:=n1+1) g3
   cases hmv:iJ (p3.1,p4.1,beN p1.1,beN p2.1)with
   | true=>
     rw [hmv] at hm
     have hone:bi (eF k w (beN p1.1) (beN p2.1))=true:=by simp only [bi,hk1,hw1];rfl
     have hfin:C4 (some []) (p3.1,p4.1,beN p1.1,beN p2.1)=some (p3.1,p4.1,beN p1.1,beN p2.1):=JW ⟨rfl,hmv⟩
     repeat first|apply ai;rfl|apply aH;rfl;assumption;rfl|apply dK;rfl;rfl|apply bU;rfl;kernel_rfl;exact hm|refine dp rfl rfl rfl (F.sz _ rfl) (by assumption) rfl (by exact Jw rfl) hone rfl ?_
     ((apply bn Tryz.func40 (congrArg Array.toList Tryz.results40));(focus(repeat(first|exact Kq|apply Ks rfl|apply Kr rfl (Kt (F.ag _ rfl) (by repeat(exact ac)) (am _ 0 rfl rfl))))))
     rw [hfin]
     exact⟨_,r,rfl,⟨k,w,rfl,g1.frame (aa _ _ (by omega)),g2.frame (aa _ _ (by omega))⟩,by omega,by dsimp only;omega,fun m hm=>(aa _ _ (by omega)).trans (fold2 m hm)⟩
   | false=>
     rw [hmv] at hm
     have hfin:C4 (some []) (p3.1,p4.1,beN p1.1,beN p2.1)=none:=JV fun h=>by rw [hmv] at h;cases h.2
     repeat first|apply ai;rfl|apply aH;rfl;assumption;rfl|apply dK;rfl;rfl|apply bU;rfl;kernel_rfl;exact hm
     ((apply bn Tryz.func40 (congrArg Array.toList Tryz.results40));(focus(repeat(first|exact Kq|apply Ks rfl|apply Kr rfl (Kt (F.ag _ rfl) (by repeat(exact ac)) (am _ 0 rfl rfl))))))
     rw [hfin]
     exact⟨_,nx,rfl,gv _ _,JK _,by dsimp only;omega,fun m hm=>(aa _ _ (by omega)).trans (fold2 m hm)⟩
  ·rw [uN he,show endR p4.2=4 by rcases hq:p4.2 with _|⟨_|⟨c,l'⟩⟩;rfl;exact absurd hq he;rfl]
   repeat first|apply ai;rfl|apply aH;rfl;assumption;rfl|apply ig;rfl;decide
   ((apply bn Tryz.func40 (congrArg Array.toList Tryz.results40));(focus(repeat(first|exact Kq|apply Ks rfl|apply Kr rfl (Kt (F.ag _ rfl) (by repeat(exact ac)) (am _ 0 rfl rfl))))))
   exact⟨_,nx,rfl,gv _ _,JK _,by dsimp only;omega,fun m hm=>(aa _ _ (by omega)).trans (fold2 m hm)⟩
end
end Go.Proofs.YtnhmbonmlfeifaaGreat
end
section
namespace Go.Sy
open Go Go.Sl Go.RowKit
def fc(k:IntKind)(l:List Int):List Value:=l.map fun n=> .int k n
theorem sn{P:Program}{t:TypeId}{k:IntKind}{l:List Int}{i:Nat}(hu:P.underlying t=some (.int k))(hi:i<l.length)(w:World):(part t (fc k l).toArray (i*1)).run P w = .ok (.int k l[i]) w:=by
 have hv:(fc k l).toArray[i]? =some (.int k l[i]):=by
  simp [fc,Ju hi]
 rw [Nat.mul_one]
 generalize (fc k l).toArray=cs at hv
 simp [part,isAgg,run_underlying hu,hv]
theorem gE{P:Program}{e:TypeId}{k:IntKind}(hu:P.underlying e=some (.int k))(d:Nat)(xs ys:List Int)(w:World): ∀ is:List Nat,(∀ i∈is,i<xs.length∧i<ys.length)→(Op.eqItems (d+1) e 1 (fc k xs).toArray (fc k ys).toArray is).run P w = .ok (is.all fun i=>xs[i]? == ys[i]?) w
 | [],_=>by simp [Op.eqItems]
 | i :: is,h=>by
   obtain⟨h1,h2⟩:=h i J3
   simp only [Op.eqItems,Sem.run_bind,sn hu h1,sn hu h2,run_equalIn_int w d e k k _ _ hu,Result.andThen_ok]
   have ih:=gE hu d xs ys w is fun j hj=>h j (J4 _ hj)
   rw [List.all_cons,Ju h1,Ju h2]
   by_cases he:xs[i]=ys[i]
   ·simp [he,ih]
   ·simp [he]
theorem nM{xs ys:List Int}{n:Nat}(hx:xs.length=n)(hy:ys.length=n):((List.range n).all fun i=>xs[i]? == ys[i]?)=decide (xs=ys):=by
 by_cases h:xs=ys
 ·subst h
  simp
 ·rw [Kf h]
  cases h':(List.range n).all fun i=>xs[i]? == ys[i]? with
  | false=>rfl
  | true=>
    refine absurd (Kg fun i=>?_) h
    rw [List.all_eq_true] at h'
    rcases JY i n with hi|hi
    ·simpa using h' i (Kh.2 hi)
    ·rw [Kj (by omega),Kj (by omega)]
theorem sq{P:Program}{t e:TypeId}{n:Nat}{k:IntKind}{i:TypeInfo}(hu:P.underlying t=some (.array n e))(hi:P.info? e=some i)(hc:P.cellsOf e=1)(he:P.underlying e=some (.int k)){xs ys:List Int}(hx:xs.length=n)(hy:ys.length=n)(w:World) :
 (Op.equalIn 10000 t (.agg (fc k xs).toArray) (.agg (fc k ys).toArray)).run P w = .ok (decide (xs=ys)) w:=by
 rw [show(10000:Nat)=9998+1+1 from rfl,run_equalIn_array w (9998+1) _ _ hu hi,hc,gE he 9998 xs ys w _ (fun i hi=>by rw [hx,hy];exact⟨Kh.1 hi,Kh.1 hi⟩),nM hx hy]
section
variable {P:Program} {H:au} {T:Tr SV} {nx:Nat}
variable {d:Option Tmp} {ty:TypeId} {pos:String} {af:Array Edge} {gd:Option (Nat×Bool)}
theorem gr{e:Env}{l:List Value}{v:Value}(h:(SV.agg (l.map .sc)).conc e=some v):v = .agg l.toArray:=by
 have hl: ∀ l:List Value,SV.aK e (l.map .sc)=some l:=fun l=>by
  induction l with
  | nil=>rfl
  | cons x l ih=>exact bS rfl ih
 simp only [SV.conc,hl,JQ,Jr] at h
 exact h.symm
theorem zh{t e:TypeId}{n:Nat}{k:IntKind}{i:TypeInfo}(hu:P.underlying t=some (.array n e))(hi:P.info? e=some i)(hc:P.cellsOf e=1)(he:P.underlying e=some (.int k))(hg:P.eqGuardType P.depth t=false){x y:Operand}{yt:TypeId}{xs ys:List Int}(hlx:xs.length=n)(hly:ys.length=n)(hx:ak T x=some (.agg ((fc k xs).map .sc)))(hy:ak T y=some (.agg ((fc k ys).map .sc))) :
 ReadDoes P T H ⟨d,.binOp .eql t x y yt,ty,pos,af,gd⟩ (.sc (.bool (decide (xs=ys)))):=by
 intro K w0 ev nx w en hS hE
 refine⟨_,rfl,?_⟩
 have e1:=gr (hE x _ hx)
 have e2:=gr (hE y _ hy)
 simp [execOp,e1,e2,run_eqGuard_agg (P:=P) w .eql t x y _ _ hg,run_eql_struct,sq hu hi hc he hlx hly]
theorem zb{t e:TypeId}{n:Nat}{k:IntKind}{i:TypeInfo}(hu:P.underlying t=some (.array n e))(hi:P.info? e=some i)(hc:P.cellsOf e=1)(he:P.underlying e=some (.int k))(hg:P.eqGuardType P.depth t=false){x y:Operand}{yt:TypeId}{xs ys:List Int}(hlx:xs.length=n)(hly:ys.length=n)(hx:ak T x=some (.agg ((fc k xs).map .sc)))(hy:ak T y=some (.agg ((fc k ys).map .sc))) :
 ReadDoes P T H ⟨d,.binOp .neq t x y yt,ty,pos,af,gd⟩ (.sc (.bool (!decide (xs=ys)))):=by
 intro K w0 ev nx w en hS hE
 refine⟨_,rfl,?_⟩
 have e1:=gr (hE x _ hx)
 have e2:=gr (hE y _ hy)
 simp [execOp,e1,e2,run_eqGuard_agg (P:=P) w .neq t x y _ _ hg,run_neq_struct,sq hu hi hc he hlx hly]
end
end Go.Sy
end
section
namespace Go.Proofs.YtnhmbonmlfeifaaGreat
open Go Go.Sy Go.Sl Go.RowKit
section
variable {H:au}{n nx:Nat}{mem p:List UInt8}
def ff(p:List UInt8):Nat:=if bl p=true then fQ p else 0
theorem AK(hp:p.length=1024):Fnc Tryz.prog 29 [.agg (pgS p)] H nx (fun q=>q=(.sc (.int .i64 (ff p:Int)),H,nx)):=by
 refine Fnc.bz (Free.sc _) ?_
 refine Kp Tryz.func29 rfl rfl ?_
 have hb1:(H.set nx (pgO p)).at' nx=some (pgO p):=ah _ _ _
 have hrs:=fun nx'=>gG (nx:=nx') hb1 hp
 cases hr:bl p with
 | false=>
   rw [hr] at hrs
   have hv:ff p=0:=by unfold ff;rw [JV (by rw [hr];decide)]
   repeat first|apply ai;rfl|apply bU;rfl;kernel_rfl;exact hrs _
   (apply bP Tryz.func29 Tryz.results29;rfl)
   exact⟨by rw [hv];rfl,JT _,fun m hm=>aa _ _ (by omega)⟩
 | true=>
   rw [hr] at hrs
   have hv:ff p=fQ p:=by unfold ff;rw [JW hr]
   have hf:=fH hp hr
   repeat first|apply ai;rfl|apply bU;rfl;kernel_rfl;exact hrs _|apply bU;rfl;kernel_rfl;exact CM hb1 hf
   (apply bP Tryz.func29 Tryz.results29;rfl)
   exact⟨by rw [hv];rfl,JT _,fun m hm=>aa _ _ (by omega)⟩
theorem qU(a:List UInt8):pgS a=(fc .u8 (a.map fun c=>(c.toNat:Int))).map .sc:=by simp [fc]
theorem toNat_inj{a b:List UInt8}(h:a.map (fun c=>(c.toNat:Int))=b.map (fun c=>(c.toNat:Int))):a=b:=by
 refine List.map_inj_right (f:=fun c:UInt8=>(c.toNat:Int)) (fun x y hxy=>?_) |>.1 h
 have hxy:(x.toNat:Int)=(y.toNat:Int):=hxy
 have:x.toNat=y.toNat:=by omega
 exact UInt8.toNat_inj.1 this
theorem qQ{T:Tr SV}{d:Option Tmp}{ty:TypeId}{pos:String}{af:Array Edge}{gd:Option (Nat×Bool)}{x y:Operand}{yt:TypeId}{a b:List UInt8}(ha:a.length=1024)(hb:b.length=1024)(hx:ak T x=some (.agg (pgS a)))(hy:ak T y=some (.agg (pgS b))) :
 ReadDoes Tryz.prog T H ⟨d,.binOp .eql 27 x y yt,ty,pos,af,gd⟩ (.sc (.bool (decide (a=b)))):=by
 have h:=zh (P:=Tryz.prog) (H:=H) (T:=T) (d:=d) (ty:=ty) (pos:=pos) (af:=af) (gd:=gd) (t:=27) (e:=5) (n:=1024) (k:= .u8) (x:=x) (y:=y) (yt:=yt) (xs:=a.map fun c=>(c.toNat:Int)) (ys:=b.map fun c=>(c.toNat:Int)) (F.un _ rfl) (by rfl) (by kernel_rfl) (F.un _ rfl) (by kernel_rfl) (by rw [J0];exact ha) (by rw [J0];exact hb) (hx.trans (by rw [qU])) (hy.trans (by rw [qU]))
 rwa [show decide (a.map (fun c=>(c.toNat:Int))=b.map (fun c=>(c.toNat:Int)))=decide (a=b)from decide_eq_decide.2 ⟨toNat_inj,fun h=>by rw [h]⟩] at h
def bareP(p:List UInt8):List UInt8:=List.replicate 12 0 ++ p.drop 12
theorem dY(hp:p.length=1024):(bareP p).length=1024:=by
 unfold bareP
 rw [JO,J8,J2,hp]
def ii(p:List UInt8):Bool:=decide (bareP p=zeroP)
abbrev z12:List SV:=(byV (List.replicate 12 0)).map .sc
theorem vp(hp:p.length=1024):Fnc Tryz.prog 85 [.agg (pgS p)] H nx (fun q=>q=(.sc (.bool (ii p)),H,nx)):=by
 refine Fnc.bz (Free.sc _) ?_
 refine Kp Tryz.func85 rfl rfl ?_
 repeat first|apply ai;rfl|apply lm (lw:=0) (hg:=12);rfl;rfl;rfl;exact(F.un _ rfl);exact(F.sz _ rfl);rfl;rfl;(focus(omega));(focus(omega));(focus(omega));rfl;rfl;rfl
 refine AZ (n:=11) z12 rfl rfl (F.un _ rfl) (F.ze _ rfl) (ah _ _ _) (by kernel_rfl) (by kernel_rfl) (by rw [bf hp];exact Jw rfl) ?_
 have hc:(pgS p).take 0 ++ z12 ++ (pgS p).drop (0+z12.length)=pgS (bareP p):=by
  unfold bareP
  simp [List.map_drop]
 rw [hc]
 have hl:=dY hp
 repeat first|apply bv hl;rfl;(focus((repeat(exact ac));done))|apply ai;rfl|refine cd (dg ix) rfl rfl rfl ?_|refine cd (qQ hl aj rfl rfl) rfl rfl rfl ?_
 (apply bP Tryz.func85 Tryz.results85;rfl)
 exact⟨rfl,JT _,fun m hm=>(aa _ _ (by omega)).trans (aa _ _ (by omega))⟩
abbrev qa(mem:List UInt8)(left puts:Int):List SV:=(byV mem).map .sc ++ [.sc (.int .i64 left),.sc (.int .i64 puts)]
abbrev cC(mem:List UInt8)(left puts:Int):VO:=ar 30 (qa mem left puts)
def ay(mem:List UInt8)(n:Nat):List UInt8:=(mem.drop (1024*n)).take 1024
theorem dz(hm:mem.length=131072)(hn:n<128):(ay mem n).length=1024:=by
 unfold ay
 rw [JZ,J2]
 omega
theorem oT(hm:mem.length=131072)(hn:n<128)(left puts:Int):(cC mem left puts).cellsFrom (0+n*1024) 1024=some (pgS (ay mem n)):=by
 refine am _ _ ?_ (by rw [bf (dz hm hn)])
 have hl:((byV mem).map SV.sc).length=131072:=by simpa using hm
 rw [List.drop_append_of_le_length (by omega),List.take_append_of_le_length (by rw [J2];omega)]
 unfold ay
 rw [JX,Nat.mul_comm]
 simp [List.map_take,List.map_drop]
theorem Hq{b:Nat}{left puts:Int}(hb:H.at' b=some (cC mem left puts))(hm:mem.length=131072)(hn:n<128):Fnc Tryz.prog 140 [.ptr b 0,.sc (.int .i64 (n:Int))] H nx (fun q=>q=(pgE (ay mem n,0),H,nx)):=by
 refine Fnc.bz (hJ _) ?_
 refine Kp Tryz.func140 rfl rfl ?_
 refine aX fun hund=>?_
 have hlt:=hund _ _ hb
 have hl:=dz hm hn
 repeat first|refine aZ rfl rfl cj ?_|apply ai;rfl|apply kY;rfl;omega|apply gA (q:=n);rfl;rfl;rfl;rfl;exact(F.un _ rfl);exact(F.sz _ rfl);(focus(omega));(focus(omega))
 refine dP rfl rfl rfl (F.ag _ rfl) (by repeat(first|assumption|refine ab (by omega) ?_)) (oT hm hn _ _) ?_
 repeat first|apply bE hl aj;rfl;(focus((repeat(exact ac));done))|apply ai;rfl
 ((apply bn Tryz.func140 (congrArg Array.toList Tryz.results140));(focus((apply Kr rfl (Kt (F.ag _ rfl) (by repeat(exact ac)) (bm hl)));(repeat(first|exact Kq|apply Ks rfl)))))
 exact⟨rfl,JT _,fun m hm=>(aa _ _ (by omega)).trans (aa _ _ (by omega))⟩
end
structure Okp (p:List UInt8):Prop where
 len:p.length=1024
 head:18+4*ae p≤aF p
 top:aF p≤1024
 last:0<ae p→aq p (ae p-1)≠0
 slot: ∀ j,j<ae p→(az p j=0∧aq p j=0)∨(1≤aq p j∧aq p j≤1000∧aF p≤az p j∧az p j+aq p j≤1024)
 apart: ∀ i j,i<j→j<ae p→aq p i≠0→aq p j≠0→az p i+aq p i≤az p j∨az p j+aq p j≤az p i
section
variable {a i n o s:Nat}{p:List UInt8}
theorem iO{seen:List (Nat×Nat)}:cK seen i=true↔ ∃ x∈seen,x.1≤i∧i<x.1+x.2:=by
 simp [cK,List.any_eq_true]
theorem s5{seen:List (Nat×Nat)}(h0:1≤s)(hs: ∀ x∈seen,1≤x.2):uE seen a s=true↔ ∃ x∈seen,x.1<a+s∧a<x.1+x.2:=by
 constructor
 ·intro h
  obtain⟨j,hj,hc⟩:=List.any_eq_true.1 h
  obtain⟨x,hx,h1⟩:=iO.1 hc
  have:=Kh.1 hj
  exact⟨x,hx,by omega,by omega⟩
 ·rintro⟨x,hx,h1,h2⟩
  have:=hs x hx
  rcases JY a x.1 with h3|h3
  ·exact md (i:=x.1) (by omega) (by omega) (iO.2 ⟨x,hx,by omega,by omega⟩)
  ·exact md (i:=a) (by omega) (by omega) (iO.2 ⟨x,hx,by omega,by omega⟩)
def iB(p:List UInt8):Nat→List (Nat×Nat)
 | 0=> []
 | n+1=>if aq p n=0 then iB p n else(az p n,aq p n) :: iB p n
theorem gL{p:List UInt8}{x:Nat×Nat}: ∀ {n:Nat},x∈iB p n↔ ∃ i,i<n∧aq p i≠0∧x=(az p i,aq p i)
 | 0=>by simp [iB]
 | n+1=>by
   unfold iB
   split
   ·rename_i h
    rw [gL]
    constructor
    ·rintro⟨i,h1,h2⟩
     exact⟨i,by omega,h2⟩
    ·rintro⟨i,h1,h2,h3⟩
     rcases JY i n with h4|h4
     ·exact⟨i,h4,h2,h3⟩
     ·obtain rfl:i=n:=by omega
      exact absurd h h2
   ·rename_i h
    rw [Ka,gL]
    constructor
    ·rintro(h1|⟨i,h1,h2⟩)
     ·exact⟨n,by omega,h,h1⟩
     ·exact⟨i,by omega,h2⟩
    ·rintro⟨i,h1,h2,h3⟩
     rcases JY i n with h4|h4
     ·exact .inr ⟨i,h4,h2,h3⟩
     ·obtain rfl:i=n:=by omega
      exact .inl h3
def lq(p:List UInt8)(j:Nat):Prop:=(az p j=0∧aq p j=0)∨((1≤aq p j∧aq p j≤1000∧aF p≤az p j∧az p j+aq p j≤1024)∧ ∀ i,i<j→aq p i≠0→az p i+aq p i≤az p j∨az p j+aq p j≤az p i)
theorem lI(p:List UInt8): ∀ (k n:Nat) (fine:Bool),fg p k n (iB p n) fine=true↔((∀ j,n≤j→j<n+k→lq p j)∧(if k=0 then fine=true else aq p (n+k-1)≠0∨n+k<ae p))
 | 0,n,fine=>by
   rw [JW rfl]
   exact⟨fun h=>⟨fun j h1 h2=>absurd h1 (by omega),h⟩,fun h=>h.2⟩
 | k+1,n,fine=>by
   rw [JV (Nat.succ_ne_zero k)]
   have hsz: ∀ x∈iB p n,1≤x.2:=fun x hx=>by
    obtain⟨i,_,h2,rfl⟩:=gL.1 hx
    exact Nat.pos_of_ne_zero h2
   have hall: ∀ {A:Prop},(lq p n)→(((∀ j,n≤j→j<n+(k+1)→lq p j)∧A)↔((∀ j,n+1≤j→j<n+1+k→lq p j)∧A)):=fun h=>
    ⟨fun g=>⟨fun j h1 h2=>g.1 j (by omega) (by omega),g.2⟩,fun g=>⟨fun j h1 h2=>by
      rcases JY n j with h3|h3
      ·exact g.1 j (by omega) (by omega)
      ·obtain rfl:n=j:=by omega
       exact h,g.2⟩⟩
   have hend: ∀ {b:Bool},(b=true↔aq p n≠0∨n+1<ae p)→((if k=0 then b=true else aq p (n+1+k-1)≠0∨n+1+k<ae p)↔(aq p (n+(k+1)-1)≠0∨n+(k+1)<ae p)):=fun {b} hb=>by
    by_cases hk:k=0
    ·subst hk
     rw [JW rfl]
     exact hb
    ·rw [JV hk,show n+1+k=n+(k+1) by omega]
   unfold fg
   split
   ·rename_i h
    have hs:iB p (n+1)=iB p n:=by show(if aq p n=0 then _ else _)=_;rw [JW h.2]
    rw [← hs,lI p k (n+1),hall (.inl h),hend]
    rw [Km]
    constructor
    ·exact .inr
    ·rintro(h1|h1)
     ·exact absurd h.2 h1
     ·exact h1
   ·rename_i h
    split
    ·rename_i h1
     constructor
     ·intro h2;cases h2
     ·rintro⟨h2,_⟩
      rcases h2 n (JK _) (by omega)with h3|⟨h3,_⟩
      ·exact absurd h3 h
      ·omega
    ·rename_i h1
     split
     ·rename_i h2
      constructor
      ·intro h2;cases h2
      ·rintro⟨h3,_⟩
       obtain⟨x,hx,h4⟩:=(s5 (by omega) hsz).1 h2
       obtain⟨i,h5,h6,rfl⟩:=gL.1 hx
       rcases h3 n (JK _) (by omega)with h7|⟨_,h7⟩
       ·exact absurd h7 h
       ·have:=h7 i h5 h6
        dsimp only at h4
        omega
     ·rename_i h2
      have hs:iB p (n+1)=(az p n,aq p n) :: iB p n:=by show(if aq p n=0 then _ else _)=_;rw [JV (by omega)]
      rw [← hs,lI p k (n+1),hall (.inr ⟨by omega,fun i hi hz=>?_⟩),hend]
      ·exact⟨fun _=> .inl (by omega),fun _=>rfl⟩
      ·rcases JY (az p n) (az p i+aq p i)with h3|h3
       ·rcases JY (az p i) (az p n+aq p n)with h4|h4
        ·exact absurd ((s5 (by omega) hsz).2 ⟨_,gL.2 ⟨i,hi,hz,rfl⟩,h4,h3⟩) h2
        ·exact .inr h4
       ·exact .inl h3
theorem bw(hp:p.length=1024):bl p=true↔Okp p:=by
 unfold bl
 have hg:=lI p (ae p) 0 true
 rw [show iB p 0= [] from rfl] at hg
 rw [JJ,Km,hg]
 constructor
 ·rintro⟨⟨h1,h2⟩,h3,h4⟩
  refine⟨hp,h1,h2,fun h=>?_,fun j hj=>?_,fun i j hi hj hzi hzj=>?_⟩
  ·rw [JV (by omega),JX] at h4
   rcases h4 with h4|h4
   ·exact h4
   ·exact absurd h4 (Nat.lt_irrefl _)
  ·rcases h3 j (JL _) (by omega)with h5|h5
   ·exact .inl h5
   ·exact .inr h5.1
  ·rcases h3 j (JL _) (by omega)with h5|h5
   ·exact absurd h5.2 hzj
   ·exact h5.2 i hi hzi
 ·intro h
  refine⟨⟨h.head,h.top⟩,fun j _ hj=>?_,?_⟩
  ·rcases h.slot j (by omega)with h5|h5
   ·exact .inl h5
   ·exact .inr ⟨h5,fun i hi hz=>h.apart i j hi (by omega) hz (by omega)⟩
  ·split
   ·rfl
   ·exact .inl (by rw [JX];exact h.last (by omega))
theorem Bh(hp:p.length=1024):bl p=false↔ ¬ Okp p:=by
 rw [← bw hp]
 cases bl p <;> simp
theorem tF{P Q:Nat→Bool}: ∀ (l:List Nat),(∀ i∈l,P i=true→Q i=true→False)→l.countP (fun i=>P i || Q i)=l.countP P+l.countP Q
 | [],_=>rfl
 | a :: l,h=>by
   have ih:=tF l fun i hi=>h i (J4 _ hi)
   have ha:=h a J3
   rw [List.countP_cons,List.countP_cons,List.countP_cons,ih]
   cases hP:P a <;> cases hQ:Q a
   ·simp
   ·simp;omega
   ·simp;omega
   ·exact absurd hQ (fun h2=>ha hP h2)
theorem ng(a s:Nat): ∀ n,(List.range n).countP (fun i=>decide (a≤i∧i<a+s))=min n (a+s)-min n a
 | 0=>by simp
 | n+1=>by
   rw [List.range_succ,List.countP_append,ng a s n,List.countP_cons,List.countP_nil]
   by_cases h:a≤n∧n<a+s
   ·rw [JW (by rw [Ke h])];omega
   ·rw [JV (by rw [Kf h];decide)];omega
def bZ(p:List UInt8):Nat→Nat
 | 0=>0
 | n+1=>bZ p n+aq p n
theorem Okp.count(h:Okp p): ∀ n,n≤ae p→(List.range 1024).countP (cK (iB p n))=bZ p n
 | 0,_=>by
   show(List.range 1024).countP (cK [])=0
   rw [List.countP_eq_zero]
   intro a _
   simp [cK]
 | n+1,hn=>by
   have ih:=h.count n (by omega)
   by_cases hz:aq p n=0
   ·have hs:iB p (n+1)=iB p n:=by show(if aq p n=0 then _ else _)=_;rw [JW hz]
    rw [hs,ih]
    show _=bZ p n+aq p n
    omega
   ·have hs:iB p (n+1)=(az p n,aq p n) :: iB p n:=by show(if aq p n=0 then _ else _)=_;rw [JV hz]
    have hsl:=h.slot n (by omega)
    rw [hs,show cK ((az p n,aq p n) :: iB p n)=fun i=>decide (az p n≤i∧i<az p n+aq p n) || cK (iB p n) i from funext fun i=>by simp only [cK,List.any_cons],
     tF,ng,ih]
    ·show _=bZ p n+aq p n
     omega
    ·intro i _ h1 h2
     have h1:=J7 h1
     obtain⟨x,hx,h3⟩:=iO.1 h2
     obtain⟨k,hk,hkz,rfl⟩:=gL.1 hx
     have:=h.apart k n hk (by omega) hkz hz
     dsimp only at h3
     omega
theorem Okp.sum_le(h:Okp p):aF p+bZ p (ae p)≤1024:=by
 have h1:=h.count _ (JK _)
 have h2:(List.range 1024).countP (cK (iB p (ae p)))≤(List.range 1024).countP (fun i=>decide (aF p≤i∧i<aF p+1024)):=by
  refine List.countP_mono_left fun i _ hi=>?_
  obtain⟨x,hx,h3⟩:=iO.1 hi
  obtain⟨k,hk,hkz,rfl⟩:=gL.1 hx
  have h4:=h.slot k hk
  dsimp only at h3
  exact Ke (by omega)
 rw [ng] at h2
 have:=h.top
 omega
theorem dE(p:List UInt8){m:Nat}: ∀ {n:Nat},m≤n→bZ p m≤bZ p n
 | 0,h=>by cases Nat.le_zero.1 h;exact JK _
 | n+1,h=>by
   rcases JY m (n+1)with h1|h1
   ·have:=dE p (show m≤n by omega)
    show _≤bZ p n+aq p n
    omega
   ·obtain rfl:m=n+1:=by omega
    exact JK _
theorem ji{q:List UInt8}{m:Nat}(h: ∀ i,o≤i→i<o+m→q[i]? =p[i]?):(q.drop o).take m=(p.drop o).take m:=by
 refine Kg fun j=>?_
 rw [List.getElem?_take,List.getElem?_take]
 split
 ·rw [List.getElem?_drop,List.getElem?_drop]
  exact h _ (by omega) (by omega)
 ·rfl
theorem vK{l:List UInt8}(h:o+l.length≤p.length):((be p o l).drop o).take l.length=l:=by
 refine Kg fun j=>?_
 rw [List.getElem?_take]
 split
 ·rw [List.getElem?_drop,cJ h,JW (by omega),show o+j-o=j by omega]
 ·rw [Kj (by omega)]
theorem mR{l:List UInt8}(h:o+l.length≤p.length)(hi:i<o∨o+l.length≤i):(be p o l)[i]? =p[i]? :=by
 rw [cJ h,JV (by omega)]
theorem fJ(h:o+2≤p.length)(hi:i<o∨o+2≤i):(cp p o n)[i]? =p[i]? :=
 mR (by rw [bp];exact h) (by rw [bp];exact hi)
theorem jO(h:18+4*n+4≤p.length)(hi:i<18+4*n∨18+4*n+4≤i):(bL p n a s)[i]? =p[i]? :=by
 unfold bL
 rw [fJ (by rw [bD (by omega)];omega) (by omega),fJ (by omega) (by omega)]
theorem cX(h:18+4*n+4≤p.length)(ho:o+2≤18+4*n∨18+4*n+4≤o):gT (bL p n a s) o=gT p o:=
 jS fun i h1 h2=>jO h (by omega)
theorem kI(h:18+4*n+4≤p.length)(ha:a<65536):az (bL p n a s) n=a:=by
 unfold bL
 exact(cR (by rw [bD (by omega)];omega) (by omega)).trans (eR (by omega) ha)
theorem mS(h:18+4*n+4≤p.length)(hs:s<65536):aq (bL p n a s) n=s:=by
 unfold bL
 exact eR (by rw [bD (by omega)];omega) hs
theorem nI(p:List UInt8): ∀ k n,(∀ j,n≤j→j<dx p k n→aq p j≠0)∧(dx p k n<n+k→aq p (dx p k n)=0)∧n≤dx p k n∧dx p k n≤n+k
 | 0,n=>⟨fun j h1 h2=>absurd (show j<n from h2) (by omega),fun h=>absurd (show n<n+0 from h) (by omega),JK _,JK _⟩
 | k+1,n=>by
   unfold dx
   split
   ·rename_i h
    exact⟨fun j h1 h2=>absurd h1 (by omega),fun _=>h,JK _,by omega⟩
   ·rename_i h
    have ih:=nI p k (n+1)
    refine⟨fun j h1 h2=>?_,fun h1=>ih.2.1 (by omega),by omega,by omega⟩
    rcases JY n j with h3|h3
    ·exact ih.1 j (by omega) h2
    ·obtain rfl:j=n:=by omega
     exact h
theorem gO(p:List UInt8):(∀ j,j<ba p→aq p j≠0)∧(ba p<ae p→aq p (ba p)=0)∧ba p≤ae p:=by
 have:=nI p (ae p) 0
 unfold ba
 exact⟨fun j hj=>this.1 j (JL _) hj,fun h=>this.2.1 (by omega),by omega⟩
abbrev jA(p:List UInt8):Nat:=if ba p=ae p then ae p+1 else ae p
theorem o4(hp:p.length=1024):(fv p).length=1024:=by
 unfold fv
 split
 ·rw [bD (by omega),hp]
 ·exact hp
theorem jU(hp:p.length=1024)(ho:o+2≤14∨16≤o):gT (fv p) o=gT p o:=by
 unfold fv
 split
 ·exact cR (by omega) (by omega)
 ·rfl
theorem zP(hp:p.length=1024)(hi:i<14∨16≤i):(fv p)[i]? =p[i]? :=by
 unfold fv
 split
 ·exact fJ (by omega) (by omega)
 ·rfl
theorem uC(hp:p.length=1024)(hs:ae p<1000):ae (fv p)=jA p:=by
 unfold fv jA
 split
 ·rename_i h
  rw [show ae (cp p 14 (ba p+1))=ba p+1 from eR (by omega) (by omega),h]
 ·rfl
end
structure Laid (p it q:List UInt8):Prop where
 len:q.length=1024
 slots:ae q=jA p
 begins:aF q=aF p-it.length
 froms:az q (ba p)=aF p-it.length
 sizes:aq q (ba p)=it.length
 from': ∀ j,j≠ba p→j<ae p→az q j=az p j
 size': ∀ j,j≠ba p→j<ae p→aq q j=aq p j
 item:(q.drop (aF p-it.length)).take it.length=it
 get: ∀ i,i<14∨aF p≤i→q[i]? =p[i]?
theorem laid{p it:List UInt8}(h:Okp p)(h2:it.length≤1000)(hroom:it.length≤fQ p)(h1:1≤it.length):Laid p it (o7 p it):=by
 have hp:=h.len
 have hh:=h.head
 have ht:=h.top
 have he:=(gO p).2.2
 have hmb:aF (fv p)=aF p:=jU hp (by omega)
 have hms:=uC hp (by omega)
 have hml:=o4 hp
 unfold fQ at hroom
 have ha:18+4*jA p+it.length≤aF p∧ba p<jA p:=by unfold jA;split at hroom <;> split <;> omega
 obtain⟨ha,hee⟩:=ha
 have hl2:(bL (fv p) (ba p) (aF p-it.length) it.length).length=1024:=(fF (by omega)).trans hml
 have hl3:(cp (bL (fv p) (ba p) (aF p-it.length) it.length) 16 (aF p-it.length)).length=1024:=(bD (by omega)).trans hl2
 have hl: ∀ o,o+2≤aF p-it.length→gT (o7 p it) o=gT (cp (bL (fv p) (ba p) (aF p-it.length) it.length) 16 (aF p-it.length)) o:=fun o ho=>by
  unfold o7
  rw [hmb]
  exact ol (by omega) (by omega)
 have ho: ∀ o,o+2≤aF p-it.length→(o+2≤16∨18≤o)→gT (o7 p it) o=gT (bL (fv p) (ba p) (aF p-it.length) it.length) o:=fun o ho h3=>(hl o ho).trans (cR (by omega) (by omega))
 have hmany:ae p≤jA p:=by unfold jA;split <;> omega
 refine⟨?_,?_,?_,?_,?_,fun j h3 h4=>?_,fun j h3 h4=>?_,?_,fun i hi=>?_⟩
 ·unfold o7
  rw [hmb,bM (by omega),hl3]
 ·exact(ho 14 (by omega) (by omega)).trans ((cX (by omega) (by omega)).trans hms)
 ·exact(hl 16 (by omega)).trans (eR (by omega) (by omega))
 ·exact(ho _ (by omega) (by omega)).trans (kI (by omega) (by omega))
 ·exact(ho _ (by omega) (by omega)).trans (mS (by omega) (by omega))
 ·exact(ho _ (by omega) (by omega)).trans ((cX (by omega) (by omega)).trans (jU hp (by omega)))
 ·exact(ho _ (by omega) (by omega)).trans ((cX (by omega) (by omega)).trans (jU hp (by omega)))
 ·unfold o7
  rw [hmb]
  exact vK (by omega)
 ·unfold o7
  rw [hmb,mR (by omega) (by omega),fJ (by omega) (by omega),jO (by omega) (by omega),zP hp (by omega)]
theorem Laid.ok{p it q:List UInt8}(h:Okp p)(h2:it.length≤1000)(hroom:it.length≤fQ p)(h1:1≤it.length)(g:Laid p it q):Okp q:=by
 have hh:=h.head
 have ht:=h.top
 obtain⟨he1,he2,he3⟩:=gO p
 unfold fQ at hroom
 have ha:18+4*jA p+it.length≤aF p∧ba p<jA p:=by unfold jA;split at hroom <;> split <;> omega
 have hm: ∀ j,j<jA p→j=ba p∨j≠ba p∧j<ae p:=fun j hj=>by unfold jA at hj;split at hj <;> omega
 have gb:=g.begins
 have gs:=g.slots
 refine⟨g.len,by omega,by omega,fun hpos=>?_,fun j hj=>?_,fun i j hij hj hzi hzj=>?_⟩
 ·rw [gs]
  rcases hm (jA p-1) (by omega)with h3|⟨h3,h4⟩
  ·rw [h3,g.sizes];omega
  ·rw [g.size' _ h3 h4]
   have:jA p=ae p:=by
    by_cases hc:ba p=ae p
    ·unfold jA at h3 h4
     rw [JW hc] at h3 h4
     omega
    ·unfold jA
     rw [JV hc]
   rw [this]
   exact h.last (by omega)
 ·rcases hm j (by omega)with h3|⟨h3,h4⟩
  ·subst h3
   rw [g.froms,g.sizes,gb]
   omega
  ·rw [g.from' _ h3 h4,g.size' _ h3 h4,gb]
   have:=h.slot j h4
   omega
 ·rcases hm i (by omega)with h3|⟨h3,h4⟩
  ·subst h3
   rcases hm j (by omega)with h5|⟨h5,h6⟩
   ·omega
   ·rw [g.froms,g.sizes,g.from' _ h5 h6,g.size' _ h5 h6]
    rw [g.size' _ h5 h6] at hzj
    have:=h.slot j h6
    omega
  ·rw [g.size' _ h3 h4] at hzi
   rw [g.from' _ h3 h4,g.size' _ h3 h4]
   have h7:=h.slot i h4
   rcases hm j (by omega)with h5|⟨h5,h6⟩
   ·subst h5
    rw [g.froms,g.sizes]
    omega
   ·rw [g.size' _ h5 h6] at hzj
    rw [g.from' _ h5 h6,g.size' _ h5 h6]
    exact h.apart i j hij h6 hzi hzj
theorem Laid.items{p it q:List UInt8}(h:Okp p)(g:Laid p it q):aT q (ba p)=it∧ ∀ j,j≠ba p→j<ae p→aq p j≠0→aT q j=aT p j:=by
 refine⟨?_,fun j h3 h4 h5=>?_⟩
 ·unfold aT
  rw [g.froms,g.sizes,g.item]
 ·unfold aT
  rw [g.from' _ h3 h4,g.size' _ h3 h4]
  have:=h.slot j h4
  exact ji fun i h6 h7=>g.get i (by omega)
def cf(p:List UInt8):Nat→List UInt8
 | 0=>be zeroP 0 (p.take (18+4*ae p))
 | n+1=>if aq p n=0 then cf p n else bL (be (cf p n) (1024-bZ p (n+1)) (aT p n)) n (1024-bZ p (n+1)) (aq p n)
def lf(p:List UInt8):List UInt8:=cp (cf p (ae p)) 16 (1024-bZ p (ae p))
def jf(p:List UInt8):List UInt8×Nat:=if bl p=true then(lf p,0) else(zeroP,4)
structure PackN (p:List UInt8) (n:Nat) (q:List UInt8):Prop where
 len:q.length=1024
 low: ∀ i,i<18→q[i]? =p[i]?
 from': ∀ j,j<n→aq p j≠0→az q j=1024-bZ p (j+1)
 size': ∀ j,j<n→aq p j≠0→aq q j=aq p j
 fromE: ∀ j,j<ae p→n≤j∨aq p j=0→az q j=az p j
 sizeE: ∀ j,j<ae p→n≤j∨aq p j=0→aq q j=aq p j
 item: ∀ j,j<n→aq p j≠0→(q.drop (1024-bZ p (j+1))).take (aq p j)=aT p j
 zero: ∀ i,18+4*ae p≤i→i<1024-bZ p n→q[i]? =some 0
theorem sK{p:List UInt8}(h:Okp p): ∀ n,n≤ae p→PackN p n (cf p n)
 | 0,_=>by
   have hp:=h.len
   have hh:=h.head
   have ht:=h.top
   have hl:(p.take (18+4*ae p)).length=18+4*ae p:=by rw [JZ];omega
   have hz:=aj
   have hg: ∀ i,i<18+4*ae p→(cf p 0)[i]? =p[i]? :=fun i hi=>by
    show(be zeroP 0 _)[i]? =_
    rw [cJ (by omega),JW (by omega),Nat.sub_zero,List.getElem?_take,JW hi]
   refine⟨(bM (by omega)).trans hz,fun i hi=>hg i (by omega),fun j hj=>absurd hj (Nat.not_lt_zero _),fun j hj=>absurd hj (Nat.not_lt_zero _),fun j hj _=>jS fun i h1 h2=>hg i (by omega),fun j hj _=>jS fun i h1 h2=>hg i (by omega),fun j hj=>absurd hj (Nat.not_lt_zero _),fun i h1 h2=>?_⟩
   show(be zeroP 0 _)[i]? =_
   rw [mR (by omega) (by omega)]
   have h2:i<1024:=by have:bZ p 0=0:=rfl;omega
   unfold zeroP
   rw [List.getElem?_replicate,JW h2]
 | n+1,hn=>by
   have ih:=sK h n (by omega)
   have hh:=h.head
   have ht:=h.top
   have hs1:=h.sum_le
   have hs2:=dE p (show n+1≤ae p from hn)
   have hs3:bZ p (n+1)=bZ p n+aq p n:=rfl
   by_cases hz:aq p n=0
   ·have hq:cf p (n+1)=cf p n:=by show(if _ then _ else _)=_;rw [JW hz]
    rw [hq]
    have hlt: ∀ {j},j<n+1→aq p j≠0→j<n:=fun {j} h1 h2=>by
     rcases JY j n with h3|h3
     ·exact h3
     ·obtain rfl:j=n:=by omega
      exact absurd hz h2
    refine⟨ih.len,ih.low,fun j h1 h2=>ih.from' j (hlt h1 h2) h2,fun j h1 h2=>ih.size' j (hlt h1 h2) h2,fun j h1 h2=>ih.fromE j h1 (by omega),fun j h1 h2=>ih.sizeE j h1 (by omega),fun j h1 h2=>ih.item j (hlt h1 h2) h2,fun i h1 h2=>ih.zero i h1 (by omega)⟩
   ·have hsl:=h.slot n (by omega)
    have hil:=dB h.len (p:=p) (j:=n) (by omega)
    have hq:cf p (n+1)=bL (be (cf p n) (1024-bZ p (n+1)) (aT p n)) n (1024-bZ p (n+1)) (aq p n):=by show(if _ then _ else _)=_;rw [JV hz]
    have hql:=ih.len
    have hl1:(be (cf p n) (1024-bZ p (n+1)) (aT p n)).length=1024:=(bM (by omega)).trans hql
    have hno: ∀ o,o+2≤18+4*ae p→o+2≤18+4*n∨18+4*n+4≤o→gT (cf p (n+1)) o=gT (cf p n) o:=fun o h1 h2=>by
     rw [hq]
     exact(cX (by omega) h2).trans (ol (by omega) (by omega))
    have hge: ∀ i,(i<18+4*n∨18+4*n+4≤i)→(i<1024-bZ p (n+1)∨1024-bZ p n≤i)→(cf p (n+1))[i]? =(cf p n)[i]? :=fun i h1 h2=>by
     rw [hq,jO (by omega) h1,mR (by omega) (by omega)]
    have hfr:az (cf p (n+1)) n=1024-bZ p (n+1):=by rw [hq];exact kI (by omega) (by omega)
    have hsz:aq (cf p (n+1)) n=aq p n:=by rw [hq];exact mS (by omega) (by omega)
    refine⟨by rw [hq,fF (by omega),hl1],fun i hi=>(hge i (by omega) (by omega)).trans (ih.low i hi),fun j h1 h2=>?_,fun j h1 h2=>?_,fun j h1 h2=>?_,fun j h1 h2=>?_,fun j h1 h2=>?_,fun i h1 h2=>?_⟩
    ·rcases JY j n with h3|h3
     ·exact(hno _ (by omega) (by omega)).trans (ih.from' j h3 h2)
     ·obtain rfl:j=n:=by omega
      exact hfr
    ·rcases JY j n with h3|h3
     ·exact(hno _ (by omega) (by omega)).trans (ih.size' j h3 h2)
     ·obtain rfl:j=n:=by omega
      exact hsz
    ·have:j≠n:=fun h3=>by subst h3;omega
     exact(hno _ (by omega) (by omega)).trans (ih.fromE j h1 (by omega))
    ·have:j≠n:=fun h3=>by subst h3;omega
     exact(hno _ (by omega) (by omega)).trans (ih.sizeE j h1 (by omega))
    ·rcases JY j n with h3|h3
     ·rw [← ih.item j h3 h2]
      have h4:=dE p (show j+1≤n by omega)
      have h5:bZ p (j+1)=bZ p j+aq p j:=rfl
      exact ji fun i h6 h7=>hge i (by omega) (by omega)
     ·obtain rfl:j=n:=by omega
      rw [hq]
      have h4:=vK (p:=cf p j) (o:=1024-bZ p (j+1)) (l:=aT p j) (by omega)
      rw [hil] at h4
      refine Eq.trans ?_ h4
      exact ji fun i h6 h7=>jO (by omega) (by omega)
    ·exact(hge i (by omega) (by omega)).trans (ih.zero i h1 (by omega))
structure Packed (p q:List UInt8):Prop where
 len:q.length=1024
 low: ∀ i,i<16→q[i]? =p[i]?
 slots:ae q=ae p
 begins:aF q=1024-bZ p (ae p)
 froms: ∀ j,j<ae p→az q j=if aq p j=0 then 0 else 1024-bZ p (j+1)
 sizes: ∀ j,j<ae p→aq q j=aq p j
 item: ∀ j,j<ae p→aq p j≠0→aT q j=aT p j
section
variable {H:au}{b:Nat}{left:Int}{n nx:Nat}{puts:Int}{mem p q x:List UInt8}
theorem qc(h:Okp p):Packed p (lf p):=by
 have g:=sK h _ (JK _)
 have hl:=g.len
 have hh:=h.head
 have ht:=h.top
 have hs1:=h.sum_le
 unfold lf
 have hno: ∀ o,o+2≤16∨18≤o→gT (cp (cf p (ae p)) 16 (1024-bZ p (ae p))) o=gT (cf p (ae p)) o:=fun o ho=>cR (by omega) (by omega)
 have hfr: ∀ j,j<ae p→az (cp (cf p (ae p)) 16 (1024-bZ p (ae p))) j=if aq p j=0 then 0 else 1024-bZ p (j+1):=fun j hj=>by
  refine(hno _ (by omega)).trans ?_
  split
  ·rename_i h1
   refine(g.fromE j hj (.inr h1)).trans ?_
   have:=h.slot j hj
   omega
  ·rename_i h1
   exact g.from' j hj h1
 have hsz: ∀ j,j<ae p→aq (cp (cf p (ae p)) 16 (1024-bZ p (ae p))) j=aq p j:=fun j hj=>by
  refine(hno _ (by omega)).trans ?_
  by_cases h1:aq p j=0
  ·exact g.sizeE j hj (.inr h1)
  ·exact g.size' j hj h1
 refine⟨(bD (by omega)).trans hl,fun i hi=>(fJ (by omega) (by omega)).trans (g.low i (by omega)),(hno 14 (by omega)).trans (jS fun i h1 h2=>g.low i (by omega)),eR (by omega) (by omega),hfr,hsz,fun j hj hz=>?_⟩
 unfold aT
 rw [hfr j hj,hsz j hj,JV hz]
 have h4:=dE p (show j+1≤ae p by omega)
 refine Eq.trans ?_ (g.item j hj hz)
 exact ji fun i h6 h7=>fJ (by omega) (by omega)
theorem Packed.ok(h:Okp p)(g:Packed p q):Okp q:=by
 have hh:=h.head
 have ht:=h.top
 have hs1:=h.sum_le
 have gs:=g.slots
 have gb:=g.begins
 refine⟨g.len,by omega,by omega,fun hpos=>?_,fun j hj=>?_,fun i j hij hj hzi hzj=>?_⟩
 ·rw [gs,g.sizes _ (by omega)]
  exact h.last (by omega)
 ·have h1:=h.slot j (by omega)
  have h4:=dE p (show j+1≤ae p by omega)
  have h5:bZ p (j+1)=bZ p j+aq p j:=rfl
  rw [g.froms j (by omega),g.sizes j (by omega),gb]
  split <;> omega
 ·rw [g.sizes i (by omega)] at hzi
  rw [g.sizes j (by omega)] at hzj
  rw [g.froms i (by omega),g.sizes i (by omega),g.froms j (by omega),g.sizes j (by omega),JV hzi,JV hzj]
  have h4:=dE p (show i+1≤j by omega)
  have h5:bZ p (j+1)=bZ p j+aq p j:=rfl
  have h6:=dE p (show j+1≤ae p by omega)
  exact .inr (by omega)
theorem qn{p q:List UInt8}: ∀ {k n},(∀ j,n≤j→j<n+k→aq q j=aq p j)→dx q k n=dx p k n
 | 0,_,_=>rfl
 | k+1,n,h=>by
   unfold dx
   rw [h n (JK _) (by omega),qn fun j h1 h2=>h j (by omega) (by omega)]
theorem Packed.empty(g:Packed p q):ba q=ba p:=by
 unfold ba
 rw [g.slots]
 exact qn fun j _ h2=>g.sizes j (by omega)
abbrev atO(p:List UInt8)(j:Nat):VO:=ar 3 [.sc (.int .i64 ((1024-bZ p j:Nat):Int))]
theorem Hr(hp:p.length=1024):Fnc Tryz.prog 28 [.agg (pgS p)] H nx (fun q=>q.1=pgE (jf p)∧nx≤q.2.2∧ ∀ m,m<nx→q.2.1.at' m=H.at' m):=by
 refine Kp Tryz.func28 rfl rfl ?_
 refine aX fun hund=>?_
 repeat first|refine aZ rfl rfl cj ?_|apply ai;rfl
 have hb1:((H.set nx (pgO p)).set (nx+1) (pgO zeroP)).at' nx=some (pgO p):=by repeat(first|exact ac|refine ab (by omega) ?_)
 have hz1:((H.set nx (pgO p)).set (nx+1) (pgO zeroP)).at' (nx+1)=some (pgO zeroP):=by repeat(exact ac)
 have ho1: ∀ m,m<nx→((H.set nx (pgO p)).set (nx+1) (pgO zeroP)).at' m=H.at' m:=fun m hm=>by(repeat(refine ab (by omega) ?_));rfl
 have hrs:=fun nx'=>gG (nx:=nx') hb1 hp
 generalize (H.set nx (pgO p)).set (nx+1) (pgO zeroP)=H1 at hb1 hz1 ho1 hrs ⊢
 cases hr:bl p with
 | false=>
   rw [hr] at hrs
   have hv:jf p=(zeroP,4):=by unfold jf;rw [JV (by rw [hr];decide)]
   repeat first|apply ai;rfl|apply aH;rfl;assumption;rfl|apply bU;rfl;kernel_rfl;exact hrs _|refine cd (dg ix) rfl rfl rfl ?_
   ((apply bn Tryz.func28 (congrArg Array.toList Tryz.results28));(focus((apply Kr rfl (Kt (F.ag _ rfl) (by repeat(exact ac)) (bm aj)));(repeat(first|exact Kq|apply Ks rfl)))))
   exact⟨by rw [hv];rfl,by dsimp only;omega,fun m hm=>(aa _ _ (by omega)).trans (ho1 m hm)⟩
 | true=>
   rw [hr] at hrs
   have hv:jf p=(lf p,0):=by unfold jf;rw [JW hr]
   have hok:=(bw hp).1 hr
   have hh:=hok.head
   have ht:=hok.top
   have hsum:=hok.sum_le
   repeat first|apply ai;rfl|apply bU;rfl;kernel_rfl;exact hrs _|refine aZ rfl rfl cj ?_
   have hb2:(H1.set (nx+1+1) (pgO zeroP)).at' nx=some (pgO p):=by repeat(first|assumption|refine ab (by omega) ?_)
   have hz2:(H1.set (nx+1+1) (pgO zeroP)).at' (nx+1)=some (pgO zeroP):=by repeat(first|assumption|refine ab (by omega) ?_)
   have hq2:(H1.set (nx+1+1) (pgO zeroP)).at' (nx+1+1)=some (pgO zeroP):=by repeat(exact ac)
   have ho2: ∀ m,m<nx→(H1.set (nx+1+1) (pgO zeroP)).at' m=H.at' m:=fun m hm=>(aa _ _ (by omega)).trans (ho1 m hm)
   generalize H1.set (nx+1+1) (pgO zeroP)=H2 at hb2 hz2 hq2 ho2 ⊢
   have htl:(p.take (18+4*ae p)).length=18+4*ae p:=by rw [JZ];omega
   have hzl:=aj
   have hbs:BsIs H2 (.sl nx 0 (18+4*ae p) 1024) (byV (p.take (18+4*ae p))):=by
    have:=nn (b:=nx) (p:=p) (o:=0) (m:=18+4*ae p) (C:=1024) hb2 (by omega)
    rw [List.drop_zero] at this
    exact this
   (apply bg;(focus(kernel_rfl));(focus(kernel_rfl)))
   repeat first|apply bH;rfl;rfl;exact(fun _ h=>by cases h);exact(fZ (l:=0) (h:=1024) (F.un _ rfl) (F.sz _ rfl) rfl rfl rfl (by omega) (by omega) (by omega) (show 1024-0=1024 from rfl) rfl rfl)|apply b8;rfl;rfl;rfl;(focus(kernel_rfl));exact(ja hb2 hp)|apply bH;rfl;rfl;exact(fun _ h=>by cases h);exact(fZ (l:=0) (h:=18+4*ae p) (F.un _ rfl) (F.sz _ rfl) rfl rfl rfl (by omega) (by omega) (by omega) (show 18+4*ae p-0=18+4*ae p from rfl) rfl rfl)|apply kg;rfl;rfl;exact(fun _ h=>by cases h);exact(vU (vs:=byV (p.take (18+4*ae p))) (F.un _ rfl) (F.sz _ rfl) rfl rfl hq2 hbs (by rw [bN];omega) (by rw [bf aj,bN];omega))|refine bk (aw rfl rfl (.inl ⟨rfl,(Js _ ⟨(by focus(omega)),(by focus(omega))⟩).symm⟩)) rfl rfl rfl ?_|refine bk (aw rfl rfl (.inr (.inr ⟨rfl,(Js _ ⟨(by focus(omega)),(by focus(omega))⟩).symm⟩))) rfl rfl rfl ?_
   refine aA ⟨by kernel_rfl,?_,?_⟩;(focus(repeat(first|exact Kz|apply li;rfl|refine⟨.inr ⟨0,by kernel_rfl,AllH.all (fun _=>(by(exact aw rfl rfl (.inl ⟨rfl,(Js _ ⟨by omega,by omega⟩).symm⟩)))) _⟩,?_⟩|refine f9 0 rfl (by kernel_rfl) (by(repeat(refine⟨(by first|exact fZ (l:=0) (h:=1024) (F.un _ rfl) (F.sz _ rfl) rfl rfl rfl (by omega) (by omega) (by omega) (show 1024-0=1024 from rfl) rfl rfl|exact fZ (l:=0) (h:=18+4*ae p) (F.un _ rfl) (F.sz _ rfl) rfl rfl rfl (by omega) (by omega) (by omega) (show 18+4*ae p-0=18+4*ae p from rfl) rfl rfl),?_⟩));exact Kz) ?_|apply ml;kernel_rfl)))
   dsimp only
   rw [mU (p:=zeroP) (o:=0) (l:=p.take (18+4*ae p)) rfl]
   have hb3:(H2.set (nx+1+1) (pgO (be zeroP 0 (p.take (18+4*ae p))))).at' nx=some (pgO p):=by repeat(first|assumption|refine ab (by omega) ?_)
   have hz3:(H2.set (nx+1+1) (pgO (be zeroP 0 (p.take (18+4*ae p))))).at' (nx+1)=some (pgO zeroP):=by repeat(first|assumption|refine ab (by omega) ?_)
   have hq3:(H2.set (nx+1+1) (pgO (be zeroP 0 (p.take (18+4*ae p))))).at' (nx+1+1)=some (pgO (cf p 0)):=ah _ _ _
   have ho3: ∀ m,m<nx→(H2.set (nx+1+1) (pgO (be zeroP 0 (p.take (18+4*ae p))))).at' m=H.at' m:=fun m hm=>(aa _ _ (by omega)).trans (ho2 m hm)
   generalize H2.set (nx+1+1) (pgO (be zeroP 0 (p.take (18+4*ae p))))=H3 at hb3 hz3 hq3 ho3 ⊢
   clear hb2 hz2 hq2 ho2 hbs hb1 hz1 ho1 hrs
   repeat first|apply bv hp;rfl;(focus((repeat(first|assumption|refine ab (by omega) ?_));done))|apply ai;rfl|apply aH;rfl;(focus((repeat(exact ac));done));rfl|apply bU;rfl;kernel_rfl;exact uH hp
   rw [hr]
   obtain⟨q0,hq0⟩: ∃ q0,q0=nx+1+1+1+1:=⟨_,rfl⟩
   rw [← hq0]
   refine cT (R:=fun H4 n4=>n4=q0+1+1∧H4.at' q0=some (pgO p)∧H4.at' (q0+1)=some (ar 4 [.sc (.bool true)])∧H4.at' nx=some (pgO p)∧H4.at' (nx+1)=some (pgO zeroP)∧H4.at' (nx+1+1)=some (pgO (cf p 0))∧H4.at' (nx+1+1+1)=some (atO p 0)∧ ∀ m,m<nx→H4.at' m=H.at' m)
    ⟨rfl,by repeat(first|exact ac|refine ab (by omega) ?_),by repeat(exact ac),by repeat(first|assumption|refine ab (by omega) ?_),by repeat(first|assumption|refine ab (by omega) ?_),by repeat(first|assumption|refine ab (by omega) ?_),by repeat(first|exact ac|refine ab (by omega) ?_),fun m hm=>by(repeat(refine ab (by omega) ?_));exact ho3 m hm⟩ ?_
   rintro H4 n4 ⟨rfl,m0,m1,m2,m4,m5,m6,mo⟩
   clear hb3 hz3 hq3 ho3
   refine iW [(1,.ptr nx 0),(2,.ptr (nx+1) 0),(4,.ptr (nx+1+1) 0),(5,.ptr (nx+1+1+1) 0)] rfl rfl (by kernel_rfl) (Kv (Ky rfl)) ?_
   intro cA cB hcA hcB
   refine Ko (uG (l:=q0+1+1+1) (f:=q0+1) (q:=q0) hp hr (f2:=28) (nt2:=37) (T2:=slT [(1,.ptr nx 0),(2,.ptr (nx+1) 0),(4,.ptr (nx+1+1) 0),(5,.ptr (nx+1+1+1) 0)]) (ps:= #[19,20]) (ca:=cA) (cb:=cB) (dr:=q0+1+1) rfl
    (fun j H5 n5=>H5.at' (q0+1+1+1)=some (.loop .ready none 28 37 (slT [(1,.ptr nx 0),(2,.ptr (nx+1) 0),(4,.ptr (nx+1+1) 0),(5,.ptr (nx+1+1+1) 0)]) #[19,20] cA cB (q0+1+1))∧H5.at' (q0+1)=some (ar 4 [.sc (.bool true)])∧H5.at' q0=some (pgO p)∧q0+1+1+1+1≤n5∧H5.at' nx=some (pgO p)∧H5.at' (nx+1)=some (pgO zeroP)∧H5.at' (nx+1+1)=some (pgO (cf p j))∧H5.at' (nx+1+1+1)=some (atO p j)∧H5.at' (q0+1+1)=some (.dfd (some []))∧ ∀ m,m<nx→H5.at' m=H.at' m)
    (fun _ _=>False)
    ?_ ?_ ?_ ?_ ?_) ?_
   ·rintro j H5 n5 ⟨i1,i2,i3,i4,_⟩
    exact⟨i1,i2,i3,by omega,by omega,by omega⟩
   ·rintro j H5 n5 H6 n6 ⟨i1,i2,i3,i4,i5,i6,i7,i8,i9,i10⟩ hle hs
    exact⟨(hs _ (by omega)).trans i1,(hs _ (by omega)).trans i2,(hs _ (by omega)).trans i3,by omega,(hs _ (by omega)).trans i5,(hs _ (by omega)).trans i6,(hs _ (by omega)).trans i7,(hs _ (by omega)).trans i8,(hs _ (by omega)).trans i9,fun m hm=>(hs _ (by omega)).trans (i10 m hm)⟩
   ·rintro j H5 n5 ⟨i1,i2,i3,i4,i5,i6,i7,i8,i9,i10⟩ hz
    have e1:cf p (j+1)=cf p j:=by show(if _ then _ else _)=_;rw [JW hz]
    have e2:atO p (j+1)=atO p j:=by unfold atO;rw [show bZ p (j+1)=bZ p j from by show bZ p j+aq p j=_;omega]
    exact⟨i1,i2,i3,i4,i5,i6,by rw [e1];exact i7,by rw [e2];exact i8,i9,i10⟩
   ·rintro j H5 n5 r ⟨i1,i2,i3,i4,i5,i6,i7,i8,i9,i10⟩ hr1 hr2 hj hs hrow
    have hrow2:(H5.set (q0+1+1+1) (.loop .busy none 28 37 (slT [(1,.ptr nx 0),(2,.ptr (nx+1) 0),(4,.ptr (nx+1+1) 0),(5,.ptr (nx+1+1+1) 0)]) #[19,20] cA cB (q0+1+1))).at' r=some (u8R false (byV (aT p j))):=(aa _ _ (by omega)).trans hrow
    have hsl:=hok.slot j hj
    have hil:=dB hp (j:=j) (by omega)
    have hbl:=bN (aT p j)
    have hmono:=dE p (show j+1≤ae p by omega)
    have hsj:bZ p (j+1)=bZ p j+aq p j:=rfl
    have hpk:=sK hok j (by omega)
    have e1:cf p (j+1)=bL (be (cf p j) (1024-bZ p (j+1)) (aT p j)) j (1024-bZ p (j+1)) (aq p j):=by show(if _ then _ else _)=_;rw [JV hs]
    refine nw hcA ?_
    repeat apply ai;rfl
    refine qz (by assumption) ?_
    refine nw hcB ?_
    repeat first|apply ai;rfl|apply aH;rfl;(focus((repeat(first|assumption|exact ac|refine ab (by omega) ?_));done));rfl|apply aL;rfl;omega;omega
    rw [show((1024-bZ p j:Nat):Int)-((aT p j).length:Int)=((1024-bZ p (j+1):Nat):Int) by omega]
    repeat first|apply ai;rfl|apply lm (lw:=1024-bZ p (j+1)) (hg:=1024) (m:=1024-(1024-bZ p (j+1)));rfl;rfl;rfl;exact(F.un _ rfl);exact(F.sz _ rfl);rfl;rfl;(focus(omega));(focus(omega));(focus(omega));rfl;rfl;exact(JX _)
    refine oC rfl rfl rfl rfl (F.un _ rfl) (F.sz _ rfl) (cs:=pgS (cf p j)) (vs:=byV (aT p j)) (by repeat(first|assumption|refine ab (by omega) ?_)) (js (by(repeat(refine ab (by omega) ?_));exact hrow)) (by omega) (by rw [bf hpk.len];omega) ?_
    rw [mU rfl]
    have hlq:(be (cf p j) (1024-bZ p (j+1)) (aT p j)).length=1024:=(bM (by rw [hpk.len];omega)).trans hpk.len
    repeat first|apply ai;rfl|apply aH;rfl;(focus((repeat(first|exact ac|refine ab (by omega) ?_));done));rfl
    refine aI rfl rfl rfl (by kernel_rfl) (Ko (qT (b:=nx+1+1) (by repeat(exact ac)) hlq (n:=j) (a:=1024-bZ p (j+1)) (s:=(aT p j).length) (by omega) (by omega) (by omega)) ?_)
    rintro⟨_,H6,n6⟩ ⟨rfl,g1,g2,g3⟩
    dsimp only at g1 g2 g3 ⊢
    rw [hil,←e1] at g1
    have g4:H6.at' (q0+1+1+1)=some (.loop .busy none 28 37 (slT [(1,.ptr nx 0),(2,.ptr (nx+1) 0),(4,.ptr (nx+1+1) 0),(5,.ptr (nx+1+1+1) 0)]) #[19,20] cA cB (q0+1+1)):=(g3 (q0+1+1+1) (by omega) (by omega)).trans (by repeat(first|exact ac|refine ab (by omega) ?_))
    have g6:H6.at' (nx+1+1+1)=some (atO p (j+1)):=(g3 _ (by omega) (by omega)).trans (by repeat(first|exact ac|refine ab (by omega) ?_))
    have gk: ∀ m,m<n5→m≠q0+1+1+1→m≠nx+1+1→m≠nx+1+1+1→H6.at' m=H5.at' m:=fun m h1 h2 h3 h4=>(g3 m h1 h3).trans ((aa _ _ h3).trans ((aa _ _ h4).trans (aa _ _ h2)))
    clear g3 hrow hrow2
    repeat apply ai;rfl
    refine iy (by exact g4) (.inl ⟨rfl,⟨ah _ _ _,?_,?_,by dsimp only;omega,?_,?_,?_,?_,?_,fun m hm=>?_⟩,by dsimp only;omega,?_⟩)
    ·(focus((repeat(refine ab (by omega) ?_));exact(gk _ (by omega) (by omega) (by omega) (by omega)).trans i2))
    ·(focus((repeat(refine ab (by omega) ?_));exact(gk _ (by omega) (by omega) (by omega) (by omega)).trans i3))
    ·(focus((repeat(refine ab (by omega) ?_));exact(gk _ (by omega) (by omega) (by omega) (by omega)).trans i5))
    ·(focus((repeat(refine ab (by omega) ?_));exact(gk _ (by omega) (by omega) (by omega) (by omega)).trans i6))
    ·(focus((repeat(refine ab (by omega) ?_));exact g1))
    ·(focus((repeat(refine ab (by omega) ?_));exact g6))
    ·(focus((repeat(refine ab (by omega) ?_));exact(gk _ (by omega) (by omega) (by omega) (by omega)).trans i9))
    ·(focus((repeat(refine ab (by omega) ?_));exact(gk _ (by omega) (by omega) (by omega) (by omega)).trans (i10 m hm)))
    ·(focus((repeat(refine ab (by omega) ?_));exact gk _ (by omega) (by omega) (by omega) (by omega)))
   ·exact⟨ah _ _ _,by repeat(first|assumption|refine ab (by omega) ?_),by repeat(first|assumption|refine ab (by omega) ?_),JK _,by repeat(first|assumption|refine ab (by omega) ?_),by repeat(first|assumption|refine ab (by omega) ?_),by repeat(first|assumption|refine ab (by omega) ?_),by repeat(first|assumption|refine ab (by omega) ?_),by repeat(first|exact ac|refine ab (by omega) ?_),fun m hm=>(aa _ _ (by omega)).trans ((aa _ _ (by omega)).trans (mo m hm))⟩
   ·rintro⟨v,H5,n5⟩ (⟨i1,i2,i3,i4,i5,i6,i7,i8,i9,i10⟩|hf)
    ·dsimp only at i1 i2 i3 i4 i5 i6 i7 i8 i9 i10 ⊢
     refine iz i1 (fun h=>by cases h) ?_
     dsimp only [kz]
     have hpk:=sK hok (ae p) (JK _)
     have hpl:=hpk.len
     have hvl:(cp (cf p (ae p)) 16 (1024-bZ p (ae p))).length=1024:=(bD (by omega)).trans hpl
     repeat first|apply ai;rfl|apply aH;rfl;(focus((repeat(first|assumption|refine ab (by omega) ?_));done));rfl
     refine aI rfl rfl rfl (by kernel_rfl) (Ko (pO (b:=nx+1+1) (o:=16) (n:=1024-bZ p (ae p)) (by(repeat(refine ab (by omega) ?_));exact i7) hpl (by decide) (by omega)) ?_)
     rintro⟨_,H6,n6⟩ ⟨rfl,g1,g2,g3⟩
     dsimp only at g1 g2 g3 ⊢
     have g4:H6.at' (nx+1)=some (pgO zeroP):=(g3 _ (by omega) (by omega)).trans (by(repeat(refine ab (by omega) ?_));exact i6)
     have g9:H6.at' (q0+1+1)=some (.dfd (some [])):=(g3 _ (by omega) (by omega)).trans (by(repeat(refine ab (by omega) ?_));exact i9)
     have go: ∀ m,m<nx→H6.at' m=H.at' m:=fun m hm=>(g3 _ (by omega) (by omega)).trans (by(repeat(refine ab (by omega) ?_));exact i10 m hm)
     have hpv:cp (cf p (ae p)) 16 (1024-bZ p (ae p))=lf p:=rfl
     rw [hpv] at g1 hvl
     generalize lf p=pv at hv hvl g1
     clear hpv g3
     repeat first|apply bv hvl;rfl;assumption|apply bE hvl aj;rfl;assumption|apply ai;rfl
     refine rV Tryz.func28 (congrArg Array.toList Tryz.results28) (rs:= [q0+1+1]) rfl (fun r hr=>by rw [J1.1 hr];(focus((repeat(first|assumption|refine ab (by omega) ?_));done))) (by simp) ?_
     intro H7 hH7
     have hno: ∀ m,m≤nx+1→m∉ [q0+1+1]:=fun m hm h=>by have:=J1.1 h;omega
     have k4:H7.at' (nx+1)=some (pgO pv):=(hH7 _ (hno _ (by omega))).trans (by repeat(exact ac))
     refine⟨_,(by(apply Kr rfl (Kt (F.ag _ rfl) (by assumption) (bm hvl)));(repeat(first|exact Kq|apply Ks rfl))),?_⟩
     exact⟨by rw [hv];rfl,by dsimp only;omega,fun m hm=>(hH7 m (hno _ (by omega))).trans (by(repeat(refine ab (by omega) ?_));exact go m hm)⟩
    ·exact hf.elim
theorem CQ(hp:p.length=1024):Fnc Tryz.prog 28 [.agg (pgS p)] H nx (fun q=>q=(pgE (jf p),H,nx)):=Fnc.bz (hJ _) (Hr hp)
theorem mT(hm:mem.length=131072)(l p:Int):(qa mem l p).length=131074:=by simp [hm]
theorem fu(hm:mem.length=131072):((byV mem).map SV.sc).length=131072:=by simpa using hm
theorem vP(hm:mem.length=131072)(l p:Int):(qa mem l p)[131072]? =some (.sc (.int .i64 l)):=by
 rw [J5 (by rw [fu hm];exact JK _),fu hm]
 rfl
theorem dv(hm:mem.length=131072)(l p:Int):(qa mem l p)[131073]? =some (.sc (.int .i64 p)):=by
 rw [J5 (by rw [fu hm];decide),fu hm]
 rfl
theorem vO(hm:mem.length=131072)(l p l':Int):(qa mem l p).set 131072 (.sc (.int .i64 l'))=qa mem l' p:=by
 rw [List.set_append_right _ _ (by rw [fu hm];exact JK _),fu hm]
 rfl
theorem By(hm:mem.length=131072)(l p p':Int):(qa mem l p).set 131073 (.sc (.int .i64 p'))=qa mem l p':=by
 rw [List.set_append_right _ _ (by rw [fu hm];decide),fu hm]
 rfl
def gD(mem:List UInt8)(n:Nat)(x:List UInt8):List UInt8:=be mem (1024*n) x
theorem kE(hm:mem.length=131072)(hn:n<128)(hx:x.length=1024):(gD mem n x).length=131072:=by
 unfold gD
 rw [bM (by omega),hm]
theorem D1(hm:mem.length=131072)(hn:n<128)(hx:x.length=1024)(l p:Int):(qa mem l p).take (0+n*1024) ++ pgS x ++ (qa mem l p).drop (0+n*1024+1024)=qa (gD mem n x) l p:=by
 have hl:=fu hm
 rw [List.take_append_of_le_length (by omega),List.drop_append_of_le_length (by omega)]
 unfold gD be
 rw [hx,JX,Nat.mul_comm n]
 show _=(byV (mem.take (1024*n) ++ x ++ mem.drop (1024*n+1024))).map SV.sc ++ _
 rw [kq,kq,JP,JP]
 simp only [byV,List.map_take,List.map_drop,J6]
theorem vJ(hb:H.at' b=some (cC mem left puts))(hm:mem.length=131072)(hn:n<128)(hx:x.length=1024)(hl:left≠0)(hl2 : -1000000000≤left∧left≤1000000000)(hp : -1000000000≤puts∧puts≤1000000000):Fnc Tryz.prog 141 [.ptr b 0,.sc (.int .i64 (n:Int)),.agg (pgS x)] H nx
 (fun q=>q.1 = .sc (.int .i64 0)∧q.2.1.at' b=some (cC (gD mem n x) (left-1) (puts+1))∧nx≤q.2.2∧ ∀ m,m<nx→m≠b→q.2.1.at' m=H.at' m):=by
 refine Kp Tryz.func141 rfl rfl ?_
 refine aX fun hund=>?_
 have hlt:=hund _ _ hb
 have hbox:(H.set nx (pgO x)).at' nx=some (pgO x):=ah _ _ _
 have hb1:(H.set nx (pgO x)).at' b=some (cC mem left puts):=(aa _ _ (by omega)).trans hb
 have hold: ∀ m,m<nx→(H.set nx (pgO x)).at' m=H.at' m:=fun m hm=>aa _ _ (by omega)
 repeat apply ai;rfl
 generalize H.set nx (pgO x)=H1 at hbox hb1 hold ⊢
 repeat first|refine cZ rfl rfl rfl (F.ag _ rfl) hb1 (vP hm _ _) ?_|apply ai;rfl|apply aL;rfl;omega;omega|apply kY;rfl;omega|apply ig;rfl;omega
 refine dq rfl rfl rfl (F.sz _ rfl) hb1 rfl (Jy (by rw [mT hm];decide)) ?_
 rw [vO hm]
 have hb2:(H1.set b (cC mem (left-1) puts)).at' b=some (cC mem (left-1) puts):=ah _ _ _
 repeat first|refine cZ rfl rfl rfl (F.ag _ rfl) hb2 (dv hm _ _) ?_|apply ai;rfl|apply aL;rfl;omega;omega
 refine dq rfl rfl rfl (F.sz _ rfl) hb2 rfl (Jy (by rw [mT hm];decide)) ?_
 rw [By hm]
 have hb3:((H1.set b (cC mem (left-1) puts)).set b (cC mem (left-1) (puts+1))).at' b=some (cC mem (left-1) (puts+1)):=ah _ _ _
 have hbox3:((H1.set b (cC mem (left-1) puts)).set b (cC mem (left-1) (puts+1))).at' nx=some (pgO x):=(aa _ _ (by omega)).trans ((aa _ _ (by omega)).trans hbox)
 have hold3: ∀ m,m<nx→m≠b→((H1.set b (cC mem (left-1) puts)).set b (cC mem (left-1) (puts+1))).at' m=H.at' m:=fun m h1 h2=>(aa _ _ h2).trans ((aa _ _ h2).trans (hold m h1))
 generalize (H1.set b (cC mem (left-1) puts)).set b (cC mem (left-1) (puts+1))=H3 at hb3 hbox3 hold3 ⊢
 clear hb2 hb1 hbox hold
 repeat apply ai;rfl
 (apply bg;(focus(kernel_rfl));(focus(kernel_rfl)))
 repeat first|refine cg rfl rfl rfl (F.ag _ rfl) hbox3 (bf hx) ?_|refine bY rfl rfl rfl (F.sz _ rfl) hb3 (bf hx) (by rw [mT hm];omega) (iH _) (D1 hm hn hx _ _) ?_|apply jl (q:=n);rfl;rfl;rfl;rfl;exact(F.un _ rfl);exact(F.sz _ rfl);(focus(omega));(focus(omega))|apply aU;rfl
 refine aA ⟨by kernel_rfl,?_,?_⟩;(focus(repeat(first|exact Kz|apply li;rfl|apply gq;rfl;kernel_rfl|refine f9 0 rfl (by kernel_rfl) (by(repeat(refine⟨(by first|exact aW (F.ag _ rfl) rfl (by repeat(first|assumption|refine ab (by omega) ?_)) (bm hx)|exact gI (q:=n) rfl rfl (F.un _ rfl) (F.sz _ rfl) (by omega) (by omega)),?_⟩));exact Kz) ?_)))
 repeat apply ai;rfl
 (apply bP Tryz.func141 Tryz.results141;rfl)
 exact⟨rfl,ah _ _ _,JT _,fun m h1 h2=>(aa _ _ h2).trans (hold3 m h1 h2)⟩
def kP(p:List UInt8):Nat:=(p.getD 12 0).toNat
theorem HG(hp:p.length=1024):Fnc Tryz.prog 88 [.agg (pgS p)] H nx (fun q=>q=(.sc (.int .u8 (kP p:Int)),H,nx)):=by
 refine Fnc.bz (Free.sc _) ?_
 refine Kp Tryz.func88 rfl rfl ?_
 have hc:=oe (p:=p) (i:=12) (by omega)
 repeat first|apply ai;rfl|apply gA (q:=12);rfl;rfl;rfl;rfl;exact(F.un _ rfl);exact(F.sz _ rfl);(focus(omega));(focus(omega))|refine cd (an (F.ag _ rfl) rfl (by repeat(exact ac)) hc) rfl rfl rfl ?_
 (apply bP Tryz.func88 Tryz.results88;rfl)
 refine⟨?_,JT _,fun m hm=>aa _ _ (by omega)⟩
 have hg:p.getD 12 0=p[12]'(by omega):=by rw [JF,Ju (by omega)];rfl
 unfold kP
 rw [hg]
 rfl
def xR(p:List UInt8):Bool:=(List.range (ae p)).any fun j=>decide (aq p j≠0) && (ofV (aT p j)).isNone
def aS(p:List UInt8):List UInt8×Nat:=if ii p=true then(eV 4,0) else if bl p=false∨kP p≠4 then(zeroP,13) else if xR p=true then(zeroP,13) else(p,0)
theorem cF{s:SV}{vs:List Value}(h:BsIs H s vs):s.one=true:=by
 obtain⟨_,⟨_,_,_,rfl⟩|⟨r0,eo,ne,ro0,t0,us,rfl,_⟩|⟨b0,o0,C0,vo0,rfl,_⟩⟩:=h <;> rfl
abbrev tZ(b:Nat):SV:= .ifc 25 (.ptr b 0)
abbrev fA(e:Int):VO:=ar 43 [.sc (.int .i64 e)]
theorem Hh(hb:H.at' b=some (cC mem left puts))(hm:mem.length=131072)(hn:n<128):Fnc Tryz.prog 43 [tZ b,.sc (.int .i64 (n:Int))] H nx (fun q=>q.1=pgE (aS (ay mem n))∧nx≤q.2.2∧ ∀ m,m<nx→q.2.1.at' m=H.at' m):=by
 have hp:=dz hm hn
 refine Kp Tryz.func43 rfl rfl ?_
 refine aX fun hund=>?_
 have hlt:=hund _ _ hb
 repeat first|refine aZ rfl rfl cj ?_|apply ai;rfl
 have hb1:((H.set nx (pgO zeroP)).set (nx+1) (fA 0)).at' b=some (cC mem left puts):=by repeat(first|assumption|refine ab (by omega) ?_)
 have h41:((H.set nx (pgO zeroP)).set (nx+1) (fA 0)).at' nx=some (pgO zeroP):=by repeat(first|exact ac|refine ab (by omega) ?_)
 have h51:((H.set nx (pgO zeroP)).set (nx+1) (fA 0)).at' (nx+1)=some (fA 0):=by repeat(exact ac)
 have ho1: ∀ m,m<nx→((H.set nx (pgO zeroP)).set (nx+1) (fA 0)).at' m=H.at' m:=fun m hm=>by(repeat(refine ab (by omega) ?_));rfl
 refine lV 140 rfl rfl rfl rfl (by kernel_rfl) (Ko (Hq hb1 hm hn) ?_)
 rintro _ rfl
 dsimp only
 generalize (H.set nx (pgO zeroP)).set (nx+1) (fA 0)=H1 at hb1 h41 h51 ho1 ⊢
 generalize ay mem n=p at hp ⊢
 repeat first|refine aZ rfl rfl cj ?_|apply bE hp aj;rfl;(focus((repeat(exact ac));done))|apply ai;rfl|apply dK;rfl;rfl
 have h62:((H1.set (nx+1+1) (pgO zeroP)).set (nx+1+1) (pgO p)).at' (nx+1+1)=some (pgO p):=ah _ _ _
 have h42:((H1.set (nx+1+1) (pgO zeroP)).set (nx+1+1) (pgO p)).at' nx=some (pgO zeroP):=by repeat(first|assumption|refine ab (by omega) ?_)
 have h52:((H1.set (nx+1+1) (pgO zeroP)).set (nx+1+1) (pgO p)).at' (nx+1)=some (fA 0):=by repeat(first|assumption|refine ab (by omega) ?_)
 have ho2: ∀ m,m<nx→((H1.set (nx+1+1) (pgO zeroP)).set (nx+1+1) (pgO p)).at' m=H.at' m:=fun m hm=>(aa _ _ (by omega)).trans ((aa _ _ (by omega)).trans (ho1 m hm))
 refine cT (R:=fun H2 n2=>H2=(H1.set (nx+1+1) (pgO zeroP)).set (nx+1+1) (pgO p)∧n2=nx+1+1+1) ⟨rfl,rfl⟩ ?_
 rintro H2 n2 ⟨hH2,rfl⟩
 rw [← hH2] at h62 h42 h52 ho2
 clear hH2 h41 h51 ho1 hb1
 have hfin: ∀ (e:Nat) (x:List UInt8) (H3:au) (n3:Nat),aS p=(x,e)→nx≤n3→(∀ m,m<nx→H3.at' m=H.at' m)→(SV.tup [.agg (pgS x),.sc (.int .i64 (e:Int))]=pgE (aS p)∧nx≤n3∧ ∀ m,m<nx→H3.at' m=H.at' m):=fun e x H3 n3 h1 h2 h3=>⟨by rw [h1],h2,h3⟩
 cases hu:ii p with
 | true=>
   have hv:aS p=(eV 4,0):=by unfold aS;rw [JW hu]
   have hus:=fun(H:au) nx=>vp (H:=H) (nx:=nx) hp
   rw [hu] at hus
   have hl4:=fT 4
   repeat first|apply bv hp;rfl;assumption|apply ai;rfl|apply bU;rfl;kernel_rfl;exact hus _ _
   refine aI rfl rfl rfl (by kernel_rfl) (Ko (HN 4) ?_)
   rintro _ rfl
   dsimp only
   generalize eV 4=p4 at hv hl4
   repeat first|apply bE hl4 aj;rfl;assumption|apply ai;rfl|apply aH;rfl;(focus((repeat(first|assumption|refine ab (by omega) ?_));done));rfl
   ((apply bn Tryz.func43 (congrArg Array.toList Tryz.results43));(focus((apply Kr rfl (Kt (F.ag _ rfl) (by repeat(first|exact ac|refine ab (by omega) ?_)) (bm hl4)));apply Kr rfl (Ku (F.ag _ rfl) (by repeat(exact ac)) (aC rfl));exact Kq)))
   exact hfin 0 _ _ _ hv (by dsimp only;omega) fun m hm=>(aa _ _ (by omega)).trans ((aa _ _ (by omega)).trans (ho2 m hm))
 | false=>
   have hus:=fun(H:au) nx=>vp (H:=H) (nx:=nx) hp
   rw [hu] at hus
   have hrs:=fun(H:au) nx=>EX (H:=H) (nx:=nx) hp
   cases hr:bl p with
   | false=>
     have hv:aS p=(zeroP,13):=by unfold aS;rw [JV (by rw [hu];decide),JW (.inl hr)]
     rw [hr] at hrs
     repeat first|apply bv hp;rfl;assumption|apply bE aj aj;rfl;assumption|apply ai;rfl|apply aH;rfl;(focus((repeat(first|assumption|refine ab (by omega) ?_));done));rfl|apply bU;rfl;kernel_rfl;exact hus _ _|apply bU;rfl;kernel_rfl;exact hrs _ _|refine cd (dg ix) rfl rfl rfl ?_
     ((apply bn Tryz.func43 (congrArg Array.toList Tryz.results43));(focus((apply Kr rfl (Kt (F.ag _ rfl) (by repeat(first|exact ac|refine ab (by omega) ?_)) (bm aj)));apply Kr rfl (Ku (F.ag _ rfl) (by repeat(exact ac)) (aC rfl));exact Kq)))
     exact hfin 13 _ _ _ hv (by dsimp only;omega) fun m hm=>(aa _ _ (by omega)).trans ((aa _ _ (by omega)).trans (ho2 m hm))
   | true=>
     rw [hr] at hrs
     repeat first|apply bv hp;rfl;assumption|apply ai;rfl|apply bU;rfl;kernel_rfl;exact hus _ _|apply bU;rfl;kernel_rfl;exact hrs _ _|apply bU;rfl;kernel_rfl;exact HG hp
     refine lU rfl rfl rfl rfl (fun hk=>?_) (fun hk=>?_)
     ·have hv:aS p=(zeroP,13):=by unfold aS;rw [JV (by rw [hu];decide),JW (.inr (by omega))]
      repeat first|apply bE aj aj;rfl;assumption|apply ai;rfl|apply aH;rfl;(focus((repeat(first|assumption|refine ab (by omega) ?_));done));rfl|refine cd (dg ix) rfl rfl rfl ?_
      ((apply bn Tryz.func43 (congrArg Array.toList Tryz.results43));(focus((apply Kr rfl (Kt (F.ag _ rfl) (by repeat(first|exact ac|refine ab (by omega) ?_)) (bm aj)));apply Kr rfl (Ku (F.ag _ rfl) (by repeat(exact ac)) (aC rfl));exact Kq)))
      exact hfin 13 _ _ _ hv (by dsimp only;omega) fun m hm=>(aa _ _ (by omega)).trans ((aa _ _ (by omega)).trans (ho2 m hm))
     ·have hv:aS p=if xR p=true then(zeroP,13) else(p,0):=by unfold aS;rw [JV (by rw [hu];decide),JV (by rw [hr];intro h;rcases h with h|h;cases h;omega)]
      repeat first|apply bv hp;rfl;assumption|apply ai;rfl|apply bU;rfl;kernel_rfl;exact uH hp
      rw [hr]
      obtain⟨q0,hq0⟩: ∃ q0,q0=nx+1+1+1:=⟨_,rfl⟩
      rw [← hq0]
      have m0:((H2.set q0 (pgO p)).set (q0+1) (ar 4 [.sc (.bool true)])).at' q0=some (pgO p):=by repeat(first|exact ac|refine ab (by omega) ?_)
      have m1:((H2.set q0 (pgO p)).set (q0+1) (ar 4 [.sc (.bool true)])).at' (q0+1)=some (ar 4 [.sc (.bool true)]):=ah _ _ _
      have m4:((H2.set q0 (pgO p)).set (q0+1) (ar 4 [.sc (.bool true)])).at' nx=some (pgO zeroP):=by repeat(first|assumption|refine ab (by omega) ?_)
      have m5:((H2.set q0 (pgO p)).set (q0+1) (ar 4 [.sc (.bool true)])).at' (nx+1)=some (fA 0):=by repeat(first|assumption|refine ab (by omega) ?_)
      have m6:((H2.set q0 (pgO p)).set (q0+1) (ar 4 [.sc (.bool true)])).at' (nx+1+1)=some (pgO p):=by repeat(first|assumption|refine ab (by omega) ?_)
      have mo: ∀ m,m<nx→((H2.set q0 (pgO p)).set (q0+1) (ar 4 [.sc (.bool true)])).at' m=H.at' m:=fun m hm=>(aa _ _ (by omega)).trans ((aa _ _ (by omega)).trans (ho2 m hm))
      generalize (H2.set q0 (pgO p)).set (q0+1) (ar 4 [.sc (.bool true)])=H3 at m0 m1 m4 m5 m6 mo ⊢
      clear ho2 h52 h42 h62 hus hrs hu
      refine iW [(4,.ptr nx 0),(5,.ptr (nx+1) 0)] rfl rfl (by kernel_rfl) (Kv (Ky rfl)) ?_
      intro cA cB hcA hcB
      refine Ko (uG (l:=q0+1+1+1) (f:=q0+1) (q:=q0) hp hr (f2:=43) (nt2:=47) (T2:=slT [(4,.ptr nx 0),(5,.ptr (nx+1) 0)]) (ps:= #[36,37]) (ca:=cA) (cb:=cB) (dr:=q0+1+1) rfl
       (fun j H4 n4=>H4.at' (q0+1+1+1)=some (.loop .ready none 43 47 (slT [(4,.ptr nx 0),(5,.ptr (nx+1) 0)]) #[36,37] cA cB (q0+1+1))∧H4.at' (q0+1)=some (ar 4 [.sc (.bool true)])∧H4.at' q0=some (pgO p)∧q0+1+1+1+1≤n4∧H4.at' nx=some (pgO zeroP)∧H4.at' (nx+1)=some (fA 0)∧H4.at' (nx+1+1)=some (pgO p)∧H4.at' (q0+1+1)=some (.dfd (some []))∧(∀ i,i<j→aq p i≠0→(ofV (aT p i)).isSome=true)∧ ∀ m,m<nx→H4.at' m=H.at' m)
       (fun H4 n4=>H4.at' (q0+1+1+1)=some (.loop .done (some .ret) 43 47 (slT [(4,.ptr nx 0),(5,.ptr (nx+1) 0)]) #[36,37] cA cB (q0+1+1))∧q0≤n4∧H4.at' nx=some (pgO zeroP)∧H4.at' (nx+1)=some (fA 13)∧H4.at' (q0+1+1)=some (.dfd (some []))∧xR p=true∧ ∀ m,m<nx→H4.at' m=H.at' m)
       ?_ ?_ ?_ ?_ ?_) ?_
      ·rintro j H4 n4 ⟨i1,i2,i3,i4,_⟩
       exact⟨i1,i2,i3,by omega,by omega,by omega⟩
      ·rintro j H4 n4 H5 n5 ⟨i1,i2,i3,i4,i5,i6,i7,i8,i9,i10⟩ hle hs
       exact⟨(hs _ (by omega)).trans i1,(hs _ (by omega)).trans i2,(hs _ (by omega)).trans i3,by omega,(hs _ (by omega)).trans i5,(hs _ (by omega)).trans i6,(hs _ (by omega)).trans i7,(hs _ (by omega)).trans i8,i9,fun m hm=>(hs _ (by omega)).trans (i10 m hm)⟩
      ·rintro j H4 n4 ⟨i1,i2,i3,i4,i5,i6,i7,i8,i9,i10⟩ hz
       refine⟨i1,i2,i3,i4,i5,i6,i7,i8,fun i hi hs=>?_,i10⟩
       rcases JY i j with h|h
       ·exact i9 i h hs
       ·obtain rfl:i=j:=by omega
        exact absurd hz hs
      ·rintro j H4 n4 r ⟨i1,i2,i3,i4,i5,i6,i7,i8,i9,i10⟩ hr1 hr2 hj hs hrow
       have hrow2:(H4.set (q0+1+1+1) (.loop .busy none 43 47 (slT [(4,.ptr nx 0),(5,.ptr (nx+1) 0)]) #[36,37] cA cB (q0+1+1))).at' r=some (u8R false (byV (aT p j))):=(aa _ _ (by omega)).trans hrow
       have hil:(aT p j).length≤1024:=by unfold aT;rw [JZ,J2];omega
       refine nw hcA ?_
       repeat apply ai;rfl
       refine qz (by assumption) ?_
       refine nw hcB ?_
       repeat apply ai;rfl
       refine aI rfl rfl rfl (by kernel_rfl) (Ko (of_s (js hrow2) (by omega)) ?_)
       rintro⟨_,H5,n5⟩ ⟨s',r',rfl,⟨k,w,rfl,gk,gw⟩,_,g2,g3⟩
       dsimp only at g2 g3 ⊢
       have j1:=(g3 _ (show q0+1+1+1<n4 by omega)).trans (ah _ _ _)
       have jo: ∀ m,m<n4→m≠q0+1+1+1→H5.at' m=H4.at' m:=fun m h1 h2=>(g3 m h1).trans (aa _ _ h2)
       have j4:H5.at' nx=some (pgO zeroP):=(jo _ (by omega) (by omega)).trans i5
       have j5:H5.at' (nx+1)=some (fA 0):=(jo _ (by omega) (by omega)).trans i6
       have hone: ∀ x y:Nat,bi (eF k w x y)=true:=fun x y=>by simp only [bi,cF gk.bs,cF gw.bs];rfl
       clear gk gw g3 hrow hrow2
       repeat first|apply ai;rfl|refine dp rfl rfl rfl (F.sz _ rfl) (by repeat(first|assumption|exact ac)) rfl (by exact Jw rfl) (hone _ _) rfl ?_
       cases ho:ofV (aT p j)with
       | none=>
         have hbd:xR p=true:=by
          unfold xR
          rw [List.any_eq_true]
          exact⟨j,Kh.2 hj,by rw [Ke hs,ho];rfl⟩
         refine lU rfl rfl rfl rfl (fun _=>?_) (fun hq=>absurd hq (by decide))
         repeat first|apply bE aj aj;rfl;(focus((repeat(first|assumption|refine ab (by omega) ?_));done))|apply ai;rfl|apply aH;rfl;(focus((repeat(first|assumption|refine ab (by omega) ?_));done));rfl|refine cd (dg ix) rfl rfl rfl ?_
         refine w8 (by repeat(first|assumption|refine ab (by omega) ?_)) (.inr ⟨rfl,ah _ _ _,by dsimp only;omega,by repeat(first|exact ac|refine ab (by omega) ?_),by repeat(first|exact ac|refine ab (by omega) ?_),?_,hbd,fun m hm=>?_⟩)
         ·(focus((repeat(refine ab (by omega) ?_));exact(jo _ (by omega) (by omega)).trans i8))
         ·(focus((repeat(refine ab (by omega) ?_));exact(jo _ (by omega) (by omega)).trans (i10 m hm)))
       | some v=>
         refine lU rfl rfl rfl rfl (fun hq=>absurd rfl hq) (fun _=>?_)
         repeat apply ai;rfl
         refine iy (by repeat(first|assumption|refine ab (by omega) ?_)) (.inl ⟨rfl,⟨ah _ _ _,?_,?_,by dsimp only;omega,?_,?_,?_,?_,fun i hi hsi=>?_,fun m hm=>?_⟩,by dsimp only;omega,?_⟩)
         ·(focus((repeat(refine ab (by omega) ?_));exact(jo _ (by omega) (by omega)).trans i2))
         ·(focus((repeat(refine ab (by omega) ?_));exact(jo _ (by omega) (by omega)).trans i3))
         ·(focus((repeat(first|assumption|refine ab (by omega) ?_));done))
         ·(focus((repeat(first|assumption|refine ab (by omega) ?_));done))
         ·(focus((repeat(refine ab (by omega) ?_));exact(jo _ (by omega) (by omega)).trans i7))
         ·(focus((repeat(refine ab (by omega) ?_));exact(jo _ (by omega) (by omega)).trans i8))
         ·rcases JY i j with h|h
          ·exact i9 i h hsi
          ·obtain rfl:i=j:=by omega
           rw [ho]
           rfl
         ·(focus((repeat(refine ab (by omega) ?_));exact(jo _ (by omega) (by omega)).trans (i10 m hm)))
         ·(focus((repeat(refine ab (by omega) ?_));exact jo _ (by omega) (by omega)))
      ·exact⟨ah _ _ _,by repeat(first|assumption|refine ab (by omega) ?_),by repeat(first|assumption|refine ab (by omega) ?_),JK _,by repeat(first|assumption|refine ab (by omega) ?_),by repeat(first|assumption|refine ab (by omega) ?_),by repeat(first|assumption|refine ab (by omega) ?_),by repeat(first|exact ac|refine ab (by omega) ?_),fun i hi=>absurd hi (Nat.not_lt_zero _),fun m hm=>(aa _ _ (by omega)).trans ((aa _ _ (by omega)).trans (mo m hm))⟩
      ·rintro⟨v,H4,n4⟩ (⟨i1,i2,i3,i4,i5,i6,i7,i8,i9,i10⟩|⟨i1,i4,i5,i6,i8,i9,i10⟩)
       ·dsimp only at i1 i2 i3 i4 i5 i6 i7 i8 i10 ⊢
        have hbad:xR p=false:=by
         unfold xR
         rw [List.any_eq_false]
         intro j hj
         have hj:=Kh.1 hj
         by_cases hz:aq p j=0
         ·rw [Kf (fun h=>h hz)];simp
         ·have:=i9 j hj hz
          rw [show(ofV (aT p j)).isNone=false by cases h:ofV (aT p j)with|none=>rw [h] at this;cases this|some _=>rfl]
          simp
        rw [hbad] at hv
        refine iz i1 (fun h=>by cases h) ?_
        dsimp only [kz]
        have h6: ∀ vo,(H4.set (q0+1+1+1) vo).at' (nx+1+1)=some (pgO p):=fun vo=>(aa _ _ (by omega)).trans i7
        have h4: ∀ vo,(H4.set (q0+1+1+1) vo).at' nx=some (pgO zeroP):=fun vo=>(aa _ _ (by omega)).trans i5
        repeat first|apply bv hp;rfl;(focus((repeat(first|assumption|refine ab (by omega) ?_));done))|apply bE hp aj;rfl;(focus((repeat(first|assumption|refine ab (by omega) ?_));done))|apply ai;rfl|apply aH;rfl;(focus((repeat(first|assumption|refine ab (by omega) ?_));done));rfl
        refine rV Tryz.func43 (congrArg Array.toList Tryz.results43) (rs:= [q0+1+1]) rfl (fun r hr=>by rw [J1.1 hr];(focus((repeat(first|assumption|refine ab (by omega) ?_));done))) (by simp) ?_
        intro H7 hH7
        have hno: ∀ m,m≤nx+1→m∉ [q0+1+1]:=fun m hm h=>by have:=J1.1 h;omega
        have g4:H7.at' nx=some (pgO p):=(hH7 nx (hno _ (by omega))).trans (by repeat(first|exact ac|refine ab (by omega) ?_))
        have g5:H7.at' (nx+1)=some (fA 0):=(hH7 _ (hno _ (by omega))).trans (by repeat(exact ac))
        refine⟨_,(by((apply Kr rfl (Kt (F.ag _ rfl) (by assumption) (bm hp)));apply Kr rfl (Ku (F.ag _ rfl) (by assumption) (aC rfl));exact Kq)),?_⟩
        exact hfin 0 _ _ _ (hv.trans (JV (by decide))) (by dsimp only;omega) fun m hm=>(hH7 m (hno _ (by omega))).trans (by(repeat(refine ab (by omega) ?_));exact i10 m hm)
       ·dsimp only at i1 i4 i5 i6 i8 i10 ⊢
        refine iz i1 (fun h=>by cases h) ?_
        dsimp only [kz]
        refine rV Tryz.func43 (congrArg Array.toList Tryz.results43) (rs:= [q0+1+1]) rfl (fun r hr=>by rw [J1.1 hr];(focus((repeat(first|assumption|refine ab (by omega) ?_));done))) (by simp) ?_
        intro H7 hH7
        have hno: ∀ m,m≤nx+1→m∉ [q0+1+1]:=fun m hm h=>by have:=J1.1 h;omega
        have g4:H7.at' nx=some (pgO zeroP):=(hH7 nx (hno _ (by omega))).trans (by repeat(first|assumption|refine ab (by omega) ?_))
        have g5:H7.at' (nx+1)=some (fA 13):=(hH7 _ (hno _ (by omega))).trans (by repeat(first|assumption|refine ab (by omega) ?_))
        refine⟨_,(by((apply Kr rfl (Kt (F.ag _ rfl) (by assumption) (bm aj)));apply Kr rfl (Ku (F.ag _ rfl) (by assumption) (aC rfl));exact Kq)),?_⟩
        exact hfin 13 _ _ _ (hv.trans (JW i9)) (by dsimp only;omega) fun m hm=>(hH7 m (hno _ (by omega))).trans (by(repeat(refine ab (by omega) ?_));exact i10 m hm)
theorem sy(hb:H.at' b=some (cC mem left puts))(hm:mem.length=131072)(hn:n<128):Fnc Tryz.prog 43 [tZ b,.sc (.int .i64 (n:Int))] H nx (fun q=>q=(pgE (aS (ay mem n)),H,nx)):=Fnc.bz (hJ _) (Hh hb hm hn)
end
end Go.Proofs.YtnhmbonmlfeifaaGreat
end
