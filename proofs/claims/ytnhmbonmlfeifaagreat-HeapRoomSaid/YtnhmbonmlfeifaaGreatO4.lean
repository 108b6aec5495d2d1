import Derived.Laws.StructEq
import Derived.ChangeKeysEq
import Derived.Test.YtnhmbonmlfeifaaGreatO3
set_option linter.unusedVariables false
set_option linter.unusedSimpArgs false
set_option maxRecDepth 100000
set_option maxHeartbeats 0
section
namespace Go.Proofs.YtnhmbonmlfeifaaGreat
open Go Go.Sy Go.Sl Go.RowKit
section
variable {H:au}{b n nx o:Nat}{l p:List UInt8}
abbrev pgS(p:List UInt8):List SV:=(byV p).map .sc
abbrev pgO(p:List UInt8):VO:=ar 27 (pgS p)
theorem be(h:p.length=n):(pgS p).length=n:=by simpa using h
def bf(p:List UInt8)(o:Nat)(l:List UInt8):List UInt8:=p.take o ++ l ++ p.drop (o+l.length)
theorem bN(h:o+l.length≤p.length):(bf p o l).length=p.length:=by
 unfold bf
 simp only [Jz,JK,JN]
 omega
def gL(p:List UInt8)(at':Nat):Nat:=beN ((p.drop at').take 2)
def cm(p:List UInt8)(at' n:Nat):List UInt8:=bf p at' (beB n 2)
theorem bD(h:o+2≤p.length):(cm p o n).length=p.length:=bN (by rw [bq];exact h)
theorem cJ(p:List UInt8)(o:Nat):gL p o<65536:=by
 have h1:=mw ((p.drop o).take 2)
 have h2:((p.drop o).take 2).length≤2:=by rw [JK];omega
 have h3:256 ^ ((p.drop o).take 2).length≤256 ^ 2:=Nat.pow_le_pow_right (by decide) h2
 unfold gL
 omega
theorem nR{i:Nat}(hi:i<p.length):(pgO p).cell i=some (.sc (.int .u8 ((p[i]).toNat:Int))):=aB (by simp [hi])
theorem mM(hn:(byV l).length=n):(pgS p).take o ++ (byV l).map .sc ++ (pgS p).drop (o+n)=pgS (bf p o l):=by
 subst hn
 unfold bf
 simp [List.map_take,List.map_drop]
theorem nd{m C:Nat}(hb:H.at' b=some (pgO p))(h:o+m≤p.length):BsIs H (.sl b o m C) (byV ((p.drop o).take m)):=by
 have hl:(byV ((p.drop o).take m)).length=m:=by simp;omega
 refine⟨fun v hv=>?_,.inr (.inr ⟨b,o,C,_,by rw [hl],hb,?_⟩)⟩
 ·obtain⟨c,_,rfl⟩:=J3.1 hv
  rfl
 ·rw [hl]
  exact aq _ o (by simp [List.map_take,List.map_drop]) (by simpa using hl)
theorem hU{r:Nat}{ro:Bool}(hb:H.at' r=some (dat ro n 1 5 (byV l)))(hn:l.length=n):BsIs H (.slu r 0 n) (byV l):=
 BsIs.row (fun v hv=>by obtain⟨c,_,rfl⟩:=J3.1 hv;rfl) hb (by simpa using hn)
theorem nT(hb:H.at' b=some (pgO p))(hp:p.length=1024)(ho:o+2≤1024):Fnc Tryz.prog 100 [.ptr b 0,.sc (.int .i64 (o:Int))] H nx (fun q=>q=(.sc (.int .i64 (gL p o:Int)),H,nx)):=by
 have hl:((p.drop o).take 2).length=2:=by simp;omega
 have hlt:=cJ p o
 have hg: ∀ {nx C:Nat},Fnc Tryz.prog 102 [.sl b o 2 C] H nx (fun q=>q=(.tup [.sc (.int .u64 (gL p o:Int)),.sc (.int .i64 0)],H,nx)):=HD (nd hb (by omega)) (by omega) (by omega)
 refine Ka Tryz.func100 rfl rfl ?_
 repeat first|apply ai;rfl|apply aL;rfl;omega;omega|apply kV (lw:=o) (hg:=o+2);rfl;rfl;rfl;exact(F.un _ rfl);exact(F.sz _ rfl);rfl;rfl;(focus(omega));(focus(omega));(focus(omega));exact(show o+2-o=2 by omega);rfl;exact(JI o)|apply bY;rfl;kernel_rfl;exact hg|refine cd (bR (F.un _ rfl) (F.un _ rfl) rfl (show _=((gL p o:Nat):Int)from Jd _ ⟨by omega,by omega⟩)) rfl rfl rfl ?_
 (apply bP Tryz.func100 Tryz.results100;rfl)
 rfl
abbrev ac(p:List UInt8):Nat:=gL p 14
abbrev aD(p:List UInt8):Nat:=gL p 16
theorem iX(hb:H.at' b=some (pgO p))(hp:p.length=1024):Fnc Tryz.prog 64 [.ptr b 0] H nx (fun q=>q=(.sc (.int .i64 (ac p:Int)),H,nx)):=by
 refine Ka Tryz.func64 rfl rfl ?_
 repeat first|apply ai;rfl|apply bY;rfl;kernel_rfl;exact nT (o:=14) hb hp (by decide)
 (apply bP Tryz.func64 Tryz.results64;rfl)
 rfl
theorem rG(hb:H.at' b=some (pgO p))(hp:p.length=1024):Fnc Tryz.prog 70 [.ptr b 0] H nx (fun q=>q=(.sc (.int .i64 (aD p:Int)),H,nx)):=by
 refine Ka Tryz.func70 rfl rfl ?_
 repeat first|apply ai;rfl|apply bY;rfl;kernel_rfl;exact nT (o:=16) hb hp (by decide)
 (apply bP Tryz.func70 Tryz.results70;rfl)
 rfl
abbrev Er(f:Nat):SV:= .fn (.func 101) [] [.ptr f 0]
abbrev BM(b:Nat):VO:=ar 128 [.ptr b 0]
theorem mf:Fnc Tryz.prog 80 [.ptr b 0] H nx (fun q=>q=(Er nx,H.set nx (BM b),nx+1)):=by
 refine Ka Tryz.func80 rfl rfl ?_
 repeat apply ai;rfl
 (apply bP Tryz.func80 Tryz.results80;rfl)
 rfl
abbrev ay(p:List UInt8)(n:Nat):Nat:=gL p (18+4*n)
abbrev ak(p:List UInt8)(n:Nat):Nat:=gL p (18+4*n+2)
theorem oc{f:Nat}(hf:H.at' f=some (BM b))(hb:H.at' b=some (pgO p))(hp:p.length=1024)(hn:18+4*n+4≤1024):Fnc Tryz.prog 101 [.sc (.int .i64 (n:Int)),.ptr f 0] H nx
 (fun q=>q=(.tup [.sc (.int .i64 (ay p n:Int)),.sc (.int .i64 (ak p n:Int))],H,nx)):=by
 have h1: ∀ nx,Fnc Tryz.prog 100 [.ptr b 0,.sc (.int .i64 (18+4*(n:Int)))] H nx (fun q=>q=(.sc (.int .i64 (ay p n:Int)),H,nx)):=fun nx=>by
  have:=nT (nx:=nx) (o:=18+4*n) hb hp (by omega)
  rw [show((18+4*n:Nat):Int)=18+4*(n:Int) by omega] at this
  exact this
 have h2: ∀ nx,Fnc Tryz.prog 100 [.ptr b 0,.sc (.int .i64 (18+4*(n:Int)+2))] H nx (fun q=>q=(.sc (.int .i64 (ak p n:Int)),H,nx)):=fun nx=>by
  have:=nT (nx:=nx) (o:=18+4*n+2) hb hp (by omega)
  rw [show((18+4*n+2:Nat):Int)=18+4*(n:Int)+2 by omega] at this
  exact this
 refine Ka Tryz.func101 rfl rfl ?_
 repeat first|apply ai;rfl|apply aL;rfl;omega;omega
 (apply cj;(focus(kernel_rfl));(focus(kernel_rfl)))
 repeat first|apply aS;rfl|refine bj (aw rfl rfl (.inl ⟨rfl,(Jd _ ⟨(by focus(omega)),(by focus(omega))⟩).symm⟩)) rfl rfl rfl ?_|refine bj (am (F.ag _ rfl) rfl hf (aB rfl)) rfl rfl rfl ?_|apply bT;rfl;rfl;rfl;(focus(kernel_rfl));exact(h1 _)|apply bT;rfl;rfl;rfl;(focus(kernel_rfl));exact(h2 _)
 refine aA ⟨by kernel_rfl,?_,?_⟩;(focus(repeat(first|exact Kk|apply fv;rfl|apply eK;rfl|refine⟨.inr (by(repeat(refine⟨(by first|exact aw rfl rfl (.inl ⟨rfl,(Jd _ ⟨by omega,by omega⟩).symm⟩)|exact am (F.ag _ rfl) rfl (by assumption) (aB rfl)),?_⟩));exact Kk),?_⟩)))
 (apply bP Tryz.func101 Tryz.results101;rfl)
 rfl
theorem pA(hb:H.at' b=some (pgO p))(hp:p.length=1024)(ho:o+2≤1024)(hn:n<65536):Fnc Tryz.prog 66 [.ptr b 0,.sc (.int .i64 (o:Int)),.sc (.int .i64 (n:Int))] H nx
 (fun q=>q.1 = .tup []∧q.2.1.at' b=some (pgO (cm p o n))∧nx≤q.2.2∧ ∀ m,m<nx→m≠b→q.2.1.at' m=H.at' m):=by
 refine Ka Tryz.func66 rfl rfl ?_
 refine aX fun hund=>?_
 have hlt:=hund _ _ hb
 repeat first|apply ai;rfl|refine cd (bR (F.un _ rfl) (F.un _ rfl) rfl (show _=((n:Nat):Int)from J5 _ ⟨by omega,by omega⟩)) rfl rfl rfl ?_
 refine aI rfl rfl rfl (by kernel_rfl) (J9 (Bi (n:=n) (size:=2) (by omega) (by decide) (by decide) (by omega)) ?_)
 rintro⟨_,H2,n2⟩ ⟨rfl,h2,rfl,h4⟩
 dsimp only at h2 h4 ⊢
 have hb2:=(h4 b hlt).trans hb
 repeat first|apply ai;rfl|apply aL;rfl;omega;omega|apply kV (lw:=o) (hg:=o+2);rfl;rfl;rfl;exact(F.un _ rfl);exact(F.sz _ rfl);rfl;rfl;(focus(omega));(focus(omega));(focus(omega));exact(show o+2-o=2 by omega);rfl;exact(JI o)|refine cd (dg rfl rfl (.inl ⟨rfl,rfl⟩)) rfl rfl rfl ?_
 refine oe rfl rfl rfl rfl (F.un _ rfl) (F.sz _ rfl) hb2 (hU h2 (by rw [bq])) (by simp [bq]) (by simp [bq];omega) ?_
 repeat apply ai;rfl
 (apply Cr Tryz.func66 Tryz.results66;rfl)
 refine⟨rfl,?_,JE _,fun m hm hmb=>(aa _ _ hmb).trans (h4 m hm)⟩
 rw [aj,mM (by simp [bq])]
 rfl
def bJ(p:List UInt8)(n a s:Nat):List UInt8:=cm (cm p (18+4*n) a) (18+4*n+2) s
theorem fC{a s:Nat}(h:18+4*n+4≤p.length):(bJ p n a s).length=p.length:=by
 unfold bJ
 rw [bD,bD (by omega)]
 rw [bD (by omega)]
 omega
theorem qH(hb:H.at' b=some (pgO p))(hp:p.length=1024){a s:Nat}(hn:18+4*n+4≤1024)(ha:a<65536)(hs:s<65536):Fnc Tryz.prog 65 [.ptr b 0,.sc (.int .i64 (n:Int)),.sc (.int .i64 (a:Int)),.sc (.int .i64 (s:Int))] H nx
 (fun q=>q.1 = .tup []∧q.2.1.at' b=some (pgO (bJ p n a s))∧nx≤q.2.2∧ ∀ m,m<nx→m≠b→q.2.1.at' m=H.at' m):=by
 have h1: ∀ {H:au} {nx:Nat},H.at' b=some (pgO p)→Fnc Tryz.prog 66 [.ptr b 0,.sc (.int .i64 (18+4*(n:Int))),.sc (.int .i64 (a:Int))] H nx _:=fun {H nx} hb=>by
  have:=pA (nx:=nx) (o:=18+4*n) hb hp (by omega) ha
  rw [show((18+4*n:Nat):Int)=18+4*(n:Int) by omega] at this
  exact this
 have h2: ∀ {H:au} {nx:Nat},H.at' b=some (pgO (cm p (18+4*n) a))→Fnc Tryz.prog 66 [.ptr b 0,.sc (.int .i64 (18+4*(n:Int)+2)),.sc (.int .i64 (s:Int))] H nx _:=fun {H nx} hb=>by
  have:=pA (nx:=nx) (o:=18+4*n+2) hb (by rw [bD (by omega)];exact hp) (by omega) hs
  rw [show((18+4*n+2:Nat):Int)=18+4*(n:Int)+2 by omega] at this
  exact this
 refine Ka Tryz.func65 rfl rfl ?_
 refine aX fun hund=>?_
 have hlt:=hund _ _ hb
 repeat first|apply ai;rfl|apply aL;rfl;omega;omega
 refine aI rfl rfl rfl (by kernel_rfl) (J9 (h1 hb) ?_)
 rintro⟨_,H2,n2⟩ ⟨rfl,g2,g3,g4⟩
 dsimp only at g2 g3 g4 ⊢
 repeat first|apply ai;rfl|apply aL;rfl;omega;omega
 refine aI rfl rfl rfl (by kernel_rfl) (J9 (h2 g2) ?_)
 rintro⟨_,H3,n3⟩ ⟨rfl,k2,k3,k4⟩
 dsimp only at k2 k3 k4 ⊢
 repeat apply ai;rfl
 (apply Cr Tryz.func65 Tryz.results65;rfl)
 exact⟨rfl,k2,JD g3 k3,fun m hm hmb=>(k4 m (by omega) hmb).trans (g4 m hm hmb)⟩
theorem sP:Fnc Tryz.prog 68 [.sc (.int .i64 (n:Int))] H nx (fun q=>q=(.sc (.bool (decide (1≤n∧n≤1000))),H,nx)):=by
 refine Ka Tryz.func68 rfl rfl ?_
 (repeat' (first|apply ai;rfl|(refine eN rfl rfl rfl rfl ?_ ?_ <;> intro hq)|(refine pN rfl rfl rfl rfl ?_ ?_ <;> intro hq2)))
 all_goals(apply bP Tryz.func68 Tryz.results68;rfl)
 all_goals first|(rw [JZ (by omega)];rfl)|(rw [J0 (by omega)];rfl)
def zeroP:List UInt8:=List.replicate 1024 0
theorem ah:zeroP.length=1024:=JT
def fE(k:UInt8):List UInt8:=cm (zeroP.set 12 k) 16 1024
theorem fR(k:UInt8):(fE k).length=1024:=by
 unfold fE
 rw [bD (by rw [List.length_set,ah];decide),List.length_set,ah]
theorem ci:rK Tryz.prog 27=some (pgS zeroP):=by kernel_rfl
theorem lc(a b:List UInt8)(ha:a.length=1024)(hb:b.length=1024):List.take 0 (pgS a) ++ (SV.agg (pgS b)).cells ++ List.drop (0+1024) (pgS a)=pgS b:=by
 rw [List.take_zero,List.nil_append,JI,List.drop_of_length_le (by simp [ha]),JU]
 rfl
theorem iE(p:List UInt8):bp (pgS p)=true:=by
 induction p with
 | nil=>rfl
 | cons c p ih=>exact ih
theorem bk(hp:p.length=1024):(pgO p).cellsFrom 0 1024=some (pgS p):=
 aq _ 0 (by rw [List.drop_zero,Jn (by simp [hp])]) (by simp [hp])
theorem nl(p:List UInt8)(i:Nat)(c:UInt8):(pgS p).set i (.sc (.int .u8 (c.toNat:Int)))=pgS (p.set i c):=by simp [List.map_set]
end
section
variable {ro:Option Nat} {fn nt nx d b:Nat} {T:Tr SV} {k k':List AIt} {dfs:List ADf} {H:au} {Q:Pst} {p q:List UInt8}
theorem bu(hp:p.length=1024)(h:ldW xx nt T k=some (b,1024,d,k'))(hb:H.at' b=some (pgO p))(hw:Wp Tryz.prog ro ⟨fn,nt,T.set d (.agg (pgS p)),k',dfs,H,nx⟩ Q):Wp Tryz.prog ro ⟨fn,nt,T,k,dfs,H,nx⟩ Q:=w_ldW jz h hb (be hp) hw
theorem bA(hp:p.length=1024)(hq:q.length=1024)(h:stW xx nt T k=some (b,1024,pgS p,k'))(hb:H.at' b=some (pgO q))(hw:Wp Tryz.prog ro ⟨fn,nt,T,k',dfs,H.set b (pgO p),nx⟩ Q):Wp Tryz.prog ro ⟨fn,nt,T,k,dfs,H,nx⟩ Q:=w_stW jz h hb (be hp) (be hq) (iE p) hw
end
section
variable {H:au}{a b i n nx o:Nat}{ls:List SV}{l p:List UInt8}{seen:List (Nat×Nat)}{bs:List (List Value)}
theorem DW(hi:i<p.length)(c:UInt8):List.take i (pgS p) ++ (SV.sc (.int .u8 (c.toNat:Int))).cells ++ List.drop (i+1) (pgS p)=pgS (p.set i c):=by
 rw [← nl,List.set_eq_take_append_cons_drop,JH (by simpa using hi)]
 simp [SV.cells]
theorem Hy(k:UInt8):Fnc Tryz.prog 86 [.sc (.int .u8 (k.toNat:Int))] H nx (fun q=>q.1 = .agg (pgS (fE k))∧nx≤q.2.2∧ ∀ m,m<nx→q.2.1.at' m=H.at' m):=by
 refine Ka Tryz.func86 rfl rfl ?_
 have hl0:(pgS zeroP).length=1024:=by rw [JL,JL];exact ah
 repeat first|apply ai;rfl|apply aG;rfl;(focus((repeat(exact ae));done));rfl|refine a9 rfl rfl ci ?_|apply gr (q:=12);rfl;rfl;rfl;rfl;exact(F.un _ rfl);exact(F.sz _ rfl);(focus(omega));(focus(omega))
 rw [DW (p:=zeroP) (i:=0+12*1) (by rw [ah];decide) k,show 0+12*1=12 from rfl]
 refine aI rfl rfl rfl (by kernel_rfl) (J9 (pA (b:=nx+1) (p:=zeroP.set 12 k) (o:=16) (n:=1024) (by repeat(exact ae)) (by rw [List.length_set];exact ah) (by decide) (by decide)) ?_)
 rintro⟨_,H2,n2⟩ ⟨rfl,g2,g3,g4⟩
 dsimp only at g2 g3 g4 ⊢
 have hres:H2.at' nx=some (pgO zeroP):=(g4 nx (by omega) (by omega)).trans (by repeat(first|exact ae|refine ab (by omega) ?_))
 have hl:(fE k).length=1024:=fR k
 repeat first|apply ai;rfl|apply aG;rfl;assumption;rfl
 rw [show cm (zeroP.set 12 k) 16 1024=fE k from rfl,lc zeroP (fE k) ah hl]
 ((apply bm Tryz.func86 (congrArg Array.toList Tryz.results86));(focus((apply Kc rfl (Ke (F.ag _ rfl) (by repeat(exact ae)) (bk hl)));(repeat(exact Kb)))))
 exact⟨rfl,by dsimp only;omega,fun m hm=>(aa _ _ (by omega)).trans ((g4 m (by omega) (by omega)).trans (by(repeat(refine ab (by omega) ?_));rfl))⟩
theorem Hx(k:UInt8):Fnc Tryz.prog 86 [.sc (.int .u8 (k.toNat:Int))] H nx (fun q=>q=(.agg (pgS (fE k)),H,nx)):=Fnc.bv (Free.agg _) (Hy k)
def cH(seen:List (Nat×Nat))(i:Nat):Bool:=seen.any fun x=>decide (x.1≤i∧i<x.1+x.2)
def uq(seen:List (Nat×Nat))(a s:Nat):Bool:=(List.range s).any fun j=>cH seen (a+j)
def fg(p:List UInt8):Nat→Nat→List (Nat×Nat)→Bool→Bool
 | 0,_,_,fine=>fine
 | k+1,n,seen,_=>
   if ay p n=0∧ak p n=0 then fg p k (n+1) seen (decide (n+1<ac p))
   else if ak p n<1∨1000<ak p n∨ay p n<aD p∨1024<ay p n+ak p n then false
   else if uq seen (ay p n) (ak p n) then false else fg p k (n+1) ((ay p n,ak p n) :: seen) true
def bg(p:List UInt8):Bool:=decide (18+4*ac p≤aD p∧aD p≤1024) && fg p (ac p) 0 [] true
abbrev EL(f:Nat→Bool):List SV:=(List.range 1024).map fun i=> .sc (.bool (f i))
abbrev EM(f:Nat→Bool):VO:=ar 163 (EL f)
theorem zTak:rK Tryz.prog 163=some (EL fun _=>false):=by kernel_rfl
theorem uS(f:Nat→Bool)(hi:i<1024):(EM f).cell i=some (.sc (.bool (f i))):=aB (by simp [hi])
theorem wn(seen:List (Nat×Nat))(a:Nat):cH ((a,0) :: seen)=cH seen:=by
 funext i
 simp only [cH,List.any_cons,Nat.add_zero]
 rw [J0 (by omega),Bool.false_or]
theorem CZ(seen:List (Nat×Nat))(h:a≤i):cH ((a,i-a) :: seen) i=cH seen i:=by
 simp only [cH,List.any_cons]
 rw [J0 (by omega),Bool.false_or]
theorem yd(h:a≤i):(EL (cH ((a,i-a) :: seen))).set i (.sc (.bool true))=EL (cH ((a,i+1-a) :: seen)):=by
 refine J1 fun j=>?_
 rw [List.getElem?_set,JX,JX,JL,List.length_range]
 rcases JJ j 1024 with hj|hj
 ·rw [List.getElem?_range hj]
  by_cases he:i=j
  ·subst he
   rw [JH rfl,JH hj]
   simp only [JB,cH,List.any_cons]
   rw [JZ (by omega),Bool.true_or]
  ·rw [JG he]
   simp only [JB,cH,List.any_cons]
   rw [show decide (a≤j∧j<a+(i-a))=decide (a≤j∧j<a+(i+1-a))from decide_eq_decide.2 (by omega)]
 ·rw [J4 (by simpa using hj)]
  by_cases he:i=j
  ·subst he
   rw [JH rfl,JG (by omega)]
   rfl
  ·rw [JG he]
   rfl
theorem l6{s:Nat}(h1:a≤i)(h2:i<a+s)(h:cH seen i=true):uq seen a s=true:=by
 unfold uq
 rw [List.any_eq_true]
 exact⟨i-a,J2.2 (by omega),by rw [show a+(i-a)=i by omega];exact h⟩
theorem vM{s:Nat}(h: ∀ j,a≤j→j<a+s→cH seen j=false):uq seen a s=false:=by
 unfold uq
 rw [List.any_eq_false]
 intro j hj
 rw [h (a+j) (by omega) (by have:=J2.1 hj;omega)]
 decide
theorem DF(hb:H.at' b=some (pgO p))(hp:p.length=1024):Fnc Tryz.prog 63 [.ptr b 0] H nx (fun q=>q.1 = .sc (.bool (bg p))∧nx≤q.2.2∧ ∀ m,m<nx→q.2.1.at' m=H.at' m):=by
 have hs:ac p<65536:=cJ p 14
 have hg:aD p<65536:=cJ p 16
 refine Ka Tryz.func63 rfl rfl ?_
 refine aX fun hund=>?_
 have hlt:=hund _ _ hb
 repeat first|apply ai;rfl|apply aL;rfl;omega;omega|apply bY;rfl;kernel_rfl;exact iX hb hp|apply bY;rfl;kernel_rfl;exact rG hb hp
 refine bn rfl rfl rfl rfl (fun h1=>?_) (fun h1=>?_)
 ·repeat apply ai;rfl
  (apply bP Tryz.func63 Tryz.results63;rfl)
  refine⟨?_,Jv _,fun m _=>rfl⟩
  unfold bg
  rw [J0 (by omega)]
  rfl
 repeat apply ai;rfl
 refine ey rfl rfl rfl rfl (fun h2=>?_) (fun h2=>?_)
 ·repeat apply ai;rfl
  (apply bP Tryz.func63 Tryz.results63;rfl)
  refine⟨?_,Jv _,fun m _=>rfl⟩
  unfold bg
  rw [J0 (by omega)]
  rfl
 have hrp:bg p=fg p (ac p) 0 [] true:=by
  unfold bg
  rw [JZ (by omega),Bool.true_and]
 rw [hrp]
 repeat first|apply ai;rfl|apply bY;rfl;kernel_rfl;exact mf|refine a9 rfl rfl zTak ?_
 refine bC (α:=Nat×List (Nat×Nat)×Bool) (fun x=> [(0,.ptr b 0),(3,.sc (.int .i64 (ac p:Int))),(4,.sc (.int .i64 (aD p:Int))),(5,Er nx),(6,.ptr (nx+1) 0),(7,.sc (.bool x.2.2)),(27,.sc (.int .i64 (ac p:Int))),(28,.sc (.int .i64 (x.1:Int)))])
  (fun x H1 n1=>n1=nx+1+1∧x.1≤ac p∧fg p (ac p-x.1) x.1 x.2.1 x.2.2=fg p (ac p) 0 [] true∧H1.at' nx=some (BM b)∧H1.at' (nx+1)=some (EM (cH x.2.1))∧ ∀ m,m<nx→H1.at' m=H.at' m) (fun x=>ac p-x.1) (0,[],true)
  ⟨rfl,Jw _,rfl,by repeat(first|exact ae|refine ab (by omega) ?_),aj _ _ _,fun m hm=>(aa _ _ (by omega)).trans (aa _ _ (by omega))⟩ (Kg (Kj rfl)) ?_
 rintro⟨n,seen,fine⟩ H1 n1 ⟨rfl,h3,h4,h5,h6,h7⟩ ih
 dsimp only at h3 h4 h5 h6 h7 ih ⊢
 have hb1:=(h7 b hlt).trans hb
 have ha0:ay p n<65536:=cJ p _
 have hz0:ak p n<65536:=cJ p _
 repeat apply ai;rfl
 refine bn rfl rfl rfl rfl (fun h8=>?_) (fun h8=>?_)
 ·have hn:n<ac p:=by omega
  have hgo:fg p (ac p-n) n seen fine=if ay p n=0∧ak p n=0 then fg p (ac p-(n+1)) (n+1) seen (decide (n+1<ac p))
   else if ak p n<1∨1000<ak p n∨ay p n<aD p∨1024<ay p n+ak p n then false
   else if uq seen (ay p n) (ak p n) then false else fg p (ac p-(n+1)) (n+1) ((ay p n,ak p n) :: seen) true:=by
   rw [show ac p-n=(ac p-(n+1))+1 by omega]
   rfl
  repeat apply ai;rfl
  refine jy rfl rfl rfl rfl (by kernel_rfl) (J9 (oc h5 hb1 hp (n:=n) (by omega)) ?_)
  rintro _ rfl
  dsimp only
  repeat apply ai;rfl
  by_cases hE:ay p n=0∧ak p n=0
  ·refine cF rfl rfl rfl rfl (fun _=>?_) (fun hq=>absurd (by omega) hq)
   repeat apply ai;rfl
   refine cF rfl rfl rfl rfl (fun _=>?_) (fun hq=>absurd (by omega) hq)
   repeat first|apply ai;rfl|apply aL;rfl;omega;omega|refine cd (dg rfl rfl (.inr (.inr (.inl ⟨rfl,rfl⟩)))) rfl rfl rfl ?_
   refine ih _ _ _ (n+1,seen,decide (n+1<ac p)) ⟨rfl,hn,?_,h5,h6,h7⟩ (by omega) ?_
   ·rw [← h4,hgo,JH hE]
   ·rw [show decide ((n:Int)<(ac p:Int)-1)=decide (n+1<ac p)from decide_eq_decide.2 (by omega)]
    exact Kg (by repeat(first|exact Kk|refine⟨rfl,?_⟩))
  ·have hgo2:=hgo
   rw [JG hE] at hgo2
   refine cF rfl rfl rfl rfl (fun e1=>?_) (fun e1=>?_)
   ·repeat apply ai;rfl
    refine cF rfl rfl rfl rfl (fun hq=>absurd hq (by omega)) (fun _=>?_)
    repeat apply ai;rfl
    refine bn rfl rfl rfl rfl (fun c1=>?_) (fun c1=>?_)
    ·(repeat(apply ai;rfl));(apply bP Tryz.func63 Tryz.results63;rfl);exact⟨by rw [← h4,hgo2,JH (by omega)];rfl,by dsimp only;omega,h7⟩
    repeat apply ai;rfl
    refine ey rfl rfl rfl rfl (fun c2=>?_) (fun c2=>?_)
    ·(repeat(apply ai;rfl));(apply bP Tryz.func63 Tryz.results63;rfl);exact⟨by rw [← h4,hgo2,JH (by omega)];rfl,by dsimp only;omega,h7⟩
    repeat apply ai;rfl
    refine bn rfl rfl rfl rfl (fun c3=>?_) (fun c3=>?_)
    ·(repeat(apply ai;rfl));(apply bP Tryz.func63 Tryz.results63;rfl);exact⟨by rw [← h4,hgo2,JH (by omega)];rfl,by dsimp only;omega,h7⟩
    repeat first|apply ai;rfl|apply aL;rfl;omega;omega
    refine ey rfl rfl rfl rfl (fun c4=>?_) (fun c4=>?_)
    ·(repeat(apply ai;rfl));(apply bP Tryz.func63 Tryz.results63;rfl);exact⟨by rw [← h4,hgo2,JH (by omega)];rfl,by dsimp only;omega,h7⟩
    rw [JG (by omega)] at hgo2
    repeat apply ai;rfl
    refine bC (α:=Nat) (fun i=> [(0,.ptr b 0),(3,.sc (.int .i64 (ac p:Int))),(4,.sc (.int .i64 (aD p:Int))),(5,Er nx),(6,.ptr (nx+1) 0),(8,.sc (.int .i64 (n:Int))),(9,.sc (.int .i64 (ay p n:Int))),(10,.sc (.int .i64 (ak p n:Int))),(11,.sc (.int .i64 (i:Int))),(27,.sc (.int .i64 (ac p:Int))),(28,.sc (.int .i64 (n:Int)))])
     (fun i H2 n2=>n2=nx+1+1∧ay p n≤i∧i≤ay p n+ak p n∧(∀ j,ay p n≤j→j<i→cH seen j=false)∧H2.at' nx=some (BM b)∧H2.at' (nx+1)=some (EM (cH ((ay p n,i-ay p n) :: seen)))∧ ∀ m,m<nx→H2.at' m=H.at' m) (fun i=>ay p n+ak p n-i) (ay p n)
     ⟨rfl,Jv _,by omega,fun j g1 g2=>absurd g1 (by omega),h5,by rw [Nat.sub_self];exact h6.trans (congrArg (fun f=>some (EM f)) (wn _ _).symm),h7⟩ (Kg (Kj rfl)) ?_
    rintro i H2 n2 ⟨rfl,g1,g2,g3,g4,g5,g6⟩ ih2
    repeat first|apply ai;rfl|apply aL;rfl;omega;omega
    refine bn rfl rfl rfl rfl (fun c5=>?_) (fun c5=>?_)
    ·have hi:i<1024:=by omega
     have hc:=uS (cH ((ay p n,i-ay p n) :: seen)) hi
     rw [CZ seen g1] at hc
     cases hci:cH seen i with
     | true=>
       rw [hci] at hc
       repeat first|apply ai;rfl|apply gr (q:=i);rfl;rfl;rfl;rfl;exact(F.un _ rfl);exact(F.sz _ rfl);(focus(omega));(focus(omega))|refine cd (am (F.ag _ rfl) rfl g5 (by rw [JI,Nat.mul_one];exact hc)) rfl rfl rfl ?_
       (apply bP Tryz.func63 Tryz.results63;rfl)
       exact⟨by rw [← h4,hgo2,JH (l6 (by omega) (by omega) hci)];rfl,by dsimp only;omega,g6⟩
     | false=>
       rw [hci] at hc
       repeat first|apply ai;rfl|apply gr (q:=i);rfl;rfl;rfl;rfl;exact(F.un _ rfl);exact(F.sz _ rfl);(focus(omega));(focus(omega))|refine cd (am (F.ag _ rfl) rfl g5 (by rw [JI,Nat.mul_one];exact hc)) rfl rfl rfl ?_
       refine dX (v:= .sc (.bool true)) (cs:=EL (cH ((ay p n,i-ay p n) :: seen))) rfl rfl rfl (F.sz _ rfl) g5 rfl (by rw [JI,Nat.mul_one];exact Jj (by rw [JL,List.length_range];exact hi)) ?_
       rw [JI,Nat.mul_one,yd g1]
       repeat first|apply ai;rfl|apply aL;rfl;omega;omega
       refine ih2 _ _ _ (i+1) ⟨rfl,by omega,by omega,fun j k1 k2=>?_,(aa _ _ (by omega)).trans g4,aj _ _ _,fun m hm=>(aa _ _ (by omega)).trans (g6 m hm)⟩ (by omega) (Kg (Kj rfl))
       rcases JJ j i with k3|k3
       ·exact g3 j k1 k3
       ·obtain rfl:j=i:=by omega
        exact hci
    ·obtain rfl:i=ay p n+ak p n:=by omega
     rw [Nat.add_sub_cancel_left] at g5
     rw [JG (by rw [vM g3];decide)] at hgo2
     repeat first|apply ai;rfl|apply aL;rfl;omega;omega
     exact ih _ _ _ (n+1,(ay p n,ak p n) :: seen,true) ⟨rfl,hn,by rw [← h4,hgo2],g4,g5,g6⟩ (by omega) (Kg (Kj rfl))
   ·repeat apply ai;rfl
    refine bn rfl rfl rfl rfl (fun c1=>?_) (fun c1=>?_)
    ·(repeat(apply ai;rfl));(apply bP Tryz.func63 Tryz.results63;rfl);exact⟨by rw [← h4,hgo2,JH (by omega)];rfl,by dsimp only;omega,h7⟩
    repeat apply ai;rfl
    refine ey rfl rfl rfl rfl (fun c2=>?_) (fun c2=>?_)
    ·(repeat(apply ai;rfl));(apply bP Tryz.func63 Tryz.results63;rfl);exact⟨by rw [← h4,hgo2,JH (by omega)];rfl,by dsimp only;omega,h7⟩
    repeat apply ai;rfl
    refine bn rfl rfl rfl rfl (fun c3=>?_) (fun c3=>?_)
    ·(repeat(apply ai;rfl));(apply bP Tryz.func63 Tryz.results63;rfl);exact⟨by rw [← h4,hgo2,JH (by omega)];rfl,by dsimp only;omega,h7⟩
    repeat first|apply ai;rfl|apply aL;rfl;omega;omega
    refine ey rfl rfl rfl rfl (fun c4=>?_) (fun c4=>?_)
    ·(repeat(apply ai;rfl));(apply bP Tryz.func63 Tryz.results63;rfl);exact⟨by rw [← h4,hgo2,JH (by omega)];rfl,by dsimp only;omega,h7⟩
    rw [JG (by omega)] at hgo2
    repeat apply ai;rfl
    refine bC (α:=Nat) (fun i=> [(0,.ptr b 0),(3,.sc (.int .i64 (ac p:Int))),(4,.sc (.int .i64 (aD p:Int))),(5,Er nx),(6,.ptr (nx+1) 0),(8,.sc (.int .i64 (n:Int))),(9,.sc (.int .i64 (ay p n:Int))),(10,.sc (.int .i64 (ak p n:Int))),(11,.sc (.int .i64 (i:Int))),(27,.sc (.int .i64 (ac p:Int))),(28,.sc (.int .i64 (n:Int)))])
     (fun i H2 n2=>n2=nx+1+1∧ay p n≤i∧i≤ay p n+ak p n∧(∀ j,ay p n≤j→j<i→cH seen j=false)∧H2.at' nx=some (BM b)∧H2.at' (nx+1)=some (EM (cH ((ay p n,i-ay p n) :: seen)))∧ ∀ m,m<nx→H2.at' m=H.at' m) (fun i=>ay p n+ak p n-i) (ay p n)
     ⟨rfl,Jv _,by omega,fun j g1 g2=>absurd g1 (by omega),h5,by rw [Nat.sub_self];exact h6.trans (congrArg (fun f=>some (EM f)) (wn _ _).symm),h7⟩ (Kg (Kj rfl)) ?_
    rintro i H2 n2 ⟨rfl,g1,g2,g3,g4,g5,g6⟩ ih2
    repeat first|apply ai;rfl|apply aL;rfl;omega;omega
    refine bn rfl rfl rfl rfl (fun c5=>?_) (fun c5=>?_)
    ·have hi:i<1024:=by omega
     have hc:=uS (cH ((ay p n,i-ay p n) :: seen)) hi
     rw [CZ seen g1] at hc
     cases hci:cH seen i with
     | true=>
       rw [hci] at hc
       repeat first|apply ai;rfl|apply gr (q:=i);rfl;rfl;rfl;rfl;exact(F.un _ rfl);exact(F.sz _ rfl);(focus(omega));(focus(omega))|refine cd (am (F.ag _ rfl) rfl g5 (by rw [JI,Nat.mul_one];exact hc)) rfl rfl rfl ?_
       (apply bP Tryz.func63 Tryz.results63;rfl)
       exact⟨by rw [← h4,hgo2,JH (l6 (by omega) (by omega) hci)];rfl,by dsimp only;omega,g6⟩
     | false=>
       rw [hci] at hc
       repeat first|apply ai;rfl|apply gr (q:=i);rfl;rfl;rfl;rfl;exact(F.un _ rfl);exact(F.sz _ rfl);(focus(omega));(focus(omega))|refine cd (am (F.ag _ rfl) rfl g5 (by rw [JI,Nat.mul_one];exact hc)) rfl rfl rfl ?_
       refine dX (v:= .sc (.bool true)) (cs:=EL (cH ((ay p n,i-ay p n) :: seen))) rfl rfl rfl (F.sz _ rfl) g5 rfl (by rw [JI,Nat.mul_one];exact Jj (by rw [JL,List.length_range];exact hi)) ?_
       rw [JI,Nat.mul_one,yd g1]
       repeat first|apply ai;rfl|apply aL;rfl;omega;omega
       refine ih2 _ _ _ (i+1) ⟨rfl,by omega,by omega,fun j k1 k2=>?_,(aa _ _ (by omega)).trans g4,aj _ _ _,fun m hm=>(aa _ _ (by omega)).trans (g6 m hm)⟩ (by omega) (Kg (Kj rfl))
       rcases JJ j i with k3|k3
       ·exact g3 j k1 k3
       ·obtain rfl:j=i:=by omega
        exact hci
    ·obtain rfl:i=ay p n+ak p n:=by omega
     rw [Nat.add_sub_cancel_left] at g5
     rw [JG (by rw [vM g3];decide)] at hgo2
     repeat first|apply ai;rfl|apply aL;rfl;omega;omega
     exact ih _ _ _ (n+1,(ay p n,ak p n) :: seen,true) ⟨rfl,hn,by rw [← h4,hgo2],g4,g5,g6⟩ (by omega) (Kg (Kj rfl))
 ·obtain rfl:n=ac p:=by omega
  rw [Nat.sub_self] at h4
  have h4:fine=fg p (ac p) 0 [] true:=h4
  repeat apply ai;rfl
  (apply bP Tryz.func63 Tryz.results63;rfl)
  exact⟨by rw [← h4];rfl,by dsimp only;omega,h7⟩
theorem gz(hb:H.at' b=some (pgO p))(hp:p.length=1024):Fnc Tryz.prog 63 [.ptr b 0] H nx (fun q=>q=(.sc (.bool (bg p)),H,nx)):=Fnc.bv (fun _ _ _ h=>h) (DF hb hp)
def dp(p:List UInt8):Nat→Nat→Nat
 | 0,n=>n
 | k+1,n=>if ak p n=0 then n else dp p k (n+1)
def aW(p:List UInt8):Nat:=dp p (ac p) 0
theorem qa(p:List UInt8): ∀ k n,dp p k n≤n+k
 | 0,n=>Jv _
 | k+1,n=>by
   unfold dp
   split
   ·omega
   ·have:=qa p k (n+1);omega
theorem oW(p:List UInt8):aW p≤ac p:=by have:=qa p (ac p) 0;unfold aW;omega
def xm(p:List UInt8):Prop:=p.length=1024∧18+4*ac p≤aD p∧aD p≤1024
theorem fG(hp:p.length=1024)(h:bg p=true):xm p:=by
 unfold bg at h
 rw [Ju,J7] at h
 exact⟨hp,h.1⟩
theorem Ew(hb:H.at' b=some (pgO p))(hp:xm p):Fnc Tryz.prog 69 [.ptr b 0] H nx (fun q=>q.1 = .sc (.int .i64 (aW p:Int))∧nx≤q.2.2∧ ∀ m,m<nx→q.2.1.at' m=H.at' m):=by
 obtain⟨hp,hp1,hp2⟩:=hp
 have hs:ac p<65536:=cJ p 14
 refine Ka Tryz.func69 rfl rfl ?_
 refine aX fun hund=>?_
 have hlt:=hund _ _ hb
 have hb0: ∀ {vo:VO},(H.set nx vo).at' b=some (pgO p):=fun {vo}=>(aa _ _ (by omega)).trans hb
 repeat first|apply ai;rfl|apply bY;rfl;kernel_rfl;exact mf|apply bY;rfl;kernel_rfl;exact iX hb0 hp
 refine bC (α:=Nat) (fun n=> [(0,.ptr b 0),(3,Er nx),(10,.sc (.int .i64 (ac p:Int))),(11,.sc (.int .i64 (n:Int)))])
  (fun n H1 n1=>n1=nx+1∧n≤ac p∧dp p (ac p-n) n=aW p∧H1=H.set nx (BM b)) (fun n=>ac p-n) 0
  ⟨rfl,Jw _,rfl,rfl⟩ (Kg (Kj rfl)) ?_
 rintro n H1 n1 ⟨rfl,h3,h4,rfl⟩ ih
 repeat apply ai;rfl
 refine bn rfl rfl rfl rfl (fun h8=>?_) (fun h8=>?_)
 ·have hgo:dp p (ac p-n) n=if ak p n=0 then n else dp p (ac p-(n+1)) (n+1):=by
   rw [show ac p-n=(ac p-(n+1))+1 by omega]
   rfl
  repeat apply ai;rfl
  refine jy rfl rfl rfl rfl (by kernel_rfl) (J9 (oc (aj _ _ _) hb0 hp (n:=n) (by omega)) ?_)
  rintro _ rfl
  dsimp only
  repeat apply ai;rfl
  refine cF rfl rfl rfl rfl (fun e1=>?_) (fun e1=>?_)
  ·repeat apply ai;rfl
   (apply bP Tryz.func69 Tryz.results69;rfl)
   refine⟨?_,JE _,fun m hm=>aa _ _ (by omega)⟩
   rw [← h4,hgo,JH (by omega)]
   rfl
  ·repeat first|apply ai;rfl|apply aL;rfl;omega;omega
   exact ih _ _ _ (n+1) ⟨rfl,by omega,by rw [← h4,hgo,JG (by omega)],rfl⟩ (by omega) (Kg (Kj rfl))
 ·obtain rfl:n=ac p:=by omega
  rw [Nat.sub_self] at h4
  have h4:ac p=aW p:=h4
  repeat first|apply ai;rfl|apply bY;rfl;kernel_rfl;exact iX hb0 hp
  (apply bP Tryz.func69 Tryz.results69;rfl)
  refine⟨?_,JE _,fun m hm=>aa _ _ (by omega)⟩
  rw [← h4]
  rfl
theorem Ab(hb:H.at' b=some (pgO p))(hp:xm p):Fnc Tryz.prog 69 [.ptr b 0] H nx (fun q=>q=(.sc (.int .i64 (aW p:Int)),H,nx)):=Fnc.bv (fun _ _ _ h=>h) (Ew hb hp)
def du(p:List UInt8):Nat:=aD p-18-4*ac p-(if aW p=ac p then 4 else 0)
theorem CA(hb:H.at' b=some (pgO p))(hp:xm p):Fnc Tryz.prog 67 [.ptr b 0] H nx (fun q=>q=(.sc (.int .i64 (du p:Int)),H,nx)):=by
 have hp0:=hp
 obtain⟨hp,hp1,hp2⟩:=hp
 have hs:ac p<65536:=cJ p 14
 have he:=oW p
 refine Ka Tryz.func67 rfl rfl ?_
 repeat first|apply ai;rfl|apply aL;rfl;omega;omega|apply bY;rfl;kernel_rfl;exact iX hb hp|apply bY;rfl;kernel_rfl;exact rG hb hp|apply bY;rfl;kernel_rfl;exact Ab hb hp0
 refine cF rfl rfl rfl rfl (fun e1=>?_) (fun e1=>?_)
 ·repeat first|apply ai;rfl|apply aL;rfl;omega;omega|apply Cq (c:=(du p:Int));rfl;rfl;rfl;rfl;(focus(unfold du;rw [JH (by omega)];omega))
  (apply bP Tryz.func67 Tryz.results67;rfl)
  rfl
 ·repeat first|apply ai;rfl|apply Cq (c:=(du p:Int));rfl;rfl;rfl;rfl;(focus(unfold du;rw [JG (by omega)];omega))
  (apply bP Tryz.func67 Tryz.results67;rfl)
  rfl
theorem cG(h:o+l.length≤p.length)(i:Nat):(bf p o l)[i]? =if o≤i∧i<o+l.length then l[i-o]? else p[i]? :=by
 have ho:(p.take o).length=o:=by rw [JK];omega
 unfold bf
 rcases JJ i o with h1|h1
 ·rw [JG (by omega),JR,Js (by omega),List.getElem?_take_of_lt h1]
 ·rcases JJ i (o+l.length)with h2|h2
  ·rw [JH ⟨h1,h2⟩,Js (by rw [Jz];omega),JQ (by omega),ho]
  ·rw [JG (by omega),JQ (by rw [Jz];omega),Jz,ho,List.getElem?_drop]
   congr 1
   omega
theorem jO{q:List UInt8}(h: ∀ i,o≤i→i<o+2→p[i]? =q[i]?):gL p o=gL q o:=by
 unfold gL
 congr 1
 refine J1 fun i=>?_
 rcases JJ i 2 with hi|hi
 ·rw [List.getElem?_take_of_lt hi,List.getElem?_take_of_lt hi,List.getElem?_drop,List.getElem?_drop]
  exact h _ (by omega) (by omega)
 ·rw [J4 (by rw [JK];omega),J4 (by rw [JK];omega)]
theorem nU{o':Nat}(h:o+l.length≤p.length)(h2:o'+2≤o∨o+l.length≤o'):gL (bf p o l) o'=gL p o':=
 jO fun i h3 h4=>by rw [cG h,JG (by omega)]
theorem cO{o':Nat}(h:o+2≤p.length)(h2:o'+2≤o∨o+2≤o'):gL (cm p o n) o'=gL p o':=
 nU (by rw [bq];exact h) (by rw [bq];exact h2)
theorem EC(h:n<65536):beN (beB n 2)=n:=by
 show 256*(256*0+(UInt8.ofNat (n / 256 ^ 1)).toNat)+(UInt8.ofNat (n / 256 ^ 0)).toNat=n
 have t: ∀ k,(UInt8.ofNat k).toNat=k % 256:=fun k=>by simp
 rw [t,t]
 omega
theorem eQ(h:o+2≤p.length)(hn:n<65536):gL (cm p o n) o=n:=by
 have:((cm p o n).drop o).take 2=beB n 2:=by
  unfold cm bf
  rw [JR,List.drop_left' (by rw [JK];omega),List.take_left' (bq n 2)]
 unfold gL
 rw [this,EC hn]
theorem iy:nv Tryz.prog 27 []=some (.agg (pgS zeroP)):=by kernel_rfl
def fu(p:List UInt8):List UInt8:=if aW p=ac p then cm p 14 (aW p+1) else p
def mQ(p it:List UInt8):List UInt8:=bf (cm (bJ (fu p) (aW p) (aD (fu p)-it.length) it.length) 16 (aD (fu p)-it.length)) (aD (fu p)-it.length) it
def iU(p it:List UInt8):List UInt8×Nat×Nat:=
 if bg p=false then(zeroP,0,4) else if ¬ (1≤it.length∧it.length≤1000) then(zeroP,0,2) else if du p<it.length then(zeroP,0,5) else(mQ p it,aW p,0)
abbrev insS(r:List UInt8×Nat×Nat):SV:= .tup [.agg (pgS r.1),.sc (.int .i64 (r.2.1:Int)),.sc (.int .i64 (r.2.2:Int))]
theorem BD{it:List UInt8}{s:SV}(hp:p.length=1024)(hB:BsIs H s (byV it))(hit:it.length≤4611686018427387904):Fnc Tryz.prog 30 [.agg (pgS p),s] H nx (fun q=>q.1=insS (iU p it)∧nx≤q.2.2∧ ∀ m,m<nx→q.2.1.at' m=H.at' m):=by
 have hlen:(byV it).length=it.length:=by simp
 refine Ka Tryz.func30 rfl rfl ?_
 refine aX fun hund=>?_
 repeat first|apply ai;rfl|refine a9 rfl rfl ci ?_
 have hb1:((H.set nx (pgO p)).set (nx+1) (pgO zeroP)).at' nx=some (pgO p):=by repeat(first|exact ae|refine ab (by omega) ?_)
 have hz1:((H.set nx (pgO p)).set (nx+1) (pgO zeroP)).at' (nx+1)=some (pgO zeroP):=by repeat(exact ae)
 have ho1: ∀ m,m<nx→((H.set nx (pgO p)).set (nx+1) (pgO zeroP)).at' m=H.at' m:=fun m hm=>by(repeat(refine ab (by omega) ?_));rfl
 have hB2: ∀ H':au,(∀ m,m<nx→H'.at' m=H.at' m)→BsIs H' s (byV it):=fun H' h=>hB.frame fun b vo hb=>(h b (hund b vo hb)).trans hb
 have hB1:=hB2 _ ho1
 generalize (H.set nx (pgO p)).set (nx+1) (pgO zeroP)=H1 at hb1 hz1 ho1 hB1 ⊢
 cases hr:bg p with
 | false=>
   have hv:iU p it=(zeroP,0,4):=by unfold iU;rw [JH hr]
   have hrs:=fun nx=>gz (nx:=nx) hb1 hp
   rw [hr] at hrs
   repeat first|apply ai;rfl|apply aG;rfl;assumption;rfl|apply bY;rfl;kernel_rfl;exact hrs _|refine cd (db iy) rfl rfl rfl ?_
   rw [lc _ _ ah ah]
   ((apply bm Tryz.func30 (congrArg Array.toList Tryz.results30));(focus((apply Kc rfl (Ke (F.ag _ rfl) (by repeat(exact ae)) (bk ah)));(repeat(first|exact Kb|apply Kd rfl)))))
   exact⟨by rw [hv];rfl,by dsimp only;omega,fun m hm=>(aa _ _ (by omega)).trans (ho1 m hm)⟩
 | true=>
   have hf:=fG hp hr
   have hrs:=fun nx=>gz (nx:=nx) hb1 hp
   rw [hr] at hrs
   have hmi:=fun(H:au) nx=>sP (H:=H) (nx:=nx) (n:=it.length)
   have hlB:=hlen
   by_cases hm:1≤it.length∧it.length≤1000
   ·have hmt:decide (1≤it.length∧it.length≤1000)=true:=JZ hm
    rw [hmt] at hmi
    repeat first|apply cx;rfl|apply bY;rfl;kernel_rfl;exact hrs _|refine dj rfl rfl (F.un _ rfl) rfl hB1 ?_;rw [hlen]|apply bY;rfl;kernel_rfl;exact hmi _ _|apply bY;rfl;kernel_rfl;exact CA hb1 hf
    refine ey rfl rfl rfl rfl (fun h1=>?_) (fun h1=>?_)
    ·have hv:iU p it=(zeroP,0,5):=by unfold iU;rw [JG (by rw [hr];decide),JG (fun hq=>hq hm),JH (by omega)]
     repeat first|apply ai;rfl|apply aG;rfl;assumption;rfl|refine cd (db iy) rfl rfl rfl ?_
     rw [lc _ _ ah ah]
     ((apply bm Tryz.func30 (congrArg Array.toList Tryz.results30));(focus((apply Kc rfl (Ke (F.ag _ rfl) (by repeat(exact ae)) (bk ah)));(repeat(first|exact Kb|apply Kd rfl)))))
     exact⟨by rw [hv];rfl,by dsimp only;omega,fun m hm=>(aa _ _ (by omega)).trans (ho1 m hm)⟩
    ·have hv:iU p it=(mQ p it,aW p,0):=by unfold iU;rw [JG (by rw [hr];decide),JG (fun hq=>hq hm),JG (by omega)]
     have hel:=oW p
     have hf1:=hf.2.1
     have hf2:=hf.2.2
     have hro:it.length+18+4*ac p+(if aW p=ac p then 4 else 0)≤aD p:=by
      have:du p=aD p-18-4*ac p-(if aW p=ac p then 4 else 0):=rfl
      omega
     repeat first|apply ai;rfl|apply bY;rfl;kernel_rfl;exact Ab hb1 hf|apply bY;rfl;kernel_rfl;exact iX hb1 hp
     refine cF rfl rfl rfl rfl (fun e1=>?_) (fun e1=>?_)
     ·have en:aW p=ac p:=by omega
      rw [JH en] at hro
      have hmo:cm p 14 (aW p+1)=fu p:=by unfold fu;rw [JH en]
      repeat first|apply ai;rfl|apply aL;rfl;omega;omega
      rw [show((aW p:Nat):Int)+1=((aW p+1:Nat):Int) by omega]
      refine aI rfl rfl rfl (by kernel_rfl) (J9 (pA hb1 hp (o:=14) (n:=aW p+1) (by decide) (by omega)) ?_)
      rintro⟨_,H2,n2⟩ ⟨rfl,hb2,hn2,g4⟩
      dsimp only at hb2 hn2 g4 ⊢
      have hp1:(cm p 14 (aW p+1)).length=1024:=by rw [bD (by omega)];exact hp
      have hbe:aD (cm p 14 (aW p+1))=aD p:=cO (by omega) (by omega)
      have k2: ∀ m,m<nx→H2.at' m=H.at' m:=fun m hm=>(g4 m (by omega) (by omega)).trans (ho1 m hm)
      have hz2:H2.at' (nx+1)=some (pgO zeroP):=(g4 _ (by omega) (by omega)).trans hz1
      generalize cm p 14 (aW p+1)=p1 at hmo hb2 hp1 hbe
      repeat first|apply ai;rfl|apply cx;rfl|apply aL;rfl;omega;omega|apply bY;rfl;kernel_rfl;exact rG hb2 hp1|(apply dj;rfl;rfl;exact(F.un _ rfl);rfl;exact(hB2 _ k2));rw [hlen]
      rw [show((aD p1:Nat):Int)-(it.length:Int)=((aD p1-it.length:Nat):Int) by omega]
      refine aI rfl rfl rfl (by kernel_rfl) (J9 (qH hb2 hp1 (n:=aW p) (a:=aD p1-it.length) (s:=it.length) (by omega) (by omega) (by omega)) ?_)
      rintro⟨_,H3,n3⟩ ⟨rfl,q2,q3,q4⟩
      dsimp only at q2 q3 q4 ⊢
      have hp2:(bJ p1 (aW p) (aD p1-it.length) it.length).length=1024:=by rw [fC (by omega)];exact hp1
      repeat apply ai;rfl
      refine aI rfl rfl rfl (by kernel_rfl) (J9 (pA q2 hp2 (o:=16) (n:=aD p1-it.length) (by decide) (by omega)) ?_)
      rintro⟨_,H4,n4⟩ ⟨rfl,r2,r3,r4⟩
      dsimp only at r2 r3 r4 ⊢
      have hp3:(cm (bJ p1 (aW p) (aD p1-it.length) it.length) 16 (aD p1-it.length)).length=1024:=by rw [bD (by omega)];exact hp2
      have k4: ∀ m,m<nx→H4.at' m=H.at' m:=fun m hm=>(r4 m (by omega) (by omega)).trans ((q4 m (by omega) (by omega)).trans (k2 m hm))
      have hz4:H4.at' (nx+1)=some (pgO zeroP):=(r4 _ (by omega) (by omega)).trans ((q4 _ (by omega) (by omega)).trans hz2)
      repeat first|apply ai;rfl|apply kV (lw:=aD p1-it.length) (hg:=1024) (m:=1024-(aD p1-it.length));rfl;rfl;rfl;exact(F.un _ rfl);exact(F.sz _ rfl);rfl;rfl;(focus(omega));(focus(omega));(focus(omega));rfl;rfl;exact(JI _)
      refine oe rfl rfl rfl rfl (F.un _ rfl) (F.sz _ rfl) r2 (hB2 _ k4) (by omega) (by rw [be hp3];omega) ?_
      rw [mM rfl]
      have hlay:bf (cm (bJ p1 (aW p) (aD p1-it.length) it.length) 16 (aD p1-it.length)) (aD p1-it.length) it=mQ p it:=by rw [hmo];rfl
      have hp4:(mQ p it).length=1024:=by rw [← hlay,bN (by omega)];exact hp3
      rw [hlay]
      clear hlay
      generalize mQ p it=pL at hv hp4 ⊢
      repeat first|apply bu hp4;rfl;(focus((repeat(exact ae));done))|apply bA hp4 ah;rfl;(focus((repeat(first|assumption|refine ab (by omega) ?_));done))|apply ai;rfl
      ((apply bm Tryz.func30 (congrArg Array.toList Tryz.results30));(focus((apply Kc rfl (Ke (F.ag _ rfl) (by repeat(exact ae)) (bk hp4)));(repeat(first|exact Kb|apply Kd rfl)))))
      exact⟨by rw [hv];rfl,JD (JD (JE _) (JE _)) (JD hn2 (JD q3 r3)),fun m hm=>(aa _ _ (by omega)).trans ((aa _ _ (by omega)).trans (k4 m hm))⟩
     ·have en: ¬ aW p=ac p:=by omega
      rw [JG en] at hro
      obtain⟨p1,hmo,hb2,hp1,hbe⟩: ∃ p1,p1=fu p∧H1.at' nx=some (pgO p1)∧p1.length=1024∧aD p1=aD p:=⟨p,by unfold fu;rw [JG en],hb1,hp,rfl⟩
      have hz2:=hz1
      have k2:=ho1
      have hn2:nx+1+1≤nx+1+1:=Jv _
      repeat first|apply ai;rfl|apply cx;rfl|apply aL;rfl;omega;omega|apply bY;rfl;kernel_rfl;exact rG hb2 hp1|(apply dj;rfl;rfl;exact(F.un _ rfl);rfl;exact(hB2 _ k2));rw [hlen]
      rw [show((aD p1:Nat):Int)-(it.length:Int)=((aD p1-it.length:Nat):Int) by omega]
      refine aI rfl rfl rfl (by kernel_rfl) (J9 (qH hb2 hp1 (n:=aW p) (a:=aD p1-it.length) (s:=it.length) (by omega) (by omega) (by omega)) ?_)
      rintro⟨_,H3,n3⟩ ⟨rfl,q2,q3,q4⟩
      dsimp only at q2 q3 q4 ⊢
      have hp2:(bJ p1 (aW p) (aD p1-it.length) it.length).length=1024:=by rw [fC (by omega)];exact hp1
      repeat apply ai;rfl
      refine aI rfl rfl rfl (by kernel_rfl) (J9 (pA q2 hp2 (o:=16) (n:=aD p1-it.length) (by decide) (by omega)) ?_)
      rintro⟨_,H4,n4⟩ ⟨rfl,r2,r3,r4⟩
      dsimp only at r2 r3 r4 ⊢
      have hp3:(cm (bJ p1 (aW p) (aD p1-it.length) it.length) 16 (aD p1-it.length)).length=1024:=by rw [bD (by omega)];exact hp2
      have k4: ∀ m,m<nx→H4.at' m=H.at' m:=fun m hm=>(r4 m (by omega) (by omega)).trans ((q4 m (by omega) (by omega)).trans (k2 m hm))
      have hz4:H4.at' (nx+1)=some (pgO zeroP):=(r4 _ (by omega) (by omega)).trans ((q4 _ (by omega) (by omega)).trans hz2)
      repeat first|apply ai;rfl|apply kV (lw:=aD p1-it.length) (hg:=1024) (m:=1024-(aD p1-it.length));rfl;rfl;rfl;exact(F.un _ rfl);exact(F.sz _ rfl);rfl;rfl;(focus(omega));(focus(omega));(focus(omega));rfl;rfl;exact(JI _)
      refine oe rfl rfl rfl rfl (F.un _ rfl) (F.sz _ rfl) r2 (hB2 _ k4) (by omega) (by rw [be hp3];omega) ?_
      rw [mM rfl]
      have hlay:bf (cm (bJ p1 (aW p) (aD p1-it.length) it.length) 16 (aD p1-it.length)) (aD p1-it.length) it=mQ p it:=by rw [hmo];rfl
      have hp4:(mQ p it).length=1024:=by rw [← hlay,bN (by omega)];exact hp3
      rw [hlay]
      clear hlay
      generalize mQ p it=pL at hv hp4 ⊢
      repeat first|apply bu hp4;rfl;(focus((repeat(exact ae));done))|apply bA hp4 ah;rfl;(focus((repeat(first|assumption|refine ab (by omega) ?_));done))|apply ai;rfl
      ((apply bm Tryz.func30 (congrArg Array.toList Tryz.results30));(focus((apply Kc rfl (Ke (F.ag _ rfl) (by repeat(exact ae)) (bk hp4)));(repeat(first|exact Kb|apply Kd rfl)))))
      exact⟨by rw [hv];rfl,JD (JD (JE _) (JE _)) (JD hn2 (JD q3 r3)),fun m hm=>(aa _ _ (by omega)).trans ((aa _ _ (by omega)).trans (k4 m hm))⟩
   ·have hmt:decide (1≤it.length∧it.length≤1000)=false:=J0 hm
    rw [hmt] at hmi
    have hv:iU p it=(zeroP,0,2):=by unfold iU;rw [JG (by rw [hr];decide),JH hm]
    repeat first|apply ai;rfl|apply cx;rfl|apply aG;rfl;assumption;rfl|apply bY;rfl;kernel_rfl;exact hrs _|refine dj rfl rfl (F.un _ rfl) rfl hB1 ?_;rw [hlen]|apply bY;rfl;kernel_rfl;exact hmi _ _|refine cd (db iy) rfl rfl rfl ?_
    rw [lc _ _ ah ah]
    ((apply bm Tryz.func30 (congrArg Array.toList Tryz.results30));(focus((apply Kc rfl (Ke (F.ag _ rfl) (by repeat(exact ae)) (bk ah)));(repeat(first|exact Kb|apply Kd rfl)))))
    exact⟨by rw [hv];rfl,by dsimp only;omega,fun m hm=>(aa _ _ (by omega)).trans (ho1 m hm)⟩
theorem Free.C8{a b c:SV}(ha:Free a)(hb:Free b)(hc:Free c):Free (.tup [a,b,c]):=fun e e' u h=>by
 simp only [SV.conc,SV.aJ] at h ⊢
 cases h1:a.conc e with
 | none=>rw [h1] at h;simp at h
 | some x=>
   cases h2:b.conc e with
   | none=>rw [h1,h2] at h;simp at h
   | some y=>
     cases h3:c.conc e with
     | none=>rw [h1,h2,h3] at h;simp at h
     | some z=>
       rw [h1,h2,h3] at h
       rw [ha e e' x h1,hb e e' y h2,hc e e' z h3]
       exact h
theorem sV(r:List UInt8×Nat×Nat):Free (insS r):=Free.C8 (Free.agg _) (Free.sc _) (Free.sc _)
theorem nV{it:List UInt8}{s:SV}(hp:p.length=1024)(hB:BsIs H s (byV it))(hit:it.length≤4611686018427387904):Fnc Tryz.prog 30 [.agg (pgS p),s] H nx (fun q=>q=(insS (iU p it),H,nx)):=Fnc.bv (sV _) (BD hp hB hit)
def cn(p:List UInt8)(n:Nat):Nat×Nat×Nat:=if ac p≤n then(0,0,6) else if ak p n=0 then(0,0,6) else(ay p n,ak p n,0)
abbrev HH(r:Nat×Nat×Nat):SV:= .tup [.sc (.int .i64 (r.1:Int)),.sc (.int .i64 (r.2.1:Int)),.sc (.int .i64 (r.2.2:Int))]
theorem HG(hb:H.at' b=some (pgO p))(hp:xm p):Fnc Tryz.prog 89 [.ptr b 0,.sc (.int .i64 (n:Int))] H nx (fun q=>q.1=HH (cn p n)∧nx≤q.2.2∧ ∀ m,m<nx→q.2.1.at' m=H.at' m):=by
 obtain⟨hp,hp1,hp2⟩:=hp
 refine Ka Tryz.func89 rfl rfl ?_
 refine aX fun hund=>?_
 have hlt:=hund _ _ hb
 have hb0: ∀ {vo:VO},(H.set nx vo).at' b=some (pgO p):=fun {vo}=>(aa _ _ (by omega)).trans hb
 repeat first|apply ai;rfl|apply bY;rfl;kernel_rfl;exact iX hb hp
 refine eN rfl rfl rfl rfl (fun h1=>?_) (fun h1=>?_)
 ·repeat apply ai;rfl
  (apply bP Tryz.func89 Tryz.results89;rfl)
  refine⟨?_,Jv _,fun m hm=>rfl⟩
  unfold cn
  rw [JH (by omega)]
  rfl
 ·repeat first|apply ai;rfl|apply bY;rfl;kernel_rfl;exact mf
  refine jy rfl rfl rfl rfl (by kernel_rfl) (J9 (oc (aj _ _ _) hb0 hp (n:=n) (by omega)) ?_)
  rintro _ rfl
  dsimp only
  repeat apply ai;rfl
  refine cF rfl rfl rfl rfl (fun h2=>?_) (fun h2=>?_)
  ·repeat apply ai;rfl
   (apply bP Tryz.func89 Tryz.results89;rfl)
   refine⟨?_,JE _,fun m hm=>aa _ _ (by omega)⟩
   unfold cn
   rw [JG (by omega),JH (by omega)]
   rfl
  ·repeat apply ai;rfl
   (apply bP Tryz.func89 Tryz.results89;rfl)
   refine⟨?_,JE _,fun m hm=>aa _ _ (by omega)⟩
   unfold cn
   rw [JG (by omega),JG (by omega)]
   rfl
theorem v8(hb:H.at' b=some (pgO p))(hp:xm p):Fnc Tryz.prog 89 [.ptr b 0,.sc (.int .i64 (n:Int))] H nx (fun q=>q=(HH (cn p n),H,nx)):=Fnc.bv (Free.C8 (Free.sc _) (Free.sc _) (Free.sc _)) (HG hb hp)
abbrev pgE(r:List UInt8×Nat):SV:= .tup [.agg (pgS r.1),.sc (.int .i64 (r.2:Int))]
theorem gU(r:List UInt8×Nat):Free (pgE r):=Free.two (Free.agg _) (Free.sc _)
theorem EJ(hp:p.length=1024):Fnc Tryz.prog 87 [.agg (pgS p)] H nx (fun q=>q.1 = .sc (.bool (bg p))∧nx≤q.2.2∧ ∀ m,m<nx→q.2.1.at' m=H.at' m):=by
 refine Ka Tryz.func87 rfl rfl ?_
 have hb1:(H.set nx (pgO p)).at' nx=some (pgO p):=aj _ _ _
 repeat first|apply ai;rfl|apply bY;rfl;kernel_rfl;exact gz hb1 hp
 (apply bP Tryz.func87 Tryz.results87;rfl)
 exact⟨rfl,JE _,fun m hm=>aa _ _ (by omega)⟩
theorem EI(hp:p.length=1024):Fnc Tryz.prog 87 [.agg (pgS p)] H nx (fun q=>q=(.sc (.bool (bg p)),H,nx)):=Fnc.bv (fun _ _ _ h=>h) (EJ hp)
abbrev Hq(f q:Nat):SV:= .fn (.func 79) [] [.ptr f 0,.ptr q 0]
theorem zI(hp:p.length=1024):Fnc Tryz.prog 39 [.agg (pgS p)] H nx (fun q=>q=(Hq (nx+1) nx,(H.set nx (pgO p)).set (nx+1) (ar 4 [.sc (.bool (bg p))]),nx+1+1)):=by
 refine Ka Tryz.func39 rfl rfl ?_
 have hb1:(H.set nx (pgO p)).at' nx=some (pgO p):=aj _ _ _
 repeat first|apply ai;rfl|apply aG;rfl;(focus((repeat(exact ae));done));rfl|apply bY;rfl;kernel_rfl;exact gz hb1 hp
 (apply bP Tryz.func39 Tryz.results39;rfl)
 refine Prod.ext rfl (Prod.ext ?_ rfl)
 funext n
 by_cases hn:n=nx+1
 ·subst hn
  exact(aj _ _ _).trans (aj _ _ _).symm
 ·exact(aa _ _ hn).trans ((aa _ _ hn).trans (aa _ _ hn).symm)
def LsIs(H:au)(ls:List SV)(bs:List (List Value)):Prop:=ls.length=bs.length∧ ∀ (j:Nat) s vs,ls[j]? =some s→bs[j]? =some vs→BsIs H s vs
abbrev bsR(ro:Bool)(ls:List SV):VO:=nz ro ls.length 1 35 ls
abbrev u8R(ro:Bool)(vs:List Value):VO:=dat ro vs.length 1 5 vs
abbrev u8Z:Value:= .int .u8 0
theorem LsIs.at(h:LsIs H ls bs){j:Nat}(hj:j<ls.length): ∃ s vs,ls[j]? =some s∧bs[j]? =some vs∧BsIs H s vs:=by
 obtain⟨h1,h2⟩:=h
 exact⟨ls[j],bs[j]'(by omega),by simp [hj],by rw [Jf],h2 j _ _ (by simp [hj]) (by rw [Jf])⟩
theorem jT{j:Nat}{vs:List Value}(h:bs[j]? =some vs):(bs.take (j+1)).flatten=(bs.take j).flatten ++ vs:=by
 rw [List.take_add_one,h]
 simp
theorem uw(bs:List (List Value))(j:Nat):(bs.take j).flatten.length≤bs.flatten.length:=by
 conv=>rhs;rw [← List.take_append_drop j bs,List.flatten_append,Jz]
 omega
theorem v6(h: ∀ vs∈bs,tN vs):tN bs.flatten:=by
 intro v hv
 obtain⟨l,hl,hv⟩:=List.mem_flatten.1 hv
 exact h l hl v hv
theorem Hp{r:Nat}{ro:Bool}(hr:H.at' r=some (bsR ro ls))(hb:LsIs H ls bs)(hsz:bs.flatten.length≤140737488355328)(hl:ls.length≤4611686018427387904):Fnc Tryz.prog 73 [.slu r 0 ls.length] H nx
 (fun q=> ∃ r',q.1 = .slu r' 0 bs.flatten.length∧q.2.1.at' r'=some (u8R false bs.flatten)∧nx≤r'∧r'<q.2.2∧nx≤q.2.2∧ ∀ n,n<nx→q.2.1.at' n=H.at' n):=by
 refine Ka Tryz.func73 rfl rfl ?_
 refine aX fun hund=>?_
 have hlt:=hund _ _ hr
 repeat apply ai;rfl
 refine bC (α:=Nat) (fun j=> [(0,.slu r 0 ls.length),(2,.sc (.slice none 0 0)),(3,.sc (.int .i64 ((bs.take j).flatten.length:Nat))),(9,.slu r 0 ls.length),(10,.sc (.int .i64 (ls.length:Int))),(11,.sc (.int .i64 (j:Int)))]) (fun j H1 n1=>H1=H∧n1=nx∧j≤ls.length) (fun j=>ls.length-j) 0
  ⟨rfl,rfl,Jw _⟩ (Kg (Kj rfl)) ?_
 rintro j H1 n1 ⟨rfl,rfl,h1⟩ ih
 repeat apply ai;rfl
 (apply bn;rfl;rfl;rfl;rfl)
 all_goals intro h6
 ·obtain⟨s,vs,g1,g2,g3⟩:=hb.at (j:=j) (by omega)
  have hle:=uw bs (j+1)
  have hft:=jT g2
  rw [hft,Jz] at hle
  have hcell:(bsR ro ls).cell (j*1)=some s:=mu (by rw [Nat.mul_one];exact g1) (by omega)
  repeat first|apply ai;rfl|apply cx;rfl|apply aL;rfl;omega;omega|refine dq (q:=j) rfl rfl rfl rfl (F.un _ rfl) (F.sz _ rfl) (by assumption) (by omega) (by(omega)) (Jv _) ?_|refine cd (am (F.ag _ rfl) rfl hr hcell) rfl rfl rfl ?_|refine dj rfl rfl (F.un _ rfl) rfl g3 ?_
  refine ih _ _ _ (j+1) ⟨rfl,rfl,by omega⟩ (by omega) ?_
  rw [hft,Jz]
  exact Kg (by repeat(first|exact Kk|refine⟨rfl,?_⟩))
 ·obtain rfl:j=ls.length:=by omega
  have hall:bs.take ls.length=bs:=Jn (by have:=hb.1;omega)
  rw [hall]
  repeat first|apply ai;rfl|apply nM (z:=u8Z) (bb:=1) (n:=0) (m:=bs.flatten.length);rfl;rfl;exact(F.un _ rfl);exact(F.sz _ rfl);exact(F.ze _ rfl);(focus(kernel_rfl));rfl;rfl;rfl;exact(Jw _);(focus(omega));(focus(omega))
  have hrep: ∀ n,tN (List.replicate n u8Z):=fun n v hv=>by rw [(List.mem_replicate.1 hv).2];rfl
  refine bC (α:=Nat) (fun j=> [(0,.slu r 0 ls.length),(6,.slu n1 0 (bs.take j).flatten.length),(22,.slu r 0 ls.length),(23,.sc (.int .i64 (ls.length:Int))),(24,.sc (.int .i64 (j:Int)))]) (fun j H2 n2=>n2=n1+1∧j≤ls.length∧H2.at' n1=some (dat false bs.flatten.length 1 5 ((bs.take j).flatten ++ List.replicate (bs.flatten.length-(bs.take j).flatten.length) u8Z))∧ ∀ n,n<n1→H2.at' n=H1.at' n) (fun j=>ls.length-j) 0
   ⟨rfl,Jw _,by rw [aj];simp,fun n hn=>aa _ _ (by omega)⟩ (Kg (Kj rfl)) ?_
  clear ih
  rintro j H2 n2 ⟨rfl,h2,h3,h4⟩ ih
  have hr2:H2.at' r=some (bsR ro ls):=(h4 r hlt).trans hr
  repeat apply ai;rfl
  (apply bn;rfl;rfl;rfl;rfl)
  all_goals intro h7
  ·obtain⟨s,vs,g1,g2,g3⟩:=hb.at (j:=j) (by omega)
   have g4:BsIs H2 s vs:=g3.frame fun b vo hbv=>(h4 b (hund b vo hbv)).trans hbv
   have hle:=uw bs (j+1)
   have hle0:=uw bs j
   have hft:=jT g2
   rw [hft,Jz] at hle
   have hcell:(bsR ro ls).cell (j*1)=some s:=mu (by rw [Nat.mul_one];exact g1) (by omega)
   repeat first|apply ai;rfl|refine dq (q:=j) rfl rfl rfl rfl (F.un _ rfl) (F.sz _ rfl) (by assumption) (by omega) (by(omega)) (Jv _) ?_|refine cd (am (F.ag _ rfl) rfl hr2 hcell) rfl rfl rfl ?_
   rcases Nat.eq_zero_or_pos vs.length with h0|h0
   ·have:vs= []:=Jr h0
    subst this
    refine xZ (vs:= []) rfl rfl rfl rfl (F.un _ rfl) (.inl ⟨_,F.un _ rfl⟩) (F.sz _ rfl) (by decide) h3 (by omega) (BsIs.rdv g4) g4.1 ?_
    repeat first|apply ai;rfl|apply aL;rfl;omega;omega
    refine ih _ _ _ (j+1) ⟨rfl,by omega,by rw [hft,JU];exact h3,h4⟩ (by omega) ?_
    rw [hft,JU]
    exact Kg (by repeat(first|exact Kk|refine⟨rfl,?_⟩))
   ·refine wP (vs:=vs) (ws:=(bs.take (j+1)).flatten ++ List.replicate (bs.flatten.length-(bs.take (j+1)).flatten.length) u8Z) rfl rfl rfl rfl (F.un _ rfl) (.inl ⟨_,F.un _ rfl⟩) (F.sz _ rfl) h3 (BsIs.rdv g4) g4.1 (by omega) (by omega) (by omega) (by rw [Jz,JT];omega) ?_ ?_
    ·rw [hft,Jz,JI,Nat.mul_one,Nat.mul_one,List.take_left' rfl,←List.drop_drop,List.drop_left' rfl,List.drop_replicate,Nat.sub_sub]
    ·repeat first|apply ai;rfl|apply aL;rfl;omega;omega
     refine ih _ _ _ (j+1) ⟨rfl,by omega,aj _ _ _,fun n hn=>(aa _ _ (by omega)).trans (h4 n hn)⟩ (by omega) ?_
     rw [hft,Jz]
     exact Kg (by repeat(first|exact Kk|refine⟨rfl,?_⟩))
  ·obtain rfl:j=ls.length:=by omega
   rw [hall] at h3 ⊢
   repeat apply ai;rfl
   (apply bP Tryz.func73 Tryz.results73;rfl)
   refine⟨n1,rfl,?_,Jv _,Nat.lt_succ_self _,JE _,h4⟩
   rw [Nat.sub_self,List.replicate_zero,JU] at h3
   exact h3
theorem sR{r:Nat}{ro:Bool}(hr:H.at' r=some (bsR ro ls))(hb:LsIs H ls bs)(hsz:bs.flatten.length≤140737488355328)(hl:ls.length≤4611686018427387904):Fnc Tryz.prog 73 [.slu r 0 ls.length] H nx
 (fun q=>q=(.slu nx 0 bs.flatten.length,H.set nx (u8R false bs.flatten),nx+1)):=Fnc.next (Hp hr hb hsz hl)
abbrev gf:=List UInt8×List UInt8×Nat×Nat
def iT(v:gf):Bool:=decide ((1≤v.1.length∧v.1.length≤32)∧v.2.1.length≤128∧(1≤v.2.2.1∧v.2.2.1≤4000)∧v.2.2.2≤4000)
def jl(l:List UInt8):List UInt8:=beB l.length 2 ++ l
def aO(v:gf):List UInt8:=beB v.2.2.1 8 ++ (beB v.2.2.2 8 ++ (jl v.1 ++ jl v.2.1))
theorem er(v:gf):(aO v).length=20+v.1.length+v.2.1.length:=by
 unfold aO jl
 simp only [Jz,bq]
 omega
def eG:Option (List UInt8)→Nat→List UInt8×Option (List UInt8)
 | none,_=>([],none)
 | some l,n=>if n≤l.length then(l.take n,some (l.drop n)) else([],none)
theorem dY(h:n≤l.length):eG (some l) n=(l.take n,some (l.drop n)):=JH h
theorem gP(h:l.length<n):eG (some l) n=([],none):=JG (by omega)
def iq(st:Option (List UInt8)):List UInt8×Option (List UInt8):=eG (eG st 2).2 (beN (eG st 2).1)
theorem qe:iq none=([],none):=rfl
def jK(l:List UInt8):gf×Option (List UInt8):=
 let a:=eG (some l) 8
 let b:=eG a.2 8
 let k:=iq b.2
 let v:=iq k.2
 ((k.1,v.1,beN a.1,beN b.1),v.2)
def CS(st:Option (List UInt8))(v:gf):Option gf:=if st=some []∧iT v=true then some v else none
theorem ux{st:Option (List UInt8)}{v:gf}(h:st≠some []):CS st v=none:=JG fun h'=>h h'.1
def ofV(l:List UInt8):Option gf:=if 180<l.length then none else CS (jK l).2 (jK l).1
def ny(l:List UInt8):gf:=let k:=beN ((l.drop 16).take 2);((l.drop 18).take k,l.drop (20+k),beN (l.take 8),beN ((l.drop 8).take 8))
def ofR(l:List UInt8):Option gf:=
 if l.length<20 then none else if l.length<20+beN ((l.drop 16).take 2) then none
 else if iT (ny l)=true∧beN ((l.drop (18+beN ((l.drop 16).take 2))).take 2)=(l.drop (20+beN ((l.drop 16).take 2))).length then some (ny l) else none
theorem kL{m:List UInt8}(h2:2≤m.length):iq (some m)=eG (some (m.drop 2)) (beN (m.take 2)):=by
 unfold iq
 rw [dY h2]
theorem pe{m:List UInt8}(h2:m.length<2):iq (some m)=([],none):=by
 unfold iq
 rw [gP h2]
 rfl
theorem of_eq(l:List UInt8):ofV l=ofR l:=by
 have hnone: ∀ {v:gf},CS none v=none:=ux (fun h=>by cases h)
 unfold ofR
 by_cases h16:l.length<16
 ·rw [JH (by omega)]
  unfold ofV
  rw [JG (by omega)]
  have:(jK l).2=none:=by
   unfold jK
   by_cases h8:l.length<8
   ·rw [gP h8];rfl
   ·rw [dY (by omega)]
    simp only
    rw [gP (by rw [JN];omega)]
    rfl
  rw [this,hnone]
 ·have e1:jK l=(((iq (some (l.drop 16))).1,(iq (iq (some (l.drop 16))).2).1,beN (l.take 8),beN ((l.drop 8).take 8)),(iq (iq (some (l.drop 16))).2).2):=by
   unfold jK
   rw [dY (by omega)]
   simp only
   rw [dY (by rw [JN];omega)]
   simp only [List.drop_drop]
  unfold ofV
  rw [e1]
  by_cases h18:l.length<18
  ·rw [JH (show l.length<20 by omega),JG (by omega),pe (by rw [JN];omega),qe,hnone]
  ·rw [kL (by rw [JN];omega),List.drop_drop,show 16+2=18 from rfl]
   have hver:ny l=((l.drop 18).take (beN ((l.drop 16).take 2)),l.drop (20+beN ((l.drop 16).take 2)),beN (l.take 8),beN ((l.drop 8).take 8)):=rfl
   generalize hk:beN ((l.drop 16).take 2)=k at hver ⊢
   by_cases hk1:l.length<18+k
   ·rw [gP (by rw [JN];omega)]
    simp only [qe]
    rw [hnone]
    have:(if l.length<20 then none else if l.length<20+k then none else if iT (ny l)=true∧beN ((l.drop (18+k)).take 2)=(l.drop (20+k)).length then some (ny l) else none)=none:=by
     split
     ·rfl
     ·rw [JH (by omega)]
    rw [this]
    split <;> rfl
   ·rw [dY (by rw [JN];omega),List.drop_drop]
    simp only
    by_cases h20:l.length<20+k
    ·rw [pe (by rw [JN];omega)]
     simp only
     rw [hnone,JH h20]
     split <;> (split <;> rfl)
    ·rw [kL (by rw [JN];omega),List.drop_drop,show 18+k+2=20+k by omega]
     generalize hn:beN ((l.drop (18+k)).take 2)=n
     rw [JG (show ¬ l.length<20 by omega),JG h20,hver]
     have hlen:(l.drop (20+k)).length=l.length-(20+k):=JN
     by_cases hn1:n=(l.drop (20+k)).length
     ·rw [dY (by omega),hn1,List.take_length,List.drop_length]
      simp only
      by_cases hm:iT ((l.drop 18).take k,l.drop (20+k),beN (l.take 8),beN ((l.drop 8).take 8))=true
      ·have hb:=JS hm
       simp only [JK,JN] at hb
       rw [JG (show ¬ 180<l.length by omega),JH (show iT ((l.drop 18).take k,l.drop (20+k),beN (l.take 8),beN ((l.drop 8).take 8))=true∧True from⟨hm,trivial⟩)]
       exact JH ⟨rfl,hm⟩
      ·rw [JG (show ¬ (iT ((l.drop 18).take k,l.drop (20+k),beN (l.take 8),beN ((l.drop 8).take 8))=true∧True)from fun h=>hm h.1)]
       have:CS (some []) ((l.drop 18).take k,l.drop (20+k),beN (l.take 8),beN ((l.drop 8).take 8))=none:=JG fun h=>hm h.2
       rw [this]
       split <;> rfl
     ·have hno: ¬ (iT ((l.drop 18).take k,l.drop (20+k),beN (l.take 8),beN ((l.drop 8).take 8))=true∧n=(l.drop (20+k)).length):=fun h=>hn1 h.2
      rw [JG hno]
      by_cases hn2:(l.drop (20+k)).length<n
      ·rw [gP hn2]
       simp only
       rw [hnone]
       split <;> rfl
      ·rw [dY (by omega)]
       simp only
       rw [ux (fun h=>?_)]
       ·split <;> rfl
       ·have:=congrArg List.length (Option.some.inj h)
        simp only [JN,List.length_nil] at this
        omega
theorem re: ∀ (l:List UInt8) (a:Nat),l.foldl (fun n c=>256*n+c.toNat) a=a*256 ^ l.length+beN l
 | [],a=>by simp [beN]
 | c :: l,a=>by
   have h1:=re l (256*a+c.toNat)
   have h2:=re l c.toNat
   simp only [List.foldl_cons,Jy]
   rw [h1]
   have:beN (c :: l)=c.toNat*256 ^ l.length+beN l:=by
    show l.foldl _ (256*0+c.toNat)=_
    rw [Nat.mul_zero,JI,h2]
   rw [this,Nat.pow_succ,Nat.add_mul,Nat.mul_comm (256 ^ l.length) 256,←Nat.mul_assoc,Nat.mul_comm a 256]
   omega
theorem wy(c:UInt8)(l:List UInt8):beN (c :: l)=c.toNat*256 ^ l.length+beN l:=by
 show l.foldl _ (256*0+c.toNat)=_
 rw [Nat.mul_zero,JI,re]
theorem kM(n size:Nat):beB n (size+1)=UInt8.ofNat (n / 256 ^ size) :: beB n size:=by
 unfold beB
 rw [List.range_succ_eq_map,Jx,List.map_map]
 congr 1
 refine List.map_congr_left fun i _=>?_
 simp only [Function.comp]
 rw [show size+1-1-(i+1)=size-1-i by omega]
theorem Ap: ∀ (size n:Nat),beN (beB n size)=n % 256 ^ size
 | 0,n=>by simp [beB,beN,Nat.mod_one]
 | size+1,n=>by
   have e:256 ^ (size+1)=256 ^ size*256:=Nat.pow_succ _ _
   rw [kM,wy,bq,Ap size n,UInt8.toNat_ofNat',e,Nat.mod_mul]
   show n / 256 ^ size % 256*256 ^ size+n % 256 ^ size=_
   rw [Nat.mul_comm (256 ^ size)]
   exact Nat.add_comm _ _
theorem rH{size:Nat}(h:n<256 ^ size):beN (beB n size)=n:=by rw [Ap,Nat.mod_eq_of_lt h]
theorem qL{v:gf}(h:iT v=true):ofV (aO v)=some v:=by
 have hm:=JS h
 have hl:=er v
 have e2:beN (beB v.1.length 2)=v.1.length:=rH (by omega)
 have e3:beN (beB v.2.1.length 2)=v.2.1.length:=rH (by omega)
 have e4:beN (beB v.2.2.1 8)=v.2.2.1:=rH (by omega)
 have e5:beN (beB v.2.2.2 8)=v.2.2.2:=rH (by omega)
 have hp:jK (aO v)=(v,some []):=by
  unfold jK
  rw [dY (by rw [hl];omega)]
  unfold aO
  rw [List.take_left' (bq _ _),List.drop_left' (bq _ _)]
  simp only
  rw [dY (by rw [Jz,bq];omega),List.take_left' (bq _ _),List.drop_left' (bq _ _)]
  simp only
  unfold jl
  rw [JR,kL (by rw [Jz,bq];omega),List.take_left' (bq _ _),List.drop_left' (bq _ _),e2]
  rw [dY (by rw [Jz];omega),List.take_left' rfl,List.drop_left' rfl]
  simp only
  rw [kL (by rw [Jz,bq];omega),List.take_left' (bq _ _),List.drop_left' (bq _ _),e3]
  rw [dY (Jv _),List.take_length,List.drop_length,e4,e5]
 unfold ofV
 rw [JG (by omega),hp]
 exact JH ⟨rfl,h⟩
end
end Go.Proofs.YtnhmbonmlfeifaaGreat
end
section
namespace Go.Sy
open Go Go.Sl Go.RowKit
section
variable {P:Program} {T:Tr SV} {H:au} {nx:Nat} {d:Option Tmp} {ty:TypeId} {pos:String} {af:Array Edge} {gd:Option (Nat×Bool)}
section
variable {n:Nat}{t:TypeId}{x:Operand}
theorem xn{m:Array (String×TypeId)}(hu:P.underlying t=some (.interface m))(w:World):(Op.equal t .nilIface .nilIface).run P w = .ok true w:=by
 have: ∀ n,(Op.equalIn (n+1) t .nilIface .nilIface).run P w = .ok true w:=fun n=>by simp [Op.equalIn,run_underlying hu]
 exact this 9999
theorem jG{yt:TypeId}{m:Array (String×TypeId)}(hx:an T x=some (.sc .nilIface))(hu:P.underlying t=some (.interface m)):ReadDoes P T H ⟨d,.binOp .neq t x (.const .nilIface) yt,ty,pos,af,gd⟩ (.sc (.bool false)):=by
 refine eI fun ev w he=>?_
 have e1:=he x _ hx _ rfl
 have e2:=he (.const .nilIface) _ rfl _ rfl
 have hg:(eqGuard .neq t x (.const .nilIface) .nilIface .nilIface).run P w = .ok () w:=by cases x <;> rfl
 have hq:(Op.equal t .nilIface .nilIface).run P w = .ok true w:=xn hu w
 have hb:(binOp .neq t .nilIface .nilIface).run P w = .ok (.bool false) w:=by
  simp only [binOp,Sem.run_bind,hq,Result.andThen_ok,Sem.run_pure,Bool.not_true]
 simp only [execOp,e1,e2,Sem.run_bind,hg,hb,Result.andThen_ok,Sem.run_pure]
theorem zd{el:TypeId}{b o C:Nat}{bt:TypeId}{cs:List SV}{z:Value}(hu:P.underlying t=some (.slice el))(hz:dK P el=some z)(hx:an T x=some (.sl b o (n+1) C))(hb:H.at' b=some (ar bt cs))(zs:List SV)(hzs:iw z (n+1)=zs)(h1:bp zs=true)(ho:o+zs.length≤cs.length) :
 OpDoes P T H nx ⟨d,.call {callee:= .builtin .clear,args:= #[x],argTypes:= #[t]},ty,pos,af,gd⟩ (.val (.sc (.tuple #[])),H.set b (ar bt (cs.take o ++ zs ++ cs.drop (o+zs.length))),nx):=by
 subst hzs
 have hst:(ar bt cs).setCells o (iw z (n+1))=some (ar bt (cs.take o ++ iw z (n+1) ++ cs.drop (o+(iw z (n+1)).length))):=gR (t:=bt) (iw z (n+1)) cs o ho h1
 have hcp:mn P H nx t (.sl b o (n+1) C)=some (.val (.sc (.tuple #[])),H.set b (ar bt (cs.take o ++ iw z (n+1) ++ cs.drop (o+(iw z (n+1)).length))),nx):=by
  simp only [mn,hu,hz,eW,hb,hst]
 refine jh ?_
 simp only [fT,dn,hx,JC,eS,hcp]
theorem zq{fz:Nat×Nat}(h:EW fz n):EW (if(fz.1 == fz.2)=true then(n,n+1) else(min fz.1 n,max fz.2 (n+1))) n:=by
 obtain⟨h1,h2⟩:=h
 split
 ·exact⟨JE _,fun i hi=>by simp;omega⟩
 ·rename_i hne
  simp only [beq_iff_eq] at hne
  have hn:n≤fz.1:=by
   rcases JJ fz.1 n with hlt|hge
   ·have:=h2 fz.1 hlt
    simp at this
    omega
   ·exact hge
  refine⟨by simp;omega,fun i hi=>?_⟩
  simp only [Bool.and_eq_false_iff,decide_eq_false_iff_not]
  left
  omega
theorem DR{s el rt:TypeId}{b eo ne:Nat}{c:Tr SV}(hu:P.underlying s=some (.slice el))(he:P.underlying el=some (.int .u8))(hx:an T x=some (.slu b eo n))(hb:H.at' b=some (.row false ne 1 rt c))(h0:0<ne) :
 OpDoes P T H nx ⟨d,.convert s s x,ty,pos,af,gd⟩ (.val (.slu b eo n),H.set b (.row false ne 1 rt c),nx):=by
 intro K w0 e w ev hS hE
 obtain⟨y,hy,hl⟩:=hS.rel _ _ hb
 obtain⟨g1,g2,g3,g4⟩:=Lies.row hl
 have hnil:=g3 h0
 rcases hl with ⟨q0,o,q1,q2,q3⟩|⟨q,_⟩
 ·obtain⟨f0,cs,fz,tt,rfl,f2,f3,f4,f5,f6,f7⟩:=q3
  obtain⟨lo,hi⟩:=fz
  have hv:(SV.slu b eo n).conc e=some (.slice (some ⟨y.blk,y.base+eo*y.sz,none⟩) n (y.cap-eo)):=by simp [SV.conc,hy,Ent.at,hnil]
  have e1:=hE x _ hx
  rw [hv] at e1
  simp only [Jc] at e1
  have hsh:w.shape? y.blk=some (tt,cs.size):=by
   unfold World.shape?
   rw [q2]
  have hfz:(w.freeze ⟨y.blk,cs.size,none⟩ 1).heap[y.blk]? =some (.cells cs tt (if(lo == hi)=true then(cs.size,cs.size+1) else(min lo cs.size,max hi (cs.size+1)))):=by
   unfold World.freeze
   rw [JG (by decide)]
   simp [Array.getElem?_modify,q2]
  have ht:Turned w (w.freeze ⟨y.blk,cs.size,none⟩ 1) y.blk:=by
   unfold World.freeze
   rw [JG (by decide)]
   refine⟨rfl,rfl,rfl,by simp,fun j _ hj=>?_⟩
   simp [Array.getElem?_modify,Ne.symm hj]
  have hrun:(Go.convert s s (.slice (some ⟨y.blk,y.base+eo*y.sz,none⟩) n (y.cap-eo))).run P w = .ok (.slice (some ⟨y.blk,y.base+eo*y.sz,none⟩) n (y.cap-eo)) (w.freeze ⟨y.blk,cs.size,none⟩ 1):=by
   simp [Go.convert,run_underlying hu,run_underlying he,markStringish,hsh]
  refine⟨e,w.freeze ⟨y.blk,cs.size,none⟩ 1,Kh e,hS.upd hb hy hnil rfl rfl ht hfz ⟨f0,cs,_,tt,rfl,f2,f3,f4,fun _=>zq (fz:=(lo,hi)) (f5 rfl),f6,f7⟩,_,hv,?_⟩
  simp only [execOp,←e1]
  simp [hrun]
 ·rw [hnil] at q
  cases q
end
end
section
variable {P:Program} {ro:Option Nat} {fn nt nx i:Nat} {T:Tr SV} {k:List AIt} {dfs:List ADf} {H:au} {Q:Pst} {ops:Array Oper} {l:List Oper} {ty:TypeId} {pos:String} {af:Array Edge} {gd:Option (Nat×Bool)}
section
variable {args:List SV}{x:Operand}
theorem lu{as1:List Operand}{ats:Array TypeId}{g:FuncId}{fa fb:List SV}(hw:aF T ops ⟨none,.defer {callee:= .value x,args:=as1.toArray,argTypes:=ats},ty,pos,af,gd⟩=some true)(hx:an T x=some (.fn (.func g) fa fb))(ha:dn T as1=some args)(hm:bU P g=true)
 (h:Wp P none ⟨fn,nt,T,.inReg ops (i+1) l :: k,.call g (fa ++ args ++ fb) :: dfs,H,nx⟩ Q):Wp P none ⟨fn,nt,T,.inReg ops i (⟨none,.defer {callee:= .value x,args:=as1.toArray,argTypes:=ats},ty,pos,af,gd⟩ :: l) :: k,dfs,H,nx⟩ Q:=by
 refine .step (.inr ⟨hw,.inl rfl,OpDoes.any (out:=(.dfr (.call g (fa ++ args ++ fb)),H,nx)) ?_ ⟨rfl,h⟩⟩)
 intro K w0 e w ev hS hE
 refine mi hS hE ?_
 unfold fT
 simp only [cc,ha,hx,dF,hm,cond_true]
theorem jx{dd:Nat}(hw:aF T ops ⟨some dd,.call {callee:= .builtin .recover,args:= #[],argTypes:= #[]},ty,pos,af,gd⟩=some true)(hd:Nat.blt dd nt=true)
 (h:Wp P none ⟨fn,nt,T.set dd (.sc .nilIface),.inReg ops (i+1) l :: k,dfs,H,nx⟩ Q):Wp P none ⟨fn,nt,T,.inReg ops i (⟨some dd,.call {callee:= .builtin .recover,args:= #[],argTypes:= #[]},ty,pos,af,gd⟩ :: l) :: k,dfs,H,nx⟩ Q:=by
 refine .step (.inr ⟨hw,.inl rfl,OpDoes.any (out:=(.recover,H,nx)) ?_ ⟨rfl,?_⟩⟩)
 ·intro K w0 e w ev hS hE
  refine mi hS hE ?_
  unfold fT
  simp only [dn,JC,eS]
 ·rw [aK hd]
  exact h
theorem lN{name:String}{as1:List Operand}{ats:Array TypeId}{t:TypeId}{v:SV}{dd:Nat}(g:FuncId)(hw:aF T ops ⟨some dd,.call {callee:= .invoke x name,args:=as1.toArray,argTypes:=ats},ty,pos,af,gd⟩=some true)(hd:Nat.blt dd nt=true)(hx:an T x=some (.ifc t v))(ha:dn T as1=some args)(hm:lD P t name=some g)
 (h:Fnc P g (v :: args) H nx (fun r=>Wp P ro ⟨fn,nt,T.set dd r.1,.inReg ops (i+1) l :: k,dfs,r.2.1,r.2.2⟩ Q)) :
 Wp P ro ⟨fn,nt,T,.inReg ops i (⟨some dd,.call {callee:= .invoke x name,args:=as1.toArray,argTypes:=ats},ty,pos,af,gd⟩ :: l) :: k,dfs,H,nx⟩ Q:=by
 refine uL hw (args:=v :: args) ?_ (by simp only [aK hd];exact h)
 simp only [cc,ha,hx,hm]
theorem AL{t el:TypeId}{b o n C:Nat}{bt:TypeId}{cs:List SV}{z:Value}{dd:Option Nat}(zs:List SV)(hw:aF T ops ⟨dd,.call {callee:= .builtin .clear,args:= #[x],argTypes:= #[t]},ty,pos,af,gd⟩=some true)(hx:an T x=some (.sl b o (n+1) C))(hu:P.underlying t=some (.slice el))(hz:dK P el=some z)(hb:H.at' b=some (ar bt cs))(hzs:iw z (n+1)=zs)(h1:bp zs=true)(ho:o+zs.length≤cs.length)
 (h:Wp P ro ⟨fn,nt,mC nt T dd (.sc (.tuple #[])),.inReg ops (i+1) l :: k,dfs,H.set b (ar bt (cs.take o ++ zs ++ cs.drop (o+zs.length))),nx⟩ Q):Wp P ro ⟨fn,nt,T,.inReg ops i (⟨dd,.call {callee:= .builtin .clear,args:= #[x],argTypes:= #[t]},ty,pos,af,gd⟩ :: l) :: k,dfs,H,nx⟩ Q:=
 de hw (.inr (fun _ h=>by cases h)) (zd hu hz hx hb zs hzs h1 ho) h
theorem ew{rl:List ResultVar}{F:Func}{g:FuncId}(hf:P.funcs[fn]? =some F)(hl:F.results.toList=rl)(hg:bU P g=true)(h:Fnc P g args H nx (fun r=> ∃ vs,ResIs P r.2.1 T rl vs∧Q (fV vs,r.2.1,r.2.2))):Wp P none ⟨fn,nt,T,.code .ret :: k,[.call g args],H,nx⟩ Q:=by
 refine Co (D6 hg (J9 h ?_))
 rintro⟨v,H',n'⟩ ⟨vs,h1,h2⟩
 exact CG (by simp only [fh,hf,hl]) h1.res h2
end
end
end Go.Sy
end
section
namespace Go.Proofs.YtnhmbonmlfeifaaGreat
open Go Go.Sy Go.Sl Go.RowKit
section
variable {H H':au}{s:SV}{v:gf}{b n nx o r:Nat}{l p:List UInt8}{st:Option (List UInt8)}
abbrev dC:SV:= .sc (.slice none 0 0)
abbrev rdO(s:SV)(w:Bool):VO:=ar 167 [s,.sc (.bool w)]
theorem C4(H:au):BsIs H dC (byV []):=⟨fun v hv=>by simp at hv,.inl ⟨rfl,_,_,rfl⟩⟩
theorem zi(l:List UInt8):tN (byV l):=fun v hv=>by obtain⟨c,_,rfl⟩:=J3.1 hv;rfl
theorem bK(l:List UInt8):(byV l).length=l.length:=JL _
def BlkAt(H:au)(r o:Nat)(l:List UInt8):Prop:= ∃ vo,H.at' r=some vo∧vo.cellsFrom o l.length=some ((byV l).map .sc)
theorem BlkAt.bs{C:Nat}(h:BlkAt H r o l):BsIs H (.sl r o l.length C) (byV l):=by
 obtain⟨vo,h1,h2⟩:=h
 exact⟨zi l,.inr (.inr ⟨r,o,C,vo,by rw [bK],h1,by rw [bK];exact h2⟩)⟩
theorem io{vo:VO}: ∀ (n m o:Nat) (l:List SV),vo.cellsFrom o (n+m)=some l→vo.cellsFrom o n=some (l.take n)∧vo.cellsFrom (o+n) m=some (l.drop n)
 | 0,m,o,l,h=>by
   rw [JI] at h
   exact⟨by simp [VO.cellsFrom],by simpa using h⟩
 | n+1,m,o,l,h=>by
   rw [show n+1+m=(n+m)+1 by omega] at h
   simp only [VO.cellsFrom] at h ⊢
   cases h1:vo.cell o with
   | none=>rw [h1] at h;cases h
   | some s=>
     rw [h1] at h
     simp only at h ⊢
     cases h2:vo.cellsFrom (o+1) (n+m)with
     | none=>rw [h2] at h;cases h
     | some l'=>
       rw [h2] at h
       simp only [Jc] at h
       subst h
       obtain⟨g1,g2⟩:=io n m (o+1) l' h2
       rw [g1,show o+(n+1)=o+1+n by omega]
       exact⟨by simp,by simpa using g2⟩
theorem BlkAt.part(h:BlkAt H r o l)(hn:n≤l.length):BlkAt H r o (l.take n)∧BlkAt H r (o+n) (l.drop n):=by
 obtain⟨vo,h1,h2⟩:=h
 rw [show l.length=n+(l.length-n) by omega] at h2
 obtain⟨g1,g2⟩:=io n (l.length-n) o _ h2
 refine⟨⟨vo,h1,?_⟩,⟨vo,h1,?_⟩⟩
 ·rw [JK,Nat.min_eq_left hn,g1]
  simp [List.map_take]
 ·rw [JN,g2]
  simp [List.map_drop]
theorem BlkAt.frame(h:BlkAt H r o l)(hf:H'.at' r=H.at' r):BlkAt H' r o l:=by
 obtain⟨vo,h1,h2⟩:=h
 exact⟨vo,hf.trans h1,h2⟩
theorem BlkAt.none(H:au){vo:VO}(h:H.at' r=some vo)(o:Nat):BlkAt H r o []:=⟨vo,h,rfl⟩
def RdSt(H:au)(b r:Nat):Option (List UInt8)→Prop
 | some l=> ∃ o C,H.at' b=some (rdO (.sl r o l.length C) true)∧l.length≤C∧BlkAt H r o l
 | none=> ∃ s,H.at' b=some (rdO s false)
def BlkS(H:au)(s:SV)(r:Nat)(l:List UInt8):Prop:=(s=dC∧l= [])∨ ∃ o C,s = .sl r o l.length C∧BlkAt H r o l
theorem BlkS.bs(h:BlkS H s r l):BsIs H s (byV l):=by
 rcases h with ⟨rfl,rfl⟩|⟨o,C,rfl,h⟩
 ·exact C4 _
 ·exact h.bs
theorem BlkS.frame(h:BlkS H s r l)(hf:H'.at' r=H.at' r):BlkS H' s r l:=by
 rcases h with h|⟨o,C,h1,h2⟩
 ·exact .inl h
 ·exact .inr ⟨o,C,h1,h2.frame hf⟩
theorem kI{w:Bool}(hb:H.at' b=some (rdO s w)):Fnc Tryz.prog 104 [.ptr b 0] H nx (fun q=>q=(.sc (.bool (!w)),H,nx)):=by
 refine Ka Tryz.func104 rfl rfl ?_
 repeat first|apply ai;rfl|apply aG;rfl;assumption;rfl|refine cd (fi rfl rfl (F.un _ rfl) rfl) rfl rfl rfl ?_
 (apply bP Tryz.func104 Tryz.results104;rfl)
 rfl
theorem uU{n:Int}(hb:H.at' b=some (rdO s true))(hs:BsIs H s (byV l))(hn:n<0∨(l.length:Int)<n):Fnc Tryz.prog 103 [.ptr b 0,.sc (.int .i64 n)] H nx (fun q=> ∃ H',q=(dC,H',nx)∧H'.at' b=some (rdO dC false)∧ ∀ m,m≠b→H'.at' m=H.at' m):=by
 refine Ka Tryz.func103 rfl rfl ?_
 (repeat' (first|apply ai;rfl|apply aG;rfl;(focus((repeat(first|assumption|exact ae));done));rfl|refine GJ (cI (F.sz _ rfl) rfl rfl rfl (by assumption) (by rfl) (by exact Jh rfl) (by rfl)) rfl rfl ?_|apply bY;rfl;kernel_rfl;exact kI hb|(refine bn rfl rfl rfl rfl ?_ ?_ <;> intro hq1)|refine dj rfl rfl (F.un _ rfl) rfl hs ?_;rw [bK]|(refine ey rfl rfl rfl rfl ?_ ?_ <;> intro hq2)|exfalso;omega))
 all_goals(apply bP Tryz.func103 Tryz.results103;rfl)
 all_goals exact⟨_,rfl,aj _ _ _,fun m hm=>(aa _ _ hm).trans (aa _ _ hm)⟩
theorem yg{n:Int}(hb:H.at' b=some (rdO s false)):Fnc Tryz.prog 103 [.ptr b 0,.sc (.int .i64 n)] H nx (fun q=>q=(dC,H,nx)):=by
 refine Ka Tryz.func103 rfl rfl ?_
 repeat first|apply ai;rfl|apply bY;rfl;kernel_rfl;exact kI hb
 (apply bP Tryz.func103 Tryz.results103;rfl)
 rfl
theorem Dv{C:Nat}(hb:H.at' b=some (rdO (.sl r o l.length C) true))(hC:l.length≤C)(hn:n≤l.length):Fnc Tryz.prog 103 [.ptr b 0,.sc (.int .i64 (n:Int))] H nx (fun q=> ∃ H',q=(.sl r o n n,H',nx)∧H'.at' b=some (rdO (.sl r (if C=n then o else o+n) (l.length-n) (C-n)) true)∧ ∀ m,m≠b→H'.at' m=H.at' m):=by
 have ho:(bif Nat.beq n 0 then o else o+0*1)=o:=by cases Nat.beq n 0 <;> simp
 refine Ka Tryz.func103 rfl rfl ?_
 repeat first|apply ai;rfl|apply aG;rfl;assumption;rfl|apply bY;rfl;kernel_rfl;exact kI hb|apply lx;rfl;omega|refine cd (gA (F.un _ rfl) rfl) rfl rfl rfl ?_
 (apply GM (lw:=0) (hg:=n) (m:=n);rfl;rfl;rfl;exact(F.un _ rfl);exact(F.sz _ rfl);rfl;exact(ir rfl rfl);exact(ir rfl rfl);exact(Jw _);exact(Jv _);(focus(omega)))
 rw [ho]
 repeat first|apply ai;rfl|apply aG;rfl;assumption;rfl
 (apply xY (lw:=n) (hg:=l.length);rfl;rfl;rfl;exact(F.un _ rfl);exact(F.sz _ rfl);exact(ir rfl rfl);rfl;(focus(omega));(focus(omega));rfl)
 repeat first|apply ai;rfl|apply aG;rfl;assumption;rfl
 (apply bP Tryz.func103 Tryz.results103;rfl)
 exact⟨_,rfl,aj _ _ _,fun m hm=>aa _ _ hm⟩
theorem yf(h:RdSt H b r st)(hne:r≠b):Fnc Tryz.prog 103 [.ptr b 0,.sc (.int .i64 (n:Int))] H nx (fun q=> ∃ s H',q=(s,H',nx)∧BlkS H' s r (eG st n).1∧RdSt H' b r (eG st n).2∧ ∀ m,m≠b→H'.at' m=H.at' m):=by
 cases st with
 | none=>
   obtain⟨s,hs⟩:=h
   refine J9 (yg hs) ?_
   rintro _ rfl
   exact⟨_,_,rfl,.inl ⟨rfl,rfl⟩,⟨s,hs⟩,fun m _=>rfl⟩
 | some l=>
   obtain⟨o,C,h1,h2,h4⟩:=h
   by_cases hn:n≤l.length
   ·rw [dY hn]
    refine J9 (Dv h1 h2 hn) ?_
    rintro _ ⟨H',rfl,g1,g2⟩
    obtain⟨k1,k2⟩:=(h4.frame (g2 r hne)).part hn
    have hlt:(l.take n).length=n:=by rw [JK];omega
    refine⟨_,_,rfl,.inr ⟨o,n,by rw [hlt],k1⟩,?_,g2⟩
    have hld:(l.drop n).length=l.length-n:=JN
    refine⟨if C=n then o else o+n,C-n,by rw [hld];exact g1,by omega,?_⟩
    by_cases hc:C=n
    ·have:l.drop n= []:=List.drop_of_length_le (by omega)
     rw [this]
     obtain⟨vo,hv,_⟩:=k2
     exact BlkAt.none _ hv _
    ·rw [JG hc]
     exact k2
   ·rw [gP (by omega)]
    refine J9 (uU h1 (h4.bs) (.inr (by omega))) ?_
    rintro _ ⟨H',rfl,g1,g2⟩
    exact⟨_,_,rfl,.inl ⟨rfl,rfl⟩,⟨_,g1⟩,g2⟩
theorem zY(hb:BsIs H s (byV [])):Fnc Tryz.prog 102 [s] H nx (fun q=>q=(.tup [.sc (.int .u64 0),.sc (.int .i64 2)],H,nx)):=by
 refine Ka Tryz.func102 rfl rfl ?_
 repeat first|apply cx;rfl|refine dj rfl rfl (F.un _ rfl) rfl hb ?_
 refine bn rfl rfl rfl rfl (fun _=>?_) (fun hq=>absurd hq (by decide))
 repeat apply ai;rfl
 (apply bP Tryz.func102 Tryz.results102;rfl)
 rfl
theorem CQ{bs:List UInt8}(hb:BsIs H s (byV bs))(h2:bs.length≤8):Fnc Tryz.prog 102 [s] H nx (fun q=> ∃ e:Int,q=(.tup [.sc (.int .u64 (beN bs:Int)),.sc (.int .i64 e)],H,nx)):=by
 cases bs with
 | nil=>
   refine J9 (zY hb) ?_
   rintro _ rfl
   exact⟨2,rfl⟩
 | cons c bs=>
   refine J9 (HD hb (Nat.succ_le_succ (Jw _)) h2) ?_
   rintro _ rfl
   exact⟨0,rfl⟩
theorem yh(st:Option (List UInt8))(n:Nat):(eG st n).1= []∨(eG st n).1.length=n:=by
 cases st with
 | none=>exact .inl rfl
 | some l=>
   by_cases h:n≤l.length
   ·rw [dY h,JK]
    exact .inr (by omega)
   ·rw [gP (by omega)]
    exact .inl rfl
theorem qx(st:Option (List UInt8))(n:Nat):(eG st n).1.length≤n:=by
 rcases yh st n with h|h
 ·rw [h];exact Jw _
 ·exact Nat.le_of_eq h
theorem Hl(h:RdSt H b r st)(hne:r≠b)(h1:1≤n)(h2:n≤8):Fnc Tryz.prog 82 [.ptr b 0,.sc (.int .i64 (n:Int))] H nx (fun q=> ∃ H',q=(.sc (.int .u64 (beN (eG st n).1:Int)),H',nx)∧RdSt H' b r (eG st n).2∧ ∀ m,m≠b→H'.at' m=H.at' m):=by
 refine Ka Tryz.func82 rfl rfl ?_
 repeat first|apply ai;rfl|apply lx;rfl;omega
 refine aI rfl rfl rfl (by kernel_rfl) (J9 (yf (n:=n) h hne) ?_)
 rintro _ ⟨s,H',rfl,g1,g2,g3⟩
 dsimp only
 refine aI rfl rfl rfl (by kernel_rfl) (J9 (CQ g1.bs (JD (qx _ _) h2)) ?_)
 rintro _ ⟨e,rfl⟩
 dsimp only
 repeat apply ai;rfl
 (apply bP Tryz.func82 Tryz.results82;rfl)
 exact⟨_,rfl,g2,g3⟩
theorem zo(hb:H.at' b=some (rdO (.slu r 0 l.length) true))(hr:H.at' r=some (dat false l.length 1 5 (byV l)))(hbk:BlkAt H r 0 l)(hne:r≠b)(h1:1≤n)(h2:n≤8):Fnc Tryz.prog 82 [.ptr b 0,.sc (.int .i64 (n:Int))] H nx (fun q=> ∃ H',q=(.sc (.int .u64 (beN (eG (some l) n).1:Int)),H',nx)∧RdSt H' b r (eG (some l) n).2∧ ∀ m,m≠b→H'.at' m=H.at' m):=by
 refine Ka Tryz.func82 rfl rfl ?_
 by_cases hl:l.length=0
 ·have hs0:eG (some l) n=([],none):=gP (by omega)
  rw [hs0]
  repeat first|apply ai;rfl|apply lx;rfl;omega
  refine aI rfl rfl rfl (by kernel_rfl) (J9 (uU (n:=(n:Int)) (l:=l) hb (hU hr (by rfl)) (.inr (by omega))) ?_)
  rintro _ ⟨H',rfl,g1,g2⟩
  dsimp only
  refine aI rfl rfl rfl (by kernel_rfl) (J9 (zY (C4 _)) ?_)
  rintro _ rfl
  dsimp only
  repeat apply ai;rfl
  (apply bP Tryz.func82 Tryz.results82;rfl)
  exact⟨_,rfl,⟨_,g1⟩,g2⟩
 ·refine wN [] [.sc (.bool true)] hb hr (by omega) (by omega) ?_
  intro C hC
  have hst:RdSt (H.set b (ar 167 ([] ++ .sl r (0*1) l.length C :: [.sc (.bool true)]))) b r (some l):=⟨0,C,aj _ _ _,hC,hbk.frame (aa _ _ hne)⟩
  have hfr: ∀ m,m≠b→(H.set b (ar 167 ([] ++ .sl r (0*1) l.length C :: [.sc (.bool true)]))).at' m=H.at' m:=fun m hm=>aa _ _ hm
  generalize H.set b (ar 167 ([] ++ .sl r (0*1) l.length C :: [.sc (.bool true)]))=H0 at hst hfr ⊢
  repeat first|apply ai;rfl|apply lx;rfl;omega
  refine aI rfl rfl rfl (by kernel_rfl) (J9 (yf (n:=n) hst hne) ?_)
  rintro _ ⟨s,H',rfl,g1,g2,g3⟩
  dsimp only
  refine aI rfl rfl rfl (by kernel_rfl) (J9 (CQ g1.bs (JD (qx _ _) h2)) ?_)
  rintro _ ⟨e,rfl⟩
  dsimp only
  repeat apply ai;rfl
  (apply bP Tryz.func82 Tryz.results82;rfl)
  exact⟨_,rfl,g2,fun m hm=>(g3 m hm).trans (hfr m hm)⟩
theorem An(h:RdSt H b r st)(hne:r≠b):Fnc Tryz.prog 83 [.ptr b 0] H nx (fun q=> ∃ s H',q=(s,H',nx)∧BlkS H' s r (iq st).1∧RdSt H' b r (iq st).2∧ ∀ m,m≠b→H'.at' m=H.at' m):=by
 have hlt:=mw (eG st 2).1
 have hp:256 ^ (eG st 2).1.length≤256 ^ 2:=Nat.pow_le_pow_right (by decide) (qx _ _)
 refine Ka Tryz.func83 rfl rfl ?_
 repeat apply ai;rfl
 refine aI rfl rfl rfl (by kernel_rfl) (J9 (Hl (n:=2) h hne (by decide) (by decide)) ?_)
 rintro _ ⟨H1,rfl,g1,g2⟩
 dsimp only
 repeat refine cd (bR (F.un _ rfl) (F.un _ rfl) rfl (show _=((beN (eG st 2).1:Nat):Int)from Jd _ ⟨by omega,by omega⟩)) rfl rfl rfl ?_
 refine aI rfl rfl rfl (by kernel_rfl) (J9 (yf (n:=beN (eG st 2).1) g1 hne) ?_)
 rintro _ ⟨s,H2,rfl,k1,k2,k3⟩
 dsimp only
 repeat apply ai;rfl
 (apply bP Tryz.func83 Tryz.results83;rfl)
 exact⟨_,_,rfl,k1,k2,fun m hm=>(k3 m hm).trans (g2 m hm)⟩
def endR:Option (List UInt8)→Nat
 | some []=>0
 | _=>4
theorem Hn(hb:H.at' b=some (rdO s true))(hs:BsIs H s (byV l)):Fnc Tryz.prog 105 [.ptr b 0] H nx (fun q=>q=(.sc (.int .i64 (l.length:Int)),H,nx)):=by
 refine Ka Tryz.func105 rfl rfl ?_
 repeat first|apply ai;rfl|apply aG;rfl;assumption;rfl|apply bY;rfl;kernel_rfl;exact kI hb|refine dj rfl rfl (F.un _ rfl) rfl hs ?_;rw [bK]
 (apply bP Tryz.func105 Tryz.results105;rfl)
 rfl
theorem end_s(h:RdSt H b r st):Fnc Tryz.prog 84 [.ptr b 0] H nx (fun q=>q=(.sc (.int .i64 (endR st:Int)),H,nx)):=by
 refine Ka Tryz.func84 rfl rfl ?_
 cases st with
 | none=>
   obtain⟨s,hs⟩:=h
   repeat first|apply ai;rfl|refine cd (fi rfl rfl (F.un _ rfl) rfl) rfl rfl rfl ?_|apply bY;rfl;kernel_rfl;exact kI hs
   (apply bP Tryz.func84 Tryz.results84;rfl)
   rfl
 | some l=>
   obtain⟨o,C,h1,h2,h4⟩:=h
   have hb4:=h4.bs (C:=C)
   repeat first|apply ai;rfl|refine cd (fi rfl rfl (F.un _ rfl) rfl) rfl rfl rfl ?_|apply bY;rfl;kernel_rfl;exact kI h1|apply bY;rfl;kernel_rfl;exact Hn h1 hb4
   refine ey rfl rfl rfl rfl (fun hq=>?_) (fun hq=>?_)
   all_goals(repeat(apply ai;rfl))
   all_goals(apply bP Tryz.func84 Tryz.results84;rfl)
   all_goals(cases l with|nil=>_|cons c l=>_)
   all_goals first|rfl|(exfalso;simp at hq;done)|(exfalso;simp only [Jy,List.length_nil] at hq;omega)
abbrev oh(k w:SV)(x y:Nat):SV:= .agg [k,w,.sc (.int .u64 (x:Int)),.sc (.int .u64 (y:Int))]
def VerIs(H:au)(s:SV)(v:gf):Prop:= ∃ k w,s=oh k w v.2.2.1 v.2.2.2∧BsIs H k (byV v.1)∧BsIs H w (byV v.2.1)
theorem VerIs.frame(h:VerIs H s v)(hf: ∀ b vo,H.at' b=some vo→H'.at' b=some vo):VerIs H' s v:=by
 obtain⟨k,w,h1,h2,h3⟩:=h
 exact⟨k,w,h1,h2.frame hf,h3.frame hf⟩
abbrev iV:gf:=([],[],0,0)
theorem D5(hv:VerIs H s v):Fnc Tryz.prog 71 [s] H nx (fun q=>q=(.sc (.bool (iT v)),H,nx)):=by
 refine Fnc.bv (Free.sc _) ?_
 obtain⟨k,w,rfl,hk,hw⟩:=hv
 refine Ka Tryz.func71 rfl rfl ?_
 refine aX fun hund=>?_
 have hf: ∀ {vo:VO} (b:Nat) (vo':VO),H.at' b=some vo'→(H.set nx vo).at' b=some vo':=fun b vo' hb=>(aa _ _ (by have:=hund b vo' hb;omega)).trans hb
 have hk2: ∀ {vo:VO},BsIs (H.set nx vo) k (byV v.1):=fun {vo}=>hk.frame hf
 have hw2: ∀ {vo:VO},BsIs (H.set nx vo) w (byV v.2.1):=fun {vo}=>hw.frame hf
 have hm:iT v=decide ((1≤v.1.length∧v.1.length≤32)∧v.2.1.length≤128∧(1≤v.2.2.1∧v.2.2.1≤4000)∧v.2.2.2≤4000):=rfl
 have hl1:=bK v.1
 have hl2:=bK v.2.1
 (repeat' (first|apply ai;rfl|apply aG;rfl;(focus((repeat(exact ae));done));rfl|refine dj rfl rfl (F.un _ rfl) rfl hk2 ?_;rw [bK]|refine dj rfl rfl (F.un _ rfl) rfl hw2 ?_;rw [bK]|(refine eN rfl rfl rfl rfl ?_ ?_ <;> intro hq)|(refine pN rfl rfl rfl rfl ?_ ?_ <;> intro hq2)))
 all_goals(apply bP Tryz.func71 Tryz.results71;rfl)
 all_goals(refine⟨?_,JE _,fun m hm=>aa _ _ (by omega)⟩)
 all_goals(rw [hm];first|(rw [JZ (by omega)];rfl)|(rw [J0 (by omega)];rfl))
theorem LsIs.nil(H:au):LsIs H [] []:=⟨rfl,fun j s vs h=>by simp at h⟩
theorem LsIs.cons{vs:List Value}{ls:List SV}{bs:List (List Value)}(h:BsIs H s vs)(t:LsIs H ls bs):LsIs H (s :: ls) (vs :: bs):=by
 refine⟨by simp [t.1],fun j s' vs' h1 h2=>?_⟩
 cases j with
 | zero=>
   simp only [Jt,Jc] at h1 h2
   subst h1 h2
   exact h
 | succ j=>exact t.2 j s' vs' (by simpa using h1) (by simpa using h2)
theorem ki(a b:List UInt8):byV (a ++ b)=byV a ++ byV b:=JA
theorem shr8(n:Nat):((n:Nat):Int).fdiv (2 ^ (min (8:Int).toNat IntKind.i64.bits))=((n / 256:Nat):Int):=by
 rw [show min (8:Int).toNat IntKind.i64.bits=8 from rfl,Int.fdiv_eq_ediv_of_nonneg _ (by decide)]
 omega
theorem ED(n:Nat):byV (beB n 2)= [.int .u8 ((UInt8.ofNat (n / 256)).toNat:Int),.int .u8 ((UInt8.ofNat n).toNat:Int)]:=by
 rw [kM,kM]
 simp [beB]
theorem C5(hs:BsIs H s (byV l))(hl:l.length≤65535):Fnc Tryz.prog 72 [s] H nx (fun q=> ∃ r,q.1 = .tup [.slu r 0 (jl l).length,.sc (.int .i64 0)]∧q.2.1.at' r=some (u8R false (byV (jl l)))∧nx≤r∧r<q.2.2∧ ∀ m,m<nx→q.2.1.at' m=H.at' m):=by
 refine Ka Tryz.func72 rfl rfl ?_
 refine aX fun hund=>?_
 have hbl:(byV (jl l))= [.int .u8 ((UInt8.ofNat (l.length / 256)).toNat:Int),.int .u8 ((UInt8.ofNat l.length).toNat:Int)] ++ (byV l ++ []):=by
  unfold jl
  rw [ki,ED,JU]
 have hf: ∀ (vo vo':VO) (b:Nat) (w:VO),H.at' b=some w→((H.set nx vo).set (nx+1) vo').at' b=some w:=fun vo vo' b w hb=>by
  have:=hund b w hb
  exact(aa _ _ (by omega)).trans ((aa _ _ (by omega)).trans hb)
 have hs0:=hs
 repeat first|apply cx;rfl|refine dj rfl rfl (F.un _ rfl) rfl hs ?_;rw [bK]
 refine ey rfl rfl rfl rfl (fun hq=>absurd hq (by omega)) (fun _=>?_)
 repeat first|apply cx;rfl|refine dj rfl rfl (F.un _ rfl) rfl hs ?_;rw [bK]|refine cd (oy rfl rfl (by focus(decide)) (shr8 _)) rfl rfl rfl ?_|refine cd (bR (F.un _ rfl) (F.un _ rfl) rfl (wO _)) rfl rfl rfl ?_
 obtain⟨_,⟨_,_,_,rfl⟩|⟨r0,eo,ne,ro0,t0,us,rfl,hb0,hn0,hu0⟩|⟨b0,o0,C0,vo0,rfl,hb0,hc0⟩⟩:=hs0
 all_goals(repeat(first|apply bM;rfl;rfl;exact(F.un _ rfl);exact(F.sz _ rfl);rfl;exact(F.ze _ rfl);rfl;rfl;rfl;rfl;rfl|apply ai;rfl))
 all_goals
  refine aI rfl rfl rfl (by kernel_rfl) (J9 (sR (bs:= [[.int .u8 ((UInt8.ofNat (l.length / 256)).toNat:Int),.int .u8 ((UInt8.ofNat l.length).toNat:Int)],byV l]) (ls:= [_,_]) (aj _ _ _) (LsIs.cons (BsIs.row (ne:=2) (fun v hv=>by rcases JV.1 hv with rfl|hv;rfl;rw [JM.1 hv];rfl) ((aa _ _ (by omega)).trans ((aj _ _ _).trans (congrArg some (gZ _ _ _ _ [.int .u8 ((UInt8.ofNat (l.length / 256)).toNat:Int),.int .u8 ((UInt8.ofNat l.length).toNat:Int)])))) rfl) (LsIs.cons (hs.frame (hf _ _)) (LsIs.nil _))) (by simp;omega) (Jh rfl)) ?_)
  rintro _ rfl
  dsimp only
  repeat apply ai;rfl
  (apply bP Tryz.func72 Tryz.results72;rfl)
 all_goals
  refine⟨nx+1+1,?_,?_,by omega,Nat.lt_succ_self _,fun m hm=>by(repeat(refine ab (by omega) ?_));rfl⟩
  ·rw [show(jl l).length=(byV (jl l)).length from(bK _).symm,hbl]
   rfl
  ·refine(aj _ _ _).trans ?_
   rw [hbl]
   rfl
theorem jp{ro:Bool}(h:H.at' r=some (u8R ro (byV l))):BsIs H (.slu r 0 l.length) (byV l):=by
 have:=BsIs.row (zi l) h rfl
 rwa [bK] at this
theorem Ak(hv:VerIs H s v)(hm:iT v=true):Fnc Tryz.prog 32 [s] H nx (fun q=> ∃ r,q.1 = .tup [.slu r 0 (aO v).length,.sc (.int .i64 0)]∧q.2.1.at' r=some (u8R false (byV (aO v)))∧nx≤r∧r<q.2.2∧ ∀ m,m<nx→q.2.1.at' m=H.at' m):=by
 have hv0:=hv
 have hb:=JS hm
 obtain⟨k,w,rfl,hk,hw⟩:=hv
 refine Ka Tryz.func32 rfl rfl ?_
 refine aX fun hund=>?_
 repeat first|apply ai;rfl|apply aG;rfl;(focus((repeat(exact ae));done));rfl
 have hm1:=D5 (H:=H.set nx (ar 38 [k,w,.sc (.int .u64 (v.2.2.1:Int)),.sc (.int .u64 (v.2.2.2:Int))])) (nx:=nx+1) (hv0.frame fun b vo hb=>(aa _ _ (by have:=hund b vo hb;omega)).trans hb)
 rw [hm] at hm1
 repeat first|apply ai;rfl|apply aG;rfl;(focus((repeat(exact ae));done));rfl|apply bY;rfl;kernel_rfl;exact hm1
 refine aI rfl rfl rfl (by kernel_rfl) (J9 (Bi (n:=v.2.2.1) (size:=8) (by omega) (by decide) (by decide) (by omega)) ?_)
 rintro⟨_,H2,n2⟩ ⟨rfl,a2,rfl,a4⟩
 dsimp only at a2 a4 ⊢
 have hbox2:H2.at' nx=some (ar 38 [k,w,.sc (.int .u64 (v.2.2.1:Int)),.sc (.int .u64 (v.2.2.2:Int))]):=(a4 nx (by omega)).trans (aj _ _ _)
 repeat first|apply ai;rfl|apply aG;rfl;assumption;rfl
 refine aI rfl rfl rfl (by kernel_rfl) (J9 (Bi (n:=v.2.2.2) (size:=8) (by omega) (by decide) (by decide) (by omega)) ?_)
 rintro⟨_,H3,n3⟩ ⟨rfl,b2,rfl,b4⟩
 dsimp only at b2 b4 ⊢
 have hbox3:=(b4 nx (by omega)).trans hbox2
 have h3: ∀ m,m<nx→H3.at' m=H.at' m:=fun m hm=>(b4 m (by omega)).trans ((a4 m (by omega)).trans (aa _ _ (by omega)))
 repeat first|apply ai;rfl|apply aG;rfl;assumption;rfl
 refine aI rfl rfl rfl (by kernel_rfl) (J9 (C5 (hk.frame fun b vo hb=>(h3 b (hund b vo hb)).trans hb) (by omega)) ?_)
 rintro⟨_,H4,n4⟩ ⟨r4,rfl,c2,c3,c4,c5⟩
 dsimp only at c2 c3 c4 c5 ⊢
 have hbox4:=(c5 nx (by omega)).trans hbox3
 have h4: ∀ m,m<nx→H4.at' m=H.at' m:=fun m hm=>(c5 m (by omega)).trans (h3 m hm)
 repeat first|apply ai;rfl|apply aG;rfl;assumption;rfl
 refine aI rfl rfl rfl (by kernel_rfl) (J9 (C5 (hw.frame fun b vo hb=>(h4 b (hund b vo hb)).trans hb) (by omega)) ?_)
 rintro⟨_,H5,n5⟩ ⟨r5,rfl,d2,d3,d4,d5⟩
 dsimp only at d2 d3 d4 d5 ⊢
 have h5: ∀ m,m<nx→H5.at' m=H.at' m:=fun m hm=>(d5 m (by omega)).trans (h4 m hm)
 have e1:H5.at' (nx+1)=some (dat false 8 1 5 (byV (beB v.2.2.1 8))):=(d5 _ (by omega)).trans ((c5 _ (by omega)).trans ((b4 _ (by omega)).trans a2))
 have e2:H5.at' (nx+1+1)=some (dat false 8 1 5 (byV (beB v.2.2.2 8))):=(d5 _ (by omega)).trans ((c5 _ (by omega)).trans b2)
 have e3:H5.at' r4=some (u8R false (byV (jl v.1))):=(d5 _ (by omega)).trans c2
 clear a2 a4 b2 b4 c2 c5
 refine aX fun hund5=>?_
 repeat first|apply bM;rfl;rfl;exact(F.un _ rfl);exact(F.sz _ rfl);rfl;exact(F.ze _ rfl);rfl;rfl;rfl;rfl;rfl|apply ai;rfl
 have hfr: ∀ (vo:VO) (b:Nat) (x:VO),H5.at' b=some x→(H5.set n5 vo).at' b=some x:=fun vo b x hx=>(aa _ _ (by have:=hund5 b x hx;omega)).trans hx
 have hfl:byV (aO v)=byV (beB v.2.2.1 8) ++ (byV (beB v.2.2.2 8) ++ (byV (jl v.1) ++ (byV (jl v.2.1) ++ []))):=by
  unfold aO
  rw [ki,ki,ki,JU]
 have hvl:=er v
 refine aI rfl rfl rfl (by kernel_rfl) (J9 (sR (bs:= [byV (beB v.2.2.1 8),byV (beB v.2.2.2 8),byV (jl v.1),byV (jl v.2.1)]) (ls:= [_,_,_,_]) (aj _ _ _) (LsIs.cons ((hU e1 (bq _ _)).frame (hfr _)) (LsIs.cons ((hU e2 (bq _ _)).frame (hfr _)) (LsIs.cons ((jp e3).frame (hfr _)) (LsIs.cons ((jp d2).frame (hfr _)) (LsIs.nil _))))) (by show(byV (beB v.2.2.1 8) ++ (byV (beB v.2.2.2 8) ++ (byV (jl v.1) ++ (byV (jl v.2.1) ++ [])))).length≤_;rw [← hfl,bK,hvl];omega) (Jh rfl)) ?_)
 rintro _ rfl
 dsimp only
 repeat apply ai;rfl
 (apply bP Tryz.func32 Tryz.results32;rfl)
 refine⟨n5+1,?_,?_,by omega,Nat.lt_succ_self _,fun m hm=>(aa _ _ (by omega)).trans ((aa _ _ (by omega)).trans (h5 m hm))⟩
 ·rw [show(aO v).length=(byV (aO v)).length from(bK _).symm,hfl]
  rfl
 ·refine(aj _ _ _).trans ?_
  rw [hfl]
  rfl
theorem B0(hv:VerIs H s v)(hm:iT v=false):Fnc Tryz.prog 32 [s] H nx (fun q=>q=(.tup [dC,.sc (.int .i64 2)],H,nx)):=by
 refine Fnc.bv (Free.two (Free.sc _) (Free.sc _)) ?_
 have hv0:=hv
 obtain⟨k,w,rfl,hk,hw⟩:=hv
 refine Ka Tryz.func32 rfl rfl ?_
 refine aX fun hund=>?_
 have hm1:=D5 (H:=H.set nx (ar 38 [k,w,.sc (.int .u64 (v.2.2.1:Int)),.sc (.int .u64 (v.2.2.2:Int))])) (nx:=nx+1) (hv0.frame fun b vo hb=>(aa _ _ (by have:=hund b vo hb;omega)).trans hb)
 rw [hm] at hm1
 repeat first|apply ai;rfl|apply aG;rfl;(focus((repeat(exact ae));done));rfl|apply bY;rfl;kernel_rfl;exact hm1
 (apply bP Tryz.func32 Tryz.results32;rfl)
 exact⟨rfl,JE _,fun m hm=>aa _ _ (by omega)⟩
theorem rS(ro:Bool)(l:List UInt8):u8R ro (byV l)=dat ro l.length 1 5 (byV l):=by
 show dat ro (byV l).length 1 _ _=_
 rw [bK]
theorem tv{ro:Bool}(h:H.at' r=some (dat ro l.length 1 5 (byV l))):BlkAt H r 0 l:=by
 refine⟨_,h,?_⟩
 exact jk l.length 0 (by rw [List.drop_zero];exact Jn (by rw [bK];exact Jv _)) (bK l) (by omega)
theorem G1(hs:BsIs H s (byV l))(hl:l.length≤140737488355328):Fnc Tryz.prog 81 [s] H nx (fun q=> ∃ r b,q.1 = .ptr b 0∧q.2.1.at' b=some (rdO (.slu r 0 l.length) true)∧q.2.1.at' r=some (dat false l.length 1 5 (byV l))∧r≠b∧nx≤r∧nx≤b∧r<q.2.2∧b<q.2.2∧ ∀ m,m<nx→q.2.1.at' m=H.at' m):=by
 refine Ka Tryz.func81 rfl rfl ?_
 refine aX fun hund=>?_
 have hfr: ∀ (vo:VO) (b:Nat) (x:VO),H.at' b=some x→(H.set nx vo).at' b=some x:=fun vo b x hx=>(aa _ _ (by have:=hund b x hx;omega)).trans hx
 have hs0:=hs
 obtain⟨_,⟨_,_,_,rfl⟩|⟨r0,eo,ne,ro0,t0,us,rfl,hb0,hn0,hu0⟩|⟨b0,o0,C0,vo0,rfl,hb0,hc0⟩⟩:=hs0
 all_goals(repeat(first|apply bM;rfl;rfl;exact(F.un _ rfl);exact(F.sz _ rfl);rfl;exact(F.ze _ rfl);rfl;rfl;rfl;rfl;rfl|apply ai;rfl))
 all_goals
  refine aI rfl rfl rfl (by kernel_rfl) (J9 (sR (bs:= [byV l]) (ls:= [_]) (aj _ _ _) (LsIs.cons (hs.frame (hfr _)) (LsIs.nil _)) (by show(byV l ++ []).length≤_;rw [JU,bK];exact hl) (Jh rfl)) ?_)
  rintro _ rfl
  dsimp only
  have hfl: [byV l].flatten=byV l:=JU _
  rw [hfl,bK]
  repeat apply ai;rfl
  (apply bP Tryz.func81 Tryz.results81;rfl)
  refine⟨nx+1,nx+1+1,rfl,aj _ _ _,((aa _ _ (by omega)).trans (aj _ _ _)).trans (congrArg some (rS _ _)),by omega,by omega,by omega,by dsimp only;omega,by dsimp only;omega,fun m hm=>by(repeat(refine ab (by omega) ?_));rfl⟩
def aV(p:List UInt8)(j:Nat):List UInt8:=(p.drop (ay p j)).take (ak p j)
theorem iY(p:List UInt8): ∀ (k n:Nat) (seen:List (Nat×Nat)) (fine:Bool),fg p k n seen fine=true→ ∀ j,n≤j→j<n+k→(ay p j=0∧ak p j=0)∨(1≤ak p j∧ak p j≤1000∧aD p≤ay p j∧ay p j+ak p j≤1024)
 | 0,n,seen,fine,_,j,h1,h2=>absurd h1 (by omega)
 | k+1,n,seen,fine,h,j,h1,h2=>by
   unfold fg at h
   split at h
   ·rename_i h3
    rcases JJ n j with h4|h4
    ·exact iY p k (n+1) _ _ h j (by omega) (by omega)
    ·obtain rfl:n=j:=by omega
     exact .inl h3
   ·split at h
    ·cases h
    ·split at h
     ·cases h
     ·rename_i h5 _
      rcases JJ n j with h4|h4
      ·exact iY p k (n+1) _ _ h j (by omega) (by omega)
      ·obtain rfl:n=j:=by omega
       exact .inr (by omega)
theorem cQ(h:bg p=true){j:Nat}(hj:j<ac p)(hs:ak p j≠0):1≤ak p j∧ak p j≤1000∧aD p≤ay p j∧ay p j+ak p j≤1024:=by
 unfold bg at h
 rw [Ju] at h
 rcases iY p _ _ _ _ h.2 j (Jw _) (by omega)with h1|h1
 ·exact absurd h1.2 hs
 ·exact h1
theorem dv(hp:p.length=1024){j:Nat}(h:ay p j+ak p j≤1024):(aV p j).length=ak p j:=by
 unfold aV
 rw [JK,JN]
 omega
theorem zH{l f q:Nat}(hp:p.length=1024)(hr:bg p=true){f2 nt2:Nat}{T2:Tr SV}{ps:Array Tmp}{ca cb:Code}{dr:Nat}(hps:ps.size=2)(I:Nat→au→Nat→Prop)(J:au→Nat→Prop)
 (hI: ∀ j H nx,I j H nx→H.at' l=some (.loop .ready none f2 nt2 T2 ps ca cb dr)∧H.at' f=some (ar 4 [.sc (.bool true)])∧H.at' q=some (pgO p)∧l<nx∧f<nx∧q<nx)
 (hgrow: ∀ j H nx H' nx',I j H nx→nx≤nx'→(∀ m,m<nx→H'.at' m=H.at' m)→I j H' nx')
 (hskip: ∀ j H nx,I j H nx→ak p j=0→I (j+1) H nx)
 (hround: ∀ j H1 n1 r,I j H1 n1→nx≤r→r<n1→j<ac p→ak p j≠0→H1.at' r=some (u8R false (byV (aV p j))) →
   Wp Tryz.prog (some l) ⟨f2,nt2,(ps.toList.zip [.sc (.int .i64 (j:Int)),.slu r 0 (aV p j).length]).foldl (fun T x=>mC nt2 T (some x.1) x.2) T2,[.code ca,.beginRound,.code cb],[],H1,n1⟩ (fun x=>(x.1 = .sc (.bool true)∧I (j+1) x.2.1 x.2.2∧n1≤x.2.2∧x.2.1.at' nx=H1.at' nx)∨(x.1 = .sc (.bool false)∧J x.2.1 x.2.2)))
 (h0:I 0 H nx):Fnc Tryz.prog 79 [.yld l,.ptr f 0,.ptr q 0] H nx (fun r=>I (ac p) r.2.1 r.2.2∨J r.2.1 r.2.2):=by
 have hf:=fG hp hr
 obtain⟨_,hp1,hp2⟩:=hf
 have hJ0:Nat.beq ps.size 2=true:=by rw [hps];rfl
 refine Ka Tryz.func79 rfl rfl ?_
 obtain⟨i1,i2,i3,i4,i5,i6⟩:=hI _ _ _ h0
 have hg1:I 0 (H.set nx (BM q)) (nx+1):=hgrow _ _ _ _ _ h0 (JE _) fun m hm=>aa _ _ (by omega)
 have hq1: ∀ {vo:VO},(H.set nx vo).at' q=some (pgO p):=fun {vo}=>(aa _ _ (by omega)).trans i3
 repeat first|apply ai;rfl|apply aG;rfl;assumption;rfl|apply bY;rfl;kernel_rfl;exact mf|apply bY;rfl;kernel_rfl;exact iX hq1 hp
 refine bC (α:=Nat) (fun j=> [(0,.yld l),(2,.ptr q 0),(4,Er nx),(11,.sc (.int .i64 (ac p:Int))),(12,.sc (.int .i64 (j:Int)))])
  (fun j H1 n1=>j≤ac p∧I j H1 n1∧nx+1≤n1∧H1.at' nx=some (BM q)) (fun j=>ac p-j) 0
  ⟨Jw _,hg1,Jv _,aj _ _ _⟩ (Kg (Kj rfl)) ?_
 clear hg1 h0 hq1 i1 i2 i3
 rintro j H1 n1 ⟨h1,h2,h3,h4⟩ ih
 obtain⟨k1,k2,k3,k4,k5,k6⟩:=hI _ _ _ h2
 repeat apply ai;rfl
 refine bn rfl rfl rfl rfl (fun h5=>?_) (fun h5=>?_)
 ·repeat apply ai;rfl
  refine jy rfl rfl rfl rfl (by kernel_rfl) (J9 (oc h4 k3 hp (n:=j) (by omega)) ?_)
  rintro _ rfl
  dsimp only
  repeat apply ai;rfl
  refine cF rfl rfl rfl rfl (fun e1=>?_) (fun e1=>?_)
  ·repeat first|apply ai;rfl|apply aL;rfl;omega;omega
   exact ih _ _ _ (j+1) ⟨by omega,hskip _ _ _ h2 (by omega),h3,h4⟩ (by omega) (Kg (Kj rfl))
  ·have hs:=cQ hr (j:=j) (by omega) (by omega)
   have hil:=dv hp hs.2.2.2
   have hbl:=bK (aV p j)
   repeat first|apply ai;rfl|apply aL;rfl;omega;omega|apply kV (lw:=ay p j) (hg:=ay p j+ak p j);rfl;rfl;rfl;exact(F.un _ rfl);exact(F.sz _ rfl);rfl;rfl;(focus(omega));(focus(omega));(focus(omega));exact(show ay p j+ak p j-ay p j=ak p j by omega);rfl;exact(JI _)|refine cd (fi rfl rfl Tryz.underlying139 rfl) rfl rfl rfl ?_|apply bM;rfl;rfl;exact(F.un _ rfl);exact(F.sz _ rfl);rfl;exact(F.ze _ rfl);rfl;rfl;rfl;rfl;rfl
   refine aI rfl rfl rfl (by kernel_rfl) (J9 (sR (bs:= [byV (aV p j)]) (ls:= [_]) (aj _ _ _) (LsIs.cons (nd ((aa _ _ (by omega)).trans k3) (by omega)) (LsIs.nil _)) (by show(byV (aV p j) ++ []).length≤_;rw [JU];omega) (Jh rfl)) ?_)
   rintro _ rfl
   dsimp only
   have hfl: [byV (aV p j)].flatten=byV (aV p j):=JU _
   rw [hfl,bK]
   have hg:I j ((H1.set n1 (bsR false [.sl q (ay p j) (ak p j) (1024-ay p j)])).set (n1+1) (u8R false (byV (aV p j)))) (n1+1+1):=hgrow _ _ _ _ _ h2 (by omega) fun m hm=>(aa _ _ (by omega)).trans (aa _ _ (by omega))
   have hl2:=(hI _ _ _ hg).1
   refine xV (n:=l) rfl rfl rfl rfl hl2 hJ0 ?_
   refine Wp.mono (hround j _ _ (n1+1) hg (by omega) (by omega) (by omega) (by omega) (aj _ _ _)) ?_
   rintro⟨v,H2,n2⟩ (⟨rfl,g2,g3,g4⟩|⟨rfl,g2⟩)
   ·dsimp only at g2 g3 g4 ⊢
    repeat first|apply ai;rfl|apply aL;rfl;omega;omega
    exact ih _ _ _ (j+1) ⟨by omega,g2,by omega,g4.trans ((aa _ _ (by omega)).trans ((aa _ _ (by omega)).trans h4))⟩ (by omega) (Kg (Kj rfl))
   ·dsimp only at g2 ⊢
    repeat apply ai;rfl
    (apply bP Tryz.func79 Tryz.results79;rfl)
    exact .inr g2
 ·obtain rfl:j=ac p:=by omega
  repeat apply ai;rfl
  (apply Cr Tryz.func79 Tryz.results79;rfl)
  exact .inl h2
abbrev fw(s:List SV):VO:=ar 38 s
abbrev eF(k w:SV)(x y:Nat):List SV:= [k,w,.sc (.int .u64 (x:Int)),.sc (.int .u64 (y:Int))]
def Bs(o:Option gf):Nat:=if o.isSome then 0 else 13
theorem BlkS.Da{k w:SV}(hk:BlkS H k r v.1)(hw:BlkS H w r v.2.1):VerIs H (oh k w v.2.2.1 v.2.2.2) v:=⟨k,w,rfl,hk.bs,hw.bs⟩
def VerAt(H:au)(s:SV)(r:Nat)(v:gf):Prop:= ∃ k w,s=oh k w v.2.2.1 v.2.2.2∧BlkS H k r v.1∧BlkS H w r v.2.1
theorem VerAt.is(h:VerAt H s r v):VerIs H s v:=by
 obtain⟨k,w,h1,h2,h3⟩:=h
 exact⟨k,w,h1,h2.bs,h3.bs⟩
theorem VerAt.frame(h:VerAt H s r v)(hf:H'.at' r=H.at' r):VerAt H' s r v:=by
 obtain⟨k,w,h1,h2,h3⟩:=h
 exact⟨k,w,h1,h2.frame hf,h3.frame hf⟩
theorem gm(H:au)(r:Nat):VerAt H (oh dC dC 0 0) r iV:=⟨dC,dC,rfl,.inl ⟨rfl,rfl⟩,.inl ⟨rfl,rfl⟩⟩
theorem RdSt.frame(h:RdSt H b r st)(hb:H'.at' b=H.at' b)(hr:H'.at' r=H.at' r):RdSt H' b r st:=by
 cases st with
 | none=>obtain⟨s,h⟩:=h;exact⟨s,hb.trans h⟩
 | some l=>obtain⟨o,C,h1,h2,h3⟩:=h;exact⟨o,C,hb.trans h1,h2,h3.frame hr⟩
theorem of_s(hs:BsIs H s (byV l))(hl:l.length≤140737488355328):Fnc Tryz.prog 40 [s] H nx (fun q=> ∃ s' r,q.1 = .tup [s',.sc (.int .i64 (Bs (ofV l):Int))]∧VerAt q.2.1 s' r ((ofV l).getD iV)∧nx≤r∧nx≤q.2.2∧ ∀ m,m<nx→q.2.1.at' m=H.at' m):=by
 refine Ka Tryz.func40 rfl rfl ?_
 refine aX fun hund=>?_
 have hs1: ∀ {vo:VO},BsIs (H.set nx vo) s (byV l):=fun {vo}=>hs.frame fun b x hb=>(aa _ _ (by have:=hund b x hb;omega)).trans hb
 repeat first|apply cx;rfl|refine dj rfl rfl (F.un _ rfl) rfl hs1 ?_;rw [bK]
 refine ey rfl rfl rfl rfl (fun h1=>?_) (fun h1=>?_)
 ·have hv:ofV l=none:=by unfold ofV;rw [JH (by omega)]
  repeat first|apply ai;rfl|apply aG;rfl;(focus((repeat(exact ae));done));rfl
  ((apply bm Tryz.func40 (congrArg Array.toList Tryz.results40));(focus(repeat(first|exact Kb|apply Kd rfl|apply Kc rfl (Ke (F.ag _ rfl) (by repeat(exact ae)) (aq _ 0 rfl rfl))))))
  rw [hv]
  exact⟨_,nx,rfl,gm _ _,Jv _,JE _,fun m hm=>(aa _ _ (by omega)).trans (aa _ _ (by omega))⟩
 ·have hv:ofV l=CS (jK l).2 (jK l).1:=by unfold ofV;rw [JG (by omega)]
  have hp:jK l=(((iq (eG (eG (some l) 8).2 8).2).1,(iq (iq (eG (eG (some l) 8).2 8).2).2).1,beN (eG (some l) 8).1,beN (eG (eG (some l) 8).2 8).1),(iq (iq (eG (eG (some l) 8).2 8).2).2).2):=rfl
  repeat apply ai;rfl
  refine aI rfl rfl rfl (by kernel_rfl) (J9 (G1 hs1 hl) ?_)
  rintro⟨_,H1,n1⟩ ⟨r,b,rfl,a1,a2,a3,a4,a5,a6,a7,a8⟩
  dsimp only at a1 a2 a6 a7 a8 ⊢
  have ares:H1.at' nx=some (fw (eF dC dC 0 0)):=(a8 nx (by omega)).trans (aj _ _ _)
  have aold: ∀ m,m<nx→H1.at' m=H.at' m:=fun m hm=>(a8 m (by omega)).trans (aa _ _ (by omega))
  clear a8
  repeat apply ai;rfl
  refine aI rfl rfl rfl (by kernel_rfl) (J9 (zo (l:=l) (n:=8) (r:=r) (by(repeat(refine ab (by omega) ?_));exact a1) (by(repeat(refine ab (by omega) ?_));exact a2) ((tv a2).frame (by(repeat(refine ab (by omega) ?_));rfl)) a3 (by decide) (by decide)) ?_)
  rintro _ ⟨H2,rfl,b1,b2⟩
  dsimp only
  have bbox:H2.at' n1=some (fw (eF dC dC 0 0)):=(b2 n1 (by omega)).trans (aj _ _ _)
  have bres:H2.at' nx=some (fw (eF dC dC 0 0)):=(b2 nx (by omega)).trans ((aa _ _ (by omega)).trans ares)
  have bold: ∀ m,m<nx→H2.at' m=H.at' m:=fun m hm=>(b2 m (by omega)).trans ((aa _ _ (by omega)).trans (aold m hm))
  clear b2 a1 a2 ares aold hs1
  repeat first|apply ai;rfl|apply aG;rfl;assumption;rfl
  refine aI rfl rfl rfl (by kernel_rfl) (J9 (Hl (n:=8) (b1.frame (aa _ _ (by omega)) (aa _ _ (by omega))) a3 (by decide) (by decide)) ?_)
  rintro _ ⟨H3,rfl,c1,c2⟩
  dsimp only
  have cbox:=(c2 n1 (by omega)).trans (aj _ _ _)
  have cres:H3.at' nx=some (fw (eF dC dC 0 0)):=(c2 nx (by omega)).trans ((aa _ _ (by omega)).trans bres)
  have cold: ∀ m,m<nx→H3.at' m=H.at' m:=fun m hm=>(c2 m (by omega)).trans ((aa _ _ (by omega)).trans (bold m hm))
  clear c2 b1 bbox bres bold
  repeat first|apply ai;rfl|apply aG;rfl;assumption;rfl
  refine aI rfl rfl rfl (by kernel_rfl) (J9 (An (c1.frame (aa _ _ (by omega)) (aa _ _ (by omega))) a3) ?_)
  rintro _ ⟨k,H4,rfl,d0,d1,d2⟩
  dsimp only
  have dbox:=(d2 n1 (by omega)).trans (aj _ _ _)
  have dres:H4.at' nx=some (fw (eF dC dC 0 0)):=(d2 nx (by omega)).trans ((aa _ _ (by omega)).trans cres)
  have dold: ∀ m,m<nx→H4.at' m=H.at' m:=fun m hm=>(d2 m (by omega)).trans ((aa _ _ (by omega)).trans (cold m hm))
  clear d2 c1 cbox cres cold
  have hk1:k.one=true:=by rcases d0 with ⟨rfl,_⟩|⟨o,C,rfl,_⟩ <;> rfl
  repeat first|apply ai;rfl|refine dX rfl rfl rfl (F.sz _ rfl) (by assumption) hk1 (by rfl) ?_
  refine aI rfl rfl rfl (by kernel_rfl) (J9 (An (d1.frame (aa _ _ (by omega)) (aa _ _ (by omega))) a3) ?_)
  rintro _ ⟨w,H5,rfl,e0,e1,e2⟩
  dsimp only
  have ebox:=(e2 n1 (by omega)).trans (aj _ _ _)
  have eres:H5.at' nx=some (fw (eF dC dC 0 0)):=(e2 nx (by omega)).trans ((aa _ _ (by omega)).trans dres)
  have eold: ∀ m,m<nx→H5.at' m=H.at' m:=fun m hm=>(e2 m (by omega)).trans ((aa _ _ (by omega)).trans (dold m hm))
  have d0':BlkS H5 k r _:=d0.frame ((e2 r a3).trans (aa _ _ (by omega)))
  clear e2 d1 d0 dbox dres dold
  have hw1:w.one=true:=by rcases e0 with ⟨rfl,_⟩|⟨o,C,rfl,_⟩ <;> rfl
  repeat first|apply ai;rfl|refine dX rfl rfl rfl (F.sz _ rfl) (by assumption) hw1 (by rfl) ?_
  refine aI rfl rfl rfl (by kernel_rfl) (J9 (end_s (e1.frame (aa _ _ (by omega)) (aa _ _ (by omega)))) ?_)
  rintro _ rfl
  dsimp only
  have fold: ∀ (vo:VO) m,m<nx→(H5.set n1 vo).at' m=H.at' m:=fun vo m hm=>(aa _ _ (by omega)).trans (eold m hm)
  rw [hv,hp]
  dsimp only
  generalize eG (some l) 8=p1 at *
  generalize eG p1.2 8=p2 at *
  generalize iq p2.2=p3 at *
  generalize iq p3.2=p4 at *
  have g1:BlkS (H5.set n1 (fw (eF k w (beN p1.1) (beN p2.1)))) k r p3.1:=d0'.frame (aa _ _ (by omega))
  have g2:BlkS (H5.set n1 (fw (eF k w (beN p1.1) (beN p2.1)))) w r p4.1:=e0.frame (aa _ _ (by omega))
  have g3:VerIs (H5.set n1 (fw (eF k w (beN p1.1) (beN p2.1)))) (oh k w (beN p1.1) (beN p2.1)) (p3.1,p4.1,beN p1.1,beN p2.1):=BlkS.Da (v:=(p3.1,p4.1,beN p1.1,beN p2.1)) g1 g2
  have fbox:(H5.set n1 (fw (eF k w (beN p1.1) (beN p2.1)))).at' n1=some (fw (eF k w (beN p1.1) (beN p2.1))):=aj _ _ _
  have fres:(H5.set n1 (fw (eF k w (beN p1.1) (beN p2.1)))).at' nx=some (fw (eF dC dC 0 0)):=(aa _ _ (by omega)).trans eres
  have fold2:=fold (fw (eF k w (beN p1.1) (beN p2.1)))
  refine cW (R:=fun H6 n6=>H6=H5.set n1 (fw (eF k w (beN p1.1) (beN p2.1)))∧n6=n1+1) ⟨rfl,rfl⟩ ?_
  rintro H6 n6 ⟨hH6,rfl⟩
  rw [← hH6] at g1 g2 g3 fbox fres fold2
  clear hH6 d0' e0 e1 ebox eres eold fold
  by_cases he:p4.2=some []
  ·rw [show endR p4.2=0 by rw [he];rfl,he]
   have hm:=D5 (nx:=n1+1) g3
   cases hmv:iT (p3.1,p4.1,beN p1.1,beN p2.1)with
   | true=>
     rw [hmv] at hm
     have hone:bp (eF k w (beN p1.1) (beN p2.1))=true:=by simp only [bp,hk1,hw1];rfl
     have hfin:CS (some []) (p3.1,p4.1,beN p1.1,beN p2.1)=some (p3.1,p4.1,beN p1.1,beN p2.1):=JH ⟨rfl,hmv⟩
     repeat first|apply ai;rfl|apply aG;rfl;assumption;rfl|apply dM;rfl;rfl|apply bY;rfl;kernel_rfl;exact hm|refine dW rfl rfl rfl (F.sz _ rfl) (by assumption) rfl (by exact Jh rfl) hone rfl ?_
     ((apply bm Tryz.func40 (congrArg Array.toList Tryz.results40));(focus(repeat(first|exact Kb|apply Kd rfl|apply Kc rfl (Ke (F.ag _ rfl) (by repeat(exact ae)) (aq _ 0 rfl rfl))))))
     rw [hfin]
     exact⟨_,r,rfl,⟨k,w,rfl,g1.frame (aa _ _ (by omega)),g2.frame (aa _ _ (by omega))⟩,by omega,by dsimp only;omega,fun m hm=>(aa _ _ (by omega)).trans (fold2 m hm)⟩
   | false=>
     rw [hmv] at hm
     have hfin:CS (some []) (p3.1,p4.1,beN p1.1,beN p2.1)=none:=JG fun h=>by rw [hmv] at h;cases h.2
     repeat first|apply ai;rfl|apply aG;rfl;assumption;rfl|apply dM;rfl;rfl|apply bY;rfl;kernel_rfl;exact hm
     ((apply bm Tryz.func40 (congrArg Array.toList Tryz.results40));(focus(repeat(first|exact Kb|apply Kd rfl|apply Kc rfl (Ke (F.ag _ rfl) (by repeat(exact ae)) (aq _ 0 rfl rfl))))))
     rw [hfin]
     exact⟨_,nx,rfl,gm _ _,Jv _,by dsimp only;omega,fun m hm=>(aa _ _ (by omega)).trans (fold2 m hm)⟩
  ·rw [ux he,show endR p4.2=4 by rcases hq:p4.2 with _|⟨_|⟨c,l'⟩⟩;rfl;exact absurd hq he;rfl]
   repeat first|apply ai;rfl|apply aG;rfl;assumption;rfl|apply iv;rfl;decide
   ((apply bm Tryz.func40 (congrArg Array.toList Tryz.results40));(focus(repeat(first|exact Kb|apply Kd rfl|apply Kc rfl (Ke (F.ag _ rfl) (by repeat(exact ae)) (aq _ 0 rfl rfl))))))
   exact⟨_,nx,rfl,gm _ _,Jv _,by dsimp only;omega,fun m hm=>(aa _ _ (by omega)).trans (fold2 m hm)⟩
end
end Go.Proofs.YtnhmbonmlfeifaaGreat
end
section
namespace Go.Sy
open Go Go.Sl Go.RowKit
def nG(k:IntKind)(l:List Int):List Value:=l.map fun n=> .int k n
theorem rZ{P:Program}{t:TypeId}{k:IntKind}{l:List Int}{i:Nat}(hu:P.underlying t=some (.int k))(hi:i<l.length)(w:World):(part t (nG k l).toArray (i*1)).run P w = .ok (.int k l[i]) w:=by
 have hv:(nG k l).toArray[i]? =some (.int k l[i]):=by
  simp [nG,Jf hi]
 rw [Nat.mul_one]
 generalize (nG k l).toArray=cs at hv
 simp [part,isAgg,run_underlying hu,hv]
theorem jE{P:Program}{e:TypeId}{k:IntKind}(hu:P.underlying e=some (.int k))(d:Nat)(xs ys:List Int)(w:World): ∀ is:List Nat,(∀ i∈is,i<xs.length∧i<ys.length)→(Op.eqItems (d+1) e 1 (nG k xs).toArray (nG k ys).toArray is).run P w = .ok (is.all fun i=>xs[i]? == ys[i]?) w
 | [],_=>by simp [Op.eqItems]
 | i :: is,h=>by
   obtain⟨h1,h2⟩:=h i JO
   simp only [Op.eqItems,Sem.run_bind,rZ hu h1,rZ hu h2,run_equalIn_int w d e k k _ _ hu,Result.andThen_ok]
   have ih:=jE hu d xs ys w is fun j hj=>h j (JP _ hj)
   rw [List.all_cons,Jf h1,Jf h2]
   by_cases he:xs[i]=ys[i]
   ·simp [he,ih]
   ·simp [he]
theorem tB{xs ys:List Int}{n:Nat}(hx:xs.length=n)(hy:ys.length=n):((List.range n).all fun i=>xs[i]? == ys[i]?)=decide (xs=ys):=by
 by_cases h:xs=ys
 ·subst h
  simp
 ·rw [J0 h]
  cases h':(List.range n).all fun i=>xs[i]? == ys[i]? with
  | false=>rfl
  | true=>
    refine absurd (J1 fun i=>?_) h
    rw [List.all_eq_true] at h'
    rcases JJ i n with hi|hi
    ·simpa using h' i (J2.2 hi)
    ·rw [J4 (by omega),J4 (by omega)]
theorem yx{P:Program}{t e:TypeId}{n:Nat}{k:IntKind}{i:TypeInfo}(hu:P.underlying t=some (.array n e))(hi:P.info? e=some i)(hc:P.cellsOf e=1)(he:P.underlying e=some (.int k)){xs ys:List Int}(hx:xs.length=n)(hy:ys.length=n)(w:World) :
 (Op.equalIn 10000 t (.agg (nG k xs).toArray) (.agg (nG k ys).toArray)).run P w = .ok (decide (xs=ys)) w:=by
 rw [show(10000:Nat)=9998+1+1 from rfl,run_equalIn_array w (9998+1) _ _ hu hi,hc,jE he 9998 xs ys w _ (fun i hi=>by rw [hx,hy];exact⟨J2.1 hi,J2.1 hi⟩),tB hx hy]
section
variable {P:Program} {H:au} {T:Tr SV} {nx:Nat}
variable {d:Option Tmp} {ty:TypeId} {pos:String} {af:Array Edge} {gd:Option (Nat×Bool)}
theorem qc{e:Env}{l:List Value}{v:Value}(h:(SV.agg (l.map .sc)).conc e=some v):v = .agg l.toArray:=by
 have hl: ∀ l:List Value,SV.aJ e (l.map .sc)=some l:=fun l=>by
  induction l with
  | nil=>rfl
  | cons x l ih=>exact bZ rfl ih
 simp only [SV.conc,hl,JB,Jc] at h
 exact h.symm
theorem yR{t e:TypeId}{n:Nat}{k:IntKind}{i:TypeInfo}(hu:P.underlying t=some (.array n e))(hi:P.info? e=some i)(hc:P.cellsOf e=1)(he:P.underlying e=some (.int k))(hg:P.eqGuardType P.depth t=false){x y:Operand}{yt:TypeId}{xs ys:List Int}(hlx:xs.length=n)(hly:ys.length=n)(hx:an T x=some (.agg ((nG k xs).map .sc)))(hy:an T y=some (.agg ((nG k ys).map .sc))) :
 ReadDoes P T H ⟨d,.binOp .eql t x y yt,ty,pos,af,gd⟩ (.sc (.bool (decide (xs=ys)))):=by
 intro K w0 ev nx w en hS hE
 refine⟨_,rfl,?_⟩
 have e1:=qc (hE x _ hx)
 have e2:=qc (hE y _ hy)
 simp [execOp,e1,e2,run_eqGuard_agg (P:=P) w .eql t x y _ _ hg,run_eql_struct,yx hu hi hc he hlx hly]
end
end Go.Sy
end
section
namespace Go.Proofs.YtnhmbonmlfeifaaGreat
open Go Go.Sy Go.Sl Go.RowKit
section
variable {H:au}{n nx:Nat}{mem p:List UInt8}
def cv(p:List UInt8):Nat:=if bg p=true then du p else 0
theorem wG(hp:p.length=1024):Fnc Tryz.prog 29 [.agg (pgS p)] H nx (fun q=>q=(.sc (.int .i64 (cv p:Int)),H,nx)):=by
 refine Fnc.bv (Free.sc _) ?_
 refine Ka Tryz.func29 rfl rfl ?_
 have hb1:(H.set nx (pgO p)).at' nx=some (pgO p):=aj _ _ _
 have hrs:=fun nx'=>gz (nx:=nx') hb1 hp
 cases hr:bg p with
 | false=>
   rw [hr] at hrs
   have hv:cv p=0:=by unfold cv;rw [JG (by rw [hr];decide)]
   repeat first|apply ai;rfl|apply bY;rfl;kernel_rfl;exact hrs _
   (apply bP Tryz.func29 Tryz.results29;rfl)
   exact⟨by rw [hv];rfl,JE _,fun m hm=>aa _ _ (by omega)⟩
 | true=>
   rw [hr] at hrs
   have hv:cv p=du p:=by unfold cv;rw [JH hr]
   have hf:=fG hp hr
   repeat first|apply ai;rfl|apply bY;rfl;kernel_rfl;exact hrs _|apply bY;rfl;kernel_rfl;exact CA hb1 hf
   (apply bP Tryz.func29 Tryz.results29;rfl)
   exact⟨by rw [hv];rfl,JE _,fun m hm=>aa _ _ (by omega)⟩
theorem yZ(a:List UInt8):pgS a=(nG .u8 (a.map fun c=>(c.toNat:Int))).map .sc:=by simp [nG]
theorem toNat_inj{a b:List UInt8}(h:a.map (fun c=>(c.toNat:Int))=b.map (fun c=>(c.toNat:Int))):a=b:=by
 refine List.map_inj_right (f:=fun c:UInt8=>(c.toNat:Int)) (fun x y hxy=>?_) |>.1 h
 have hxy:(x.toNat:Int)=(y.toNat:Int):=hxy
 have:x.toNat=y.toNat:=by omega
 exact UInt8.toNat_inj.1 this
theorem qD{T:Tr SV}{d:Option Tmp}{ty:TypeId}{pos:String}{af:Array Edge}{gd:Option (Nat×Bool)}{x y:Operand}{yt:TypeId}{a b:List UInt8}(ha:a.length=1024)(hb:b.length=1024)(hx:an T x=some (.agg (pgS a)))(hy:an T y=some (.agg (pgS b))) :
 ReadDoes Tryz.prog T H ⟨d,.binOp .eql 27 x y yt,ty,pos,af,gd⟩ (.sc (.bool (decide (a=b)))):=by
 have h:=yR (P:=Tryz.prog) (H:=H) (T:=T) (d:=d) (ty:=ty) (pos:=pos) (af:=af) (gd:=gd) (t:=27) (e:=5) (n:=1024) (k:= .u8) (x:=x) (y:=y) (yt:=yt) (xs:=a.map fun c=>(c.toNat:Int)) (ys:=b.map fun c=>(c.toNat:Int)) (F.un _ rfl) (by rfl) (by kernel_rfl) (F.un _ rfl) (by kernel_rfl) (by rw [JL];exact ha) (by rw [JL];exact hb) (hx.trans (by rw [yZ])) (hy.trans (by rw [yZ]))
 rwa [show decide (a.map (fun c=>(c.toNat:Int))=b.map (fun c=>(c.toNat:Int)))=decide (a=b)from decide_eq_decide.2 ⟨toNat_inj,fun h=>by rw [h]⟩] at h
def bareP(p:List UInt8):List UInt8:=List.replicate 12 0 ++ p.drop 12
theorem dT(hp:p.length=1024):(bareP p).length=1024:=by
 unfold bareP
 rw [Jz,JT,JN,hp]
def ia(p:List UInt8):Bool:=decide (bareP p=zeroP)
abbrev z12:List SV:=(byV (List.replicate 12 0)).map .sc
theorem uQ(hp:p.length=1024):Fnc Tryz.prog 85 [.agg (pgS p)] H nx (fun q=>q=(.sc (.bool (ia p)),H,nx)):=by
 refine Fnc.bv (Free.sc _) ?_
 refine Ka Tryz.func85 rfl rfl ?_
 repeat first|apply ai;rfl|apply kV (lw:=0) (hg:=12);rfl;rfl;rfl;exact(F.un _ rfl);exact(F.sz _ rfl);rfl;rfl;(focus(omega));(focus(omega));(focus(omega));rfl;rfl;rfl
 refine AL (n:=11) z12 rfl rfl (F.un _ rfl) (F.ze _ rfl) (aj _ _ _) (by kernel_rfl) (by kernel_rfl) (by rw [be hp];exact Jh rfl) ?_
 have hc:(pgS p).take 0 ++ z12 ++ (pgS p).drop (0+z12.length)=pgS (bareP p):=by
  unfold bareP
  simp [List.map_drop]
 rw [hc]
 have hl:=dT hp
 repeat first|apply bu hl;rfl;(focus((repeat(exact ae));done))|apply ai;rfl|refine cd (db iy) rfl rfl rfl ?_|refine cd (qD hl ah rfl rfl) rfl rfl rfl ?_
 (apply bP Tryz.func85 Tryz.results85;rfl)
 exact⟨rfl,JE _,fun m hm=>(aa _ _ (by omega)).trans (aa _ _ (by omega))⟩
abbrev sr(mem:List UInt8)(left puts:Int):List SV:=(byV mem).map .sc ++ [.sc (.int .i64 left),.sc (.int .i64 puts)]
abbrev cT(mem:List UInt8)(left puts:Int):VO:=ar 30 (sr mem left puts)
def az(mem:List UInt8)(n:Nat):List UInt8:=(mem.drop (1024*n)).take 1024
theorem dO(hm:mem.length=131072)(hn:n<128):(az mem n).length=1024:=by
 unfold az
 rw [JK,JN]
 omega
theorem yY(hm:mem.length=131072)(hn:n<128)(left puts:Int):(cT mem left puts).cellsFrom (0+n*1024) 1024=some (pgS (az mem n)):=by
 refine aq _ _ ?_ (by rw [be (dO hm hn)])
 have hl:((byV mem).map SV.sc).length=131072:=by simpa using hm
 rw [List.drop_append_of_le_length (by omega),List.take_append_of_le_length (by rw [JN];omega)]
 unfold az
 rw [JI,Nat.mul_comm]
 simp [List.map_take,List.map_drop]
theorem Hb{b:Nat}{left puts:Int}(hb:H.at' b=some (cT mem left puts))(hm:mem.length=131072)(hn:n<128):Fnc Tryz.prog 140 [.ptr b 0,.sc (.int .i64 (n:Int))] H nx (fun q=>q=(pgE (az mem n,0),H,nx)):=by
 refine Fnc.bv (gU _) ?_
 refine Ka Tryz.func140 rfl rfl ?_
 refine aX fun hund=>?_
 have hlt:=hund _ _ hb
 have hl:=dO hm hn
 repeat first|refine a9 rfl rfl ci ?_|apply ai;rfl|apply lx;rfl;omega|apply gr (q:=n);rfl;rfl;rfl;rfl;exact(F.un _ rfl);exact(F.sz _ rfl);(focus(omega));(focus(omega))
 refine eU rfl rfl rfl (F.ag _ rfl) (by repeat(first|assumption|refine ab (by omega) ?_)) (yY hm hn _ _) ?_
 repeat first|apply bA hl ah;rfl;(focus((repeat(exact ae));done))|apply ai;rfl
 ((apply bm Tryz.func140 (congrArg Array.toList Tryz.results140));(focus((apply Kc rfl (Ke (F.ag _ rfl) (by repeat(exact ae)) (bk hl)));(repeat(first|exact Kb|apply Kd rfl)))))
 exact⟨rfl,JE _,fun m hm=>(aa _ _ (by omega)).trans (aa _ _ (by omega))⟩
end
structure Okp (p:List UInt8):Prop where
 len:p.length=1024
 head:18+4*ac p≤aD p
 top:aD p≤1024
 last:0<ac p→ak p (ac p-1)≠0
 slot: ∀ j,j<ac p→(ay p j=0∧ak p j=0)∨(1≤ak p j∧ak p j≤1000∧aD p≤ay p j∧ay p j+ak p j≤1024)
 apart: ∀ i j,i<j→j<ac p→ak p i≠0→ak p j≠0→ay p i+ak p i≤ay p j∨ay p j+ak p j≤ay p i
section
variable {a i n o s:Nat}{p:List UInt8}
theorem iN{seen:List (Nat×Nat)}:cH seen i=true↔ ∃ x∈seen,x.1≤i∧i<x.1+x.2:=by
 simp [cH,List.any_eq_true]
theorem sO{seen:List (Nat×Nat)}(h0:1≤s)(hs: ∀ x∈seen,1≤x.2):uq seen a s=true↔ ∃ x∈seen,x.1<a+s∧a<x.1+x.2:=by
 constructor
 ·intro h
  obtain⟨j,hj,hc⟩:=List.any_eq_true.1 h
  obtain⟨x,hx,h1⟩:=iN.1 hc
  have:=J2.1 hj
  exact⟨x,hx,by omega,by omega⟩
 ·rintro⟨x,hx,h1,h2⟩
  have:=hs x hx
  rcases JJ a x.1 with h3|h3
  ·exact l6 (i:=x.1) (by omega) (by omega) (iN.2 ⟨x,hx,by omega,by omega⟩)
  ·exact l6 (i:=a) (by omega) (by omega) (iN.2 ⟨x,hx,by omega,by omega⟩)
def iA(p:List UInt8):Nat→List (Nat×Nat)
 | 0=> []
 | n+1=>if ak p n=0 then iA p n else(ay p n,ak p n) :: iA p n
theorem gG{p:List UInt8}{x:Nat×Nat}: ∀ {n:Nat},x∈iA p n↔ ∃ i,i<n∧ak p i≠0∧x=(ay p i,ak p i)
 | 0=>by simp [iA]
 | n+1=>by
   unfold iA
   split
   ·rename_i h
    rw [gG]
    constructor
    ·rintro⟨i,h1,h2⟩
     exact⟨i,by omega,h2⟩
    ·rintro⟨i,h1,h2,h3⟩
     rcases JJ i n with h4|h4
     ·exact⟨i,h4,h2,h3⟩
     ·obtain rfl:i=n:=by omega
      exact absurd h h2
   ·rename_i h
    rw [JV,gG]
    constructor
    ·rintro(h1|⟨i,h1,h2⟩)
     ·exact⟨n,by omega,h,h1⟩
     ·exact⟨i,by omega,h2⟩
    ·rintro⟨i,h1,h2,h3⟩
     rcases JJ i n with h4|h4
     ·exact .inr ⟨i,h4,h2,h3⟩
     ·obtain rfl:i=n:=by omega
      exact .inl h3
def kY(p:List UInt8)(j:Nat):Prop:=(ay p j=0∧ak p j=0)∨((1≤ak p j∧ak p j≤1000∧aD p≤ay p j∧ay p j+ak p j≤1024)∧ ∀ i,i<j→ak p i≠0→ay p i+ak p i≤ay p j∨ay p j+ak p j≤ay p i)
theorem lz(p:List UInt8): ∀ (k n:Nat) (fine:Bool),fg p k n (iA p n) fine=true↔((∀ j,n≤j→j<n+k→kY p j)∧(if k=0 then fine=true else ak p (n+k-1)≠0∨n+k<ac p))
 | 0,n,fine=>by
   rw [JH rfl]
   exact⟨fun h=>⟨fun j h1 h2=>absurd h1 (by omega),h⟩,fun h=>h.2⟩
 | k+1,n,fine=>by
   rw [JG (Nat.succ_ne_zero k)]
   have hsz: ∀ x∈iA p n,1≤x.2:=fun x hx=>by
    obtain⟨i,_,h2,rfl⟩:=gG.1 hx
    exact Nat.pos_of_ne_zero h2
   have hall: ∀ {A:Prop},(kY p n)→(((∀ j,n≤j→j<n+(k+1)→kY p j)∧A)↔((∀ j,n+1≤j→j<n+1+k→kY p j)∧A)):=fun h=>
    ⟨fun g=>⟨fun j h1 h2=>g.1 j (by omega) (by omega),g.2⟩,fun g=>⟨fun j h1 h2=>by
      rcases JJ n j with h3|h3
      ·exact g.1 j (by omega) (by omega)
      ·obtain rfl:n=j:=by omega
       exact h,g.2⟩⟩
   have hend: ∀ {b:Bool},(b=true↔ak p n≠0∨n+1<ac p)→((if k=0 then b=true else ak p (n+1+k-1)≠0∨n+1+k<ac p)↔(ak p (n+(k+1)-1)≠0∨n+(k+1)<ac p)):=fun {b} hb=>by
    by_cases hk:k=0
    ·subst hk
     rw [JH rfl]
     exact hb
    ·rw [JG hk,show n+1+k=n+(k+1) by omega]
   unfold fg
   split
   ·rename_i h
    have hs:iA p (n+1)=iA p n:=by show(if ak p n=0 then _ else _)=_;rw [JH h.2]
    rw [← hs,lz p k (n+1),hall (.inl h),hend]
    rw [J7]
    constructor
    ·exact .inr
    ·rintro(h1|h1)
     ·exact absurd h.2 h1
     ·exact h1
   ·rename_i h
    split
    ·rename_i h1
     constructor
     ·intro h2;cases h2
     ·rintro⟨h2,_⟩
      rcases h2 n (Jv _) (by omega)with h3|⟨h3,_⟩
      ·exact absurd h3 h
      ·omega
    ·rename_i h1
     split
     ·rename_i h2
      constructor
      ·intro h2;cases h2
      ·rintro⟨h3,_⟩
       obtain⟨x,hx,h4⟩:=(sO (by omega) hsz).1 h2
       obtain⟨i,h5,h6,rfl⟩:=gG.1 hx
       rcases h3 n (Jv _) (by omega)with h7|⟨_,h7⟩
       ·exact absurd h7 h
       ·have:=h7 i h5 h6
        dsimp only at h4
        omega
     ·rename_i h2
      have hs:iA p (n+1)=(ay p n,ak p n) :: iA p n:=by show(if ak p n=0 then _ else _)=_;rw [JG (by omega)]
      rw [← hs,lz p k (n+1),hall (.inr ⟨by omega,fun i hi hz=>?_⟩),hend]
      ·exact⟨fun _=> .inl (by omega),fun _=>rfl⟩
      ·rcases JJ (ay p n) (ay p i+ak p i)with h3|h3
       ·rcases JJ (ay p i) (ay p n+ak p n)with h4|h4
        ·exact absurd ((sO (by omega) hsz).2 ⟨_,gG.2 ⟨i,hi,hz,rfl⟩,h4,h3⟩) h2
        ·exact .inr h4
       ·exact .inl h3
theorem bi(hp:p.length=1024):bg p=true↔Okp p:=by
 unfold bg
 have hg:=lz p (ac p) 0 true
 rw [show iA p 0= [] from rfl] at hg
 rw [Ju,J7,hg]
 constructor
 ·rintro⟨⟨h1,h2⟩,h3,h4⟩
  refine⟨hp,h1,h2,fun h=>?_,fun j hj=>?_,fun i j hi hj hzi hzj=>?_⟩
  ·rw [JG (by omega),JI] at h4
   rcases h4 with h4|h4
   ·exact h4
   ·exact absurd h4 (Nat.lt_irrefl _)
  ·rcases h3 j (Jw _) (by omega)with h5|h5
   ·exact .inl h5
   ·exact .inr h5.1
  ·rcases h3 j (Jw _) (by omega)with h5|h5
   ·exact absurd h5.2 hzj
   ·exact h5.2 i hi hzi
 ·intro h
  refine⟨⟨h.head,h.top⟩,fun j _ hj=>?_,?_⟩
  ·rcases h.slot j (by omega)with h5|h5
   ·exact .inl h5
   ·exact .inr ⟨h5,fun i hi hz=>h.apart i j hi (by omega) hz (by omega)⟩
  ·split
   ·rfl
   ·exact .inl (by rw [JI];exact h.last (by omega))
theorem A5(hp:p.length=1024):bg p=false↔ ¬ Okp p:=by
 rw [← bi hp]
 cases bg p <;> simp
theorem tg{P Q:Nat→Bool}: ∀ (l:List Nat),(∀ i∈l,P i=true→Q i=true→False)→l.countP (fun i=>P i || Q i)=l.countP P+l.countP Q
 | [],_=>rfl
 | a :: l,h=>by
   have ih:=tg l fun i hi=>h i (JP _ hi)
   have ha:=h a JO
   rw [List.countP_cons,List.countP_cons,List.countP_cons,ih]
   cases hP:P a <;> cases hQ:Q a
   ·simp
   ·simp;omega
   ·simp;omega
   ·exact absurd hQ (fun h2=>ha hP h2)
theorem mX(a s:Nat): ∀ n,(List.range n).countP (fun i=>decide (a≤i∧i<a+s))=min n (a+s)-min n a
 | 0=>by simp
 | n+1=>by
   rw [List.range_succ,List.countP_append,mX a s n,List.countP_cons,List.countP_nil]
   by_cases h:a≤n∧n<a+s
   ·rw [JH (by rw [JZ h])];omega
   ·rw [JG (by rw [J0 h];decide)];omega
def bE(p:List UInt8):Nat→Nat
 | 0=>0
 | n+1=>bE p n+ak p n
theorem Okp.count(h:Okp p): ∀ n,n≤ac p→(List.range 1024).countP (cH (iA p n))=bE p n
 | 0,_=>by
   show(List.range 1024).countP (cH [])=0
   rw [List.countP_eq_zero]
   intro a _
   simp [cH]
 | n+1,hn=>by
   have ih:=h.count n (by omega)
   by_cases hz:ak p n=0
   ·have hs:iA p (n+1)=iA p n:=by show(if ak p n=0 then _ else _)=_;rw [JH hz]
    rw [hs,ih]
    show _=bE p n+ak p n
    omega
   ·have hs:iA p (n+1)=(ay p n,ak p n) :: iA p n:=by show(if ak p n=0 then _ else _)=_;rw [JG hz]
    have hsl:=h.slot n (by omega)
    rw [hs,show cH ((ay p n,ak p n) :: iA p n)=fun i=>decide (ay p n≤i∧i<ay p n+ak p n) || cH (iA p n) i from funext fun i=>by simp only [cH,List.any_cons],
     tg,mX,ih]
    ·show _=bE p n+ak p n
     omega
    ·intro i _ h1 h2
     have h1:=JS h1
     obtain⟨x,hx,h3⟩:=iN.1 h2
     obtain⟨k,hk,hkz,rfl⟩:=gG.1 hx
     have:=h.apart k n hk (by omega) hkz hz
     dsimp only at h3
     omega
theorem Okp.sum_le(h:Okp p):aD p+bE p (ac p)≤1024:=by
 have h1:=h.count _ (Jv _)
 have h2:(List.range 1024).countP (cH (iA p (ac p)))≤(List.range 1024).countP (fun i=>decide (aD p≤i∧i<aD p+1024)):=by
  refine List.countP_mono_left fun i _ hi=>?_
  obtain⟨x,hx,h3⟩:=iN.1 hi
  obtain⟨k,hk,hkz,rfl⟩:=gG.1 hx
  have h4:=h.slot k hk
  dsimp only at h3
  exact JZ (by omega)
 rw [mX] at h2
 have:=h.top
 omega
theorem dx(p:List UInt8){m:Nat}: ∀ {n:Nat},m≤n→bE p m≤bE p n
 | 0,h=>by cases Nat.le_zero.1 h;exact Jv _
 | n+1,h=>by
   rcases JJ m (n+1)with h1|h1
   ·have:=dx p (show m≤n by omega)
    show _≤bE p n+ak p n
    omega
   ·obtain rfl:m=n+1:=by omega
    exact Jv _
theorem jf{q:List UInt8}{m:Nat}(h: ∀ i,o≤i→i<o+m→q[i]? =p[i]?):(q.drop o).take m=(p.drop o).take m:=by
 refine J1 fun j=>?_
 rw [List.getElem?_take,List.getElem?_take]
 split
 ·rw [List.getElem?_drop,List.getElem?_drop]
  exact h _ (by omega) (by omega)
 ·rfl
theorem vn{l:List UInt8}(h:o+l.length≤p.length):((bf p o l).drop o).take l.length=l:=by
 refine J1 fun j=>?_
 rw [List.getElem?_take]
 split
 ·rw [List.getElem?_drop,cG h,JH (by omega),show o+j-o=j by omega]
 ·rw [J4 (by omega)]
theorem mK{l:List UInt8}(h:o+l.length≤p.length)(hi:i<o∨o+l.length≤i):(bf p o l)[i]? =p[i]? :=by
 rw [cG h,JG (by omega)]
theorem fI(h:o+2≤p.length)(hi:i<o∨o+2≤i):(cm p o n)[i]? =p[i]? :=
 mK (by rw [bq];exact h) (by rw [bq];exact hi)
theorem jJ(h:18+4*n+4≤p.length)(hi:i<18+4*n∨18+4*n+4≤i):(bJ p n a s)[i]? =p[i]? :=by
 unfold bJ
 rw [fI (by rw [bD (by omega)];omega) (by omega),fI (by omega) (by omega)]
theorem cS(h:18+4*n+4≤p.length)(ho:o+2≤18+4*n∨18+4*n+4≤o):gL (bJ p n a s) o=gL p o:=
 jO fun i h1 h2=>jJ h (by omega)
theorem kE(h:18+4*n+4≤p.length)(ha:a<65536):ay (bJ p n a s) n=a:=by
 unfold bJ
 exact(cO (by rw [bD (by omega)];omega) (by omega)).trans (eQ (by omega) ha)
theorem mL(h:18+4*n+4≤p.length)(hs:s<65536):ak (bJ p n a s) n=s:=by
 unfold bJ
 exact eQ (by rw [bD (by omega)];omega) hs
theorem nr(p:List UInt8): ∀ k n,(∀ j,n≤j→j<dp p k n→ak p j≠0)∧(dp p k n<n+k→ak p (dp p k n)=0)∧n≤dp p k n∧dp p k n≤n+k
 | 0,n=>⟨fun j h1 h2=>absurd (show j<n from h2) (by omega),fun h=>absurd (show n<n+0 from h) (by omega),Jv _,Jv _⟩
 | k+1,n=>by
   unfold dp
   split
   ·rename_i h
    exact⟨fun j h1 h2=>absurd h1 (by omega),fun _=>h,Jv _,by omega⟩
   ·rename_i h
    have ih:=nr p k (n+1)
    refine⟨fun j h1 h2=>?_,fun h1=>ih.2.1 (by omega),by omega,by omega⟩
    rcases JJ n j with h3|h3
    ·exact ih.1 j (by omega) h2
    ·obtain rfl:j=n:=by omega
     exact h
theorem eV(p:List UInt8):(∀ j,j<aW p→ak p j≠0)∧(aW p<ac p→ak p (aW p)=0)∧aW p≤ac p:=by
 have:=nr p (ac p) 0
 unfold aW
 exact⟨fun j hj=>this.1 j (Jw _) hj,fun h=>this.2.1 (by omega),by omega⟩
abbrev iG(p:List UInt8):Nat:=if aW p=ac p then ac p+1 else ac p
theorem oJ(hp:p.length=1024):(fu p).length=1024:=by
 unfold fu
 split
 ·rw [bD (by omega),hp]
 ·exact hp
theorem jQ(hp:p.length=1024)(ho:o+2≤14∨16≤o):gL (fu p) o=gL p o:=by
 unfold fu
 split
 ·exact cO (by omega) (by omega)
 ·rfl
theorem zv(hp:p.length=1024)(hi:i<14∨16≤i):(fu p)[i]? =p[i]? :=by
 unfold fu
 split
 ·exact fI (by omega) (by omega)
 ·rfl
theorem um(hp:p.length=1024)(hs:ac p<1000):ac (fu p)=iG p:=by
 unfold fu iG
 split
 ·rename_i h
  rw [show ac (cm p 14 (aW p+1))=aW p+1 from eQ (by omega) (by omega),h]
 ·rfl
end
structure Laid (p it q:List UInt8):Prop where
 len:q.length=1024
 slots:ac q=iG p
 begins:aD q=aD p-it.length
 froms:ay q (aW p)=aD p-it.length
 sizes:ak q (aW p)=it.length
 from': ∀ j,j≠aW p→j<ac p→ay q j=ay p j
 size': ∀ j,j≠aW p→j<ac p→ak q j=ak p j
 item:(q.drop (aD p-it.length)).take it.length=it
 get: ∀ i,i<14∨aD p≤i→q[i]? =p[i]?
theorem laid{p it:List UInt8}(h:Okp p)(h2:it.length≤1000)(hroom:it.length≤du p)(h1:1≤it.length):Laid p it (mQ p it):=by
 have hp:=h.len
 have hh:=h.head
 have ht:=h.top
 have he:=(eV p).2.2
 have hmb:aD (fu p)=aD p:=jQ hp (by omega)
 have hms:=um hp (by omega)
 have hml:=oJ hp
 unfold du at hroom
 have ha:18+4*iG p+it.length≤aD p∧aW p<iG p:=by unfold iG;split at hroom <;> split <;> omega
 obtain⟨ha,hee⟩:=ha
 have hl2:(bJ (fu p) (aW p) (aD p-it.length) it.length).length=1024:=(fC (by omega)).trans hml
 have hl3:(cm (bJ (fu p) (aW p) (aD p-it.length) it.length) 16 (aD p-it.length)).length=1024:=(bD (by omega)).trans hl2
 have hl: ∀ o,o+2≤aD p-it.length→gL (mQ p it) o=gL (cm (bJ (fu p) (aW p) (aD p-it.length) it.length) 16 (aD p-it.length)) o:=fun o ho=>by
  unfold mQ
  rw [hmb]
  exact nU (by omega) (by omega)
 have ho: ∀ o,o+2≤aD p-it.length→(o+2≤16∨18≤o)→gL (mQ p it) o=gL (bJ (fu p) (aW p) (aD p-it.length) it.length) o:=fun o ho h3=>(hl o ho).trans (cO (by omega) (by omega))
 have hmany:ac p≤iG p:=by unfold iG;split <;> omega
 refine⟨?_,?_,?_,?_,?_,fun j h3 h4=>?_,fun j h3 h4=>?_,?_,fun i hi=>?_⟩
 ·unfold mQ
  rw [hmb,bN (by omega),hl3]
 ·exact(ho 14 (by omega) (by omega)).trans ((cS (by omega) (by omega)).trans hms)
 ·exact(hl 16 (by omega)).trans (eQ (by omega) (by omega))
 ·exact(ho _ (by omega) (by omega)).trans (kE (by omega) (by omega))
 ·exact(ho _ (by omega) (by omega)).trans (mL (by omega) (by omega))
 ·exact(ho _ (by omega) (by omega)).trans ((cS (by omega) (by omega)).trans (jQ hp (by omega)))
 ·exact(ho _ (by omega) (by omega)).trans ((cS (by omega) (by omega)).trans (jQ hp (by omega)))
 ·unfold mQ
  rw [hmb]
  exact vn (by omega)
 ·unfold mQ
  rw [hmb,mK (by omega) (by omega),fI (by omega) (by omega),jJ (by omega) (by omega),zv hp (by omega)]
theorem Laid.ok{p it q:List UInt8}(h:Okp p)(h2:it.length≤1000)(hroom:it.length≤du p)(h1:1≤it.length)(g:Laid p it q):Okp q:=by
 have hh:=h.head
 have ht:=h.top
 obtain⟨he1,he2,he3⟩:=eV p
 unfold du at hroom
 have ha:18+4*iG p+it.length≤aD p∧aW p<iG p:=by unfold iG;split at hroom <;> split <;> omega
 have hm: ∀ j,j<iG p→j=aW p∨j≠aW p∧j<ac p:=fun j hj=>by unfold iG at hj;split at hj <;> omega
 have gb:=g.begins
 have gs:=g.slots
 refine⟨g.len,by omega,by omega,fun hpos=>?_,fun j hj=>?_,fun i j hij hj hzi hzj=>?_⟩
 ·rw [gs]
  rcases hm (iG p-1) (by omega)with h3|⟨h3,h4⟩
  ·rw [h3,g.sizes];omega
  ·rw [g.size' _ h3 h4]
   have:iG p=ac p:=by
    by_cases hc:aW p=ac p
    ·unfold iG at h3 h4
     rw [JH hc] at h3 h4
     omega
    ·unfold iG
     rw [JG hc]
   rw [this]
   exact h.last (by omega)
 ·rcases hm j (by omega)with h3|⟨h3,h4⟩
  ·subst h3
   rw [g.froms,g.sizes,gb]
   omega
  ·rw [g.from' _ h3 h4,g.size' _ h3 h4,gb]
   have:=h.slot j h4
   omega
 ·rcases hm i (by omega)with h3|⟨h3,h4⟩
  ·subst h3
   rcases hm j (by omega)with h5|⟨h5,h6⟩
   ·omega
   ·rw [g.froms,g.sizes,g.from' _ h5 h6,g.size' _ h5 h6]
    rw [g.size' _ h5 h6] at hzj
    have:=h.slot j h6
    omega
  ·rw [g.size' _ h3 h4] at hzi
   rw [g.from' _ h3 h4,g.size' _ h3 h4]
   have h7:=h.slot i h4
   rcases hm j (by omega)with h5|⟨h5,h6⟩
   ·subst h5
    rw [g.froms,g.sizes]
    omega
   ·rw [g.size' _ h5 h6] at hzj
    rw [g.from' _ h5 h6,g.size' _ h5 h6]
    exact h.apart i j hij h6 hzi hzj
theorem Laid.items{p it q:List UInt8}(h:Okp p)(g:Laid p it q):aV q (aW p)=it∧ ∀ j,j≠aW p→j<ac p→ak p j≠0→aV q j=aV p j:=by
 refine⟨?_,fun j h3 h4 h5=>?_⟩
 ·unfold aV
  rw [g.froms,g.sizes,g.item]
 ·unfold aV
  rw [g.from' _ h3 h4,g.size' _ h3 h4]
  have:=h.slot j h4
  exact jf fun i h6 h7=>g.get i (by omega)
def ce(p:List UInt8):Nat→List UInt8
 | 0=>bf zeroP 0 (p.take (18+4*ac p))
 | n+1=>if ak p n=0 then ce p n else bJ (bf (ce p n) (1024-bE p (n+1)) (aV p n)) n (1024-bE p (n+1)) (ak p n)
def dL(p:List UInt8):List UInt8:=cm (ce p (ac p)) 16 (1024-bE p (ac p))
def gE(p:List UInt8):List UInt8×Nat:=if bg p=true then(dL p,0) else(zeroP,4)
structure PackN (p:List UInt8) (n:Nat) (q:List UInt8):Prop where
 len:q.length=1024
 low: ∀ i,i<18→q[i]? =p[i]?
 from': ∀ j,j<n→ak p j≠0→ay q j=1024-bE p (j+1)
 size': ∀ j,j<n→ak p j≠0→ak q j=ak p j
 fromE: ∀ j,j<ac p→n≤j∨ak p j=0→ay q j=ay p j
 sizeE: ∀ j,j<ac p→n≤j∨ak p j=0→ak q j=ak p j
 item: ∀ j,j<n→ak p j≠0→(q.drop (1024-bE p (j+1))).take (ak p j)=aV p j
 zero: ∀ i,18+4*ac p≤i→i<1024-bE p n→q[i]? =some 0
theorem sw{p:List UInt8}(h:Okp p): ∀ n,n≤ac p→PackN p n (ce p n)
 | 0,_=>by
   have hp:=h.len
   have hh:=h.head
   have ht:=h.top
   have hl:(p.take (18+4*ac p)).length=18+4*ac p:=by rw [JK];omega
   have hz:=ah
   have hg: ∀ i,i<18+4*ac p→(ce p 0)[i]? =p[i]? :=fun i hi=>by
    show(bf zeroP 0 _)[i]? =_
    rw [cG (by omega),JH (by omega),Nat.sub_zero,List.getElem?_take,JH hi]
   refine⟨(bN (by omega)).trans hz,fun i hi=>hg i (by omega),fun j hj=>absurd hj (Nat.not_lt_zero _),fun j hj=>absurd hj (Nat.not_lt_zero _),fun j hj _=>jO fun i h1 h2=>hg i (by omega),fun j hj _=>jO fun i h1 h2=>hg i (by omega),fun j hj=>absurd hj (Nat.not_lt_zero _),fun i h1 h2=>?_⟩
   show(bf zeroP 0 _)[i]? =_
   rw [mK (by omega) (by omega)]
   have h2:i<1024:=by have:bE p 0=0:=rfl;omega
   unfold zeroP
   rw [List.getElem?_replicate,JH h2]
 | n+1,hn=>by
   have ih:=sw h n (by omega)
   have hh:=h.head
   have ht:=h.top
   have hs1:=h.sum_le
   have hs2:=dx p (show n+1≤ac p from hn)
   have hs3:bE p (n+1)=bE p n+ak p n:=rfl
   by_cases hz:ak p n=0
   ·have hq:ce p (n+1)=ce p n:=by show(if _ then _ else _)=_;rw [JH hz]
    rw [hq]
    have hlt: ∀ {j},j<n+1→ak p j≠0→j<n:=fun {j} h1 h2=>by
     rcases JJ j n with h3|h3
     ·exact h3
     ·obtain rfl:j=n:=by omega
      exact absurd hz h2
    refine⟨ih.len,ih.low,fun j h1 h2=>ih.from' j (hlt h1 h2) h2,fun j h1 h2=>ih.size' j (hlt h1 h2) h2,fun j h1 h2=>ih.fromE j h1 (by omega),fun j h1 h2=>ih.sizeE j h1 (by omega),fun j h1 h2=>ih.item j (hlt h1 h2) h2,fun i h1 h2=>ih.zero i h1 (by omega)⟩
   ·have hsl:=h.slot n (by omega)
    have hil:=dv h.len (p:=p) (j:=n) (by omega)
    have hq:ce p (n+1)=bJ (bf (ce p n) (1024-bE p (n+1)) (aV p n)) n (1024-bE p (n+1)) (ak p n):=by show(if _ then _ else _)=_;rw [JG hz]
    have hql:=ih.len
    have hl1:(bf (ce p n) (1024-bE p (n+1)) (aV p n)).length=1024:=(bN (by omega)).trans hql
    have hno: ∀ o,o+2≤18+4*ac p→o+2≤18+4*n∨18+4*n+4≤o→gL (ce p (n+1)) o=gL (ce p n) o:=fun o h1 h2=>by
     rw [hq]
     exact(cS (by omega) h2).trans (nU (by omega) (by omega))
    have hge: ∀ i,(i<18+4*n∨18+4*n+4≤i)→(i<1024-bE p (n+1)∨1024-bE p n≤i)→(ce p (n+1))[i]? =(ce p n)[i]? :=fun i h1 h2=>by
     rw [hq,jJ (by omega) h1,mK (by omega) (by omega)]
    have hfr:ay (ce p (n+1)) n=1024-bE p (n+1):=by rw [hq];exact kE (by omega) (by omega)
    have hsz:ak (ce p (n+1)) n=ak p n:=by rw [hq];exact mL (by omega) (by omega)
    refine⟨by rw [hq,fC (by omega),hl1],fun i hi=>(hge i (by omega) (by omega)).trans (ih.low i hi),fun j h1 h2=>?_,fun j h1 h2=>?_,fun j h1 h2=>?_,fun j h1 h2=>?_,fun j h1 h2=>?_,fun i h1 h2=>?_⟩
    ·rcases JJ j n with h3|h3
     ·exact(hno _ (by omega) (by omega)).trans (ih.from' j h3 h2)
     ·obtain rfl:j=n:=by omega
      exact hfr
    ·rcases JJ j n with h3|h3
     ·exact(hno _ (by omega) (by omega)).trans (ih.size' j h3 h2)
     ·obtain rfl:j=n:=by omega
      exact hsz
    ·have:j≠n:=fun h3=>by subst h3;omega
     exact(hno _ (by omega) (by omega)).trans (ih.fromE j h1 (by omega))
    ·have:j≠n:=fun h3=>by subst h3;omega
     exact(hno _ (by omega) (by omega)).trans (ih.sizeE j h1 (by omega))
    ·rcases JJ j n with h3|h3
     ·rw [← ih.item j h3 h2]
      have h4:=dx p (show j+1≤n by omega)
      have h5:bE p (j+1)=bE p j+ak p j:=rfl
      exact jf fun i h6 h7=>hge i (by omega) (by omega)
     ·obtain rfl:j=n:=by omega
      rw [hq]
      have h4:=vn (p:=ce p j) (o:=1024-bE p (j+1)) (l:=aV p j) (by omega)
      rw [hil] at h4
      refine Eq.trans ?_ h4
      exact jf fun i h6 h7=>jJ (by omega) (by omega)
    ·exact(hge i (by omega) (by omega)).trans (ih.zero i h1 (by omega))
structure Packed (p q:List UInt8):Prop where
 len:q.length=1024
 low: ∀ i,i<16→q[i]? =p[i]?
 slots:ac q=ac p
 begins:aD q=1024-bE p (ac p)
 froms: ∀ j,j<ac p→ay q j=if ak p j=0 then 0 else 1024-bE p (j+1)
 sizes: ∀ j,j<ac p→ak q j=ak p j
 item: ∀ j,j<ac p→ak p j≠0→aV q j=aV p j
section
variable {H:au}{b:Nat}{left:Int}{n nx:Nat}{puts:Int}{mem p q x:List UInt8}
theorem li(h:Okp p):Packed p (dL p):=by
 have g:=sw h _ (Jv _)
 have hl:=g.len
 have hh:=h.head
 have ht:=h.top
 have hs1:=h.sum_le
 unfold dL
 have hno: ∀ o,o+2≤16∨18≤o→gL (cm (ce p (ac p)) 16 (1024-bE p (ac p))) o=gL (ce p (ac p)) o:=fun o ho=>cO (by omega) (by omega)
 have hfr: ∀ j,j<ac p→ay (cm (ce p (ac p)) 16 (1024-bE p (ac p))) j=if ak p j=0 then 0 else 1024-bE p (j+1):=fun j hj=>by
  refine(hno _ (by omega)).trans ?_
  split
  ·rename_i h1
   refine(g.fromE j hj (.inr h1)).trans ?_
   have:=h.slot j hj
   omega
  ·rename_i h1
   exact g.from' j hj h1
 have hsz: ∀ j,j<ac p→ak (cm (ce p (ac p)) 16 (1024-bE p (ac p))) j=ak p j:=fun j hj=>by
  refine(hno _ (by omega)).trans ?_
  by_cases h1:ak p j=0
  ·exact g.sizeE j hj (.inr h1)
  ·exact g.size' j hj h1
 refine⟨(bD (by omega)).trans hl,fun i hi=>(fI (by omega) (by omega)).trans (g.low i (by omega)),(hno 14 (by omega)).trans (jO fun i h1 h2=>g.low i (by omega)),eQ (by omega) (by omega),hfr,hsz,fun j hj hz=>?_⟩
 unfold aV
 rw [hfr j hj,hsz j hj,JG hz]
 have h4:=dx p (show j+1≤ac p by omega)
 refine Eq.trans ?_ (g.item j hj hz)
 exact jf fun i h6 h7=>fI (by omega) (by omega)
theorem Packed.ok(h:Okp p)(g:Packed p q):Okp q:=by
 have hh:=h.head
 have ht:=h.top
 have hs1:=h.sum_le
 have gs:=g.slots
 have gb:=g.begins
 refine⟨g.len,by omega,by omega,fun hpos=>?_,fun j hj=>?_,fun i j hij hj hzi hzj=>?_⟩
 ·rw [gs,g.sizes _ (by omega)]
  exact h.last (by omega)
 ·have h1:=h.slot j (by omega)
  have h4:=dx p (show j+1≤ac p by omega)
  have h5:bE p (j+1)=bE p j+ak p j:=rfl
  rw [g.froms j (by omega),g.sizes j (by omega),gb]
  split <;> omega
 ·rw [g.sizes i (by omega)] at hzi
  rw [g.sizes j (by omega)] at hzj
  rw [g.froms i (by omega),g.sizes i (by omega),g.froms j (by omega),g.sizes j (by omega),JG hzi,JG hzj]
  have h4:=dx p (show i+1≤j by omega)
  have h5:bE p (j+1)=bE p j+ak p j:=rfl
  have h6:=dx p (show j+1≤ac p by omega)
  exact .inr (by omega)
theorem qv{p q:List UInt8}: ∀ {n},(∀ j,j<n→ak q j=ak p j)→bE q n=bE p n
 | 0,_=>rfl
 | n+1,h=>by show bE q n+_=bE p n+_;rw [qv fun j hj=>h j (by omega),h n (by omega)]
theorem qb{p q:List UInt8}: ∀ {k n},(∀ j,n≤j→j<n+k→ak q j=ak p j)→dp q k n=dp p k n
 | 0,_,_=>rfl
 | k+1,n,h=>by
   unfold dp
   rw [h n (Jv _) (by omega),qb fun j h1 h2=>h j (by omega) (by omega)]
theorem Packed.empty(g:Packed p q):aW q=aW p:=by
 unfold aW
 rw [g.slots]
 exact qb fun j _ h2=>g.sizes j (by omega)
abbrev atO(p:List UInt8)(j:Nat):VO:=ar 3 [.sc (.int .i64 ((1024-bE p j:Nat):Int))]
theorem Hd(hp:p.length=1024):Fnc Tryz.prog 28 [.agg (pgS p)] H nx (fun q=>q.1=pgE (gE p)∧nx≤q.2.2∧ ∀ m,m<nx→q.2.1.at' m=H.at' m):=by
 refine Ka Tryz.func28 rfl rfl ?_
 refine aX fun hund=>?_
 repeat first|refine a9 rfl rfl ci ?_|apply ai;rfl
 have hb1:((H.set nx (pgO p)).set (nx+1) (pgO zeroP)).at' nx=some (pgO p):=by repeat(first|exact ae|refine ab (by omega) ?_)
 have hz1:((H.set nx (pgO p)).set (nx+1) (pgO zeroP)).at' (nx+1)=some (pgO zeroP):=by repeat(exact ae)
 have ho1: ∀ m,m<nx→((H.set nx (pgO p)).set (nx+1) (pgO zeroP)).at' m=H.at' m:=fun m hm=>by(repeat(refine ab (by omega) ?_));rfl
 have hrs:=fun nx'=>gz (nx:=nx') hb1 hp
 generalize (H.set nx (pgO p)).set (nx+1) (pgO zeroP)=H1 at hb1 hz1 ho1 hrs ⊢
 cases hr:bg p with
 | false=>
   rw [hr] at hrs
   have hv:gE p=(zeroP,4):=by unfold gE;rw [JG (by rw [hr];decide)]
   repeat first|apply ai;rfl|apply aG;rfl;assumption;rfl|apply bY;rfl;kernel_rfl;exact hrs _|refine cd (db iy) rfl rfl rfl ?_
   ((apply bm Tryz.func28 (congrArg Array.toList Tryz.results28));(focus((apply Kc rfl (Ke (F.ag _ rfl) (by repeat(exact ae)) (bk ah)));(repeat(first|exact Kb|apply Kd rfl)))))
   exact⟨by rw [hv];rfl,by dsimp only;omega,fun m hm=>(aa _ _ (by omega)).trans (ho1 m hm)⟩
 | true=>
   rw [hr] at hrs
   have hv:gE p=(dL p,0):=by unfold gE;rw [JH hr]
   have hok:=(bi hp).1 hr
   have hh:=hok.head
   have ht:=hok.top
   have hsum:=hok.sum_le
   repeat first|apply ai;rfl|apply bY;rfl;kernel_rfl;exact hrs _|refine a9 rfl rfl ci ?_
   have hb2:(H1.set (nx+1+1) (pgO zeroP)).at' nx=some (pgO p):=by repeat(first|assumption|refine ab (by omega) ?_)
   have hz2:(H1.set (nx+1+1) (pgO zeroP)).at' (nx+1)=some (pgO zeroP):=by repeat(first|assumption|refine ab (by omega) ?_)
   have hq2:(H1.set (nx+1+1) (pgO zeroP)).at' (nx+1+1)=some (pgO zeroP):=by repeat(exact ae)
   have ho2: ∀ m,m<nx→(H1.set (nx+1+1) (pgO zeroP)).at' m=H.at' m:=fun m hm=>(aa _ _ (by omega)).trans (ho1 m hm)
   generalize H1.set (nx+1+1) (pgO zeroP)=H2 at hb2 hz2 hq2 ho2 ⊢
   have htl:(p.take (18+4*ac p)).length=18+4*ac p:=by rw [JK];omega
   have hzl:=ah
   have hbs:BsIs H2 (.sl nx 0 (18+4*ac p) 1024) (byV (p.take (18+4*ac p))):=by
    have:=nd (b:=nx) (p:=p) (o:=0) (m:=18+4*ac p) (C:=1024) hb2 (by omega)
    rw [List.drop_zero] at this
    exact this
   (apply bh;(focus(kernel_rfl));(focus(kernel_rfl)))
   repeat first|apply bS;rfl;rfl;exact(fun _ h=>by cases h);exact(fW (l:=0) (h:=1024) (F.un _ rfl) (F.sz _ rfl) rfl rfl rfl (by omega) (by omega) (by omega) (show 1024-0=1024 from rfl) rfl rfl)|apply bT;rfl;rfl;rfl;(focus(kernel_rfl));exact(iX hb2 hp)|apply bS;rfl;rfl;exact(fun _ h=>by cases h);exact(fW (l:=0) (h:=18+4*ac p) (F.un _ rfl) (F.sz _ rfl) rfl rfl rfl (by omega) (by omega) (by omega) (show 18+4*ac p-0=18+4*ac p from rfl) rfl rfl)|apply iM;rfl;rfl;exact(fun _ h=>by cases h);exact(vB (vs:=byV (p.take (18+4*ac p))) (F.un _ rfl) (F.sz _ rfl) rfl rfl hq2 hbs (by rw [bK];omega) (by rw [be ah,bK];omega))|refine bj (aw rfl rfl (.inl ⟨rfl,(Jd _ ⟨(by focus(omega)),(by focus(omega))⟩).symm⟩)) rfl rfl rfl ?_|refine bj (aw rfl rfl (.inr (.inr ⟨rfl,(Jd _ ⟨(by focus(omega)),(by focus(omega))⟩).symm⟩))) rfl rfl rfl ?_
   refine aA ⟨by kernel_rfl,?_,?_⟩;(focus(repeat(first|exact Kk|apply jU;rfl|refine⟨.inr ⟨0,by kernel_rfl,AllH.all (fun _=>(by(exact aw rfl rfl (.inl ⟨rfl,(Jd _ ⟨by omega,by omega⟩).symm⟩)))) _⟩,?_⟩|refine fX 0 rfl (by kernel_rfl) (by(repeat(refine⟨(by first|exact fW (l:=0) (h:=1024) (F.un _ rfl) (F.sz _ rfl) rfl rfl rfl (by omega) (by omega) (by omega) (show 1024-0=1024 from rfl) rfl rfl|exact fW (l:=0) (h:=18+4*ac p) (F.un _ rfl) (F.sz _ rfl) rfl rfl rfl (by omega) (by omega) (by omega) (show 18+4*ac p-0=18+4*ac p from rfl) rfl rfl),?_⟩));exact Kk) ?_|apply lJ;kernel_rfl)))
   dsimp only
   rw [mM (p:=zeroP) (o:=0) (l:=p.take (18+4*ac p)) rfl]
   have hb3:(H2.set (nx+1+1) (pgO (bf zeroP 0 (p.take (18+4*ac p))))).at' nx=some (pgO p):=by repeat(first|assumption|refine ab (by omega) ?_)
   have hz3:(H2.set (nx+1+1) (pgO (bf zeroP 0 (p.take (18+4*ac p))))).at' (nx+1)=some (pgO zeroP):=by repeat(first|assumption|refine ab (by omega) ?_)
   have hq3:(H2.set (nx+1+1) (pgO (bf zeroP 0 (p.take (18+4*ac p))))).at' (nx+1+1)=some (pgO (ce p 0)):=aj _ _ _
   have ho3: ∀ m,m<nx→(H2.set (nx+1+1) (pgO (bf zeroP 0 (p.take (18+4*ac p))))).at' m=H.at' m:=fun m hm=>(aa _ _ (by omega)).trans (ho2 m hm)
   generalize H2.set (nx+1+1) (pgO (bf zeroP 0 (p.take (18+4*ac p))))=H3 at hb3 hz3 hq3 ho3 ⊢
   clear hb2 hz2 hq2 ho2 hbs hb1 hz1 ho1 hrs
   repeat first|apply bu hp;rfl;(focus((repeat(first|assumption|refine ab (by omega) ?_));done))|apply ai;rfl|apply aG;rfl;(focus((repeat(exact ae));done));rfl|apply bY;rfl;kernel_rfl;exact zI hp
   rw [hr]
   obtain⟨q0,hq0⟩: ∃ q0,q0=nx+1+1+1+1:=⟨_,rfl⟩
   rw [← hq0]
   refine cW (R:=fun H4 n4=>n4=q0+1+1∧H4.at' q0=some (pgO p)∧H4.at' (q0+1)=some (ar 4 [.sc (.bool true)])∧H4.at' nx=some (pgO p)∧H4.at' (nx+1)=some (pgO zeroP)∧H4.at' (nx+1+1)=some (pgO (ce p 0))∧H4.at' (nx+1+1+1)=some (atO p 0)∧ ∀ m,m<nx→H4.at' m=H.at' m)
    ⟨rfl,by repeat(first|exact ae|refine ab (by omega) ?_),by repeat(exact ae),by repeat(first|assumption|refine ab (by omega) ?_),by repeat(first|assumption|refine ab (by omega) ?_),by repeat(first|assumption|refine ab (by omega) ?_),by repeat(first|exact ae|refine ab (by omega) ?_),fun m hm=>by(repeat(refine ab (by omega) ?_));exact ho3 m hm⟩ ?_
   rintro H4 n4 ⟨rfl,m0,m1,m2,m4,m5,m6,mo⟩
   clear hb3 hz3 hq3 ho3
   refine lq [(1,.ptr nx 0),(2,.ptr (nx+1) 0),(4,.ptr (nx+1+1) 0),(5,.ptr (nx+1+1+1) 0)] rfl rfl (by kernel_rfl) (Kg (Kj rfl)) ?_
   intro cA cB hcA hcB
   refine J9 (zH (l:=q0+1+1+1) (f:=q0+1) (q:=q0) hp hr (f2:=28) (nt2:=37) (T2:=slT [(1,.ptr nx 0),(2,.ptr (nx+1) 0),(4,.ptr (nx+1+1) 0),(5,.ptr (nx+1+1+1) 0)]) (ps:= #[19,20]) (ca:=cA) (cb:=cB) (dr:=q0+1+1) rfl
    (fun j H5 n5=>H5.at' (q0+1+1+1)=some (.loop .ready none 28 37 (slT [(1,.ptr nx 0),(2,.ptr (nx+1) 0),(4,.ptr (nx+1+1) 0),(5,.ptr (nx+1+1+1) 0)]) #[19,20] cA cB (q0+1+1))∧H5.at' (q0+1)=some (ar 4 [.sc (.bool true)])∧H5.at' q0=some (pgO p)∧q0+1+1+1+1≤n5∧H5.at' nx=some (pgO p)∧H5.at' (nx+1)=some (pgO zeroP)∧H5.at' (nx+1+1)=some (pgO (ce p j))∧H5.at' (nx+1+1+1)=some (atO p j)∧H5.at' (q0+1+1)=some (.dfd (some []))∧ ∀ m,m<nx→H5.at' m=H.at' m)
    (fun _ _=>False)
    ?_ ?_ ?_ ?_ ?_) ?_
   ·rintro j H5 n5 ⟨i1,i2,i3,i4,_⟩
    exact⟨i1,i2,i3,by omega,by omega,by omega⟩
   ·rintro j H5 n5 H6 n6 ⟨i1,i2,i3,i4,i5,i6,i7,i8,i9,i10⟩ hle hs
    exact⟨(hs _ (by omega)).trans i1,(hs _ (by omega)).trans i2,(hs _ (by omega)).trans i3,by omega,(hs _ (by omega)).trans i5,(hs _ (by omega)).trans i6,(hs _ (by omega)).trans i7,(hs _ (by omega)).trans i8,(hs _ (by omega)).trans i9,fun m hm=>(hs _ (by omega)).trans (i10 m hm)⟩
   ·rintro j H5 n5 ⟨i1,i2,i3,i4,i5,i6,i7,i8,i9,i10⟩ hz
    have e1:ce p (j+1)=ce p j:=by show(if _ then _ else _)=_;rw [JH hz]
    have e2:atO p (j+1)=atO p j:=by unfold atO;rw [show bE p (j+1)=bE p j from by show bE p j+ak p j=_;omega]
    exact⟨i1,i2,i3,i4,i5,i6,by rw [e1];exact i7,by rw [e2];exact i8,i9,i10⟩
   ·rintro j H5 n5 r ⟨i1,i2,i3,i4,i5,i6,i7,i8,i9,i10⟩ hr1 hr2 hj hs hrow
    have hrow2:(H5.set (q0+1+1+1) (.loop .busy none 28 37 (slT [(1,.ptr nx 0),(2,.ptr (nx+1) 0),(4,.ptr (nx+1+1) 0),(5,.ptr (nx+1+1+1) 0)]) #[19,20] cA cB (q0+1+1))).at' r=some (u8R false (byV (aV p j))):=(aa _ _ (by omega)).trans hrow
    have hsl:=hok.slot j hj
    have hil:=dv hp (j:=j) (by omega)
    have hbl:=bK (aV p j)
    have hmono:=dx p (show j+1≤ac p by omega)
    have hsj:bE p (j+1)=bE p j+ak p j:=rfl
    have hpk:=sw hok j (by omega)
    have e1:ce p (j+1)=bJ (bf (ce p j) (1024-bE p (j+1)) (aV p j)) j (1024-bE p (j+1)) (ak p j):=by show(if _ then _ else _)=_;rw [JG hs]
    refine pM hcA ?_
    repeat apply ai;rfl
    refine tQ (by assumption) ?_
    refine pM hcB ?_
    repeat first|apply ai;rfl|apply aG;rfl;(focus((repeat(first|assumption|exact ae|refine ab (by omega) ?_));done));rfl|apply aL;rfl;omega;omega
    rw [show((1024-bE p j:Nat):Int)-((aV p j).length:Int)=((1024-bE p (j+1):Nat):Int) by omega]
    repeat first|apply ai;rfl|apply kV (lw:=1024-bE p (j+1)) (hg:=1024) (m:=1024-(1024-bE p (j+1)));rfl;rfl;rfl;exact(F.un _ rfl);exact(F.sz _ rfl);rfl;rfl;(focus(omega));(focus(omega));(focus(omega));rfl;rfl;exact(JI _)
    refine oe rfl rfl rfl rfl (F.un _ rfl) (F.sz _ rfl) (cs:=pgS (ce p j)) (vs:=byV (aV p j)) (by repeat(first|assumption|refine ab (by omega) ?_)) (jp (by(repeat(refine ab (by omega) ?_));exact hrow)) (by omega) (by rw [be hpk.len];omega) ?_
    rw [mM rfl]
    have hlq:(bf (ce p j) (1024-bE p (j+1)) (aV p j)).length=1024:=(bN (by rw [hpk.len];omega)).trans hpk.len
    repeat first|apply ai;rfl|apply aG;rfl;(focus((repeat(first|exact ae|refine ab (by omega) ?_));done));rfl
    refine aI rfl rfl rfl (by kernel_rfl) (J9 (qH (b:=nx+1+1) (by repeat(exact ae)) hlq (n:=j) (a:=1024-bE p (j+1)) (s:=(aV p j).length) (by omega) (by omega) (by omega)) ?_)
    rintro⟨_,H6,n6⟩ ⟨rfl,g1,g2,g3⟩
    dsimp only at g1 g2 g3 ⊢
    rw [hil,←e1] at g1
    have g4:H6.at' (q0+1+1+1)=some (.loop .busy none 28 37 (slT [(1,.ptr nx 0),(2,.ptr (nx+1) 0),(4,.ptr (nx+1+1) 0),(5,.ptr (nx+1+1+1) 0)]) #[19,20] cA cB (q0+1+1)):=(g3 (q0+1+1+1) (by omega) (by omega)).trans (by repeat(first|exact ae|refine ab (by omega) ?_))
    have g6:H6.at' (nx+1+1+1)=some (atO p (j+1)):=(g3 _ (by omega) (by omega)).trans (by repeat(first|exact ae|refine ab (by omega) ?_))
    have gk: ∀ m,m<n5→m≠q0+1+1+1→m≠nx+1+1→m≠nx+1+1+1→H6.at' m=H5.at' m:=fun m h1 h2 h3 h4=>(g3 m h1 h3).trans ((aa _ _ h3).trans ((aa _ _ h4).trans (aa _ _ h2)))
    clear g3 hrow hrow2
    repeat apply ai;rfl
    refine mE (by exact g4) (.inl ⟨rfl,⟨aj _ _ _,?_,?_,by dsimp only;omega,?_,?_,?_,?_,?_,fun m hm=>?_⟩,by dsimp only;omega,?_⟩)
    ·(focus((repeat(refine ab (by omega) ?_));exact(gk _ (by omega) (by omega) (by omega) (by omega)).trans i2))
    ·(focus((repeat(refine ab (by omega) ?_));exact(gk _ (by omega) (by omega) (by omega) (by omega)).trans i3))
    ·(focus((repeat(refine ab (by omega) ?_));exact(gk _ (by omega) (by omega) (by omega) (by omega)).trans i5))
    ·(focus((repeat(refine ab (by omega) ?_));exact(gk _ (by omega) (by omega) (by omega) (by omega)).trans i6))
    ·(focus((repeat(refine ab (by omega) ?_));exact g1))
    ·(focus((repeat(refine ab (by omega) ?_));exact g6))
    ·(focus((repeat(refine ab (by omega) ?_));exact(gk _ (by omega) (by omega) (by omega) (by omega)).trans i9))
    ·(focus((repeat(refine ab (by omega) ?_));exact(gk _ (by omega) (by omega) (by omega) (by omega)).trans (i10 m hm)))
    ·(focus((repeat(refine ab (by omega) ?_));exact gk _ (by omega) (by omega) (by omega) (by omega)))
   ·exact⟨aj _ _ _,by repeat(first|assumption|refine ab (by omega) ?_),by repeat(first|assumption|refine ab (by omega) ?_),Jv _,by repeat(first|assumption|refine ab (by omega) ?_),by repeat(first|assumption|refine ab (by omega) ?_),by repeat(first|assumption|refine ab (by omega) ?_),by repeat(first|assumption|refine ab (by omega) ?_),by repeat(first|exact ae|refine ab (by omega) ?_),fun m hm=>(aa _ _ (by omega)).trans ((aa _ _ (by omega)).trans (mo m hm))⟩
   ·rintro⟨v,H5,n5⟩ (⟨i1,i2,i3,i4,i5,i6,i7,i8,i9,i10⟩|hf)
    ·dsimp only at i1 i2 i3 i4 i5 i6 i7 i8 i9 i10 ⊢
     refine ku i1 (fun h=>by cases h) ?_
     dsimp only [lK]
     have hpk:=sw hok (ac p) (Jv _)
     have hpl:=hpk.len
     have hvl:(cm (ce p (ac p)) 16 (1024-bE p (ac p))).length=1024:=(bD (by omega)).trans hpl
     repeat first|apply ai;rfl|apply aG;rfl;(focus((repeat(first|assumption|refine ab (by omega) ?_));done));rfl
     refine aI rfl rfl rfl (by kernel_rfl) (J9 (pA (b:=nx+1+1) (o:=16) (n:=1024-bE p (ac p)) (by(repeat(refine ab (by omega) ?_));exact i7) hpl (by decide) (by omega)) ?_)
     rintro⟨_,H6,n6⟩ ⟨rfl,g1,g2,g3⟩
     dsimp only at g1 g2 g3 ⊢
     have g4:H6.at' (nx+1)=some (pgO zeroP):=(g3 _ (by omega) (by omega)).trans (by(repeat(refine ab (by omega) ?_));exact i6)
     have g9:H6.at' (q0+1+1)=some (.dfd (some [])):=(g3 _ (by omega) (by omega)).trans (by(repeat(refine ab (by omega) ?_));exact i9)
     have go: ∀ m,m<nx→H6.at' m=H.at' m:=fun m hm=>(g3 _ (by omega) (by omega)).trans (by(repeat(refine ab (by omega) ?_));exact i10 m hm)
     have hpv:cm (ce p (ac p)) 16 (1024-bE p (ac p))=dL p:=rfl
     rw [hpv] at g1 hvl
     generalize dL p=pv at hv hvl g1
     clear hpv g3
     repeat first|apply bu hvl;rfl;assumption|apply bA hvl ah;rfl;assumption|apply ai;rfl
     refine uJ Tryz.func28 (congrArg Array.toList Tryz.results28) (rs:= [q0+1+1]) rfl (fun r hr=>by rw [JM.1 hr];(focus((repeat(first|assumption|refine ab (by omega) ?_));done))) (by simp) ?_
     intro H7 hH7
     have hno: ∀ m,m≤nx+1→m∉ [q0+1+1]:=fun m hm h=>by have:=JM.1 h;omega
     have k4:H7.at' (nx+1)=some (pgO pv):=(hH7 _ (hno _ (by omega))).trans (by repeat(exact ae))
     refine⟨_,(by(apply Kc rfl (Ke (F.ag _ rfl) (by assumption) (bk hvl)));(repeat(first|exact Kb|apply Kd rfl))),?_⟩
     exact⟨by rw [hv];rfl,by dsimp only;omega,fun m hm=>(hH7 m (hno _ (by omega))).trans (by(repeat(refine ab (by omega) ?_));exact go m hm)⟩
    ·exact hf.elim
theorem y5(hp:p.length=1024):Fnc Tryz.prog 28 [.agg (pgS p)] H nx (fun q=>q=(pgE (gE p),H,nx)):=Fnc.bv (gU _) (Hd hp)
theorem qI(hm:mem.length=131072)(l p:Int):(sr mem l p).length=131074:=by simp [hm]
theorem ip(hm:mem.length=131072):((byV mem).map SV.sc).length=131072:=by simpa using hm
theorem vu(hm:mem.length=131072)(l p:Int):(sr mem l p)[131072]? =some (.sc (.int .i64 l)):=by
 rw [JQ (by rw [ip hm];exact Jv _),ip hm]
 rfl
theorem dl(hm:mem.length=131072)(l p:Int):(sr mem l p)[131073]? =some (.sc (.int .i64 p)):=by
 rw [JQ (by rw [ip hm];decide),ip hm]
 rfl
theorem Bm(hm:mem.length=131072)(l p l':Int):(sr mem l p).set 131072 (.sc (.int .i64 l'))=sr mem l' p:=by
 rw [List.set_append_right _ _ (by rw [ip hm];exact Jv _),ip hm]
 rfl
theorem Bl(hm:mem.length=131072)(l p p':Int):(sr mem l p).set 131073 (.sc (.int .i64 p'))=sr mem l p':=by
 rw [List.set_append_right _ _ (by rw [ip hm];decide),ip hm]
 rfl
def f8(mem:List UInt8)(n:Nat)(x:List UInt8):List UInt8:=bf mem (1024*n) x
theorem lP(hm:mem.length=131072)(hn:n<128)(hx:x.length=1024):(f8 mem n x).length=131072:=by
 unfold f8
 rw [bN (by omega),hm]
theorem DN(hm:mem.length=131072)(hn:n<128)(hx:x.length=1024)(l p:Int):(sr mem l p).take (0+n*1024) ++ pgS x ++ (sr mem l p).drop (0+n*1024+1024)=sr (f8 mem n x) l p:=by
 have hl:=ip hm
 rw [List.take_append_of_le_length (by omega),List.drop_append_of_le_length (by omega)]
 unfold f8 bf
 rw [hx,JI,Nat.mul_comm n]
 show _=(byV (mem.take (1024*n) ++ x ++ mem.drop (1024*n+1024))).map SV.sc ++ _
 rw [ki,ki,JA,JA]
 simp only [byV,List.map_take,List.map_drop,JR]
theorem vj(hb:H.at' b=some (cT mem left puts))(hm:mem.length=131072)(hn:n<128)(hx:x.length=1024)(hl:left≠0)(hl2 : -1000000000≤left∧left≤1000000000)(hp : -1000000000≤puts∧puts≤1000000000):Fnc Tryz.prog 141 [.ptr b 0,.sc (.int .i64 (n:Int)),.agg (pgS x)] H nx
 (fun q=>q.1 = .sc (.int .i64 0)∧q.2.1.at' b=some (cT (f8 mem n x) (left-1) (puts+1))∧nx≤q.2.2∧ ∀ m,m<nx→m≠b→q.2.1.at' m=H.at' m):=by
 refine Ka Tryz.func141 rfl rfl ?_
 refine aX fun hund=>?_
 have hlt:=hund _ _ hb
 have hbox:(H.set nx (pgO x)).at' nx=some (pgO x):=aj _ _ _
 have hb1:(H.set nx (pgO x)).at' b=some (cT mem left puts):=(aa _ _ (by omega)).trans hb
 have hold: ∀ m,m<nx→(H.set nx (pgO x)).at' m=H.at' m:=fun m hm=>aa _ _ (by omega)
 repeat apply ai;rfl
 generalize H.set nx (pgO x)=H1 at hbox hb1 hold ⊢
 repeat first|refine cV rfl rfl rfl (F.ag _ rfl) hb1 (vu hm _ _) ?_|apply ai;rfl|apply aL;rfl;omega;omega|apply lx;rfl;omega|apply iv;rfl;omega
 refine dX rfl rfl rfl (F.sz _ rfl) hb1 rfl (Jj (by rw [qI hm];decide)) ?_
 rw [Bm hm]
 have hb2:(H1.set b (cT mem (left-1) puts)).at' b=some (cT mem (left-1) puts):=aj _ _ _
 repeat first|refine cV rfl rfl rfl (F.ag _ rfl) hb2 (dl hm _ _) ?_|apply ai;rfl|apply aL;rfl;omega;omega
 refine dX rfl rfl rfl (F.sz _ rfl) hb2 rfl (Jj (by rw [qI hm];decide)) ?_
 rw [Bl hm]
 have hb3:((H1.set b (cT mem (left-1) puts)).set b (cT mem (left-1) (puts+1))).at' b=some (cT mem (left-1) (puts+1)):=aj _ _ _
 have hbox3:((H1.set b (cT mem (left-1) puts)).set b (cT mem (left-1) (puts+1))).at' nx=some (pgO x):=(aa _ _ (by omega)).trans ((aa _ _ (by omega)).trans hbox)
 have hold3: ∀ m,m<nx→m≠b→((H1.set b (cT mem (left-1) puts)).set b (cT mem (left-1) (puts+1))).at' m=H.at' m:=fun m h1 h2=>(aa _ _ h2).trans ((aa _ _ h2).trans (hold m h1))
 generalize (H1.set b (cT mem (left-1) puts)).set b (cT mem (left-1) (puts+1))=H3 at hb3 hbox3 hold3 ⊢
 clear hb2 hb1 hbox hold
 repeat apply ai;rfl
 (apply bh;(focus(kernel_rfl));(focus(kernel_rfl)))
 repeat first|refine b8 rfl rfl rfl (F.ag _ rfl) hbox3 (be hx) ?_|refine bX rfl rfl rfl (F.sz _ rfl) hb3 (be hx) (by rw [qI hm];omega) (iE _) (DN hm hn hx _ _) ?_|apply jX (q:=n);rfl;rfl;rfl;rfl;exact(F.un _ rfl);exact(F.sz _ rfl);(focus(omega));(focus(omega))|apply aS;rfl
 refine aA ⟨by kernel_rfl,?_,?_⟩;(focus(repeat(first|exact Kk|apply jU;rfl|apply gi;rfl;kernel_rfl|refine fX 0 rfl (by kernel_rfl) (by(repeat(refine⟨(by first|exact ba (F.ag _ rfl) rfl (by repeat(first|assumption|refine ab (by omega) ?_)) (bk hx)|exact ig (q:=n) rfl rfl (F.un _ rfl) (F.sz _ rfl) (by omega) (by omega)),?_⟩));exact Kk) ?_)))
 repeat apply ai;rfl
 (apply bP Tryz.func141 Tryz.results141;rfl)
 exact⟨rfl,aj _ _ _,JE _,fun m h1 h2=>(aa _ _ h2).trans (hold3 m h1 h2)⟩
def kP(p:List UInt8):Nat:=(p.getD 12 0).toNat
theorem Ho(hp:p.length=1024):Fnc Tryz.prog 88 [.agg (pgS p)] H nx (fun q=>q=(.sc (.int .u8 (kP p:Int)),H,nx)):=by
 refine Fnc.bv (Free.sc _) ?_
 refine Ka Tryz.func88 rfl rfl ?_
 have hc:=nR (p:=p) (i:=12) (by omega)
 repeat first|apply ai;rfl|apply gr (q:=12);rfl;rfl;rfl;rfl;exact(F.un _ rfl);exact(F.sz _ rfl);(focus(omega));(focus(omega))|refine cd (am (F.ag _ rfl) rfl (by repeat(exact ae)) hc) rfl rfl rfl ?_
 (apply bP Tryz.func88 Tryz.results88;rfl)
 refine⟨?_,JE _,fun m hm=>aa _ _ (by omega)⟩
 have hg:p.getD 12 0=p[12]'(by omega):=by rw [Jq,Jf (by omega)];rfl
 unfold kP
 rw [hg]
 rfl
def xw(p:List UInt8):Bool:=(List.range (ac p)).any fun j=>decide (ak p j≠0) && (ofV (aV p j)).isNone
def aU(p:List UInt8):List UInt8×Nat:=if ia p=true then(fE 4,0) else if bg p=false∨kP p≠4 then(zeroP,13) else if xw p=true then(zeroP,13) else(p,0)
theorem cX{s:SV}{vs:List Value}(h:BsIs H s vs):s.one=true:=by
 obtain⟨_,⟨_,_,_,rfl⟩|⟨r0,eo,ne,ro0,t0,us,rfl,_⟩|⟨b0,o0,C0,vo0,rfl,_⟩⟩:=h <;> rfl
abbrev tM(b:Nat):SV:= .ifc 25 (.ptr b 0)
abbrev fJ(e:Int):VO:=ar 43 [.sc (.int .i64 e)]
theorem G2(hb:H.at' b=some (cT mem left puts))(hm:mem.length=131072)(hn:n<128):Fnc Tryz.prog 43 [tM b,.sc (.int .i64 (n:Int))] H nx (fun q=>q.1=pgE (aU (az mem n))∧nx≤q.2.2∧ ∀ m,m<nx→q.2.1.at' m=H.at' m):=by
 have hp:=dO hm hn
 refine Ka Tryz.func43 rfl rfl ?_
 refine aX fun hund=>?_
 have hlt:=hund _ _ hb
 repeat first|refine a9 rfl rfl ci ?_|apply ai;rfl
 have hb1:((H.set nx (pgO zeroP)).set (nx+1) (fJ 0)).at' b=some (cT mem left puts):=by repeat(first|assumption|refine ab (by omega) ?_)
 have h41:((H.set nx (pgO zeroP)).set (nx+1) (fJ 0)).at' nx=some (pgO zeroP):=by repeat(first|exact ae|refine ab (by omega) ?_)
 have h51:((H.set nx (pgO zeroP)).set (nx+1) (fJ 0)).at' (nx+1)=some (fJ 0):=by repeat(exact ae)
 have ho1: ∀ m,m<nx→((H.set nx (pgO zeroP)).set (nx+1) (fJ 0)).at' m=H.at' m:=fun m hm=>by(repeat(refine ab (by omega) ?_));rfl
 refine lN 140 rfl rfl rfl rfl (by kernel_rfl) (J9 (Hb hb1 hm hn) ?_)
 rintro _ rfl
 dsimp only
 generalize (H.set nx (pgO zeroP)).set (nx+1) (fJ 0)=H1 at hb1 h41 h51 ho1 ⊢
 generalize az mem n=p at hp ⊢
 repeat first|refine a9 rfl rfl ci ?_|apply bA hp ah;rfl;(focus((repeat(exact ae));done))|apply ai;rfl|apply dM;rfl;rfl
 have h62:((H1.set (nx+1+1) (pgO zeroP)).set (nx+1+1) (pgO p)).at' (nx+1+1)=some (pgO p):=aj _ _ _
 have h42:((H1.set (nx+1+1) (pgO zeroP)).set (nx+1+1) (pgO p)).at' nx=some (pgO zeroP):=by repeat(first|assumption|refine ab (by omega) ?_)
 have h52:((H1.set (nx+1+1) (pgO zeroP)).set (nx+1+1) (pgO p)).at' (nx+1)=some (fJ 0):=by repeat(first|assumption|refine ab (by omega) ?_)
 have ho2: ∀ m,m<nx→((H1.set (nx+1+1) (pgO zeroP)).set (nx+1+1) (pgO p)).at' m=H.at' m:=fun m hm=>(aa _ _ (by omega)).trans ((aa _ _ (by omega)).trans (ho1 m hm))
 refine cW (R:=fun H2 n2=>H2=(H1.set (nx+1+1) (pgO zeroP)).set (nx+1+1) (pgO p)∧n2=nx+1+1+1) ⟨rfl,rfl⟩ ?_
 rintro H2 n2 ⟨hH2,rfl⟩
 rw [← hH2] at h62 h42 h52 ho2
 clear hH2 h41 h51 ho1 hb1
 have hfin: ∀ (e:Nat) (x:List UInt8) (H3:au) (n3:Nat),aU p=(x,e)→nx≤n3→(∀ m,m<nx→H3.at' m=H.at' m)→(SV.tup [.agg (pgS x),.sc (.int .i64 (e:Int))]=pgE (aU p)∧nx≤n3∧ ∀ m,m<nx→H3.at' m=H.at' m):=fun e x H3 n3 h1 h2 h3=>⟨by rw [h1],h2,h3⟩
 cases hu:ia p with
 | true=>
   have hv:aU p=(fE 4,0):=by unfold aU;rw [JH hu]
   have hus:=fun(H:au) nx=>uQ (H:=H) (nx:=nx) hp
   rw [hu] at hus
   have hl4:=fR 4
   repeat first|apply bu hp;rfl;assumption|apply ai;rfl|apply bY;rfl;kernel_rfl;exact hus _ _
   refine aI rfl rfl rfl (by kernel_rfl) (J9 (Hx 4) ?_)
   rintro _ rfl
   dsimp only
   generalize fE 4=p4 at hv hl4
   repeat first|apply bA hl4 ah;rfl;assumption|apply ai;rfl|apply aG;rfl;(focus((repeat(first|assumption|refine ab (by omega) ?_));done));rfl
   ((apply bm Tryz.func43 (congrArg Array.toList Tryz.results43));(focus((apply Kc rfl (Ke (F.ag _ rfl) (by repeat(first|exact ae|refine ab (by omega) ?_)) (bk hl4)));apply Kc rfl (Kf (F.ag _ rfl) (by repeat(exact ae)) (aB rfl));exact Kb)))
   exact hfin 0 _ _ _ hv (by dsimp only;omega) fun m hm=>(aa _ _ (by omega)).trans ((aa _ _ (by omega)).trans (ho2 m hm))
 | false=>
   have hus:=fun(H:au) nx=>uQ (H:=H) (nx:=nx) hp
   rw [hu] at hus
   have hrs:=fun(H:au) nx=>EI (H:=H) (nx:=nx) hp
   cases hr:bg p with
   | false=>
     have hv:aU p=(zeroP,13):=by unfold aU;rw [JG (by rw [hu];decide),JH (.inl hr)]
     rw [hr] at hrs
     repeat first|apply bu hp;rfl;assumption|apply bA ah ah;rfl;assumption|apply ai;rfl|apply aG;rfl;(focus((repeat(first|assumption|refine ab (by omega) ?_));done));rfl|apply bY;rfl;kernel_rfl;exact hus _ _|apply bY;rfl;kernel_rfl;exact hrs _ _|refine cd (db iy) rfl rfl rfl ?_
     ((apply bm Tryz.func43 (congrArg Array.toList Tryz.results43));(focus((apply Kc rfl (Ke (F.ag _ rfl) (by repeat(first|exact ae|refine ab (by omega) ?_)) (bk ah)));apply Kc rfl (Kf (F.ag _ rfl) (by repeat(exact ae)) (aB rfl));exact Kb)))
     exact hfin 13 _ _ _ hv (by dsimp only;omega) fun m hm=>(aa _ _ (by omega)).trans ((aa _ _ (by omega)).trans (ho2 m hm))
   | true=>
     rw [hr] at hrs
     repeat first|apply bu hp;rfl;assumption|apply ai;rfl|apply bY;rfl;kernel_rfl;exact hus _ _|apply bY;rfl;kernel_rfl;exact hrs _ _|apply bY;rfl;kernel_rfl;exact Ho hp
     refine lM rfl rfl rfl rfl (fun hk=>?_) (fun hk=>?_)
     ·have hv:aU p=(zeroP,13):=by unfold aU;rw [JG (by rw [hu];decide),JH (.inr (by omega))]
      repeat first|apply bA ah ah;rfl;assumption|apply ai;rfl|apply aG;rfl;(focus((repeat(first|assumption|refine ab (by omega) ?_));done));rfl|refine cd (db iy) rfl rfl rfl ?_
      ((apply bm Tryz.func43 (congrArg Array.toList Tryz.results43));(focus((apply Kc rfl (Ke (F.ag _ rfl) (by repeat(first|exact ae|refine ab (by omega) ?_)) (bk ah)));apply Kc rfl (Kf (F.ag _ rfl) (by repeat(exact ae)) (aB rfl));exact Kb)))
      exact hfin 13 _ _ _ hv (by dsimp only;omega) fun m hm=>(aa _ _ (by omega)).trans ((aa _ _ (by omega)).trans (ho2 m hm))
     ·have hv:aU p=if xw p=true then(zeroP,13) else(p,0):=by unfold aU;rw [JG (by rw [hu];decide),JG (by rw [hr];intro h;rcases h with h|h;cases h;omega)]
      repeat first|apply bu hp;rfl;assumption|apply ai;rfl|apply bY;rfl;kernel_rfl;exact zI hp
      rw [hr]
      obtain⟨q0,hq0⟩: ∃ q0,q0=nx+1+1+1:=⟨_,rfl⟩
      rw [← hq0]
      have m0:((H2.set q0 (pgO p)).set (q0+1) (ar 4 [.sc (.bool true)])).at' q0=some (pgO p):=by repeat(first|exact ae|refine ab (by omega) ?_)
      have m1:((H2.set q0 (pgO p)).set (q0+1) (ar 4 [.sc (.bool true)])).at' (q0+1)=some (ar 4 [.sc (.bool true)]):=aj _ _ _
      have m4:((H2.set q0 (pgO p)).set (q0+1) (ar 4 [.sc (.bool true)])).at' nx=some (pgO zeroP):=by repeat(first|assumption|refine ab (by omega) ?_)
      have m5:((H2.set q0 (pgO p)).set (q0+1) (ar 4 [.sc (.bool true)])).at' (nx+1)=some (fJ 0):=by repeat(first|assumption|refine ab (by omega) ?_)
      have m6:((H2.set q0 (pgO p)).set (q0+1) (ar 4 [.sc (.bool true)])).at' (nx+1+1)=some (pgO p):=by repeat(first|assumption|refine ab (by omega) ?_)
      have mo: ∀ m,m<nx→((H2.set q0 (pgO p)).set (q0+1) (ar 4 [.sc (.bool true)])).at' m=H.at' m:=fun m hm=>(aa _ _ (by omega)).trans ((aa _ _ (by omega)).trans (ho2 m hm))
      generalize (H2.set q0 (pgO p)).set (q0+1) (ar 4 [.sc (.bool true)])=H3 at m0 m1 m4 m5 m6 mo ⊢
      clear ho2 h52 h42 h62 hus hrs hu
      refine lq [(4,.ptr nx 0),(5,.ptr (nx+1) 0)] rfl rfl (by kernel_rfl) (Kg (Kj rfl)) ?_
      intro cA cB hcA hcB
      refine J9 (zH (l:=q0+1+1+1) (f:=q0+1) (q:=q0) hp hr (f2:=43) (nt2:=47) (T2:=slT [(4,.ptr nx 0),(5,.ptr (nx+1) 0)]) (ps:= #[36,37]) (ca:=cA) (cb:=cB) (dr:=q0+1+1) rfl
       (fun j H4 n4=>H4.at' (q0+1+1+1)=some (.loop .ready none 43 47 (slT [(4,.ptr nx 0),(5,.ptr (nx+1) 0)]) #[36,37] cA cB (q0+1+1))∧H4.at' (q0+1)=some (ar 4 [.sc (.bool true)])∧H4.at' q0=some (pgO p)∧q0+1+1+1+1≤n4∧H4.at' nx=some (pgO zeroP)∧H4.at' (nx+1)=some (fJ 0)∧H4.at' (nx+1+1)=some (pgO p)∧H4.at' (q0+1+1)=some (.dfd (some []))∧(∀ i,i<j→ak p i≠0→(ofV (aV p i)).isSome=true)∧ ∀ m,m<nx→H4.at' m=H.at' m)
       (fun H4 n4=>H4.at' (q0+1+1+1)=some (.loop .done (some .ret) 43 47 (slT [(4,.ptr nx 0),(5,.ptr (nx+1) 0)]) #[36,37] cA cB (q0+1+1))∧q0≤n4∧H4.at' nx=some (pgO zeroP)∧H4.at' (nx+1)=some (fJ 13)∧H4.at' (q0+1+1)=some (.dfd (some []))∧xw p=true∧ ∀ m,m<nx→H4.at' m=H.at' m)
       ?_ ?_ ?_ ?_ ?_) ?_
      ·rintro j H4 n4 ⟨i1,i2,i3,i4,_⟩
       exact⟨i1,i2,i3,by omega,by omega,by omega⟩
      ·rintro j H4 n4 H5 n5 ⟨i1,i2,i3,i4,i5,i6,i7,i8,i9,i10⟩ hle hs
       exact⟨(hs _ (by omega)).trans i1,(hs _ (by omega)).trans i2,(hs _ (by omega)).trans i3,by omega,(hs _ (by omega)).trans i5,(hs _ (by omega)).trans i6,(hs _ (by omega)).trans i7,(hs _ (by omega)).trans i8,i9,fun m hm=>(hs _ (by omega)).trans (i10 m hm)⟩
      ·rintro j H4 n4 ⟨i1,i2,i3,i4,i5,i6,i7,i8,i9,i10⟩ hz
       refine⟨i1,i2,i3,i4,i5,i6,i7,i8,fun i hi hs=>?_,i10⟩
       rcases JJ i j with h|h
       ·exact i9 i h hs
       ·obtain rfl:i=j:=by omega
        exact absurd hz hs
      ·rintro j H4 n4 r ⟨i1,i2,i3,i4,i5,i6,i7,i8,i9,i10⟩ hr1 hr2 hj hs hrow
       have hrow2:(H4.set (q0+1+1+1) (.loop .busy none 43 47 (slT [(4,.ptr nx 0),(5,.ptr (nx+1) 0)]) #[36,37] cA cB (q0+1+1))).at' r=some (u8R false (byV (aV p j))):=(aa _ _ (by omega)).trans hrow
       have hil:(aV p j).length≤1024:=by unfold aV;rw [JK,JN];omega
       refine pM hcA ?_
       repeat apply ai;rfl
       refine tQ (by assumption) ?_
       refine pM hcB ?_
       repeat apply ai;rfl
       refine aI rfl rfl rfl (by kernel_rfl) (J9 (of_s (jp hrow2) (by omega)) ?_)
       rintro⟨_,H5,n5⟩ ⟨s',r',rfl,⟨k,w,rfl,gk,gw⟩,_,g2,g3⟩
       dsimp only at g2 g3 ⊢
       have j1:=(g3 _ (show q0+1+1+1<n4 by omega)).trans (aj _ _ _)
       have jo: ∀ m,m<n4→m≠q0+1+1+1→H5.at' m=H4.at' m:=fun m h1 h2=>(g3 m h1).trans (aa _ _ h2)
       have j4:H5.at' nx=some (pgO zeroP):=(jo _ (by omega) (by omega)).trans i5
       have j5:H5.at' (nx+1)=some (fJ 0):=(jo _ (by omega) (by omega)).trans i6
       have hone: ∀ x y:Nat,bp (eF k w x y)=true:=fun x y=>by simp only [bp,cX gk.bs,cX gw.bs];rfl
       clear gk gw g3 hrow hrow2
       repeat first|apply ai;rfl|refine dW rfl rfl rfl (F.sz _ rfl) (by repeat(first|assumption|exact ae)) rfl (by exact Jh rfl) (hone _ _) rfl ?_
       cases ho:ofV (aV p j)with
       | none=>
         have hbd:xw p=true:=by
          unfold xw
          rw [List.any_eq_true]
          exact⟨j,J2.2 hj,by rw [JZ hs,ho];rfl⟩
         refine lM rfl rfl rfl rfl (fun _=>?_) (fun hq=>absurd hq (by decide))
         repeat first|apply bA ah ah;rfl;(focus((repeat(first|assumption|refine ab (by omega) ?_));done))|apply ai;rfl|apply aG;rfl;(focus((repeat(first|assumption|refine ab (by omega) ?_));done));rfl|refine cd (db iy) rfl rfl rfl ?_
         refine wM (by repeat(first|assumption|refine ab (by omega) ?_)) (.inr ⟨rfl,aj _ _ _,by dsimp only;omega,by repeat(first|exact ae|refine ab (by omega) ?_),by repeat(first|exact ae|refine ab (by omega) ?_),?_,hbd,fun m hm=>?_⟩)
         ·(focus((repeat(refine ab (by omega) ?_));exact(jo _ (by omega) (by omega)).trans i8))
         ·(focus((repeat(refine ab (by omega) ?_));exact(jo _ (by omega) (by omega)).trans (i10 m hm)))
       | some v=>
         refine lM rfl rfl rfl rfl (fun hq=>absurd rfl hq) (fun _=>?_)
         repeat apply ai;rfl
         refine mE (by repeat(first|assumption|refine ab (by omega) ?_)) (.inl ⟨rfl,⟨aj _ _ _,?_,?_,by dsimp only;omega,?_,?_,?_,?_,fun i hi hsi=>?_,fun m hm=>?_⟩,by dsimp only;omega,?_⟩)
         ·(focus((repeat(refine ab (by omega) ?_));exact(jo _ (by omega) (by omega)).trans i2))
         ·(focus((repeat(refine ab (by omega) ?_));exact(jo _ (by omega) (by omega)).trans i3))
         ·(focus((repeat(first|assumption|refine ab (by omega) ?_));done))
         ·(focus((repeat(first|assumption|refine ab (by omega) ?_));done))
         ·(focus((repeat(refine ab (by omega) ?_));exact(jo _ (by omega) (by omega)).trans i7))
         ·(focus((repeat(refine ab (by omega) ?_));exact(jo _ (by omega) (by omega)).trans i8))
         ·rcases JJ i j with h|h
          ·exact i9 i h hsi
          ·obtain rfl:i=j:=by omega
           rw [ho]
           rfl
         ·(focus((repeat(refine ab (by omega) ?_));exact(jo _ (by omega) (by omega)).trans (i10 m hm)))
         ·(focus((repeat(refine ab (by omega) ?_));exact jo _ (by omega) (by omega)))
      ·exact⟨aj _ _ _,by repeat(first|assumption|refine ab (by omega) ?_),by repeat(first|assumption|refine ab (by omega) ?_),Jv _,by repeat(first|assumption|refine ab (by omega) ?_),by repeat(first|assumption|refine ab (by omega) ?_),by repeat(first|assumption|refine ab (by omega) ?_),by repeat(first|exact ae|refine ab (by omega) ?_),fun i hi=>absurd hi (Nat.not_lt_zero _),fun m hm=>(aa _ _ (by omega)).trans ((aa _ _ (by omega)).trans (mo m hm))⟩
      ·rintro⟨v,H4,n4⟩ (⟨i1,i2,i3,i4,i5,i6,i7,i8,i9,i10⟩|⟨i1,i4,i5,i6,i8,i9,i10⟩)
       ·dsimp only at i1 i2 i3 i4 i5 i6 i7 i8 i10 ⊢
        have hbad:xw p=false:=by
         unfold xw
         rw [List.any_eq_false]
         intro j hj
         have hj:=J2.1 hj
         by_cases hz:ak p j=0
         ·rw [J0 (fun h=>h hz)];simp
         ·have:=i9 j hj hz
          rw [show(ofV (aV p j)).isNone=false by cases h:ofV (aV p j)with|none=>rw [h] at this;cases this|some _=>rfl]
          simp
        rw [hbad] at hv
        refine ku i1 (fun h=>by cases h) ?_
        dsimp only [lK]
        have h6: ∀ vo,(H4.set (q0+1+1+1) vo).at' (nx+1+1)=some (pgO p):=fun vo=>(aa _ _ (by omega)).trans i7
        have h4: ∀ vo,(H4.set (q0+1+1+1) vo).at' nx=some (pgO zeroP):=fun vo=>(aa _ _ (by omega)).trans i5
        repeat first|apply bu hp;rfl;(focus((repeat(first|assumption|refine ab (by omega) ?_));done))|apply bA hp ah;rfl;(focus((repeat(first|assumption|refine ab (by omega) ?_));done))|apply ai;rfl|apply aG;rfl;(focus((repeat(first|assumption|refine ab (by omega) ?_));done));rfl
        refine uJ Tryz.func43 (congrArg Array.toList Tryz.results43) (rs:= [q0+1+1]) rfl (fun r hr=>by rw [JM.1 hr];(focus((repeat(first|assumption|refine ab (by omega) ?_));done))) (by simp) ?_
        intro H7 hH7
        have hno: ∀ m,m≤nx+1→m∉ [q0+1+1]:=fun m hm h=>by have:=JM.1 h;omega
        have g4:H7.at' nx=some (pgO p):=(hH7 nx (hno _ (by omega))).trans (by repeat(first|exact ae|refine ab (by omega) ?_))
        have g5:H7.at' (nx+1)=some (fJ 0):=(hH7 _ (hno _ (by omega))).trans (by repeat(exact ae))
        refine⟨_,(by((apply Kc rfl (Ke (F.ag _ rfl) (by assumption) (bk hp)));apply Kc rfl (Kf (F.ag _ rfl) (by assumption) (aB rfl));exact Kb)),?_⟩
        exact hfin 0 _ _ _ (hv.trans (JG (by decide))) (by dsimp only;omega) fun m hm=>(hH7 m (hno _ (by omega))).trans (by(repeat(refine ab (by omega) ?_));exact i10 m hm)
       ·dsimp only at i1 i4 i5 i6 i8 i10 ⊢
        refine ku i1 (fun h=>by cases h) ?_
        dsimp only [lK]
        refine uJ Tryz.func43 (congrArg Array.toList Tryz.results43) (rs:= [q0+1+1]) rfl (fun r hr=>by rw [JM.1 hr];(focus((repeat(first|assumption|refine ab (by omega) ?_));done))) (by simp) ?_
        intro H7 hH7
        have hno: ∀ m,m≤nx+1→m∉ [q0+1+1]:=fun m hm h=>by have:=JM.1 h;omega
        have g4:H7.at' nx=some (pgO zeroP):=(hH7 nx (hno _ (by omega))).trans (by repeat(first|assumption|refine ab (by omega) ?_))
        have g5:H7.at' (nx+1)=some (fJ 13):=(hH7 _ (hno _ (by omega))).trans (by repeat(first|assumption|refine ab (by omega) ?_))
        refine⟨_,(by((apply Kc rfl (Ke (F.ag _ rfl) (by assumption) (bk ah)));apply Kc rfl (Kf (F.ag _ rfl) (by assumption) (aB rfl));exact Kb)),?_⟩
        exact hfin 13 _ _ _ (hv.trans (JH i9)) (by dsimp only;omega) fun m hm=>(hH7 m (hno _ (by omega))).trans (by(repeat(refine ab (by omega) ?_));exact i10 m hm)
theorem sd(hb:H.at' b=some (cT mem left puts))(hm:mem.length=131072)(hn:n<128):Fnc Tryz.prog 43 [tM b,.sc (.int .i64 (n:Int))] H nx (fun q=>q=(pgE (aU (az mem n)),H,nx)):=Fnc.bv (gU _) (G2 hb hm hn)
end
end Go.Proofs.YtnhmbonmlfeifaaGreat
end
