import Derived.Laws.StructEq
import Derived.ChangeKeysEq
import Derived.Test.YtnhmbonmlfeifaaGreatV3
set_option linter.unusedVariables false
set_option linter.unusedSimpArgs false
set_option maxRecDepth 100000
set_option maxHeartbeats 0
section
namespace Go.Proofs.YtnhmbonmlfeifaaGreat
open Go Go.Sy Go.Sl Go.RowKit
section
variable {H:au}{b n nx o:Nat}{l p:List UInt8}
abbrev pgS(p:List UInt8):List SV:=(byV p).map .sc
abbrev pgO(p:List UInt8):VO:=aq 27 (pgS p)
theorem be(h:p.length=n):(pgS p).length=n:=by simpa using h
def bf(p:List UInt8)(o:Nat)(l:List UInt8):List UInt8:=p.take o ++ l ++ p.drop (o+l.length)
theorem bM(h:o+l.length≤p.length):(bf p o l).length=p.length:=by
 unfold bf
 simp only [HW,Jh,Jk]
 omega
def gB(p:List UInt8)(at':Nat):Nat:=beN ((p.drop at').take 2)
def cm(p:List UInt8)(at' n:Nat):List UInt8:=bf p at' (beB n 2)
theorem bE(h:o+2≤p.length):(cm p o n).length=p.length:=bM (by rw [bp];exact h)
theorem cI(p:List UInt8)(o:Nat):gB p o<65536:=by
 have h1:=ml ((p.drop o).take 2)
 have h2:((p.drop o).take 2).length≤2:=by rw [Jh];omega
 have h3:256 ^ ((p.drop o).take 2).length≤256 ^ 2:=Nat.pow_le_pow_right (by decide) h2
 unfold gB
 omega
theorem nI{i:Nat}(hi:i<p.length):(pgO p).cell i=some (.sc (.int .u8 ((p[i]).toNat:Int))):=aD (by simp [hi])
theorem mE(hn:(byV l).length=n):(pgS p).take o ++ (byV l).map .sc ++ (pgS p).drop (o+n)=pgS (bf p o l):=by
 subst hn
 unfold bf
 simp [List.map_take,List.map_drop]
theorem mT{m C:Nat}(hb:H.at' b=some (pgO p))(h:o+m≤p.length):BsIs H (.sl b o m C) (byV ((p.drop o).take m)):=by
 have hl:(byV ((p.drop o).take m)).length=m:=by simp;omega
 refine⟨fun v hv=>?_,.inr (.inr ⟨b,o,C,_,by rw [hl],hb,?_⟩)⟩
 ·obtain⟨c,_,rfl⟩:=JA.1 hv
  rfl
 ·rw [hl]
  exact am _ o (by simp [List.map_take,List.map_drop]) (by simpa using hl)
theorem jg{r:Nat}{ro:Bool}(hb:H.at' r=some (dat ro n 1 5 (byV l)))(hn:l.length=n):BsIs H (.slu r 0 n) (byV l):=
 BsIs.row (fun v hv=>by obtain⟨c,_,rfl⟩:=JA.1 hv;rfl) hb (by simpa using hn)
theorem nK(hb:H.at' b=some (pgO p))(hp:p.length=1024)(ho:o+2≤1024):Fnc Tryz.prog 100 [.ptr b 0,.sc (.int .i64 (o:Int))] H nx (fun q=>q=(.sc (.int .i64 (gB p o:Int)),H,nx)):=by
 have hl:((p.drop o).take 2).length=2:=by simp;omega
 have hlt:=cI p o
 have hg: ∀ {nx C:Nat},Fnc Tryz.prog 102 [.sl b o 2 C] H nx (fun q=>q=(.tup [.sc (.int .u64 (gB p o:Int)),.sc (.int .i64 0)],H,nx)):=G0 (mT hb (by omega)) (by omega) (by omega)
 refine JH Tryz.func100 rfl rfl ?_
 repeat first|apply aj;rfl|apply aK;rfl;omega;omega|apply kL (lw:=o) (hg:=o+2);rfl;rfl;rfl;exact(F.un _ rfl);exact(F.sz _ rfl);rfl;rfl;(focus(omega));(focus(omega));(focus(omega));exact(show o+2-o=2 by omega);rfl;exact(Jf o)|apply bY;rfl;kernel_rfl;exact hg|refine cc (bR (F.un _ rfl) (F.un _ rfl) rfl (show _=((gB p o:Nat):Int)from Hu _ ⟨by omega,by omega⟩)) rfl rfl rfl ?_
 (apply bP Tryz.func100 Tryz.results100;rfl)
 rfl
abbrev ae(p:List UInt8):Nat:=gB p 14
abbrev aE(p:List UInt8):Nat:=gB p 16
theorem iK(hb:H.at' b=some (pgO p))(hp:p.length=1024):Fnc Tryz.prog 64 [.ptr b 0] H nx (fun q=>q=(.sc (.int .i64 (ae p:Int)),H,nx)):=by
 refine JH Tryz.func64 rfl rfl ?_
 repeat first|apply aj;rfl|apply bY;rfl;kernel_rfl;exact nK (o:=14) hb hp (by decide)
 (apply bP Tryz.func64 Tryz.results64;rfl)
 rfl
theorem qX(hb:H.at' b=some (pgO p))(hp:p.length=1024):Fnc Tryz.prog 70 [.ptr b 0] H nx (fun q=>q=(.sc (.int .i64 (aE p:Int)),H,nx)):=by
 refine JH Tryz.func70 rfl rfl ?_
 repeat first|apply aj;rfl|apply bY;rfl;kernel_rfl;exact nK (o:=16) hb hp (by decide)
 (apply bP Tryz.func70 Tryz.results70;rfl)
 rfl
abbrev DX(f:Nat):SV:= .fn (.func 101) [] [.ptr f 0]
abbrev Bm(b:Nat):VO:=aq 128 [.ptr b 0]
theorem l5:Fnc Tryz.prog 80 [.ptr b 0] H nx (fun q=>q=(DX nx,H.set nx (Bm b),nx+1)):=by
 refine JH Tryz.func80 rfl rfl ?_
 repeat apply aj;rfl
 (apply bP Tryz.func80 Tryz.results80;rfl)
 rfl
abbrev ay(p:List UInt8)(n:Nat):Nat:=gB p (18+4*n)
abbrev ar(p:List UInt8)(n:Nat):Nat:=gB p (18+4*n+2)
theorem nR{f:Nat}(hf:H.at' f=some (Bm b))(hb:H.at' b=some (pgO p))(hp:p.length=1024)(hn:18+4*n+4≤1024):Fnc Tryz.prog 101 [.sc (.int .i64 (n:Int)),.ptr f 0] H nx
 (fun q=>q=(.tup [.sc (.int .i64 (ay p n:Int)),.sc (.int .i64 (ar p n:Int))],H,nx)):=by
 have h1: ∀ nx,Fnc Tryz.prog 100 [.ptr b 0,.sc (.int .i64 (18+4*(n:Int)))] H nx (fun q=>q=(.sc (.int .i64 (ay p n:Int)),H,nx)):=fun nx=>by
  have:=nK (nx:=nx) (o:=18+4*n) hb hp (by omega)
  rw [show((18+4*n:Nat):Int)=18+4*(n:Int) by omega] at this
  exact this
 have h2: ∀ nx,Fnc Tryz.prog 100 [.ptr b 0,.sc (.int .i64 (18+4*(n:Int)+2))] H nx (fun q=>q=(.sc (.int .i64 (ar p n:Int)),H,nx)):=fun nx=>by
  have:=nK (nx:=nx) (o:=18+4*n+2) hb hp (by omega)
  rw [show((18+4*n+2:Nat):Int)=18+4*(n:Int)+2 by omega] at this
  exact this
 refine JH Tryz.func101 rfl rfl ?_
 repeat first|apply aj;rfl|apply aK;rfl;omega;omega
 (apply cj;(focus(kernel_rfl));(focus(kernel_rfl)))
 repeat first|apply aU;rfl|refine bk (aw rfl rfl (.inl ⟨rfl,(Hu _ ⟨(by focus(omega)),(by focus(omega))⟩).symm⟩)) rfl rfl rfl ?_|refine bk (an (F.ag _ rfl) rfl hf (aD rfl)) rfl rfl rfl ?_|apply bW;rfl;rfl;rfl;(focus(kernel_rfl));exact(h1 _)|apply bW;rfl;rfl;rfl;(focus(kernel_rfl));exact(h2 _)
 refine aA ⟨by kernel_rfl,?_,?_⟩;(focus(repeat(first|exact JR|apply fk;rfl|apply eI;rfl|refine⟨.inr (by(repeat(refine⟨(by first|exact aw rfl rfl (.inl ⟨rfl,(Hu _ ⟨by omega,by omega⟩).symm⟩)|exact an (F.ag _ rfl) rfl (by assumption) (aD rfl)),?_⟩));exact JR),?_⟩)))
 (apply bP Tryz.func101 Tryz.results101;rfl)
 rfl
theorem pd(hb:H.at' b=some (pgO p))(hp:p.length=1024)(ho:o+2≤1024)(hn:n<65536):Fnc Tryz.prog 66 [.ptr b 0,.sc (.int .i64 (o:Int)),.sc (.int .i64 (n:Int))] H nx
 (fun q=>q.1 = .tup []∧q.2.1.at' b=some (pgO (cm p o n))∧nx≤q.2.2∧ ∀ m,m<nx→m≠b→q.2.1.at' m=H.at' m):=by
 refine JH Tryz.func66 rfl rfl ?_
 refine aW fun hund=>?_
 have hlt:=hund _ _ hb
 repeat first|apply aj;rfl|refine cc (bR (F.un _ rfl) (F.un _ rfl) rfl (show _=((n:Nat):Int)from JC _ ⟨by omega,by omega⟩)) rfl rfl rfl ?_
 refine aL rfl rfl rfl (by kernel_rfl) (JG (AS (n:=n) (size:=2) (by omega) (by decide) (by decide) (by omega)) ?_)
 rintro⟨_,H2,n2⟩ ⟨rfl,h2,rfl,h4⟩
 dsimp only at h2 h4 ⊢
 have hb2:=(h4 b hlt).trans hb
 repeat first|apply aj;rfl|apply aK;rfl;omega;omega|apply kL (lw:=o) (hg:=o+2);rfl;rfl;rfl;exact(F.un _ rfl);exact(F.sz _ rfl);rfl;rfl;(focus(omega));(focus(omega));(focus(omega));exact(show o+2-o=2 by omega);rfl;exact(Jf o)|refine cc (di rfl rfl (.inl ⟨rfl,rfl⟩)) rfl rfl rfl ?_
 refine nT rfl rfl rfl rfl (F.un _ rfl) (F.sz _ rfl) hb2 (jg h2 (by rw [bp])) (by simp [bp]) (by simp [bp];omega) ?_
 repeat apply aj;rfl
 (apply B0 Tryz.func66 Tryz.results66;rfl)
 refine⟨rfl,?_,Jb _,fun m hm hmb=>(aa _ _ hmb).trans (h4 m hm)⟩
 rw [ah,mE (by simp [bp])]
 rfl
def bK(p:List UInt8)(n a s:Nat):List UInt8:=cm (cm p (18+4*n) a) (18+4*n+2) s
theorem fw{a s:Nat}(h:18+4*n+4≤p.length):(bK p n a s).length=p.length:=by
 unfold bK
 rw [bE,bE (by omega)]
 rw [bE (by omega)]
 omega
theorem qn(hb:H.at' b=some (pgO p))(hp:p.length=1024){a s:Nat}(hn:18+4*n+4≤1024)(ha:a<65536)(hs:s<65536):Fnc Tryz.prog 65 [.ptr b 0,.sc (.int .i64 (n:Int)),.sc (.int .i64 (a:Int)),.sc (.int .i64 (s:Int))] H nx
 (fun q=>q.1 = .tup []∧q.2.1.at' b=some (pgO (bK p n a s))∧nx≤q.2.2∧ ∀ m,m<nx→m≠b→q.2.1.at' m=H.at' m):=by
 have h1: ∀ {H:au} {nx:Nat},H.at' b=some (pgO p)→Fnc Tryz.prog 66 [.ptr b 0,.sc (.int .i64 (18+4*(n:Int))),.sc (.int .i64 (a:Int))] H nx _:=fun {H nx} hb=>by
  have:=pd (nx:=nx) (o:=18+4*n) hb hp (by omega) ha
  rw [show((18+4*n:Nat):Int)=18+4*(n:Int) by omega] at this
  exact this
 have h2: ∀ {H:au} {nx:Nat},H.at' b=some (pgO (cm p (18+4*n) a))→Fnc Tryz.prog 66 [.ptr b 0,.sc (.int .i64 (18+4*(n:Int)+2)),.sc (.int .i64 (s:Int))] H nx _:=fun {H nx} hb=>by
  have:=pd (nx:=nx) (o:=18+4*n+2) hb (by rw [bE (by omega)];exact hp) (by omega) hs
  rw [show((18+4*n+2:Nat):Int)=18+4*(n:Int)+2 by omega] at this
  exact this
 refine JH Tryz.func65 rfl rfl ?_
 refine aW fun hund=>?_
 have hlt:=hund _ _ hb
 repeat first|apply aj;rfl|apply aK;rfl;omega;omega
 refine aL rfl rfl rfl (by kernel_rfl) (JG (h1 hb) ?_)
 rintro⟨_,H2,n2⟩ ⟨rfl,g2,g3,g4⟩
 dsimp only at g2 g3 g4 ⊢
 repeat first|apply aj;rfl|apply aK;rfl;omega;omega
 refine aL rfl rfl rfl (by kernel_rfl) (JG (h2 g2) ?_)
 rintro⟨_,H3,n3⟩ ⟨rfl,k2,k3,k4⟩
 dsimp only at k2 k3 k4 ⊢
 repeat apply aj;rfl
 (apply B0 Tryz.func65 Tryz.results65;rfl)
 exact⟨rfl,k2,Ja g3 k3,fun m hm hmb=>(k4 m (by omega) hmb).trans (g4 m hm hmb)⟩
theorem sx:Fnc Tryz.prog 68 [.sc (.int .i64 (n:Int))] H nx (fun q=>q=(.sc (.bool (decide (1≤n∧n≤1000))),H,nx)):=by
 refine JH Tryz.func68 rfl rfl ?_
 (repeat' (first|apply aj;rfl|(refine er rfl rfl rfl rfl ?_ ?_ <;> intro hq)|(refine px rfl rfl rfl rfl ?_ ?_ <;> intro hq2)))
 all_goals(apply bP Tryz.func68 Tryz.results68;rfl)
 all_goals first|(rw [Jw (by omega)];rfl)|(rw [Jx (by omega)];rfl)
def zeroP:List UInt8:=List.replicate 1024 0
theorem ai:zeroP.length=1024:=Jq
def fy(k:UInt8):List UInt8:=cm (zeroP.set 12 k) 16 1024
theorem fL(k:UInt8):(fy k).length=1024:=by
 unfold fy
 rw [bE (by rw [List.length_set,ai];decide),List.length_set,ai]
theorem ce:rg Tryz.prog 27=some (pgS zeroP):=by kernel_rfl
theorem kU(a b:List UInt8)(ha:a.length=1024)(hb:b.length=1024):List.take 0 (pgS a) ++ (SV.agg (pgS b)).cells ++ List.drop (0+1024) (pgS a)=pgS b:=by
 rw [List.take_zero,List.nil_append,Jf,List.drop_of_length_le (by simp [ha]),Jr]
 rfl
theorem iv(p:List UInt8):bh (pgS p)=true:=by
 induction p with
 | nil=>rfl
 | cons c p ih=>exact ih
theorem bm(hp:p.length=1024):(pgO p).cellsFrom 0 1024=some (pgS p):=
 am _ 0 (by rw [List.drop_zero,HK (by simp [hp])]) (by simp [hp])
theorem lG(p:List UInt8)(i:Nat)(c:UInt8):(pgS p).set i (.sc (.int .u8 (c.toNat:Int)))=pgS (p.set i c):=by simp [List.map_set]
end
section
variable {ro:Option Nat} {fn nt nx d b:Nat} {T:Tr SV} {k k':List AIt} {dfs:List ADf} {H:au} {Q:Pst} {p q:List UInt8}
theorem bq(hp:p.length=1024)(h:ldW xh nt T k=some (b,1024,d,k'))(hb:H.at' b=some (pgO p))(hw:Wp Tryz.prog ro ⟨fn,nt,T.set d (.agg (pgS p)),k',dfs,H,nx⟩ Q):Wp Tryz.prog ro ⟨fn,nt,T,k,dfs,H,nx⟩ Q:=w_ldW jn h hb (be hp) hw
theorem bC(hp:p.length=1024)(hq:q.length=1024)(h:stW xh nt T k=some (b,1024,pgS p,k'))(hb:H.at' b=some (pgO q))(hw:Wp Tryz.prog ro ⟨fn,nt,T,k',dfs,H.set b (pgO p),nx⟩ Q):Wp Tryz.prog ro ⟨fn,nt,T,k,dfs,H,nx⟩ Q:=w_stW jn h hb (be hp) (be hq) (iv p) hw
end
section
variable {H:au}{a b i n nx o:Nat}{ls:List SV}{l p:List UInt8}{seen:List (Nat×Nat)}{bs:List (List Value)}
theorem Dt(hi:i<p.length)(c:UInt8):List.take i (pgS p) ++ (SV.sc (.int .u8 (c.toNat:Int))).cells ++ List.drop (i+1) (pgS p)=pgS (p.set i c):=by
 rw [← lG,List.set_eq_take_append_cons_drop,Je (by simpa using hi)]
 simp [SV.cells]
theorem GY(k:UInt8):Fnc Tryz.prog 86 [.sc (.int .u8 (k.toNat:Int))] H nx (fun q=>q.1 = .agg (pgS (fy k))∧nx≤q.2.2∧ ∀ m,m<nx→q.2.1.at' m=H.at' m):=by
 refine JH Tryz.func86 rfl rfl ?_
 have hl0:(pgS zeroP).length=1024:=by rw [Ji,Ji];exact ai
 repeat first|apply aj;rfl|apply aG;rfl;(focus((repeat(exact ac));done));rfl|refine aY rfl rfl ce ?_|apply eR (q:=12);rfl;rfl;rfl;rfl;exact(F.un _ rfl);exact(F.sz _ rfl);(focus(omega));(focus(omega))
 rw [Dt (p:=zeroP) (i:=0+12*1) (by rw [ai];decide) k,show 0+12*1=12 from rfl]
 refine aL rfl rfl rfl (by kernel_rfl) (JG (pd (b:=nx+1) (p:=zeroP.set 12 k) (o:=16) (n:=1024) (by repeat(exact ac)) (by rw [List.length_set];exact ai) (by decide) (by decide)) ?_)
 rintro⟨_,H2,n2⟩ ⟨rfl,g2,g3,g4⟩
 dsimp only at g2 g3 g4 ⊢
 have hres:H2.at' nx=some (pgO zeroP):=(g4 nx (by omega) (by omega)).trans (by repeat(first|exact ac|refine ab (by omega) ?_))
 have hl:(fy k).length=1024:=fL k
 repeat first|apply aj;rfl|apply aG;rfl;assumption;rfl
 rw [show cm (zeroP.set 12 k) 16 1024=fy k from rfl,kU zeroP (fy k) ai hl]
 ((apply bn Tryz.func86 (congrArg Array.toList Tryz.results86));(focus((apply JJ rfl (JL (F.ag _ rfl) (by repeat(exact ac)) (bm hl)));(repeat(exact JI)))))
 exact⟨rfl,by dsimp only;omega,fun m hm=>(aa _ _ (by omega)).trans ((g4 m (by omega) (by omega)).trans (by(repeat(refine ab (by omega) ?_));rfl))⟩
theorem GX(k:UInt8):Fnc Tryz.prog 86 [.sc (.int .u8 (k.toNat:Int))] H nx (fun q=>q=(.agg (pgS (fy k)),H,nx)):=Fnc.bu (Free.agg _) (GY k)
def cH(seen:List (Nat×Nat))(i:Nat):Bool:=seen.any fun x=>decide (x.1≤i∧i<x.1+x.2)
def t8(seen:List (Nat×Nat))(a s:Nat):Bool:=(List.range s).any fun j=>cH seen (a+j)
def eZ(p:List UInt8):Nat→Nat→List (Nat×Nat)→Bool→Bool
 | 0,_,_,fine=>fine
 | k+1,n,seen,_=>
   if ay p n=0∧ar p n=0 then eZ p k (n+1) seen (decide (n+1<ae p))
   else if ar p n<1∨1000<ar p n∨ay p n<aE p∨1024<ay p n+ar p n then false
   else if t8 seen (ay p n) (ar p n) then false else eZ p k (n+1) ((ay p n,ar p n) :: seen) true
def bl(p:List UInt8):Bool:=decide (18+4*ae p≤aE p∧aE p≤1024) && eZ p (ae p) 0 [] true
abbrev Ei(f:Nat→Bool):List SV:=(List.range 1024).map fun i=> .sc (.bool (f i))
abbrev Ej(f:Nat→Bool):VO:=aq 163 (Ei f)
theorem zTak:rg Tryz.prog 163=some (Ei fun _=>false):=by kernel_rfl
theorem uE(f:Nat→Bool)(hi:i<1024):(Ej f).cell i=some (.sc (.bool (f i))):=aD (by simp [hi])
theorem v9(seen:List (Nat×Nat))(a:Nat):cH ((a,0) :: seen)=cH seen:=by
 funext i
 simp only [cH,List.any_cons,Nat.add_zero]
 rw [Jx (by omega),Bool.false_or]
theorem CA(seen:List (Nat×Nat))(h:a≤i):cH ((a,i-a) :: seen) i=cH seen i:=by
 simp only [cH,List.any_cons]
 rw [Jx (by omega),Bool.false_or]
theorem xS(h:a≤i):(Ei (cH ((a,i-a) :: seen))).set i (.sc (.bool true))=Ei (cH ((a,i+1-a) :: seen)):=by
 refine Jy fun j=>?_
 rw [List.getElem?_set,Ju,Ju,Ji,List.length_range]
 rcases Jg j 1024 with hj|hj
 ·rw [List.getElem?_range hj]
  by_cases he:i=j
  ·subst he
   rw [Je rfl,Je hj]
   simp only [HY,cH,List.any_cons]
   rw [Jw (by omega),Bool.true_or]
  ·rw [Jd he]
   simp only [HY,cH,List.any_cons]
   rw [show decide (a≤j∧j<a+(i-a))=decide (a≤j∧j<a+(i+1-a))from decide_eq_decide.2 (by omega)]
 ·rw [JB (by simpa using hj)]
  by_cases he:i=j
  ·subst he
   rw [Je rfl,Jd (by omega)]
   rfl
  ·rw [Jd he]
   rfl
theorem lU{s:Nat}(h1:a≤i)(h2:i<a+s)(h:cH seen i=true):t8 seen a s=true:=by
 unfold t8
 rw [List.any_eq_true]
 exact⟨i-a,Jz.2 (by omega),by rw [show a+(i-a)=i by omega];exact h⟩
theorem vu{s:Nat}(h: ∀ j,a≤j→j<a+s→cH seen j=false):t8 seen a s=false:=by
 unfold t8
 rw [List.any_eq_false]
 intro j hj
 rw [h (a+j) (by omega) (by have:=Jz.1 hj;omega)]
 decide
theorem Dd(hb:H.at' b=some (pgO p))(hp:p.length=1024):Fnc Tryz.prog 63 [.ptr b 0] H nx (fun q=>q.1 = .sc (.bool (bl p))∧nx≤q.2.2∧ ∀ m,m<nx→q.2.1.at' m=H.at' m):=by
 have hs:ae p<65536:=cI p 14
 have hg:aE p<65536:=cI p 16
 refine JH Tryz.func63 rfl rfl ?_
 refine aW fun hund=>?_
 have hlt:=hund _ _ hb
 repeat first|apply aj;rfl|apply aK;rfl;omega;omega|apply bY;rfl;kernel_rfl;exact iK hb hp|apply bY;rfl;kernel_rfl;exact qX hb hp
 refine bi rfl rfl rfl rfl (fun h1=>?_) (fun h1=>?_)
 ·repeat apply aj;rfl
  (apply bP Tryz.func63 Tryz.results63;rfl)
  refine⟨?_,HS _,fun m _=>rfl⟩
  unfold bl
  rw [Jx (by omega)]
  rfl
 repeat apply aj;rfl
 refine ej rfl rfl rfl rfl (fun h2=>?_) (fun h2=>?_)
 ·repeat apply aj;rfl
  (apply bP Tryz.func63 Tryz.results63;rfl)
  refine⟨?_,HS _,fun m _=>rfl⟩
  unfold bl
  rw [Jx (by omega)]
  rfl
 have hrp:bl p=eZ p (ae p) 0 [] true:=by
  unfold bl
  rw [Jw (by omega),Bool.true_and]
 rw [hrp]
 repeat first|apply aj;rfl|apply bY;rfl;kernel_rfl;exact l5|refine aY rfl rfl zTak ?_
 refine bv (α:=Nat×List (Nat×Nat)×Bool) (fun x=> [(0,.ptr b 0),(3,.sc (.int .i64 (ae p:Int))),(4,.sc (.int .i64 (aE p:Int))),(5,DX nx),(6,.ptr (nx+1) 0),(7,.sc (.bool x.2.2)),(27,.sc (.int .i64 (ae p:Int))),(28,.sc (.int .i64 (x.1:Int)))])
  (fun x H1 n1=>n1=nx+1+1∧x.1≤ae p∧eZ p (ae p-x.1) x.1 x.2.1 x.2.2=eZ p (ae p) 0 [] true∧H1.at' nx=some (Bm b)∧H1.at' (nx+1)=some (Ej (cH x.2.1))∧ ∀ m,m<nx→H1.at' m=H.at' m) (fun x=>ae p-x.1) (0,[],true)
  ⟨rfl,HT _,rfl,by repeat(first|exact ac|refine ab (by omega) ?_),ah _ _ _,fun m hm=>(aa _ _ (by omega)).trans (aa _ _ (by omega))⟩ (JN (JQ rfl)) ?_
 rintro⟨n,seen,fine⟩ H1 n1 ⟨rfl,h3,h4,h5,h6,h7⟩ ih
 dsimp only at h3 h4 h5 h6 h7 ih ⊢
 have hb1:=(h7 b hlt).trans hb
 have ha0:ay p n<65536:=cI p _
 have hz0:ar p n<65536:=cI p _
 repeat apply aj;rfl
 refine bi rfl rfl rfl rfl (fun h8=>?_) (fun h8=>?_)
 ·have hn:n<ae p:=by omega
  have hgo:eZ p (ae p-n) n seen fine=if ay p n=0∧ar p n=0 then eZ p (ae p-(n+1)) (n+1) seen (decide (n+1<ae p))
   else if ar p n<1∨1000<ar p n∨ay p n<aE p∨1024<ay p n+ar p n then false
   else if t8 seen (ay p n) (ar p n) then false else eZ p (ae p-(n+1)) (n+1) ((ay p n,ar p n) :: seen) true:=by
   rw [show ae p-n=(ae p-(n+1))+1 by omega]
   rfl
  repeat apply aj;rfl
  refine jm rfl rfl rfl rfl (by kernel_rfl) (JG (nR h5 hb1 hp (n:=n) (by omega)) ?_)
  rintro _ rfl
  dsimp only
  repeat apply aj;rfl
  by_cases hE:ay p n=0∧ar p n=0
  ·refine cF rfl rfl rfl rfl (fun _=>?_) (fun hq=>absurd (by omega) hq)
   repeat apply aj;rfl
   refine cF rfl rfl rfl rfl (fun _=>?_) (fun hq=>absurd (by omega) hq)
   repeat first|apply aj;rfl|apply aK;rfl;omega;omega|refine cc (di rfl rfl (.inr (.inr (.inl ⟨rfl,rfl⟩)))) rfl rfl rfl ?_
   refine ih _ _ _ (n+1,seen,decide (n+1<ae p)) ⟨rfl,hn,?_,h5,h6,h7⟩ (by omega) ?_
   ·rw [← h4,hgo,Je hE]
   ·rw [show decide ((n:Int)<(ae p:Int)-1)=decide (n+1<ae p)from decide_eq_decide.2 (by omega)]
    exact JN (by repeat(first|exact JR|refine⟨rfl,?_⟩))
  ·have hgo2:=hgo
   rw [Jd hE] at hgo2
   refine cF rfl rfl rfl rfl (fun e1=>?_) (fun e1=>?_)
   ·repeat apply aj;rfl
    refine cF rfl rfl rfl rfl (fun hq=>absurd hq (by omega)) (fun _=>?_)
    repeat apply aj;rfl
    refine bi rfl rfl rfl rfl (fun c1=>?_) (fun c1=>?_)
    ·(repeat(apply aj;rfl));(apply bP Tryz.func63 Tryz.results63;rfl);exact⟨by rw [← h4,hgo2,Je (by omega)];rfl,by dsimp only;omega,h7⟩
    repeat apply aj;rfl
    refine ej rfl rfl rfl rfl (fun c2=>?_) (fun c2=>?_)
    ·(repeat(apply aj;rfl));(apply bP Tryz.func63 Tryz.results63;rfl);exact⟨by rw [← h4,hgo2,Je (by omega)];rfl,by dsimp only;omega,h7⟩
    repeat apply aj;rfl
    refine bi rfl rfl rfl rfl (fun c3=>?_) (fun c3=>?_)
    ·(repeat(apply aj;rfl));(apply bP Tryz.func63 Tryz.results63;rfl);exact⟨by rw [← h4,hgo2,Je (by omega)];rfl,by dsimp only;omega,h7⟩
    repeat first|apply aj;rfl|apply aK;rfl;omega;omega
    refine ej rfl rfl rfl rfl (fun c4=>?_) (fun c4=>?_)
    ·(repeat(apply aj;rfl));(apply bP Tryz.func63 Tryz.results63;rfl);exact⟨by rw [← h4,hgo2,Je (by omega)];rfl,by dsimp only;omega,h7⟩
    rw [Jd (by omega)] at hgo2
    repeat apply aj;rfl
    refine bv (α:=Nat) (fun i=> [(0,.ptr b 0),(3,.sc (.int .i64 (ae p:Int))),(4,.sc (.int .i64 (aE p:Int))),(5,DX nx),(6,.ptr (nx+1) 0),(8,.sc (.int .i64 (n:Int))),(9,.sc (.int .i64 (ay p n:Int))),(10,.sc (.int .i64 (ar p n:Int))),(11,.sc (.int .i64 (i:Int))),(27,.sc (.int .i64 (ae p:Int))),(28,.sc (.int .i64 (n:Int)))])
     (fun i H2 n2=>n2=nx+1+1∧ay p n≤i∧i≤ay p n+ar p n∧(∀ j,ay p n≤j→j<i→cH seen j=false)∧H2.at' nx=some (Bm b)∧H2.at' (nx+1)=some (Ej (cH ((ay p n,i-ay p n) :: seen)))∧ ∀ m,m<nx→H2.at' m=H.at' m) (fun i=>ay p n+ar p n-i) (ay p n)
     ⟨rfl,HS _,by omega,fun j g1 g2=>absurd g1 (by omega),h5,by rw [Nat.sub_self];exact h6.trans (congrArg (fun f=>some (Ej f)) (v9 _ _).symm),h7⟩ (JN (JQ rfl)) ?_
    rintro i H2 n2 ⟨rfl,g1,g2,g3,g4,g5,g6⟩ ih2
    repeat first|apply aj;rfl|apply aK;rfl;omega;omega
    refine bi rfl rfl rfl rfl (fun c5=>?_) (fun c5=>?_)
    ·have hi:i<1024:=by omega
     have hc:=uE (cH ((ay p n,i-ay p n) :: seen)) hi
     rw [CA seen g1] at hc
     cases hci:cH seen i with
     | true=>
       rw [hci] at hc
       repeat first|apply aj;rfl|apply eR (q:=i);rfl;rfl;rfl;rfl;exact(F.un _ rfl);exact(F.sz _ rfl);(focus(omega));(focus(omega))|refine cc (an (F.ag _ rfl) rfl g5 (by rw [Jf,Nat.mul_one];exact hc)) rfl rfl rfl ?_
       (apply bP Tryz.func63 Tryz.results63;rfl)
       exact⟨by rw [← h4,hgo2,Je (lU (by omega) (by omega) hci)];rfl,by dsimp only;omega,g6⟩
     | false=>
       rw [hci] at hc
       repeat first|apply aj;rfl|apply eR (q:=i);rfl;rfl;rfl;rfl;exact(F.un _ rfl);exact(F.sz _ rfl);(focus(omega));(focus(omega))|refine cc (an (F.ag _ rfl) rfl g5 (by rw [Jf,Nat.mul_one];exact hc)) rfl rfl rfl ?_
       refine dg (v:= .sc (.bool true)) (cs:=Ei (cH ((ay p n,i-ay p n) :: seen))) rfl rfl rfl (F.sz _ rfl) g5 rfl (by rw [Jf,Nat.mul_one];exact HG (by rw [Ji,List.length_range];exact hi)) ?_
       rw [Jf,Nat.mul_one,xS g1]
       repeat first|apply aj;rfl|apply aK;rfl;omega;omega
       refine ih2 _ _ _ (i+1) ⟨rfl,by omega,by omega,fun j k1 k2=>?_,(aa _ _ (by omega)).trans g4,ah _ _ _,fun m hm=>(aa _ _ (by omega)).trans (g6 m hm)⟩ (by omega) (JN (JQ rfl))
       rcases Jg j i with k3|k3
       ·exact g3 j k1 k3
       ·obtain rfl:j=i:=by omega
        exact hci
    ·obtain rfl:i=ay p n+ar p n:=by omega
     rw [Nat.add_sub_cancel_left] at g5
     rw [Jd (by rw [vu g3];decide)] at hgo2
     repeat first|apply aj;rfl|apply aK;rfl;omega;omega
     exact ih _ _ _ (n+1,(ay p n,ar p n) :: seen,true) ⟨rfl,hn,by rw [← h4,hgo2],g4,g5,g6⟩ (by omega) (JN (JQ rfl))
   ·repeat apply aj;rfl
    refine bi rfl rfl rfl rfl (fun c1=>?_) (fun c1=>?_)
    ·(repeat(apply aj;rfl));(apply bP Tryz.func63 Tryz.results63;rfl);exact⟨by rw [← h4,hgo2,Je (by omega)];rfl,by dsimp only;omega,h7⟩
    repeat apply aj;rfl
    refine ej rfl rfl rfl rfl (fun c2=>?_) (fun c2=>?_)
    ·(repeat(apply aj;rfl));(apply bP Tryz.func63 Tryz.results63;rfl);exact⟨by rw [← h4,hgo2,Je (by omega)];rfl,by dsimp only;omega,h7⟩
    repeat apply aj;rfl
    refine bi rfl rfl rfl rfl (fun c3=>?_) (fun c3=>?_)
    ·(repeat(apply aj;rfl));(apply bP Tryz.func63 Tryz.results63;rfl);exact⟨by rw [← h4,hgo2,Je (by omega)];rfl,by dsimp only;omega,h7⟩
    repeat first|apply aj;rfl|apply aK;rfl;omega;omega
    refine ej rfl rfl rfl rfl (fun c4=>?_) (fun c4=>?_)
    ·(repeat(apply aj;rfl));(apply bP Tryz.func63 Tryz.results63;rfl);exact⟨by rw [← h4,hgo2,Je (by omega)];rfl,by dsimp only;omega,h7⟩
    rw [Jd (by omega)] at hgo2
    repeat apply aj;rfl
    refine bv (α:=Nat) (fun i=> [(0,.ptr b 0),(3,.sc (.int .i64 (ae p:Int))),(4,.sc (.int .i64 (aE p:Int))),(5,DX nx),(6,.ptr (nx+1) 0),(8,.sc (.int .i64 (n:Int))),(9,.sc (.int .i64 (ay p n:Int))),(10,.sc (.int .i64 (ar p n:Int))),(11,.sc (.int .i64 (i:Int))),(27,.sc (.int .i64 (ae p:Int))),(28,.sc (.int .i64 (n:Int)))])
     (fun i H2 n2=>n2=nx+1+1∧ay p n≤i∧i≤ay p n+ar p n∧(∀ j,ay p n≤j→j<i→cH seen j=false)∧H2.at' nx=some (Bm b)∧H2.at' (nx+1)=some (Ej (cH ((ay p n,i-ay p n) :: seen)))∧ ∀ m,m<nx→H2.at' m=H.at' m) (fun i=>ay p n+ar p n-i) (ay p n)
     ⟨rfl,HS _,by omega,fun j g1 g2=>absurd g1 (by omega),h5,by rw [Nat.sub_self];exact h6.trans (congrArg (fun f=>some (Ej f)) (v9 _ _).symm),h7⟩ (JN (JQ rfl)) ?_
    rintro i H2 n2 ⟨rfl,g1,g2,g3,g4,g5,g6⟩ ih2
    repeat first|apply aj;rfl|apply aK;rfl;omega;omega
    refine bi rfl rfl rfl rfl (fun c5=>?_) (fun c5=>?_)
    ·have hi:i<1024:=by omega
     have hc:=uE (cH ((ay p n,i-ay p n) :: seen)) hi
     rw [CA seen g1] at hc
     cases hci:cH seen i with
     | true=>
       rw [hci] at hc
       repeat first|apply aj;rfl|apply eR (q:=i);rfl;rfl;rfl;rfl;exact(F.un _ rfl);exact(F.sz _ rfl);(focus(omega));(focus(omega))|refine cc (an (F.ag _ rfl) rfl g5 (by rw [Jf,Nat.mul_one];exact hc)) rfl rfl rfl ?_
       (apply bP Tryz.func63 Tryz.results63;rfl)
       exact⟨by rw [← h4,hgo2,Je (lU (by omega) (by omega) hci)];rfl,by dsimp only;omega,g6⟩
     | false=>
       rw [hci] at hc
       repeat first|apply aj;rfl|apply eR (q:=i);rfl;rfl;rfl;rfl;exact(F.un _ rfl);exact(F.sz _ rfl);(focus(omega));(focus(omega))|refine cc (an (F.ag _ rfl) rfl g5 (by rw [Jf,Nat.mul_one];exact hc)) rfl rfl rfl ?_
       refine dg (v:= .sc (.bool true)) (cs:=Ei (cH ((ay p n,i-ay p n) :: seen))) rfl rfl rfl (F.sz _ rfl) g5 rfl (by rw [Jf,Nat.mul_one];exact HG (by rw [Ji,List.length_range];exact hi)) ?_
       rw [Jf,Nat.mul_one,xS g1]
       repeat first|apply aj;rfl|apply aK;rfl;omega;omega
       refine ih2 _ _ _ (i+1) ⟨rfl,by omega,by omega,fun j k1 k2=>?_,(aa _ _ (by omega)).trans g4,ah _ _ _,fun m hm=>(aa _ _ (by omega)).trans (g6 m hm)⟩ (by omega) (JN (JQ rfl))
       rcases Jg j i with k3|k3
       ·exact g3 j k1 k3
       ·obtain rfl:j=i:=by omega
        exact hci
    ·obtain rfl:i=ay p n+ar p n:=by omega
     rw [Nat.add_sub_cancel_left] at g5
     rw [Jd (by rw [vu g3];decide)] at hgo2
     repeat first|apply aj;rfl|apply aK;rfl;omega;omega
     exact ih _ _ _ (n+1,(ay p n,ar p n) :: seen,true) ⟨rfl,hn,by rw [← h4,hgo2],g4,g5,g6⟩ (by omega) (JN (JQ rfl))
 ·obtain rfl:n=ae p:=by omega
  rw [Nat.sub_self] at h4
  have h4:fine=eZ p (ae p) 0 [] true:=h4
  repeat apply aj;rfl
  (apply bP Tryz.func63 Tryz.results63;rfl)
  exact⟨by rw [← h4];rfl,by dsimp only;omega,h7⟩
theorem gi(hb:H.at' b=some (pgO p))(hp:p.length=1024):Fnc Tryz.prog 63 [.ptr b 0] H nx (fun q=>q=(.sc (.bool (bl p)),H,nx)):=Fnc.bu (fun _ _ _ h=>h) (Dd hb hp)
def dv(p:List UInt8):Nat→Nat→Nat
 | 0,n=>n
 | k+1,n=>if ar p n=0 then n else dv p k (n+1)
def ba(p:List UInt8):Nat:=dv p (ae p) 0
theorem pO(p:List UInt8): ∀ k n,dv p k n≤n+k
 | 0,n=>HS _
 | k+1,n=>by
   unfold dv
   split
   ·omega
   ·have:=pO p k (n+1);omega
theorem oL(p:List UInt8):ba p≤ae p:=by have:=pO p (ae p) 0;unfold ba;omega
def w8(p:List UInt8):Prop:=p.length=1024∧18+4*ae p≤aE p∧aE p≤1024
theorem fA(hp:p.length=1024)(h:bl p=true):w8 p:=by
 unfold bl at h
 rw [HR,JE] at h
 exact⟨hp,h.1⟩
theorem D2(hb:H.at' b=some (pgO p))(hp:w8 p):Fnc Tryz.prog 69 [.ptr b 0] H nx (fun q=>q.1 = .sc (.int .i64 (ba p:Int))∧nx≤q.2.2∧ ∀ m,m<nx→q.2.1.at' m=H.at' m):=by
 obtain⟨hp,hp1,hp2⟩:=hp
 have hs:ae p<65536:=cI p 14
 refine JH Tryz.func69 rfl rfl ?_
 refine aW fun hund=>?_
 have hlt:=hund _ _ hb
 have hb0: ∀ {vo:VO},(H.set nx vo).at' b=some (pgO p):=fun {vo}=>(aa _ _ (by omega)).trans hb
 repeat first|apply aj;rfl|apply bY;rfl;kernel_rfl;exact l5|apply bY;rfl;kernel_rfl;exact iK hb0 hp
 refine bv (α:=Nat) (fun n=> [(0,.ptr b 0),(3,DX nx),(10,.sc (.int .i64 (ae p:Int))),(11,.sc (.int .i64 (n:Int)))])
  (fun n H1 n1=>n1=nx+1∧n≤ae p∧dv p (ae p-n) n=ba p∧H1=H.set nx (Bm b)) (fun n=>ae p-n) 0
  ⟨rfl,HT _,rfl,rfl⟩ (JN (JQ rfl)) ?_
 rintro n H1 n1 ⟨rfl,h3,h4,rfl⟩ ih
 repeat apply aj;rfl
 refine bi rfl rfl rfl rfl (fun h8=>?_) (fun h8=>?_)
 ·have hgo:dv p (ae p-n) n=if ar p n=0 then n else dv p (ae p-(n+1)) (n+1):=by
   rw [show ae p-n=(ae p-(n+1))+1 by omega]
   rfl
  repeat apply aj;rfl
  refine jm rfl rfl rfl rfl (by kernel_rfl) (JG (nR (ah _ _ _) hb0 hp (n:=n) (by omega)) ?_)
  rintro _ rfl
  dsimp only
  repeat apply aj;rfl
  refine cF rfl rfl rfl rfl (fun e1=>?_) (fun e1=>?_)
  ·repeat apply aj;rfl
   (apply bP Tryz.func69 Tryz.results69;rfl)
   refine⟨?_,Jb _,fun m hm=>aa _ _ (by omega)⟩
   rw [← h4,hgo,Je (by omega)]
   rfl
  ·repeat first|apply aj;rfl|apply aK;rfl;omega;omega
   exact ih _ _ _ (n+1) ⟨rfl,by omega,by rw [← h4,hgo,Jd (by omega)],rfl⟩ (by omega) (JN (JQ rfl))
 ·obtain rfl:n=ae p:=by omega
  rw [Nat.sub_self] at h4
  have h4:ae p=ba p:=h4
  repeat first|apply aj;rfl|apply bY;rfl;kernel_rfl;exact iK hb0 hp
  (apply bP Tryz.func69 Tryz.results69;rfl)
  refine⟨?_,Jb _,fun m hm=>aa _ _ (by omega)⟩
  rw [← h4]
  rfl
theorem zL(hb:H.at' b=some (pgO p))(hp:w8 p):Fnc Tryz.prog 69 [.ptr b 0] H nx (fun q=>q=(.sc (.int .i64 (ba p:Int)),H,nx)):=Fnc.bu (fun _ _ _ h=>h) (D2 hb hp)
def fI(p:List UInt8):Nat:=aE p-18-4*ae p-(if ba p=ae p then 4 else 0)
theorem B8(hb:H.at' b=some (pgO p))(hp:w8 p):Fnc Tryz.prog 67 [.ptr b 0] H nx (fun q=>q=(.sc (.int .i64 (fI p:Int)),H,nx)):=by
 have hp0:=hp
 obtain⟨hp,hp1,hp2⟩:=hp
 have hs:ae p<65536:=cI p 14
 have he:=oL p
 refine JH Tryz.func67 rfl rfl ?_
 repeat first|apply aj;rfl|apply aK;rfl;omega;omega|apply bY;rfl;kernel_rfl;exact iK hb hp|apply bY;rfl;kernel_rfl;exact qX hb hp|apply bY;rfl;kernel_rfl;exact zL hb hp0
 refine cF rfl rfl rfl rfl (fun e1=>?_) (fun e1=>?_)
 ·repeat first|apply aj;rfl|apply aK;rfl;omega;omega|apply BZ (c:=(fI p:Int));rfl;rfl;rfl;rfl;(focus(unfold fI;rw [Je (by omega)];omega))
  (apply bP Tryz.func67 Tryz.results67;rfl)
  rfl
 ·repeat first|apply aj;rfl|apply BZ (c:=(fI p:Int));rfl;rfl;rfl;rfl;(focus(unfold fI;rw [Jd (by omega)];omega))
  (apply bP Tryz.func67 Tryz.results67;rfl)
  rfl
theorem cG(h:o+l.length≤p.length)(i:Nat):(bf p o l)[i]? =if o≤i∧i<o+l.length then l[i-o]? else p[i]? :=by
 have ho:(p.take o).length=o:=by rw [Jh];omega
 unfold bf
 rcases Jg i o with h1|h1
 ·rw [Jd (by omega),Jo,HP (by omega),List.getElem?_take_of_lt h1]
 ·rcases Jg i (o+l.length)with h2|h2
  ·rw [Je ⟨h1,h2⟩,HP (by rw [HW];omega),Jn (by omega),ho]
  ·rw [Jd (by omega),Jn (by rw [HW];omega),HW,ho,List.getElem?_drop]
   congr 1
   omega
theorem jE{q:List UInt8}(h: ∀ i,o≤i→i<o+2→p[i]? =q[i]?):gB p o=gB q o:=by
 unfold gB
 congr 1
 refine Jy fun i=>?_
 rcases Jg i 2 with hi|hi
 ·rw [List.getElem?_take_of_lt hi,List.getElem?_take_of_lt hi,List.getElem?_drop,List.getElem?_drop]
  exact h _ (by omega) (by omega)
 ·rw [JB (by rw [Jh];omega),JB (by rw [Jh];omega)]
theorem nL{o':Nat}(h:o+l.length≤p.length)(h2:o'+2≤o∨o+l.length≤o'):gB (bf p o l) o'=gB p o':=
 jE fun i h3 h4=>by rw [cG h,Jd (by omega)]
theorem cO{o':Nat}(h:o+2≤p.length)(h2:o'+2≤o∨o+2≤o'):gB (cm p o n) o'=gB p o':=
 nL (by rw [bp];exact h) (by rw [bp];exact h2)
theorem D9(h:n<65536):beN (beB n 2)=n:=by
 show 256*(256*0+(UInt8.ofNat (n / 256 ^ 1)).toNat)+(UInt8.ofNat (n / 256 ^ 0)).toNat=n
 have t: ∀ k,(UInt8.ofNat k).toNat=k % 256:=fun k=>by simp
 rw [t,t]
 omega
theorem eN(h:o+2≤p.length)(hn:n<65536):gB (cm p o n) o=n:=by
 have:((cm p o n).drop o).take 2=beB n 2:=by
  unfold cm bf
  rw [Jo,List.drop_left' (by rw [Jh];omega),List.take_left' (bp n 2)]
 unfold gB
 rw [this,D9 hn]
theorem gE:nj Tryz.prog 27 []=some (.agg (pgS zeroP)):=by kernel_rfl
def fj(p:List UInt8):List UInt8:=if ba p=ae p then cm p 14 (ba p+1) else p
def oy(p it:List UInt8):List UInt8:=bf (cm (bK (fj p) (ba p) (aE (fj p)-it.length) it.length) 16 (aE (fj p)-it.length)) (aE (fj p)-it.length) it
def nf(p it:List UInt8):List UInt8×Nat×Nat:=
 if bl p=false then(zeroP,0,4) else if ¬ (1≤it.length∧it.length≤1000) then(zeroP,0,2) else if fI p<it.length then(zeroP,0,5) else(oy p it,ba p,0)
abbrev insS(r:List UInt8×Nat×Nat):SV:= .tup [.agg (pgS r.1),.sc (.int .i64 (r.2.1:Int)),.sc (.int .i64 (r.2.2:Int))]
theorem Bc{it:List UInt8}{s:SV}(hp:p.length=1024)(hB:BsIs H s (byV it))(hit:it.length≤4611686018427387904):Fnc Tryz.prog 30 [.agg (pgS p),s] H nx (fun q=>q.1=insS (nf p it)∧nx≤q.2.2∧ ∀ m,m<nx→q.2.1.at' m=H.at' m):=by
 have hlen:(byV it).length=it.length:=by simp
 refine JH Tryz.func30 rfl rfl ?_
 refine aW fun hund=>?_
 repeat first|apply aj;rfl|refine aY rfl rfl ce ?_
 have hb1:((H.set nx (pgO p)).set (nx+1) (pgO zeroP)).at' nx=some (pgO p):=by repeat(first|exact ac|refine ab (by omega) ?_)
 have hz1:((H.set nx (pgO p)).set (nx+1) (pgO zeroP)).at' (nx+1)=some (pgO zeroP):=by repeat(exact ac)
 have ho1: ∀ m,m<nx→((H.set nx (pgO p)).set (nx+1) (pgO zeroP)).at' m=H.at' m:=fun m hm=>by(repeat(refine ab (by omega) ?_));rfl
 have hB2: ∀ H':au,(∀ m,m<nx→H'.at' m=H.at' m)→BsIs H' s (byV it):=fun H' h=>hB.frame fun b vo hb=>(h b (hund b vo hb)).trans hb
 have hB1:=hB2 _ ho1
 generalize (H.set nx (pgO p)).set (nx+1) (pgO zeroP)=H1 at hb1 hz1 ho1 hB1 ⊢
 cases hr:bl p with
 | false=>
   have hv:nf p it=(zeroP,0,4):=by unfold nf;rw [Je hr]
   have hrs:=fun nx=>gi (nx:=nx) hb1 hp
   rw [hr] at hrs
   repeat first|apply aj;rfl|apply aG;rfl;assumption;rfl|apply bY;rfl;kernel_rfl;exact hrs _|refine cc (cS gE) rfl rfl rfl ?_
   rw [kU _ _ ai ai]
   ((apply bn Tryz.func30 (congrArg Array.toList Tryz.results30));(focus((apply JJ rfl (JL (F.ag _ rfl) (by repeat(exact ac)) (bm ai)));(repeat(first|exact JI|apply JK rfl)))))
   exact⟨by rw [hv];rfl,by dsimp only;omega,fun m hm=>(aa _ _ (by omega)).trans (ho1 m hm)⟩
 | true=>
   have hf:=fA hp hr
   have hrs:=fun nx=>gi (nx:=nx) hb1 hp
   rw [hr] at hrs
   have hmi:=fun(H:au) nx=>sx (H:=H) (nx:=nx) (n:=it.length)
   have hlB:=hlen
   by_cases hm:1≤it.length∧it.length≤1000
   ·have hmt:decide (1≤it.length∧it.length≤1000)=true:=Jw hm
    rw [hmt] at hmi
    repeat first|apply cw;rfl|apply bY;rfl;kernel_rfl;exact hrs _|refine dl rfl rfl (F.un _ rfl) rfl hB1 ?_;rw [hlen]|apply bY;rfl;kernel_rfl;exact hmi _ _|apply bY;rfl;kernel_rfl;exact B8 hb1 hf
    refine ej rfl rfl rfl rfl (fun h1=>?_) (fun h1=>?_)
    ·have hv:nf p it=(zeroP,0,5):=by unfold nf;rw [Jd (by rw [hr];decide),Jd (fun hq=>hq hm),Je (by omega)]
     repeat first|apply aj;rfl|apply aG;rfl;assumption;rfl|refine cc (cS gE) rfl rfl rfl ?_
     rw [kU _ _ ai ai]
     ((apply bn Tryz.func30 (congrArg Array.toList Tryz.results30));(focus((apply JJ rfl (JL (F.ag _ rfl) (by repeat(exact ac)) (bm ai)));(repeat(first|exact JI|apply JK rfl)))))
     exact⟨by rw [hv];rfl,by dsimp only;omega,fun m hm=>(aa _ _ (by omega)).trans (ho1 m hm)⟩
    ·have hv:nf p it=(oy p it,ba p,0):=by unfold nf;rw [Jd (by rw [hr];decide),Jd (fun hq=>hq hm),Jd (by omega)]
     have hel:=oL p
     have hf1:=hf.2.1
     have hf2:=hf.2.2
     have hro:it.length+18+4*ae p+(if ba p=ae p then 4 else 0)≤aE p:=by
      have:fI p=aE p-18-4*ae p-(if ba p=ae p then 4 else 0):=rfl
      omega
     repeat first|apply aj;rfl|apply bY;rfl;kernel_rfl;exact zL hb1 hf|apply bY;rfl;kernel_rfl;exact iK hb1 hp
     refine cF rfl rfl rfl rfl (fun e1=>?_) (fun e1=>?_)
     ·have en:ba p=ae p:=by omega
      rw [Je en] at hro
      have hmo:cm p 14 (ba p+1)=fj p:=by unfold fj;rw [Je en]
      repeat first|apply aj;rfl|apply aK;rfl;omega;omega
      rw [show((ba p:Nat):Int)+1=((ba p+1:Nat):Int) by omega]
      refine aL rfl rfl rfl (by kernel_rfl) (JG (pd hb1 hp (o:=14) (n:=ba p+1) (by decide) (by omega)) ?_)
      rintro⟨_,H2,n2⟩ ⟨rfl,hb2,hn2,g4⟩
      dsimp only at hb2 hn2 g4 ⊢
      have hp1:(cm p 14 (ba p+1)).length=1024:=by rw [bE (by omega)];exact hp
      have hbe:aE (cm p 14 (ba p+1))=aE p:=cO (by omega) (by omega)
      have k2: ∀ m,m<nx→H2.at' m=H.at' m:=fun m hm=>(g4 m (by omega) (by omega)).trans (ho1 m hm)
      have hz2:H2.at' (nx+1)=some (pgO zeroP):=(g4 _ (by omega) (by omega)).trans hz1
      generalize cm p 14 (ba p+1)=p1 at hmo hb2 hp1 hbe
      repeat first|apply aj;rfl|apply cw;rfl|apply aK;rfl;omega;omega|apply bY;rfl;kernel_rfl;exact qX hb2 hp1|(apply dl;rfl;rfl;exact(F.un _ rfl);rfl;exact(hB2 _ k2));rw [hlen]
      rw [show((aE p1:Nat):Int)-(it.length:Int)=((aE p1-it.length:Nat):Int) by omega]
      refine aL rfl rfl rfl (by kernel_rfl) (JG (qn hb2 hp1 (n:=ba p) (a:=aE p1-it.length) (s:=it.length) (by omega) (by omega) (by omega)) ?_)
      rintro⟨_,H3,n3⟩ ⟨rfl,q2,q3,q4⟩
      dsimp only at q2 q3 q4 ⊢
      have hp2:(bK p1 (ba p) (aE p1-it.length) it.length).length=1024:=by rw [fw (by omega)];exact hp1
      repeat apply aj;rfl
      refine aL rfl rfl rfl (by kernel_rfl) (JG (pd q2 hp2 (o:=16) (n:=aE p1-it.length) (by decide) (by omega)) ?_)
      rintro⟨_,H4,n4⟩ ⟨rfl,r2,r3,r4⟩
      dsimp only at r2 r3 r4 ⊢
      have hp3:(cm (bK p1 (ba p) (aE p1-it.length) it.length) 16 (aE p1-it.length)).length=1024:=by rw [bE (by omega)];exact hp2
      have k4: ∀ m,m<nx→H4.at' m=H.at' m:=fun m hm=>(r4 m (by omega) (by omega)).trans ((q4 m (by omega) (by omega)).trans (k2 m hm))
      have hz4:H4.at' (nx+1)=some (pgO zeroP):=(r4 _ (by omega) (by omega)).trans ((q4 _ (by omega) (by omega)).trans hz2)
      repeat first|apply aj;rfl|apply kL (lw:=aE p1-it.length) (hg:=1024) (m:=1024-(aE p1-it.length));rfl;rfl;rfl;exact(F.un _ rfl);exact(F.sz _ rfl);rfl;rfl;(focus(omega));(focus(omega));(focus(omega));rfl;rfl;exact(Jf _)
      refine nT rfl rfl rfl rfl (F.un _ rfl) (F.sz _ rfl) r2 (hB2 _ k4) (by omega) (by rw [be hp3];omega) ?_
      rw [mE rfl]
      have hlay:bf (cm (bK p1 (ba p) (aE p1-it.length) it.length) 16 (aE p1-it.length)) (aE p1-it.length) it=oy p it:=by rw [hmo];rfl
      have hp4:(oy p it).length=1024:=by rw [← hlay,bM (by omega)];exact hp3
      rw [hlay]
      clear hlay
      generalize oy p it=pL at hv hp4 ⊢
      repeat first|apply bq hp4;rfl;(focus((repeat(exact ac));done))|apply bC hp4 ai;rfl;(focus((repeat(first|assumption|refine ab (by omega) ?_));done))|apply aj;rfl
      ((apply bn Tryz.func30 (congrArg Array.toList Tryz.results30));(focus((apply JJ rfl (JL (F.ag _ rfl) (by repeat(exact ac)) (bm hp4)));(repeat(first|exact JI|apply JK rfl)))))
      exact⟨by rw [hv];rfl,Ja (Ja (Jb _) (Jb _)) (Ja hn2 (Ja q3 r3)),fun m hm=>(aa _ _ (by omega)).trans ((aa _ _ (by omega)).trans (k4 m hm))⟩
     ·have en: ¬ ba p=ae p:=by omega
      rw [Jd en] at hro
      obtain⟨p1,hmo,hb2,hp1,hbe⟩: ∃ p1,p1=fj p∧H1.at' nx=some (pgO p1)∧p1.length=1024∧aE p1=aE p:=⟨p,by unfold fj;rw [Jd en],hb1,hp,rfl⟩
      have hz2:=hz1
      have k2:=ho1
      have hn2:nx+1+1≤nx+1+1:=HS _
      repeat first|apply aj;rfl|apply cw;rfl|apply aK;rfl;omega;omega|apply bY;rfl;kernel_rfl;exact qX hb2 hp1|(apply dl;rfl;rfl;exact(F.un _ rfl);rfl;exact(hB2 _ k2));rw [hlen]
      rw [show((aE p1:Nat):Int)-(it.length:Int)=((aE p1-it.length:Nat):Int) by omega]
      refine aL rfl rfl rfl (by kernel_rfl) (JG (qn hb2 hp1 (n:=ba p) (a:=aE p1-it.length) (s:=it.length) (by omega) (by omega) (by omega)) ?_)
      rintro⟨_,H3,n3⟩ ⟨rfl,q2,q3,q4⟩
      dsimp only at q2 q3 q4 ⊢
      have hp2:(bK p1 (ba p) (aE p1-it.length) it.length).length=1024:=by rw [fw (by omega)];exact hp1
      repeat apply aj;rfl
      refine aL rfl rfl rfl (by kernel_rfl) (JG (pd q2 hp2 (o:=16) (n:=aE p1-it.length) (by decide) (by omega)) ?_)
      rintro⟨_,H4,n4⟩ ⟨rfl,r2,r3,r4⟩
      dsimp only at r2 r3 r4 ⊢
      have hp3:(cm (bK p1 (ba p) (aE p1-it.length) it.length) 16 (aE p1-it.length)).length=1024:=by rw [bE (by omega)];exact hp2
      have k4: ∀ m,m<nx→H4.at' m=H.at' m:=fun m hm=>(r4 m (by omega) (by omega)).trans ((q4 m (by omega) (by omega)).trans (k2 m hm))
      have hz4:H4.at' (nx+1)=some (pgO zeroP):=(r4 _ (by omega) (by omega)).trans ((q4 _ (by omega) (by omega)).trans hz2)
      repeat first|apply aj;rfl|apply kL (lw:=aE p1-it.length) (hg:=1024) (m:=1024-(aE p1-it.length));rfl;rfl;rfl;exact(F.un _ rfl);exact(F.sz _ rfl);rfl;rfl;(focus(omega));(focus(omega));(focus(omega));rfl;rfl;exact(Jf _)
      refine nT rfl rfl rfl rfl (F.un _ rfl) (F.sz _ rfl) r2 (hB2 _ k4) (by omega) (by rw [be hp3];omega) ?_
      rw [mE rfl]
      have hlay:bf (cm (bK p1 (ba p) (aE p1-it.length) it.length) 16 (aE p1-it.length)) (aE p1-it.length) it=oy p it:=by rw [hmo];rfl
      have hp4:(oy p it).length=1024:=by rw [← hlay,bM (by omega)];exact hp3
      rw [hlay]
      clear hlay
      generalize oy p it=pL at hv hp4 ⊢
      repeat first|apply bq hp4;rfl;(focus((repeat(exact ac));done))|apply bC hp4 ai;rfl;(focus((repeat(first|assumption|refine ab (by omega) ?_));done))|apply aj;rfl
      ((apply bn Tryz.func30 (congrArg Array.toList Tryz.results30));(focus((apply JJ rfl (JL (F.ag _ rfl) (by repeat(exact ac)) (bm hp4)));(repeat(first|exact JI|apply JK rfl)))))
      exact⟨by rw [hv];rfl,Ja (Ja (Jb _) (Jb _)) (Ja hn2 (Ja q3 r3)),fun m hm=>(aa _ _ (by omega)).trans ((aa _ _ (by omega)).trans (k4 m hm))⟩
   ·have hmt:decide (1≤it.length∧it.length≤1000)=false:=Jx hm
    rw [hmt] at hmi
    have hv:nf p it=(zeroP,0,2):=by unfold nf;rw [Jd (by rw [hr];decide),Je hm]
    repeat first|apply aj;rfl|apply cw;rfl|apply aG;rfl;assumption;rfl|apply bY;rfl;kernel_rfl;exact hrs _|refine dl rfl rfl (F.un _ rfl) rfl hB1 ?_;rw [hlen]|apply bY;rfl;kernel_rfl;exact hmi _ _|refine cc (cS gE) rfl rfl rfl ?_
    rw [kU _ _ ai ai]
    ((apply bn Tryz.func30 (congrArg Array.toList Tryz.results30));(focus((apply JJ rfl (JL (F.ag _ rfl) (by repeat(exact ac)) (bm ai)));(repeat(first|exact JI|apply JK rfl)))))
    exact⟨by rw [hv];rfl,by dsimp only;omega,fun m hm=>(aa _ _ (by omega)).trans (ho1 m hm)⟩
theorem Free.CH{a b c:SV}(ha:Free a)(hb:Free b)(hc:Free c):Free (.tup [a,b,c]):=fun e e' u h=>by
 simp only [SV.conc,SV.aJ] at h ⊢
 cases h1:a.conc e with
 | none=>rw [h1] at h;simp at h
 | some x=>
   cases h2:b.conc e with
   | none=>rw [h1,h2] at h;simp at h
   | some y=>
     cases h3:c.conc e with
     | none=>rw [h1,h2,h3] at h;simp at h
     | some z=>
       rw [h1,h2,h3] at h
       rw [ha e e' x h1,hb e e' y h2,hc e e' z h3]
       exact h
theorem sE(r:List UInt8×Nat×Nat):Free (insS r):=Free.CH (Free.agg _) (Free.sc _) (Free.sc _)
theorem qB{it:List UInt8}{s:SV}(hp:p.length=1024)(hB:BsIs H s (byV it))(hit:it.length≤4611686018427387904):Fnc Tryz.prog 30 [.agg (pgS p),s] H nx (fun q=>q=(insS (nf p it),H,nx)):=Fnc.bu (sE _) (Bc hp hB hit)
def cn(p:List UInt8)(n:Nat):Nat×Nat×Nat:=if ae p≤n then(0,0,6) else if ar p n=0 then(0,0,6) else(ay p n,ar p n,0)
abbrev G4(r:Nat×Nat×Nat):SV:= .tup [.sc (.int .i64 (r.1:Int)),.sc (.int .i64 (r.2.1:Int)),.sc (.int .i64 (r.2.2:Int))]
theorem G3(hb:H.at' b=some (pgO p))(hp:w8 p):Fnc Tryz.prog 89 [.ptr b 0,.sc (.int .i64 (n:Int))] H nx (fun q=>q.1=G4 (cn p n)∧nx≤q.2.2∧ ∀ m,m<nx→q.2.1.at' m=H.at' m):=by
 obtain⟨hp,hp1,hp2⟩:=hp
 refine JH Tryz.func89 rfl rfl ?_
 refine aW fun hund=>?_
 have hlt:=hund _ _ hb
 have hb0: ∀ {vo:VO},(H.set nx vo).at' b=some (pgO p):=fun {vo}=>(aa _ _ (by omega)).trans hb
 repeat first|apply aj;rfl|apply bY;rfl;kernel_rfl;exact iK hb hp
 refine er rfl rfl rfl rfl (fun h1=>?_) (fun h1=>?_)
 ·repeat apply aj;rfl
  (apply bP Tryz.func89 Tryz.results89;rfl)
  refine⟨?_,HS _,fun m hm=>rfl⟩
  unfold cn
  rw [Je (by omega)]
  rfl
 ·repeat first|apply aj;rfl|apply bY;rfl;kernel_rfl;exact l5
  refine jm rfl rfl rfl rfl (by kernel_rfl) (JG (nR (ah _ _ _) hb0 hp (n:=n) (by omega)) ?_)
  rintro _ rfl
  dsimp only
  repeat apply aj;rfl
  refine cF rfl rfl rfl rfl (fun h2=>?_) (fun h2=>?_)
  ·repeat apply aj;rfl
   (apply bP Tryz.func89 Tryz.results89;rfl)
   refine⟨?_,Jb _,fun m hm=>aa _ _ (by omega)⟩
   unfold cn
   rw [Jd (by omega),Je (by omega)]
   rfl
  ·repeat apply aj;rfl
   (apply bP Tryz.func89 Tryz.results89;rfl)
   refine⟨?_,Jb _,fun m hm=>aa _ _ (by omega)⟩
   unfold cn
   rw [Jd (by omega),Jd (by omega)]
   rfl
theorem vT(hb:H.at' b=some (pgO p))(hp:w8 p):Fnc Tryz.prog 89 [.ptr b 0,.sc (.int .i64 (n:Int))] H nx (fun q=>q=(G4 (cn p n),H,nx)):=Fnc.bu (Free.CH (Free.sc _) (Free.sc _) (Free.sc _)) (G3 hb hp)
abbrev pgE(r:List UInt8×Nat):SV:= .tup [.agg (pgS r.1),.sc (.int .i64 (r.2:Int))]
theorem gL(r:List UInt8×Nat):Free (pgE r):=Free.two (Free.agg _) (Free.sc _)
theorem Eg(hp:p.length=1024):Fnc Tryz.prog 87 [.agg (pgS p)] H nx (fun q=>q.1 = .sc (.bool (bl p))∧nx≤q.2.2∧ ∀ m,m<nx→q.2.1.at' m=H.at' m):=by
 refine JH Tryz.func87 rfl rfl ?_
 have hb1:(H.set nx (pgO p)).at' nx=some (pgO p):=ah _ _ _
 repeat first|apply aj;rfl|apply bY;rfl;kernel_rfl;exact gi hb1 hp
 (apply bP Tryz.func87 Tryz.results87;rfl)
 exact⟨rfl,Jb _,fun m hm=>aa _ _ (by omega)⟩
theorem Ef(hp:p.length=1024):Fnc Tryz.prog 87 [.agg (pgS p)] H nx (fun q=>q=(.sc (.bool (bl p)),H,nx)):=Fnc.bu (fun _ _ _ h=>h) (Eg hp)
abbrev GS(f q:Nat):SV:= .fn (.func 79) [] [.ptr f 0,.ptr q 0]
theorem ub(hp:p.length=1024):Fnc Tryz.prog 39 [.agg (pgS p)] H nx (fun q=>q=(GS (nx+1) nx,(H.set nx (pgO p)).set (nx+1) (aq 4 [.sc (.bool (bl p))]),nx+1+1)):=by
 refine JH Tryz.func39 rfl rfl ?_
 have hb1:(H.set nx (pgO p)).at' nx=some (pgO p):=ah _ _ _
 repeat first|apply aj;rfl|apply aG;rfl;(focus((repeat(exact ac));done));rfl|apply bY;rfl;kernel_rfl;exact gi hb1 hp
 (apply bP Tryz.func39 Tryz.results39;rfl)
 refine Prod.ext rfl (Prod.ext ?_ rfl)
 funext n
 by_cases hn:n=nx+1
 ·subst hn
  exact(ah _ _ _).trans (ah _ _ _).symm
 ·exact(aa _ _ hn).trans ((aa _ _ hn).trans (aa _ _ hn).symm)
def LsIs(H:au)(ls:List SV)(bs:List (List Value)):Prop:=ls.length=bs.length∧ ∀ (j:Nat) s vs,ls[j]? =some s→bs[j]? =some vs→BsIs H s vs
abbrev bsR(ro:Bool)(ls:List SV):VO:=nn ro ls.length 1 35 ls
abbrev u8R(ro:Bool)(vs:List Value):VO:=dat ro vs.length 1 5 vs
abbrev u8Z:Value:= .int .u8 0
theorem LsIs.at(h:LsIs H ls bs){j:Nat}(hj:j<ls.length): ∃ s vs,ls[j]? =some s∧bs[j]? =some vs∧BsIs H s vs:=by
 obtain⟨h1,h2⟩:=h
 exact⟨ls[j],bs[j]'(by omega),by simp [hj],by rw [Hx],h2 j _ _ (by simp [hj]) (by rw [Hx])⟩
theorem jJ{j:Nat}{vs:List Value}(h:bs[j]? =some vs):(bs.take (j+1)).flatten=(bs.take j).flatten ++ vs:=by
 rw [List.take_add_one,h]
 simp
theorem ug(bs:List (List Value))(j:Nat):(bs.take j).flatten.length≤bs.flatten.length:=by
 conv=>rhs;rw [← List.take_append_drop j bs,List.flatten_append,HW]
 omega
theorem vR(h: ∀ vs∈bs,tw vs):tw bs.flatten:=by
 intro v hv
 obtain⟨l,hl,hv⟩:=List.mem_flatten.1 hv
 exact h l hl v hv
theorem GR{r:Nat}{ro:Bool}(hr:H.at' r=some (bsR ro ls))(hb:LsIs H ls bs)(hsz:bs.flatten.length≤140737488355328)(hl:ls.length≤4611686018427387904):Fnc Tryz.prog 73 [.slu r 0 ls.length] H nx
 (fun q=> ∃ r',q.1 = .slu r' 0 bs.flatten.length∧q.2.1.at' r'=some (u8R false bs.flatten)∧nx≤r'∧r'<q.2.2∧nx≤q.2.2∧ ∀ n,n<nx→q.2.1.at' n=H.at' n):=by
 refine JH Tryz.func73 rfl rfl ?_
 refine aW fun hund=>?_
 have hlt:=hund _ _ hr
 repeat apply aj;rfl
 refine bv (α:=Nat) (fun j=> [(0,.slu r 0 ls.length),(2,.sc (.slice none 0 0)),(3,.sc (.int .i64 ((bs.take j).flatten.length:Nat))),(9,.slu r 0 ls.length),(10,.sc (.int .i64 (ls.length:Int))),(11,.sc (.int .i64 (j:Int)))]) (fun j H1 n1=>H1=H∧n1=nx∧j≤ls.length) (fun j=>ls.length-j) 0
  ⟨rfl,rfl,HT _⟩ (JN (JQ rfl)) ?_
 rintro j H1 n1 ⟨rfl,rfl,h1⟩ ih
 repeat apply aj;rfl
 (apply bi;rfl;rfl;rfl;rfl)
 all_goals intro h6
 ·obtain⟨s,vs,g1,g2,g3⟩:=hb.at (j:=j) (by omega)
  have hle:=ug bs (j+1)
  have hft:=jJ g2
  rw [hft,HW] at hle
  have hcell:(bsR ro ls).cell (j*1)=some s:=mi (by rw [Nat.mul_one];exact g1) (by omega)
  repeat first|apply aj;rfl|apply cw;rfl|apply aK;rfl;omega;omega|refine dw (q:=j) rfl rfl rfl rfl (F.un _ rfl) (F.sz _ rfl) (by assumption) (by omega) (by(omega)) (HS _) ?_|refine cc (an (F.ag _ rfl) rfl hr hcell) rfl rfl rfl ?_|refine dl rfl rfl (F.un _ rfl) rfl g3 ?_
  refine ih _ _ _ (j+1) ⟨rfl,rfl,by omega⟩ (by omega) ?_
  rw [hft,HW]
  exact JN (by repeat(first|exact JR|refine⟨rfl,?_⟩))
 ·obtain rfl:j=ls.length:=by omega
  have hall:bs.take ls.length=bs:=HK (by have:=hb.1;omega)
  rw [hall]
  repeat first|apply aj;rfl|apply p6 (z:=u8Z) (bb:=1) (n:=0) (m:=bs.flatten.length);rfl;rfl;exact(F.un _ rfl);exact(F.sz _ rfl);exact(F.ze _ rfl);(focus(kernel_rfl));rfl;rfl;rfl;exact(HT _);(focus(omega));(focus(omega))
  have hrep: ∀ n,tw (List.replicate n u8Z):=fun n v hv=>by rw [(List.mem_replicate.1 hv).2];rfl
  refine bv (α:=Nat) (fun j=> [(0,.slu r 0 ls.length),(6,.slu n1 0 (bs.take j).flatten.length),(22,.slu r 0 ls.length),(23,.sc (.int .i64 (ls.length:Int))),(24,.sc (.int .i64 (j:Int)))]) (fun j H2 n2=>n2=n1+1∧j≤ls.length∧H2.at' n1=some (dat false bs.flatten.length 1 5 ((bs.take j).flatten ++ List.replicate (bs.flatten.length-(bs.take j).flatten.length) u8Z))∧ ∀ n,n<n1→H2.at' n=H1.at' n) (fun j=>ls.length-j) 0
   ⟨rfl,HT _,by rw [ah];simp,fun n hn=>aa _ _ (by omega)⟩ (JN (JQ rfl)) ?_
  clear ih
  rintro j H2 n2 ⟨rfl,h2,h3,h4⟩ ih
  have hr2:H2.at' r=some (bsR ro ls):=(h4 r hlt).trans hr
  repeat apply aj;rfl
  (apply bi;rfl;rfl;rfl;rfl)
  all_goals intro h7
  ·obtain⟨s,vs,g1,g2,g3⟩:=hb.at (j:=j) (by omega)
   have g4:BsIs H2 s vs:=g3.frame fun b vo hbv=>(h4 b (hund b vo hbv)).trans hbv
   have hle:=ug bs (j+1)
   have hle0:=ug bs j
   have hft:=jJ g2
   rw [hft,HW] at hle
   have hcell:(bsR ro ls).cell (j*1)=some s:=mi (by rw [Nat.mul_one];exact g1) (by omega)
   repeat first|apply aj;rfl|refine dw (q:=j) rfl rfl rfl rfl (F.un _ rfl) (F.sz _ rfl) (by assumption) (by omega) (by(omega)) (HS _) ?_|refine cc (an (F.ag _ rfl) rfl hr2 hcell) rfl rfl rfl ?_
   rcases Nat.eq_zero_or_pos vs.length with h0|h0
   ·have:vs= []:=HO h0
    subst this
    refine xM (vs:= []) rfl rfl rfl rfl (F.un _ rfl) (.inl ⟨_,F.un _ rfl⟩) (F.sz _ rfl) (by decide) h3 (by omega) (BsIs.rdv g4) g4.1 ?_
    repeat first|apply aj;rfl|apply aK;rfl;omega;omega
    refine ih _ _ _ (j+1) ⟨rfl,by omega,by rw [hft,Jr];exact h3,h4⟩ (by omega) ?_
    rw [hft,Jr]
    exact JN (by repeat(first|exact JR|refine⟨rfl,?_⟩))
   ·refine wz (vs:=vs) (ws:=(bs.take (j+1)).flatten ++ List.replicate (bs.flatten.length-(bs.take (j+1)).flatten.length) u8Z) rfl rfl rfl rfl (F.un _ rfl) (.inl ⟨_,F.un _ rfl⟩) (F.sz _ rfl) h3 (BsIs.rdv g4) g4.1 (by omega) (by omega) (by omega) (by rw [HW,Jq];omega) ?_ ?_
    ·rw [hft,HW,Jf,Nat.mul_one,Nat.mul_one,List.take_left' rfl,←List.drop_drop,List.drop_left' rfl,List.drop_replicate,Nat.sub_sub]
    ·repeat first|apply aj;rfl|apply aK;rfl;omega;omega
     refine ih _ _ _ (j+1) ⟨rfl,by omega,ah _ _ _,fun n hn=>(aa _ _ (by omega)).trans (h4 n hn)⟩ (by omega) ?_
     rw [hft,HW]
     exact JN (by repeat(first|exact JR|refine⟨rfl,?_⟩))
  ·obtain rfl:j=ls.length:=by omega
   rw [hall] at h3 ⊢
   repeat apply aj;rfl
   (apply bP Tryz.func73 Tryz.results73;rfl)
   refine⟨n1,rfl,?_,HS _,Nat.lt_succ_self _,Jb _,h4⟩
   rw [Nat.sub_self,List.replicate_zero,Jr] at h3
   exact h3
theorem sA{r:Nat}{ro:Bool}(hr:H.at' r=some (bsR ro ls))(hb:LsIs H ls bs)(hsz:bs.flatten.length≤140737488355328)(hl:ls.length≤4611686018427387904):Fnc Tryz.prog 73 [.slu r 0 ls.length] H nx
 (fun q=>q=(.slu nx 0 bs.flatten.length,H.set nx (u8R false bs.flatten),nx+1)):=Fnc.next (GR hr hb hsz hl)
abbrev fY:=List UInt8×List UInt8×Nat×Nat
def iS(v:fY):Bool:=decide ((1≤v.1.length∧v.1.length≤32)∧v.2.1.length≤128∧(1≤v.2.2.1∧v.2.2.1≤4000)∧v.2.2.2≤4000)
def iZ(l:List UInt8):List UInt8:=beB l.length 2 ++ l
def aR(v:fY):List UInt8:=beB v.2.2.1 8 ++ (beB v.2.2.2 8 ++ (iZ v.1 ++ iZ v.2.1))
theorem ef(v:fY):(aR v).length=20+v.1.length+v.2.1.length:=by
 unfold aR iZ
 simp only [HW,bp]
 omega
def eE:Option (List UInt8)→Nat→List UInt8×Option (List UInt8)
 | none,_=>([],none)
 | some l,n=>if n≤l.length then(l.take n,some (l.drop n)) else([],none)
theorem dW(h:n≤l.length):eE (some l) n=(l.take n,some (l.drop n)):=Je h
theorem gG(h:l.length<n):eE (some l) n=([],none):=Jd (by omega)
def ib(st:Option (List UInt8)):List UInt8×Option (List UInt8):=eE (eE st 2).2 (beN (eE st 2).1)
theorem pR:ib none=([],none):=rfl
def jA(l:List UInt8):fY×Option (List UInt8):=
 let a:=eE (some l) 8
 let b:=eE a.2 8
 let k:=ib b.2
 let v:=ib k.2
 ((k.1,v.1,beN a.1,beN b.1),v.2)
def Cr(st:Option (List UInt8))(v:fY):Option fY:=if st=some []∧iS v=true then some v else none
theorem uh{st:Option (List UInt8)}{v:fY}(h:st≠some []):Cr st v=none:=Jd fun h'=>h h'.1
def ofV(l:List UInt8):Option fY:=if 180<l.length then none else Cr (jA l).2 (jA l).1
def nl(l:List UInt8):fY:=let k:=beN ((l.drop 16).take 2);((l.drop 18).take k,l.drop (20+k),beN (l.take 8),beN ((l.drop 8).take 8))
def ofR(l:List UInt8):Option fY:=
 if l.length<20 then none else if l.length<20+beN ((l.drop 16).take 2) then none
 else if iS (nl l)=true∧beN ((l.drop (18+beN ((l.drop 16).take 2))).take 2)=(l.drop (20+beN ((l.drop 16).take 2))).length then some (nl l) else none
theorem kC{m:List UInt8}(h2:2≤m.length):ib (some m)=eE (some (m.drop 2)) (beN (m.take 2)):=by
 unfold ib
 rw [dW h2]
theorem oW{m:List UInt8}(h2:m.length<2):ib (some m)=([],none):=by
 unfold ib
 rw [gG h2]
 rfl
theorem of_eq(l:List UInt8):ofV l=ofR l:=by
 have hnone: ∀ {v:fY},Cr none v=none:=uh (fun h=>by cases h)
 unfold ofR
 by_cases h16:l.length<16
 ·rw [Je (by omega)]
  unfold ofV
  rw [Jd (by omega)]
  have:(jA l).2=none:=by
   unfold jA
   by_cases h8:l.length<8
   ·rw [gG h8];rfl
   ·rw [dW (by omega)]
    simp only
    rw [gG (by rw [Jk];omega)]
    rfl
  rw [this,hnone]
 ·have e1:jA l=(((ib (some (l.drop 16))).1,(ib (ib (some (l.drop 16))).2).1,beN (l.take 8),beN ((l.drop 8).take 8)),(ib (ib (some (l.drop 16))).2).2):=by
   unfold jA
   rw [dW (by omega)]
   simp only
   rw [dW (by rw [Jk];omega)]
   simp only [List.drop_drop]
  unfold ofV
  rw [e1]
  by_cases h18:l.length<18
  ·rw [Je (show l.length<20 by omega),Jd (by omega),oW (by rw [Jk];omega),pR,hnone]
  ·rw [kC (by rw [Jk];omega),List.drop_drop,show 16+2=18 from rfl]
   have hver:nl l=((l.drop 18).take (beN ((l.drop 16).take 2)),l.drop (20+beN ((l.drop 16).take 2)),beN (l.take 8),beN ((l.drop 8).take 8)):=rfl
   generalize hk:beN ((l.drop 16).take 2)=k at hver ⊢
   by_cases hk1:l.length<18+k
   ·rw [gG (by rw [Jk];omega)]
    simp only [pR]
    rw [hnone]
    have:(if l.length<20 then none else if l.length<20+k then none else if iS (nl l)=true∧beN ((l.drop (18+k)).take 2)=(l.drop (20+k)).length then some (nl l) else none)=none:=by
     split
     ·rfl
     ·rw [Je (by omega)]
    rw [this]
    split <;> rfl
   ·rw [dW (by rw [Jk];omega),List.drop_drop]
    simp only
    by_cases h20:l.length<20+k
    ·rw [oW (by rw [Jk];omega)]
     simp only
     rw [hnone,Je h20]
     split <;> (split <;> rfl)
    ·rw [kC (by rw [Jk];omega),List.drop_drop,show 18+k+2=20+k by omega]
     generalize hn:beN ((l.drop (18+k)).take 2)=n
     rw [Jd (show ¬ l.length<20 by omega),Jd h20,hver]
     have hlen:(l.drop (20+k)).length=l.length-(20+k):=Jk
     by_cases hn1:n=(l.drop (20+k)).length
     ·rw [dW (by omega),hn1,List.take_length,List.drop_length]
      simp only
      by_cases hm:iS ((l.drop 18).take k,l.drop (20+k),beN (l.take 8),beN ((l.drop 8).take 8))=true
      ·have hb:=Jp hm
       simp only [Jh,Jk] at hb
       rw [Jd (show ¬ 180<l.length by omega),Je (show iS ((l.drop 18).take k,l.drop (20+k),beN (l.take 8),beN ((l.drop 8).take 8))=true∧True from⟨hm,trivial⟩)]
       exact Je ⟨rfl,hm⟩
      ·rw [Jd (show ¬ (iS ((l.drop 18).take k,l.drop (20+k),beN (l.take 8),beN ((l.drop 8).take 8))=true∧True)from fun h=>hm h.1)]
       have:Cr (some []) ((l.drop 18).take k,l.drop (20+k),beN (l.take 8),beN ((l.drop 8).take 8))=none:=Jd fun h=>hm h.2
       rw [this]
       split <;> rfl
     ·have hno: ¬ (iS ((l.drop 18).take k,l.drop (20+k),beN (l.take 8),beN ((l.drop 8).take 8))=true∧n=(l.drop (20+k)).length):=fun h=>hn1 h.2
      rw [Jd hno]
      by_cases hn2:(l.drop (20+k)).length<n
      ·rw [gG hn2]
       simp only
       rw [hnone]
       split <;> rfl
      ·rw [dW (by omega)]
       simp only
       rw [uh (fun h=>?_)]
       ·split <;> rfl
       ·have:=congrArg List.length (Option.some.inj h)
        simp only [Jk,List.length_nil] at this
        omega
theorem qG: ∀ (l:List UInt8) (a:Nat),l.foldl (fun n c=>256*n+c.toNat) a=a*256 ^ l.length+beN l
 | [],a=>by simp [beN]
 | c :: l,a=>by
   have h1:=qG l (256*a+c.toNat)
   have h2:=qG l c.toNat
   simp only [List.foldl_cons,HV]
   rw [h1]
   have:beN (c :: l)=c.toNat*256 ^ l.length+beN l:=by
    show l.foldl _ (256*0+c.toNat)=_
    rw [Nat.mul_zero,Jf,h2]
   rw [this,Nat.pow_succ,Nat.add_mul,Nat.mul_comm (256 ^ l.length) 256,←Nat.mul_assoc,Nat.mul_comm a 256]
   omega
theorem wj(c:UInt8)(l:List UInt8):beN (c :: l)=c.toNat*256 ^ l.length+beN l:=by
 show l.foldl _ (256*0+c.toNat)=_
 rw [Nat.mul_zero,Jf,qG]
theorem kD(n size:Nat):beB n (size+1)=UInt8.ofNat (n / 256 ^ size) :: beB n size:=by
 unfold beB
 rw [List.range_succ_eq_map,HU,List.map_map]
 congr 1
 refine List.map_congr_left fun i _=>?_
 simp only [Function.comp]
 rw [show size+1-1-(i+1)=size-1-i by omega]
theorem zW: ∀ (size n:Nat),beN (beB n size)=n % 256 ^ size
 | 0,n=>by simp [beB,beN,Nat.mod_one]
 | size+1,n=>by
   have e:256 ^ (size+1)=256 ^ size*256:=Nat.pow_succ _ _
   rw [kD,wj,bp,zW size n,UInt8.toNat_ofNat',e,Nat.mod_mul]
   show n / 256 ^ size % 256*256 ^ size+n % 256 ^ size=_
   rw [Nat.mul_comm (256 ^ size)]
   exact Nat.add_comm _ _
theorem qY{size:Nat}(h:n<256 ^ size):beN (beB n size)=n:=by rw [zW,Nat.mod_eq_of_lt h]
theorem ve{v:fY}(h:iS v=true):ofV (aR v)=some v:=by
 have hm:=Jp h
 have hl:=ef v
 have e2:beN (beB v.1.length 2)=v.1.length:=qY (by omega)
 have e3:beN (beB v.2.1.length 2)=v.2.1.length:=qY (by omega)
 have e4:beN (beB v.2.2.1 8)=v.2.2.1:=qY (by omega)
 have e5:beN (beB v.2.2.2 8)=v.2.2.2:=qY (by omega)
 have hp:jA (aR v)=(v,some []):=by
  unfold jA
  rw [dW (by rw [hl];omega)]
  unfold aR
  rw [List.take_left' (bp _ _),List.drop_left' (bp _ _)]
  simp only
  rw [dW (by rw [HW,bp];omega),List.take_left' (bp _ _),List.drop_left' (bp _ _)]
  simp only
  unfold iZ
  rw [Jo,kC (by rw [HW,bp];omega),List.take_left' (bp _ _),List.drop_left' (bp _ _),e2]
  rw [dW (by rw [HW];omega),List.take_left' rfl,List.drop_left' rfl]
  simp only
  rw [kC (by rw [HW,bp];omega),List.take_left' (bp _ _),List.drop_left' (bp _ _),e3]
  rw [dW (HS _),List.take_length,List.drop_length,e4,e5]
 unfold ofV
 rw [Jd (by omega),hp]
 exact Je ⟨rfl,h⟩
end
end Go.Proofs.YtnhmbonmlfeifaaGreat
end
section
namespace Go.Sy
open Go Go.Sl Go.RowKit
section
variable {P:Program} {T:Tr SV} {H:au} {nx:Nat} {d:Option Tmp} {ty:TypeId} {pos:String} {af:Array Edge} {gd:Option (Nat×Bool)}
section
variable {n:Nat}{t:TypeId}{x:Operand}
theorem w9{m:Array (String×TypeId)}(hu:P.underlying t=some (.interface m))(w:World):(Op.equal t .nilIface .nilIface).run P w = .ok true w:=by
 have: ∀ n,(Op.equalIn (n+1) t .nilIface .nilIface).run P w = .ok true w:=fun n=>by simp [Op.equalIn,run_underlying hu]
 exact this 9999
theorem ju{yt:TypeId}{m:Array (String×TypeId)}(hx:ak T x=some (.sc .nilIface))(hu:P.underlying t=some (.interface m)):ReadDoes P T H ⟨d,.binOp .neq t x (.const .nilIface) yt,ty,pos,af,gd⟩ (.sc (.bool false)):=by
 refine eG fun ev w he=>?_
 have e1:=he x _ hx _ rfl
 have e2:=he (.const .nilIface) _ rfl _ rfl
 have hg:(eqGuard .neq t x (.const .nilIface) .nilIface .nilIface).run P w = .ok () w:=by cases x <;> rfl
 have hq:(Op.equal t .nilIface .nilIface).run P w = .ok true w:=w9 hu w
 have hb:(binOp .neq t .nilIface .nilIface).run P w = .ok (.bool false) w:=by
  simp only [binOp,Sem.run_bind,hq,Result.andThen_ok,Sem.run_pure,Bool.not_true]
 simp only [execOp,e1,e2,Sem.run_bind,hg,hb,Result.andThen_ok,Sem.run_pure]
theorem yS{el:TypeId}{b o C:Nat}{bt:TypeId}{cs:List SV}{z:Value}(hu:P.underlying t=some (.slice el))(hz:dM P el=some z)(hx:ak T x=some (.sl b o (n+1) C))(hb:H.at' b=some (aq bt cs))(zs:List SV)(hzs:ij z (n+1)=zs)(h1:bh zs=true)(ho:o+zs.length≤cs.length) :
 OpDoes P T H nx ⟨d,.call {callee:= .builtin .clear,args:= #[x],argTypes:= #[t]},ty,pos,af,gd⟩ (.val (.sc (.tuple #[])),H.set b (aq bt (cs.take o ++ zs ++ cs.drop (o+zs.length))),nx):=by
 subst hzs
 have hst:(aq bt cs).setCells o (ij z (n+1))=some (aq bt (cs.take o ++ ij z (n+1) ++ cs.drop (o+(ij z (n+1)).length))):=gJ (t:=bt) (ij z (n+1)) cs o ho h1
 have hcp:mf P H nx t (.sl b o (n+1) C)=some (.val (.sc (.tuple #[])),H.set b (aq bt (cs.take o ++ ij z (n+1) ++ cs.drop (o+(ij z (n+1)).length))),nx):=by
  simp only [mf,hu,hz,eS,hb,hst]
 refine iW ?_
 simp only [fN,du,hx,HZ,eP,hcp]
theorem y7{fz:Nat×Nat}(h:Et fz n):Et (if(fz.1 == fz.2)=true then(n,n+1) else(min fz.1 n,max fz.2 (n+1))) n:=by
 obtain⟨h1,h2⟩:=h
 split
 ·exact⟨Jb _,fun i hi=>by simp;omega⟩
 ·rename_i hne
  simp only [beq_iff_eq] at hne
  have hn:n≤fz.1:=by
   rcases Jg fz.1 n with hlt|hge
   ·have:=h2 fz.1 hlt
    simp at this
    omega
   ·exact hge
  refine⟨by simp;omega,fun i hi=>?_⟩
  simp only [Bool.and_eq_false_iff,decide_eq_false_iff_not]
  left
  omega
theorem Dp{s el rt:TypeId}{b eo ne:Nat}{c:Tr SV}(hu:P.underlying s=some (.slice el))(he:P.underlying el=some (.int .u8))(hx:ak T x=some (.slu b eo n))(hb:H.at' b=some (.row false ne 1 rt c))(h0:0<ne) :
 OpDoes P T H nx ⟨d,.convert s s x,ty,pos,af,gd⟩ (.val (.slu b eo n),H.set b (.row false ne 1 rt c),nx):=by
 intro K w0 e w ev hS hE
 obtain⟨y,hy,hl⟩:=hS.rel _ _ hb
 obtain⟨g1,g2,g3,g4⟩:=Lies.row hl
 have hnil:=g3 h0
 rcases hl with ⟨q0,o,q1,q2,q3⟩|⟨q,_⟩
 ·obtain⟨f0,cs,fz,tt,rfl,f2,f3,f4,f5,f6,f7⟩:=q3
  obtain⟨lo,hi⟩:=fz
  have hv:(SV.slu b eo n).conc e=some (.slice (some ⟨y.blk,y.base+eo*y.sz,none⟩) n (y.cap-eo)):=by simp [SV.conc,hy,Ent.at,hnil]
  have e1:=hE x _ hx
  rw [hv] at e1
  simp only [Ht] at e1
  have hsh:w.shape? y.blk=some (tt,cs.size):=by
   unfold World.shape?
   rw [q2]
  have hfz:(w.freeze ⟨y.blk,cs.size,none⟩ 1).heap[y.blk]? =some (.cells cs tt (if(lo == hi)=true then(cs.size,cs.size+1) else(min lo cs.size,max hi (cs.size+1)))):=by
   unfold World.freeze
   rw [Jd (by decide)]
   simp [Array.getElem?_modify,q2]
  have ht:Turned w (w.freeze ⟨y.blk,cs.size,none⟩ 1) y.blk:=by
   unfold World.freeze
   rw [Jd (by decide)]
   refine⟨rfl,rfl,rfl,by simp,fun j _ hj=>?_⟩
   simp [Array.getElem?_modify,Ne.symm hj]
  have hrun:(Go.convert s s (.slice (some ⟨y.blk,y.base+eo*y.sz,none⟩) n (y.cap-eo))).run P w = .ok (.slice (some ⟨y.blk,y.base+eo*y.sz,none⟩) n (y.cap-eo)) (w.freeze ⟨y.blk,cs.size,none⟩ 1):=by
   simp [Go.convert,run_underlying hu,run_underlying he,markStringish,hsh]
  refine⟨e,w.freeze ⟨y.blk,cs.size,none⟩ 1,JO e,hS.upd hb hy hnil rfl rfl ht hfz ⟨f0,cs,_,tt,rfl,f2,f3,f4,fun _=>y7 (fz:=(lo,hi)) (f5 rfl),f6,f7⟩,_,hv,?_⟩
  simp only [execOp,←e1]
  simp [hrun]
 ·rw [hnil] at q
  cases q
end
end
section
variable {P:Program} {ro:Option Nat} {fn nt nx i:Nat} {T:Tr SV} {k:List AIt} {dfs:List ADf} {H:au} {Q:Pst} {ops:Array Oper} {l:List Oper} {ty:TypeId} {pos:String} {af:Array Edge} {gd:Option (Nat×Bool)}
section
variable {args:List SV}{x:Operand}
theorem lg{as1:List Operand}{ats:Array TypeId}{g:FuncId}{fa fb:List SV}(hw:aF T ops ⟨none,.defer {callee:= .value x,args:=as1.toArray,argTypes:=ats},ty,pos,af,gd⟩=some true)(hx:ak T x=some (.fn (.func g) fa fb))(ha:du T as1=some args)(hm:bS P g=true)
 (h:Wp P none ⟨fn,nt,T,.inReg ops (i+1) l :: k,.call g (fa ++ args ++ fb) :: dfs,H,nx⟩ Q):Wp P none ⟨fn,nt,T,.inReg ops i (⟨none,.defer {callee:= .value x,args:=as1.toArray,argTypes:=ats},ty,pos,af,gd⟩ :: l) :: k,dfs,H,nx⟩ Q:=by
 refine .step (.inr ⟨hw,.inl rfl,OpDoes.any (out:=(.dfr (.call g (fa ++ args ++ fb)),H,nx)) ?_ ⟨rfl,h⟩⟩)
 intro K w0 e w ev hS hE
 refine l9 hS hE ?_
 unfold fN
 simp only [cd,ha,hx,dI,hm,cond_true]
theorem jl{dd:Nat}(hw:aF T ops ⟨some dd,.call {callee:= .builtin .recover,args:= #[],argTypes:= #[]},ty,pos,af,gd⟩=some true)(hd:Nat.blt dd nt=true)
 (h:Wp P none ⟨fn,nt,T.set dd (.sc .nilIface),.inReg ops (i+1) l :: k,dfs,H,nx⟩ Q):Wp P none ⟨fn,nt,T,.inReg ops i (⟨some dd,.call {callee:= .builtin .recover,args:= #[],argTypes:= #[]},ty,pos,af,gd⟩ :: l) :: k,dfs,H,nx⟩ Q:=by
 refine .step (.inr ⟨hw,.inl rfl,OpDoes.any (out:=(.recover,H,nx)) ?_ ⟨rfl,?_⟩⟩)
 ·intro K w0 e w ev hS hE
  refine l9 hS hE ?_
  unfold fN
  simp only [du,HZ,eP]
 ·rw [aI hd]
  exact h
theorem lE{name:String}{as1:List Operand}{ats:Array TypeId}{t:TypeId}{v:SV}{dd:Nat}(g:FuncId)(hw:aF T ops ⟨some dd,.call {callee:= .invoke x name,args:=as1.toArray,argTypes:=ats},ty,pos,af,gd⟩=some true)(hd:Nat.blt dd nt=true)(hx:ak T x=some (.ifc t v))(ha:du T as1=some args)(hm:lp P t name=some g)
 (h:Fnc P g (v :: args) H nx (fun r=>Wp P ro ⟨fn,nt,T.set dd r.1,.inReg ops (i+1) l :: k,dfs,r.2.1,r.2.2⟩ Q)) :
 Wp P ro ⟨fn,nt,T,.inReg ops i (⟨some dd,.call {callee:= .invoke x name,args:=as1.toArray,argTypes:=ats},ty,pos,af,gd⟩ :: l) :: k,dfs,H,nx⟩ Q:=by
 refine uw hw (args:=v :: args) ?_ (by simp only [aI hd];exact h)
 simp only [cd,ha,hx,hm]
theorem Ao{t el:TypeId}{b o n C:Nat}{bt:TypeId}{cs:List SV}{z:Value}{dd:Option Nat}(zs:List SV)(hw:aF T ops ⟨dd,.call {callee:= .builtin .clear,args:= #[x],argTypes:= #[t]},ty,pos,af,gd⟩=some true)(hx:ak T x=some (.sl b o (n+1) C))(hu:P.underlying t=some (.slice el))(hz:dM P el=some z)(hb:H.at' b=some (aq bt cs))(hzs:ij z (n+1)=zs)(h1:bh zs=true)(ho:o+zs.length≤cs.length)
 (h:Wp P ro ⟨fn,nt,mt nt T dd (.sc (.tuple #[])),.inReg ops (i+1) l :: k,dfs,H.set b (aq bt (cs.take o ++ zs ++ cs.drop (o+zs.length))),nx⟩ Q):Wp P ro ⟨fn,nt,T,.inReg ops i (⟨dd,.call {callee:= .builtin .clear,args:= #[x],argTypes:= #[t]},ty,pos,af,gd⟩ :: l) :: k,dfs,H,nx⟩ Q:=
 cZ hw (.inr (fun _ h=>by cases h)) (yS hu hz hx hb zs hzs h1 ho) h
theorem eg{rl:List ResultVar}{F:Func}{g:FuncId}(hf:P.funcs[fn]? =some F)(hl:F.results.toList=rl)(hg:bS P g=true)(h:Fnc P g args H nx (fun r=> ∃ vs,ResIs P r.2.1 T rl vs∧Q (fP vs,r.2.1,r.2.2))):Wp P none ⟨fn,nt,T,.code .ret :: k,[.call g args],H,nx⟩ Q:=by
 refine BX (DD hg (JG h ?_))
 rintro⟨v,H',n'⟩ ⟨vs,h1,h2⟩
 exact Cf (by simp only [e7,hf,hl]) h1.res h2
end
end
end Go.Sy
end
section
namespace Go.Proofs.YtnhmbonmlfeifaaGreat
open Go Go.Sy Go.Sl Go.RowKit
section
variable {H H':au}{s:SV}{v:fY}{b n nx o r:Nat}{l p:List UInt8}{st:Option (List UInt8)}
abbrev dy:SV:= .sc (.slice none 0 0)
abbrev rdO(s:SV)(w:Bool):VO:=aq 167 [s,.sc (.bool w)]
theorem CC(H:au):BsIs H dy (byV []):=⟨fun v hv=>by simp at hv,.inl ⟨rfl,_,_,rfl⟩⟩
theorem yW(l:List UInt8):tw (byV l):=fun v hv=>by obtain⟨c,_,rfl⟩:=JA.1 hv;rfl
theorem bN(l:List UInt8):(byV l).length=l.length:=Ji _
def BlkAt(H:au)(r o:Nat)(l:List UInt8):Prop:= ∃ vo,H.at' r=some vo∧vo.cellsFrom o l.length=some ((byV l).map .sc)
theorem BlkAt.bs{C:Nat}(h:BlkAt H r o l):BsIs H (.sl r o l.length C) (byV l):=by
 obtain⟨vo,h1,h2⟩:=h
 exact⟨yW l,.inr (.inr ⟨r,o,C,vo,by rw [bN],h1,by rw [bN];exact h2⟩)⟩
theorem hZ{vo:VO}: ∀ (n m o:Nat) (l:List SV),vo.cellsFrom o (n+m)=some l→vo.cellsFrom o n=some (l.take n)∧vo.cellsFrom (o+n) m=some (l.drop n)
 | 0,m,o,l,h=>by
   rw [Jf] at h
   exact⟨by simp [VO.cellsFrom],by simpa using h⟩
 | n+1,m,o,l,h=>by
   rw [show n+1+m=(n+m)+1 by omega] at h
   simp only [VO.cellsFrom] at h ⊢
   cases h1:vo.cell o with
   | none=>rw [h1] at h;cases h
   | some s=>
     rw [h1] at h
     simp only at h ⊢
     cases h2:vo.cellsFrom (o+1) (n+m)with
     | none=>rw [h2] at h;cases h
     | some l'=>
       rw [h2] at h
       simp only [Ht] at h
       subst h
       obtain⟨g1,g2⟩:=hZ n m (o+1) l' h2
       rw [g1,show o+(n+1)=o+1+n by omega]
       exact⟨by simp,by simpa using g2⟩
theorem BlkAt.part(h:BlkAt H r o l)(hn:n≤l.length):BlkAt H r o (l.take n)∧BlkAt H r (o+n) (l.drop n):=by
 obtain⟨vo,h1,h2⟩:=h
 rw [show l.length=n+(l.length-n) by omega] at h2
 obtain⟨g1,g2⟩:=hZ n (l.length-n) o _ h2
 refine⟨⟨vo,h1,?_⟩,⟨vo,h1,?_⟩⟩
 ·rw [Jh,Nat.min_eq_left hn,g1]
  simp [List.map_take]
 ·rw [Jk,g2]
  simp [List.map_drop]
theorem BlkAt.frame(h:BlkAt H r o l)(hf:H'.at' r=H.at' r):BlkAt H' r o l:=by
 obtain⟨vo,h1,h2⟩:=h
 exact⟨vo,hf.trans h1,h2⟩
theorem BlkAt.none(H:au){vo:VO}(h:H.at' r=some vo)(o:Nat):BlkAt H r o []:=⟨vo,h,rfl⟩
def RdSt(H:au)(b r:Nat):Option (List UInt8)→Prop
 | some l=> ∃ o C,H.at' b=some (rdO (.sl r o l.length C) true)∧l.length≤C∧BlkAt H r o l
 | none=> ∃ s,H.at' b=some (rdO s false)
def BlkS(H:au)(s:SV)(r:Nat)(l:List UInt8):Prop:=(s=dy∧l= [])∨ ∃ o C,s = .sl r o l.length C∧BlkAt H r o l
theorem BlkS.bs(h:BlkS H s r l):BsIs H s (byV l):=by
 rcases h with ⟨rfl,rfl⟩|⟨o,C,rfl,h⟩
 ·exact CC _
 ·exact h.bs
theorem BlkS.frame(h:BlkS H s r l)(hf:H'.at' r=H.at' r):BlkS H' s r l:=by
 rcases h with h|⟨o,C,h1,h2⟩
 ·exact .inl h
 ·exact .inr ⟨o,C,h1,h2.frame hf⟩
theorem kq{w:Bool}(hb:H.at' b=some (rdO s w)):Fnc Tryz.prog 104 [.ptr b 0] H nx (fun q=>q=(.sc (.bool (!w)),H,nx)):=by
 refine JH Tryz.func104 rfl rfl ?_
 repeat first|apply aj;rfl|apply aG;rfl;assumption;rfl|refine cc (e8 rfl rfl (F.un _ rfl) rfl) rfl rfl rfl ?_
 (apply bP Tryz.func104 Tryz.results104;rfl)
 rfl
theorem uF{n:Int}(hb:H.at' b=some (rdO s true))(hs:BsIs H s (byV l))(hn:n<0∨(l.length:Int)<n):Fnc Tryz.prog 103 [.ptr b 0,.sc (.int .i64 n)] H nx (fun q=> ∃ H',q=(dy,H',nx)∧H'.at' b=some (rdO dy false)∧ ∀ m,m≠b→H'.at' m=H.at' m):=by
 refine JH Tryz.func103 rfl rfl ?_
 (repeat' (first|apply aj;rfl|apply aG;rfl;(focus((repeat(first|assumption|exact ac));done));rfl|refine Gb (cW (F.sz _ rfl) rfl rfl rfl (by assumption) (by rfl) (by exact Hz rfl) (by rfl)) rfl rfl ?_|apply bY;rfl;kernel_rfl;exact kq hb|(refine bi rfl rfl rfl rfl ?_ ?_ <;> intro hq1)|refine dl rfl rfl (F.un _ rfl) rfl hs ?_;rw [bN]|(refine ej rfl rfl rfl rfl ?_ ?_ <;> intro hq2)|exfalso;omega))
 all_goals(apply bP Tryz.func103 Tryz.results103;rfl)
 all_goals exact⟨_,rfl,ah _ _ _,fun m hm=>(aa _ _ hm).trans (aa _ _ hm)⟩
theorem xV{n:Int}(hb:H.at' b=some (rdO s false)):Fnc Tryz.prog 103 [.ptr b 0,.sc (.int .i64 n)] H nx (fun q=>q=(dy,H,nx)):=by
 refine JH Tryz.func103 rfl rfl ?_
 repeat first|apply aj;rfl|apply bY;rfl;kernel_rfl;exact kq hb
 (apply bP Tryz.func103 Tryz.results103;rfl)
 rfl
theorem C4{C:Nat}(hb:H.at' b=some (rdO (.sl r o l.length C) true))(hC:l.length≤C)(hn:n≤l.length):Fnc Tryz.prog 103 [.ptr b 0,.sc (.int .i64 (n:Int))] H nx (fun q=> ∃ H',q=(.sl r o n n,H',nx)∧H'.at' b=some (rdO (.sl r (if C=n then o else o+n) (l.length-n) (C-n)) true)∧ ∀ m,m≠b→H'.at' m=H.at' m):=by
 have ho:(bif Nat.beq n 0 then o else o+0*1)=o:=by cases Nat.beq n 0 <;> simp
 refine JH Tryz.func103 rfl rfl ?_
 repeat first|apply aj;rfl|apply aG;rfl;assumption;rfl|apply bY;rfl;kernel_rfl;exact kq hb|apply kM;rfl;omega|refine cc (gj (F.un _ rfl) rfl) rfl rfl rfl ?_
 (apply Gf (lw:=0) (hg:=n) (m:=n);rfl;rfl;rfl;exact(F.un _ rfl);exact(F.sz _ rfl);rfl;exact(ic rfl rfl);exact(ic rfl rfl);exact(HT _);exact(HS _);(focus(omega)))
 rw [ho]
 repeat first|apply aj;rfl|apply aG;rfl;assumption;rfl
 (apply xL (lw:=n) (hg:=l.length);rfl;rfl;rfl;exact(F.un _ rfl);exact(F.sz _ rfl);exact(ic rfl rfl);rfl;(focus(omega));(focus(omega));rfl)
 repeat first|apply aj;rfl|apply aG;rfl;assumption;rfl
 (apply bP Tryz.func103 Tryz.results103;rfl)
 exact⟨_,rfl,ah _ _ _,fun m hm=>aa _ _ hm⟩
theorem xU(h:RdSt H b r st)(hne:r≠b):Fnc Tryz.prog 103 [.ptr b 0,.sc (.int .i64 (n:Int))] H nx (fun q=> ∃ s H',q=(s,H',nx)∧BlkS H' s r (eE st n).1∧RdSt H' b r (eE st n).2∧ ∀ m,m≠b→H'.at' m=H.at' m):=by
 cases st with
 | none=>
   obtain⟨s,hs⟩:=h
   refine JG (xV hs) ?_
   rintro _ rfl
   exact⟨_,_,rfl,.inl ⟨rfl,rfl⟩,⟨s,hs⟩,fun m _=>rfl⟩
 | some l=>
   obtain⟨o,C,h1,h2,h4⟩:=h
   by_cases hn:n≤l.length
   ·rw [dW hn]
    refine JG (C4 h1 h2 hn) ?_
    rintro _ ⟨H',rfl,g1,g2⟩
    obtain⟨k1,k2⟩:=(h4.frame (g2 r hne)).part hn
    have hlt:(l.take n).length=n:=by rw [Jh];omega
    refine⟨_,_,rfl,.inr ⟨o,n,by rw [hlt],k1⟩,?_,g2⟩
    have hld:(l.drop n).length=l.length-n:=Jk
    refine⟨if C=n then o else o+n,C-n,by rw [hld];exact g1,by omega,?_⟩
    by_cases hc:C=n
    ·have:l.drop n= []:=List.drop_of_length_le (by omega)
     rw [this]
     obtain⟨vo,hv,_⟩:=k2
     exact BlkAt.none _ hv _
    ·rw [Jd hc]
     exact k2
   ·rw [gG (by omega)]
    refine JG (uF h1 (h4.bs) (.inr (by omega))) ?_
    rintro _ ⟨H',rfl,g1,g2⟩
    exact⟨_,_,rfl,.inl ⟨rfl,rfl⟩,⟨_,g1⟩,g2⟩
theorem zC(hb:BsIs H s (byV [])):Fnc Tryz.prog 102 [s] H nx (fun q=>q=(.tup [.sc (.int .u64 0),.sc (.int .i64 2)],H,nx)):=by
 refine JH Tryz.func102 rfl rfl ?_
 repeat first|apply cw;rfl|refine dl rfl rfl (F.un _ rfl) rfl hb ?_
 refine bi rfl rfl rfl rfl (fun _=>?_) (fun hq=>absurd hq (by decide))
 repeat apply aj;rfl
 (apply bP Tryz.func102 Tryz.results102;rfl)
 rfl
theorem Cp{bs:List UInt8}(hb:BsIs H s (byV bs))(h2:bs.length≤8):Fnc Tryz.prog 102 [s] H nx (fun q=> ∃ e:Int,q=(.tup [.sc (.int .u64 (beN bs:Int)),.sc (.int .i64 e)],H,nx)):=by
 cases bs with
 | nil=>
   refine JG (zC hb) ?_
   rintro _ rfl
   exact⟨2,rfl⟩
 | cons c bs=>
   refine JG (G0 hb (Nat.succ_le_succ (HT _)) h2) ?_
   rintro _ rfl
   exact⟨0,rfl⟩
theorem xW(st:Option (List UInt8))(n:Nat):(eE st n).1= []∨(eE st n).1.length=n:=by
 cases st with
 | none=>exact .inl rfl
 | some l=>
   by_cases h:n≤l.length
   ·rw [dW h,Jh]
    exact .inr (by omega)
   ·rw [gG (by omega)]
    exact .inl rfl
theorem qd(st:Option (List UInt8))(n:Nat):(eE st n).1.length≤n:=by
 rcases xW st n with h|h
 ·rw [h];exact HT _
 ·exact Nat.le_of_eq h
theorem GN(h:RdSt H b r st)(hne:r≠b)(h1:1≤n)(h2:n≤8):Fnc Tryz.prog 82 [.ptr b 0,.sc (.int .i64 (n:Int))] H nx (fun q=> ∃ H',q=(.sc (.int .u64 (beN (eE st n).1:Int)),H',nx)∧RdSt H' b r (eE st n).2∧ ∀ m,m≠b→H'.at' m=H.at' m):=by
 refine JH Tryz.func82 rfl rfl ?_
 repeat first|apply aj;rfl|apply kM;rfl;omega
 refine aL rfl rfl rfl (by kernel_rfl) (JG (xU (n:=n) h hne) ?_)
 rintro _ ⟨s,H',rfl,g1,g2,g3⟩
 dsimp only
 refine aL rfl rfl rfl (by kernel_rfl) (JG (Cp g1.bs (Ja (qd _ _) h2)) ?_)
 rintro _ ⟨e,rfl⟩
 dsimp only
 repeat apply aj;rfl
 (apply bP Tryz.func82 Tryz.results82;rfl)
 exact⟨_,rfl,g2,g3⟩
theorem y5(hb:H.at' b=some (rdO (.slu r 0 l.length) true))(hr:H.at' r=some (dat false l.length 1 5 (byV l)))(hbk:BlkAt H r 0 l)(hne:r≠b)(h1:1≤n)(h2:n≤8):Fnc Tryz.prog 82 [.ptr b 0,.sc (.int .i64 (n:Int))] H nx (fun q=> ∃ H',q=(.sc (.int .u64 (beN (eE (some l) n).1:Int)),H',nx)∧RdSt H' b r (eE (some l) n).2∧ ∀ m,m≠b→H'.at' m=H.at' m):=by
 refine JH Tryz.func82 rfl rfl ?_
 by_cases hl:l.length=0
 ·have hs0:eE (some l) n=([],none):=gG (by omega)
  rw [hs0]
  repeat first|apply aj;rfl|apply kM;rfl;omega
  refine aL rfl rfl rfl (by kernel_rfl) (JG (uF (n:=(n:Int)) (l:=l) hb (jg hr (by rfl)) (.inr (by omega))) ?_)
  rintro _ ⟨H',rfl,g1,g2⟩
  dsimp only
  refine aL rfl rfl rfl (by kernel_rfl) (JG (zC (CC _)) ?_)
  rintro _ rfl
  dsimp only
  repeat apply aj;rfl
  (apply bP Tryz.func82 Tryz.results82;rfl)
  exact⟨_,rfl,⟨_,g1⟩,g2⟩
 ·refine wx [] [.sc (.bool true)] hb hr (by omega) (by omega) ?_
  intro C hC
  have hst:RdSt (H.set b (aq 167 ([] ++ .sl r (0*1) l.length C :: [.sc (.bool true)]))) b r (some l):=⟨0,C,ah _ _ _,hC,hbk.frame (aa _ _ hne)⟩
  have hfr: ∀ m,m≠b→(H.set b (aq 167 ([] ++ .sl r (0*1) l.length C :: [.sc (.bool true)]))).at' m=H.at' m:=fun m hm=>aa _ _ hm
  generalize H.set b (aq 167 ([] ++ .sl r (0*1) l.length C :: [.sc (.bool true)]))=H0 at hst hfr ⊢
  repeat first|apply aj;rfl|apply kM;rfl;omega
  refine aL rfl rfl rfl (by kernel_rfl) (JG (xU (n:=n) hst hne) ?_)
  rintro _ ⟨s,H',rfl,g1,g2,g3⟩
  dsimp only
  refine aL rfl rfl rfl (by kernel_rfl) (JG (Cp g1.bs (Ja (qd _ _) h2)) ?_)
  rintro _ ⟨e,rfl⟩
  dsimp only
  repeat apply aj;rfl
  (apply bP Tryz.func82 Tryz.results82;rfl)
  exact⟨_,rfl,g2,fun m hm=>(g3 m hm).trans (hfr m hm)⟩
theorem zU(h:RdSt H b r st)(hne:r≠b):Fnc Tryz.prog 83 [.ptr b 0] H nx (fun q=> ∃ s H',q=(s,H',nx)∧BlkS H' s r (ib st).1∧RdSt H' b r (ib st).2∧ ∀ m,m≠b→H'.at' m=H.at' m):=by
 have hlt:=ml (eE st 2).1
 have hp:256 ^ (eE st 2).1.length≤256 ^ 2:=Nat.pow_le_pow_right (by decide) (qd _ _)
 refine JH Tryz.func83 rfl rfl ?_
 repeat apply aj;rfl
 refine aL rfl rfl rfl (by kernel_rfl) (JG (GN (n:=2) h hne (by decide) (by decide)) ?_)
 rintro _ ⟨H1,rfl,g1,g2⟩
 dsimp only
 repeat refine cc (bR (F.un _ rfl) (F.un _ rfl) rfl (show _=((beN (eE st 2).1:Nat):Int)from Hu _ ⟨by omega,by omega⟩)) rfl rfl rfl ?_
 refine aL rfl rfl rfl (by kernel_rfl) (JG (xU (n:=beN (eE st 2).1) g1 hne) ?_)
 rintro _ ⟨s,H2,rfl,k1,k2,k3⟩
 dsimp only
 repeat apply aj;rfl
 (apply bP Tryz.func83 Tryz.results83;rfl)
 exact⟨_,_,rfl,k1,k2,fun m hm=>(k3 m hm).trans (g2 m hm)⟩
def endR:Option (List UInt8)→Nat
 | some []=>0
 | _=>4
theorem GP(hb:H.at' b=some (rdO s true))(hs:BsIs H s (byV l)):Fnc Tryz.prog 105 [.ptr b 0] H nx (fun q=>q=(.sc (.int .i64 (l.length:Int)),H,nx)):=by
 refine JH Tryz.func105 rfl rfl ?_
 repeat first|apply aj;rfl|apply aG;rfl;assumption;rfl|apply bY;rfl;kernel_rfl;exact kq hb|refine dl rfl rfl (F.un _ rfl) rfl hs ?_;rw [bN]
 (apply bP Tryz.func105 Tryz.results105;rfl)
 rfl
theorem end_s(h:RdSt H b r st):Fnc Tryz.prog 84 [.ptr b 0] H nx (fun q=>q=(.sc (.int .i64 (endR st:Int)),H,nx)):=by
 refine JH Tryz.func84 rfl rfl ?_
 cases st with
 | none=>
   obtain⟨s,hs⟩:=h
   repeat first|apply aj;rfl|refine cc (e8 rfl rfl (F.un _ rfl) rfl) rfl rfl rfl ?_|apply bY;rfl;kernel_rfl;exact kq hs
   (apply bP Tryz.func84 Tryz.results84;rfl)
   rfl
 | some l=>
   obtain⟨o,C,h1,h2,h4⟩:=h
   have hb4:=h4.bs (C:=C)
   repeat first|apply aj;rfl|refine cc (e8 rfl rfl (F.un _ rfl) rfl) rfl rfl rfl ?_|apply bY;rfl;kernel_rfl;exact kq h1|apply bY;rfl;kernel_rfl;exact GP h1 hb4
   refine ej rfl rfl rfl rfl (fun hq=>?_) (fun hq=>?_)
   all_goals(repeat(apply aj;rfl))
   all_goals(apply bP Tryz.func84 Tryz.results84;rfl)
   all_goals(cases l with|nil=>_|cons c l=>_)
   all_goals first|rfl|(exfalso;simp at hq;done)|(exfalso;simp only [HV,List.length_nil] at hq;omega)
abbrev nV(k w:SV)(x y:Nat):SV:= .agg [k,w,.sc (.int .u64 (x:Int)),.sc (.int .u64 (y:Int))]
def VerIs(H:au)(s:SV)(v:fY):Prop:= ∃ k w,s=nV k w v.2.2.1 v.2.2.2∧BsIs H k (byV v.1)∧BsIs H w (byV v.2.1)
theorem VerIs.frame(h:VerIs H s v)(hf: ∀ b vo,H.at' b=some vo→H'.at' b=some vo):VerIs H' s v:=by
 obtain⟨k,w,h1,h2,h3⟩:=h
 exact⟨k,w,h1,h2.frame hf,h3.frame hf⟩
abbrev iH:fY:=([],[],0,0)
theorem DC(hv:VerIs H s v):Fnc Tryz.prog 71 [s] H nx (fun q=>q=(.sc (.bool (iS v)),H,nx)):=by
 refine Fnc.bu (Free.sc _) ?_
 obtain⟨k,w,rfl,hk,hw⟩:=hv
 refine JH Tryz.func71 rfl rfl ?_
 refine aW fun hund=>?_
 have hf: ∀ {vo:VO} (b:Nat) (vo':VO),H.at' b=some vo'→(H.set nx vo).at' b=some vo':=fun b vo' hb=>(aa _ _ (by have:=hund b vo' hb;omega)).trans hb
 have hk2: ∀ {vo:VO},BsIs (H.set nx vo) k (byV v.1):=fun {vo}=>hk.frame hf
 have hw2: ∀ {vo:VO},BsIs (H.set nx vo) w (byV v.2.1):=fun {vo}=>hw.frame hf
 have hm:iS v=decide ((1≤v.1.length∧v.1.length≤32)∧v.2.1.length≤128∧(1≤v.2.2.1∧v.2.2.1≤4000)∧v.2.2.2≤4000):=rfl
 have hl1:=bN v.1
 have hl2:=bN v.2.1
 (repeat' (first|apply aj;rfl|apply aG;rfl;(focus((repeat(exact ac));done));rfl|refine dl rfl rfl (F.un _ rfl) rfl hk2 ?_;rw [bN]|refine dl rfl rfl (F.un _ rfl) rfl hw2 ?_;rw [bN]|(refine er rfl rfl rfl rfl ?_ ?_ <;> intro hq)|(refine px rfl rfl rfl rfl ?_ ?_ <;> intro hq2)))
 all_goals(apply bP Tryz.func71 Tryz.results71;rfl)
 all_goals(refine⟨?_,Jb _,fun m hm=>aa _ _ (by omega)⟩)
 all_goals(rw [hm];first|(rw [Jw (by omega)];rfl)|(rw [Jx (by omega)];rfl))
theorem LsIs.nil(H:au):LsIs H [] []:=⟨rfl,fun j s vs h=>by simp at h⟩
theorem LsIs.cons{vs:List Value}{ls:List SV}{bs:List (List Value)}(h:BsIs H s vs)(t:LsIs H ls bs):LsIs H (s :: ls) (vs :: bs):=by
 refine⟨by simp [t.1],fun j s' vs' h1 h2=>?_⟩
 cases j with
 | zero=>
   simp only [HQ,Ht] at h1 h2
   subst h1 h2
   exact h
 | succ j=>exact t.2 j s' vs' (by simpa using h1) (by simpa using h2)
theorem jT(a b:List UInt8):byV (a ++ b)=byV a ++ byV b:=HX
theorem shr8(n:Nat):((n:Nat):Int).fdiv (2 ^ (min (8:Int).toNat IntKind.i64.bits))=((n / 256:Nat):Int):=by
 rw [show min (8:Int).toNat IntKind.i64.bits=8 from rfl,Int.fdiv_eq_ediv_of_nonneg _ (by decide)]
 omega
theorem Ea(n:Nat):byV (beB n 2)= [.int .u8 ((UInt8.ofNat (n / 256)).toNat:Int),.int .u8 ((UInt8.ofNat n).toNat:Int)]:=by
 rw [kD,kD]
 simp [beB]
theorem CD(hs:BsIs H s (byV l))(hl:l.length≤65535):Fnc Tryz.prog 72 [s] H nx (fun q=> ∃ r,q.1 = .tup [.slu r 0 (iZ l).length,.sc (.int .i64 0)]∧q.2.1.at' r=some (u8R false (byV (iZ l)))∧nx≤r∧r<q.2.2∧ ∀ m,m<nx→q.2.1.at' m=H.at' m):=by
 refine JH Tryz.func72 rfl rfl ?_
 refine aW fun hund=>?_
 have hbl:(byV (iZ l))= [.int .u8 ((UInt8.ofNat (l.length / 256)).toNat:Int),.int .u8 ((UInt8.ofNat l.length).toNat:Int)] ++ (byV l ++ []):=by
  unfold iZ
  rw [jT,Ea,Jr]
 have hf: ∀ (vo vo':VO) (b:Nat) (w:VO),H.at' b=some w→((H.set nx vo).set (nx+1) vo').at' b=some w:=fun vo vo' b w hb=>by
  have:=hund b w hb
  exact(aa _ _ (by omega)).trans ((aa _ _ (by omega)).trans hb)
 have hs0:=hs
 repeat first|apply cw;rfl|refine dl rfl rfl (F.un _ rfl) rfl hs ?_;rw [bN]
 refine ej rfl rfl rfl rfl (fun hq=>absurd hq (by omega)) (fun _=>?_)
 repeat first|apply cw;rfl|refine dl rfl rfl (F.un _ rfl) rfl hs ?_;rw [bN]|refine cc (oe rfl rfl (by focus(decide)) (shr8 _)) rfl rfl rfl ?_|refine cc (bR (F.un _ rfl) (F.un _ rfl) rfl (wy _)) rfl rfl rfl ?_
 obtain⟨_,⟨_,_,_,rfl⟩|⟨r0,eo,ne,ro0,t0,us,rfl,hb0,hn0,hu0⟩|⟨b0,o0,C0,vo0,rfl,hb0,hc0⟩⟩:=hs0
 all_goals(repeat(first|apply bB;rfl;rfl;exact(F.un _ rfl);exact(F.sz _ rfl);rfl;exact(F.ze _ rfl);rfl;rfl;rfl;rfl;rfl|apply aj;rfl))
 all_goals
  refine aL rfl rfl rfl (by kernel_rfl) (JG (sA (bs:= [[.int .u8 ((UInt8.ofNat (l.length / 256)).toNat:Int),.int .u8 ((UInt8.ofNat l.length).toNat:Int)],byV l]) (ls:= [_,_]) (ah _ _ _) (LsIs.cons (BsIs.row (ne:=2) (fun v hv=>by rcases Js.1 hv with rfl|hv;rfl;rw [Jj.1 hv];rfl) ((aa _ _ (by omega)).trans ((ah _ _ _).trans (congrArg some (gQ _ _ _ _ [.int .u8 ((UInt8.ofNat (l.length / 256)).toNat:Int),.int .u8 ((UInt8.ofNat l.length).toNat:Int)])))) rfl) (LsIs.cons (hs.frame (hf _ _)) (LsIs.nil _))) (by simp;omega) (Hz rfl)) ?_)
  rintro _ rfl
  dsimp only
  repeat apply aj;rfl
  (apply bP Tryz.func72 Tryz.results72;rfl)
 all_goals
  refine⟨nx+1+1,?_,?_,by omega,Nat.lt_succ_self _,fun m hm=>by(repeat(refine ab (by omega) ?_));rfl⟩
  ·rw [show(iZ l).length=(byV (iZ l)).length from(bN _).symm,hbl]
   rfl
  ·refine(ah _ _ _).trans ?_
   rw [hbl]
   rfl
theorem jc{ro:Bool}(h:H.at' r=some (u8R ro (byV l))):BsIs H (.slu r 0 l.length) (byV l):=by
 have:=BsIs.row (yW l) h rfl
 rwa [bN] at this
theorem zR(hv:VerIs H s v)(hm:iS v=true):Fnc Tryz.prog 32 [s] H nx (fun q=> ∃ r,q.1 = .tup [.slu r 0 (aR v).length,.sc (.int .i64 0)]∧q.2.1.at' r=some (u8R false (byV (aR v)))∧nx≤r∧r<q.2.2∧ ∀ m,m<nx→q.2.1.at' m=H.at' m):=by
 have hv0:=hv
 have hb:=Jp hm
 obtain⟨k,w,rfl,hk,hw⟩:=hv
 refine JH Tryz.func32 rfl rfl ?_
 refine aW fun hund=>?_
 repeat first|apply aj;rfl|apply aG;rfl;(focus((repeat(exact ac));done));rfl
 have hm1:=DC (H:=H.set nx (aq 38 [k,w,.sc (.int .u64 (v.2.2.1:Int)),.sc (.int .u64 (v.2.2.2:Int))])) (nx:=nx+1) (hv0.frame fun b vo hb=>(aa _ _ (by have:=hund b vo hb;omega)).trans hb)
 rw [hm] at hm1
 repeat first|apply aj;rfl|apply aG;rfl;(focus((repeat(exact ac));done));rfl|apply bY;rfl;kernel_rfl;exact hm1
 refine aL rfl rfl rfl (by kernel_rfl) (JG (AS (n:=v.2.2.1) (size:=8) (by omega) (by decide) (by decide) (by omega)) ?_)
 rintro⟨_,H2,n2⟩ ⟨rfl,a2,rfl,a4⟩
 dsimp only at a2 a4 ⊢
 have hbox2:H2.at' nx=some (aq 38 [k,w,.sc (.int .u64 (v.2.2.1:Int)),.sc (.int .u64 (v.2.2.2:Int))]):=(a4 nx (by omega)).trans (ah _ _ _)
 repeat first|apply aj;rfl|apply aG;rfl;assumption;rfl
 refine aL rfl rfl rfl (by kernel_rfl) (JG (AS (n:=v.2.2.2) (size:=8) (by omega) (by decide) (by decide) (by omega)) ?_)
 rintro⟨_,H3,n3⟩ ⟨rfl,b2,rfl,b4⟩
 dsimp only at b2 b4 ⊢
 have hbox3:=(b4 nx (by omega)).trans hbox2
 have h3: ∀ m,m<nx→H3.at' m=H.at' m:=fun m hm=>(b4 m (by omega)).trans ((a4 m (by omega)).trans (aa _ _ (by omega)))
 repeat first|apply aj;rfl|apply aG;rfl;assumption;rfl
 refine aL rfl rfl rfl (by kernel_rfl) (JG (CD (hk.frame fun b vo hb=>(h3 b (hund b vo hb)).trans hb) (by omega)) ?_)
 rintro⟨_,H4,n4⟩ ⟨r4,rfl,c2,c3,c4,c5⟩
 dsimp only at c2 c3 c4 c5 ⊢
 have hbox4:=(c5 nx (by omega)).trans hbox3
 have h4: ∀ m,m<nx→H4.at' m=H.at' m:=fun m hm=>(c5 m (by omega)).trans (h3 m hm)
 repeat first|apply aj;rfl|apply aG;rfl;assumption;rfl
 refine aL rfl rfl rfl (by kernel_rfl) (JG (CD (hw.frame fun b vo hb=>(h4 b (hund b vo hb)).trans hb) (by omega)) ?_)
 rintro⟨_,H5,n5⟩ ⟨r5,rfl,d2,d3,d4,d5⟩
 dsimp only at d2 d3 d4 d5 ⊢
 have h5: ∀ m,m<nx→H5.at' m=H.at' m:=fun m hm=>(d5 m (by omega)).trans (h4 m hm)
 have e1:H5.at' (nx+1)=some (dat false 8 1 5 (byV (beB v.2.2.1 8))):=(d5 _ (by omega)).trans ((c5 _ (by omega)).trans ((b4 _ (by omega)).trans a2))
 have e2:H5.at' (nx+1+1)=some (dat false 8 1 5 (byV (beB v.2.2.2 8))):=(d5 _ (by omega)).trans ((c5 _ (by omega)).trans b2)
 have e3:H5.at' r4=some (u8R false (byV (iZ v.1))):=(d5 _ (by omega)).trans c2
 clear a2 a4 b2 b4 c2 c5
 refine aW fun hund5=>?_
 repeat first|apply bB;rfl;rfl;exact(F.un _ rfl);exact(F.sz _ rfl);rfl;exact(F.ze _ rfl);rfl;rfl;rfl;rfl;rfl|apply aj;rfl
 have hfr: ∀ (vo:VO) (b:Nat) (x:VO),H5.at' b=some x→(H5.set n5 vo).at' b=some x:=fun vo b x hx=>(aa _ _ (by have:=hund5 b x hx;omega)).trans hx
 have hfl:byV (aR v)=byV (beB v.2.2.1 8) ++ (byV (beB v.2.2.2 8) ++ (byV (iZ v.1) ++ (byV (iZ v.2.1) ++ []))):=by
  unfold aR
  rw [jT,jT,jT,Jr]
 have hvl:=ef v
 refine aL rfl rfl rfl (by kernel_rfl) (JG (sA (bs:= [byV (beB v.2.2.1 8),byV (beB v.2.2.2 8),byV (iZ v.1),byV (iZ v.2.1)]) (ls:= [_,_,_,_]) (ah _ _ _) (LsIs.cons ((jg e1 (bp _ _)).frame (hfr _)) (LsIs.cons ((jg e2 (bp _ _)).frame (hfr _)) (LsIs.cons ((jc e3).frame (hfr _)) (LsIs.cons ((jc d2).frame (hfr _)) (LsIs.nil _))))) (by show(byV (beB v.2.2.1 8) ++ (byV (beB v.2.2.2 8) ++ (byV (iZ v.1) ++ (byV (iZ v.2.1) ++ [])))).length≤_;rw [← hfl,bN,hvl];omega) (Hz rfl)) ?_)
 rintro _ rfl
 dsimp only
 repeat apply aj;rfl
 (apply bP Tryz.func32 Tryz.results32;rfl)
 refine⟨n5+1,?_,?_,by omega,Nat.lt_succ_self _,fun m hm=>(aa _ _ (by omega)).trans ((aa _ _ (by omega)).trans (h5 m hm))⟩
 ·rw [show(aR v).length=(byV (aR v)).length from(bN _).symm,hfl]
  rfl
 ·refine(ah _ _ _).trans ?_
  rw [hfl]
  rfl
theorem BA(hv:VerIs H s v)(hm:iS v=false):Fnc Tryz.prog 32 [s] H nx (fun q=>q=(.tup [dy,.sc (.int .i64 2)],H,nx)):=by
 refine Fnc.bu (Free.two (Free.sc _) (Free.sc _)) ?_
 have hv0:=hv
 obtain⟨k,w,rfl,hk,hw⟩:=hv
 refine JH Tryz.func32 rfl rfl ?_
 refine aW fun hund=>?_
 have hm1:=DC (H:=H.set nx (aq 38 [k,w,.sc (.int .u64 (v.2.2.1:Int)),.sc (.int .u64 (v.2.2.2:Int))])) (nx:=nx+1) (hv0.frame fun b vo hb=>(aa _ _ (by have:=hund b vo hb;omega)).trans hb)
 rw [hm] at hm1
 repeat first|apply aj;rfl|apply aG;rfl;(focus((repeat(exact ac));done));rfl|apply bY;rfl;kernel_rfl;exact hm1
 (apply bP Tryz.func32 Tryz.results32;rfl)
 exact⟨rfl,Jb _,fun m hm=>aa _ _ (by omega)⟩
theorem rA(ro:Bool)(l:List UInt8):u8R ro (byV l)=dat ro l.length 1 5 (byV l):=by
 show dat ro (byV l).length 1 _ _=_
 rw [bN]
theorem s4{ro:Bool}(h:H.at' r=some (dat ro l.length 1 5 (byV l))):BlkAt H r 0 l:=by
 refine⟨_,h,?_⟩
 exact iY l.length 0 (by rw [List.drop_zero];exact HK (by rw [bN];exact HS _)) (bN l) (by omega)
theorem Gu(hs:BsIs H s (byV l))(hl:l.length≤140737488355328):Fnc Tryz.prog 81 [s] H nx (fun q=> ∃ r b,q.1 = .ptr b 0∧q.2.1.at' b=some (rdO (.slu r 0 l.length) true)∧q.2.1.at' r=some (dat false l.length 1 5 (byV l))∧r≠b∧nx≤r∧nx≤b∧r<q.2.2∧b<q.2.2∧ ∀ m,m<nx→q.2.1.at' m=H.at' m):=by
 refine JH Tryz.func81 rfl rfl ?_
 refine aW fun hund=>?_
 have hfr: ∀ (vo:VO) (b:Nat) (x:VO),H.at' b=some x→(H.set nx vo).at' b=some x:=fun vo b x hx=>(aa _ _ (by have:=hund b x hx;omega)).trans hx
 have hs0:=hs
 obtain⟨_,⟨_,_,_,rfl⟩|⟨r0,eo,ne,ro0,t0,us,rfl,hb0,hn0,hu0⟩|⟨b0,o0,C0,vo0,rfl,hb0,hc0⟩⟩:=hs0
 all_goals(repeat(first|apply bB;rfl;rfl;exact(F.un _ rfl);exact(F.sz _ rfl);rfl;exact(F.ze _ rfl);rfl;rfl;rfl;rfl;rfl|apply aj;rfl))
 all_goals
  refine aL rfl rfl rfl (by kernel_rfl) (JG (sA (bs:= [byV l]) (ls:= [_]) (ah _ _ _) (LsIs.cons (hs.frame (hfr _)) (LsIs.nil _)) (by show(byV l ++ []).length≤_;rw [Jr,bN];exact hl) (Hz rfl)) ?_)
  rintro _ rfl
  dsimp only
  have hfl: [byV l].flatten=byV l:=Jr _
  rw [hfl,bN]
  repeat apply aj;rfl
  (apply bP Tryz.func81 Tryz.results81;rfl)
  refine⟨nx+1,nx+1+1,rfl,ah _ _ _,((aa _ _ (by omega)).trans (ah _ _ _)).trans (congrArg some (rA _ _)),by omega,by omega,by omega,by dsimp only;omega,by dsimp only;omega,fun m hm=>by(repeat(refine ab (by omega) ?_));rfl⟩
def aS(p:List UInt8)(j:Nat):List UInt8:=(p.drop (ay p j)).take (ar p j)
theorem iL(p:List UInt8): ∀ (k n:Nat) (seen:List (Nat×Nat)) (fine:Bool),eZ p k n seen fine=true→ ∀ j,n≤j→j<n+k→(ay p j=0∧ar p j=0)∨(1≤ar p j∧ar p j≤1000∧aE p≤ay p j∧ay p j+ar p j≤1024)
 | 0,n,seen,fine,_,j,h1,h2=>absurd h1 (by omega)
 | k+1,n,seen,fine,h,j,h1,h2=>by
   unfold eZ at h
   split at h
   ·rename_i h3
    rcases Jg n j with h4|h4
    ·exact iL p k (n+1) _ _ h j (by omega) (by omega)
    ·obtain rfl:n=j:=by omega
     exact .inl h3
   ·split at h
    ·cases h
    ·split at h
     ·cases h
     ·rename_i h5 _
      rcases Jg n j with h4|h4
      ·exact iL p k (n+1) _ _ h j (by omega) (by omega)
      ·obtain rfl:n=j:=by omega
       exact .inr (by omega)
theorem cQ(h:bl p=true){j:Nat}(hj:j<ae p)(hs:ar p j≠0):1≤ar p j∧ar p j≤1000∧aE p≤ay p j∧ay p j+ar p j≤1024:=by
 unfold bl at h
 rw [HR] at h
 rcases iL p _ _ _ _ h.2 j (HT _) (by omega)with h1|h1
 ·exact absurd h1.2 hs
 ·exact h1
theorem dz(hp:p.length=1024){j:Nat}(h:ay p j+ar p j≤1024):(aS p j).length=ar p j:=by
 unfold aS
 rw [Jh,Jk]
 omega
theorem ua{l f q:Nat}(hp:p.length=1024)(hr:bl p=true){f2 nt2:Nat}{T2:Tr SV}{ps:Array Tmp}{ca cb:Code}{dr:Nat}(hps:ps.size=2)(I:Nat→au→Nat→Prop)(J:au→Nat→Prop)
 (hI: ∀ j H nx,I j H nx→H.at' l=some (.loop .ready none f2 nt2 T2 ps ca cb dr)∧H.at' f=some (aq 4 [.sc (.bool true)])∧H.at' q=some (pgO p)∧l<nx∧f<nx∧q<nx)
 (hgrow: ∀ j H nx H' nx',I j H nx→nx≤nx'→(∀ m,m<nx→H'.at' m=H.at' m)→I j H' nx')
 (hskip: ∀ j H nx,I j H nx→ar p j=0→I (j+1) H nx)
 (hround: ∀ j H1 n1 r,I j H1 n1→nx≤r→r<n1→j<ae p→ar p j≠0→H1.at' r=some (u8R false (byV (aS p j))) →
   Wp Tryz.prog (some l) ⟨f2,nt2,(ps.toList.zip [.sc (.int .i64 (j:Int)),.slu r 0 (aS p j).length]).foldl (fun T x=>mt nt2 T (some x.1) x.2) T2,[.code ca,.beginRound,.code cb],[],H1,n1⟩ (fun x=>(x.1 = .sc (.bool true)∧I (j+1) x.2.1 x.2.2∧n1≤x.2.2∧x.2.1.at' nx=H1.at' nx)∨(x.1 = .sc (.bool false)∧J x.2.1 x.2.2)))
 (h0:I 0 H nx):Fnc Tryz.prog 79 [.yld l,.ptr f 0,.ptr q 0] H nx (fun r=>I (ae p) r.2.1 r.2.2∨J r.2.1 r.2.2):=by
 have hf:=fA hp hr
 obtain⟨_,hp1,hp2⟩:=hf
 have hJ0:Nat.beq ps.size 2=true:=by rw [hps];rfl
 refine JH Tryz.func79 rfl rfl ?_
 obtain⟨i1,i2,i3,i4,i5,i6⟩:=hI _ _ _ h0
 have hg1:I 0 (H.set nx (Bm q)) (nx+1):=hgrow _ _ _ _ _ h0 (Jb _) fun m hm=>aa _ _ (by omega)
 have hq1: ∀ {vo:VO},(H.set nx vo).at' q=some (pgO p):=fun {vo}=>(aa _ _ (by omega)).trans i3
 repeat first|apply aj;rfl|apply aG;rfl;assumption;rfl|apply bY;rfl;kernel_rfl;exact l5|apply bY;rfl;kernel_rfl;exact iK hq1 hp
 refine bv (α:=Nat) (fun j=> [(0,.yld l),(2,.ptr q 0),(4,DX nx),(11,.sc (.int .i64 (ae p:Int))),(12,.sc (.int .i64 (j:Int)))])
  (fun j H1 n1=>j≤ae p∧I j H1 n1∧nx+1≤n1∧H1.at' nx=some (Bm q)) (fun j=>ae p-j) 0
  ⟨HT _,hg1,HS _,ah _ _ _⟩ (JN (JQ rfl)) ?_
 clear hg1 h0 hq1 i1 i2 i3
 rintro j H1 n1 ⟨h1,h2,h3,h4⟩ ih
 obtain⟨k1,k2,k3,k4,k5,k6⟩:=hI _ _ _ h2
 repeat apply aj;rfl
 refine bi rfl rfl rfl rfl (fun h5=>?_) (fun h5=>?_)
 ·repeat apply aj;rfl
  refine jm rfl rfl rfl rfl (by kernel_rfl) (JG (nR h4 k3 hp (n:=j) (by omega)) ?_)
  rintro _ rfl
  dsimp only
  repeat apply aj;rfl
  refine cF rfl rfl rfl rfl (fun e1=>?_) (fun e1=>?_)
  ·repeat first|apply aj;rfl|apply aK;rfl;omega;omega
   exact ih _ _ _ (j+1) ⟨by omega,hskip _ _ _ h2 (by omega),h3,h4⟩ (by omega) (JN (JQ rfl))
  ·have hs:=cQ hr (j:=j) (by omega) (by omega)
   have hil:=dz hp hs.2.2.2
   have hbl:=bN (aS p j)
   repeat first|apply aj;rfl|apply aK;rfl;omega;omega|apply kL (lw:=ay p j) (hg:=ay p j+ar p j);rfl;rfl;rfl;exact(F.un _ rfl);exact(F.sz _ rfl);rfl;rfl;(focus(omega));(focus(omega));(focus(omega));exact(show ay p j+ar p j-ay p j=ar p j by omega);rfl;exact(Jf _)|refine cc (e8 rfl rfl Tryz.underlying139 rfl) rfl rfl rfl ?_|apply bB;rfl;rfl;exact(F.un _ rfl);exact(F.sz _ rfl);rfl;exact(F.ze _ rfl);rfl;rfl;rfl;rfl;rfl
   refine aL rfl rfl rfl (by kernel_rfl) (JG (sA (bs:= [byV (aS p j)]) (ls:= [_]) (ah _ _ _) (LsIs.cons (mT ((aa _ _ (by omega)).trans k3) (by omega)) (LsIs.nil _)) (by show(byV (aS p j) ++ []).length≤_;rw [Jr];omega) (Hz rfl)) ?_)
   rintro _ rfl
   dsimp only
   have hfl: [byV (aS p j)].flatten=byV (aS p j):=Jr _
   rw [hfl,bN]
   have hg:I j ((H1.set n1 (bsR false [.sl q (ay p j) (ar p j) (1024-ay p j)])).set (n1+1) (u8R false (byV (aS p j)))) (n1+1+1):=hgrow _ _ _ _ _ h2 (by omega) fun m hm=>(aa _ _ (by omega)).trans (aa _ _ (by omega))
   have hl2:=(hI _ _ _ hg).1
   refine xI (n:=l) rfl rfl rfl rfl hl2 hJ0 ?_
   refine Wp.mono (hround j _ _ (n1+1) hg (by omega) (by omega) (by omega) (by omega) (ah _ _ _)) ?_
   rintro⟨v,H2,n2⟩ (⟨rfl,g2,g3,g4⟩|⟨rfl,g2⟩)
   ·dsimp only at g2 g3 g4 ⊢
    repeat first|apply aj;rfl|apply aK;rfl;omega;omega
    exact ih _ _ _ (j+1) ⟨by omega,g2,by omega,g4.trans ((aa _ _ (by omega)).trans ((aa _ _ (by omega)).trans h4))⟩ (by omega) (JN (JQ rfl))
   ·dsimp only at g2 ⊢
    repeat apply aj;rfl
    (apply bP Tryz.func79 Tryz.results79;rfl)
    exact .inr g2
 ·obtain rfl:j=ae p:=by omega
  repeat apply aj;rfl
  (apply B0 Tryz.func79 Tryz.results79;rfl)
  exact .inl h2
abbrev fm(s:List SV):VO:=aq 38 s
abbrev ew(k w:SV)(x y:Nat):List SV:= [k,w,.sc (.int .u64 (x:Int)),.sc (.int .u64 (y:Int))]
def A2(o:Option fY):Nat:=if o.isSome then 0 else 13
theorem BlkS.CJ{k w:SV}(hk:BlkS H k r v.1)(hw:BlkS H w r v.2.1):VerIs H (nV k w v.2.2.1 v.2.2.2) v:=⟨k,w,rfl,hk.bs,hw.bs⟩
def VerAt(H:au)(s:SV)(r:Nat)(v:fY):Prop:= ∃ k w,s=nV k w v.2.2.1 v.2.2.2∧BlkS H k r v.1∧BlkS H w r v.2.1
theorem VerAt.is(h:VerAt H s r v):VerIs H s v:=by
 obtain⟨k,w,h1,h2,h3⟩:=h
 exact⟨k,w,h1,h2.bs,h3.bs⟩
theorem VerAt.frame(h:VerAt H s r v)(hf:H'.at' r=H.at' r):VerAt H' s r v:=by
 obtain⟨k,w,h1,h2,h3⟩:=h
 exact⟨k,w,h1,h2.frame hf,h3.frame hf⟩
theorem f8(H:au)(r:Nat):VerAt H (nV dy dy 0 0) r iH:=⟨dy,dy,rfl,.inl ⟨rfl,rfl⟩,.inl ⟨rfl,rfl⟩⟩
theorem RdSt.frame(h:RdSt H b r st)(hb:H'.at' b=H.at' b)(hr:H'.at' r=H.at' r):RdSt H' b r st:=by
 cases st with
 | none=>obtain⟨s,h⟩:=h;exact⟨s,hb.trans h⟩
 | some l=>obtain⟨o,C,h1,h2,h3⟩:=h;exact⟨o,C,hb.trans h1,h2,h3.frame hr⟩
theorem of_s(hs:BsIs H s (byV l))(hl:l.length≤140737488355328):Fnc Tryz.prog 40 [s] H nx (fun q=> ∃ s' r,q.1 = .tup [s',.sc (.int .i64 (A2 (ofV l):Int))]∧VerAt q.2.1 s' r ((ofV l).getD iH)∧nx≤r∧nx≤q.2.2∧ ∀ m,m<nx→q.2.1.at' m=H.at' m):=by
 refine JH Tryz.func40 rfl rfl ?_
 refine aW fun hund=>?_
 have hs1: ∀ {vo:VO},BsIs (H.set nx vo) s (byV l):=fun {vo}=>hs.frame fun b x hb=>(aa _ _ (by have:=hund b x hb;omega)).trans hb
 repeat first|apply cw;rfl|refine dl rfl rfl (F.un _ rfl) rfl hs1 ?_;rw [bN]
 refine ej rfl rfl rfl rfl (fun h1=>?_) (fun h1=>?_)
 ·have hv:ofV l=none:=by unfold ofV;rw [Je (by omega)]
  repeat first|apply aj;rfl|apply aG;rfl;(focus((repeat(exact ac));done));rfl
  ((apply bn Tryz.func40 (congrArg Array.toList Tryz.results40));(focus(repeat(first|exact JI|apply JK rfl|apply JJ rfl (JL (F.ag _ rfl) (by repeat(exact ac)) (am _ 0 rfl rfl))))))
  rw [hv]
  exact⟨_,nx,rfl,f8 _ _,HS _,Jb _,fun m hm=>(aa _ _ (by omega)).trans (aa _ _ (by omega))⟩
 ·have hv:ofV l=Cr (jA l).2 (jA l).1:=by unfold ofV;rw [Jd (by omega)]
  have hp:jA l=(((ib (eE (eE (some l) 8).2 8).2).1,(ib (ib (eE (eE (some l) 8).2 8).2).2).1,beN (eE (some l) 8).1,beN (eE (eE (some l) 8).2 8).1),(ib (ib (eE (eE (some l) 8).2 8).2).2).2):=rfl
  repeat apply aj;rfl
  refine aL rfl rfl rfl (by kernel_rfl) (JG (Gu hs1 hl) ?_)
  rintro⟨_,H1,n1⟩ ⟨r,b,rfl,a1,a2,a3,a4,a5,a6,a7,a8⟩
  dsimp only at a1 a2 a6 a7 a8 ⊢
  have ares:H1.at' nx=some (fm (ew dy dy 0 0)):=(a8 nx (by omega)).trans (ah _ _ _)
  have aold: ∀ m,m<nx→H1.at' m=H.at' m:=fun m hm=>(a8 m (by omega)).trans (aa _ _ (by omega))
  clear a8
  repeat apply aj;rfl
  refine aL rfl rfl rfl (by kernel_rfl) (JG (y5 (l:=l) (n:=8) (r:=r) (by(repeat(refine ab (by omega) ?_));exact a1) (by(repeat(refine ab (by omega) ?_));exact a2) ((s4 a2).frame (by(repeat(refine ab (by omega) ?_));rfl)) a3 (by decide) (by decide)) ?_)
  rintro _ ⟨H2,rfl,b1,b2⟩
  dsimp only
  have bbox:H2.at' n1=some (fm (ew dy dy 0 0)):=(b2 n1 (by omega)).trans (ah _ _ _)
  have bres:H2.at' nx=some (fm (ew dy dy 0 0)):=(b2 nx (by omega)).trans ((aa _ _ (by omega)).trans ares)
  have bold: ∀ m,m<nx→H2.at' m=H.at' m:=fun m hm=>(b2 m (by omega)).trans ((aa _ _ (by omega)).trans (aold m hm))
  clear b2 a1 a2 ares aold hs1
  repeat first|apply aj;rfl|apply aG;rfl;assumption;rfl
  refine aL rfl rfl rfl (by kernel_rfl) (JG (GN (n:=8) (b1.frame (aa _ _ (by omega)) (aa _ _ (by omega))) a3 (by decide) (by decide)) ?_)
  rintro _ ⟨H3,rfl,c1,c2⟩
  dsimp only
  have cbox:=(c2 n1 (by omega)).trans (ah _ _ _)
  have cres:H3.at' nx=some (fm (ew dy dy 0 0)):=(c2 nx (by omega)).trans ((aa _ _ (by omega)).trans bres)
  have cold: ∀ m,m<nx→H3.at' m=H.at' m:=fun m hm=>(c2 m (by omega)).trans ((aa _ _ (by omega)).trans (bold m hm))
  clear c2 b1 bbox bres bold
  repeat first|apply aj;rfl|apply aG;rfl;assumption;rfl
  refine aL rfl rfl rfl (by kernel_rfl) (JG (zU (c1.frame (aa _ _ (by omega)) (aa _ _ (by omega))) a3) ?_)
  rintro _ ⟨k,H4,rfl,d0,d1,d2⟩
  dsimp only
  have dbox:=(d2 n1 (by omega)).trans (ah _ _ _)
  have dres:H4.at' nx=some (fm (ew dy dy 0 0)):=(d2 nx (by omega)).trans ((aa _ _ (by omega)).trans cres)
  have dold: ∀ m,m<nx→H4.at' m=H.at' m:=fun m hm=>(d2 m (by omega)).trans ((aa _ _ (by omega)).trans (cold m hm))
  clear d2 c1 cbox cres cold
  have hk1:k.one=true:=by rcases d0 with ⟨rfl,_⟩|⟨o,C,rfl,_⟩ <;> rfl
  repeat first|apply aj;rfl|refine dg rfl rfl rfl (F.sz _ rfl) (by assumption) hk1 (by rfl) ?_
  refine aL rfl rfl rfl (by kernel_rfl) (JG (zU (d1.frame (aa _ _ (by omega)) (aa _ _ (by omega))) a3) ?_)
  rintro _ ⟨w,H5,rfl,e0,e1,e2⟩
  dsimp only
  have ebox:=(e2 n1 (by omega)).trans (ah _ _ _)
  have eres:H5.at' nx=some (fm (ew dy dy 0 0)):=(e2 nx (by omega)).trans ((aa _ _ (by omega)).trans dres)
  have eold: ∀ m,m<nx→H5.at' m=H.at' m:=fun m hm=>(e2 m (by omega)).trans ((aa _ _ (by omega)).trans (dold m hm))
  have d0':BlkS H5 k r _:=d0.frame ((e2 r a3).trans (aa _ _ (by omega)))
  clear e2 d1 d0 dbox dres dold
  have hw1:w.one=true:=by rcases e0 with ⟨rfl,_⟩|⟨o,C,rfl,_⟩ <;> rfl
  repeat first|apply aj;rfl|refine dg rfl rfl rfl (F.sz _ rfl) (by assumption) hw1 (by rfl) ?_
  refine aL rfl rfl rfl (by kernel_rfl) (JG (end_s (e1.frame (aa _ _ (by omega)) (aa _ _ (by omega)))) ?_)
  rintro _ rfl
  dsimp only
  have fold: ∀ (vo:VO) m,m<nx→(H5.set n1 vo).at' m=H.at' m:=fun vo m hm=>(aa _ _ (by omega)).trans (eold m hm)
  rw [hv,hp]
  dsimp only
  generalize eE (some l) 8=p1 at *
  generalize eE p1.2 8=p2 at *
  generalize ib p2.2=p3 at *
  generalize ib p3.2=p4 at *
  have g1:BlkS (H5.set n1 (fm (ew k w (beN p1.1) (beN p2.1)))) k r p3.1:=d0'.frame (aa _ _ (by omega))
  have g2:BlkS (H5.set n1 (fm (ew k w (beN p1.1) (beN p2.1)))) w r p4.1:=e0.frame (aa _ _ (by omega))
  have g3:VerIs (H5.set n1 (fm (ew k w (beN p1.1) (beN p2.1)))) (nV k w (beN p1.1) (beN p2.1)) (p3.1,p4.1,beN p1.1,beN p2.1):=BlkS.CJ (v:=(p3.1,p4.1,beN p1.1,beN p2.1)) g1 g2
  have fbox:(H5.set n1 (fm (ew k w (beN p1.1) (beN p2.1)))).at' n1=some (fm (ew k w (beN p1.1) (beN p2.1))):=ah _ _ _
  have fres:(H5.set n1 (fm (ew k w (beN p1.1) (beN p2.1)))).at' nx=some (fm (ew dy dy 0 0)):=(aa _ _ (by omega)).trans eres
  have fold2:=fold (fm (ew k w (beN p1.1) (beN p2.1)))
  refine cL (R:=fun H6 n6=>H6=H5.set n1 (fm (ew k w (beN p1.1) (beN p2.1)))∧n6=n1+1) ⟨rfl,rfl⟩ ?_
  rintro H6 n6 ⟨hH6,rfl⟩
  rw [← hH6] at g1 g2 g3 fbox fres fold2
  clear hH6 d0' e0 e1 ebox eres eold fold
  by_cases he:p4.2=some []
  ·rw [show endR p4.2=0 by rw [he];rfl,he]
   have hm:=DC (nx:=n1+1) g3
   cases hmv:iS (p3.1,p4.1,beN p1.1,beN p2.1)with
   | true=>
     rw [hmv] at hm
     have hone:bh (ew k w (beN p1.1) (beN p2.1))=true:=by simp only [bh,hk1,hw1];rfl
     have hfin:Cr (some []) (p3.1,p4.1,beN p1.1,beN p2.1)=some (p3.1,p4.1,beN p1.1,beN p2.1):=Je ⟨rfl,hmv⟩
     repeat first|apply aj;rfl|apply aG;rfl;assumption;rfl|apply dH;rfl;rfl|apply bY;rfl;kernel_rfl;exact hm|refine dm rfl rfl rfl (F.sz _ rfl) (by assumption) rfl (by exact Hz rfl) hone rfl ?_
     ((apply bn Tryz.func40 (congrArg Array.toList Tryz.results40));(focus(repeat(first|exact JI|apply JK rfl|apply JJ rfl (JL (F.ag _ rfl) (by repeat(exact ac)) (am _ 0 rfl rfl))))))
     rw [hfin]
     exact⟨_,r,rfl,⟨k,w,rfl,g1.frame (aa _ _ (by omega)),g2.frame (aa _ _ (by omega))⟩,by omega,by dsimp only;omega,fun m hm=>(aa _ _ (by omega)).trans (fold2 m hm)⟩
   | false=>
     rw [hmv] at hm
     have hfin:Cr (some []) (p3.1,p4.1,beN p1.1,beN p2.1)=none:=Jd fun h=>by rw [hmv] at h;cases h.2
     repeat first|apply aj;rfl|apply aG;rfl;assumption;rfl|apply dH;rfl;rfl|apply bY;rfl;kernel_rfl;exact hm
     ((apply bn Tryz.func40 (congrArg Array.toList Tryz.results40));(focus(repeat(first|exact JI|apply JK rfl|apply JJ rfl (JL (F.ag _ rfl) (by repeat(exact ac)) (am _ 0 rfl rfl))))))
     rw [hfin]
     exact⟨_,nx,rfl,f8 _ _,HS _,by dsimp only;omega,fun m hm=>(aa _ _ (by omega)).trans (fold2 m hm)⟩
  ·rw [uh he,show endR p4.2=4 by rcases hq:p4.2 with _|⟨_|⟨c,l'⟩⟩;rfl;exact absurd hq he;rfl]
   repeat first|apply aj;rfl|apply aG;rfl;assumption;rfl|apply ii;rfl;decide
   ((apply bn Tryz.func40 (congrArg Array.toList Tryz.results40));(focus(repeat(first|exact JI|apply JK rfl|apply JJ rfl (JL (F.ag _ rfl) (by repeat(exact ac)) (am _ 0 rfl rfl))))))
   exact⟨_,nx,rfl,f8 _ _,HS _,by dsimp only;omega,fun m hm=>(aa _ _ (by omega)).trans (fold2 m hm)⟩
end
end Go.Proofs.YtnhmbonmlfeifaaGreat
end
section
namespace Go.Sy
open Go Go.Sl Go.RowKit
def lY(k:IntKind)(l:List Int):List Value:=l.map fun n=> .int k n
theorem rH{P:Program}{t:TypeId}{k:IntKind}{l:List Int}{i:Nat}(hu:P.underlying t=some (.int k))(hi:i<l.length)(w:World):(part t (lY k l).toArray (i*1)).run P w = .ok (.int k l[i]) w:=by
 have hv:(lY k l).toArray[i]? =some (.int k l[i]):=by
  simp [lY,Hx hi]
 rw [Nat.mul_one]
 generalize (lY k l).toArray=cs at hv
 simp [part,isAgg,run_underlying hu,hv]
theorem jt{P:Program}{e:TypeId}{k:IntKind}(hu:P.underlying e=some (.int k))(d:Nat)(xs ys:List Int)(w:World): ∀ is:List Nat,(∀ i∈is,i<xs.length∧i<ys.length)→(Op.eqItems (d+1) e 1 (lY k xs).toArray (lY k ys).toArray is).run P w = .ok (is.all fun i=>xs[i]? == ys[i]?) w
 | [],_=>by simp [Op.eqItems]
 | i :: is,h=>by
   obtain⟨h1,h2⟩:=h i Jl
   simp only [Op.eqItems,Sem.run_bind,rH hu h1,rH hu h2,run_equalIn_int w d e k k _ _ hu,Result.andThen_ok]
   have ih:=jt hu d xs ys w is fun j hj=>h j (Jm _ hj)
   rw [List.all_cons,Hx h1,Hx h2]
   by_cases he:xs[i]=ys[i]
   ·simp [he,ih]
   ·simp [he]
theorem s9{xs ys:List Int}{n:Nat}(hx:xs.length=n)(hy:ys.length=n):((List.range n).all fun i=>xs[i]? == ys[i]?)=decide (xs=ys):=by
 by_cases h:xs=ys
 ·subst h
  simp
 ·rw [Jx h]
  cases h':(List.range n).all fun i=>xs[i]? == ys[i]? with
  | false=>rfl
  | true=>
    refine absurd (Jy fun i=>?_) h
    rw [List.all_eq_true] at h'
    rcases Jg i n with hi|hi
    ·simpa using h' i (Jz.2 hi)
    ·rw [JB (by omega),JB (by omega)]
theorem rJ{P:Program}{t e:TypeId}{n:Nat}{k:IntKind}{i:TypeInfo}(hu:P.underlying t=some (.array n e))(hi:P.info? e=some i)(hc:P.cellsOf e=1)(he:P.underlying e=some (.int k)){xs ys:List Int}(hx:xs.length=n)(hy:ys.length=n)(w:World) :
 (Op.equalIn 10000 t (.agg (lY k xs).toArray) (.agg (lY k ys).toArray)).run P w = .ok (decide (xs=ys)) w:=by
 rw [show(10000:Nat)=9998+1+1 from rfl,run_equalIn_array w (9998+1) _ _ hu hi,hc,jt he 9998 xs ys w _ (fun i hi=>by rw [hx,hy];exact⟨Jz.1 hi,Jz.1 hi⟩),s9 hx hy]
section
variable {P:Program} {H:au} {T:Tr SV} {nx:Nat}
variable {d:Option Tmp} {ty:TypeId} {pos:String} {af:Array Edge} {gd:Option (Nat×Bool)}
theorem kw{e:Env}{l:List Value}{v:Value}(h:(SV.agg (l.map .sc)).conc e=some v):v = .agg l.toArray:=by
 have hl: ∀ l:List Value,SV.aJ e (l.map .sc)=some l:=fun l=>by
  induction l with
  | nil=>rfl
  | cons x l ih=>exact b7 rfl ih
 simp only [SV.conc,hl,HY,Ht] at h
 exact h.symm
theorem yA{t e:TypeId}{n:Nat}{k:IntKind}{i:TypeInfo}(hu:P.underlying t=some (.array n e))(hi:P.info? e=some i)(hc:P.cellsOf e=1)(he:P.underlying e=some (.int k))(hg:P.eqGuardType P.depth t=false){x y:Operand}{yt:TypeId}{xs ys:List Int}(hlx:xs.length=n)(hly:ys.length=n)(hx:ak T x=some (.agg ((lY k xs).map .sc)))(hy:ak T y=some (.agg ((lY k ys).map .sc))) :
 ReadDoes P T H ⟨d,.binOp .eql t x y yt,ty,pos,af,gd⟩ (.sc (.bool (decide (xs=ys)))):=by
 intro K w0 ev nx w en hS hE
 refine⟨_,rfl,?_⟩
 have e1:=kw (hE x _ hx)
 have e2:=kw (hE y _ hy)
 simp [execOp,e1,e2,run_eqGuard_agg (P:=P) w .eql t x y _ _ hg,run_eql_struct,rJ hu hi hc he hlx hly]
theorem yw{t e:TypeId}{n:Nat}{k:IntKind}{i:TypeInfo}(hu:P.underlying t=some (.array n e))(hi:P.info? e=some i)(hc:P.cellsOf e=1)(he:P.underlying e=some (.int k))(hg:P.eqGuardType P.depth t=false){x y:Operand}{yt:TypeId}{xs ys:List Int}(hlx:xs.length=n)(hly:ys.length=n)(hx:ak T x=some (.agg ((lY k xs).map .sc)))(hy:ak T y=some (.agg ((lY k ys).map .sc))) :
 ReadDoes P T H ⟨d,.binOp .neq t x y yt,ty,pos,af,gd⟩ (.sc (.bool (!decide (xs=ys)))):=by
 intro K w0 ev nx w en hS hE
 refine⟨_,rfl,?_⟩
 have e1:=kw (hE x _ hx)
 have e2:=kw (hE y _ hy)
 simp [execOp,e1,e2,run_eqGuard_agg (P:=P) w .neq t x y _ _ hg,run_neq_struct,rJ hu hi hc he hlx hly]
end
end Go.Sy
end
section
namespace Go.Proofs.YtnhmbonmlfeifaaGreat
open Go Go.Sy Go.Sl Go.RowKit
section
variable {H:au}{n nx:Nat}{mem p:List UInt8}
def eY(p:List UInt8):Nat:=if bl p=true then fI p else 0
theorem z8(hp:p.length=1024):Fnc Tryz.prog 29 [.agg (pgS p)] H nx (fun q=>q=(.sc (.int .i64 (eY p:Int)),H,nx)):=by
 refine Fnc.bu (Free.sc _) ?_
 refine JH Tryz.func29 rfl rfl ?_
 have hb1:(H.set nx (pgO p)).at' nx=some (pgO p):=ah _ _ _
 have hrs:=fun nx'=>gi (nx:=nx') hb1 hp
 cases hr:bl p with
 | false=>
   rw [hr] at hrs
   have hv:eY p=0:=by unfold eY;rw [Jd (by rw [hr];decide)]
   repeat first|apply aj;rfl|apply bY;rfl;kernel_rfl;exact hrs _
   (apply bP Tryz.func29 Tryz.results29;rfl)
   exact⟨by rw [hv];rfl,Jb _,fun m hm=>aa _ _ (by omega)⟩
 | true=>
   rw [hr] at hrs
   have hv:eY p=fI p:=by unfold eY;rw [Je hr]
   have hf:=fA hp hr
   repeat first|apply aj;rfl|apply bY;rfl;kernel_rfl;exact hrs _|apply bY;rfl;kernel_rfl;exact B8 hb1 hf
   (apply bP Tryz.func29 Tryz.results29;rfl)
   exact⟨by rw [hv];rfl,Jb _,fun m hm=>aa _ _ (by omega)⟩
theorem qp(a:List UInt8):pgS a=(lY .u8 (a.map fun c=>(c.toNat:Int))).map .sc:=by simp [lY]
theorem toNat_inj{a b:List UInt8}(h:a.map (fun c=>(c.toNat:Int))=b.map (fun c=>(c.toNat:Int))):a=b:=by
 refine List.map_inj_right (f:=fun c:UInt8=>(c.toNat:Int)) (fun x y hxy=>?_) |>.1 h
 have hxy:(x.toNat:Int)=(y.toNat:Int):=hxy
 have:x.toNat=y.toNat:=by omega
 exact UInt8.toNat_inj.1 this
theorem qj{T:Tr SV}{d:Option Tmp}{ty:TypeId}{pos:String}{af:Array Edge}{gd:Option (Nat×Bool)}{x y:Operand}{yt:TypeId}{a b:List UInt8}(ha:a.length=1024)(hb:b.length=1024)(hx:ak T x=some (.agg (pgS a)))(hy:ak T y=some (.agg (pgS b))) :
 ReadDoes Tryz.prog T H ⟨d,.binOp .eql 27 x y yt,ty,pos,af,gd⟩ (.sc (.bool (decide (a=b)))):=by
 have h:=yA (P:=Tryz.prog) (H:=H) (T:=T) (d:=d) (ty:=ty) (pos:=pos) (af:=af) (gd:=gd) (t:=27) (e:=5) (n:=1024) (k:= .u8) (x:=x) (y:=y) (yt:=yt) (xs:=a.map fun c=>(c.toNat:Int)) (ys:=b.map fun c=>(c.toNat:Int)) (F.un _ rfl) (by rfl) (by kernel_rfl) (F.un _ rfl) (by kernel_rfl) (by rw [Ji];exact ha) (by rw [Ji];exact hb) (hx.trans (by rw [qp])) (hy.trans (by rw [qp]))
 rwa [show decide (a.map (fun c=>(c.toNat:Int))=b.map (fun c=>(c.toNat:Int)))=decide (a=b)from decide_eq_decide.2 ⟨toNat_inj,fun h=>by rw [h]⟩] at h
def bareP(p:List UInt8):List UInt8:=List.replicate 12 0 ++ p.drop 12
theorem dT(hp:p.length=1024):(bareP p).length=1024:=by
 unfold bareP
 rw [HW,Jq,Jk,hp]
def gU(p:List UInt8):Bool:=decide (bareP p=zeroP)
abbrev z12:List SV:=(byV (List.replicate 12 0)).map .sc
theorem uC(hp:p.length=1024):Fnc Tryz.prog 85 [.agg (pgS p)] H nx (fun q=>q=(.sc (.bool (gU p)),H,nx)):=by
 refine Fnc.bu (Free.sc _) ?_
 refine JH Tryz.func85 rfl rfl ?_
 repeat first|apply aj;rfl|apply kL (lw:=0) (hg:=12);rfl;rfl;rfl;exact(F.un _ rfl);exact(F.sz _ rfl);rfl;rfl;(focus(omega));(focus(omega));(focus(omega));rfl;rfl;rfl
 refine Ao (n:=11) z12 rfl rfl (F.un _ rfl) (F.ze _ rfl) (ah _ _ _) (by kernel_rfl) (by kernel_rfl) (by rw [be hp];exact Hz rfl) ?_
 have hc:(pgS p).take 0 ++ z12 ++ (pgS p).drop (0+z12.length)=pgS (bareP p):=by
  unfold bareP
  simp [List.map_drop]
 rw [hc]
 have hl:=dT hp
 repeat first|apply bq hl;rfl;(focus((repeat(exact ac));done))|apply aj;rfl|refine cc (cS gE) rfl rfl rfl ?_|refine cc (qj hl ai rfl rfl) rfl rfl rfl ?_
 (apply bP Tryz.func85 Tryz.results85;rfl)
 exact⟨rfl,Jb _,fun m hm=>(aa _ _ (by omega)).trans (aa _ _ (by omega))⟩
abbrev rX(mem:List UInt8)(left puts:Int):List SV:=(byV mem).map .sc ++ [.sc (.int .i64 left),.sc (.int .i64 puts)]
abbrev cX(mem:List UInt8)(left puts:Int):VO:=aq 30 (rX mem left puts)
def az(mem:List UInt8)(n:Nat):List UInt8:=(mem.drop (1024*n)).take 1024
theorem dx(hm:mem.length=131072)(hn:n<128):(az mem n).length=1024:=by
 unfold az
 rw [Jh,Jk]
 omega
theorem rW(hm:mem.length=131072)(hn:n<128)(left puts:Int):(cX mem left puts).cellsFrom (0+n*1024) 1024=some (pgS (az mem n)):=by
 refine am _ _ ?_ (by rw [be (dx hm hn)])
 have hl:((byV mem).map SV.sc).length=131072:=by simpa using hm
 rw [List.drop_append_of_le_length (by omega),List.take_append_of_le_length (by rw [Jk];omega)]
 unfold az
 rw [Jf,Nat.mul_comm]
 simp [List.map_take,List.map_drop]
theorem GF{b:Nat}{left puts:Int}(hb:H.at' b=some (cX mem left puts))(hm:mem.length=131072)(hn:n<128):Fnc Tryz.prog 140 [.ptr b 0,.sc (.int .i64 (n:Int))] H nx (fun q=>q=(pgE (az mem n,0),H,nx)):=by
 refine Fnc.bu (gL _) ?_
 refine JH Tryz.func140 rfl rfl ?_
 refine aW fun hund=>?_
 have hlt:=hund _ _ hb
 have hl:=dx hm hn
 repeat first|refine aY rfl rfl ce ?_|apply aj;rfl|apply kM;rfl;omega|apply eR (q:=n);rfl;rfl;rfl;rfl;exact(F.un _ rfl);exact(F.sz _ rfl);(focus(omega));(focus(omega))
 refine dG rfl rfl rfl (F.ag _ rfl) (by repeat(first|assumption|refine ab (by omega) ?_)) (rW hm hn _ _) ?_
 repeat first|apply bC hl ai;rfl;(focus((repeat(exact ac));done))|apply aj;rfl
 ((apply bn Tryz.func140 (congrArg Array.toList Tryz.results140));(focus((apply JJ rfl (JL (F.ag _ rfl) (by repeat(exact ac)) (bm hl)));(repeat(first|exact JI|apply JK rfl)))))
 exact⟨rfl,Jb _,fun m hm=>(aa _ _ (by omega)).trans (aa _ _ (by omega))⟩
end
structure Okp (p:List UInt8):Prop where
 len:p.length=1024
 head:18+4*ae p≤aE p
 top:aE p≤1024
 last:0<ae p→ar p (ae p-1)≠0
 slot: ∀ j,j<ae p→(ay p j=0∧ar p j=0)∨(1≤ar p j∧ar p j≤1000∧aE p≤ay p j∧ay p j+ar p j≤1024)
 apart: ∀ i j,i<j→j<ae p→ar p i≠0→ar p j≠0→ay p i+ar p i≤ay p j∨ay p j+ar p j≤ay p i
section
variable {a i n o s:Nat}{p:List UInt8}
theorem iA{seen:List (Nat×Nat)}:cH seen i=true↔ ∃ x∈seen,x.1≤i∧i<x.1+x.2:=by
 simp [cH,List.any_eq_true]
theorem sw{seen:List (Nat×Nat)}(h0:1≤s)(hs: ∀ x∈seen,1≤x.2):t8 seen a s=true↔ ∃ x∈seen,x.1<a+s∧a<x.1+x.2:=by
 constructor
 ·intro h
  obtain⟨j,hj,hc⟩:=List.any_eq_true.1 h
  obtain⟨x,hx,h1⟩:=iA.1 hc
  have:=Jz.1 hj
  exact⟨x,hx,by omega,by omega⟩
 ·rintro⟨x,hx,h1,h2⟩
  have:=hs x hx
  rcases Jg a x.1 with h3|h3
  ·exact lU (i:=x.1) (by omega) (by omega) (iA.2 ⟨x,hx,by omega,by omega⟩)
  ·exact lU (i:=a) (by omega) (by omega) (iA.2 ⟨x,hx,by omega,by omega⟩)
def ip(p:List UInt8):Nat→List (Nat×Nat)
 | 0=> []
 | n+1=>if ar p n=0 then ip p n else(ay p n,ar p n) :: ip p n
theorem gr{p:List UInt8}{x:Nat×Nat}: ∀ {n:Nat},x∈ip p n↔ ∃ i,i<n∧ar p i≠0∧x=(ay p i,ar p i)
 | 0=>by simp [ip]
 | n+1=>by
   unfold ip
   split
   ·rename_i h
    rw [gr]
    constructor
    ·rintro⟨i,h1,h2⟩
     exact⟨i,by omega,h2⟩
    ·rintro⟨i,h1,h2,h3⟩
     rcases Jg i n with h4|h4
     ·exact⟨i,h4,h2,h3⟩
     ·obtain rfl:i=n:=by omega
      exact absurd h h2
   ·rename_i h
    rw [Js,gr]
    constructor
    ·rintro(h1|⟨i,h1,h2⟩)
     ·exact⟨n,by omega,h,h1⟩
     ·exact⟨i,by omega,h2⟩
    ·rintro⟨i,h1,h2,h3⟩
     rcases Jg i n with h4|h4
     ·exact .inr ⟨i,h4,h2,h3⟩
     ·obtain rfl:i=n:=by omega
      exact .inl h3
def kQ(p:List UInt8)(j:Nat):Prop:=(ay p j=0∧ar p j=0)∨((1≤ar p j∧ar p j≤1000∧aE p≤ay p j∧ay p j+ar p j≤1024)∧ ∀ i,i<j→ar p i≠0→ay p i+ar p i≤ay p j∨ay p j+ar p j≤ay p i)
theorem ll(p:List UInt8): ∀ (k n:Nat) (fine:Bool),eZ p k n (ip p n) fine=true↔((∀ j,n≤j→j<n+k→kQ p j)∧(if k=0 then fine=true else ar p (n+k-1)≠0∨n+k<ae p))
 | 0,n,fine=>by
   rw [Je rfl]
   exact⟨fun h=>⟨fun j h1 h2=>absurd h1 (by omega),h⟩,fun h=>h.2⟩
 | k+1,n,fine=>by
   rw [Jd (Nat.succ_ne_zero k)]
   have hsz: ∀ x∈ip p n,1≤x.2:=fun x hx=>by
    obtain⟨i,_,h2,rfl⟩:=gr.1 hx
    exact Nat.pos_of_ne_zero h2
   have hall: ∀ {A:Prop},(kQ p n)→(((∀ j,n≤j→j<n+(k+1)→kQ p j)∧A)↔((∀ j,n+1≤j→j<n+1+k→kQ p j)∧A)):=fun h=>
    ⟨fun g=>⟨fun j h1 h2=>g.1 j (by omega) (by omega),g.2⟩,fun g=>⟨fun j h1 h2=>by
      rcases Jg n j with h3|h3
      ·exact g.1 j (by omega) (by omega)
      ·obtain rfl:n=j:=by omega
       exact h,g.2⟩⟩
   have hend: ∀ {b:Bool},(b=true↔ar p n≠0∨n+1<ae p)→((if k=0 then b=true else ar p (n+1+k-1)≠0∨n+1+k<ae p)↔(ar p (n+(k+1)-1)≠0∨n+(k+1)<ae p)):=fun {b} hb=>by
    by_cases hk:k=0
    ·subst hk
     rw [Je rfl]
     exact hb
    ·rw [Jd hk,show n+1+k=n+(k+1) by omega]
   unfold eZ
   split
   ·rename_i h
    have hs:ip p (n+1)=ip p n:=by show(if ar p n=0 then _ else _)=_;rw [Je h.2]
    rw [← hs,ll p k (n+1),hall (.inl h),hend]
    rw [JE]
    constructor
    ·exact .inr
    ·rintro(h1|h1)
     ·exact absurd h.2 h1
     ·exact h1
   ·rename_i h
    split
    ·rename_i h1
     constructor
     ·intro h2;cases h2
     ·rintro⟨h2,_⟩
      rcases h2 n (HS _) (by omega)with h3|⟨h3,_⟩
      ·exact absurd h3 h
      ·omega
    ·rename_i h1
     split
     ·rename_i h2
      constructor
      ·intro h2;cases h2
      ·rintro⟨h3,_⟩
       obtain⟨x,hx,h4⟩:=(sw (by omega) hsz).1 h2
       obtain⟨i,h5,h6,rfl⟩:=gr.1 hx
       rcases h3 n (HS _) (by omega)with h7|⟨_,h7⟩
       ·exact absurd h7 h
       ·have:=h7 i h5 h6
        dsimp only at h4
        omega
     ·rename_i h2
      have hs:ip p (n+1)=(ay p n,ar p n) :: ip p n:=by show(if ar p n=0 then _ else _)=_;rw [Jd (by omega)]
      rw [← hs,ll p k (n+1),hall (.inr ⟨by omega,fun i hi hz=>?_⟩),hend]
      ·exact⟨fun _=> .inl (by omega),fun _=>rfl⟩
      ·rcases Jg (ay p n) (ay p i+ar p i)with h3|h3
       ·rcases Jg (ay p i) (ay p n+ar p n)with h4|h4
        ·exact absurd ((sw (by omega) hsz).2 ⟨_,gr.2 ⟨i,hi,hz,rfl⟩,h4,h3⟩) h2
        ·exact .inr h4
       ·exact .inl h3
theorem bw(hp:p.length=1024):bl p=true↔Okp p:=by
 unfold bl
 have hg:=ll p (ae p) 0 true
 rw [show ip p 0= [] from rfl] at hg
 rw [HR,JE,hg]
 constructor
 ·rintro⟨⟨h1,h2⟩,h3,h4⟩
  refine⟨hp,h1,h2,fun h=>?_,fun j hj=>?_,fun i j hi hj hzi hzj=>?_⟩
  ·rw [Jd (by omega),Jf] at h4
   rcases h4 with h4|h4
   ·exact h4
   ·exact absurd h4 (Nat.lt_irrefl _)
  ·rcases h3 j (HT _) (by omega)with h5|h5
   ·exact .inl h5
   ·exact .inr h5.1
  ·rcases h3 j (HT _) (by omega)with h5|h5
   ·exact absurd h5.2 hzj
   ·exact h5.2 i hi hzi
 ·intro h
  refine⟨⟨h.head,h.top⟩,fun j _ hj=>?_,?_⟩
  ·rcases h.slot j (by omega)with h5|h5
   ·exact .inl h5
   ·exact .inr ⟨h5,fun i hi hz=>h.apart i j hi (by omega) hz (by omega)⟩
  ·split
   ·rfl
   ·exact .inl (by rw [Jf];exact h.last (by omega))
theorem AF(hp:p.length=1024):bl p=false↔ ¬ Okp p:=by
 rw [← bw hp]
 cases bl p <;> simp
theorem sU{P Q:Nat→Bool}: ∀ (l:List Nat),(∀ i∈l,P i=true→Q i=true→False)→l.countP (fun i=>P i || Q i)=l.countP P+l.countP Q
 | [],_=>rfl
 | a :: l,h=>by
   have ih:=sU l fun i hi=>h i (Jm _ hi)
   have ha:=h a Jl
   rw [List.countP_cons,List.countP_cons,List.countP_cons,ih]
   cases hP:P a <;> cases hQ:Q a
   ·simp
   ·simp;omega
   ·simp;omega
   ·exact absurd hQ (fun h2=>ha hP h2)
theorem mN(a s:Nat): ∀ n,(List.range n).countP (fun i=>decide (a≤i∧i<a+s))=min n (a+s)-min n a
 | 0=>by simp
 | n+1=>by
   rw [List.range_succ,List.countP_append,mN a s n,List.countP_cons,List.countP_nil]
   by_cases h:a≤n∧n<a+s
   ·rw [Je (by rw [Jw h])];omega
   ·rw [Jd (by rw [Jx h];decide)];omega
def bZ(p:List UInt8):Nat→Nat
 | 0=>0
 | n+1=>bZ p n+ar p n
theorem Okp.count(h:Okp p): ∀ n,n≤ae p→(List.range 1024).countP (cH (ip p n))=bZ p n
 | 0,_=>by
   show(List.range 1024).countP (cH [])=0
   rw [List.countP_eq_zero]
   intro a _
   simp [cH]
 | n+1,hn=>by
   have ih:=h.count n (by omega)
   by_cases hz:ar p n=0
   ·have hs:ip p (n+1)=ip p n:=by show(if ar p n=0 then _ else _)=_;rw [Je hz]
    rw [hs,ih]
    show _=bZ p n+ar p n
    omega
   ·have hs:ip p (n+1)=(ay p n,ar p n) :: ip p n:=by show(if ar p n=0 then _ else _)=_;rw [Jd hz]
    have hsl:=h.slot n (by omega)
    rw [hs,show cH ((ay p n,ar p n) :: ip p n)=fun i=>decide (ay p n≤i∧i<ay p n+ar p n) || cH (ip p n) i from funext fun i=>by simp only [cH,List.any_cons],
     sU,mN,ih]
    ·show _=bZ p n+ar p n
     omega
    ·intro i _ h1 h2
     have h1:=Jp h1
     obtain⟨x,hx,h3⟩:=iA.1 h2
     obtain⟨k,hk,hkz,rfl⟩:=gr.1 hx
     have:=h.apart k n hk (by omega) hkz hz
     dsimp only at h3
     omega
theorem Okp.sum_le(h:Okp p):aE p+bZ p (ae p)≤1024:=by
 have h1:=h.count _ (HS _)
 have h2:(List.range 1024).countP (cH (ip p (ae p)))≤(List.range 1024).countP (fun i=>decide (aE p≤i∧i<aE p+1024)):=by
  refine List.countP_mono_left fun i _ hi=>?_
  obtain⟨x,hx,h3⟩:=iA.1 hi
  obtain⟨k,hk,hkz,rfl⟩:=gr.1 hx
  have h4:=h.slot k hk
  dsimp only at h3
  exact Jw (by omega)
 rw [mN] at h2
 have:=h.top
 omega
theorem dB(p:List UInt8){m:Nat}: ∀ {n:Nat},m≤n→bZ p m≤bZ p n
 | 0,h=>by cases Nat.le_zero.1 h;exact HS _
 | n+1,h=>by
   rcases Jg m (n+1)with h1|h1
   ·have:=dB p (show m≤n by omega)
    show _≤bZ p n+ar p n
    omega
   ·obtain rfl:m=n+1:=by omega
    exact HS _
theorem iU{q:List UInt8}{m:Nat}(h: ∀ i,o≤i→i<o+m→q[i]? =p[i]?):(q.drop o).take m=(p.drop o).take m:=by
 refine Jy fun j=>?_
 rw [List.getElem?_take,List.getElem?_take]
 split
 ·rw [List.getElem?_drop,List.getElem?_drop]
  exact h _ (by omega) (by omega)
 ·rfl
theorem uT{l:List UInt8}(h:o+l.length≤p.length):((bf p o l).drop o).take l.length=l:=by
 refine Jy fun j=>?_
 rw [List.getElem?_take]
 split
 ·rw [List.getElem?_drop,cG h,Je (by omega),show o+j-o=j by omega]
 ·rw [JB (by omega)]
theorem mC{l:List UInt8}(h:o+l.length≤p.length)(hi:i<o∨o+l.length≤i):(bf p o l)[i]? =p[i]? :=by
 rw [cG h,Jd (by omega)]
theorem fC(h:o+2≤p.length)(hi:i<o∨o+2≤i):(cm p o n)[i]? =p[i]? :=
 mC (by rw [bp];exact h) (by rw [bp];exact hi)
theorem jz(h:18+4*n+4≤p.length)(hi:i<18+4*n∨18+4*n+4≤i):(bK p n a s)[i]? =p[i]? :=by
 unfold bK
 rw [fC (by rw [bE (by omega)];omega) (by omega),fC (by omega) (by omega)]
theorem cT(h:18+4*n+4≤p.length)(ho:o+2≤18+4*n∨18+4*n+4≤o):gB (bK p n a s) o=gB p o:=
 jE fun i h1 h2=>jz h (by omega)
theorem ki(h:18+4*n+4≤p.length)(ha:a<65536):ay (bK p n a s) n=a:=by
 unfold bK
 exact(cO (by rw [bE (by omega)];omega) (by omega)).trans (eN (by omega) ha)
theorem mD(h:18+4*n+4≤p.length)(hs:s<65536):ar (bK p n a s) n=s:=by
 unfold bK
 exact eN (by rw [bE (by omega)];omega) hs
theorem nh(p:List UInt8): ∀ k n,(∀ j,n≤j→j<dv p k n→ar p j≠0)∧(dv p k n<n+k→ar p (dv p k n)=0)∧n≤dv p k n∧dv p k n≤n+k
 | 0,n=>⟨fun j h1 h2=>absurd (show j<n from h2) (by omega),fun h=>absurd (show n<n+0 from h) (by omega),HS _,HS _⟩
 | k+1,n=>by
   unfold dv
   split
   ·rename_i h
    exact⟨fun j h1 h2=>absurd h1 (by omega),fun _=>h,HS _,by omega⟩
   ·rename_i h
    have ih:=nh p k (n+1)
    refine⟨fun j h1 h2=>?_,fun h1=>ih.2.1 (by omega),by omega,by omega⟩
    rcases Jg n j with h3|h3
    ·exact ih.1 j (by omega) h2
    ·obtain rfl:j=n:=by omega
     exact h
theorem gv(p:List UInt8):(∀ j,j<ba p→ar p j≠0)∧(ba p<ae p→ar p (ba p)=0)∧ba p≤ae p:=by
 have:=nh p (ae p) 0
 unfold ba
 exact⟨fun j hj=>this.1 j (HT _) hj,fun h=>this.2.1 (by omega),by omega⟩
abbrev jj(p:List UInt8):Nat:=if ba p=ae p then ae p+1 else ae p
theorem ow(hp:p.length=1024):(fj p).length=1024:=by
 unfold fj
 split
 ·rw [bE (by omega),hp]
 ·exact hp
theorem jG(hp:p.length=1024)(ho:o+2≤14∨16≤o):gB (fj p) o=gB p o:=by
 unfold fj
 split
 ·exact cO (by omega) (by omega)
 ·rfl
theorem zb(hp:p.length=1024)(hi:i<14∨16≤i):(fj p)[i]? =p[i]? :=by
 unfold fj
 split
 ·exact fC (by omega) (by omega)
 ·rfl
theorem t6(hp:p.length=1024)(hs:ae p<1000):ae (fj p)=jj p:=by
 unfold fj jj
 split
 ·rename_i h
  rw [show ae (cm p 14 (ba p+1))=ba p+1 from eN (by omega) (by omega),h]
 ·rfl
end
structure Laid (p it q:List UInt8):Prop where
 len:q.length=1024
 slots:ae q=jj p
 begins:aE q=aE p-it.length
 froms:ay q (ba p)=aE p-it.length
 sizes:ar q (ba p)=it.length
 from': ∀ j,j≠ba p→j<ae p→ay q j=ay p j
 size': ∀ j,j≠ba p→j<ae p→ar q j=ar p j
 item:(q.drop (aE p-it.length)).take it.length=it
 get: ∀ i,i<14∨aE p≤i→q[i]? =p[i]?
theorem laid{p it:List UInt8}(h:Okp p)(h2:it.length≤1000)(hroom:it.length≤fI p)(h1:1≤it.length):Laid p it (oy p it):=by
 have hp:=h.len
 have hh:=h.head
 have ht:=h.top
 have he:=(gv p).2.2
 have hmb:aE (fj p)=aE p:=jG hp (by omega)
 have hms:=t6 hp (by omega)
 have hml:=ow hp
 unfold fI at hroom
 have ha:18+4*jj p+it.length≤aE p∧ba p<jj p:=by unfold jj;split at hroom <;> split <;> omega
 obtain⟨ha,hee⟩:=ha
 have hl2:(bK (fj p) (ba p) (aE p-it.length) it.length).length=1024:=(fw (by omega)).trans hml
 have hl3:(cm (bK (fj p) (ba p) (aE p-it.length) it.length) 16 (aE p-it.length)).length=1024:=(bE (by omega)).trans hl2
 have hl: ∀ o,o+2≤aE p-it.length→gB (oy p it) o=gB (cm (bK (fj p) (ba p) (aE p-it.length) it.length) 16 (aE p-it.length)) o:=fun o ho=>by
  unfold oy
  rw [hmb]
  exact nL (by omega) (by omega)
 have ho: ∀ o,o+2≤aE p-it.length→(o+2≤16∨18≤o)→gB (oy p it) o=gB (bK (fj p) (ba p) (aE p-it.length) it.length) o:=fun o ho h3=>(hl o ho).trans (cO (by omega) (by omega))
 have hmany:ae p≤jj p:=by unfold jj;split <;> omega
 refine⟨?_,?_,?_,?_,?_,fun j h3 h4=>?_,fun j h3 h4=>?_,?_,fun i hi=>?_⟩
 ·unfold oy
  rw [hmb,bM (by omega),hl3]
 ·exact(ho 14 (by omega) (by omega)).trans ((cT (by omega) (by omega)).trans hms)
 ·exact(hl 16 (by omega)).trans (eN (by omega) (by omega))
 ·exact(ho _ (by omega) (by omega)).trans (ki (by omega) (by omega))
 ·exact(ho _ (by omega) (by omega)).trans (mD (by omega) (by omega))
 ·exact(ho _ (by omega) (by omega)).trans ((cT (by omega) (by omega)).trans (jG hp (by omega)))
 ·exact(ho _ (by omega) (by omega)).trans ((cT (by omega) (by omega)).trans (jG hp (by omega)))
 ·unfold oy
  rw [hmb]
  exact uT (by omega)
 ·unfold oy
  rw [hmb,mC (by omega) (by omega),fC (by omega) (by omega),jz (by omega) (by omega),zb hp (by omega)]
theorem Laid.ok{p it q:List UInt8}(h:Okp p)(h2:it.length≤1000)(hroom:it.length≤fI p)(h1:1≤it.length)(g:Laid p it q):Okp q:=by
 have hh:=h.head
 have ht:=h.top
 obtain⟨he1,he2,he3⟩:=gv p
 unfold fI at hroom
 have ha:18+4*jj p+it.length≤aE p∧ba p<jj p:=by unfold jj;split at hroom <;> split <;> omega
 have hm: ∀ j,j<jj p→j=ba p∨j≠ba p∧j<ae p:=fun j hj=>by unfold jj at hj;split at hj <;> omega
 have gb:=g.begins
 have gs:=g.slots
 refine⟨g.len,by omega,by omega,fun hpos=>?_,fun j hj=>?_,fun i j hij hj hzi hzj=>?_⟩
 ·rw [gs]
  rcases hm (jj p-1) (by omega)with h3|⟨h3,h4⟩
  ·rw [h3,g.sizes];omega
  ·rw [g.size' _ h3 h4]
   have:jj p=ae p:=by
    by_cases hc:ba p=ae p
    ·unfold jj at h3 h4
     rw [Je hc] at h3 h4
     omega
    ·unfold jj
     rw [Jd hc]
   rw [this]
   exact h.last (by omega)
 ·rcases hm j (by omega)with h3|⟨h3,h4⟩
  ·subst h3
   rw [g.froms,g.sizes,gb]
   omega
  ·rw [g.from' _ h3 h4,g.size' _ h3 h4,gb]
   have:=h.slot j h4
   omega
 ·rcases hm i (by omega)with h3|⟨h3,h4⟩
  ·subst h3
   rcases hm j (by omega)with h5|⟨h5,h6⟩
   ·omega
   ·rw [g.froms,g.sizes,g.from' _ h5 h6,g.size' _ h5 h6]
    rw [g.size' _ h5 h6] at hzj
    have:=h.slot j h6
    omega
  ·rw [g.size' _ h3 h4] at hzi
   rw [g.from' _ h3 h4,g.size' _ h3 h4]
   have h7:=h.slot i h4
   rcases hm j (by omega)with h5|⟨h5,h6⟩
   ·subst h5
    rw [g.froms,g.sizes]
    omega
   ·rw [g.size' _ h5 h6] at hzj
    rw [g.from' _ h5 h6,g.size' _ h5 h6]
    exact h.apart i j hij h6 hzi hzj
theorem Laid.items{p it q:List UInt8}(h:Okp p)(g:Laid p it q):aS q (ba p)=it∧ ∀ j,j≠ba p→j<ae p→ar p j≠0→aS q j=aS p j:=by
 refine⟨?_,fun j h3 h4 h5=>?_⟩
 ·unfold aS
  rw [g.froms,g.sizes,g.item]
 ·unfold aS
  rw [g.from' _ h3 h4,g.size' _ h3 h4]
  have:=h.slot j h4
  exact iU fun i h6 h7=>g.get i (by omega)
def cf(p:List UInt8):Nat→List UInt8
 | 0=>bf zeroP 0 (p.take (18+4*ae p))
 | n+1=>if ar p n=0 then cf p n else bK (bf (cf p n) (1024-bZ p (n+1)) (aS p n)) n (1024-bZ p (n+1)) (ar p n)
def ln(p:List UInt8):List UInt8:=cm (cf p (ae p)) 16 (1024-bZ p (ae p))
def iP(p:List UInt8):List UInt8×Nat:=if bl p=true then(ln p,0) else(zeroP,4)
structure PackN (p:List UInt8) (n:Nat) (q:List UInt8):Prop where
 len:q.length=1024
 low: ∀ i,i<18→q[i]? =p[i]?
 from': ∀ j,j<n→ar p j≠0→ay q j=1024-bZ p (j+1)
 size': ∀ j,j<n→ar p j≠0→ar q j=ar p j
 fromE: ∀ j,j<ae p→n≤j∨ar p j=0→ay q j=ay p j
 sizeE: ∀ j,j<ae p→n≤j∨ar p j=0→ar q j=ar p j
 item: ∀ j,j<n→ar p j≠0→(q.drop (1024-bZ p (j+1))).take (ar p j)=aS p j
 zero: ∀ i,18+4*ae p≤i→i<1024-bZ p n→q[i]? =some 0
theorem rZ{p:List UInt8}(h:Okp p): ∀ n,n≤ae p→PackN p n (cf p n)
 | 0,_=>by
   have hp:=h.len
   have hh:=h.head
   have ht:=h.top
   have hl:(p.take (18+4*ae p)).length=18+4*ae p:=by rw [Jh];omega
   have hz:=ai
   have hg: ∀ i,i<18+4*ae p→(cf p 0)[i]? =p[i]? :=fun i hi=>by
    show(bf zeroP 0 _)[i]? =_
    rw [cG (by omega),Je (by omega),Nat.sub_zero,List.getElem?_take,Je hi]
   refine⟨(bM (by omega)).trans hz,fun i hi=>hg i (by omega),fun j hj=>absurd hj (Nat.not_lt_zero _),fun j hj=>absurd hj (Nat.not_lt_zero _),fun j hj _=>jE fun i h1 h2=>hg i (by omega),fun j hj _=>jE fun i h1 h2=>hg i (by omega),fun j hj=>absurd hj (Nat.not_lt_zero _),fun i h1 h2=>?_⟩
   show(bf zeroP 0 _)[i]? =_
   rw [mC (by omega) (by omega)]
   have h2:i<1024:=by have:bZ p 0=0:=rfl;omega
   unfold zeroP
   rw [List.getElem?_replicate,Je h2]
 | n+1,hn=>by
   have ih:=rZ h n (by omega)
   have hh:=h.head
   have ht:=h.top
   have hs1:=h.sum_le
   have hs2:=dB p (show n+1≤ae p from hn)
   have hs3:bZ p (n+1)=bZ p n+ar p n:=rfl
   by_cases hz:ar p n=0
   ·have hq:cf p (n+1)=cf p n:=by show(if _ then _ else _)=_;rw [Je hz]
    rw [hq]
    have hlt: ∀ {j},j<n+1→ar p j≠0→j<n:=fun {j} h1 h2=>by
     rcases Jg j n with h3|h3
     ·exact h3
     ·obtain rfl:j=n:=by omega
      exact absurd hz h2
    refine⟨ih.len,ih.low,fun j h1 h2=>ih.from' j (hlt h1 h2) h2,fun j h1 h2=>ih.size' j (hlt h1 h2) h2,fun j h1 h2=>ih.fromE j h1 (by omega),fun j h1 h2=>ih.sizeE j h1 (by omega),fun j h1 h2=>ih.item j (hlt h1 h2) h2,fun i h1 h2=>ih.zero i h1 (by omega)⟩
   ·have hsl:=h.slot n (by omega)
    have hil:=dz h.len (p:=p) (j:=n) (by omega)
    have hq:cf p (n+1)=bK (bf (cf p n) (1024-bZ p (n+1)) (aS p n)) n (1024-bZ p (n+1)) (ar p n):=by show(if _ then _ else _)=_;rw [Jd hz]
    have hql:=ih.len
    have hl1:(bf (cf p n) (1024-bZ p (n+1)) (aS p n)).length=1024:=(bM (by omega)).trans hql
    have hno: ∀ o,o+2≤18+4*ae p→o+2≤18+4*n∨18+4*n+4≤o→gB (cf p (n+1)) o=gB (cf p n) o:=fun o h1 h2=>by
     rw [hq]
     exact(cT (by omega) h2).trans (nL (by omega) (by omega))
    have hge: ∀ i,(i<18+4*n∨18+4*n+4≤i)→(i<1024-bZ p (n+1)∨1024-bZ p n≤i)→(cf p (n+1))[i]? =(cf p n)[i]? :=fun i h1 h2=>by
     rw [hq,jz (by omega) h1,mC (by omega) (by omega)]
    have hfr:ay (cf p (n+1)) n=1024-bZ p (n+1):=by rw [hq];exact ki (by omega) (by omega)
    have hsz:ar (cf p (n+1)) n=ar p n:=by rw [hq];exact mD (by omega) (by omega)
    refine⟨by rw [hq,fw (by omega),hl1],fun i hi=>(hge i (by omega) (by omega)).trans (ih.low i hi),fun j h1 h2=>?_,fun j h1 h2=>?_,fun j h1 h2=>?_,fun j h1 h2=>?_,fun j h1 h2=>?_,fun i h1 h2=>?_⟩
    ·rcases Jg j n with h3|h3
     ·exact(hno _ (by omega) (by omega)).trans (ih.from' j h3 h2)
     ·obtain rfl:j=n:=by omega
      exact hfr
    ·rcases Jg j n with h3|h3
     ·exact(hno _ (by omega) (by omega)).trans (ih.size' j h3 h2)
     ·obtain rfl:j=n:=by omega
      exact hsz
    ·have:j≠n:=fun h3=>by subst h3;omega
     exact(hno _ (by omega) (by omega)).trans (ih.fromE j h1 (by omega))
    ·have:j≠n:=fun h3=>by subst h3;omega
     exact(hno _ (by omega) (by omega)).trans (ih.sizeE j h1 (by omega))
    ·rcases Jg j n with h3|h3
     ·rw [← ih.item j h3 h2]
      have h4:=dB p (show j+1≤n by omega)
      have h5:bZ p (j+1)=bZ p j+ar p j:=rfl
      exact iU fun i h6 h7=>hge i (by omega) (by omega)
     ·obtain rfl:j=n:=by omega
      rw [hq]
      have h4:=uT (p:=cf p j) (o:=1024-bZ p (j+1)) (l:=aS p j) (by omega)
      rw [hil] at h4
      refine Eq.trans ?_ h4
      exact iU fun i h6 h7=>jz (by omega) (by omega)
    ·exact(hge i (by omega) (by omega)).trans (ih.zero i h1 (by omega))
structure Packed (p q:List UInt8):Prop where
 len:q.length=1024
 low: ∀ i,i<16→q[i]? =p[i]?
 slots:ae q=ae p
 begins:aE q=1024-bZ p (ae p)
 froms: ∀ j,j<ae p→ay q j=if ar p j=0 then 0 else 1024-bZ p (j+1)
 sizes: ∀ j,j<ae p→ar q j=ar p j
 item: ∀ j,j<ae p→ar p j≠0→aS q j=aS p j
section
variable {H:au}{b:Nat}{left:Int}{n nx:Nat}{puts:Int}{mem p q x:List UInt8}
theorem rY(h:Okp p):Packed p (ln p):=by
 have g:=rZ h _ (HS _)
 have hl:=g.len
 have hh:=h.head
 have ht:=h.top
 have hs1:=h.sum_le
 unfold ln
 have hno: ∀ o,o+2≤16∨18≤o→gB (cm (cf p (ae p)) 16 (1024-bZ p (ae p))) o=gB (cf p (ae p)) o:=fun o ho=>cO (by omega) (by omega)
 have hfr: ∀ j,j<ae p→ay (cm (cf p (ae p)) 16 (1024-bZ p (ae p))) j=if ar p j=0 then 0 else 1024-bZ p (j+1):=fun j hj=>by
  refine(hno _ (by omega)).trans ?_
  split
  ·rename_i h1
   refine(g.fromE j hj (.inr h1)).trans ?_
   have:=h.slot j hj
   omega
  ·rename_i h1
   exact g.from' j hj h1
 have hsz: ∀ j,j<ae p→ar (cm (cf p (ae p)) 16 (1024-bZ p (ae p))) j=ar p j:=fun j hj=>by
  refine(hno _ (by omega)).trans ?_
  by_cases h1:ar p j=0
  ·exact g.sizeE j hj (.inr h1)
  ·exact g.size' j hj h1
 refine⟨(bE (by omega)).trans hl,fun i hi=>(fC (by omega) (by omega)).trans (g.low i (by omega)),(hno 14 (by omega)).trans (jE fun i h1 h2=>g.low i (by omega)),eN (by omega) (by omega),hfr,hsz,fun j hj hz=>?_⟩
 unfold aS
 rw [hfr j hj,hsz j hj,Jd hz]
 have h4:=dB p (show j+1≤ae p by omega)
 refine Eq.trans ?_ (g.item j hj hz)
 exact iU fun i h6 h7=>fC (by omega) (by omega)
theorem Packed.ok(h:Okp p)(g:Packed p q):Okp q:=by
 have hh:=h.head
 have ht:=h.top
 have hs1:=h.sum_le
 have gs:=g.slots
 have gb:=g.begins
 refine⟨g.len,by omega,by omega,fun hpos=>?_,fun j hj=>?_,fun i j hij hj hzi hzj=>?_⟩
 ·rw [gs,g.sizes _ (by omega)]
  exact h.last (by omega)
 ·have h1:=h.slot j (by omega)
  have h4:=dB p (show j+1≤ae p by omega)
  have h5:bZ p (j+1)=bZ p j+ar p j:=rfl
  rw [g.froms j (by omega),g.sizes j (by omega),gb]
  split <;> omega
 ·rw [g.sizes i (by omega)] at hzi
  rw [g.sizes j (by omega)] at hzj
  rw [g.froms i (by omega),g.sizes i (by omega),g.froms j (by omega),g.sizes j (by omega),Jd hzi,Jd hzj]
  have h4:=dB p (show i+1≤j by omega)
  have h5:bZ p (j+1)=bZ p j+ar p j:=rfl
  have h6:=dB p (show j+1≤ae p by omega)
  exact .inr (by omega)
theorem pP{p q:List UInt8}: ∀ {k n},(∀ j,n≤j→j<n+k→ar q j=ar p j)→dv q k n=dv p k n
 | 0,_,_=>rfl
 | k+1,n,h=>by
   unfold dv
   rw [h n (HS _) (by omega),pP fun j h1 h2=>h j (by omega) (by omega)]
theorem Packed.empty(g:Packed p q):ba q=ba p:=by
 unfold ba
 rw [g.slots]
 exact pP fun j _ h2=>g.sizes j (by omega)
abbrev atO(p:List UInt8)(j:Nat):VO:=aq 3 [.sc (.int .i64 ((1024-bZ p j:Nat):Int))]
theorem GG(hp:p.length=1024):Fnc Tryz.prog 28 [.agg (pgS p)] H nx (fun q=>q.1=pgE (iP p)∧nx≤q.2.2∧ ∀ m,m<nx→q.2.1.at' m=H.at' m):=by
 refine JH Tryz.func28 rfl rfl ?_
 refine aW fun hund=>?_
 repeat first|refine aY rfl rfl ce ?_|apply aj;rfl
 have hb1:((H.set nx (pgO p)).set (nx+1) (pgO zeroP)).at' nx=some (pgO p):=by repeat(first|exact ac|refine ab (by omega) ?_)
 have hz1:((H.set nx (pgO p)).set (nx+1) (pgO zeroP)).at' (nx+1)=some (pgO zeroP):=by repeat(exact ac)
 have ho1: ∀ m,m<nx→((H.set nx (pgO p)).set (nx+1) (pgO zeroP)).at' m=H.at' m:=fun m hm=>by(repeat(refine ab (by omega) ?_));rfl
 have hrs:=fun nx'=>gi (nx:=nx') hb1 hp
 generalize (H.set nx (pgO p)).set (nx+1) (pgO zeroP)=H1 at hb1 hz1 ho1 hrs ⊢
 cases hr:bl p with
 | false=>
   rw [hr] at hrs
   have hv:iP p=(zeroP,4):=by unfold iP;rw [Jd (by rw [hr];decide)]
   repeat first|apply aj;rfl|apply aG;rfl;assumption;rfl|apply bY;rfl;kernel_rfl;exact hrs _|refine cc (cS gE) rfl rfl rfl ?_
   ((apply bn Tryz.func28 (congrArg Array.toList Tryz.results28));(focus((apply JJ rfl (JL (F.ag _ rfl) (by repeat(exact ac)) (bm ai)));(repeat(first|exact JI|apply JK rfl)))))
   exact⟨by rw [hv];rfl,by dsimp only;omega,fun m hm=>(aa _ _ (by omega)).trans (ho1 m hm)⟩
 | true=>
   rw [hr] at hrs
   have hv:iP p=(ln p,0):=by unfold iP;rw [Je hr]
   have hok:=(bw hp).1 hr
   have hh:=hok.head
   have ht:=hok.top
   have hsum:=hok.sum_le
   repeat first|apply aj;rfl|apply bY;rfl;kernel_rfl;exact hrs _|refine aY rfl rfl ce ?_
   have hb2:(H1.set (nx+1+1) (pgO zeroP)).at' nx=some (pgO p):=by repeat(first|assumption|refine ab (by omega) ?_)
   have hz2:(H1.set (nx+1+1) (pgO zeroP)).at' (nx+1)=some (pgO zeroP):=by repeat(first|assumption|refine ab (by omega) ?_)
   have hq2:(H1.set (nx+1+1) (pgO zeroP)).at' (nx+1+1)=some (pgO zeroP):=by repeat(exact ac)
   have ho2: ∀ m,m<nx→(H1.set (nx+1+1) (pgO zeroP)).at' m=H.at' m:=fun m hm=>(aa _ _ (by omega)).trans (ho1 m hm)
   generalize H1.set (nx+1+1) (pgO zeroP)=H2 at hb2 hz2 hq2 ho2 ⊢
   have htl:(p.take (18+4*ae p)).length=18+4*ae p:=by rw [Jh];omega
   have hzl:=ai
   have hbs:BsIs H2 (.sl nx 0 (18+4*ae p) 1024) (byV (p.take (18+4*ae p))):=by
    have:=mT (b:=nx) (p:=p) (o:=0) (m:=18+4*ae p) (C:=1024) hb2 (by omega)
    rw [List.drop_zero] at this
    exact this
   (apply bg;(focus(kernel_rfl));(focus(kernel_rfl)))
   repeat first|apply bI;rfl;rfl;exact(fun _ h=>by cases h);exact(fQ (l:=0) (h:=1024) (F.un _ rfl) (F.sz _ rfl) rfl rfl rfl (by omega) (by omega) (by omega) (show 1024-0=1024 from rfl) rfl rfl)|apply bW;rfl;rfl;rfl;(focus(kernel_rfl));exact(iK hb2 hp)|apply bI;rfl;rfl;exact(fun _ h=>by cases h);exact(fQ (l:=0) (h:=18+4*ae p) (F.un _ rfl) (F.sz _ rfl) rfl rfl rfl (by omega) (by omega) (by omega) (show 18+4*ae p-0=18+4*ae p from rfl) rfl rfl)|apply jO;rfl;rfl;exact(fun _ h=>by cases h);exact(vb (vs:=byV (p.take (18+4*ae p))) (F.un _ rfl) (F.sz _ rfl) rfl rfl hq2 hbs (by rw [bN];omega) (by rw [be ai,bN];omega))|refine bk (aw rfl rfl (.inl ⟨rfl,(Hu _ ⟨(by focus(omega)),(by focus(omega))⟩).symm⟩)) rfl rfl rfl ?_|refine bk (aw rfl rfl (.inr (.inr ⟨rfl,(Hu _ ⟨(by focus(omega)),(by focus(omega))⟩).symm⟩))) rfl rfl rfl ?_
   refine aA ⟨by kernel_rfl,?_,?_⟩;(focus(repeat(first|exact JR|apply kp;rfl|refine⟨.inr ⟨0,by kernel_rfl,AllH.all (fun _=>(by(exact aw rfl rfl (.inl ⟨rfl,(Hu _ ⟨by omega,by omega⟩).symm⟩)))) _⟩,?_⟩|refine fT 0 rfl (by kernel_rfl) (by(repeat(refine⟨(by first|exact fQ (l:=0) (h:=1024) (F.un _ rfl) (F.sz _ rfl) rfl rfl rfl (by omega) (by omega) (by omega) (show 1024-0=1024 from rfl) rfl rfl|exact fQ (l:=0) (h:=18+4*ae p) (F.un _ rfl) (F.sz _ rfl) rfl rfl rfl (by omega) (by omega) (by omega) (show 18+4*ae p-0=18+4*ae p from rfl) rfl rfl),?_⟩));exact JR) ?_|apply mv;kernel_rfl)))
   dsimp only
   rw [mE (p:=zeroP) (o:=0) (l:=p.take (18+4*ae p)) rfl]
   have hb3:(H2.set (nx+1+1) (pgO (bf zeroP 0 (p.take (18+4*ae p))))).at' nx=some (pgO p):=by repeat(first|assumption|refine ab (by omega) ?_)
   have hz3:(H2.set (nx+1+1) (pgO (bf zeroP 0 (p.take (18+4*ae p))))).at' (nx+1)=some (pgO zeroP):=by repeat(first|assumption|refine ab (by omega) ?_)
   have hq3:(H2.set (nx+1+1) (pgO (bf zeroP 0 (p.take (18+4*ae p))))).at' (nx+1+1)=some (pgO (cf p 0)):=ah _ _ _
   have ho3: ∀ m,m<nx→(H2.set (nx+1+1) (pgO (bf zeroP 0 (p.take (18+4*ae p))))).at' m=H.at' m:=fun m hm=>(aa _ _ (by omega)).trans (ho2 m hm)
   generalize H2.set (nx+1+1) (pgO (bf zeroP 0 (p.take (18+4*ae p))))=H3 at hb3 hz3 hq3 ho3 ⊢
   clear hb2 hz2 hq2 ho2 hbs hb1 hz1 ho1 hrs
   repeat first|apply bq hp;rfl;(focus((repeat(first|assumption|refine ab (by omega) ?_));done))|apply aj;rfl|apply aG;rfl;(focus((repeat(exact ac));done));rfl|apply bY;rfl;kernel_rfl;exact ub hp
   rw [hr]
   obtain⟨q0,hq0⟩: ∃ q0,q0=nx+1+1+1+1:=⟨_,rfl⟩
   rw [← hq0]
   refine cL (R:=fun H4 n4=>n4=q0+1+1∧H4.at' q0=some (pgO p)∧H4.at' (q0+1)=some (aq 4 [.sc (.bool true)])∧H4.at' nx=some (pgO p)∧H4.at' (nx+1)=some (pgO zeroP)∧H4.at' (nx+1+1)=some (pgO (cf p 0))∧H4.at' (nx+1+1+1)=some (atO p 0)∧ ∀ m,m<nx→H4.at' m=H.at' m)
    ⟨rfl,by repeat(first|exact ac|refine ab (by omega) ?_),by repeat(exact ac),by repeat(first|assumption|refine ab (by omega) ?_),by repeat(first|assumption|refine ab (by omega) ?_),by repeat(first|assumption|refine ab (by omega) ?_),by repeat(first|exact ac|refine ab (by omega) ?_),fun m hm=>by(repeat(refine ab (by omega) ?_));exact ho3 m hm⟩ ?_
   rintro H4 n4 ⟨rfl,m0,m1,m2,m4,m5,m6,mo⟩
   clear hb3 hz3 hq3 ho3
   refine iI [(1,.ptr nx 0),(2,.ptr (nx+1) 0),(4,.ptr (nx+1+1) 0),(5,.ptr (nx+1+1+1) 0)] rfl rfl (by kernel_rfl) (JN (JQ rfl)) ?_
   intro cA cB hcA hcB
   refine JG (ua (l:=q0+1+1+1) (f:=q0+1) (q:=q0) hp hr (f2:=28) (nt2:=37) (T2:=slT [(1,.ptr nx 0),(2,.ptr (nx+1) 0),(4,.ptr (nx+1+1) 0),(5,.ptr (nx+1+1+1) 0)]) (ps:= #[19,20]) (ca:=cA) (cb:=cB) (dr:=q0+1+1) rfl
    (fun j H5 n5=>H5.at' (q0+1+1+1)=some (.loop .ready none 28 37 (slT [(1,.ptr nx 0),(2,.ptr (nx+1) 0),(4,.ptr (nx+1+1) 0),(5,.ptr (nx+1+1+1) 0)]) #[19,20] cA cB (q0+1+1))∧H5.at' (q0+1)=some (aq 4 [.sc (.bool true)])∧H5.at' q0=some (pgO p)∧q0+1+1+1+1≤n5∧H5.at' nx=some (pgO p)∧H5.at' (nx+1)=some (pgO zeroP)∧H5.at' (nx+1+1)=some (pgO (cf p j))∧H5.at' (nx+1+1+1)=some (atO p j)∧H5.at' (q0+1+1)=some (.dfd (some []))∧ ∀ m,m<nx→H5.at' m=H.at' m)
    (fun _ _=>False)
    ?_ ?_ ?_ ?_ ?_) ?_
   ·rintro j H5 n5 ⟨i1,i2,i3,i4,_⟩
    exact⟨i1,i2,i3,by omega,by omega,by omega⟩
   ·rintro j H5 n5 H6 n6 ⟨i1,i2,i3,i4,i5,i6,i7,i8,i9,i10⟩ hle hs
    exact⟨(hs _ (by omega)).trans i1,(hs _ (by omega)).trans i2,(hs _ (by omega)).trans i3,by omega,(hs _ (by omega)).trans i5,(hs _ (by omega)).trans i6,(hs _ (by omega)).trans i7,(hs _ (by omega)).trans i8,(hs _ (by omega)).trans i9,fun m hm=>(hs _ (by omega)).trans (i10 m hm)⟩
   ·rintro j H5 n5 ⟨i1,i2,i3,i4,i5,i6,i7,i8,i9,i10⟩ hz
    have e1:cf p (j+1)=cf p j:=by show(if _ then _ else _)=_;rw [Je hz]
    have e2:atO p (j+1)=atO p j:=by unfold atO;rw [show bZ p (j+1)=bZ p j from by show bZ p j+ar p j=_;omega]
    exact⟨i1,i2,i3,i4,i5,i6,by rw [e1];exact i7,by rw [e2];exact i8,i9,i10⟩
   ·rintro j H5 n5 r ⟨i1,i2,i3,i4,i5,i6,i7,i8,i9,i10⟩ hr1 hr2 hj hs hrow
    have hrow2:(H5.set (q0+1+1+1) (.loop .busy none 28 37 (slT [(1,.ptr nx 0),(2,.ptr (nx+1) 0),(4,.ptr (nx+1+1) 0),(5,.ptr (nx+1+1+1) 0)]) #[19,20] cA cB (q0+1+1))).at' r=some (u8R false (byV (aS p j))):=(aa _ _ (by omega)).trans hrow
    have hsl:=hok.slot j hj
    have hil:=dz hp (j:=j) (by omega)
    have hbl:=bN (aS p j)
    have hmono:=dB p (show j+1≤ae p by omega)
    have hsj:bZ p (j+1)=bZ p j+ar p j:=rfl
    have hpk:=rZ hok j (by omega)
    have e1:cf p (j+1)=bK (bf (cf p j) (1024-bZ p (j+1)) (aS p j)) j (1024-bZ p (j+1)) (ar p j):=by show(if _ then _ else _)=_;rw [Jd hs]
    refine m8 hcA ?_
    repeat apply aj;rfl
    refine pZ (by assumption) ?_
    refine m8 hcB ?_
    repeat first|apply aj;rfl|apply aG;rfl;(focus((repeat(first|assumption|exact ac|refine ab (by omega) ?_));done));rfl|apply aK;rfl;omega;omega
    rw [show((1024-bZ p j:Nat):Int)-((aS p j).length:Int)=((1024-bZ p (j+1):Nat):Int) by omega]
    repeat first|apply aj;rfl|apply kL (lw:=1024-bZ p (j+1)) (hg:=1024) (m:=1024-(1024-bZ p (j+1)));rfl;rfl;rfl;exact(F.un _ rfl);exact(F.sz _ rfl);rfl;rfl;(focus(omega));(focus(omega));(focus(omega));rfl;rfl;exact(Jf _)
    refine nT rfl rfl rfl rfl (F.un _ rfl) (F.sz _ rfl) (cs:=pgS (cf p j)) (vs:=byV (aS p j)) (by repeat(first|assumption|refine ab (by omega) ?_)) (jc (by(repeat(refine ab (by omega) ?_));exact hrow)) (by omega) (by rw [be hpk.len];omega) ?_
    rw [mE rfl]
    have hlq:(bf (cf p j) (1024-bZ p (j+1)) (aS p j)).length=1024:=(bM (by rw [hpk.len];omega)).trans hpk.len
    repeat first|apply aj;rfl|apply aG;rfl;(focus((repeat(first|exact ac|refine ab (by omega) ?_));done));rfl
    refine aL rfl rfl rfl (by kernel_rfl) (JG (qn (b:=nx+1+1) (by repeat(exact ac)) hlq (n:=j) (a:=1024-bZ p (j+1)) (s:=(aS p j).length) (by omega) (by omega) (by omega)) ?_)
    rintro⟨_,H6,n6⟩ ⟨rfl,g1,g2,g3⟩
    dsimp only at g1 g2 g3 ⊢
    rw [hil,←e1] at g1
    have g4:H6.at' (q0+1+1+1)=some (.loop .busy none 28 37 (slT [(1,.ptr nx 0),(2,.ptr (nx+1) 0),(4,.ptr (nx+1+1) 0),(5,.ptr (nx+1+1+1) 0)]) #[19,20] cA cB (q0+1+1)):=(g3 (q0+1+1+1) (by omega) (by omega)).trans (by repeat(first|exact ac|refine ab (by omega) ?_))
    have g6:H6.at' (nx+1+1+1)=some (atO p (j+1)):=(g3 _ (by omega) (by omega)).trans (by repeat(first|exact ac|refine ab (by omega) ?_))
    have gk: ∀ m,m<n5→m≠q0+1+1+1→m≠nx+1+1→m≠nx+1+1+1→H6.at' m=H5.at' m:=fun m h1 h2 h3 h4=>(g3 m h1 h3).trans ((aa _ _ h3).trans ((aa _ _ h4).trans (aa _ _ h2)))
    clear g3 hrow hrow2
    repeat apply aj;rfl
    refine il (by exact g4) (.inl ⟨rfl,⟨ah _ _ _,?_,?_,by dsimp only;omega,?_,?_,?_,?_,?_,fun m hm=>?_⟩,by dsimp only;omega,?_⟩)
    ·(focus((repeat(refine ab (by omega) ?_));exact(gk _ (by omega) (by omega) (by omega) (by omega)).trans i2))
    ·(focus((repeat(refine ab (by omega) ?_));exact(gk _ (by omega) (by omega) (by omega) (by omega)).trans i3))
    ·(focus((repeat(refine ab (by omega) ?_));exact(gk _ (by omega) (by omega) (by omega) (by omega)).trans i5))
    ·(focus((repeat(refine ab (by omega) ?_));exact(gk _ (by omega) (by omega) (by omega) (by omega)).trans i6))
    ·(focus((repeat(refine ab (by omega) ?_));exact g1))
    ·(focus((repeat(refine ab (by omega) ?_));exact g6))
    ·(focus((repeat(refine ab (by omega) ?_));exact(gk _ (by omega) (by omega) (by omega) (by omega)).trans i9))
    ·(focus((repeat(refine ab (by omega) ?_));exact(gk _ (by omega) (by omega) (by omega) (by omega)).trans (i10 m hm)))
    ·(focus((repeat(refine ab (by omega) ?_));exact gk _ (by omega) (by omega) (by omega) (by omega)))
   ·exact⟨ah _ _ _,by repeat(first|assumption|refine ab (by omega) ?_),by repeat(first|assumption|refine ab (by omega) ?_),HS _,by repeat(first|assumption|refine ab (by omega) ?_),by repeat(first|assumption|refine ab (by omega) ?_),by repeat(first|assumption|refine ab (by omega) ?_),by repeat(first|assumption|refine ab (by omega) ?_),by repeat(first|exact ac|refine ab (by omega) ?_),fun m hm=>(aa _ _ (by omega)).trans ((aa _ _ (by omega)).trans (mo m hm))⟩
   ·rintro⟨v,H5,n5⟩ (⟨i1,i2,i3,i4,i5,i6,i7,i8,i9,i10⟩|hf)
    ·dsimp only at i1 i2 i3 i4 i5 i6 i7 i8 i9 i10 ⊢
     refine im i1 (fun h=>by cases h) ?_
     dsimp only [jY]
     have hpk:=rZ hok (ae p) (HS _)
     have hpl:=hpk.len
     have hvl:(cm (cf p (ae p)) 16 (1024-bZ p (ae p))).length=1024:=(bE (by omega)).trans hpl
     repeat first|apply aj;rfl|apply aG;rfl;(focus((repeat(first|assumption|refine ab (by omega) ?_));done));rfl
     refine aL rfl rfl rfl (by kernel_rfl) (JG (pd (b:=nx+1+1) (o:=16) (n:=1024-bZ p (ae p)) (by(repeat(refine ab (by omega) ?_));exact i7) hpl (by decide) (by omega)) ?_)
     rintro⟨_,H6,n6⟩ ⟨rfl,g1,g2,g3⟩
     dsimp only at g1 g2 g3 ⊢
     have g4:H6.at' (nx+1)=some (pgO zeroP):=(g3 _ (by omega) (by omega)).trans (by(repeat(refine ab (by omega) ?_));exact i6)
     have g9:H6.at' (q0+1+1)=some (.dfd (some [])):=(g3 _ (by omega) (by omega)).trans (by(repeat(refine ab (by omega) ?_));exact i9)
     have go: ∀ m,m<nx→H6.at' m=H.at' m:=fun m hm=>(g3 _ (by omega) (by omega)).trans (by(repeat(refine ab (by omega) ?_));exact i10 m hm)
     have hpv:cm (cf p (ae p)) 16 (1024-bZ p (ae p))=ln p:=rfl
     rw [hpv] at g1 hvl
     generalize ln p=pv at hv hvl g1
     clear hpv g3
     repeat first|apply bq hvl;rfl;assumption|apply bC hvl ai;rfl;assumption|apply aj;rfl
     refine rh Tryz.func28 (congrArg Array.toList Tryz.results28) (rs:= [q0+1+1]) rfl (fun r hr=>by rw [Jj.1 hr];(focus((repeat(first|assumption|refine ab (by omega) ?_));done))) (by simp) ?_
     intro H7 hH7
     have hno: ∀ m,m≤nx+1→m∉ [q0+1+1]:=fun m hm h=>by have:=Jj.1 h;omega
     have k4:H7.at' (nx+1)=some (pgO pv):=(hH7 _ (hno _ (by omega))).trans (by repeat(exact ac))
     refine⟨_,(by(apply JJ rfl (JL (F.ag _ rfl) (by assumption) (bm hvl)));(repeat(first|exact JI|apply JK rfl))),?_⟩
     exact⟨by rw [hv];rfl,by dsimp only;omega,fun m hm=>(hH7 m (hno _ (by omega))).trans (by(repeat(refine ab (by omega) ?_));exact go m hm)⟩
    ·exact hf.elim
theorem Cc(hp:p.length=1024):Fnc Tryz.prog 28 [.agg (pgS p)] H nx (fun q=>q=(pgE (iP p),H,nx)):=Fnc.bu (gL _) (GG hp)
theorem qo(hm:mem.length=131072)(l p:Int):(rX mem l p).length=131074:=by simp [hm]
theorem ia(hm:mem.length=131072):((byV mem).map SV.sc).length=131072:=by simpa using hm
theorem uX(hm:mem.length=131072)(l p:Int):(rX mem l p)[131072]? =some (.sc (.int .i64 l)):=by
 rw [Jn (by rw [ia hm];exact HS _),ia hm]
 rfl
theorem dp(hm:mem.length=131072)(l p:Int):(rX mem l p)[131073]? =some (.sc (.int .i64 p)):=by
 rw [Jn (by rw [ia hm];decide),ia hm]
 rfl
theorem AW(hm:mem.length=131072)(l p l':Int):(rX mem l p).set 131072 (.sc (.int .i64 l'))=rX mem l' p:=by
 rw [List.set_append_right _ _ (by rw [ia hm];exact HS _),ia hm]
 rfl
theorem AV(hm:mem.length=131072)(l p p':Int):(rX mem l p).set 131073 (.sc (.int .i64 p'))=rX mem l p':=by
 rw [List.set_append_right _ _ (by rw [ia hm];decide),ia hm]
 rfl
def gH(mem:List UInt8)(n:Nat)(x:List UInt8):List UInt8:=bf mem (1024*n) x
theorem lI(hm:mem.length=131072)(hn:n<128)(hx:x.length=1024):(gH mem n x).length=131072:=by
 unfold gH
 rw [bM (by omega),hm]
theorem Dl(hm:mem.length=131072)(hn:n<128)(hx:x.length=1024)(l p:Int):(rX mem l p).take (0+n*1024) ++ pgS x ++ (rX mem l p).drop (0+n*1024+1024)=rX (gH mem n x) l p:=by
 have hl:=ia hm
 rw [List.take_append_of_le_length (by omega),List.drop_append_of_le_length (by omega)]
 unfold gH bf
 rw [hx,Jf,Nat.mul_comm n]
 show _=(byV (mem.take (1024*n) ++ x ++ mem.drop (1024*n+1024))).map SV.sc ++ _
 rw [jT,jT,HX,HX]
 simp only [byV,List.map_take,List.map_drop,Jo]
theorem uS(hb:H.at' b=some (cX mem left puts))(hm:mem.length=131072)(hn:n<128)(hx:x.length=1024)(hl:left≠0)(hl2 : -1000000000≤left∧left≤1000000000)(hp : -1000000000≤puts∧puts≤1000000000):Fnc Tryz.prog 141 [.ptr b 0,.sc (.int .i64 (n:Int)),.agg (pgS x)] H nx
 (fun q=>q.1 = .sc (.int .i64 0)∧q.2.1.at' b=some (cX (gH mem n x) (left-1) (puts+1))∧nx≤q.2.2∧ ∀ m,m<nx→m≠b→q.2.1.at' m=H.at' m):=by
 refine JH Tryz.func141 rfl rfl ?_
 refine aW fun hund=>?_
 have hlt:=hund _ _ hb
 have hbox:(H.set nx (pgO x)).at' nx=some (pgO x):=ah _ _ _
 have hb1:(H.set nx (pgO x)).at' b=some (cX mem left puts):=(aa _ _ (by omega)).trans hb
 have hold: ∀ m,m<nx→(H.set nx (pgO x)).at' m=H.at' m:=fun m hm=>aa _ _ (by omega)
 repeat apply aj;rfl
 generalize H.set nx (pgO x)=H1 at hbox hb1 hold ⊢
 repeat first|refine cV rfl rfl rfl (F.ag _ rfl) hb1 (uX hm _ _) ?_|apply aj;rfl|apply aK;rfl;omega;omega|apply kM;rfl;omega|apply ii;rfl;omega
 refine dg rfl rfl rfl (F.sz _ rfl) hb1 rfl (HG (by rw [qo hm];decide)) ?_
 rw [AW hm]
 have hb2:(H1.set b (cX mem (left-1) puts)).at' b=some (cX mem (left-1) puts):=ah _ _ _
 repeat first|refine cV rfl rfl rfl (F.ag _ rfl) hb2 (dp hm _ _) ?_|apply aj;rfl|apply aK;rfl;omega;omega
 refine dg rfl rfl rfl (F.sz _ rfl) hb2 rfl (HG (by rw [qo hm];decide)) ?_
 rw [AV hm]
 have hb3:((H1.set b (cX mem (left-1) puts)).set b (cX mem (left-1) (puts+1))).at' b=some (cX mem (left-1) (puts+1)):=ah _ _ _
 have hbox3:((H1.set b (cX mem (left-1) puts)).set b (cX mem (left-1) (puts+1))).at' nx=some (pgO x):=(aa _ _ (by omega)).trans ((aa _ _ (by omega)).trans hbox)
 have hold3: ∀ m,m<nx→m≠b→((H1.set b (cX mem (left-1) puts)).set b (cX mem (left-1) (puts+1))).at' m=H.at' m:=fun m h1 h2=>(aa _ _ h2).trans ((aa _ _ h2).trans (hold m h1))
 generalize (H1.set b (cX mem (left-1) puts)).set b (cX mem (left-1) (puts+1))=H3 at hb3 hbox3 hold3 ⊢
 clear hb2 hb1 hbox hold
 repeat apply aj;rfl
 (apply bg;(focus(kernel_rfl));(focus(kernel_rfl)))
 repeat first|refine cg rfl rfl rfl (F.ag _ rfl) hbox3 (be hx) ?_|refine bU rfl rfl rfl (F.sz _ rfl) hb3 (be hx) (by rw [qo hm];omega) (iv _) (Dl hm hn hx _ _) ?_|apply jM (q:=n);rfl;rfl;rfl;rfl;exact(F.un _ rfl);exact(F.sz _ rfl);(focus(omega));(focus(omega))|apply aU;rfl
 refine aA ⟨by kernel_rfl,?_,?_⟩;(focus(repeat(first|exact JR|apply kp;rfl|apply gu;rfl;kernel_rfl|refine fT 0 rfl (by kernel_rfl) (by(repeat(refine⟨(by first|exact aV (F.ag _ rfl) rfl (by repeat(first|assumption|refine ab (by omega) ?_)) (bm hx)|exact gW (q:=n) rfl rfl (F.un _ rfl) (F.sz _ rfl) (by omega) (by omega)),?_⟩));exact JR) ?_)))
 repeat apply aj;rfl
 (apply bP Tryz.func141 Tryz.results141;rfl)
 exact⟨rfl,ah _ _ _,Jb _,fun m h1 h2=>(aa _ _ h2).trans (hold3 m h1 h2)⟩
def kP(p:List UInt8):Nat:=(p.getD 12 0).toNat
theorem GQ(hp:p.length=1024):Fnc Tryz.prog 88 [.agg (pgS p)] H nx (fun q=>q=(.sc (.int .u8 (kP p:Int)),H,nx)):=by
 refine Fnc.bu (Free.sc _) ?_
 refine JH Tryz.func88 rfl rfl ?_
 have hc:=nI (p:=p) (i:=12) (by omega)
 repeat first|apply aj;rfl|apply eR (q:=12);rfl;rfl;rfl;rfl;exact(F.un _ rfl);exact(F.sz _ rfl);(focus(omega));(focus(omega))|refine cc (an (F.ag _ rfl) rfl (by repeat(exact ac)) hc) rfl rfl rfl ?_
 (apply bP Tryz.func88 Tryz.results88;rfl)
 refine⟨?_,Jb _,fun m hm=>aa _ _ (by omega)⟩
 have hg:p.getD 12 0=p[12]'(by omega):=by rw [HN,Hx (by omega)];rfl
 unfold kP
 rw [hg]
 rfl
def xg(p:List UInt8):Bool:=(List.range (ae p)).any fun j=>decide (ar p j≠0) && (ofV (aS p j)).isNone
def aX(p:List UInt8):List UInt8×Nat:=if gU p=true then(fy 4,0) else if bl p=false∨kP p≠4 then(zeroP,13) else if xg p=true then(zeroP,13) else(p,0)
theorem cC{s:SV}{vs:List Value}(h:BsIs H s vs):s.one=true:=by
 obtain⟨_,⟨_,_,_,rfl⟩|⟨r0,eo,ne,ro0,t0,us,rfl,_⟩|⟨b0,o0,C0,vo0,rfl,_⟩⟩:=h <;> rfl
abbrev tv(b:Nat):SV:= .ifc 25 (.ptr b 0)
abbrev fp(e:Int):VO:=aq 43 [.sc (.int .i64 e)]
theorem Gv(hb:H.at' b=some (cX mem left puts))(hm:mem.length=131072)(hn:n<128):Fnc Tryz.prog 43 [tv b,.sc (.int .i64 (n:Int))] H nx (fun q=>q.1=pgE (aX (az mem n))∧nx≤q.2.2∧ ∀ m,m<nx→q.2.1.at' m=H.at' m):=by
 have hp:=dx hm hn
 refine JH Tryz.func43 rfl rfl ?_
 refine aW fun hund=>?_
 have hlt:=hund _ _ hb
 repeat first|refine aY rfl rfl ce ?_|apply aj;rfl
 have hb1:((H.set nx (pgO zeroP)).set (nx+1) (fp 0)).at' b=some (cX mem left puts):=by repeat(first|assumption|refine ab (by omega) ?_)
 have h41:((H.set nx (pgO zeroP)).set (nx+1) (fp 0)).at' nx=some (pgO zeroP):=by repeat(first|exact ac|refine ab (by omega) ?_)
 have h51:((H.set nx (pgO zeroP)).set (nx+1) (fp 0)).at' (nx+1)=some (fp 0):=by repeat(exact ac)
 have ho1: ∀ m,m<nx→((H.set nx (pgO zeroP)).set (nx+1) (fp 0)).at' m=H.at' m:=fun m hm=>by(repeat(refine ab (by omega) ?_));rfl
 refine lE 140 rfl rfl rfl rfl (by kernel_rfl) (JG (GF hb1 hm hn) ?_)
 rintro _ rfl
 dsimp only
 generalize (H.set nx (pgO zeroP)).set (nx+1) (fp 0)=H1 at hb1 h41 h51 ho1 ⊢
 generalize az mem n=p at hp ⊢
 repeat first|refine aY rfl rfl ce ?_|apply bC hp ai;rfl;(focus((repeat(exact ac));done))|apply aj;rfl|apply dH;rfl;rfl
 have h62:((H1.set (nx+1+1) (pgO zeroP)).set (nx+1+1) (pgO p)).at' (nx+1+1)=some (pgO p):=ah _ _ _
 have h42:((H1.set (nx+1+1) (pgO zeroP)).set (nx+1+1) (pgO p)).at' nx=some (pgO zeroP):=by repeat(first|assumption|refine ab (by omega) ?_)
 have h52:((H1.set (nx+1+1) (pgO zeroP)).set (nx+1+1) (pgO p)).at' (nx+1)=some (fp 0):=by repeat(first|assumption|refine ab (by omega) ?_)
 have ho2: ∀ m,m<nx→((H1.set (nx+1+1) (pgO zeroP)).set (nx+1+1) (pgO p)).at' m=H.at' m:=fun m hm=>(aa _ _ (by omega)).trans ((aa _ _ (by omega)).trans (ho1 m hm))
 refine cL (R:=fun H2 n2=>H2=(H1.set (nx+1+1) (pgO zeroP)).set (nx+1+1) (pgO p)∧n2=nx+1+1+1) ⟨rfl,rfl⟩ ?_
 rintro H2 n2 ⟨hH2,rfl⟩
 rw [← hH2] at h62 h42 h52 ho2
 clear hH2 h41 h51 ho1 hb1
 have hfin: ∀ (e:Nat) (x:List UInt8) (H3:au) (n3:Nat),aX p=(x,e)→nx≤n3→(∀ m,m<nx→H3.at' m=H.at' m)→(SV.tup [.agg (pgS x),.sc (.int .i64 (e:Int))]=pgE (aX p)∧nx≤n3∧ ∀ m,m<nx→H3.at' m=H.at' m):=fun e x H3 n3 h1 h2 h3=>⟨by rw [h1],h2,h3⟩
 cases hu:gU p with
 | true=>
   have hv:aX p=(fy 4,0):=by unfold aX;rw [Je hu]
   have hus:=fun(H:au) nx=>uC (H:=H) (nx:=nx) hp
   rw [hu] at hus
   have hl4:=fL 4
   repeat first|apply bq hp;rfl;assumption|apply aj;rfl|apply bY;rfl;kernel_rfl;exact hus _ _
   refine aL rfl rfl rfl (by kernel_rfl) (JG (GX 4) ?_)
   rintro _ rfl
   dsimp only
   generalize fy 4=p4 at hv hl4
   repeat first|apply bC hl4 ai;rfl;assumption|apply aj;rfl|apply aG;rfl;(focus((repeat(first|assumption|refine ab (by omega) ?_));done));rfl
   ((apply bn Tryz.func43 (congrArg Array.toList Tryz.results43));(focus((apply JJ rfl (JL (F.ag _ rfl) (by repeat(first|exact ac|refine ab (by omega) ?_)) (bm hl4)));apply JJ rfl (JM (F.ag _ rfl) (by repeat(exact ac)) (aD rfl));exact JI)))
   exact hfin 0 _ _ _ hv (by dsimp only;omega) fun m hm=>(aa _ _ (by omega)).trans ((aa _ _ (by omega)).trans (ho2 m hm))
 | false=>
   have hus:=fun(H:au) nx=>uC (H:=H) (nx:=nx) hp
   rw [hu] at hus
   have hrs:=fun(H:au) nx=>Ef (H:=H) (nx:=nx) hp
   cases hr:bl p with
   | false=>
     have hv:aX p=(zeroP,13):=by unfold aX;rw [Jd (by rw [hu];decide),Je (.inl hr)]
     rw [hr] at hrs
     repeat first|apply bq hp;rfl;assumption|apply bC ai ai;rfl;assumption|apply aj;rfl|apply aG;rfl;(focus((repeat(first|assumption|refine ab (by omega) ?_));done));rfl|apply bY;rfl;kernel_rfl;exact hus _ _|apply bY;rfl;kernel_rfl;exact hrs _ _|refine cc (cS gE) rfl rfl rfl ?_
     ((apply bn Tryz.func43 (congrArg Array.toList Tryz.results43));(focus((apply JJ rfl (JL (F.ag _ rfl) (by repeat(first|exact ac|refine ab (by omega) ?_)) (bm ai)));apply JJ rfl (JM (F.ag _ rfl) (by repeat(exact ac)) (aD rfl));exact JI)))
     exact hfin 13 _ _ _ hv (by dsimp only;omega) fun m hm=>(aa _ _ (by omega)).trans ((aa _ _ (by omega)).trans (ho2 m hm))
   | true=>
     rw [hr] at hrs
     repeat first|apply bq hp;rfl;assumption|apply aj;rfl|apply bY;rfl;kernel_rfl;exact hus _ _|apply bY;rfl;kernel_rfl;exact hrs _ _|apply bY;rfl;kernel_rfl;exact GQ hp
     refine lD rfl rfl rfl rfl (fun hk=>?_) (fun hk=>?_)
     ·have hv:aX p=(zeroP,13):=by unfold aX;rw [Jd (by rw [hu];decide),Je (.inr (by omega))]
      repeat first|apply bC ai ai;rfl;assumption|apply aj;rfl|apply aG;rfl;(focus((repeat(first|assumption|refine ab (by omega) ?_));done));rfl|refine cc (cS gE) rfl rfl rfl ?_
      ((apply bn Tryz.func43 (congrArg Array.toList Tryz.results43));(focus((apply JJ rfl (JL (F.ag _ rfl) (by repeat(first|exact ac|refine ab (by omega) ?_)) (bm ai)));apply JJ rfl (JM (F.ag _ rfl) (by repeat(exact ac)) (aD rfl));exact JI)))
      exact hfin 13 _ _ _ hv (by dsimp only;omega) fun m hm=>(aa _ _ (by omega)).trans ((aa _ _ (by omega)).trans (ho2 m hm))
     ·have hv:aX p=if xg p=true then(zeroP,13) else(p,0):=by unfold aX;rw [Jd (by rw [hu];decide),Jd (by rw [hr];intro h;rcases h with h|h;cases h;omega)]
      repeat first|apply bq hp;rfl;assumption|apply aj;rfl|apply bY;rfl;kernel_rfl;exact ub hp
      rw [hr]
      obtain⟨q0,hq0⟩: ∃ q0,q0=nx+1+1+1:=⟨_,rfl⟩
      rw [← hq0]
      have m0:((H2.set q0 (pgO p)).set (q0+1) (aq 4 [.sc (.bool true)])).at' q0=some (pgO p):=by repeat(first|exact ac|refine ab (by omega) ?_)
      have m1:((H2.set q0 (pgO p)).set (q0+1) (aq 4 [.sc (.bool true)])).at' (q0+1)=some (aq 4 [.sc (.bool true)]):=ah _ _ _
      have m4:((H2.set q0 (pgO p)).set (q0+1) (aq 4 [.sc (.bool true)])).at' nx=some (pgO zeroP):=by repeat(first|assumption|refine ab (by omega) ?_)
      have m5:((H2.set q0 (pgO p)).set (q0+1) (aq 4 [.sc (.bool true)])).at' (nx+1)=some (fp 0):=by repeat(first|assumption|refine ab (by omega) ?_)
      have m6:((H2.set q0 (pgO p)).set (q0+1) (aq 4 [.sc (.bool true)])).at' (nx+1+1)=some (pgO p):=by repeat(first|assumption|refine ab (by omega) ?_)
      have mo: ∀ m,m<nx→((H2.set q0 (pgO p)).set (q0+1) (aq 4 [.sc (.bool true)])).at' m=H.at' m:=fun m hm=>(aa _ _ (by omega)).trans ((aa _ _ (by omega)).trans (ho2 m hm))
      generalize (H2.set q0 (pgO p)).set (q0+1) (aq 4 [.sc (.bool true)])=H3 at m0 m1 m4 m5 m6 mo ⊢
      clear ho2 h52 h42 h62 hus hrs hu
      refine iI [(4,.ptr nx 0),(5,.ptr (nx+1) 0)] rfl rfl (by kernel_rfl) (JN (JQ rfl)) ?_
      intro cA cB hcA hcB
      refine JG (ua (l:=q0+1+1+1) (f:=q0+1) (q:=q0) hp hr (f2:=43) (nt2:=47) (T2:=slT [(4,.ptr nx 0),(5,.ptr (nx+1) 0)]) (ps:= #[36,37]) (ca:=cA) (cb:=cB) (dr:=q0+1+1) rfl
       (fun j H4 n4=>H4.at' (q0+1+1+1)=some (.loop .ready none 43 47 (slT [(4,.ptr nx 0),(5,.ptr (nx+1) 0)]) #[36,37] cA cB (q0+1+1))∧H4.at' (q0+1)=some (aq 4 [.sc (.bool true)])∧H4.at' q0=some (pgO p)∧q0+1+1+1+1≤n4∧H4.at' nx=some (pgO zeroP)∧H4.at' (nx+1)=some (fp 0)∧H4.at' (nx+1+1)=some (pgO p)∧H4.at' (q0+1+1)=some (.dfd (some []))∧(∀ i,i<j→ar p i≠0→(ofV (aS p i)).isSome=true)∧ ∀ m,m<nx→H4.at' m=H.at' m)
       (fun H4 n4=>H4.at' (q0+1+1+1)=some (.loop .done (some .ret) 43 47 (slT [(4,.ptr nx 0),(5,.ptr (nx+1) 0)]) #[36,37] cA cB (q0+1+1))∧q0≤n4∧H4.at' nx=some (pgO zeroP)∧H4.at' (nx+1)=some (fp 13)∧H4.at' (q0+1+1)=some (.dfd (some []))∧xg p=true∧ ∀ m,m<nx→H4.at' m=H.at' m)
       ?_ ?_ ?_ ?_ ?_) ?_
      ·rintro j H4 n4 ⟨i1,i2,i3,i4,_⟩
       exact⟨i1,i2,i3,by omega,by omega,by omega⟩
      ·rintro j H4 n4 H5 n5 ⟨i1,i2,i3,i4,i5,i6,i7,i8,i9,i10⟩ hle hs
       exact⟨(hs _ (by omega)).trans i1,(hs _ (by omega)).trans i2,(hs _ (by omega)).trans i3,by omega,(hs _ (by omega)).trans i5,(hs _ (by omega)).trans i6,(hs _ (by omega)).trans i7,(hs _ (by omega)).trans i8,i9,fun m hm=>(hs _ (by omega)).trans (i10 m hm)⟩
      ·rintro j H4 n4 ⟨i1,i2,i3,i4,i5,i6,i7,i8,i9,i10⟩ hz
       refine⟨i1,i2,i3,i4,i5,i6,i7,i8,fun i hi hs=>?_,i10⟩
       rcases Jg i j with h|h
       ·exact i9 i h hs
       ·obtain rfl:i=j:=by omega
        exact absurd hz hs
      ·rintro j H4 n4 r ⟨i1,i2,i3,i4,i5,i6,i7,i8,i9,i10⟩ hr1 hr2 hj hs hrow
       have hrow2:(H4.set (q0+1+1+1) (.loop .busy none 43 47 (slT [(4,.ptr nx 0),(5,.ptr (nx+1) 0)]) #[36,37] cA cB (q0+1+1))).at' r=some (u8R false (byV (aS p j))):=(aa _ _ (by omega)).trans hrow
       have hil:(aS p j).length≤1024:=by unfold aS;rw [Jh,Jk];omega
       refine m8 hcA ?_
       repeat apply aj;rfl
       refine pZ (by assumption) ?_
       refine m8 hcB ?_
       repeat apply aj;rfl
       refine aL rfl rfl rfl (by kernel_rfl) (JG (of_s (jc hrow2) (by omega)) ?_)
       rintro⟨_,H5,n5⟩ ⟨s',r',rfl,⟨k,w,rfl,gk,gw⟩,_,g2,g3⟩
       dsimp only at g2 g3 ⊢
       have j1:=(g3 _ (show q0+1+1+1<n4 by omega)).trans (ah _ _ _)
       have jo: ∀ m,m<n4→m≠q0+1+1+1→H5.at' m=H4.at' m:=fun m h1 h2=>(g3 m h1).trans (aa _ _ h2)
       have j4:H5.at' nx=some (pgO zeroP):=(jo _ (by omega) (by omega)).trans i5
       have j5:H5.at' (nx+1)=some (fp 0):=(jo _ (by omega) (by omega)).trans i6
       have hone: ∀ x y:Nat,bh (ew k w x y)=true:=fun x y=>by simp only [bh,cC gk.bs,cC gw.bs];rfl
       clear gk gw g3 hrow hrow2
       repeat first|apply aj;rfl|refine dm rfl rfl rfl (F.sz _ rfl) (by repeat(first|assumption|exact ac)) rfl (by exact Hz rfl) (hone _ _) rfl ?_
       cases ho:ofV (aS p j)with
       | none=>
         have hbd:xg p=true:=by
          unfold xg
          rw [List.any_eq_true]
          exact⟨j,Jz.2 hj,by rw [Jw hs,ho];rfl⟩
         refine lD rfl rfl rfl rfl (fun _=>?_) (fun hq=>absurd hq (by decide))
         repeat first|apply bC ai ai;rfl;(focus((repeat(first|assumption|refine ab (by omega) ?_));done))|apply aj;rfl|apply aG;rfl;(focus((repeat(first|assumption|refine ab (by omega) ?_));done));rfl|refine cc (cS gE) rfl rfl rfl ?_
         refine ww (by repeat(first|assumption|refine ab (by omega) ?_)) (.inr ⟨rfl,ah _ _ _,by dsimp only;omega,by repeat(first|exact ac|refine ab (by omega) ?_),by repeat(first|exact ac|refine ab (by omega) ?_),?_,hbd,fun m hm=>?_⟩)
         ·(focus((repeat(refine ab (by omega) ?_));exact(jo _ (by omega) (by omega)).trans i8))
         ·(focus((repeat(refine ab (by omega) ?_));exact(jo _ (by omega) (by omega)).trans (i10 m hm)))
       | some v=>
         refine lD rfl rfl rfl rfl (fun hq=>absurd rfl hq) (fun _=>?_)
         repeat apply aj;rfl
         refine il (by repeat(first|assumption|refine ab (by omega) ?_)) (.inl ⟨rfl,⟨ah _ _ _,?_,?_,by dsimp only;omega,?_,?_,?_,?_,fun i hi hsi=>?_,fun m hm=>?_⟩,by dsimp only;omega,?_⟩)
         ·(focus((repeat(refine ab (by omega) ?_));exact(jo _ (by omega) (by omega)).trans i2))
         ·(focus((repeat(refine ab (by omega) ?_));exact(jo _ (by omega) (by omega)).trans i3))
         ·(focus((repeat(first|assumption|refine ab (by omega) ?_));done))
         ·(focus((repeat(first|assumption|refine ab (by omega) ?_));done))
         ·(focus((repeat(refine ab (by omega) ?_));exact(jo _ (by omega) (by omega)).trans i7))
         ·(focus((repeat(refine ab (by omega) ?_));exact(jo _ (by omega) (by omega)).trans i8))
         ·rcases Jg i j with h|h
          ·exact i9 i h hsi
          ·obtain rfl:i=j:=by omega
           rw [ho]
           rfl
         ·(focus((repeat(refine ab (by omega) ?_));exact(jo _ (by omega) (by omega)).trans (i10 m hm)))
         ·(focus((repeat(refine ab (by omega) ?_));exact jo _ (by omega) (by omega)))
      ·exact⟨ah _ _ _,by repeat(first|assumption|refine ab (by omega) ?_),by repeat(first|assumption|refine ab (by omega) ?_),HS _,by repeat(first|assumption|refine ab (by omega) ?_),by repeat(first|assumption|refine ab (by omega) ?_),by repeat(first|assumption|refine ab (by omega) ?_),by repeat(first|exact ac|refine ab (by omega) ?_),fun i hi=>absurd hi (Nat.not_lt_zero _),fun m hm=>(aa _ _ (by omega)).trans ((aa _ _ (by omega)).trans (mo m hm))⟩
      ·rintro⟨v,H4,n4⟩ (⟨i1,i2,i3,i4,i5,i6,i7,i8,i9,i10⟩|⟨i1,i4,i5,i6,i8,i9,i10⟩)
       ·dsimp only at i1 i2 i3 i4 i5 i6 i7 i8 i10 ⊢
        have hbad:xg p=false:=by
         unfold xg
         rw [List.any_eq_false]
         intro j hj
         have hj:=Jz.1 hj
         by_cases hz:ar p j=0
         ·rw [Jx (fun h=>h hz)];simp
         ·have:=i9 j hj hz
          rw [show(ofV (aS p j)).isNone=false by cases h:ofV (aS p j)with|none=>rw [h] at this;cases this|some _=>rfl]
          simp
        rw [hbad] at hv
        refine im i1 (fun h=>by cases h) ?_
        dsimp only [jY]
        have h6: ∀ vo,(H4.set (q0+1+1+1) vo).at' (nx+1+1)=some (pgO p):=fun vo=>(aa _ _ (by omega)).trans i7
        have h4: ∀ vo,(H4.set (q0+1+1+1) vo).at' nx=some (pgO zeroP):=fun vo=>(aa _ _ (by omega)).trans i5
        repeat first|apply bq hp;rfl;(focus((repeat(first|assumption|refine ab (by omega) ?_));done))|apply bC hp ai;rfl;(focus((repeat(first|assumption|refine ab (by omega) ?_));done))|apply aj;rfl|apply aG;rfl;(focus((repeat(first|assumption|refine ab (by omega) ?_));done));rfl
        refine rh Tryz.func43 (congrArg Array.toList Tryz.results43) (rs:= [q0+1+1]) rfl (fun r hr=>by rw [Jj.1 hr];(focus((repeat(first|assumption|refine ab (by omega) ?_));done))) (by simp) ?_
        intro H7 hH7
        have hno: ∀ m,m≤nx+1→m∉ [q0+1+1]:=fun m hm h=>by have:=Jj.1 h;omega
        have g4:H7.at' nx=some (pgO p):=(hH7 nx (hno _ (by omega))).trans (by repeat(first|exact ac|refine ab (by omega) ?_))
        have g5:H7.at' (nx+1)=some (fp 0):=(hH7 _ (hno _ (by omega))).trans (by repeat(exact ac))
        refine⟨_,(by((apply JJ rfl (JL (F.ag _ rfl) (by assumption) (bm hp)));apply JJ rfl (JM (F.ag _ rfl) (by assumption) (aD rfl));exact JI)),?_⟩
        exact hfin 0 _ _ _ (hv.trans (Jd (by decide))) (by dsimp only;omega) fun m hm=>(hH7 m (hno _ (by omega))).trans (by(repeat(refine ab (by omega) ?_));exact i10 m hm)
       ·dsimp only at i1 i4 i5 i6 i8 i10 ⊢
        refine im i1 (fun h=>by cases h) ?_
        dsimp only [jY]
        refine rh Tryz.func43 (congrArg Array.toList Tryz.results43) (rs:= [q0+1+1]) rfl (fun r hr=>by rw [Jj.1 hr];(focus((repeat(first|assumption|refine ab (by omega) ?_));done))) (by simp) ?_
        intro H7 hH7
        have hno: ∀ m,m≤nx+1→m∉ [q0+1+1]:=fun m hm h=>by have:=Jj.1 h;omega
        have g4:H7.at' nx=some (pgO zeroP):=(hH7 nx (hno _ (by omega))).trans (by repeat(first|assumption|refine ab (by omega) ?_))
        have g5:H7.at' (nx+1)=some (fp 13):=(hH7 _ (hno _ (by omega))).trans (by repeat(first|assumption|refine ab (by omega) ?_))
        refine⟨_,(by((apply JJ rfl (JL (F.ag _ rfl) (by assumption) (bm ai)));apply JJ rfl (JM (F.ag _ rfl) (by assumption) (aD rfl));exact JI)),?_⟩
        exact hfin 13 _ _ _ (hv.trans (Je i9)) (by dsimp only;omega) fun m hm=>(hH7 m (hno _ (by omega))).trans (by(repeat(refine ab (by omega) ?_));exact i10 m hm)
theorem rN(hb:H.at' b=some (cX mem left puts))(hm:mem.length=131072)(hn:n<128):Fnc Tryz.prog 43 [tv b,.sc (.int .i64 (n:Int))] H nx (fun q=>q=(pgE (aX (az mem n)),H,nx)):=Fnc.bu (gL _) (Gv hb hm hn)
end
end Go.Proofs.YtnhmbonmlfeifaaGreat
end
