import Derived.Laws.StructEq
import Derived.ChangeKeysEq
import Derived.Test.YtnhmbonmlfeifaaGreatY3
set_option linter.unusedVariables false
set_option linter.unusedSimpArgs false
set_option maxRecDepth 100000
set_option maxHeartbeats 0
section
namespace Go.Proofs.YtnhmbonmlfeifaaGreat
open Go Go.Sy Go.Sl Go.RowKit
section
variable {H:au}{b n nx o:Nat}{l p:List UInt8}
abbrev pgS(p:List UInt8):List SV:=(byV p).map .sc
abbrev pgO(p:List UInt8):VO:=aq 27 (pgS p)
theorem bh(h:p.length=n):(pgS p).length=n:=by simpa using h
def bg(p:List UInt8)(o:Nat)(l:List UInt8):List UInt8:=p.take o ++ l ++ p.drop (o+l.length)
theorem bS(h:o+l.length≤p.length):(bg p o l).length=p.length:=by
 unfold bg
 simp only [J3,Ke,Kh]
 omega
def gu(p:List UInt8)(at':Nat):Nat:=beN ((p.drop at').take 2)
def cw(p:List UInt8)(at' n:Nat):List UInt8:=bg p at' (beB n 2)
theorem bI(h:o+2≤p.length):(cw p o n).length=p.length:=bS (by rw [bz];exact h)
theorem cV(p:List UInt8)(o:Nat):gu p o<65536:=by
 have h1:=mD ((p.drop o).take 2)
 have h2:((p.drop o).take 2).length≤2:=by rw [Ke];omega
 have h3:256 ^ ((p.drop o).take 2).length≤256 ^ 2:=Nat.pow_le_pow_right (by decide) h2
 unfold gu
 omega
theorem nX{i:Nat}(hi:i<p.length):(pgO p).cell i=some (.sc (.int .u8 ((p[i]).toNat:Int))):=aD (by simp [hi])
theorem mR(hn:(byV l).length=n):(pgS p).take o ++ (byV l).map .sc ++ (pgS p).drop (o+n)=pgS (bg p o l):=by
 subst hn
 unfold bg
 simp [List.map_take,List.map_drop]
theorem nj{m C:Nat}(hb:H.at' b=some (pgO p))(h:o+m≤p.length):BsIs H (.sl b o m C) (byV ((p.drop o).take m)):=by
 have hl:(byV ((p.drop o).take m)).length=m:=by simp;omega
 refine⟨fun v hv=>?_,.inr (.inr ⟨b,o,C,_,by rw [hl],hb,?_⟩)⟩
 ·obtain⟨c,_,rfl⟩:=Kx.1 hv
  rfl
 ·rw [hl]
  exact ak _ o (by simp [List.map_take,List.map_drop]) (by simpa using hl)
theorem jz{r:Nat}{ro:Bool}(hb:H.at' r=some (dat ro n 1 5 (byV l)))(hn:l.length=n):BsIs H (.slu r 0 n) (byV l):=
 BsIs.row (fun v hv=>by obtain⟨c,_,rfl⟩:=Kx.1 hv;rfl) hb (by simpa using hn)
theorem nZ(hb:H.at' b=some (pgO p))(hp:p.length=1024)(ho:o+2≤1024):Fnc Tryz.prog 100 [.ptr b 0,.sc (.int .i64 (o:Int))] H nx (fun q=>q=(.sc (.int .i64 (gu p o:Int)),H,nx)):=by
 have hl:((p.drop o).take 2).length=2:=by simp;omega
 have hlt:=cV p o
 have hg: ∀ {nx C:Nat},Fnc Tryz.prog 102 [.sl b o 2 C] H nx (fun q=>q=(.tup [.sc (.int .u64 (gu p o:Int)),.sc (.int .i64 0)],H,nx)):=Jg (nj hb (by omega)) (by omega) (by omega)
 refine KE Tryz.func100 rfl rfl ?_
 repeat first|apply ah;rfl|apply aL;rfl;omega;omega|apply li (lw:=o) (hg:=o+2);rfl;rfl;rfl;exact(F.un _ rfl);exact(F.sz _ rfl);rfl;rfl;(focus(omega));(focus(omega));(focus(omega));exact(show o+2-o=2 by omega);rfl;exact(Kc o)|apply bW;rfl;kernel_rfl;exact hg|refine cf (bZ (F.un _ rfl) (F.un _ rfl) rfl (show _=((gu p o:Nat):Int)from JH _ ⟨by omega,by omega⟩)) rfl rfl rfl ?_
 (apply bR Tryz.func100 Tryz.results100;rfl)
 rfl
abbrev ae(p:List UInt8):Nat:=gu p 14
abbrev aF(p:List UInt8):Nat:=gu p 16
theorem jc(hb:H.at' b=some (pgO p))(hp:p.length=1024):Fnc Tryz.prog 64 [.ptr b 0] H nx (fun q=>q=(.sc (.int .i64 (ae p:Int)),H,nx)):=by
 refine KE Tryz.func64 rfl rfl ?_
 repeat first|apply ah;rfl|apply bW;rfl;kernel_rfl;exact nZ (o:=14) hb hp (by decide)
 (apply bR Tryz.func64 Tryz.results64;rfl)
 rfl
theorem rN(hb:H.at' b=some (pgO p))(hp:p.length=1024):Fnc Tryz.prog 70 [.ptr b 0] H nx (fun q=>q=(.sc (.int .i64 (aF p:Int)),H,nx)):=by
 refine KE Tryz.func70 rfl rfl ?_
 repeat first|apply ah;rfl|apply bW;rfl;kernel_rfl;exact nZ (o:=16) hb hp (by decide)
 (apply bR Tryz.func70 Tryz.results70;rfl)
 rfl
abbrev EW(f:Nat):SV:= .fn (.func 101) [] [.ptr f 0]
abbrev Cj(b:Nat):VO:=aq 128 [.ptr b 0]
theorem mr:Fnc Tryz.prog 80 [.ptr b 0] H nx (fun q=>q=(EW nx,H.set nx (Cj b),nx+1)):=by
 refine KE Tryz.func80 rfl rfl ?_
 repeat apply ah;rfl
 (apply bR Tryz.func80 Tryz.results80;rfl)
 rfl
abbrev ay(p:List UInt8)(n:Nat):Nat:=gu p (18+4*n)
abbrev ar(p:List UInt8)(n:Nat):Nat:=gu p (18+4*n+2)
theorem ot{f:Nat}(hf:H.at' f=some (Cj b))(hb:H.at' b=some (pgO p))(hp:p.length=1024)(hn:18+4*n+4≤1024):Fnc Tryz.prog 101 [.sc (.int .i64 (n:Int)),.ptr f 0] H nx
 (fun q=>q=(.tup [.sc (.int .i64 (ay p n:Int)),.sc (.int .i64 (ar p n:Int))],H,nx)):=by
 have h1: ∀ nx,Fnc Tryz.prog 100 [.ptr b 0,.sc (.int .i64 (18+4*(n:Int)))] H nx (fun q=>q=(.sc (.int .i64 (ay p n:Int)),H,nx)):=fun nx=>by
  have:=nZ (nx:=nx) (o:=18+4*n) hb hp (by omega)
  rw [show((18+4*n:Nat):Int)=18+4*(n:Int) by omega] at this
  exact this
 have h2: ∀ nx,Fnc Tryz.prog 100 [.ptr b 0,.sc (.int .i64 (18+4*(n:Int)+2))] H nx (fun q=>q=(.sc (.int .i64 (ar p n:Int)),H,nx)):=fun nx=>by
  have:=nZ (nx:=nx) (o:=18+4*n+2) hb hp (by omega)
  rw [show((18+4*n+2:Nat):Int)=18+4*(n:Int)+2 by omega] at this
  exact this
 refine KE Tryz.func101 rfl rfl ?_
 repeat first|apply ah;rfl|apply aL;rfl;omega;omega
 (apply cu;(focus(kernel_rfl));(focus(kernel_rfl)))
 repeat first|apply aW;rfl|refine bp (aw rfl rfl (.inl ⟨rfl,(JH _ ⟨(by focus(omega)),(by focus(omega))⟩).symm⟩)) rfl rfl rfl ?_|refine bp (an (F.ag _ rfl) rfl hf (aD rfl)) rfl rfl rfl ?_|apply b9;rfl;rfl;rfl;(focus(kernel_rfl));exact(h1 _)|apply b9;rfl;rfl;rfl;(focus(kernel_rfl));exact(h2 _)
 refine aA ⟨by kernel_rfl,?_,?_⟩;(focus(repeat(first|exact KO|apply fA;rfl|apply eQ;rfl|refine⟨.inr (by(repeat(refine⟨(by first|exact aw rfl rfl (.inl ⟨rfl,(JH _ ⟨by omega,by omega⟩).symm⟩)|exact an (F.ag _ rfl) rfl (by assumption) (aD rfl)),?_⟩));exact KO),?_⟩)))
 (apply bR Tryz.func101 Tryz.results101;rfl)
 rfl
theorem pI(hb:H.at' b=some (pgO p))(hp:p.length=1024)(ho:o+2≤1024)(hn:n<65536):Fnc Tryz.prog 66 [.ptr b 0,.sc (.int .i64 (o:Int)),.sc (.int .i64 (n:Int))] H nx
 (fun q=>q.1 = .tup []∧q.2.1.at' b=some (pgO (cw p o n))∧nx≤q.2.2∧ ∀ m,m<nx→m≠b→q.2.1.at' m=H.at' m):=by
 refine KE Tryz.func66 rfl rfl ?_
 refine aV fun hund=>?_
 have hlt:=hund _ _ hb
 repeat first|apply ah;rfl|refine cf (bZ (F.un _ rfl) (F.un _ rfl) rfl (show _=((n:Nat):Int)from Kz _ ⟨by omega,by omega⟩)) rfl rfl rfl ?_
 refine aE rfl rfl rfl (by kernel_rfl) (KD (BP (n:=n) (size:=2) (by omega) (by decide) (by decide) (by omega)) ?_)
 rintro⟨_,H2,n2⟩ ⟨rfl,h2,rfl,h4⟩
 dsimp only at h2 h4 ⊢
 have hb2:=(h4 b hlt).trans hb
 repeat first|apply ah;rfl|apply aL;rfl;omega;omega|apply li (lw:=o) (hg:=o+2);rfl;rfl;rfl;exact(F.un _ rfl);exact(F.sz _ rfl);rfl;rfl;(focus(omega));(focus(omega));(focus(omega));exact(show o+2-o=2 by omega);rfl;exact(Kc o)|refine cf (dy rfl rfl (.inl ⟨rfl,rfl⟩)) rfl rfl rfl ?_
 refine ov rfl rfl rfl rfl (F.un _ rfl) (F.sz _ rfl) hb2 (jz h2 (by rw [bz])) (by simp [bz]) (by simp [bz];omega) ?_
 repeat apply ah;rfl
 (apply C6 Tryz.func66 Tryz.results66;rfl)
 refine⟨rfl,?_,J8 _,fun m hm hmb=>(aa _ _ hmb).trans (h4 m hm)⟩
 rw [ai,mR (by simp [bz])]
 rfl
def bP(p:List UInt8)(n a s:Nat):List UInt8:=cw (cw p (18+4*n) a) (18+4*n+2) s
theorem fH{a s:Nat}(h:18+4*n+4≤p.length):(bP p n a s).length=p.length:=by
 unfold bP
 rw [bI,bI (by omega)]
 rw [bI (by omega)]
 omega
theorem qO(hb:H.at' b=some (pgO p))(hp:p.length=1024){a s:Nat}(hn:18+4*n+4≤1024)(ha:a<65536)(hs:s<65536):Fnc Tryz.prog 65 [.ptr b 0,.sc (.int .i64 (n:Int)),.sc (.int .i64 (a:Int)),.sc (.int .i64 (s:Int))] H nx
 (fun q=>q.1 = .tup []∧q.2.1.at' b=some (pgO (bP p n a s))∧nx≤q.2.2∧ ∀ m,m<nx→m≠b→q.2.1.at' m=H.at' m):=by
 have h1: ∀ {H:au} {nx:Nat},H.at' b=some (pgO p)→Fnc Tryz.prog 66 [.ptr b 0,.sc (.int .i64 (18+4*(n:Int))),.sc (.int .i64 (a:Int))] H nx _:=fun {H nx} hb=>by
  have:=pI (nx:=nx) (o:=18+4*n) hb hp (by omega) ha
  rw [show((18+4*n:Nat):Int)=18+4*(n:Int) by omega] at this
  exact this
 have h2: ∀ {H:au} {nx:Nat},H.at' b=some (pgO (cw p (18+4*n) a))→Fnc Tryz.prog 66 [.ptr b 0,.sc (.int .i64 (18+4*(n:Int)+2)),.sc (.int .i64 (s:Int))] H nx _:=fun {H nx} hb=>by
  have:=pI (nx:=nx) (o:=18+4*n+2) hb (by rw [bI (by omega)];exact hp) (by omega) hs
  rw [show((18+4*n+2:Nat):Int)=18+4*(n:Int)+2 by omega] at this
  exact this
 refine KE Tryz.func65 rfl rfl ?_
 refine aV fun hund=>?_
 have hlt:=hund _ _ hb
 repeat first|apply ah;rfl|apply aL;rfl;omega;omega
 refine aE rfl rfl rfl (by kernel_rfl) (KD (h1 hb) ?_)
 rintro⟨_,H2,n2⟩ ⟨rfl,g2,g3,g4⟩
 dsimp only at g2 g3 g4 ⊢
 repeat first|apply ah;rfl|apply aL;rfl;omega;omega
 refine aE rfl rfl rfl (by kernel_rfl) (KD (h2 g2) ?_)
 rintro⟨_,H3,n3⟩ ⟨rfl,k2,k3,k4⟩
 dsimp only at k2 k3 k4 ⊢
 repeat apply ah;rfl
 (apply C6 Tryz.func65 Tryz.results65;rfl)
 exact⟨rfl,k2,J7 g3 k3,fun m hm hmb=>(k4 m (by omega) hmb).trans (g4 m hm hmb)⟩
theorem tf:Fnc Tryz.prog 68 [.sc (.int .i64 (n:Int))] H nx (fun q=>q=(.sc (.bool (decide (1≤n∧n≤1000))),H,nx)):=by
 refine KE Tryz.func68 rfl rfl ?_
 (repeat' (first|apply ah;rfl|(refine eK rfl rfl rfl rfl ?_ ?_ <;> intro hq)|(refine pU rfl rfl rfl rfl ?_ ?_ <;> intro hq2)))
 all_goals(apply bR Tryz.func68 Tryz.results68;rfl)
 all_goals first|(rw [Kt (by omega)];rfl)|(rw [Ku (by omega)];rfl)
def zeroP:List UInt8:=List.replicate 1024 0
theorem aj:zeroP.length=1024:=Kn
def fJ(k:UInt8):List UInt8:=cw (zeroP.set 12 k) 16 1024
theorem fX(k:UInt8):(fJ k).length=1024:=by
 unfold fJ
 rw [bI (by rw [List.length_set,aj];decide),List.length_set,aj]
theorem cq:rV Tryz.prog 27=some (pgS zeroP):=by kernel_rfl
theorem lu(a b:List UInt8)(ha:a.length=1024)(hb:b.length=1024):List.take 0 (pgS a) ++ (SV.agg (pgS b)).cells ++ List.drop (0+1024) (pgS a)=pgS b:=by
 rw [List.take_zero,List.nil_append,Kc,List.drop_of_length_le (by simp [ha]),Ko]
 rfl
theorem hZ(p:List UInt8):bm (pgS p)=true:=by
 induction p with
 | nil=>rfl
 | cons c p ih=>exact ih
theorem bv(hp:p.length=1024):(pgO p).cellsFrom 0 1024=some (pgS p):=
 ak _ 0 (by rw [List.drop_zero,JR (by simp [hp])]) (by simp [hp])
theorem nv(p:List UInt8)(i:Nat)(c:UInt8):(pgS p).set i (.sc (.int .u8 (c.toNat:Int)))=pgS (p.set i c):=by simp [List.map_set]
end
section
variable {ro:Option Nat} {fn nt nx d b:Nat} {T:Tr SV} {k k':List AIt} {dfs:List ADf} {H:au} {Q:Pst} {p q:List UInt8}
theorem bB(hp:p.length=1024)(h:ldW yg nt T k=some (b,1024,d,k'))(hb:H.at' b=some (pgO p))(hw:Wp Tryz.prog ro ⟨fn,nt,T.set d (.agg (pgS p)),k',dfs,H,nx⟩ Q):Wp Tryz.prog ro ⟨fn,nt,T,k,dfs,H,nx⟩ Q:=w_ldW jI h hb (bh hp) hw
theorem bJ(hp:p.length=1024)(hq:q.length=1024)(h:stW yg nt T k=some (b,1024,pgS p,k'))(hb:H.at' b=some (pgO q))(hw:Wp Tryz.prog ro ⟨fn,nt,T,k',dfs,H.set b (pgO p),nx⟩ Q):Wp Tryz.prog ro ⟨fn,nt,T,k,dfs,H,nx⟩ Q:=w_stW jI h hb (bh hp) (bh hq) (hZ p) hw
end
section
variable {H:au}{a b i n nx o:Nat}{ls:List SV}{l p:List UInt8}{seen:List (Nat×Nat)}{bs:List (List Value)}
theorem Eu(hi:i<p.length)(c:UInt8):List.take i (pgS p) ++ (SV.sc (.int .u8 (c.toNat:Int))).cells ++ List.drop (i+1) (pgS p)=pgS (p.set i c):=by
 rw [← nv,List.set_eq_take_append_cons_drop,Kb (by simpa using hi)]
 simp [SV.cells]
theorem Je(k:UInt8):Fnc Tryz.prog 86 [.sc (.int .u8 (k.toNat:Int))] H nx (fun q=>q.1 = .agg (pgS (fJ k))∧nx≤q.2.2∧ ∀ m,m<nx→q.2.1.at' m=H.at' m):=by
 refine KE Tryz.func86 rfl rfl ?_
 have hl0:(pgS zeroP).length=1024:=by rw [Kf,Kf];exact aj
 repeat first|apply ah;rfl|apply aG;rfl;(focus((repeat(exact ac));done));rfl|refine be rfl rfl cq ?_|apply gB (q:=12);rfl;rfl;rfl;rfl;exact(F.un _ rfl);exact(F.sz _ rfl);(focus(omega));(focus(omega))
 rw [Eu (p:=zeroP) (i:=0+12*1) (by rw [aj];decide) k,show 0+12*1=12 from rfl]
 refine aE rfl rfl rfl (by kernel_rfl) (KD (pI (b:=nx+1) (p:=zeroP.set 12 k) (o:=16) (n:=1024) (by repeat(exact ac)) (by rw [List.length_set];exact aj) (by decide) (by decide)) ?_)
 rintro⟨_,H2,n2⟩ ⟨rfl,g2,g3,g4⟩
 dsimp only at g2 g3 g4 ⊢
 have hres:H2.at' nx=some (pgO zeroP):=(g4 nx (by omega) (by omega)).trans (by repeat(first|exact ac|refine ab (by omega) ?_))
 have hl:(fJ k).length=1024:=fX k
 repeat first|apply ah;rfl|apply aG;rfl;assumption;rfl
 rw [show cw (zeroP.set 12 k) 16 1024=fJ k from rfl,lu zeroP (fJ k) aj hl]
 ((apply bw Tryz.func86 (congrArg Array.toList Tryz.results86));(focus((apply KG rfl (KI (F.ag _ rfl) (by repeat(exact ac)) (bv hl)));(repeat(exact KF)))))
 exact⟨rfl,by dsimp only;omega,fun m hm=>(aa _ _ (by omega)).trans ((g4 m (by omega) (by omega)).trans (by(repeat(refine ab (by omega) ?_));rfl))⟩
theorem Jd(k:UInt8):Fnc Tryz.prog 86 [.sc (.int .u8 (k.toNat:Int))] H nx (fun q=>q=(.agg (pgS (fJ k)),H,nx)):=Fnc.bA (Free.agg _) (Je k)
def cS(seen:List (Nat×Nat))(i:Nat):Bool:=seen.any fun x=>decide (x.1≤i∧i<x.1+x.2)
def uP(seen:List (Nat×Nat))(a s:Nat):Bool:=(List.range s).any fun j=>cS seen (a+j)
def fi(p:List UInt8):Nat→Nat→List (Nat×Nat)→Bool→Bool
 | 0,_,_,fine=>fine
 | k+1,n,seen,_=>
   if ay p n=0∧ar p n=0 then fi p k (n+1) seen (decide (n+1<ae p))
   else if ar p n<1∨1000<ar p n∨ay p n<aF p∨1024<ay p n+ar p n then false
   else if uP seen (ay p n) (ar p n) then false else fi p k (n+1) ((ay p n,ar p n) :: seen) true
def bj(p:List UInt8):Bool:=decide (18+4*ae p≤aF p∧aF p≤1024) && fi p (ae p) 0 [] true
abbrev Gi(f:Nat→Bool):List SV:=(List.range 1024).map fun i=> .sc (.bool (f i))
abbrev Gj(f:Nat→Bool):VO:=aq 163 (Gi f)
theorem zTak:rV Tryz.prog 163=some (Gi fun _=>false):=by kernel_rfl
theorem vG(f:Nat→Bool)(hi:i<1024):(Gj f).cell i=some (.sc (.bool (f i))):=aD (by simp [hi])
theorem wZ(seen:List (Nat×Nat))(a:Nat):cS ((a,0) :: seen)=cS seen:=by
 funext i
 simp only [cS,List.any_cons,Nat.add_zero]
 rw [Ku (by omega),Bool.false_or]
theorem Dz(seen:List (Nat×Nat))(h:a≤i):cS ((a,i-a) :: seen) i=cS seen i:=by
 simp only [cS,List.any_cons]
 rw [Ku (by omega),Bool.false_or]
theorem yR(h:a≤i):(Gi (cS ((a,i-a) :: seen))).set i (.sc (.bool true))=Gi (cS ((a,i+1-a) :: seen)):=by
 refine Kv fun j=>?_
 rw [List.getElem?_set,Kr,Kr,Kf,List.length_range]
 rcases Kd j 1024 with hj|hj
 ·rw [List.getElem?_range hj]
  by_cases he:i=j
  ·subst he
   rw [Kb rfl,Kb hj]
   simp only [J5,cS,List.any_cons]
   rw [Kt (by omega),Bool.true_or]
  ·rw [Ka he]
   simp only [J5,cS,List.any_cons]
   rw [show decide (a≤j∧j<a+(i-a))=decide (a≤j∧j<a+(i+1-a))from decide_eq_decide.2 (by omega)]
 ·rw [Ky (by simpa using hj)]
  by_cases he:i=j
  ·subst he
   rw [Kb rfl,Ka (by omega)]
   rfl
  ·rw [Ka he]
   rfl
theorem md{s:Nat}(h1:a≤i)(h2:i<a+s)(h:cS seen i=true):uP seen a s=true:=by
 unfold uP
 rw [List.any_eq_true]
 exact⟨i-a,Kw.2 (by omega),by rw [show a+(i-a)=i by omega];exact h⟩
theorem wm{s:Nat}(h: ∀ j,a≤j→j<a+s→cS seen j=false):uP seen a s=false:=by
 unfold uP
 rw [List.any_eq_false]
 intro j hj
 rw [h (a+j) (by omega) (by have:=Kw.1 hj;omega)]
 decide
theorem Ec(hb:H.at' b=some (pgO p))(hp:p.length=1024):Fnc Tryz.prog 63 [.ptr b 0] H nx (fun q=>q.1 = .sc (.bool (bj p))∧nx≤q.2.2∧ ∀ m,m<nx→q.2.1.at' m=H.at' m):=by
 have hs:ae p<65536:=cV p 14
 have hg:aF p<65536:=cV p 16
 refine KE Tryz.func63 rfl rfl ?_
 refine aV fun hund=>?_
 have hlt:=hund _ _ hb
 repeat first|apply ah;rfl|apply aL;rfl;omega;omega|apply bW;rfl;kernel_rfl;exact jc hb hp|apply bW;rfl;kernel_rfl;exact rN hb hp
 refine bu rfl rfl rfl rfl (fun h1=>?_) (fun h1=>?_)
 ·repeat apply ah;rfl
  (apply bR Tryz.func63 Tryz.results63;rfl)
  refine⟨?_,JZ _,fun m _=>rfl⟩
  unfold bj
  rw [Ku (by omega)]
  rfl
 repeat apply ah;rfl
 refine dI rfl rfl rfl rfl (fun h2=>?_) (fun h2=>?_)
 ·repeat apply ah;rfl
  (apply bR Tryz.func63 Tryz.results63;rfl)
  refine⟨?_,JZ _,fun m _=>rfl⟩
  unfold bj
  rw [Ku (by omega)]
  rfl
 have hrp:bj p=fi p (ae p) 0 [] true:=by
  unfold bj
  rw [Kt (by omega),Bool.true_and]
 rw [hrp]
 repeat first|apply ah;rfl|apply bW;rfl;kernel_rfl;exact mr|refine be rfl rfl zTak ?_
 refine bE (α:=Nat×List (Nat×Nat)×Bool) (fun x=> [(0,.ptr b 0),(3,.sc (.int .i64 (ae p:Int))),(4,.sc (.int .i64 (aF p:Int))),(5,EW nx),(6,.ptr (nx+1) 0),(7,.sc (.bool x.2.2)),(27,.sc (.int .i64 (ae p:Int))),(28,.sc (.int .i64 (x.1:Int)))])
  (fun x H1 n1=>n1=nx+1+1∧x.1≤ae p∧fi p (ae p-x.1) x.1 x.2.1 x.2.2=fi p (ae p) 0 [] true∧H1.at' nx=some (Cj b)∧H1.at' (nx+1)=some (Gj (cS x.2.1))∧ ∀ m,m<nx→H1.at' m=H.at' m) (fun x=>ae p-x.1) (0,[],true)
  ⟨rfl,J0 _,rfl,by repeat(first|exact ac|refine ab (by omega) ?_),ai _ _ _,fun m hm=>(aa _ _ (by omega)).trans (aa _ _ (by omega))⟩ (KK (KN rfl)) ?_
 rintro⟨n,seen,fine⟩ H1 n1 ⟨rfl,h3,h4,h5,h6,h7⟩ ih
 dsimp only at h3 h4 h5 h6 h7 ih ⊢
 have hb1:=(h7 b hlt).trans hb
 have ha0:ay p n<65536:=cV p _
 have hz0:ar p n<65536:=cV p _
 repeat apply ah;rfl
 refine bu rfl rfl rfl rfl (fun h8=>?_) (fun h8=>?_)
 ·have hn:n<ae p:=by omega
  have hgo:fi p (ae p-n) n seen fine=if ay p n=0∧ar p n=0 then fi p (ae p-(n+1)) (n+1) seen (decide (n+1<ae p))
   else if ar p n<1∨1000<ar p n∨ay p n<aF p∨1024<ay p n+ar p n then false
   else if uP seen (ay p n) (ar p n) then false else fi p (ae p-(n+1)) (n+1) ((ay p n,ar p n) :: seen) true:=by
   rw [show ae p-n=(ae p-(n+1))+1 by omega]
   rfl
  repeat apply ah;rfl
  refine jH rfl rfl rfl rfl (by kernel_rfl) (KD (ot h5 hb1 hp (n:=n) (by omega)) ?_)
  rintro _ rfl
  dsimp only
  repeat apply ah;rfl
  by_cases hE:ay p n=0∧ar p n=0
  ·refine cF rfl rfl rfl rfl (fun _=>?_) (fun hq=>absurd (by omega) hq)
   repeat apply ah;rfl
   refine cF rfl rfl rfl rfl (fun _=>?_) (fun hq=>absurd (by omega) hq)
   repeat first|apply ah;rfl|apply aL;rfl;omega;omega|refine cf (dy rfl rfl (.inr (.inr (.inl ⟨rfl,rfl⟩)))) rfl rfl rfl ?_
   refine ih _ _ _ (n+1,seen,decide (n+1<ae p)) ⟨rfl,hn,?_,h5,h6,h7⟩ (by omega) ?_
   ·rw [← h4,hgo,Kb hE]
   ·rw [show decide ((n:Int)<(ae p:Int)-1)=decide (n+1<ae p)from decide_eq_decide.2 (by omega)]
    exact KK (by repeat(first|exact KO|refine⟨rfl,?_⟩))
  ·have hgo2:=hgo
   rw [Ka hE] at hgo2
   refine cF rfl rfl rfl rfl (fun e1=>?_) (fun e1=>?_)
   ·repeat apply ah;rfl
    refine cF rfl rfl rfl rfl (fun hq=>absurd hq (by omega)) (fun _=>?_)
    repeat apply ah;rfl
    refine bu rfl rfl rfl rfl (fun c1=>?_) (fun c1=>?_)
    ·(repeat(apply ah;rfl));(apply bR Tryz.func63 Tryz.results63;rfl);exact⟨by rw [← h4,hgo2,Kb (by omega)];rfl,by dsimp only;omega,h7⟩
    repeat apply ah;rfl
    refine dI rfl rfl rfl rfl (fun c2=>?_) (fun c2=>?_)
    ·(repeat(apply ah;rfl));(apply bR Tryz.func63 Tryz.results63;rfl);exact⟨by rw [← h4,hgo2,Kb (by omega)];rfl,by dsimp only;omega,h7⟩
    repeat apply ah;rfl
    refine bu rfl rfl rfl rfl (fun c3=>?_) (fun c3=>?_)
    ·(repeat(apply ah;rfl));(apply bR Tryz.func63 Tryz.results63;rfl);exact⟨by rw [← h4,hgo2,Kb (by omega)];rfl,by dsimp only;omega,h7⟩
    repeat first|apply ah;rfl|apply aL;rfl;omega;omega
    refine dI rfl rfl rfl rfl (fun c4=>?_) (fun c4=>?_)
    ·(repeat(apply ah;rfl));(apply bR Tryz.func63 Tryz.results63;rfl);exact⟨by rw [← h4,hgo2,Kb (by omega)];rfl,by dsimp only;omega,h7⟩
    rw [Ka (by omega)] at hgo2
    repeat apply ah;rfl
    refine bE (α:=Nat) (fun i=> [(0,.ptr b 0),(3,.sc (.int .i64 (ae p:Int))),(4,.sc (.int .i64 (aF p:Int))),(5,EW nx),(6,.ptr (nx+1) 0),(8,.sc (.int .i64 (n:Int))),(9,.sc (.int .i64 (ay p n:Int))),(10,.sc (.int .i64 (ar p n:Int))),(11,.sc (.int .i64 (i:Int))),(27,.sc (.int .i64 (ae p:Int))),(28,.sc (.int .i64 (n:Int)))])
     (fun i H2 n2=>n2=nx+1+1∧ay p n≤i∧i≤ay p n+ar p n∧(∀ j,ay p n≤j→j<i→cS seen j=false)∧H2.at' nx=some (Cj b)∧H2.at' (nx+1)=some (Gj (cS ((ay p n,i-ay p n) :: seen)))∧ ∀ m,m<nx→H2.at' m=H.at' m) (fun i=>ay p n+ar p n-i) (ay p n)
     ⟨rfl,JZ _,by omega,fun j g1 g2=>absurd g1 (by omega),h5,by rw [Nat.sub_self];exact h6.trans (congrArg (fun f=>some (Gj f)) (wZ _ _).symm),h7⟩ (KK (KN rfl)) ?_
    rintro i H2 n2 ⟨rfl,g1,g2,g3,g4,g5,g6⟩ ih2
    repeat first|apply ah;rfl|apply aL;rfl;omega;omega
    refine bu rfl rfl rfl rfl (fun c5=>?_) (fun c5=>?_)
    ·have hi:i<1024:=by omega
     have hc:=vG (cS ((ay p n,i-ay p n) :: seen)) hi
     rw [Dz seen g1] at hc
     cases hci:cS seen i with
     | true=>
       rw [hci] at hc
       repeat first|apply ah;rfl|apply gB (q:=i);rfl;rfl;rfl;rfl;exact(F.un _ rfl);exact(F.sz _ rfl);(focus(omega));(focus(omega))|refine cf (an (F.ag _ rfl) rfl g5 (by rw [Kc,Nat.mul_one];exact hc)) rfl rfl rfl ?_
       (apply bR Tryz.func63 Tryz.results63;rfl)
       exact⟨by rw [← h4,hgo2,Kb (md (by omega) (by omega) hci)];rfl,by dsimp only;omega,g6⟩
     | false=>
       rw [hci] at hc
       repeat first|apply ah;rfl|apply gB (q:=i);rfl;rfl;rfl;rfl;exact(F.un _ rfl);exact(F.sz _ rfl);(focus(omega));(focus(omega))|refine cf (an (F.ag _ rfl) rfl g5 (by rw [Kc,Nat.mul_one];exact hc)) rfl rfl rfl ?_
       refine dU (v:= .sc (.bool true)) (cs:=Gi (cS ((ay p n,i-ay p n) :: seen))) rfl rfl rfl (F.sz _ rfl) g5 rfl (by rw [Kc,Nat.mul_one];exact JN (by rw [Kf,List.length_range];exact hi)) ?_
       rw [Kc,Nat.mul_one,yR g1]
       repeat first|apply ah;rfl|apply aL;rfl;omega;omega
       refine ih2 _ _ _ (i+1) ⟨rfl,by omega,by omega,fun j k1 k2=>?_,(aa _ _ (by omega)).trans g4,ai _ _ _,fun m hm=>(aa _ _ (by omega)).trans (g6 m hm)⟩ (by omega) (KK (KN rfl))
       rcases Kd j i with k3|k3
       ·exact g3 j k1 k3
       ·obtain rfl:j=i:=by omega
        exact hci
    ·obtain rfl:i=ay p n+ar p n:=by omega
     rw [Nat.add_sub_cancel_left] at g5
     rw [Ka (by rw [wm g3];decide)] at hgo2
     repeat first|apply ah;rfl|apply aL;rfl;omega;omega
     exact ih _ _ _ (n+1,(ay p n,ar p n) :: seen,true) ⟨rfl,hn,by rw [← h4,hgo2],g4,g5,g6⟩ (by omega) (KK (KN rfl))
   ·repeat apply ah;rfl
    refine bu rfl rfl rfl rfl (fun c1=>?_) (fun c1=>?_)
    ·(repeat(apply ah;rfl));(apply bR Tryz.func63 Tryz.results63;rfl);exact⟨by rw [← h4,hgo2,Kb (by omega)];rfl,by dsimp only;omega,h7⟩
    repeat apply ah;rfl
    refine dI rfl rfl rfl rfl (fun c2=>?_) (fun c2=>?_)
    ·(repeat(apply ah;rfl));(apply bR Tryz.func63 Tryz.results63;rfl);exact⟨by rw [← h4,hgo2,Kb (by omega)];rfl,by dsimp only;omega,h7⟩
    repeat apply ah;rfl
    refine bu rfl rfl rfl rfl (fun c3=>?_) (fun c3=>?_)
    ·(repeat(apply ah;rfl));(apply bR Tryz.func63 Tryz.results63;rfl);exact⟨by rw [← h4,hgo2,Kb (by omega)];rfl,by dsimp only;omega,h7⟩
    repeat first|apply ah;rfl|apply aL;rfl;omega;omega
    refine dI rfl rfl rfl rfl (fun c4=>?_) (fun c4=>?_)
    ·(repeat(apply ah;rfl));(apply bR Tryz.func63 Tryz.results63;rfl);exact⟨by rw [← h4,hgo2,Kb (by omega)];rfl,by dsimp only;omega,h7⟩
    rw [Ka (by omega)] at hgo2
    repeat apply ah;rfl
    refine bE (α:=Nat) (fun i=> [(0,.ptr b 0),(3,.sc (.int .i64 (ae p:Int))),(4,.sc (.int .i64 (aF p:Int))),(5,EW nx),(6,.ptr (nx+1) 0),(8,.sc (.int .i64 (n:Int))),(9,.sc (.int .i64 (ay p n:Int))),(10,.sc (.int .i64 (ar p n:Int))),(11,.sc (.int .i64 (i:Int))),(27,.sc (.int .i64 (ae p:Int))),(28,.sc (.int .i64 (n:Int)))])
     (fun i H2 n2=>n2=nx+1+1∧ay p n≤i∧i≤ay p n+ar p n∧(∀ j,ay p n≤j→j<i→cS seen j=false)∧H2.at' nx=some (Cj b)∧H2.at' (nx+1)=some (Gj (cS ((ay p n,i-ay p n) :: seen)))∧ ∀ m,m<nx→H2.at' m=H.at' m) (fun i=>ay p n+ar p n-i) (ay p n)
     ⟨rfl,JZ _,by omega,fun j g1 g2=>absurd g1 (by omega),h5,by rw [Nat.sub_self];exact h6.trans (congrArg (fun f=>some (Gj f)) (wZ _ _).symm),h7⟩ (KK (KN rfl)) ?_
    rintro i H2 n2 ⟨rfl,g1,g2,g3,g4,g5,g6⟩ ih2
    repeat first|apply ah;rfl|apply aL;rfl;omega;omega
    refine bu rfl rfl rfl rfl (fun c5=>?_) (fun c5=>?_)
    ·have hi:i<1024:=by omega
     have hc:=vG (cS ((ay p n,i-ay p n) :: seen)) hi
     rw [Dz seen g1] at hc
     cases hci:cS seen i with
     | true=>
       rw [hci] at hc
       repeat first|apply ah;rfl|apply gB (q:=i);rfl;rfl;rfl;rfl;exact(F.un _ rfl);exact(F.sz _ rfl);(focus(omega));(focus(omega))|refine cf (an (F.ag _ rfl) rfl g5 (by rw [Kc,Nat.mul_one];exact hc)) rfl rfl rfl ?_
       (apply bR Tryz.func63 Tryz.results63;rfl)
       exact⟨by rw [← h4,hgo2,Kb (md (by omega) (by omega) hci)];rfl,by dsimp only;omega,g6⟩
     | false=>
       rw [hci] at hc
       repeat first|apply ah;rfl|apply gB (q:=i);rfl;rfl;rfl;rfl;exact(F.un _ rfl);exact(F.sz _ rfl);(focus(omega));(focus(omega))|refine cf (an (F.ag _ rfl) rfl g5 (by rw [Kc,Nat.mul_one];exact hc)) rfl rfl rfl ?_
       refine dU (v:= .sc (.bool true)) (cs:=Gi (cS ((ay p n,i-ay p n) :: seen))) rfl rfl rfl (F.sz _ rfl) g5 rfl (by rw [Kc,Nat.mul_one];exact JN (by rw [Kf,List.length_range];exact hi)) ?_
       rw [Kc,Nat.mul_one,yR g1]
       repeat first|apply ah;rfl|apply aL;rfl;omega;omega
       refine ih2 _ _ _ (i+1) ⟨rfl,by omega,by omega,fun j k1 k2=>?_,(aa _ _ (by omega)).trans g4,ai _ _ _,fun m hm=>(aa _ _ (by omega)).trans (g6 m hm)⟩ (by omega) (KK (KN rfl))
       rcases Kd j i with k3|k3
       ·exact g3 j k1 k3
       ·obtain rfl:j=i:=by omega
        exact hci
    ·obtain rfl:i=ay p n+ar p n:=by omega
     rw [Nat.add_sub_cancel_left] at g5
     rw [Ka (by rw [wm g3];decide)] at hgo2
     repeat first|apply ah;rfl|apply aL;rfl;omega;omega
     exact ih _ _ _ (n+1,(ay p n,ar p n) :: seen,true) ⟨rfl,hn,by rw [← h4,hgo2],g4,g5,g6⟩ (by omega) (KK (KN rfl))
 ·obtain rfl:n=ae p:=by omega
  rw [Nat.sub_self] at h4
  have h4:fine=fi p (ae p) 0 [] true:=h4
  repeat apply ah;rfl
  (apply bR Tryz.func63 Tryz.results63;rfl)
  exact⟨by rw [← h4];rfl,by dsimp only;omega,h7⟩
theorem gG(hb:H.at' b=some (pgO p))(hp:p.length=1024):Fnc Tryz.prog 63 [.ptr b 0] H nx (fun q=>q=(.sc (.bool (bj p)),H,nx)):=Fnc.bA (fun _ _ _ h=>h) (Ec hb hp)
def dG(p:List UInt8):Nat→Nat→Nat
 | 0,n=>n
 | k+1,n=>if ar p n=0 then n else dG p k (n+1)
def aY(p:List UInt8):Nat:=dG p (ae p) 0
theorem qg(p:List UInt8): ∀ k n,dG p k n≤n+k
 | 0,n=>JZ _
 | k+1,n=>by
   unfold dG
   split
   ·omega
   ·have:=qg p k (n+1);omega
theorem pb(p:List UInt8):aY p≤ae p:=by have:=qg p (ae p) 0;unfold aY;omega
def x6(p:List UInt8):Prop:=p.length=1024∧18+4*ae p≤aF p∧aF p≤1024
theorem fK(hp:p.length=1024)(h:bj p=true):x6 p:=by
 unfold bj at h
 rw [JY,KB] at h
 exact⟨hp,h.1⟩
theorem E1(hb:H.at' b=some (pgO p))(hp:x6 p):Fnc Tryz.prog 69 [.ptr b 0] H nx (fun q=>q.1 = .sc (.int .i64 (aY p:Int))∧nx≤q.2.2∧ ∀ m,m<nx→q.2.1.at' m=H.at' m):=by
 obtain⟨hp,hp1,hp2⟩:=hp
 have hs:ae p<65536:=cV p 14
 refine KE Tryz.func69 rfl rfl ?_
 refine aV fun hund=>?_
 have hlt:=hund _ _ hb
 have hb0: ∀ {vo:VO},(H.set nx vo).at' b=some (pgO p):=fun {vo}=>(aa _ _ (by omega)).trans hb
 repeat first|apply ah;rfl|apply bW;rfl;kernel_rfl;exact mr|apply bW;rfl;kernel_rfl;exact jc hb0 hp
 refine bE (α:=Nat) (fun n=> [(0,.ptr b 0),(3,EW nx),(10,.sc (.int .i64 (ae p:Int))),(11,.sc (.int .i64 (n:Int)))])
  (fun n H1 n1=>n1=nx+1∧n≤ae p∧dG p (ae p-n) n=aY p∧H1=H.set nx (Cj b)) (fun n=>ae p-n) 0
  ⟨rfl,J0 _,rfl,rfl⟩ (KK (KN rfl)) ?_
 rintro n H1 n1 ⟨rfl,h3,h4,rfl⟩ ih
 repeat apply ah;rfl
 refine bu rfl rfl rfl rfl (fun h8=>?_) (fun h8=>?_)
 ·have hgo:dG p (ae p-n) n=if ar p n=0 then n else dG p (ae p-(n+1)) (n+1):=by
   rw [show ae p-n=(ae p-(n+1))+1 by omega]
   rfl
  repeat apply ah;rfl
  refine jH rfl rfl rfl rfl (by kernel_rfl) (KD (ot (ai _ _ _) hb0 hp (n:=n) (by omega)) ?_)
  rintro _ rfl
  dsimp only
  repeat apply ah;rfl
  refine cF rfl rfl rfl rfl (fun e1=>?_) (fun e1=>?_)
  ·repeat apply ah;rfl
   (apply bR Tryz.func69 Tryz.results69;rfl)
   refine⟨?_,J8 _,fun m hm=>aa _ _ (by omega)⟩
   rw [← h4,hgo,Kb (by omega)]
   rfl
  ·repeat first|apply ah;rfl|apply aL;rfl;omega;omega
   exact ih _ _ _ (n+1) ⟨rfl,by omega,by rw [← h4,hgo,Ka (by omega)],rfl⟩ (by omega) (KK (KN rfl))
 ·obtain rfl:n=ae p:=by omega
  rw [Nat.sub_self] at h4
  have h4:ae p=aY p:=h4
  repeat first|apply ah;rfl|apply bW;rfl;kernel_rfl;exact jc hb0 hp
  (apply bR Tryz.func69 Tryz.results69;rfl)
  refine⟨?_,J8 _,fun m hm=>aa _ _ (by omega)⟩
  rw [← h4]
  rfl
theorem AI(hb:H.at' b=some (pgO p))(hp:x6 p):Fnc Tryz.prog 69 [.ptr b 0] H nx (fun q=>q=(.sc (.int .i64 (aY p:Int)),H,nx)):=Fnc.bA (fun _ _ _ h=>h) (E1 hb hp)
def fg(p:List UInt8):Nat:=aF p-18-4*ae p-(if aY p=ae p then 4 else 0)
theorem Db(hb:H.at' b=some (pgO p))(hp:x6 p):Fnc Tryz.prog 67 [.ptr b 0] H nx (fun q=>q=(.sc (.int .i64 (fg p:Int)),H,nx)):=by
 have hp0:=hp
 obtain⟨hp,hp1,hp2⟩:=hp
 have hs:ae p<65536:=cV p 14
 have he:=pb p
 refine KE Tryz.func67 rfl rfl ?_
 repeat first|apply ah;rfl|apply aL;rfl;omega;omega|apply bW;rfl;kernel_rfl;exact jc hb hp|apply bW;rfl;kernel_rfl;exact rN hb hp|apply bW;rfl;kernel_rfl;exact AI hb hp0
 refine cF rfl rfl rfl rfl (fun e1=>?_) (fun e1=>?_)
 ·repeat first|apply ah;rfl|apply aL;rfl;omega;omega|apply C5 (c:=(fg p:Int));rfl;rfl;rfl;rfl;(focus(unfold fg;rw [Kb (by omega)];omega))
  (apply bR Tryz.func67 Tryz.results67;rfl)
  rfl
 ·repeat first|apply ah;rfl|apply C5 (c:=(fg p:Int));rfl;rfl;rfl;rfl;(focus(unfold fg;rw [Ka (by omega)];omega))
  (apply bR Tryz.func67 Tryz.results67;rfl)
  rfl
theorem cR(h:o+l.length≤p.length)(i:Nat):(bg p o l)[i]? =if o≤i∧i<o+l.length then l[i-o]? else p[i]? :=by
 have ho:(p.take o).length=o:=by rw [Ke];omega
 unfold bg
 rcases Kd i o with h1|h1
 ·rw [Ka (by omega),Kl,JW (by omega),List.getElem?_take_of_lt h1]
 ·rcases Kd i (o+l.length)with h2|h2
  ·rw [Kb ⟨h1,h2⟩,JW (by rw [J3];omega),Kk (by omega),ho]
  ·rw [Ka (by omega),Kk (by rw [J3];omega),J3,ho,List.getElem?_drop]
   congr 1
   omega
theorem jj{q:List UInt8}(h: ∀ i,o≤i→i<o+2→p[i]? =q[i]?):gu p o=gu q o:=by
 unfold gu
 congr 1
 refine Kv fun i=>?_
 rcases Kd i 2 with hi|hi
 ·rw [List.getElem?_take_of_lt hi,List.getElem?_take_of_lt hi,List.getElem?_drop,List.getElem?_drop]
  exact h _ (by omega) (by omega)
 ·rw [Ky (by rw [Ke];omega),Ky (by rw [Ke];omega)]
theorem oa{o':Nat}(h:o+l.length≤p.length)(h2:o'+2≤o∨o+l.length≤o'):gu (bg p o l) o'=gu p o':=
 jj fun i h3 h4=>by rw [cR h,Ka (by omega)]
theorem cZ{o':Nat}(h:o+2≤p.length)(h2:o'+2≤o∨o+2≤o'):gu (cw p o n) o'=gu p o':=
 oa (by rw [bz];exact h) (by rw [bz];exact h2)
theorem E8(h:n<65536):beN (beB n 2)=n:=by
 show 256*(256*0+(UInt8.ofNat (n / 256 ^ 1)).toNat)+(UInt8.ofNat (n / 256 ^ 0)).toNat=n
 have t: ∀ k,(UInt8.ofNat k).toNat=k % 256:=fun k=>by simp
 rw [t,t]
 omega
theorem eV(h:o+2≤p.length)(hn:n<65536):gu (cw p o n) o=n:=by
 have:((cw p o n).drop o).take 2=beB n 2:=by
  unfold cw bg
  rw [Kl,List.drop_left' (by rw [Ke];omega),List.take_left' (bz n 2)]
 unfold gu
 rw [this,E8 hn]
theorem iD:nG Tryz.prog 27 []=some (.agg (pgS zeroP)):=by kernel_rfl
def fy(p:List UInt8):List UInt8:=if aY p=ae p then cw p 14 (aY p+1) else p
def oT(p it:List UInt8):List UInt8:=bg (cw (bP (fy p) (aY p) (aF (fy p)-it.length) it.length) 16 (aF (fy p)-it.length)) (aF (fy p)-it.length) it
def mI(p it:List UInt8):List UInt8×Nat×Nat:=
 if bj p=false then(zeroP,0,4) else if ¬ (1≤it.length∧it.length≤1000) then(zeroP,0,2) else if fg p<it.length then(zeroP,0,5) else(oT p it,aY p,0)
abbrev insS(r:List UInt8×Nat×Nat):SV:= .tup [.agg (pgS r.1),.sc (.int .i64 (r.2.1:Int)),.sc (.int .i64 (r.2.2:Int))]
theorem Ca{it:List UInt8}{s:SV}(hp:p.length=1024)(hB:BsIs H s (byV it))(hit:it.length≤4611686018427387904):Fnc Tryz.prog 30 [.agg (pgS p),s] H nx (fun q=>q.1=insS (mI p it)∧nx≤q.2.2∧ ∀ m,m<nx→q.2.1.at' m=H.at' m):=by
 have hlen:(byV it).length=it.length:=by simp
 refine KE Tryz.func30 rfl rfl ?_
 refine aV fun hund=>?_
 repeat first|apply ah;rfl|refine be rfl rfl cq ?_
 have hb1:((H.set nx (pgO p)).set (nx+1) (pgO zeroP)).at' nx=some (pgO p):=by repeat(first|exact ac|refine ab (by omega) ?_)
 have hz1:((H.set nx (pgO p)).set (nx+1) (pgO zeroP)).at' (nx+1)=some (pgO zeroP):=by repeat(exact ac)
 have ho1: ∀ m,m<nx→((H.set nx (pgO p)).set (nx+1) (pgO zeroP)).at' m=H.at' m:=fun m hm=>by(repeat(refine ab (by omega) ?_));rfl
 have hB2: ∀ H':au,(∀ m,m<nx→H'.at' m=H.at' m)→BsIs H' s (byV it):=fun H' h=>hB.frame fun b vo hb=>(h b (hund b vo hb)).trans hb
 have hB1:=hB2 _ ho1
 generalize (H.set nx (pgO p)).set (nx+1) (pgO zeroP)=H1 at hb1 hz1 ho1 hB1 ⊢
 cases hr:bj p with
 | false=>
   have hv:mI p it=(zeroP,0,4):=by unfold mI;rw [Kb hr]
   have hrs:=fun nx=>gG (nx:=nx) hb1 hp
   rw [hr] at hrs
   repeat first|apply ah;rfl|apply aG;rfl;assumption;rfl|apply bW;rfl;kernel_rfl;exact hrs _|refine cf (dm iD) rfl rfl rfl ?_
   rw [lu _ _ aj aj]
   ((apply bw Tryz.func30 (congrArg Array.toList Tryz.results30));(focus((apply KG rfl (KI (F.ag _ rfl) (by repeat(exact ac)) (bv aj)));(repeat(first|exact KF|apply KH rfl)))))
   exact⟨by rw [hv];rfl,by dsimp only;omega,fun m hm=>(aa _ _ (by omega)).trans (ho1 m hm)⟩
 | true=>
   have hf:=fK hp hr
   have hrs:=fun nx=>gG (nx:=nx) hb1 hp
   rw [hr] at hrs
   have hmi:=fun(H:au) nx=>tf (H:=H) (nx:=nx) (n:=it.length)
   have hlB:=hlen
   by_cases hm:1≤it.length∧it.length≤1000
   ·have hmt:decide (1≤it.length∧it.length≤1000)=true:=Kt hm
    rw [hmt] at hmi
    repeat first|apply cE;rfl|apply bW;rfl;kernel_rfl;exact hrs _|refine dh rfl rfl (F.un _ rfl) rfl hB1 ?_;rw [hlen]|apply bW;rfl;kernel_rfl;exact hmi _ _|apply bW;rfl;kernel_rfl;exact Db hb1 hf
    refine dI rfl rfl rfl rfl (fun h1=>?_) (fun h1=>?_)
    ·have hv:mI p it=(zeroP,0,5):=by unfold mI;rw [Ka (by rw [hr];decide),Ka (fun hq=>hq hm),Kb (by omega)]
     repeat first|apply ah;rfl|apply aG;rfl;assumption;rfl|refine cf (dm iD) rfl rfl rfl ?_
     rw [lu _ _ aj aj]
     ((apply bw Tryz.func30 (congrArg Array.toList Tryz.results30));(focus((apply KG rfl (KI (F.ag _ rfl) (by repeat(exact ac)) (bv aj)));(repeat(first|exact KF|apply KH rfl)))))
     exact⟨by rw [hv];rfl,by dsimp only;omega,fun m hm=>(aa _ _ (by omega)).trans (ho1 m hm)⟩
    ·have hv:mI p it=(oT p it,aY p,0):=by unfold mI;rw [Ka (by rw [hr];decide),Ka (fun hq=>hq hm),Ka (by omega)]
     have hel:=pb p
     have hf1:=hf.2.1
     have hf2:=hf.2.2
     have hro:it.length+18+4*ae p+(if aY p=ae p then 4 else 0)≤aF p:=by
      have:fg p=aF p-18-4*ae p-(if aY p=ae p then 4 else 0):=rfl
      omega
     repeat first|apply ah;rfl|apply bW;rfl;kernel_rfl;exact AI hb1 hf|apply bW;rfl;kernel_rfl;exact jc hb1 hp
     refine cF rfl rfl rfl rfl (fun e1=>?_) (fun e1=>?_)
     ·have en:aY p=ae p:=by omega
      rw [Kb en] at hro
      have hmo:cw p 14 (aY p+1)=fy p:=by unfold fy;rw [Kb en]
      repeat first|apply ah;rfl|apply aL;rfl;omega;omega
      rw [show((aY p:Nat):Int)+1=((aY p+1:Nat):Int) by omega]
      refine aE rfl rfl rfl (by kernel_rfl) (KD (pI hb1 hp (o:=14) (n:=aY p+1) (by decide) (by omega)) ?_)
      rintro⟨_,H2,n2⟩ ⟨rfl,hb2,hn2,g4⟩
      dsimp only at hb2 hn2 g4 ⊢
      have hp1:(cw p 14 (aY p+1)).length=1024:=by rw [bI (by omega)];exact hp
      have hbe:aF (cw p 14 (aY p+1))=aF p:=cZ (by omega) (by omega)
      have k2: ∀ m,m<nx→H2.at' m=H.at' m:=fun m hm=>(g4 m (by omega) (by omega)).trans (ho1 m hm)
      have hz2:H2.at' (nx+1)=some (pgO zeroP):=(g4 _ (by omega) (by omega)).trans hz1
      generalize cw p 14 (aY p+1)=p1 at hmo hb2 hp1 hbe
      repeat first|apply ah;rfl|apply cE;rfl|apply aL;rfl;omega;omega|apply bW;rfl;kernel_rfl;exact rN hb2 hp1|(apply dh;rfl;rfl;exact(F.un _ rfl);rfl;exact(hB2 _ k2));rw [hlen]
      rw [show((aF p1:Nat):Int)-(it.length:Int)=((aF p1-it.length:Nat):Int) by omega]
      refine aE rfl rfl rfl (by kernel_rfl) (KD (qO hb2 hp1 (n:=aY p) (a:=aF p1-it.length) (s:=it.length) (by omega) (by omega) (by omega)) ?_)
      rintro⟨_,H3,n3⟩ ⟨rfl,q2,q3,q4⟩
      dsimp only at q2 q3 q4 ⊢
      have hp2:(bP p1 (aY p) (aF p1-it.length) it.length).length=1024:=by rw [fH (by omega)];exact hp1
      repeat apply ah;rfl
      refine aE rfl rfl rfl (by kernel_rfl) (KD (pI q2 hp2 (o:=16) (n:=aF p1-it.length) (by decide) (by omega)) ?_)
      rintro⟨_,H4,n4⟩ ⟨rfl,r2,r3,r4⟩
      dsimp only at r2 r3 r4 ⊢
      have hp3:(cw (bP p1 (aY p) (aF p1-it.length) it.length) 16 (aF p1-it.length)).length=1024:=by rw [bI (by omega)];exact hp2
      have k4: ∀ m,m<nx→H4.at' m=H.at' m:=fun m hm=>(r4 m (by omega) (by omega)).trans ((q4 m (by omega) (by omega)).trans (k2 m hm))
      have hz4:H4.at' (nx+1)=some (pgO zeroP):=(r4 _ (by omega) (by omega)).trans ((q4 _ (by omega) (by omega)).trans hz2)
      repeat first|apply ah;rfl|apply li (lw:=aF p1-it.length) (hg:=1024) (m:=1024-(aF p1-it.length));rfl;rfl;rfl;exact(F.un _ rfl);exact(F.sz _ rfl);rfl;rfl;(focus(omega));(focus(omega));(focus(omega));rfl;rfl;exact(Kc _)
      refine ov rfl rfl rfl rfl (F.un _ rfl) (F.sz _ rfl) r2 (hB2 _ k4) (by omega) (by rw [bh hp3];omega) ?_
      rw [mR rfl]
      have hlay:bg (cw (bP p1 (aY p) (aF p1-it.length) it.length) 16 (aF p1-it.length)) (aF p1-it.length) it=oT p it:=by rw [hmo];rfl
      have hp4:(oT p it).length=1024:=by rw [← hlay,bS (by omega)];exact hp3
      rw [hlay]
      clear hlay
      generalize oT p it=pL at hv hp4 ⊢
      repeat first|apply bB hp4;rfl;(focus((repeat(exact ac));done))|apply bJ hp4 aj;rfl;(focus((repeat(first|assumption|refine ab (by omega) ?_));done))|apply ah;rfl
      ((apply bw Tryz.func30 (congrArg Array.toList Tryz.results30));(focus((apply KG rfl (KI (F.ag _ rfl) (by repeat(exact ac)) (bv hp4)));(repeat(first|exact KF|apply KH rfl)))))
      exact⟨by rw [hv];rfl,J7 (J7 (J8 _) (J8 _)) (J7 hn2 (J7 q3 r3)),fun m hm=>(aa _ _ (by omega)).trans ((aa _ _ (by omega)).trans (k4 m hm))⟩
     ·have en: ¬ aY p=ae p:=by omega
      rw [Ka en] at hro
      obtain⟨p1,hmo,hb2,hp1,hbe⟩: ∃ p1,p1=fy p∧H1.at' nx=some (pgO p1)∧p1.length=1024∧aF p1=aF p:=⟨p,by unfold fy;rw [Ka en],hb1,hp,rfl⟩
      have hz2:=hz1
      have k2:=ho1
      have hn2:nx+1+1≤nx+1+1:=JZ _
      repeat first|apply ah;rfl|apply cE;rfl|apply aL;rfl;omega;omega|apply bW;rfl;kernel_rfl;exact rN hb2 hp1|(apply dh;rfl;rfl;exact(F.un _ rfl);rfl;exact(hB2 _ k2));rw [hlen]
      rw [show((aF p1:Nat):Int)-(it.length:Int)=((aF p1-it.length:Nat):Int) by omega]
      refine aE rfl rfl rfl (by kernel_rfl) (KD (qO hb2 hp1 (n:=aY p) (a:=aF p1-it.length) (s:=it.length) (by omega) (by omega) (by omega)) ?_)
      rintro⟨_,H3,n3⟩ ⟨rfl,q2,q3,q4⟩
      dsimp only at q2 q3 q4 ⊢
      have hp2:(bP p1 (aY p) (aF p1-it.length) it.length).length=1024:=by rw [fH (by omega)];exact hp1
      repeat apply ah;rfl
      refine aE rfl rfl rfl (by kernel_rfl) (KD (pI q2 hp2 (o:=16) (n:=aF p1-it.length) (by decide) (by omega)) ?_)
      rintro⟨_,H4,n4⟩ ⟨rfl,r2,r3,r4⟩
      dsimp only at r2 r3 r4 ⊢
      have hp3:(cw (bP p1 (aY p) (aF p1-it.length) it.length) 16 (aF p1-it.length)).length=1024:=by rw [bI (by omega)];exact hp2
      have k4: ∀ m,m<nx→H4.at' m=H.at' m:=fun m hm=>(r4 m (by omega) (by omega)).trans ((q4 m (by omega) (by omega)).trans (k2 m hm))
      have hz4:H4.at' (nx+1)=some (pgO zeroP):=(r4 _ (by omega) (by omega)).trans ((q4 _ (by omega) (by omega)).trans hz2)
      repeat first|apply ah;rfl|apply li (lw:=aF p1-it.length) (hg:=1024) (m:=1024-(aF p1-it.length));rfl;rfl;rfl;exact(F.un _ rfl);exact(F.sz _ rfl);rfl;rfl;(focus(omega));(focus(omega));(focus(omega));rfl;rfl;exact(Kc _)
      refine ov rfl rfl rfl rfl (F.un _ rfl) (F.sz _ rfl) r2 (hB2 _ k4) (by omega) (by rw [bh hp3];omega) ?_
      rw [mR rfl]
      have hlay:bg (cw (bP p1 (aY p) (aF p1-it.length) it.length) 16 (aF p1-it.length)) (aF p1-it.length) it=oT p it:=by rw [hmo];rfl
      have hp4:(oT p it).length=1024:=by rw [← hlay,bS (by omega)];exact hp3
      rw [hlay]
      clear hlay
      generalize oT p it=pL at hv hp4 ⊢
      repeat first|apply bB hp4;rfl;(focus((repeat(exact ac));done))|apply bJ hp4 aj;rfl;(focus((repeat(first|assumption|refine ab (by omega) ?_));done))|apply ah;rfl
      ((apply bw Tryz.func30 (congrArg Array.toList Tryz.results30));(focus((apply KG rfl (KI (F.ag _ rfl) (by repeat(exact ac)) (bv hp4)));(repeat(first|exact KF|apply KH rfl)))))
      exact⟨by rw [hv];rfl,J7 (J7 (J8 _) (J8 _)) (J7 hn2 (J7 q3 r3)),fun m hm=>(aa _ _ (by omega)).trans ((aa _ _ (by omega)).trans (k4 m hm))⟩
   ·have hmt:decide (1≤it.length∧it.length≤1000)=false:=Ku hm
    rw [hmt] at hmi
    have hv:mI p it=(zeroP,0,2):=by unfold mI;rw [Ka (by rw [hr];decide),Kb hm]
    repeat first|apply ah;rfl|apply cE;rfl|apply aG;rfl;assumption;rfl|apply bW;rfl;kernel_rfl;exact hrs _|refine dh rfl rfl (F.un _ rfl) rfl hB1 ?_;rw [hlen]|apply bW;rfl;kernel_rfl;exact hmi _ _|refine cf (dm iD) rfl rfl rfl ?_
    rw [lu _ _ aj aj]
    ((apply bw Tryz.func30 (congrArg Array.toList Tryz.results30));(focus((apply KG rfl (KI (F.ag _ rfl) (by repeat(exact ac)) (bv aj)));(repeat(first|exact KF|apply KH rfl)))))
    exact⟨by rw [hv];rfl,by dsimp only;omega,fun m hm=>(aa _ _ (by omega)).trans (ho1 m hm)⟩
theorem Free.DG{a b c:SV}(ha:Free a)(hb:Free b)(hc:Free c):Free (.tup [a,b,c]):=fun e e' u h=>by
 simp only [SV.conc,SV.aJ] at h ⊢
 cases h1:a.conc e with
 | none=>rw [h1] at h;simp at h
 | some x=>
   cases h2:b.conc e with
   | none=>rw [h1,h2] at h;simp at h
   | some y=>
     cases h3:c.conc e with
     | none=>rw [h1,h2,h3] at h;simp at h
     | some z=>
       rw [h1,h2,h3] at h
       rw [ha e e' x h1,hb e e' y h2,hc e e' z h3]
       exact h
theorem tp(r:List UInt8×Nat×Nat):Free (insS r):=Free.DG (Free.agg _) (Free.sc _) (Free.sc _)
theorem qZ{it:List UInt8}{s:SV}(hp:p.length=1024)(hB:BsIs H s (byV it))(hit:it.length≤4611686018427387904):Fnc Tryz.prog 30 [.agg (pgS p),s] H nx (fun q=>q=(insS (mI p it),H,nx)):=Fnc.bA (tp _) (Ca hp hB hit)
def cm(p:List UInt8)(n:Nat):Nat×Nat×Nat:=if ae p≤n then(0,0,6) else if ar p n=0 then(0,0,6) else(ay p n,ar p n,0)
abbrev Jk(r:Nat×Nat×Nat):SV:= .tup [.sc (.int .i64 (r.1:Int)),.sc (.int .i64 (r.2.1:Int)),.sc (.int .i64 (r.2.2:Int))]
theorem Jj(hb:H.at' b=some (pgO p))(hp:x6 p):Fnc Tryz.prog 89 [.ptr b 0,.sc (.int .i64 (n:Int))] H nx (fun q=>q.1=Jk (cm p n)∧nx≤q.2.2∧ ∀ m,m<nx→q.2.1.at' m=H.at' m):=by
 obtain⟨hp,hp1,hp2⟩:=hp
 refine KE Tryz.func89 rfl rfl ?_
 refine aV fun hund=>?_
 have hlt:=hund _ _ hb
 have hb0: ∀ {vo:VO},(H.set nx vo).at' b=some (pgO p):=fun {vo}=>(aa _ _ (by omega)).trans hb
 repeat first|apply ah;rfl|apply bW;rfl;kernel_rfl;exact jc hb hp
 refine eK rfl rfl rfl rfl (fun h1=>?_) (fun h1=>?_)
 ·repeat apply ah;rfl
  (apply bR Tryz.func89 Tryz.results89;rfl)
  refine⟨?_,JZ _,fun m hm=>rfl⟩
  unfold cm
  rw [Kb (by omega)]
  rfl
 ·repeat first|apply ah;rfl|apply bW;rfl;kernel_rfl;exact mr
  refine jH rfl rfl rfl rfl (by kernel_rfl) (KD (ot (ai _ _ _) hb0 hp (n:=n) (by omega)) ?_)
  rintro _ rfl
  dsimp only
  repeat apply ah;rfl
  refine cF rfl rfl rfl rfl (fun h2=>?_) (fun h2=>?_)
  ·repeat apply ah;rfl
   (apply bR Tryz.func89 Tryz.results89;rfl)
   refine⟨?_,J8 _,fun m hm=>aa _ _ (by omega)⟩
   unfold cm
   rw [Ka (by omega),Kb (by omega)]
   rfl
  ·repeat apply ah;rfl
   (apply bR Tryz.func89 Tryz.results89;rfl)
   refine⟨?_,J8 _,fun m hm=>aa _ _ (by omega)⟩
   unfold cm
   rw [Ka (by omega),Ka (by omega)]
   rfl
theorem wL(hb:H.at' b=some (pgO p))(hp:x6 p):Fnc Tryz.prog 89 [.ptr b 0,.sc (.int .i64 (n:Int))] H nx (fun q=>q=(Jk (cm p n),H,nx)):=Fnc.bA (Free.DG (Free.sc _) (Free.sc _) (Free.sc _)) (Jj hb hp)
abbrev pgE(r:List UInt8×Nat):SV:= .tup [.agg (pgS r.1),.sc (.int .i64 (r.2:Int))]
theorem hY(r:List UInt8×Nat):Free (pgE r):=Free.two (Free.agg _) (Free.sc _)
theorem Gg(hp:p.length=1024):Fnc Tryz.prog 87 [.agg (pgS p)] H nx (fun q=>q.1 = .sc (.bool (bj p))∧nx≤q.2.2∧ ∀ m,m<nx→q.2.1.at' m=H.at' m):=by
 refine KE Tryz.func87 rfl rfl ?_
 have hb1:(H.set nx (pgO p)).at' nx=some (pgO p):=ai _ _ _
 repeat first|apply ah;rfl|apply bW;rfl;kernel_rfl;exact gG hb1 hp
 (apply bR Tryz.func87 Tryz.results87;rfl)
 exact⟨rfl,J8 _,fun m hm=>aa _ _ (by omega)⟩
theorem Gf(hp:p.length=1024):Fnc Tryz.prog 87 [.agg (pgS p)] H nx (fun q=>q=(.sc (.bool (bj p)),H,nx)):=Fnc.bA (fun _ _ _ h=>h) (Gg hp)
abbrev HY(f q:Nat):SV:= .fn (.func 79) [] [.ptr f 0,.ptr q 0]
theorem uS(hp:p.length=1024):Fnc Tryz.prog 39 [.agg (pgS p)] H nx (fun q=>q=(HY (nx+1) nx,(H.set nx (pgO p)).set (nx+1) (aq 4 [.sc (.bool (bj p))]),nx+1+1)):=by
 refine KE Tryz.func39 rfl rfl ?_
 have hb1:(H.set nx (pgO p)).at' nx=some (pgO p):=ai _ _ _
 repeat first|apply ah;rfl|apply aG;rfl;(focus((repeat(exact ac));done));rfl|apply bW;rfl;kernel_rfl;exact gG hb1 hp
 (apply bR Tryz.func39 Tryz.results39;rfl)
 refine Prod.ext rfl (Prod.ext ?_ rfl)
 funext n
 by_cases hn:n=nx+1
 ·subst hn
  exact(ai _ _ _).trans (ai _ _ _).symm
 ·exact(aa _ _ hn).trans ((aa _ _ hn).trans (aa _ _ hn).symm)
def LsIs(H:au)(ls:List SV)(bs:List (List Value)):Prop:=ls.length=bs.length∧ ∀ (j:Nat) s vs,ls[j]? =some s→bs[j]? =some vs→BsIs H s vs
abbrev bsR(ro:Bool)(ls:List SV):VO:=nJ ro ls.length 1 35 ls
abbrev u8R(ro:Bool)(vs:List Value):VO:=dat ro vs.length 1 5 vs
abbrev u8Z:Value:= .int .u8 0
theorem LsIs.at(h:LsIs H ls bs){j:Nat}(hj:j<ls.length): ∃ s vs,ls[j]? =some s∧bs[j]? =some vs∧BsIs H s vs:=by
 obtain⟨h1,h2⟩:=h
 exact⟨ls[j],bs[j]'(by omega),by simp [hj],by rw [JJ],h2 j _ _ (by simp [hj]) (by rw [JJ])⟩
theorem jZ{j:Nat}{vs:List Value}(h:bs[j]? =some vs):(bs.take (j+1)).flatten=(bs.take j).flatten ++ vs:=by
 rw [List.take_add_one,h]
 simp
theorem uV(bs:List (List Value))(j:Nat):(bs.take j).flatten.length≤bs.flatten.length:=by
 conv=>rhs;rw [← List.take_append_drop j bs,List.flatten_append,J3]
 omega
theorem wJ(h: ∀ vs∈bs,ue vs):ue bs.flatten:=by
 intro v hv
 obtain⟨l,hl,hv⟩:=List.mem_flatten.1 hv
 exact h l hl v hv
theorem HX{r:Nat}{ro:Bool}(hr:H.at' r=some (bsR ro ls))(hb:LsIs H ls bs)(hsz:bs.flatten.length≤140737488355328)(hl:ls.length≤4611686018427387904):Fnc Tryz.prog 73 [.slu r 0 ls.length] H nx
 (fun q=> ∃ r',q.1 = .slu r' 0 bs.flatten.length∧q.2.1.at' r'=some (u8R false bs.flatten)∧nx≤r'∧r'<q.2.2∧nx≤q.2.2∧ ∀ n,n<nx→q.2.1.at' n=H.at' n):=by
 refine KE Tryz.func73 rfl rfl ?_
 refine aV fun hund=>?_
 have hlt:=hund _ _ hr
 repeat apply ah;rfl
 refine bE (α:=Nat) (fun j=> [(0,.slu r 0 ls.length),(2,.sc (.slice none 0 0)),(3,.sc (.int .i64 ((bs.take j).flatten.length:Nat))),(9,.slu r 0 ls.length),(10,.sc (.int .i64 (ls.length:Int))),(11,.sc (.int .i64 (j:Int)))]) (fun j H1 n1=>H1=H∧n1=nx∧j≤ls.length) (fun j=>ls.length-j) 0
  ⟨rfl,rfl,J0 _⟩ (KK (KN rfl)) ?_
 rintro j H1 n1 ⟨rfl,rfl,h1⟩ ih
 repeat apply ah;rfl
 (apply bu;rfl;rfl;rfl;rfl)
 all_goals intro h6
 ·obtain⟨s,vs,g1,g2,g3⟩:=hb.at (j:=j) (by omega)
  have hle:=uV bs (j+1)
  have hft:=jZ g2
  rw [hft,J3] at hle
  have hcell:(bsR ro ls).cell (j*1)=some s:=mB (by rw [Nat.mul_one];exact g1) (by omega)
  repeat first|apply ah;rfl|apply cE;rfl|apply aL;rfl;omega;omega|refine dH (q:=j) rfl rfl rfl rfl (F.un _ rfl) (F.sz _ rfl) (by assumption) (by omega) (by(omega)) (JZ _) ?_|refine cf (an (F.ag _ rfl) rfl hr hcell) rfl rfl rfl ?_|refine dh rfl rfl (F.un _ rfl) rfl g3 ?_
  refine ih _ _ _ (j+1) ⟨rfl,rfl,by omega⟩ (by omega) ?_
  rw [hft,J3]
  exact KK (by repeat(first|exact KO|refine⟨rfl,?_⟩))
 ·obtain rfl:j=ls.length:=by omega
  have hall:bs.take ls.length=bs:=JR (by have:=hb.1;omega)
  rw [hall]
  repeat first|apply ah;rfl|apply qv (z:=u8Z) (bb:=1) (n:=0) (m:=bs.flatten.length);rfl;rfl;exact(F.un _ rfl);exact(F.sz _ rfl);exact(F.ze _ rfl);(focus(kernel_rfl));rfl;rfl;rfl;exact(J0 _);(focus(omega));(focus(omega))
  have hrep: ∀ n,ue (List.replicate n u8Z):=fun n v hv=>by rw [(List.mem_replicate.1 hv).2];rfl
  refine bE (α:=Nat) (fun j=> [(0,.slu r 0 ls.length),(6,.slu n1 0 (bs.take j).flatten.length),(22,.slu r 0 ls.length),(23,.sc (.int .i64 (ls.length:Int))),(24,.sc (.int .i64 (j:Int)))]) (fun j H2 n2=>n2=n1+1∧j≤ls.length∧H2.at' n1=some (dat false bs.flatten.length 1 5 ((bs.take j).flatten ++ List.replicate (bs.flatten.length-(bs.take j).flatten.length) u8Z))∧ ∀ n,n<n1→H2.at' n=H1.at' n) (fun j=>ls.length-j) 0
   ⟨rfl,J0 _,by rw [ai];simp,fun n hn=>aa _ _ (by omega)⟩ (KK (KN rfl)) ?_
  clear ih
  rintro j H2 n2 ⟨rfl,h2,h3,h4⟩ ih
  have hr2:H2.at' r=some (bsR ro ls):=(h4 r hlt).trans hr
  repeat apply ah;rfl
  (apply bu;rfl;rfl;rfl;rfl)
  all_goals intro h7
  ·obtain⟨s,vs,g1,g2,g3⟩:=hb.at (j:=j) (by omega)
   have g4:BsIs H2 s vs:=g3.frame fun b vo hbv=>(h4 b (hund b vo hbv)).trans hbv
   have hle:=uV bs (j+1)
   have hle0:=uV bs j
   have hft:=jZ g2
   rw [hft,J3] at hle
   have hcell:(bsR ro ls).cell (j*1)=some s:=mB (by rw [Nat.mul_one];exact g1) (by omega)
   repeat first|apply ah;rfl|refine dH (q:=j) rfl rfl rfl rfl (F.un _ rfl) (F.sz _ rfl) (by assumption) (by omega) (by(omega)) (JZ _) ?_|refine cf (an (F.ag _ rfl) rfl hr2 hcell) rfl rfl rfl ?_
   rcases Nat.eq_zero_or_pos vs.length with h0|h0
   ·have:vs= []:=JV h0
    subst this
    refine yL (vs:= []) rfl rfl rfl rfl (F.un _ rfl) (.inl ⟨_,F.un _ rfl⟩) (F.sz _ rfl) (by decide) h3 (by omega) (BsIs.rdv g4) g4.1 ?_
    repeat first|apply ah;rfl|apply aL;rfl;omega;omega
    refine ih _ _ _ (j+1) ⟨rfl,by omega,by rw [hft,Ko];exact h3,h4⟩ (by omega) ?_
    rw [hft,Ko]
    exact KK (by repeat(first|exact KO|refine⟨rfl,?_⟩))
   ·refine xx (vs:=vs) (ws:=(bs.take (j+1)).flatten ++ List.replicate (bs.flatten.length-(bs.take (j+1)).flatten.length) u8Z) rfl rfl rfl rfl (F.un _ rfl) (.inl ⟨_,F.un _ rfl⟩) (F.sz _ rfl) h3 (BsIs.rdv g4) g4.1 (by omega) (by omega) (by omega) (by rw [J3,Kn];omega) ?_ ?_
    ·rw [hft,J3,Kc,Nat.mul_one,Nat.mul_one,List.take_left' rfl,←List.drop_drop,List.drop_left' rfl,List.drop_replicate,Nat.sub_sub]
    ·repeat first|apply ah;rfl|apply aL;rfl;omega;omega
     refine ih _ _ _ (j+1) ⟨rfl,by omega,ai _ _ _,fun n hn=>(aa _ _ (by omega)).trans (h4 n hn)⟩ (by omega) ?_
     rw [hft,J3]
     exact KK (by repeat(first|exact KO|refine⟨rfl,?_⟩))
  ·obtain rfl:j=ls.length:=by omega
   rw [hall] at h3 ⊢
   repeat apply ah;rfl
   (apply bR Tryz.func73 Tryz.results73;rfl)
   refine⟨n1,rfl,?_,JZ _,Nat.lt_succ_self _,J8 _,h4⟩
   rw [Nat.sub_self,List.replicate_zero,Ko] at h3
   exact h3
theorem th{r:Nat}{ro:Bool}(hr:H.at' r=some (bsR ro ls))(hb:LsIs H ls bs)(hsz:bs.flatten.length≤140737488355328)(hl:ls.length≤4611686018427387904):Fnc Tryz.prog 73 [.slu r 0 ls.length] H nx
 (fun q=>q=(.slu nx 0 bs.flatten.length,H.set nx (u8R false bs.flatten),nx+1)):=Fnc.next (HX hr hb hsz hl)
abbrev gj:=List UInt8×List UInt8×Nat×Nat
def gV(v:gj):Bool:=decide ((1≤v.1.length∧v.1.length≤32)∧v.2.1.length≤128∧(1≤v.2.2.1∧v.2.2.1≤4000)∧v.2.2.2≤4000)
def jr(l:List UInt8):List UInt8:=beB l.length 2 ++ l
def aQ(v:gj):List UInt8:=beB v.2.2.1 8 ++ (beB v.2.2.2 8 ++ (jr v.1 ++ jr v.2.1))
theorem dT(v:gj):(aQ v).length=20+v.1.length+v.2.1.length:=by
 unfold aQ jr
 simp only [J3,bz]
 omega
def eM:Option (List UInt8)→Nat→List UInt8×Option (List UInt8)
 | none,_=>([],none)
 | some l,n=>if n≤l.length then(l.take n,some (l.drop n)) else([],none)
theorem eE(h:n≤l.length):eM (some l) n=(l.take n,some (l.drop n)):=Kb h
theorem gY(h:l.length<n):eM (some l) n=([],none):=Ka (by omega)
def ix(st:Option (List UInt8)):List UInt8×Option (List UInt8):=eM (eM st 2).2 (beN (eM st 2).1)
theorem qj:ix none=([],none):=rfl
def jS(l:List UInt8):gj×Option (List UInt8):=
 let a:=eM (some l) 8
 let b:=eM a.2 8
 let k:=ix b.2
 let v:=ix k.2
 ((k.1,v.1,beN a.1,beN b.1),v.2)
def Ds(st:Option (List UInt8))(v:gj):Option gj:=if st=some []∧gV v=true then some v else none
theorem uW{st:Option (List UInt8)}{v:gj}(h:st≠some []):Ds st v=none:=Ka fun h'=>h h'.1
def ofV(l:List UInt8):Option gj:=if 180<l.length then none else Ds (jS l).2 (jS l).1
def nI(l:List UInt8):gj:=let k:=beN ((l.drop 16).take 2);((l.drop 18).take k,l.drop (20+k),beN (l.take 8),beN ((l.drop 8).take 8))
def ofR(l:List UInt8):Option gj:=
 if l.length<20 then none else if l.length<20+beN ((l.drop 16).take 2) then none
 else if gV (nI l)=true∧beN ((l.drop (18+beN ((l.drop 16).take 2))).take 2)=(l.drop (20+beN ((l.drop 16).take 2))).length then some (nI l) else none
theorem kV{m:List UInt8}(h2:2≤m.length):ix (some m)=eM (some (m.drop 2)) (beN (m.take 2)):=by
 unfold ix
 rw [eE h2]
theorem pt{m:List UInt8}(h2:m.length<2):ix (some m)=([],none):=by
 unfold ix
 rw [gY h2]
 rfl
theorem of_eq(l:List UInt8):ofV l=ofR l:=by
 have hnone: ∀ {v:gj},Ds none v=none:=uW (fun h=>by cases h)
 unfold ofR
 by_cases h16:l.length<16
 ·rw [Kb (by omega)]
  unfold ofV
  rw [Ka (by omega)]
  have:(jS l).2=none:=by
   unfold jS
   by_cases h8:l.length<8
   ·rw [gY h8];rfl
   ·rw [eE (by omega)]
    simp only
    rw [gY (by rw [Kh];omega)]
    rfl
  rw [this,hnone]
 ·have e1:jS l=(((ix (some (l.drop 16))).1,(ix (ix (some (l.drop 16))).2).1,beN (l.take 8),beN ((l.drop 8).take 8)),(ix (ix (some (l.drop 16))).2).2):=by
   unfold jS
   rw [eE (by omega)]
   simp only
   rw [eE (by rw [Kh];omega)]
   simp only [List.drop_drop]
  unfold ofV
  rw [e1]
  by_cases h18:l.length<18
  ·rw [Kb (show l.length<20 by omega),Ka (by omega),pt (by rw [Kh];omega),qj,hnone]
  ·rw [kV (by rw [Kh];omega),List.drop_drop,show 16+2=18 from rfl]
   have hver:nI l=((l.drop 18).take (beN ((l.drop 16).take 2)),l.drop (20+beN ((l.drop 16).take 2)),beN (l.take 8),beN ((l.drop 8).take 8)):=rfl
   generalize hk:beN ((l.drop 16).take 2)=k at hver ⊢
   by_cases hk1:l.length<18+k
   ·rw [gY (by rw [Kh];omega)]
    simp only [qj]
    rw [hnone]
    have:(if l.length<20 then none else if l.length<20+k then none else if gV (nI l)=true∧beN ((l.drop (18+k)).take 2)=(l.drop (20+k)).length then some (nI l) else none)=none:=by
     split
     ·rfl
     ·rw [Kb (by omega)]
    rw [this]
    split <;> rfl
   ·rw [eE (by rw [Kh];omega),List.drop_drop]
    simp only
    by_cases h20:l.length<20+k
    ·rw [pt (by rw [Kh];omega)]
     simp only
     rw [hnone,Kb h20]
     split <;> (split <;> rfl)
    ·rw [kV (by rw [Kh];omega),List.drop_drop,show 18+k+2=20+k by omega]
     generalize hn:beN ((l.drop (18+k)).take 2)=n
     rw [Ka (show ¬ l.length<20 by omega),Ka h20,hver]
     have hlen:(l.drop (20+k)).length=l.length-(20+k):=Kh
     by_cases hn1:n=(l.drop (20+k)).length
     ·rw [eE (by omega),hn1,List.take_length,List.drop_length]
      simp only
      by_cases hm:gV ((l.drop 18).take k,l.drop (20+k),beN (l.take 8),beN ((l.drop 8).take 8))=true
      ·have hb:=Km hm
       simp only [Ke,Kh] at hb
       rw [Ka (show ¬ 180<l.length by omega),Kb (show gV ((l.drop 18).take k,l.drop (20+k),beN (l.take 8),beN ((l.drop 8).take 8))=true∧True from⟨hm,trivial⟩)]
       exact Kb ⟨rfl,hm⟩
      ·rw [Ka (show ¬ (gV ((l.drop 18).take k,l.drop (20+k),beN (l.take 8),beN ((l.drop 8).take 8))=true∧True)from fun h=>hm h.1)]
       have:Ds (some []) ((l.drop 18).take k,l.drop (20+k),beN (l.take 8),beN ((l.drop 8).take 8))=none:=Ka fun h=>hm h.2
       rw [this]
       split <;> rfl
     ·have hno: ¬ (gV ((l.drop 18).take k,l.drop (20+k),beN (l.take 8),beN ((l.drop 8).take 8))=true∧n=(l.drop (20+k)).length):=fun h=>hn1 h.2
      rw [Ka hno]
      by_cases hn2:(l.drop (20+k)).length<n
      ·rw [gY hn2]
       simp only
       rw [hnone]
       split <;> rfl
      ·rw [eE (by omega)]
       simp only
       rw [uW (fun h=>?_)]
       ·split <;> rfl
       ·have:=congrArg List.length (Option.some.inj h)
        simp only [Kh,List.length_nil] at this
        omega
theorem rk: ∀ (l:List UInt8) (a:Nat),l.foldl (fun n c=>256*n+c.toNat) a=a*256 ^ l.length+beN l
 | [],a=>by simp [beN]
 | c :: l,a=>by
   have h1:=rk l (256*a+c.toNat)
   have h2:=rk l c.toNat
   simp only [List.foldl_cons,J2]
   rw [h1]
   have:beN (c :: l)=c.toNat*256 ^ l.length+beN l:=by
    show l.foldl _ (256*0+c.toNat)=_
    rw [Nat.mul_zero,Kc,h2]
   rw [this,Nat.pow_succ,Nat.add_mul,Nat.mul_comm (256 ^ l.length) 256,←Nat.mul_assoc,Nat.mul_comm a 256]
   omega
theorem xc(c:UInt8)(l:List UInt8):beN (c :: l)=c.toNat*256 ^ l.length+beN l:=by
 show l.foldl _ (256*0+c.toNat)=_
 rw [Nat.mul_zero,Kc,rk]
theorem kW(n size:Nat):beB n (size+1)=UInt8.ofNat (n / 256 ^ size) :: beB n size:=by
 unfold beB
 rw [List.range_succ_eq_map,J1,List.map_map]
 congr 1
 refine List.map_congr_left fun i _=>?_
 simp only [Function.comp]
 rw [show size+1-1-(i+1)=size-1-i by omega]
theorem AT: ∀ (size n:Nat),beN (beB n size)=n % 256 ^ size
 | 0,n=>by simp [beB,beN,Nat.mod_one]
 | size+1,n=>by
   have e:256 ^ (size+1)=256 ^ size*256:=Nat.pow_succ _ _
   rw [kW,xc,bz,AT size n,UInt8.toNat_ofNat',e,Nat.mod_mul]
   show n / 256 ^ size % 256*256 ^ size+n % 256 ^ size=_
   rw [Nat.mul_comm (256 ^ size)]
   exact Nat.add_comm _ _
theorem rO{size:Nat}(h:n<256 ^ size):beN (beB n size)=n:=by rw [AT,Nat.mod_eq_of_lt h]
theorem wa{v:gj}(h:gV v=true):ofV (aQ v)=some v:=by
 have hm:=Km h
 have hl:=dT v
 have e2:beN (beB v.1.length 2)=v.1.length:=rO (by omega)
 have e3:beN (beB v.2.1.length 2)=v.2.1.length:=rO (by omega)
 have e4:beN (beB v.2.2.1 8)=v.2.2.1:=rO (by omega)
 have e5:beN (beB v.2.2.2 8)=v.2.2.2:=rO (by omega)
 have hp:jS (aQ v)=(v,some []):=by
  unfold jS
  rw [eE (by rw [hl];omega)]
  unfold aQ
  rw [List.take_left' (bz _ _),List.drop_left' (bz _ _)]
  simp only
  rw [eE (by rw [J3,bz];omega),List.take_left' (bz _ _),List.drop_left' (bz _ _)]
  simp only
  unfold jr
  rw [Kl,kV (by rw [J3,bz];omega),List.take_left' (bz _ _),List.drop_left' (bz _ _),e2]
  rw [eE (by rw [J3];omega),List.take_left' rfl,List.drop_left' rfl]
  simp only
  rw [kV (by rw [J3,bz];omega),List.take_left' (bz _ _),List.drop_left' (bz _ _),e3]
  rw [eE (JZ _),List.take_length,List.drop_length,e4,e5]
 unfold ofV
 rw [Ka (by omega),hp]
 exact Kb ⟨rfl,h⟩
end
end Go.Proofs.YtnhmbonmlfeifaaGreat
end
section
namespace Go.Sy
open Go Go.Sl Go.RowKit
section
variable {P:Program} {T:Tr SV} {H:au} {nx:Nat} {d:Option Tmp} {ty:TypeId} {pos:String} {af:Array Edge} {gd:Option (Nat×Bool)}
section
variable {n:Nat}{t:TypeId}{x:Operand}
theorem x7{m:Array (String×TypeId)}(hu:P.underlying t=some (.interface m))(w:World):(Op.equal t .nilIface .nilIface).run P w = .ok true w:=by
 have: ∀ n,(Op.equalIn (n+1) t .nilIface .nilIface).run P w = .ok true w:=fun n=>by simp [Op.equalIn,run_underlying hu]
 exact this 9999
theorem jO{yt:TypeId}{m:Array (String×TypeId)}(hx:am T x=some (.sc .nilIface))(hu:P.underlying t=some (.interface m)):ReadDoes P T H ⟨d,.binOp .neq t x (.const .nilIface) yt,ty,pos,af,gd⟩ (.sc (.bool false)):=by
 refine eO fun ev w he=>?_
 have e1:=he x _ hx _ rfl
 have e2:=he (.const .nilIface) _ rfl _ rfl
 have hg:(eqGuard .neq t x (.const .nilIface) .nilIface .nilIface).run P w = .ok () w:=by cases x <;> rfl
 have hq:(Op.equal t .nilIface .nilIface).run P w = .ok true w:=x7 hu w
 have hb:(binOp .neq t .nilIface .nilIface).run P w = .ok (.bool false) w:=by
  simp only [binOp,Sem.run_bind,hq,Result.andThen_ok,Sem.run_pure,Bool.not_true]
 simp only [execOp,e1,e2,Sem.run_bind,hg,hb,Result.andThen_ok,Sem.run_pure]
theorem zU{el:TypeId}{b o C:Nat}{bt:TypeId}{cs:List SV}{z:Value}(hu:P.underlying t=some (.slice el))(hz:dZ P el=some z)(hx:am T x=some (.sl b o (n+1) C))(hb:H.at' b=some (aq bt cs))(zs:List SV)(hzs:iB z (n+1)=zs)(h1:bm zs=true)(ho:o+zs.length≤cs.length) :
 OpDoes P T H nx ⟨d,.call {callee:= .builtin .clear,args:= #[x],argTypes:= #[t]},ty,pos,af,gd⟩ (.val (.sc (.tuple #[])),H.set b (aq bt (cs.take o ++ zs ++ cs.drop (o+zs.length))),nx):=by
 subst hzs
 have hst:(aq bt cs).setCells o (iB z (n+1))=some (aq bt (cs.take o ++ iB z (n+1) ++ cs.drop (o+(iB z (n+1)).length))):=hJ (t:=bt) (iB z (n+1)) cs o ho h1
 have hcp:mz P H nx t (.sl b o (n+1) C)=some (.val (.sc (.tuple #[])),H.set b (aq bt (cs.take o ++ iB z (n+1) ++ cs.drop (o+(iB z (n+1)).length))),nx):=by
  simp only [mz,hu,hz,e8,hb,hst]
 refine jm ?_
 simp only [fZ,dF,hx,J6,eZ,hcp]
theorem Aa{fz:Nat×Nat}(h:Gv fz n):Gv (if(fz.1 == fz.2)=true then(n,n+1) else(min fz.1 n,max fz.2 (n+1))) n:=by
 obtain⟨h1,h2⟩:=h
 split
 ·exact⟨J8 _,fun i hi=>by simp;omega⟩
 ·rename_i hne
  simp only [beq_iff_eq] at hne
  have hn:n≤fz.1:=by
   rcases Kd fz.1 n with hlt|hge
   ·have:=h2 fz.1 hlt
    simp at this
    omega
   ·exact hge
  refine⟨by simp;omega,fun i hi=>?_⟩
  simp only [Bool.and_eq_false_iff,decide_eq_false_iff_not]
  left
  omega
theorem Ep{s el rt:TypeId}{b eo ne:Nat}{c:Tr SV}(hu:P.underlying s=some (.slice el))(he:P.underlying el=some (.int .u8))(hx:am T x=some (.slu b eo n))(hb:H.at' b=some (.row false ne 1 rt c))(h0:0<ne) :
 OpDoes P T H nx ⟨d,.convert s s x,ty,pos,af,gd⟩ (.val (.slu b eo n),H.set b (.row false ne 1 rt c),nx):=by
 intro K w0 e w ev hS hE
 obtain⟨y,hy,hl⟩:=hS.rel _ _ hb
 obtain⟨g1,g2,g3,g4⟩:=Lies.row hl
 have hnil:=g3 h0
 rcases hl with ⟨q0,o,q1,q2,q3⟩|⟨q,_⟩
 ·obtain⟨f0,cs,fz,tt,rfl,f2,f3,f4,f5,f6,f7⟩:=q3
  obtain⟨lo,hi⟩:=fz
  have hv:(SV.slu b eo n).conc e=some (.slice (some ⟨y.blk,y.base+eo*y.sz,none⟩) n (y.cap-eo)):=by simp [SV.conc,hy,Ent.at,hnil]
  have e1:=hE x _ hx
  rw [hv] at e1
  simp only [JG] at e1
  have hsh:w.shape? y.blk=some (tt,cs.size):=by
   unfold World.shape?
   rw [q2]
  have hfz:(w.freeze ⟨y.blk,cs.size,none⟩ 1).heap[y.blk]? =some (.cells cs tt (if(lo == hi)=true then(cs.size,cs.size+1) else(min lo cs.size,max hi (cs.size+1)))):=by
   unfold World.freeze
   rw [Ka (by decide)]
   simp [Array.getElem?_modify,q2]
  have ht:Turned w (w.freeze ⟨y.blk,cs.size,none⟩ 1) y.blk:=by
   unfold World.freeze
   rw [Ka (by decide)]
   refine⟨rfl,rfl,rfl,by simp,fun j _ hj=>?_⟩
   simp [Array.getElem?_modify,Ne.symm hj]
  have hrun:(Go.convert s s (.slice (some ⟨y.blk,y.base+eo*y.sz,none⟩) n (y.cap-eo))).run P w = .ok (.slice (some ⟨y.blk,y.base+eo*y.sz,none⟩) n (y.cap-eo)) (w.freeze ⟨y.blk,cs.size,none⟩ 1):=by
   simp [Go.convert,run_underlying hu,run_underlying he,markStringish,hsh]
  refine⟨e,w.freeze ⟨y.blk,cs.size,none⟩ 1,KL e,hS.upd hb hy hnil rfl rfl ht hfz ⟨f0,cs,_,tt,rfl,f2,f3,f4,fun _=>Aa (fz:=(lo,hi)) (f5 rfl),f6,f7⟩,_,hv,?_⟩
  simp only [execOp,←e1]
  simp [hrun]
 ·rw [hnil] at q
  cases q
end
end
section
variable {P:Program} {ro:Option Nat} {fn nt nx i:Nat} {T:Tr SV} {k:List AIt} {dfs:List ADf} {H:au} {Q:Pst} {ops:Array Oper} {l:List Oper} {ty:TypeId} {pos:String} {af:Array Edge} {gd:Option (Nat×Bool)}
section
variable {args:List SV}{x:Operand}
theorem lF{as1:List Operand}{ats:Array TypeId}{g:FuncId}{fa fb:List SV}(hw:aH T ops ⟨none,.defer {callee:= .value x,args:=as1.toArray,argTypes:=ats},ty,pos,af,gd⟩=some true)(hx:am T x=some (.fn (.func g) fa fb))(ha:dF T as1=some args)(hm:b7 P g=true)
 (h:Wp P none ⟨fn,nt,T,.inReg ops (i+1) l :: k,.call g (fa ++ args ++ fb) :: dfs,H,nx⟩ Q):Wp P none ⟨fn,nt,T,.inReg ops i (⟨none,.defer {callee:= .value x,args:=as1.toArray,argTypes:=ats},ty,pos,af,gd⟩ :: l) :: k,dfs,H,nx⟩ Q:=by
 refine .step (.inr ⟨hw,.inl rfl,OpDoes.any (out:=(.dfr (.call g (fa ++ args ++ fb)),H,nx)) ?_ ⟨rfl,h⟩⟩)
 intro K w0 e w ev hS hE
 refine mv hS hE ?_
 unfold fZ
 simp only [cg,ha,hx,dV,hm,cond_true]
theorem jG{dd:Nat}(hw:aH T ops ⟨some dd,.call {callee:= .builtin .recover,args:= #[],argTypes:= #[]},ty,pos,af,gd⟩=some true)(hd:Nat.blt dd nt=true)
 (h:Wp P none ⟨fn,nt,T.set dd (.sc .nilIface),.inReg ops (i+1) l :: k,dfs,H,nx⟩ Q):Wp P none ⟨fn,nt,T,.inReg ops i (⟨some dd,.call {callee:= .builtin .recover,args:= #[],argTypes:= #[]},ty,pos,af,gd⟩ :: l) :: k,dfs,H,nx⟩ Q:=by
 refine .step (.inr ⟨hw,.inl rfl,OpDoes.any (out:=(.recover,H,nx)) ?_ ⟨rfl,?_⟩⟩)
 ·intro K w0 e w ev hS hE
  refine mv hS hE ?_
  unfold fZ
  simp only [dF,J6,eZ]
 ·rw [aK hd]
  exact h
theorem lU{name:String}{as1:List Operand}{ats:Array TypeId}{t:TypeId}{v:SV}{dd:Nat}(g:FuncId)(hw:aH T ops ⟨some dd,.call {callee:= .invoke x name,args:=as1.toArray,argTypes:=ats},ty,pos,af,gd⟩=some true)(hd:Nat.blt dd nt=true)(hx:am T x=some (.ifc t v))(ha:dF T as1=some args)(hm:lK P t name=some g)
 (h:Fnc P g (v :: args) H nx (fun r=>Wp P ro ⟨fn,nt,T.set dd r.1,.inReg ops (i+1) l :: k,dfs,r.2.1,r.2.2⟩ Q)) :
 Wp P ro ⟨fn,nt,T,.inReg ops i (⟨some dd,.call {callee:= .invoke x name,args:=as1.toArray,argTypes:=ats},ty,pos,af,gd⟩ :: l) :: k,dfs,H,nx⟩ Q:=by
 refine vq hw (args:=v :: args) ?_ (by simp only [aK hd];exact h)
 simp only [cg,ha,hx,hm]
theorem Bl{t el:TypeId}{b o n C:Nat}{bt:TypeId}{cs:List SV}{z:Value}{dd:Option Nat}(zs:List SV)(hw:aH T ops ⟨dd,.call {callee:= .builtin .clear,args:= #[x],argTypes:= #[t]},ty,pos,af,gd⟩=some true)(hx:am T x=some (.sl b o (n+1) C))(hu:P.underlying t=some (.slice el))(hz:dZ P el=some z)(hb:H.at' b=some (aq bt cs))(hzs:iB z (n+1)=zs)(h1:bm zs=true)(ho:o+zs.length≤cs.length)
 (h:Wp P ro ⟨fn,nt,mH nt T dd (.sc (.tuple #[])),.inReg ops (i+1) l :: k,dfs,H.set b (aq bt (cs.take o ++ zs ++ cs.drop (o+zs.length))),nx⟩ Q):Wp P ro ⟨fn,nt,T,.inReg ops i (⟨dd,.call {callee:= .builtin .clear,args:= #[x],argTypes:= #[t]},ty,pos,af,gd⟩ :: l) :: k,dfs,H,nx⟩ Q:=
 dj hw (.inr (fun _ h=>by cases h)) (zU hu hz hx hb zs hzs h1 ho) h
theorem eJ{rl:List ResultVar}{F:Func}{g:FuncId}(hf:P.funcs[fn]? =some F)(hl:F.results.toList=rl)(hg:b7 P g=true)(h:Fnc P g args H nx (fun r=> ∃ vs,ResIs P r.2.1 T rl vs∧Q (ga vs,r.2.1,r.2.2))):Wp P none ⟨fn,nt,T,.code .ret :: k,[.call g args],H,nx⟩ Q:=by
 refine C3 (EE hg (KD h ?_))
 rintro⟨v,H',n'⟩ ⟨vs,h1,h2⟩
 exact Dg (by simp only [fj,hf,hl]) h1.res h2
end
end
end Go.Sy
end
section
namespace Go.Proofs.YtnhmbonmlfeifaaGreat
open Go Go.Sy Go.Sl Go.RowKit
section
variable {H H':au}{s:SV}{v:gj}{b n nx o r:Nat}{l p:List UInt8}{st:Option (List UInt8)}
abbrev dK:SV:= .sc (.slice none 0 0)
abbrev rdO(s:SV)(w:Bool):VO:=aq 167 [s,.sc (.bool w)]
theorem DB(H:au):BsIs H dK (byV []):=⟨fun v hv=>by simp at hv,.inl ⟨rfl,_,_,rfl⟩⟩
theorem zX(l:List UInt8):ue (byV l):=fun v hv=>by obtain⟨c,_,rfl⟩:=Kx.1 hv;rfl
theorem bL(l:List UInt8):(byV l).length=l.length:=Kf _
def BlkAt(H:au)(r o:Nat)(l:List UInt8):Prop:= ∃ vo,H.at' r=some vo∧vo.cellsFrom o l.length=some ((byV l).map .sc)
theorem BlkAt.bs{C:Nat}(h:BlkAt H r o l):BsIs H (.sl r o l.length C) (byV l):=by
 obtain⟨vo,h1,h2⟩:=h
 exact⟨zX l,.inr (.inr ⟨r,o,C,vo,by rw [bL],h1,by rw [bL];exact h2⟩)⟩
theorem iw{vo:VO}: ∀ (n m o:Nat) (l:List SV),vo.cellsFrom o (n+m)=some l→vo.cellsFrom o n=some (l.take n)∧vo.cellsFrom (o+n) m=some (l.drop n)
 | 0,m,o,l,h=>by
   rw [Kc] at h
   exact⟨by simp [VO.cellsFrom],by simpa using h⟩
 | n+1,m,o,l,h=>by
   rw [show n+1+m=(n+m)+1 by omega] at h
   simp only [VO.cellsFrom] at h ⊢
   cases h1:vo.cell o with
   | none=>rw [h1] at h;cases h
   | some s=>
     rw [h1] at h
     simp only at h ⊢
     cases h2:vo.cellsFrom (o+1) (n+m)with
     | none=>rw [h2] at h;cases h
     | some l'=>
       rw [h2] at h
       simp only [JG] at h
       subst h
       obtain⟨g1,g2⟩:=iw n m (o+1) l' h2
       rw [g1,show o+(n+1)=o+1+n by omega]
       exact⟨by simp,by simpa using g2⟩
theorem BlkAt.part(h:BlkAt H r o l)(hn:n≤l.length):BlkAt H r o (l.take n)∧BlkAt H r (o+n) (l.drop n):=by
 obtain⟨vo,h1,h2⟩:=h
 rw [show l.length=n+(l.length-n) by omega] at h2
 obtain⟨g1,g2⟩:=iw n (l.length-n) o _ h2
 refine⟨⟨vo,h1,?_⟩,⟨vo,h1,?_⟩⟩
 ·rw [Ke,Nat.min_eq_left hn,g1]
  simp [List.map_take]
 ·rw [Kh,g2]
  simp [List.map_drop]
theorem BlkAt.frame(h:BlkAt H r o l)(hf:H'.at' r=H.at' r):BlkAt H' r o l:=by
 obtain⟨vo,h1,h2⟩:=h
 exact⟨vo,hf.trans h1,h2⟩
theorem BlkAt.none(H:au){vo:VO}(h:H.at' r=some vo)(o:Nat):BlkAt H r o []:=⟨vo,h,rfl⟩
def RdSt(H:au)(b r:Nat):Option (List UInt8)→Prop
 | some l=> ∃ o C,H.at' b=some (rdO (.sl r o l.length C) true)∧l.length≤C∧BlkAt H r o l
 | none=> ∃ s,H.at' b=some (rdO s false)
def BlkS(H:au)(s:SV)(r:Nat)(l:List UInt8):Prop:=(s=dK∧l= [])∨ ∃ o C,s = .sl r o l.length C∧BlkAt H r o l
theorem BlkS.bs(h:BlkS H s r l):BsIs H s (byV l):=by
 rcases h with ⟨rfl,rfl⟩|⟨o,C,rfl,h⟩
 ·exact DB _
 ·exact h.bs
theorem BlkS.frame(h:BlkS H s r l)(hf:H'.at' r=H.at' r):BlkS H' s r l:=by
 rcases h with h|⟨o,C,h1,h2⟩
 ·exact .inl h
 ·exact .inr ⟨o,C,h1,h2.frame hf⟩
theorem kO{w:Bool}(hb:H.at' b=some (rdO s w)):Fnc Tryz.prog 104 [.ptr b 0] H nx (fun q=>q=(.sc (.bool (!w)),H,nx)):=by
 refine KE Tryz.func104 rfl rfl ?_
 repeat first|apply ah;rfl|apply aG;rfl;assumption;rfl|refine cf (fm rfl rfl (F.un _ rfl) rfl) rfl rfl rfl ?_
 (apply bR Tryz.func104 Tryz.results104;rfl)
 rfl
theorem vI{n:Int}(hb:H.at' b=some (rdO s true))(hs:BsIs H s (byV l))(hn:n<0∨(l.length:Int)<n):Fnc Tryz.prog 103 [.ptr b 0,.sc (.int .i64 n)] H nx (fun q=> ∃ H',q=(dK,H',nx)∧H'.at' b=some (rdO dK false)∧ ∀ m,m≠b→H'.at' m=H.at' m):=by
 refine KE Tryz.func103 rfl rfl ?_
 (repeat' (first|apply ah;rfl|apply aG;rfl;(focus((repeat(first|assumption|exact ac));done));rfl|refine Hf (dg (F.sz _ rfl) rfl rfl rfl (by assumption) (by rfl) (by exact JL rfl) (by rfl)) rfl rfl ?_|apply bW;rfl;kernel_rfl;exact kO hb|(refine bu rfl rfl rfl rfl ?_ ?_ <;> intro hq1)|refine dh rfl rfl (F.un _ rfl) rfl hs ?_;rw [bL]|(refine dI rfl rfl rfl rfl ?_ ?_ <;> intro hq2)|exfalso;omega))
 all_goals(apply bR Tryz.func103 Tryz.results103;rfl)
 all_goals exact⟨_,rfl,ai _ _ _,fun m hm=>(aa _ _ hm).trans (aa _ _ hm)⟩
theorem yU{n:Int}(hb:H.at' b=some (rdO s false)):Fnc Tryz.prog 103 [.ptr b 0,.sc (.int .i64 n)] H nx (fun q=>q=(dK,H,nx)):=by
 refine KE Tryz.func103 rfl rfl ?_
 repeat first|apply ah;rfl|apply bW;rfl;kernel_rfl;exact kO hb
 (apply bR Tryz.func103 Tryz.results103;rfl)
 rfl
theorem D3{C:Nat}(hb:H.at' b=some (rdO (.sl r o l.length C) true))(hC:l.length≤C)(hn:n≤l.length):Fnc Tryz.prog 103 [.ptr b 0,.sc (.int .i64 (n:Int))] H nx (fun q=> ∃ H',q=(.sl r o n n,H',nx)∧H'.at' b=some (rdO (.sl r (if C=n then o else o+n) (l.length-n) (C-n)) true)∧ ∀ m,m≠b→H'.at' m=H.at' m):=by
 have ho:(bif Nat.beq n 0 then o else o+0*1)=o:=by cases Nat.beq n 0 <;> simp
 refine KE Tryz.func103 rfl rfl ?_
 repeat first|apply ah;rfl|apply aG;rfl;assumption;rfl|apply bW;rfl;kernel_rfl;exact kO hb|apply ll;rfl;omega|refine cf (gH (F.un _ rfl) rfl) rfl rfl rfl ?_
 (apply Hi (lw:=0) (hg:=n) (m:=n);rfl;rfl;rfl;exact(F.un _ rfl);exact(F.sz _ rfl);rfl;exact(iy rfl rfl);exact(iy rfl rfl);exact(J0 _);exact(JZ _);(focus(omega)))
 rw [ho]
 repeat first|apply ah;rfl|apply aG;rfl;assumption;rfl
 (apply yK (lw:=n) (hg:=l.length);rfl;rfl;rfl;exact(F.un _ rfl);exact(F.sz _ rfl);exact(iy rfl rfl);rfl;(focus(omega));(focus(omega));rfl)
 repeat first|apply ah;rfl|apply aG;rfl;assumption;rfl
 (apply bR Tryz.func103 Tryz.results103;rfl)
 exact⟨_,rfl,ai _ _ _,fun m hm=>aa _ _ hm⟩
theorem yT(h:RdSt H b r st)(hne:r≠b):Fnc Tryz.prog 103 [.ptr b 0,.sc (.int .i64 (n:Int))] H nx (fun q=> ∃ s H',q=(s,H',nx)∧BlkS H' s r (eM st n).1∧RdSt H' b r (eM st n).2∧ ∀ m,m≠b→H'.at' m=H.at' m):=by
 cases st with
 | none=>
   obtain⟨s,hs⟩:=h
   refine KD (yU hs) ?_
   rintro _ rfl
   exact⟨_,_,rfl,.inl ⟨rfl,rfl⟩,⟨s,hs⟩,fun m _=>rfl⟩
 | some l=>
   obtain⟨o,C,h1,h2,h4⟩:=h
   by_cases hn:n≤l.length
   ·rw [eE hn]
    refine KD (D3 h1 h2 hn) ?_
    rintro _ ⟨H',rfl,g1,g2⟩
    obtain⟨k1,k2⟩:=(h4.frame (g2 r hne)).part hn
    have hlt:(l.take n).length=n:=by rw [Ke];omega
    refine⟨_,_,rfl,.inr ⟨o,n,by rw [hlt],k1⟩,?_,g2⟩
    have hld:(l.drop n).length=l.length-n:=Kh
    refine⟨if C=n then o else o+n,C-n,by rw [hld];exact g1,by omega,?_⟩
    by_cases hc:C=n
    ·have:l.drop n= []:=List.drop_of_length_le (by omega)
     rw [this]
     obtain⟨vo,hv,_⟩:=k2
     exact BlkAt.none _ hv _
    ·rw [Ka hc]
     exact k2
   ·rw [gY (by omega)]
    refine KD (vI h1 (h4.bs) (.inr (by omega))) ?_
    rintro _ ⟨H',rfl,g1,g2⟩
    exact⟨_,_,rfl,.inl ⟨rfl,rfl⟩,⟨_,g1⟩,g2⟩
theorem AA(hb:BsIs H s (byV [])):Fnc Tryz.prog 102 [s] H nx (fun q=>q=(.tup [.sc (.int .u64 0),.sc (.int .i64 2)],H,nx)):=by
 refine KE Tryz.func102 rfl rfl ?_
 repeat first|apply cE;rfl|refine dh rfl rfl (F.un _ rfl) rfl hb ?_
 refine bu rfl rfl rfl rfl (fun _=>?_) (fun hq=>absurd hq (by decide))
 repeat apply ah;rfl
 (apply bR Tryz.func102 Tryz.results102;rfl)
 rfl
theorem Dq{bs:List UInt8}(hb:BsIs H s (byV bs))(h2:bs.length≤8):Fnc Tryz.prog 102 [s] H nx (fun q=> ∃ e:Int,q=(.tup [.sc (.int .u64 (beN bs:Int)),.sc (.int .i64 e)],H,nx)):=by
 cases bs with
 | nil=>
   refine KD (AA hb) ?_
   rintro _ rfl
   exact⟨2,rfl⟩
 | cons c bs=>
   refine KD (Jg hb (Nat.succ_le_succ (J0 _)) h2) ?_
   rintro _ rfl
   exact⟨0,rfl⟩
theorem yV(st:Option (List UInt8))(n:Nat):(eM st n).1= []∨(eM st n).1.length=n:=by
 cases st with
 | none=>exact .inl rfl
 | some l=>
   by_cases h:n≤l.length
   ·rw [eE h,Ke]
    exact .inr (by omega)
   ·rw [gY (by omega)]
    exact .inl rfl
theorem qC(st:Option (List UInt8))(n:Nat):(eM st n).1.length≤n:=by
 rcases yV st n with h|h
 ·rw [h];exact J0 _
 ·exact Nat.le_of_eq h
theorem HT(h:RdSt H b r st)(hne:r≠b)(h1:1≤n)(h2:n≤8):Fnc Tryz.prog 82 [.ptr b 0,.sc (.int .i64 (n:Int))] H nx (fun q=> ∃ H',q=(.sc (.int .u64 (beN (eM st n).1:Int)),H',nx)∧RdSt H' b r (eM st n).2∧ ∀ m,m≠b→H'.at' m=H.at' m):=by
 refine KE Tryz.func82 rfl rfl ?_
 repeat first|apply ah;rfl|apply ll;rfl;omega
 refine aE rfl rfl rfl (by kernel_rfl) (KD (yT (n:=n) h hne) ?_)
 rintro _ ⟨s,H',rfl,g1,g2,g3⟩
 dsimp only
 refine aE rfl rfl rfl (by kernel_rfl) (KD (Dq g1.bs (J7 (qC _ _) h2)) ?_)
 rintro _ ⟨e,rfl⟩
 dsimp only
 repeat apply ah;rfl
 (apply bR Tryz.func82 Tryz.results82;rfl)
 exact⟨_,rfl,g2,g3⟩
theorem z8(hb:H.at' b=some (rdO (.slu r 0 l.length) true))(hr:H.at' r=some (dat false l.length 1 5 (byV l)))(hbk:BlkAt H r 0 l)(hne:r≠b)(h1:1≤n)(h2:n≤8):Fnc Tryz.prog 82 [.ptr b 0,.sc (.int .i64 (n:Int))] H nx (fun q=> ∃ H',q=(.sc (.int .u64 (beN (eM (some l) n).1:Int)),H',nx)∧RdSt H' b r (eM (some l) n).2∧ ∀ m,m≠b→H'.at' m=H.at' m):=by
 refine KE Tryz.func82 rfl rfl ?_
 by_cases hl:l.length=0
 ·have hs0:eM (some l) n=([],none):=gY (by omega)
  rw [hs0]
  repeat first|apply ah;rfl|apply ll;rfl;omega
  refine aE rfl rfl rfl (by kernel_rfl) (KD (vI (n:=(n:Int)) (l:=l) hb (jz hr (by rfl)) (.inr (by omega))) ?_)
  rintro _ ⟨H',rfl,g1,g2⟩
  dsimp only
  refine aE rfl rfl rfl (by kernel_rfl) (KD (AA (DB _)) ?_)
  rintro _ rfl
  dsimp only
  repeat apply ah;rfl
  (apply bR Tryz.func82 Tryz.results82;rfl)
  exact⟨_,rfl,⟨_,g1⟩,g2⟩
 ·refine xu [] [.sc (.bool true)] hb hr (by omega) (by omega) ?_
  intro C hC
  have hst:RdSt (H.set b (aq 167 ([] ++ .sl r (0*1) l.length C :: [.sc (.bool true)]))) b r (some l):=⟨0,C,ai _ _ _,hC,hbk.frame (aa _ _ hne)⟩
  have hfr: ∀ m,m≠b→(H.set b (aq 167 ([] ++ .sl r (0*1) l.length C :: [.sc (.bool true)]))).at' m=H.at' m:=fun m hm=>aa _ _ hm
  generalize H.set b (aq 167 ([] ++ .sl r (0*1) l.length C :: [.sc (.bool true)]))=H0 at hst hfr ⊢
  repeat first|apply ah;rfl|apply ll;rfl;omega
  refine aE rfl rfl rfl (by kernel_rfl) (KD (yT (n:=n) hst hne) ?_)
  rintro _ ⟨s,H',rfl,g1,g2,g3⟩
  dsimp only
  refine aE rfl rfl rfl (by kernel_rfl) (KD (Dq g1.bs (J7 (qC _ _) h2)) ?_)
  rintro _ ⟨e,rfl⟩
  dsimp only
  repeat apply ah;rfl
  (apply bR Tryz.func82 Tryz.results82;rfl)
  exact⟨_,rfl,g2,fun m hm=>(g3 m hm).trans (hfr m hm)⟩
theorem AR(h:RdSt H b r st)(hne:r≠b):Fnc Tryz.prog 83 [.ptr b 0] H nx (fun q=> ∃ s H',q=(s,H',nx)∧BlkS H' s r (ix st).1∧RdSt H' b r (ix st).2∧ ∀ m,m≠b→H'.at' m=H.at' m):=by
 have hlt:=mD (eM st 2).1
 have hp:256 ^ (eM st 2).1.length≤256 ^ 2:=Nat.pow_le_pow_right (by decide) (qC _ _)
 refine KE Tryz.func83 rfl rfl ?_
 repeat apply ah;rfl
 refine aE rfl rfl rfl (by kernel_rfl) (KD (HT (n:=2) h hne (by decide) (by decide)) ?_)
 rintro _ ⟨H1,rfl,g1,g2⟩
 dsimp only
 repeat refine cf (bZ (F.un _ rfl) (F.un _ rfl) rfl (show _=((beN (eM st 2).1:Nat):Int)from JH _ ⟨by omega,by omega⟩)) rfl rfl rfl ?_
 refine aE rfl rfl rfl (by kernel_rfl) (KD (yT (n:=beN (eM st 2).1) g1 hne) ?_)
 rintro _ ⟨s,H2,rfl,k1,k2,k3⟩
 dsimp only
 repeat apply ah;rfl
 (apply bR Tryz.func83 Tryz.results83;rfl)
 exact⟨_,_,rfl,k1,k2,fun m hm=>(k3 m hm).trans (g2 m hm)⟩
def endR:Option (List UInt8)→Nat
 | some []=>0
 | _=>4
theorem HV(hb:H.at' b=some (rdO s true))(hs:BsIs H s (byV l)):Fnc Tryz.prog 105 [.ptr b 0] H nx (fun q=>q=(.sc (.int .i64 (l.length:Int)),H,nx)):=by
 refine KE Tryz.func105 rfl rfl ?_
 repeat first|apply ah;rfl|apply aG;rfl;assumption;rfl|apply bW;rfl;kernel_rfl;exact kO hb|refine dh rfl rfl (F.un _ rfl) rfl hs ?_;rw [bL]
 (apply bR Tryz.func105 Tryz.results105;rfl)
 rfl
theorem end_s(h:RdSt H b r st):Fnc Tryz.prog 84 [.ptr b 0] H nx (fun q=>q=(.sc (.int .i64 (endR st:Int)),H,nx)):=by
 refine KE Tryz.func84 rfl rfl ?_
 cases st with
 | none=>
   obtain⟨s,hs⟩:=h
   repeat first|apply ah;rfl|refine cf (fm rfl rfl (F.un _ rfl) rfl) rfl rfl rfl ?_|apply bW;rfl;kernel_rfl;exact kO hs
   (apply bR Tryz.func84 Tryz.results84;rfl)
   rfl
 | some l=>
   obtain⟨o,C,h1,h2,h4⟩:=h
   have hb4:=h4.bs (C:=C)
   repeat first|apply ah;rfl|refine cf (fm rfl rfl (F.un _ rfl) rfl) rfl rfl rfl ?_|apply bW;rfl;kernel_rfl;exact kO h1|apply bW;rfl;kernel_rfl;exact HV h1 hb4
   refine dI rfl rfl rfl rfl (fun hq=>?_) (fun hq=>?_)
   all_goals(repeat(apply ah;rfl))
   all_goals(apply bR Tryz.func84 Tryz.results84;rfl)
   all_goals(cases l with|nil=>_|cons c l=>_)
   all_goals first|rfl|(exfalso;simp at hq;done)|(exfalso;simp only [J2,List.length_nil] at hq;omega)
abbrev im(k w:SV)(x y:Nat):SV:= .agg [k,w,.sc (.int .u64 (x:Int)),.sc (.int .u64 (y:Int))]
def VerIs(H:au)(s:SV)(v:gj):Prop:= ∃ k w,s=im k w v.2.2.1 v.2.2.2∧BsIs H k (byV v.1)∧BsIs H w (byV v.2.1)
theorem VerIs.frame(h:VerIs H s v)(hf: ∀ b vo,H.at' b=some vo→H'.at' b=some vo):VerIs H' s v:=by
 obtain⟨k,w,h1,h2,h3⟩:=h
 exact⟨k,w,h1,h2.frame hf,h3.frame hf⟩
abbrev iY:gj:=([],[],0,0)
theorem ED(hv:VerIs H s v):Fnc Tryz.prog 71 [s] H nx (fun q=>q=(.sc (.bool (gV v)),H,nx)):=by
 refine Fnc.bA (Free.sc _) ?_
 obtain⟨k,w,rfl,hk,hw⟩:=hv
 refine KE Tryz.func71 rfl rfl ?_
 refine aV fun hund=>?_
 have hf: ∀ {vo:VO} (b:Nat) (vo':VO),H.at' b=some vo'→(H.set nx vo).at' b=some vo':=fun b vo' hb=>(aa _ _ (by have:=hund b vo' hb;omega)).trans hb
 have hk2: ∀ {vo:VO},BsIs (H.set nx vo) k (byV v.1):=fun {vo}=>hk.frame hf
 have hw2: ∀ {vo:VO},BsIs (H.set nx vo) w (byV v.2.1):=fun {vo}=>hw.frame hf
 have hm:gV v=decide ((1≤v.1.length∧v.1.length≤32)∧v.2.1.length≤128∧(1≤v.2.2.1∧v.2.2.1≤4000)∧v.2.2.2≤4000):=rfl
 have hl1:=bL v.1
 have hl2:=bL v.2.1
 (repeat' (first|apply ah;rfl|apply aG;rfl;(focus((repeat(exact ac));done));rfl|refine dh rfl rfl (F.un _ rfl) rfl hk2 ?_;rw [bL]|refine dh rfl rfl (F.un _ rfl) rfl hw2 ?_;rw [bL]|(refine eK rfl rfl rfl rfl ?_ ?_ <;> intro hq)|(refine pU rfl rfl rfl rfl ?_ ?_ <;> intro hq2)))
 all_goals(apply bR Tryz.func71 Tryz.results71;rfl)
 all_goals(refine⟨?_,J8 _,fun m hm=>aa _ _ (by omega)⟩)
 all_goals(rw [hm];first|(rw [Kt (by omega)];rfl)|(rw [Ku (by omega)];rfl))
theorem LsIs.nil(H:au):LsIs H [] []:=⟨rfl,fun j s vs h=>by simp at h⟩
theorem LsIs.cons{vs:List Value}{ls:List SV}{bs:List (List Value)}(h:BsIs H s vs)(t:LsIs H ls bs):LsIs H (s :: ls) (vs :: bs):=by
 refine⟨by simp [t.1],fun j s' vs' h1 h2=>?_⟩
 cases j with
 | zero=>
   simp only [JX,JG] at h1 h2
   subst h1 h2
   exact h
 | succ j=>exact t.2 j s' vs' (by simpa using h1) (by simpa using h2)
theorem ku(a b:List UInt8):byV (a ++ b)=byV a ++ byV b:=J4
theorem shr8(n:Nat):((n:Nat):Int).fdiv (2 ^ (min (8:Int).toNat IntKind.i64.bits))=((n / 256:Nat):Int):=by
 rw [show min (8:Int).toNat IntKind.i64.bits=8 from rfl,Int.fdiv_eq_ediv_of_nonneg _ (by decide)]
 omega
theorem E9(n:Nat):byV (beB n 2)= [.int .u8 ((UInt8.ofNat (n / 256)).toNat:Int),.int .u8 ((UInt8.ofNat n).toNat:Int)]:=by
 rw [kW,kW]
 simp [beB]
theorem DC(hs:BsIs H s (byV l))(hl:l.length≤65535):Fnc Tryz.prog 72 [s] H nx (fun q=> ∃ r,q.1 = .tup [.slu r 0 (jr l).length,.sc (.int .i64 0)]∧q.2.1.at' r=some (u8R false (byV (jr l)))∧nx≤r∧r<q.2.2∧ ∀ m,m<nx→q.2.1.at' m=H.at' m):=by
 refine KE Tryz.func72 rfl rfl ?_
 refine aV fun hund=>?_
 have hbl:(byV (jr l))= [.int .u8 ((UInt8.ofNat (l.length / 256)).toNat:Int),.int .u8 ((UInt8.ofNat l.length).toNat:Int)] ++ (byV l ++ []):=by
  unfold jr
  rw [ku,E9,Ko]
 have hf: ∀ (vo vo':VO) (b:Nat) (w:VO),H.at' b=some w→((H.set nx vo).set (nx+1) vo').at' b=some w:=fun vo vo' b w hb=>by
  have:=hund b w hb
  exact(aa _ _ (by omega)).trans ((aa _ _ (by omega)).trans hb)
 have hs0:=hs
 repeat first|apply cE;rfl|refine dh rfl rfl (F.un _ rfl) rfl hs ?_;rw [bL]
 refine dI rfl rfl rfl rfl (fun hq=>absurd hq (by omega)) (fun _=>?_)
 repeat first|apply cE;rfl|refine dh rfl rfl (F.un _ rfl) rfl hs ?_;rw [bL]|refine cf (oG rfl rfl (by focus(decide)) (shr8 _)) rfl rfl rfl ?_|refine cf (bZ (F.un _ rfl) (F.un _ rfl) rfl (xv _)) rfl rfl rfl ?_
 obtain⟨_,⟨_,_,_,rfl⟩|⟨r0,eo,ne,ro0,t0,us,rfl,hb0,hn0,hu0⟩|⟨b0,o0,C0,vo0,rfl,hb0,hc0⟩⟩:=hs0
 all_goals(repeat(first|apply bF;rfl;rfl;exact(F.un _ rfl);exact(F.sz _ rfl);rfl;exact(F.ze _ rfl);rfl;rfl;rfl;rfl;rfl|apply ah;rfl))
 all_goals
  refine aE rfl rfl rfl (by kernel_rfl) (KD (th (bs:= [[.int .u8 ((UInt8.ofNat (l.length / 256)).toNat:Int),.int .u8 ((UInt8.ofNat l.length).toNat:Int)],byV l]) (ls:= [_,_]) (ai _ _ _) (LsIs.cons (BsIs.row (ne:=2) (fun v hv=>by rcases Kp.1 hv with rfl|hv;rfl;rw [Kg.1 hv];rfl) ((aa _ _ (by omega)).trans ((ai _ _ _).trans (congrArg some (ij _ _ _ _ [.int .u8 ((UInt8.ofNat (l.length / 256)).toNat:Int),.int .u8 ((UInt8.ofNat l.length).toNat:Int)])))) rfl) (LsIs.cons (hs.frame (hf _ _)) (LsIs.nil _))) (by simp;omega) (JL rfl)) ?_)
  rintro _ rfl
  dsimp only
  repeat apply ah;rfl
  (apply bR Tryz.func72 Tryz.results72;rfl)
 all_goals
  refine⟨nx+1+1,?_,?_,by omega,Nat.lt_succ_self _,fun m hm=>by(repeat(refine ab (by omega) ?_));rfl⟩
  ·rw [show(jr l).length=(byV (jr l)).length from(bL _).symm,hbl]
   rfl
  ·refine(ai _ _ _).trans ?_
   rw [hbl]
   rfl
theorem ju{ro:Bool}(h:H.at' r=some (u8R ro (byV l))):BsIs H (.slu r 0 l.length) (byV l):=by
 have:=BsIs.row (zX l) h rfl
 rwa [bL] at this
theorem AO(hv:VerIs H s v)(hm:gV v=true):Fnc Tryz.prog 32 [s] H nx (fun q=> ∃ r,q.1 = .tup [.slu r 0 (aQ v).length,.sc (.int .i64 0)]∧q.2.1.at' r=some (u8R false (byV (aQ v)))∧nx≤r∧r<q.2.2∧ ∀ m,m<nx→q.2.1.at' m=H.at' m):=by
 have hv0:=hv
 have hb:=Km hm
 obtain⟨k,w,rfl,hk,hw⟩:=hv
 refine KE Tryz.func32 rfl rfl ?_
 refine aV fun hund=>?_
 repeat first|apply ah;rfl|apply aG;rfl;(focus((repeat(exact ac));done));rfl
 have hm1:=ED (H:=H.set nx (aq 38 [k,w,.sc (.int .u64 (v.2.2.1:Int)),.sc (.int .u64 (v.2.2.2:Int))])) (nx:=nx+1) (hv0.frame fun b vo hb=>(aa _ _ (by have:=hund b vo hb;omega)).trans hb)
 rw [hm] at hm1
 repeat first|apply ah;rfl|apply aG;rfl;(focus((repeat(exact ac));done));rfl|apply bW;rfl;kernel_rfl;exact hm1
 refine aE rfl rfl rfl (by kernel_rfl) (KD (BP (n:=v.2.2.1) (size:=8) (by omega) (by decide) (by decide) (by omega)) ?_)
 rintro⟨_,H2,n2⟩ ⟨rfl,a2,rfl,a4⟩
 dsimp only at a2 a4 ⊢
 have hbox2:H2.at' nx=some (aq 38 [k,w,.sc (.int .u64 (v.2.2.1:Int)),.sc (.int .u64 (v.2.2.2:Int))]):=(a4 nx (by omega)).trans (ai _ _ _)
 repeat first|apply ah;rfl|apply aG;rfl;assumption;rfl
 refine aE rfl rfl rfl (by kernel_rfl) (KD (BP (n:=v.2.2.2) (size:=8) (by omega) (by decide) (by decide) (by omega)) ?_)
 rintro⟨_,H3,n3⟩ ⟨rfl,b2,rfl,b4⟩
 dsimp only at b2 b4 ⊢
 have hbox3:=(b4 nx (by omega)).trans hbox2
 have h3: ∀ m,m<nx→H3.at' m=H.at' m:=fun m hm=>(b4 m (by omega)).trans ((a4 m (by omega)).trans (aa _ _ (by omega)))
 repeat first|apply ah;rfl|apply aG;rfl;assumption;rfl
 refine aE rfl rfl rfl (by kernel_rfl) (KD (DC (hk.frame fun b vo hb=>(h3 b (hund b vo hb)).trans hb) (by omega)) ?_)
 rintro⟨_,H4,n4⟩ ⟨r4,rfl,c2,c3,c4,c5⟩
 dsimp only at c2 c3 c4 c5 ⊢
 have hbox4:=(c5 nx (by omega)).trans hbox3
 have h4: ∀ m,m<nx→H4.at' m=H.at' m:=fun m hm=>(c5 m (by omega)).trans (h3 m hm)
 repeat first|apply ah;rfl|apply aG;rfl;assumption;rfl
 refine aE rfl rfl rfl (by kernel_rfl) (KD (DC (hw.frame fun b vo hb=>(h4 b (hund b vo hb)).trans hb) (by omega)) ?_)
 rintro⟨_,H5,n5⟩ ⟨r5,rfl,d2,d3,d4,d5⟩
 dsimp only at d2 d3 d4 d5 ⊢
 have h5: ∀ m,m<nx→H5.at' m=H.at' m:=fun m hm=>(d5 m (by omega)).trans (h4 m hm)
 have e1:H5.at' (nx+1)=some (dat false 8 1 5 (byV (beB v.2.2.1 8))):=(d5 _ (by omega)).trans ((c5 _ (by omega)).trans ((b4 _ (by omega)).trans a2))
 have e2:H5.at' (nx+1+1)=some (dat false 8 1 5 (byV (beB v.2.2.2 8))):=(d5 _ (by omega)).trans ((c5 _ (by omega)).trans b2)
 have e3:H5.at' r4=some (u8R false (byV (jr v.1))):=(d5 _ (by omega)).trans c2
 clear a2 a4 b2 b4 c2 c5
 refine aV fun hund5=>?_
 repeat first|apply bF;rfl;rfl;exact(F.un _ rfl);exact(F.sz _ rfl);rfl;exact(F.ze _ rfl);rfl;rfl;rfl;rfl;rfl|apply ah;rfl
 have hfr: ∀ (vo:VO) (b:Nat) (x:VO),H5.at' b=some x→(H5.set n5 vo).at' b=some x:=fun vo b x hx=>(aa _ _ (by have:=hund5 b x hx;omega)).trans hx
 have hfl:byV (aQ v)=byV (beB v.2.2.1 8) ++ (byV (beB v.2.2.2 8) ++ (byV (jr v.1) ++ (byV (jr v.2.1) ++ []))):=by
  unfold aQ
  rw [ku,ku,ku,Ko]
 have hvl:=dT v
 refine aE rfl rfl rfl (by kernel_rfl) (KD (th (bs:= [byV (beB v.2.2.1 8),byV (beB v.2.2.2 8),byV (jr v.1),byV (jr v.2.1)]) (ls:= [_,_,_,_]) (ai _ _ _) (LsIs.cons ((jz e1 (bz _ _)).frame (hfr _)) (LsIs.cons ((jz e2 (bz _ _)).frame (hfr _)) (LsIs.cons ((ju e3).frame (hfr _)) (LsIs.cons ((ju d2).frame (hfr _)) (LsIs.nil _))))) (by show(byV (beB v.2.2.1 8) ++ (byV (beB v.2.2.2 8) ++ (byV (jr v.1) ++ (byV (jr v.2.1) ++ [])))).length≤_;rw [← hfl,bL,hvl];omega) (JL rfl)) ?_)
 rintro _ rfl
 dsimp only
 repeat apply ah;rfl
 (apply bR Tryz.func32 Tryz.results32;rfl)
 refine⟨n5+1,?_,?_,by omega,Nat.lt_succ_self _,fun m hm=>(aa _ _ (by omega)).trans ((aa _ _ (by omega)).trans (h5 m hm))⟩
 ·rw [show(aQ v).length=(byV (aQ v)).length from(bL _).symm,hfl]
  rfl
 ·refine(ai _ _ _).trans ?_
  rw [hfl]
  rfl
theorem Cy(hv:VerIs H s v)(hm:gV v=false):Fnc Tryz.prog 32 [s] H nx (fun q=>q=(.tup [dK,.sc (.int .i64 2)],H,nx)):=by
 refine Fnc.bA (Free.two (Free.sc _) (Free.sc _)) ?_
 have hv0:=hv
 obtain⟨k,w,rfl,hk,hw⟩:=hv
 refine KE Tryz.func32 rfl rfl ?_
 refine aV fun hund=>?_
 have hm1:=ED (H:=H.set nx (aq 38 [k,w,.sc (.int .u64 (v.2.2.1:Int)),.sc (.int .u64 (v.2.2.2:Int))])) (nx:=nx+1) (hv0.frame fun b vo hb=>(aa _ _ (by have:=hund b vo hb;omega)).trans hb)
 rw [hm] at hm1
 repeat first|apply ah;rfl|apply aG;rfl;(focus((repeat(exact ac));done));rfl|apply bW;rfl;kernel_rfl;exact hm1
 (apply bR Tryz.func32 Tryz.results32;rfl)
 exact⟨rfl,J8 _,fun m hm=>aa _ _ (by omega)⟩
theorem sd(ro:Bool)(l:List UInt8):u8R ro (byV l)=dat ro l.length 1 5 (byV l):=by
 show dat ro (byV l).length 1 _ _=_
 rw [bL]
theorem tS{ro:Bool}(h:H.at' r=some (dat ro l.length 1 5 (byV l))):BlkAt H r 0 l:=by
 refine⟨_,h,?_⟩
 exact jq l.length 0 (by rw [List.drop_zero];exact JR (by rw [bL];exact JZ _)) (bL l) (by omega)
theorem Hy(hs:BsIs H s (byV l))(hl:l.length≤140737488355328):Fnc Tryz.prog 81 [s] H nx (fun q=> ∃ r b,q.1 = .ptr b 0∧q.2.1.at' b=some (rdO (.slu r 0 l.length) true)∧q.2.1.at' r=some (dat false l.length 1 5 (byV l))∧r≠b∧nx≤r∧nx≤b∧r<q.2.2∧b<q.2.2∧ ∀ m,m<nx→q.2.1.at' m=H.at' m):=by
 refine KE Tryz.func81 rfl rfl ?_
 refine aV fun hund=>?_
 have hfr: ∀ (vo:VO) (b:Nat) (x:VO),H.at' b=some x→(H.set nx vo).at' b=some x:=fun vo b x hx=>(aa _ _ (by have:=hund b x hx;omega)).trans hx
 have hs0:=hs
 obtain⟨_,⟨_,_,_,rfl⟩|⟨r0,eo,ne,ro0,t0,us,rfl,hb0,hn0,hu0⟩|⟨b0,o0,C0,vo0,rfl,hb0,hc0⟩⟩:=hs0
 all_goals(repeat(first|apply bF;rfl;rfl;exact(F.un _ rfl);exact(F.sz _ rfl);rfl;exact(F.ze _ rfl);rfl;rfl;rfl;rfl;rfl|apply ah;rfl))
 all_goals
  refine aE rfl rfl rfl (by kernel_rfl) (KD (th (bs:= [byV l]) (ls:= [_]) (ai _ _ _) (LsIs.cons (hs.frame (hfr _)) (LsIs.nil _)) (by show(byV l ++ []).length≤_;rw [Ko,bL];exact hl) (JL rfl)) ?_)
  rintro _ rfl
  dsimp only
  have hfl: [byV l].flatten=byV l:=Ko _
  rw [hfl,bL]
  repeat apply ah;rfl
  (apply bR Tryz.func81 Tryz.results81;rfl)
  refine⟨nx+1,nx+1+1,rfl,ai _ _ _,((aa _ _ (by omega)).trans (ai _ _ _)).trans (congrArg some (sd _ _)),by omega,by omega,by omega,by dsimp only;omega,by dsimp only;omega,fun m hm=>by(repeat(refine ab (by omega) ?_));rfl⟩
def aS(p:List UInt8)(j:Nat):List UInt8:=(p.drop (ay p j)).take (ar p j)
theorem jd(p:List UInt8): ∀ (k n:Nat) (seen:List (Nat×Nat)) (fine:Bool),fi p k n seen fine=true→ ∀ j,n≤j→j<n+k→(ay p j=0∧ar p j=0)∨(1≤ar p j∧ar p j≤1000∧aF p≤ay p j∧ay p j+ar p j≤1024)
 | 0,n,seen,fine,_,j,h1,h2=>absurd h1 (by omega)
 | k+1,n,seen,fine,h,j,h1,h2=>by
   unfold fi at h
   split at h
   ·rename_i h3
    rcases Kd n j with h4|h4
    ·exact jd p k (n+1) _ _ h j (by omega) (by omega)
    ·obtain rfl:n=j:=by omega
     exact .inl h3
   ·split at h
    ·cases h
    ·split at h
     ·cases h
     ·rename_i h5 _
      rcases Kd n j with h4|h4
      ·exact jd p k (n+1) _ _ h j (by omega) (by omega)
      ·obtain rfl:n=j:=by omega
       exact .inr (by omega)
theorem db(h:bj p=true){j:Nat}(hj:j<ae p)(hs:ar p j≠0):1≤ar p j∧ar p j≤1000∧aF p≤ay p j∧ay p j+ar p j≤1024:=by
 unfold bj at h
 rw [JY] at h
 rcases jd p _ _ _ _ h.2 j (J0 _) (by omega)with h1|h1
 ·exact absurd h1.2 hs
 ·exact h1
theorem dL(hp:p.length=1024){j:Nat}(h:ay p j+ar p j≤1024):(aS p j).length=ar p j:=by
 unfold aS
 rw [Ke,Kh]
 omega
theorem uR{l f q:Nat}(hp:p.length=1024)(hr:bj p=true){f2 nt2:Nat}{T2:Tr SV}{ps:Array Tmp}{ca cb:Code}{dr:Nat}(hps:ps.size=2)(I:Nat→au→Nat→Prop)(J:au→Nat→Prop)
 (hI: ∀ j H nx,I j H nx→H.at' l=some (.loop .ready none f2 nt2 T2 ps ca cb dr)∧H.at' f=some (aq 4 [.sc (.bool true)])∧H.at' q=some (pgO p)∧l<nx∧f<nx∧q<nx)
 (hgrow: ∀ j H nx H' nx',I j H nx→nx≤nx'→(∀ m,m<nx→H'.at' m=H.at' m)→I j H' nx')
 (hskip: ∀ j H nx,I j H nx→ar p j=0→I (j+1) H nx)
 (hround: ∀ j H1 n1 r,I j H1 n1→nx≤r→r<n1→j<ae p→ar p j≠0→H1.at' r=some (u8R false (byV (aS p j))) →
   Wp Tryz.prog (some l) ⟨f2,nt2,(ps.toList.zip [.sc (.int .i64 (j:Int)),.slu r 0 (aS p j).length]).foldl (fun T x=>mH nt2 T (some x.1) x.2) T2,[.code ca,.beginRound,.code cb],[],H1,n1⟩ (fun x=>(x.1 = .sc (.bool true)∧I (j+1) x.2.1 x.2.2∧n1≤x.2.2∧x.2.1.at' nx=H1.at' nx)∨(x.1 = .sc (.bool false)∧J x.2.1 x.2.2)))
 (h0:I 0 H nx):Fnc Tryz.prog 79 [.yld l,.ptr f 0,.ptr q 0] H nx (fun r=>I (ae p) r.2.1 r.2.2∨J r.2.1 r.2.2):=by
 have hf:=fK hp hr
 obtain⟨_,hp1,hp2⟩:=hf
 have hJ0:Nat.beq ps.size 2=true:=by rw [hps];rfl
 refine KE Tryz.func79 rfl rfl ?_
 obtain⟨i1,i2,i3,i4,i5,i6⟩:=hI _ _ _ h0
 have hg1:I 0 (H.set nx (Cj q)) (nx+1):=hgrow _ _ _ _ _ h0 (J8 _) fun m hm=>aa _ _ (by omega)
 have hq1: ∀ {vo:VO},(H.set nx vo).at' q=some (pgO p):=fun {vo}=>(aa _ _ (by omega)).trans i3
 repeat first|apply ah;rfl|apply aG;rfl;assumption;rfl|apply bW;rfl;kernel_rfl;exact mr|apply bW;rfl;kernel_rfl;exact jc hq1 hp
 refine bE (α:=Nat) (fun j=> [(0,.yld l),(2,.ptr q 0),(4,EW nx),(11,.sc (.int .i64 (ae p:Int))),(12,.sc (.int .i64 (j:Int)))])
  (fun j H1 n1=>j≤ae p∧I j H1 n1∧nx+1≤n1∧H1.at' nx=some (Cj q)) (fun j=>ae p-j) 0
  ⟨J0 _,hg1,JZ _,ai _ _ _⟩ (KK (KN rfl)) ?_
 clear hg1 h0 hq1 i1 i2 i3
 rintro j H1 n1 ⟨h1,h2,h3,h4⟩ ih
 obtain⟨k1,k2,k3,k4,k5,k6⟩:=hI _ _ _ h2
 repeat apply ah;rfl
 refine bu rfl rfl rfl rfl (fun h5=>?_) (fun h5=>?_)
 ·repeat apply ah;rfl
  refine jH rfl rfl rfl rfl (by kernel_rfl) (KD (ot h4 k3 hp (n:=j) (by omega)) ?_)
  rintro _ rfl
  dsimp only
  repeat apply ah;rfl
  refine cF rfl rfl rfl rfl (fun e1=>?_) (fun e1=>?_)
  ·repeat first|apply ah;rfl|apply aL;rfl;omega;omega
   exact ih _ _ _ (j+1) ⟨by omega,hskip _ _ _ h2 (by omega),h3,h4⟩ (by omega) (KK (KN rfl))
  ·have hs:=db hr (j:=j) (by omega) (by omega)
   have hil:=dL hp hs.2.2.2
   have hbl:=bL (aS p j)
   repeat first|apply ah;rfl|apply aL;rfl;omega;omega|apply li (lw:=ay p j) (hg:=ay p j+ar p j);rfl;rfl;rfl;exact(F.un _ rfl);exact(F.sz _ rfl);rfl;rfl;(focus(omega));(focus(omega));(focus(omega));exact(show ay p j+ar p j-ay p j=ar p j by omega);rfl;exact(Kc _)|refine cf (fm rfl rfl Tryz.underlying139 rfl) rfl rfl rfl ?_|apply bF;rfl;rfl;exact(F.un _ rfl);exact(F.sz _ rfl);rfl;exact(F.ze _ rfl);rfl;rfl;rfl;rfl;rfl
   refine aE rfl rfl rfl (by kernel_rfl) (KD (th (bs:= [byV (aS p j)]) (ls:= [_]) (ai _ _ _) (LsIs.cons (nj ((aa _ _ (by omega)).trans k3) (by omega)) (LsIs.nil _)) (by show(byV (aS p j) ++ []).length≤_;rw [Ko];omega) (JL rfl)) ?_)
   rintro _ rfl
   dsimp only
   have hfl: [byV (aS p j)].flatten=byV (aS p j):=Ko _
   rw [hfl,bL]
   have hg:I j ((H1.set n1 (bsR false [.sl q (ay p j) (ar p j) (1024-ay p j)])).set (n1+1) (u8R false (byV (aS p j)))) (n1+1+1):=hgrow _ _ _ _ _ h2 (by omega) fun m hm=>(aa _ _ (by omega)).trans (aa _ _ (by omega))
   have hl2:=(hI _ _ _ hg).1
   refine yH (n:=l) rfl rfl rfl rfl hl2 hJ0 ?_
   refine Wp.mono (hround j _ _ (n1+1) hg (by omega) (by omega) (by omega) (by omega) (ai _ _ _)) ?_
   rintro⟨v,H2,n2⟩ (⟨rfl,g2,g3,g4⟩|⟨rfl,g2⟩)
   ·dsimp only at g2 g3 g4 ⊢
    repeat first|apply ah;rfl|apply aL;rfl;omega;omega
    exact ih _ _ _ (j+1) ⟨by omega,g2,by omega,g4.trans ((aa _ _ (by omega)).trans ((aa _ _ (by omega)).trans h4))⟩ (by omega) (KK (KN rfl))
   ·dsimp only at g2 ⊢
    repeat apply ah;rfl
    (apply bR Tryz.func79 Tryz.results79;rfl)
    exact .inr g2
 ·obtain rfl:j=ae p:=by omega
  repeat apply ah;rfl
  (apply C6 Tryz.func79 Tryz.results79;rfl)
  exact .inl h2
abbrev ez(s:List SV):VO:=aq 38 s
abbrev dB(k w:SV)(x y:Nat):List SV:= [k,w,.sc (.int .u64 (x:Int)),.sc (.int .u64 (y:Int))]
def B0(o:Option gj):Nat:=if o.isSome then 0 else 13
theorem BlkS.DI{k w:SV}(hk:BlkS H k r v.1)(hw:BlkS H w r v.2.1):VerIs H (im k w v.2.2.1 v.2.2.2) v:=⟨k,w,rfl,hk.bs,hw.bs⟩
def VerAt(H:au)(s:SV)(r:Nat)(v:gj):Prop:= ∃ k w,s=im k w v.2.2.1 v.2.2.2∧BlkS H k r v.1∧BlkS H w r v.2.1
theorem VerAt.is(h:VerAt H s r v):VerIs H s v:=by
 obtain⟨k,w,h1,h2,h3⟩:=h
 exact⟨k,w,h1,h2.bs,h3.bs⟩
theorem VerAt.frame(h:VerAt H s r v)(hf:H'.at' r=H.at' r):VerAt H' s r v:=by
 obtain⟨k,w,h1,h2,h3⟩:=h
 exact⟨k,w,h1,h2.frame hf,h3.frame hf⟩
theorem gy(H:au)(r:Nat):VerAt H (im dK dK 0 0) r iY:=⟨dK,dK,rfl,.inl ⟨rfl,rfl⟩,.inl ⟨rfl,rfl⟩⟩
theorem RdSt.frame(h:RdSt H b r st)(hb:H'.at' b=H.at' b)(hr:H'.at' r=H.at' r):RdSt H' b r st:=by
 cases st with
 | none=>obtain⟨s,h⟩:=h;exact⟨s,hb.trans h⟩
 | some l=>obtain⟨o,C,h1,h2,h3⟩:=h;exact⟨o,C,hb.trans h1,h2,h3.frame hr⟩
theorem of_s(hs:BsIs H s (byV l))(hl:l.length≤140737488355328):Fnc Tryz.prog 40 [s] H nx (fun q=> ∃ s' r,q.1 = .tup [s',.sc (.int .i64 (B0 (ofV l):Int))]∧VerAt q.2.1 s' r ((ofV l).getD iY)∧nx≤r∧nx≤q.2.2∧ ∀ m,m<nx→q.2.1.at' m=H.at' m):=by
 refine KE Tryz.func40 rfl rfl ?_
 refine aV fun hund=>?_
 have hs1: ∀ {vo:VO},BsIs (H.set nx vo) s (byV l):=fun {vo}=>hs.frame fun b x hb=>(aa _ _ (by have:=hund b x hb;omega)).trans hb
 repeat first|apply cE;rfl|refine dh rfl rfl (F.un _ rfl) rfl hs1 ?_;rw [bL]
 refine dI rfl rfl rfl rfl (fun h1=>?_) (fun h1=>?_)
 ·have hv:ofV l=none:=by unfold ofV;rw [Kb (by omega)]
  repeat first|apply ah;rfl|apply aG;rfl;(focus((repeat(exact ac));done));rfl
  ((apply bw Tryz.func40 (congrArg Array.toList Tryz.results40));(focus(repeat(first|exact KF|apply KH rfl|apply KG rfl (KI (F.ag _ rfl) (by repeat(exact ac)) (ak _ 0 rfl rfl))))))
  rw [hv]
  exact⟨_,nx,rfl,gy _ _,JZ _,J8 _,fun m hm=>(aa _ _ (by omega)).trans (aa _ _ (by omega))⟩
 ·have hv:ofV l=Ds (jS l).2 (jS l).1:=by unfold ofV;rw [Ka (by omega)]
  have hp:jS l=(((ix (eM (eM (some l) 8).2 8).2).1,(ix (ix (eM (eM (some l) 8).2 8).2).2).1,beN (eM (some l) 8).1,beN (eM (eM (some l) 8).2 8).1),(ix (ix (eM (eM (some l) 8).2 8).2).2).2):=rfl
  repeat apply ah;rfl
  refine aE rfl rfl rfl (by kernel_rfl) (KD (Hy hs1 hl) ?_)
  rintro⟨_,H1,n1⟩ ⟨r,b,rfl,a1,a2,a3,a4,a5,a6,a7,a8⟩
  dsimp only at a1 a2 a6 a7 a8 ⊢
  have ares:H1.at' nx=some (ez (dB dK dK 0 0)):=(a8 nx (by omega)).trans (ai _ _ _)
  have aold: ∀ m,m<nx→H1.at' m=H.at' m:=fun m hm=>(a8 m (by omega)).trans (aa _ _ (by omega))
  clear a8
  repeat apply ah;rfl
  refine aE rfl rfl rfl (by kernel_rfl) (KD (z8 (l:=l) (n:=8) (r:=r) (by(repeat(refine ab (by omega) ?_));exact a1) (by(repeat(refine ab (by omega) ?_));exact a2) ((tS a2).frame (by(repeat(refine ab (by omega) ?_));rfl)) a3 (by decide) (by decide)) ?_)
  rintro _ ⟨H2,rfl,b1,b2⟩
  dsimp only
  have bbox:H2.at' n1=some (ez (dB dK dK 0 0)):=(b2 n1 (by omega)).trans (ai _ _ _)
  have bres:H2.at' nx=some (ez (dB dK dK 0 0)):=(b2 nx (by omega)).trans ((aa _ _ (by omega)).trans ares)
  have bold: ∀ m,m<nx→H2.at' m=H.at' m:=fun m hm=>(b2 m (by omega)).trans ((aa _ _ (by omega)).trans (aold m hm))
  clear b2 a1 a2 ares aold hs1
  repeat first|apply ah;rfl|apply aG;rfl;assumption;rfl
  refine aE rfl rfl rfl (by kernel_rfl) (KD (HT (n:=8) (b1.frame (aa _ _ (by omega)) (aa _ _ (by omega))) a3 (by decide) (by decide)) ?_)
  rintro _ ⟨H3,rfl,c1,c2⟩
  dsimp only
  have cbox:=(c2 n1 (by omega)).trans (ai _ _ _)
  have cres:H3.at' nx=some (ez (dB dK dK 0 0)):=(c2 nx (by omega)).trans ((aa _ _ (by omega)).trans bres)
  have cold: ∀ m,m<nx→H3.at' m=H.at' m:=fun m hm=>(c2 m (by omega)).trans ((aa _ _ (by omega)).trans (bold m hm))
  clear c2 b1 bbox bres bold
  repeat first|apply ah;rfl|apply aG;rfl;assumption;rfl
  refine aE rfl rfl rfl (by kernel_rfl) (KD (AR (c1.frame (aa _ _ (by omega)) (aa _ _ (by omega))) a3) ?_)
  rintro _ ⟨k,H4,rfl,d0,d1,d2⟩
  dsimp only
  have dbox:=(d2 n1 (by omega)).trans (ai _ _ _)
  have dres:H4.at' nx=some (ez (dB dK dK 0 0)):=(d2 nx (by omega)).trans ((aa _ _ (by omega)).trans cres)
  have dold: ∀ m,m<nx→H4.at' m=H.at' m:=fun m hm=>(d2 m (by omega)).trans ((aa _ _ (by omega)).trans (cold m hm))
  clear d2 c1 cbox cres cold
  have hk1:k.one=true:=by rcases d0 with ⟨rfl,_⟩|⟨o,C,rfl,_⟩ <;> rfl
  repeat first|apply ah;rfl|refine dU rfl rfl rfl (F.sz _ rfl) (by assumption) hk1 (by rfl) ?_
  refine aE rfl rfl rfl (by kernel_rfl) (KD (AR (d1.frame (aa _ _ (by omega)) (aa _ _ (by omega))) a3) ?_)
  rintro _ ⟨w,H5,rfl,e0,e1,e2⟩
  dsimp only
  have ebox:=(e2 n1 (by omega)).trans (ai _ _ _)
  have eres:H5.at' nx=some (ez (dB dK dK 0 0)):=(e2 nx (by omega)).trans ((aa _ _ (by omega)).trans dres)
  have eold: ∀ m,m<nx→H5.at' m=H.at' m:=fun m hm=>(e2 m (by omega)).trans ((aa _ _ (by omega)).trans (dold m hm))
  have d0':BlkS H5 k r _:=d0.frame ((e2 r a3).trans (aa _ _ (by omega)))
  clear e2 d1 d0 dbox dres dold
  have hw1:w.one=true:=by rcases e0 with ⟨rfl,_⟩|⟨o,C,rfl,_⟩ <;> rfl
  repeat first|apply ah;rfl|refine dU rfl rfl rfl (F.sz _ rfl) (by assumption) hw1 (by rfl) ?_
  refine aE rfl rfl rfl (by kernel_rfl) (KD (end_s (e1.frame (aa _ _ (by omega)) (aa _ _ (by omega)))) ?_)
  rintro _ rfl
  dsimp only
  have fold: ∀ (vo:VO) m,m<nx→(H5.set n1 vo).at' m=H.at' m:=fun vo m hm=>(aa _ _ (by omega)).trans (eold m hm)
  rw [hv,hp]
  dsimp only
  generalize eM (some l) 8=p1 at *
  generalize eM p1.2 8=p2 at *
  generalize ix p2.2=p3 at *
  generalize ix p3.2=p4 at *
  have g1:BlkS (H5.set n1 (ez (dB k w (beN p1.1) (beN p2.1)))) k r p3.1:=d0'.frame (aa _ _ (by omega))
  have g2:BlkS (H5.set n1 (ez (dB k w (beN p1.1) (beN p2.1)))) w r p4.1:=e0.frame (aa _ _ (by omega))
  have g3:VerIs (H5.set n1 (ez (dB k w (beN p1.1) (beN p2.1)))) (im k w (beN p1.1) (beN p2.1)) (p3.1,p4.1,beN p1.1,beN p2.1):=BlkS.DI (v:=(p3.1,p4.1,beN p1.1,beN p2.1)) g1 g2
  have fbox:(H5.set n1 (ez (dB k w (beN p1.1) (beN p2.1)))).at' n1=some (ez (dB k w (beN p1.1) (beN p2.1))):=ai _ _ _
  have fres:(H5.set n1 (ez (dB k w (beN p1.1) (beN p2.1)))).at' nx=some (ez (dB dK dK 0 0)):=(aa _ _ (by omega)).trans eres
  have fold2:=fold (ez (dB k w (beN p1.1) (beN p2.1)))
  refine cQ (R:=fun H6 n6=>H6=H5.set n1 (ez (dB k w (beN p1.1) (beN p2.1)))∧n6=n1+1) ⟨rfl,rfl⟩ ?_
  rintro H6 n6 ⟨hH6,rfl⟩
  rw [← hH6] at g1 g2 g3 fbox fres fold2
  clear hH6 d0' e0 e1 ebox eres eold fold
  by_cases he:p4.2=some []
  ·rw [show endR p4.2=0 by rw [he];rfl,he]
   have hm:=ED (nx:=n1+1) g3
   cases hmv:gV (p3.1,p4.1,beN p1.1,beN p2.1)with
   | true=>
     rw [hmv] at hm
     have hone:bm (dB k w (beN p1.1) (beN p2.1))=true:=by simp only [bm,hk1,hw1];rfl
     have hfin:Ds (some []) (p3.1,p4.1,beN p1.1,beN p2.1)=some (p3.1,p4.1,beN p1.1,beN p2.1):=Kb ⟨rfl,hmv⟩
     repeat first|apply ah;rfl|apply aG;rfl;assumption;rfl|apply dA;rfl;rfl|apply bW;rfl;kernel_rfl;exact hm|refine cU rfl rfl rfl (F.sz _ rfl) (by assumption) rfl (by exact JL rfl) hone rfl ?_
     ((apply bw Tryz.func40 (congrArg Array.toList Tryz.results40));(focus(repeat(first|exact KF|apply KH rfl|apply KG rfl (KI (F.ag _ rfl) (by repeat(exact ac)) (ak _ 0 rfl rfl))))))
     rw [hfin]
     exact⟨_,r,rfl,⟨k,w,rfl,g1.frame (aa _ _ (by omega)),g2.frame (aa _ _ (by omega))⟩,by omega,by dsimp only;omega,fun m hm=>(aa _ _ (by omega)).trans (fold2 m hm)⟩
   | false=>
     rw [hmv] at hm
     have hfin:Ds (some []) (p3.1,p4.1,beN p1.1,beN p2.1)=none:=Ka fun h=>by rw [hmv] at h;cases h.2
     repeat first|apply ah;rfl|apply aG;rfl;assumption;rfl|apply dA;rfl;rfl|apply bW;rfl;kernel_rfl;exact hm
     ((apply bw Tryz.func40 (congrArg Array.toList Tryz.results40));(focus(repeat(first|exact KF|apply KH rfl|apply KG rfl (KI (F.ag _ rfl) (by repeat(exact ac)) (ak _ 0 rfl rfl))))))
     rw [hfin]
     exact⟨_,nx,rfl,gy _ _,JZ _,by dsimp only;omega,fun m hm=>(aa _ _ (by omega)).trans (fold2 m hm)⟩
  ·rw [uW he,show endR p4.2=4 by rcases hq:p4.2 with _|⟨_|⟨c,l'⟩⟩;rfl;exact absurd hq he;rfl]
   repeat first|apply ah;rfl|apply aG;rfl;assumption;rfl|apply iA;rfl;decide
   ((apply bw Tryz.func40 (congrArg Array.toList Tryz.results40));(focus(repeat(first|exact KF|apply KH rfl|apply KG rfl (KI (F.ag _ rfl) (by repeat(exact ac)) (ak _ 0 rfl rfl))))))
   exact⟨_,nx,rfl,gy _ _,JZ _,by dsimp only;omega,fun m hm=>(aa _ _ (by omega)).trans (fold2 m hm)⟩
end
end Go.Proofs.YtnhmbonmlfeifaaGreat
end
section
namespace Go.Sy
open Go Go.Sl Go.RowKit
def nN(k:IntKind)(l:List Int):List Value:=l.map fun n=> .int k n
theorem sq{P:Program}{t:TypeId}{k:IntKind}{l:List Int}{i:Nat}(hu:P.underlying t=some (.int k))(hi:i<l.length)(w:World):(part t (nN k l).toArray (i*1)).run P w = .ok (.int k l[i]) w:=by
 have hv:(nN k l).toArray[i]? =some (.int k l[i]):=by
  simp [nN,JJ hi]
 rw [Nat.mul_one]
 generalize (nN k l).toArray=cs at hv
 simp [part,isAgg,run_underlying hu,hv]
theorem jN{P:Program}{e:TypeId}{k:IntKind}(hu:P.underlying e=some (.int k))(d:Nat)(xs ys:List Int)(w:World): ∀ is:List Nat,(∀ i∈is,i<xs.length∧i<ys.length)→(Op.eqItems (d+1) e 1 (nN k xs).toArray (nN k ys).toArray is).run P w = .ok (is.all fun i=>xs[i]? == ys[i]?) w
 | [],_=>by simp [Op.eqItems]
 | i :: is,h=>by
   obtain⟨h1,h2⟩:=h i Ki
   simp only [Op.eqItems,Sem.run_bind,sq hu h1,sq hu h2,run_equalIn_int w d e k k _ _ hu,Result.andThen_ok]
   have ih:=jN hu d xs ys w is fun j hj=>h j (Kj _ hj)
   rw [List.all_cons,JJ h1,JJ h2]
   by_cases he:xs[i]=ys[i]
   ·simp [he,ih]
   ·simp [he]
theorem tX{xs ys:List Int}{n:Nat}(hx:xs.length=n)(hy:ys.length=n):((List.range n).all fun i=>xs[i]? == ys[i]?)=decide (xs=ys):=by
 by_cases h:xs=ys
 ·subst h
  simp
 ·rw [Ku h]
  cases h':(List.range n).all fun i=>xs[i]? == ys[i]? with
  | false=>rfl
  | true=>
    refine absurd (Kv fun i=>?_) h
    rw [List.all_eq_true] at h'
    rcases Kd i n with hi|hi
    ·simpa using h' i (Kw.2 hi)
    ·rw [Ky (by omega),Ky (by omega)]
theorem zj{P:Program}{t e:TypeId}{n:Nat}{k:IntKind}{i:TypeInfo}(hu:P.underlying t=some (.array n e))(hi:P.info? e=some i)(hc:P.cellsOf e=1)(he:P.underlying e=some (.int k)){xs ys:List Int}(hx:xs.length=n)(hy:ys.length=n)(w:World) :
 (Op.equalIn 10000 t (.agg (nN k xs).toArray) (.agg (nN k ys).toArray)).run P w = .ok (decide (xs=ys)) w:=by
 rw [show(10000:Nat)=9998+1+1 from rfl,run_equalIn_array w (9998+1) _ _ hu hi,hc,jN he 9998 xs ys w _ (fun i hi=>by rw [hx,hy];exact⟨Kw.1 hi,Kw.1 hi⟩),tX hx hy]
section
variable {P:Program} {H:au} {T:Tr SV} {nx:Nat}
variable {d:Option Tmp} {ty:TypeId} {pos:String} {af:Array Edge} {gd:Option (Nat×Bool)}
theorem qh{e:Env}{l:List Value}{v:Value}(h:(SV.agg (l.map .sc)).conc e=some v):v = .agg l.toArray:=by
 have hl: ∀ l:List Value,SV.aJ e (l.map .sc)=some l:=fun l=>by
  induction l with
  | nil=>rfl
  | cons x l ih=>exact bi rfl ih
 simp only [SV.conc,hl,J5,JG] at h
 exact h.symm
theorem zB{t e:TypeId}{n:Nat}{k:IntKind}{i:TypeInfo}(hu:P.underlying t=some (.array n e))(hi:P.info? e=some i)(hc:P.cellsOf e=1)(he:P.underlying e=some (.int k))(hg:P.eqGuardType P.depth t=false){x y:Operand}{yt:TypeId}{xs ys:List Int}(hlx:xs.length=n)(hly:ys.length=n)(hx:am T x=some (.agg ((nN k xs).map .sc)))(hy:am T y=some (.agg ((nN k ys).map .sc))) :
 ReadDoes P T H ⟨d,.binOp .eql t x y yt,ty,pos,af,gd⟩ (.sc (.bool (decide (xs=ys)))):=by
 intro K w0 ev nx w en hS hE
 refine⟨_,rfl,?_⟩
 have e1:=qh (hE x _ hx)
 have e2:=qh (hE y _ hy)
 simp [execOp,e1,e2,run_eqGuard_agg (P:=P) w .eql t x y _ _ hg,run_eql_struct,zj hu hi hc he hlx hly]
end
end Go.Sy
end
section
namespace Go.Proofs.YtnhmbonmlfeifaaGreat
open Go Go.Sy Go.Sl Go.RowKit
section
variable {H:au}{n nx:Nat}{mem p:List UInt8}
def dx(p:List UInt8):Nat:=if bj p=true then fg p else 0
theorem A5(hp:p.length=1024):Fnc Tryz.prog 29 [.agg (pgS p)] H nx (fun q=>q=(.sc (.int .i64 (dx p:Int)),H,nx)):=by
 refine Fnc.bA (Free.sc _) ?_
 refine KE Tryz.func29 rfl rfl ?_
 have hb1:(H.set nx (pgO p)).at' nx=some (pgO p):=ai _ _ _
 have hrs:=fun nx'=>gG (nx:=nx') hb1 hp
 cases hr:bj p with
 | false=>
   rw [hr] at hrs
   have hv:dx p=0:=by unfold dx;rw [Ka (by rw [hr];decide)]
   repeat first|apply ah;rfl|apply bW;rfl;kernel_rfl;exact hrs _
   (apply bR Tryz.func29 Tryz.results29;rfl)
   exact⟨by rw [hv];rfl,J8 _,fun m hm=>aa _ _ (by omega)⟩
 | true=>
   rw [hr] at hrs
   have hv:dx p=fg p:=by unfold dx;rw [Kb hr]
   have hf:=fK hp hr
   repeat first|apply ah;rfl|apply bW;rfl;kernel_rfl;exact hrs _|apply bW;rfl;kernel_rfl;exact Db hb1 hf
   (apply bR Tryz.func29 Tryz.results29;rfl)
   exact⟨by rw [hv];rfl,J8 _,fun m hm=>aa _ _ (by omega)⟩
theorem zI(a:List UInt8):pgS a=(nN .u8 (a.map fun c=>(c.toNat:Int))).map .sc:=by simp [nN]
theorem toNat_inj{a b:List UInt8}(h:a.map (fun c=>(c.toNat:Int))=b.map (fun c=>(c.toNat:Int))):a=b:=by
 refine List.map_inj_right (f:=fun c:UInt8=>(c.toNat:Int)) (fun x y hxy=>?_) |>.1 h
 have hxy:(x.toNat:Int)=(y.toNat:Int):=hxy
 have:x.toNat=y.toNat:=by omega
 exact UInt8.toNat_inj.1 this
theorem qK{T:Tr SV}{d:Option Tmp}{ty:TypeId}{pos:String}{af:Array Edge}{gd:Option (Nat×Bool)}{x y:Operand}{yt:TypeId}{a b:List UInt8}(ha:a.length=1024)(hb:b.length=1024)(hx:am T x=some (.agg (pgS a)))(hy:am T y=some (.agg (pgS b))) :
 ReadDoes Tryz.prog T H ⟨d,.binOp .eql 27 x y yt,ty,pos,af,gd⟩ (.sc (.bool (decide (a=b)))):=by
 have h:=zB (P:=Tryz.prog) (H:=H) (T:=T) (d:=d) (ty:=ty) (pos:=pos) (af:=af) (gd:=gd) (t:=27) (e:=5) (n:=1024) (k:= .u8) (x:=x) (y:=y) (yt:=yt) (xs:=a.map fun c=>(c.toNat:Int)) (ys:=b.map fun c=>(c.toNat:Int)) (F.un _ rfl) (by rfl) (by kernel_rfl) (F.un _ rfl) (by kernel_rfl) (by rw [Kf];exact ha) (by rw [Kf];exact hb) (hx.trans (by rw [zI])) (hy.trans (by rw [zI]))
 rwa [show decide (a.map (fun c=>(c.toNat:Int))=b.map (fun c=>(c.toNat:Int)))=decide (a=b)from decide_eq_decide.2 ⟨toNat_inj,fun h=>by rw [h]⟩] at h
def bareP(p:List UInt8):List UInt8:=List.replicate 12 0 ++ p.drop 12
theorem dp(hp:p.length=1024):(bareP p).length=1024:=by
 unfold bareP
 rw [J3,Kn,Kh,hp]
def fE(p:List UInt8):Bool:=decide (bareP p=zeroP)
abbrev z12:List SV:=(byV (List.replicate 12 0)).map .sc
theorem vB(hp:p.length=1024):Fnc Tryz.prog 85 [.agg (pgS p)] H nx (fun q=>q=(.sc (.bool (fE p)),H,nx)):=by
 refine Fnc.bA (Free.sc _) ?_
 refine KE Tryz.func85 rfl rfl ?_
 repeat first|apply ah;rfl|apply li (lw:=0) (hg:=12);rfl;rfl;rfl;exact(F.un _ rfl);exact(F.sz _ rfl);rfl;rfl;(focus(omega));(focus(omega));(focus(omega));rfl;rfl;rfl
 refine Bl (n:=11) z12 rfl rfl (F.un _ rfl) (F.ze _ rfl) (ai _ _ _) (by kernel_rfl) (by kernel_rfl) (by rw [bh hp];exact JL rfl) ?_
 have hc:(pgS p).take 0 ++ z12 ++ (pgS p).drop (0+z12.length)=pgS (bareP p):=by
  unfold bareP
  simp [List.map_drop]
 rw [hc]
 have hl:=dp hp
 repeat first|apply bB hl;rfl;(focus((repeat(exact ac));done))|apply ah;rfl|refine cf (dm iD) rfl rfl rfl ?_|refine cf (qK hl aj rfl rfl) rfl rfl rfl ?_
 (apply bR Tryz.func85 Tryz.results85;rfl)
 exact⟨rfl,J8 _,fun m hm=>(aa _ _ (by omega)).trans (aa _ _ (by omega))⟩
abbrev pY(mem:List UInt8)(left puts:Int):List SV:=(byV mem).map .sc ++ [.sc (.int .i64 left),.sc (.int .i64 puts)]
abbrev cT(mem:List UInt8)(left puts:Int):VO:=aq 30 (pY mem left puts)
def az(mem:List UInt8)(n:Nat):List UInt8:=(mem.drop (1024*n)).take 1024
theorem cG(hm:mem.length=131072)(hn:n<128):(az mem n).length=1024:=by
 unfold az
 rw [Ke,Kh]
 omega
theorem sM(hm:mem.length=131072)(hn:n<128)(left puts:Int):(cT mem left puts).cellsFrom (0+n*1024) 1024=some (pgS (az mem n)):=by
 refine ak _ _ ?_ (by rw [bh (cG hm hn)])
 have hl:((byV mem).map SV.sc).length=131072:=by simpa using hm
 rw [List.drop_append_of_le_length (by omega),List.take_append_of_le_length (by rw [Kh];omega)]
 unfold az
 rw [Kc,Nat.mul_comm]
 simp [List.map_take,List.map_drop]
theorem HL{b:Nat}{left puts:Int}(hb:H.at' b=some (cT mem left puts))(hm:mem.length=131072)(hn:n<128):Fnc Tryz.prog 140 [.ptr b 0,.sc (.int .i64 (n:Int))] H nx (fun q=>q=(pgE (az mem n,0),H,nx)):=by
 refine Fnc.bA (hY _) ?_
 refine KE Tryz.func140 rfl rfl ?_
 refine aV fun hund=>?_
 have hlt:=hund _ _ hb
 have hl:=cG hm hn
 repeat first|refine be rfl rfl cq ?_|apply ah;rfl|apply ll;rfl;omega|apply gB (q:=n);rfl;rfl;rfl;rfl;exact(F.un _ rfl);exact(F.sz _ rfl);(focus(omega));(focus(omega))
 refine ee rfl rfl rfl (F.ag _ rfl) (by repeat(first|assumption|refine ab (by omega) ?_)) (sM hm hn _ _) ?_
 repeat first|apply bJ hl aj;rfl;(focus((repeat(exact ac));done))|apply ah;rfl
 ((apply bw Tryz.func140 (congrArg Array.toList Tryz.results140));(focus((apply KG rfl (KI (F.ag _ rfl) (by repeat(exact ac)) (bv hl)));(repeat(first|exact KF|apply KH rfl)))))
 exact⟨rfl,J8 _,fun m hm=>(aa _ _ (by omega)).trans (aa _ _ (by omega))⟩
end
structure Okp (p:List UInt8):Prop where
 len:p.length=1024
 head:18+4*ae p≤aF p
 top:aF p≤1024
 last:0<ae p→ar p (ae p-1)≠0
 slot: ∀ j,j<ae p→(ay p j=0∧ar p j=0)∨(1≤ar p j∧ar p j≤1000∧aF p≤ay p j∧ay p j+ar p j≤1024)
 apart: ∀ i j,i<j→j<ae p→ar p i≠0→ar p j≠0→ay p i+ar p i≤ay p j∨ay p j+ar p j≤ay p i
section
variable {a i n o s:Nat}{p:List UInt8}
theorem iS{seen:List (Nat×Nat)}:cS seen i=true↔ ∃ x∈seen,x.1≤i∧i<x.1+x.2:=by
 simp [cS,List.any_eq_true]
theorem te{seen:List (Nat×Nat)}(h0:1≤s)(hs: ∀ x∈seen,1≤x.2):uP seen a s=true↔ ∃ x∈seen,x.1<a+s∧a<x.1+x.2:=by
 constructor
 ·intro h
  obtain⟨j,hj,hc⟩:=List.any_eq_true.1 h
  obtain⟨x,hx,h1⟩:=iS.1 hc
  have:=Kw.1 hj
  exact⟨x,hx,by omega,by omega⟩
 ·rintro⟨x,hx,h1,h2⟩
  have:=hs x hx
  rcases Kd a x.1 with h3|h3
  ·exact md (i:=x.1) (by omega) (by omega) (iS.2 ⟨x,hx,by omega,by omega⟩)
  ·exact md (i:=a) (by omega) (by omega) (iS.2 ⟨x,hx,by omega,by omega⟩)
def iH(p:List UInt8):Nat→List (Nat×Nat)
 | 0=> []
 | n+1=>if ar p n=0 then iH p n else(ay p n,ar p n) :: iH p n
theorem gL{p:List UInt8}{x:Nat×Nat}: ∀ {n:Nat},x∈iH p n↔ ∃ i,i<n∧ar p i≠0∧x=(ay p i,ar p i)
 | 0=>by simp [iH]
 | n+1=>by
   unfold iH
   split
   ·rename_i h
    rw [gL]
    constructor
    ·rintro⟨i,h1,h2⟩
     exact⟨i,by omega,h2⟩
    ·rintro⟨i,h1,h2,h3⟩
     rcases Kd i n with h4|h4
     ·exact⟨i,h4,h2,h3⟩
     ·obtain rfl:i=n:=by omega
      exact absurd h h2
   ·rename_i h
    rw [Kp,gL]
    constructor
    ·rintro(h1|⟨i,h1,h2⟩)
     ·exact⟨n,by omega,h,h1⟩
     ·exact⟨i,by omega,h2⟩
    ·rintro⟨i,h1,h2,h3⟩
     rcases Kd i n with h4|h4
     ·exact .inr ⟨i,h4,h2,h3⟩
     ·obtain rfl:i=n:=by omega
      exact .inl h3
def lp(p:List UInt8)(j:Nat):Prop:=(ay p j=0∧ar p j=0)∨((1≤ar p j∧ar p j≤1000∧aF p≤ay p j∧ay p j+ar p j≤1024)∧ ∀ i,i<j→ar p i≠0→ay p i+ar p i≤ay p j∨ay p j+ar p j≤ay p i)
theorem lI(p:List UInt8): ∀ (k n:Nat) (fine:Bool),fi p k n (iH p n) fine=true↔((∀ j,n≤j→j<n+k→lp p j)∧(if k=0 then fine=true else ar p (n+k-1)≠0∨n+k<ae p))
 | 0,n,fine=>by
   rw [Kb rfl]
   exact⟨fun h=>⟨fun j h1 h2=>absurd h1 (by omega),h⟩,fun h=>h.2⟩
 | k+1,n,fine=>by
   rw [Ka (Nat.succ_ne_zero k)]
   have hsz: ∀ x∈iH p n,1≤x.2:=fun x hx=>by
    obtain⟨i,_,h2,rfl⟩:=gL.1 hx
    exact Nat.pos_of_ne_zero h2
   have hall: ∀ {A:Prop},(lp p n)→(((∀ j,n≤j→j<n+(k+1)→lp p j)∧A)↔((∀ j,n+1≤j→j<n+1+k→lp p j)∧A)):=fun h=>
    ⟨fun g=>⟨fun j h1 h2=>g.1 j (by omega) (by omega),g.2⟩,fun g=>⟨fun j h1 h2=>by
      rcases Kd n j with h3|h3
      ·exact g.1 j (by omega) (by omega)
      ·obtain rfl:n=j:=by omega
       exact h,g.2⟩⟩
   have hend: ∀ {b:Bool},(b=true↔ar p n≠0∨n+1<ae p)→((if k=0 then b=true else ar p (n+1+k-1)≠0∨n+1+k<ae p)↔(ar p (n+(k+1)-1)≠0∨n+(k+1)<ae p)):=fun {b} hb=>by
    by_cases hk:k=0
    ·subst hk
     rw [Kb rfl]
     exact hb
    ·rw [Ka hk,show n+1+k=n+(k+1) by omega]
   unfold fi
   split
   ·rename_i h
    have hs:iH p (n+1)=iH p n:=by show(if ar p n=0 then _ else _)=_;rw [Kb h.2]
    rw [← hs,lI p k (n+1),hall (.inl h),hend]
    rw [KB]
    constructor
    ·exact .inr
    ·rintro(h1|h1)
     ·exact absurd h.2 h1
     ·exact h1
   ·rename_i h
    split
    ·rename_i h1
     constructor
     ·intro h2;cases h2
     ·rintro⟨h2,_⟩
      rcases h2 n (JZ _) (by omega)with h3|⟨h3,_⟩
      ·exact absurd h3 h
      ·omega
    ·rename_i h1
     split
     ·rename_i h2
      constructor
      ·intro h2;cases h2
      ·rintro⟨h3,_⟩
       obtain⟨x,hx,h4⟩:=(te (by omega) hsz).1 h2
       obtain⟨i,h5,h6,rfl⟩:=gL.1 hx
       rcases h3 n (JZ _) (by omega)with h7|⟨_,h7⟩
       ·exact absurd h7 h
       ·have:=h7 i h5 h6
        dsimp only at h4
        omega
     ·rename_i h2
      have hs:iH p (n+1)=(ay p n,ar p n) :: iH p n:=by show(if ar p n=0 then _ else _)=_;rw [Ka (by omega)]
      rw [← hs,lI p k (n+1),hall (.inr ⟨by omega,fun i hi hz=>?_⟩),hend]
      ·exact⟨fun _=> .inl (by omega),fun _=>rfl⟩
      ·rcases Kd (ay p n) (ay p i+ar p i)with h3|h3
       ·rcases Kd (ay p i) (ay p n+ar p n)with h4|h4
        ·exact absurd ((te (by omega) hsz).2 ⟨_,gL.2 ⟨i,hi,hz,rfl⟩,h4,h3⟩) h2
        ·exact .inr h4
       ·exact .inl h3
theorem aZ(hp:p.length=1024):bj p=true↔Okp p:=by
 unfold bj
 have hg:=lI p (ae p) 0 true
 rw [show iH p 0= [] from rfl] at hg
 rw [JY,KB,hg]
 constructor
 ·rintro⟨⟨h1,h2⟩,h3,h4⟩
  refine⟨hp,h1,h2,fun h=>?_,fun j hj=>?_,fun i j hi hj hzi hzj=>?_⟩
  ·rw [Ka (by omega),Kc] at h4
   rcases h4 with h4|h4
   ·exact h4
   ·exact absurd h4 (Nat.lt_irrefl _)
  ·rcases h3 j (J0 _) (by omega)with h5|h5
   ·exact .inl h5
   ·exact .inr h5.1
  ·rcases h3 j (J0 _) (by omega)with h5|h5
   ·exact absurd h5.2 hzj
   ·exact h5.2 i hi hzi
 ·intro h
  refine⟨⟨h.head,h.top⟩,fun j _ hj=>?_,?_⟩
  ·rcases h.slot j (by omega)with h5|h5
   ·exact .inl h5
   ·exact .inr ⟨h5,fun i hi hz=>h.apart i j hi (by omega) hz (by omega)⟩
  ·split
   ·rfl
   ·exact .inl (by rw [Kc];exact h.last (by omega))
theorem BC(hp:p.length=1024):bj p=false↔ ¬ Okp p:=by
 rw [← aZ hp]
 cases bj p <;> simp
theorem tM{P Q:Nat→Bool}: ∀ (l:List Nat),(∀ i∈l,P i=true→Q i=true→False)→l.countP (fun i=>P i || Q i)=l.countP P+l.countP Q
 | [],_=>rfl
 | a :: l,h=>by
   have ih:=tM l fun i hi=>h i (Kj _ hi)
   have ha:=h a Ki
   rw [List.countP_cons,List.countP_cons,List.countP_cons,ih]
   cases hP:P a <;> cases hQ:Q a
   ·simp
   ·simp;omega
   ·simp;omega
   ·exact absurd hQ (fun h2=>ha hP h2)
theorem nc(a s:Nat): ∀ n,(List.range n).countP (fun i=>decide (a≤i∧i<a+s))=min n (a+s)-min n a
 | 0=>by simp
 | n+1=>by
   rw [List.range_succ,List.countP_append,nc a s n,List.countP_cons,List.countP_nil]
   by_cases h:a≤n∧n<a+s
   ·rw [Kb (by rw [Kt h])];omega
   ·rw [Ka (by rw [Ku h];decide)];omega
def bU(p:List UInt8):Nat→Nat
 | 0=>0
 | n+1=>bU p n+ar p n
theorem Okp.count(h:Okp p): ∀ n,n≤ae p→(List.range 1024).countP (cS (iH p n))=bU p n
 | 0,_=>by
   show(List.range 1024).countP (cS [])=0
   rw [List.countP_eq_zero]
   intro a _
   simp [cS]
 | n+1,hn=>by
   have ih:=h.count n (by omega)
   by_cases hz:ar p n=0
   ·have hs:iH p (n+1)=iH p n:=by show(if ar p n=0 then _ else _)=_;rw [Kb hz]
    rw [hs,ih]
    show _=bU p n+ar p n
    omega
   ·have hs:iH p (n+1)=(ay p n,ar p n) :: iH p n:=by show(if ar p n=0 then _ else _)=_;rw [Ka hz]
    have hsl:=h.slot n (by omega)
    rw [hs,show cS ((ay p n,ar p n) :: iH p n)=fun i=>decide (ay p n≤i∧i<ay p n+ar p n) || cS (iH p n) i from funext fun i=>by simp only [cS,List.any_cons],
     tM,nc,ih]
    ·show _=bU p n+ar p n
     omega
    ·intro i _ h1 h2
     have h1:=Km h1
     obtain⟨x,hx,h3⟩:=iS.1 h2
     obtain⟨k,hk,hkz,rfl⟩:=gL.1 hx
     have:=h.apart k n hk (by omega) hkz hz
     dsimp only at h3
     omega
theorem Okp.sum_le(h:Okp p):aF p+bU p (ae p)≤1024:=by
 have h1:=h.count _ (JZ _)
 have h2:(List.range 1024).countP (cS (iH p (ae p)))≤(List.range 1024).countP (fun i=>decide (aF p≤i∧i<aF p+1024)):=by
  refine List.countP_mono_left fun i _ hi=>?_
  obtain⟨x,hx,h3⟩:=iS.1 hi
  obtain⟨k,hk,hkz,rfl⟩:=gL.1 hx
  have h4:=h.slot k hk
  dsimp only at h3
  exact Kt (by omega)
 rw [nc] at h2
 have:=h.top
 omega
theorem dO(p:List UInt8){m:Nat}: ∀ {n:Nat},m≤n→bU p m≤bU p n
 | 0,h=>by cases Nat.le_zero.1 h;exact JZ _
 | n+1,h=>by
   rcases Kd m (n+1)with h1|h1
   ·have:=dO p (show m≤n by omega)
    show _≤bU p n+ar p n
    omega
   ·obtain rfl:m=n+1:=by omega
    exact JZ _
theorem ii{q:List UInt8}{m:Nat}(h: ∀ i,o≤i→i<o+m→q[i]? =p[i]?):(q.drop o).take m=(p.drop o).take m:=by
 refine Kv fun j=>?_
 rw [List.getElem?_take,List.getElem?_take]
 split
 ·rw [List.getElem?_drop,List.getElem?_drop]
  exact h _ (by omega) (by omega)
 ·rfl
theorem vW{l:List UInt8}(h:o+l.length≤p.length):((bg p o l).drop o).take l.length=l:=by
 refine Kv fun j=>?_
 rw [List.getElem?_take]
 split
 ·rw [List.getElem?_drop,cR h,Kb (by omega),show o+j-o=j by omega]
 ·rw [Ky (by omega)]
theorem mP{l:List UInt8}(h:o+l.length≤p.length)(hi:i<o∨o+l.length≤i):(bg p o l)[i]? =p[i]? :=by
 rw [cR h,Ka (by omega)]
theorem fN(h:o+2≤p.length)(hi:i<o∨o+2≤i):(cw p o n)[i]? =p[i]? :=
 mP (by rw [bz];exact h) (by rw [bz];exact hi)
theorem jR(h:18+4*n+4≤p.length)(hi:i<18+4*n∨18+4*n+4≤i):(bP p n a s)[i]? =p[i]? :=by
 unfold bP
 rw [fN (by rw [bI (by omega)];omega) (by omega),fN (by omega) (by omega)]
theorem de(h:18+4*n+4≤p.length)(ho:o+2≤18+4*n∨18+4*n+4≤o):gu (bP p n a s) o=gu p o:=
 jj fun i h1 h2=>jR h (by omega)
theorem kL(h:18+4*n+4≤p.length)(ha:a<65536):ay (bP p n a s) n=a:=by
 unfold bP
 exact(cZ (by rw [bI (by omega)];omega) (by omega)).trans (eV (by omega) ha)
theorem mQ(h:18+4*n+4≤p.length)(hs:s<65536):ar (bP p n a s) n=s:=by
 unfold bP
 exact eV (by rw [bI (by omega)];omega) hs
theorem nE(p:List UInt8): ∀ k n,(∀ j,n≤j→j<dG p k n→ar p j≠0)∧(dG p k n<n+k→ar p (dG p k n)=0)∧n≤dG p k n∧dG p k n≤n+k
 | 0,n=>⟨fun j h1 h2=>absurd (show j<n from h2) (by omega),fun h=>absurd (show n<n+0 from h) (by omega),JZ _,JZ _⟩
 | k+1,n=>by
   unfold dG
   split
   ·rename_i h
    exact⟨fun j h1 h2=>absurd h1 (by omega),fun _=>h,JZ _,by omega⟩
   ·rename_i h
    have ih:=nE p k (n+1)
    refine⟨fun j h1 h2=>?_,fun h1=>ih.2.1 (by omega),by omega,by omega⟩
    rcases Kd n j with h3|h3
    ·exact ih.1 j (by omega) h2
    ·obtain rfl:j=n:=by omega
     exact h
theorem gN(p:List UInt8):(∀ j,j<aY p→ar p j≠0)∧(aY p<ae p→ar p (aY p)=0)∧aY p≤ae p:=by
 have:=nE p (ae p) 0
 unfold aY
 exact⟨fun j hj=>this.1 j (J0 _) hj,fun h=>this.2.1 (by omega),by omega⟩
abbrev jC(p:List UInt8):Nat:=if aY p=ae p then ae p+1 else ae p
theorem oQ(hp:p.length=1024):(fy p).length=1024:=by
 unfold fy
 split
 ·rw [bI (by omega),hp]
 ·exact hp
theorem jW(hp:p.length=1024)(ho:o+2≤14∨16≤o):gu (fy p) o=gu p o:=by
 unfold fy
 split
 ·exact cZ (by omega) (by omega)
 ·rfl
theorem Ae(hp:p.length=1024)(hi:i<14∨16≤i):(fy p)[i]? =p[i]? :=by
 unfold fy
 split
 ·exact fN (by omega) (by omega)
 ·rfl
theorem uN(hp:p.length=1024)(hs:ae p<1000):ae (fy p)=jC p:=by
 unfold fy jC
 split
 ·rename_i h
  rw [show ae (cw p 14 (aY p+1))=aY p+1 from eV (by omega) (by omega),h]
 ·rfl
end
structure Laid (p it q:List UInt8):Prop where
 len:q.length=1024
 slots:ae q=jC p
 begins:aF q=aF p-it.length
 froms:ay q (aY p)=aF p-it.length
 sizes:ar q (aY p)=it.length
 from': ∀ j,j≠aY p→j<ae p→ay q j=ay p j
 size': ∀ j,j≠aY p→j<ae p→ar q j=ar p j
 item:(q.drop (aF p-it.length)).take it.length=it
 get: ∀ i,i<14∨aF p≤i→q[i]? =p[i]?
theorem laid{p it:List UInt8}(h:Okp p)(h2:it.length≤1000)(hroom:it.length≤fg p)(h1:1≤it.length):Laid p it (oT p it):=by
 have hp:=h.len
 have hh:=h.head
 have ht:=h.top
 have he:=(gN p).2.2
 have hmb:aF (fy p)=aF p:=jW hp (by omega)
 have hms:=uN hp (by omega)
 have hml:=oQ hp
 unfold fg at hroom
 have ha:18+4*jC p+it.length≤aF p∧aY p<jC p:=by unfold jC;split at hroom <;> split <;> omega
 obtain⟨ha,hee⟩:=ha
 have hl2:(bP (fy p) (aY p) (aF p-it.length) it.length).length=1024:=(fH (by omega)).trans hml
 have hl3:(cw (bP (fy p) (aY p) (aF p-it.length) it.length) 16 (aF p-it.length)).length=1024:=(bI (by omega)).trans hl2
 have hl: ∀ o,o+2≤aF p-it.length→gu (oT p it) o=gu (cw (bP (fy p) (aY p) (aF p-it.length) it.length) 16 (aF p-it.length)) o:=fun o ho=>by
  unfold oT
  rw [hmb]
  exact oa (by omega) (by omega)
 have ho: ∀ o,o+2≤aF p-it.length→(o+2≤16∨18≤o)→gu (oT p it) o=gu (bP (fy p) (aY p) (aF p-it.length) it.length) o:=fun o ho h3=>(hl o ho).trans (cZ (by omega) (by omega))
 have hmany:ae p≤jC p:=by unfold jC;split <;> omega
 refine⟨?_,?_,?_,?_,?_,fun j h3 h4=>?_,fun j h3 h4=>?_,?_,fun i hi=>?_⟩
 ·unfold oT
  rw [hmb,bS (by omega),hl3]
 ·exact(ho 14 (by omega) (by omega)).trans ((de (by omega) (by omega)).trans hms)
 ·exact(hl 16 (by omega)).trans (eV (by omega) (by omega))
 ·exact(ho _ (by omega) (by omega)).trans (kL (by omega) (by omega))
 ·exact(ho _ (by omega) (by omega)).trans (mQ (by omega) (by omega))
 ·exact(ho _ (by omega) (by omega)).trans ((de (by omega) (by omega)).trans (jW hp (by omega)))
 ·exact(ho _ (by omega) (by omega)).trans ((de (by omega) (by omega)).trans (jW hp (by omega)))
 ·unfold oT
  rw [hmb]
  exact vW (by omega)
 ·unfold oT
  rw [hmb,mP (by omega) (by omega),fN (by omega) (by omega),jR (by omega) (by omega),Ae hp (by omega)]
theorem Laid.ok{p it q:List UInt8}(h:Okp p)(h2:it.length≤1000)(hroom:it.length≤fg p)(h1:1≤it.length)(g:Laid p it q):Okp q:=by
 have hh:=h.head
 have ht:=h.top
 obtain⟨he1,he2,he3⟩:=gN p
 unfold fg at hroom
 have ha:18+4*jC p+it.length≤aF p∧aY p<jC p:=by unfold jC;split at hroom <;> split <;> omega
 have hm: ∀ j,j<jC p→j=aY p∨j≠aY p∧j<ae p:=fun j hj=>by unfold jC at hj;split at hj <;> omega
 have gb:=g.begins
 have gs:=g.slots
 refine⟨g.len,by omega,by omega,fun hpos=>?_,fun j hj=>?_,fun i j hij hj hzi hzj=>?_⟩
 ·rw [gs]
  rcases hm (jC p-1) (by omega)with h3|⟨h3,h4⟩
  ·rw [h3,g.sizes];omega
  ·rw [g.size' _ h3 h4]
   have:jC p=ae p:=by
    by_cases hc:aY p=ae p
    ·unfold jC at h3 h4
     rw [Kb hc] at h3 h4
     omega
    ·unfold jC
     rw [Ka hc]
   rw [this]
   exact h.last (by omega)
 ·rcases hm j (by omega)with h3|⟨h3,h4⟩
  ·subst h3
   rw [g.froms,g.sizes,gb]
   omega
  ·rw [g.from' _ h3 h4,g.size' _ h3 h4,gb]
   have:=h.slot j h4
   omega
 ·rcases hm i (by omega)with h3|⟨h3,h4⟩
  ·subst h3
   rcases hm j (by omega)with h5|⟨h5,h6⟩
   ·omega
   ·rw [g.froms,g.sizes,g.from' _ h5 h6,g.size' _ h5 h6]
    rw [g.size' _ h5 h6] at hzj
    have:=h.slot j h6
    omega
  ·rw [g.size' _ h3 h4] at hzi
   rw [g.from' _ h3 h4,g.size' _ h3 h4]
   have h7:=h.slot i h4
   rcases hm j (by omega)with h5|⟨h5,h6⟩
   ·subst h5
    rw [g.froms,g.sizes]
    omega
   ·rw [g.size' _ h5 h6] at hzj
    rw [g.from' _ h5 h6,g.size' _ h5 h6]
    exact h.apart i j hij h6 hzi hzj
theorem Laid.items{p it q:List UInt8}(h:Okp p)(g:Laid p it q):aS q (aY p)=it∧ ∀ j,j≠aY p→j<ae p→ar p j≠0→aS q j=aS p j:=by
 refine⟨?_,fun j h3 h4 h5=>?_⟩
 ·unfold aS
  rw [g.froms,g.sizes,g.item]
 ·unfold aS
  rw [g.from' _ h3 h4,g.size' _ h3 h4]
  have:=h.slot j h4
  exact ii fun i h6 h7=>g.get i (by omega)
def ck(p:List UInt8):Nat→List UInt8
 | 0=>bg zeroP 0 (p.take (18+4*ae p))
 | n+1=>if ar p n=0 then ck p n else bP (bg (ck p n) (1024-bU p (n+1)) (aS p n)) n (1024-bU p (n+1)) (ar p n)
def iM(p:List UInt8):List UInt8:=cw (ck p (ae p)) 16 (1024-bU p (ae p))
def iN(p:List UInt8):List UInt8×Nat:=if bj p=true then(iM p,0) else(zeroP,4)
structure PackN (p:List UInt8) (n:Nat) (q:List UInt8):Prop where
 len:q.length=1024
 low: ∀ i,i<18→q[i]? =p[i]?
 from': ∀ j,j<n→ar p j≠0→ay q j=1024-bU p (j+1)
 size': ∀ j,j<n→ar p j≠0→ar q j=ar p j
 fromE: ∀ j,j<ae p→n≤j∨ar p j=0→ay q j=ay p j
 sizeE: ∀ j,j<ae p→n≤j∨ar p j=0→ar q j=ar p j
 item: ∀ j,j<n→ar p j≠0→(q.drop (1024-bU p (j+1))).take (ar p j)=aS p j
 zero: ∀ i,18+4*ae p≤i→i<1024-bU p n→q[i]? =some 0
theorem sN{p:List UInt8}(h:Okp p): ∀ n,n≤ae p→PackN p n (ck p n)
 | 0,_=>by
   have hp:=h.len
   have hh:=h.head
   have ht:=h.top
   have hl:(p.take (18+4*ae p)).length=18+4*ae p:=by rw [Ke];omega
   have hz:=aj
   have hg: ∀ i,i<18+4*ae p→(ck p 0)[i]? =p[i]? :=fun i hi=>by
    show(bg zeroP 0 _)[i]? =_
    rw [cR (by omega),Kb (by omega),Nat.sub_zero,List.getElem?_take,Kb hi]
   refine⟨(bS (by omega)).trans hz,fun i hi=>hg i (by omega),fun j hj=>absurd hj (Nat.not_lt_zero _),fun j hj=>absurd hj (Nat.not_lt_zero _),fun j hj _=>jj fun i h1 h2=>hg i (by omega),fun j hj _=>jj fun i h1 h2=>hg i (by omega),fun j hj=>absurd hj (Nat.not_lt_zero _),fun i h1 h2=>?_⟩
   show(bg zeroP 0 _)[i]? =_
   rw [mP (by omega) (by omega)]
   have h2:i<1024:=by have:bU p 0=0:=rfl;omega
   unfold zeroP
   rw [List.getElem?_replicate,Kb h2]
 | n+1,hn=>by
   have ih:=sN h n (by omega)
   have hh:=h.head
   have ht:=h.top
   have hs1:=h.sum_le
   have hs2:=dO p (show n+1≤ae p from hn)
   have hs3:bU p (n+1)=bU p n+ar p n:=rfl
   by_cases hz:ar p n=0
   ·have hq:ck p (n+1)=ck p n:=by show(if _ then _ else _)=_;rw [Kb hz]
    rw [hq]
    have hlt: ∀ {j},j<n+1→ar p j≠0→j<n:=fun {j} h1 h2=>by
     rcases Kd j n with h3|h3
     ·exact h3
     ·obtain rfl:j=n:=by omega
      exact absurd hz h2
    refine⟨ih.len,ih.low,fun j h1 h2=>ih.from' j (hlt h1 h2) h2,fun j h1 h2=>ih.size' j (hlt h1 h2) h2,fun j h1 h2=>ih.fromE j h1 (by omega),fun j h1 h2=>ih.sizeE j h1 (by omega),fun j h1 h2=>ih.item j (hlt h1 h2) h2,fun i h1 h2=>ih.zero i h1 (by omega)⟩
   ·have hsl:=h.slot n (by omega)
    have hil:=dL h.len (p:=p) (j:=n) (by omega)
    have hq:ck p (n+1)=bP (bg (ck p n) (1024-bU p (n+1)) (aS p n)) n (1024-bU p (n+1)) (ar p n):=by show(if _ then _ else _)=_;rw [Ka hz]
    have hql:=ih.len
    have hl1:(bg (ck p n) (1024-bU p (n+1)) (aS p n)).length=1024:=(bS (by omega)).trans hql
    have hno: ∀ o,o+2≤18+4*ae p→o+2≤18+4*n∨18+4*n+4≤o→gu (ck p (n+1)) o=gu (ck p n) o:=fun o h1 h2=>by
     rw [hq]
     exact(de (by omega) h2).trans (oa (by omega) (by omega))
    have hge: ∀ i,(i<18+4*n∨18+4*n+4≤i)→(i<1024-bU p (n+1)∨1024-bU p n≤i)→(ck p (n+1))[i]? =(ck p n)[i]? :=fun i h1 h2=>by
     rw [hq,jR (by omega) h1,mP (by omega) (by omega)]
    have hfr:ay (ck p (n+1)) n=1024-bU p (n+1):=by rw [hq];exact kL (by omega) (by omega)
    have hsz:ar (ck p (n+1)) n=ar p n:=by rw [hq];exact mQ (by omega) (by omega)
    refine⟨by rw [hq,fH (by omega),hl1],fun i hi=>(hge i (by omega) (by omega)).trans (ih.low i hi),fun j h1 h2=>?_,fun j h1 h2=>?_,fun j h1 h2=>?_,fun j h1 h2=>?_,fun j h1 h2=>?_,fun i h1 h2=>?_⟩
    ·rcases Kd j n with h3|h3
     ·exact(hno _ (by omega) (by omega)).trans (ih.from' j h3 h2)
     ·obtain rfl:j=n:=by omega
      exact hfr
    ·rcases Kd j n with h3|h3
     ·exact(hno _ (by omega) (by omega)).trans (ih.size' j h3 h2)
     ·obtain rfl:j=n:=by omega
      exact hsz
    ·have:j≠n:=fun h3=>by subst h3;omega
     exact(hno _ (by omega) (by omega)).trans (ih.fromE j h1 (by omega))
    ·have:j≠n:=fun h3=>by subst h3;omega
     exact(hno _ (by omega) (by omega)).trans (ih.sizeE j h1 (by omega))
    ·rcases Kd j n with h3|h3
     ·rw [← ih.item j h3 h2]
      have h4:=dO p (show j+1≤n by omega)
      have h5:bU p (j+1)=bU p j+ar p j:=rfl
      exact ii fun i h6 h7=>hge i (by omega) (by omega)
     ·obtain rfl:j=n:=by omega
      rw [hq]
      have h4:=vW (p:=ck p j) (o:=1024-bU p (j+1)) (l:=aS p j) (by omega)
      rw [hil] at h4
      refine Eq.trans ?_ h4
      exact ii fun i h6 h7=>jR (by omega) (by omega)
    ·exact(hge i (by omega) (by omega)).trans (ih.zero i h1 (by omega))
structure Packed (p q:List UInt8):Prop where
 len:q.length=1024
 low: ∀ i,i<16→q[i]? =p[i]?
 slots:ae q=ae p
 begins:aF q=1024-bU p (ae p)
 froms: ∀ j,j<ae p→ay q j=if ar p j=0 then 0 else 1024-bU p (j+1)
 sizes: ∀ j,j<ae p→ar q j=ar p j
 item: ∀ j,j<ae p→ar p j≠0→aS q j=aS p j
section
variable {H:au}{b:Nat}{left:Int}{n nx:Nat}{puts:Int}{mem p q x:List UInt8}
theorem oL(h:Okp p):Packed p (iM p):=by
 have g:=sN h _ (JZ _)
 have hl:=g.len
 have hh:=h.head
 have ht:=h.top
 have hs1:=h.sum_le
 unfold iM
 have hno: ∀ o,o+2≤16∨18≤o→gu (cw (ck p (ae p)) 16 (1024-bU p (ae p))) o=gu (ck p (ae p)) o:=fun o ho=>cZ (by omega) (by omega)
 have hfr: ∀ j,j<ae p→ay (cw (ck p (ae p)) 16 (1024-bU p (ae p))) j=if ar p j=0 then 0 else 1024-bU p (j+1):=fun j hj=>by
  refine(hno _ (by omega)).trans ?_
  split
  ·rename_i h1
   refine(g.fromE j hj (.inr h1)).trans ?_
   have:=h.slot j hj
   omega
  ·rename_i h1
   exact g.from' j hj h1
 have hsz: ∀ j,j<ae p→ar (cw (ck p (ae p)) 16 (1024-bU p (ae p))) j=ar p j:=fun j hj=>by
  refine(hno _ (by omega)).trans ?_
  by_cases h1:ar p j=0
  ·exact g.sizeE j hj (.inr h1)
  ·exact g.size' j hj h1
 refine⟨(bI (by omega)).trans hl,fun i hi=>(fN (by omega) (by omega)).trans (g.low i (by omega)),(hno 14 (by omega)).trans (jj fun i h1 h2=>g.low i (by omega)),eV (by omega) (by omega),hfr,hsz,fun j hj hz=>?_⟩
 unfold aS
 rw [hfr j hj,hsz j hj,Ka hz]
 have h4:=dO p (show j+1≤ae p by omega)
 refine Eq.trans ?_ (g.item j hj hz)
 exact ii fun i h6 h7=>fN (by omega) (by omega)
theorem Packed.ok(h:Okp p)(g:Packed p q):Okp q:=by
 have hh:=h.head
 have ht:=h.top
 have hs1:=h.sum_le
 have gs:=g.slots
 have gb:=g.begins
 refine⟨g.len,by omega,by omega,fun hpos=>?_,fun j hj=>?_,fun i j hij hj hzi hzj=>?_⟩
 ·rw [gs,g.sizes _ (by omega)]
  exact h.last (by omega)
 ·have h1:=h.slot j (by omega)
  have h4:=dO p (show j+1≤ae p by omega)
  have h5:bU p (j+1)=bU p j+ar p j:=rfl
  rw [g.froms j (by omega),g.sizes j (by omega),gb]
  split <;> omega
 ·rw [g.sizes i (by omega)] at hzi
  rw [g.sizes j (by omega)] at hzj
  rw [g.froms i (by omega),g.sizes i (by omega),g.froms j (by omega),g.sizes j (by omega),Ka hzi,Ka hzj]
  have h4:=dO p (show i+1≤j by omega)
  have h5:bU p (j+1)=bU p j+ar p j:=rfl
  have h6:=dO p (show j+1≤ae p by omega)
  exact .inr (by omega)
theorem vH{p q:List UInt8}: ∀ {n},(∀ j,j<n→ar q j=ar p j)→bU q n=bU p n
 | 0,_=>rfl
 | n+1,h=>by show bU q n+_=bU p n+_;rw [vH fun j hj=>h j (by omega),h n (by omega)]
theorem mX{p q:List UInt8}: ∀ {k n},(∀ j,n≤j→j<n+k→ar q j=ar p j)→dG q k n=dG p k n
 | 0,_,_=>rfl
 | k+1,n,h=>by
   unfold dG
   rw [h n (JZ _) (by omega),mX fun j h1 h2=>h j (by omega) (by omega)]
theorem Packed.empty(g:Packed p q):aY q=aY p:=by
 unfold aY
 rw [g.slots]
 exact mX fun j _ h2=>g.sizes j (by omega)
abbrev atO(p:List UInt8)(j:Nat):VO:=aq 3 [.sc (.int .i64 ((1024-bU p j:Nat):Int))]
theorem HM(hp:p.length=1024):Fnc Tryz.prog 28 [.agg (pgS p)] H nx (fun q=>q.1=pgE (iN p)∧nx≤q.2.2∧ ∀ m,m<nx→q.2.1.at' m=H.at' m):=by
 refine KE Tryz.func28 rfl rfl ?_
 refine aV fun hund=>?_
 repeat first|refine be rfl rfl cq ?_|apply ah;rfl
 have hb1:((H.set nx (pgO p)).set (nx+1) (pgO zeroP)).at' nx=some (pgO p):=by repeat(first|exact ac|refine ab (by omega) ?_)
 have hz1:((H.set nx (pgO p)).set (nx+1) (pgO zeroP)).at' (nx+1)=some (pgO zeroP):=by repeat(exact ac)
 have ho1: ∀ m,m<nx→((H.set nx (pgO p)).set (nx+1) (pgO zeroP)).at' m=H.at' m:=fun m hm=>by(repeat(refine ab (by omega) ?_));rfl
 have hrs:=fun nx'=>gG (nx:=nx') hb1 hp
 generalize (H.set nx (pgO p)).set (nx+1) (pgO zeroP)=H1 at hb1 hz1 ho1 hrs ⊢
 cases hr:bj p with
 | false=>
   rw [hr] at hrs
   have hv:iN p=(zeroP,4):=by unfold iN;rw [Ka (by rw [hr];decide)]
   repeat first|apply ah;rfl|apply aG;rfl;assumption;rfl|apply bW;rfl;kernel_rfl;exact hrs _|refine cf (dm iD) rfl rfl rfl ?_
   ((apply bw Tryz.func28 (congrArg Array.toList Tryz.results28));(focus((apply KG rfl (KI (F.ag _ rfl) (by repeat(exact ac)) (bv aj)));(repeat(first|exact KF|apply KH rfl)))))
   exact⟨by rw [hv];rfl,by dsimp only;omega,fun m hm=>(aa _ _ (by omega)).trans (ho1 m hm)⟩
 | true=>
   rw [hr] at hrs
   have hv:iN p=(iM p,0):=by unfold iN;rw [Kb hr]
   have hok:=(aZ hp).1 hr
   have hh:=hok.head
   have ht:=hok.top
   have hsum:=hok.sum_le
   repeat first|apply ah;rfl|apply bW;rfl;kernel_rfl;exact hrs _|refine be rfl rfl cq ?_
   have hb2:(H1.set (nx+1+1) (pgO zeroP)).at' nx=some (pgO p):=by repeat(first|assumption|refine ab (by omega) ?_)
   have hz2:(H1.set (nx+1+1) (pgO zeroP)).at' (nx+1)=some (pgO zeroP):=by repeat(first|assumption|refine ab (by omega) ?_)
   have hq2:(H1.set (nx+1+1) (pgO zeroP)).at' (nx+1+1)=some (pgO zeroP):=by repeat(exact ac)
   have ho2: ∀ m,m<nx→(H1.set (nx+1+1) (pgO zeroP)).at' m=H.at' m:=fun m hm=>(aa _ _ (by omega)).trans (ho1 m hm)
   generalize H1.set (nx+1+1) (pgO zeroP)=H2 at hb2 hz2 hq2 ho2 ⊢
   have htl:(p.take (18+4*ae p)).length=18+4*ae p:=by rw [Ke];omega
   have hzl:=aj
   have hbs:BsIs H2 (.sl nx 0 (18+4*ae p) 1024) (byV (p.take (18+4*ae p))):=by
    have:=nj (b:=nx) (p:=p) (o:=0) (m:=18+4*ae p) (C:=1024) hb2 (by omega)
    rw [List.drop_zero] at this
    exact this
   (apply bk;(focus(kernel_rfl));(focus(kernel_rfl)))
   repeat first|apply bG;rfl;rfl;exact(fun _ h=>by cases h);exact(ge (l:=0) (h:=1024) (F.un _ rfl) (F.sz _ rfl) rfl rfl rfl (by omega) (by omega) (by omega) (show 1024-0=1024 from rfl) rfl rfl)|apply b9;rfl;rfl;rfl;(focus(kernel_rfl));exact(jc hb2 hp)|apply bG;rfl;rfl;exact(fun _ h=>by cases h);exact(ge (l:=0) (h:=18+4*ae p) (F.un _ rfl) (F.sz _ rfl) rfl rfl rfl (by omega) (by omega) (by omega) (show 18+4*ae p-0=18+4*ae p from rfl) rfl rfl)|apply ki;rfl;rfl;exact(fun _ h=>by cases h);exact(v9 (vs:=byV (p.take (18+4*ae p))) (F.un _ rfl) (F.sz _ rfl) rfl rfl hq2 hbs (by rw [bL];omega) (by rw [bh aj,bL];omega))|refine bp (aw rfl rfl (.inl ⟨rfl,(JH _ ⟨(by focus(omega)),(by focus(omega))⟩).symm⟩)) rfl rfl rfl ?_|refine bp (aw rfl rfl (.inr (.inr ⟨rfl,(JH _ ⟨(by focus(omega)),(by focus(omega))⟩).symm⟩))) rfl rfl rfl ?_
   refine aA ⟨by kernel_rfl,?_,?_⟩;(focus(repeat(first|exact KO|apply jE;rfl|refine⟨.inr ⟨0,by kernel_rfl,AllH.all (fun _=>(by(exact aw rfl rfl (.inl ⟨rfl,(JH _ ⟨by omega,by omega⟩).symm⟩)))) _⟩,?_⟩|refine fO 0 rfl (by kernel_rfl) (by(repeat(refine⟨(by first|exact ge (l:=0) (h:=1024) (F.un _ rfl) (F.sz _ rfl) rfl rfl rfl (by omega) (by omega) (by omega) (show 1024-0=1024 from rfl) rfl rfl|exact ge (l:=0) (h:=18+4*ae p) (F.un _ rfl) (F.sz _ rfl) rfl rfl rfl (by omega) (by omega) (by omega) (show 18+4*ae p-0=18+4*ae p from rfl) rfl rfl),?_⟩));exact KO) ?_|apply mJ;kernel_rfl)))
   dsimp only
   rw [mR (p:=zeroP) (o:=0) (l:=p.take (18+4*ae p)) rfl]
   have hb3:(H2.set (nx+1+1) (pgO (bg zeroP 0 (p.take (18+4*ae p))))).at' nx=some (pgO p):=by repeat(first|assumption|refine ab (by omega) ?_)
   have hz3:(H2.set (nx+1+1) (pgO (bg zeroP 0 (p.take (18+4*ae p))))).at' (nx+1)=some (pgO zeroP):=by repeat(first|assumption|refine ab (by omega) ?_)
   have hq3:(H2.set (nx+1+1) (pgO (bg zeroP 0 (p.take (18+4*ae p))))).at' (nx+1+1)=some (pgO (ck p 0)):=ai _ _ _
   have ho3: ∀ m,m<nx→(H2.set (nx+1+1) (pgO (bg zeroP 0 (p.take (18+4*ae p))))).at' m=H.at' m:=fun m hm=>(aa _ _ (by omega)).trans (ho2 m hm)
   generalize H2.set (nx+1+1) (pgO (bg zeroP 0 (p.take (18+4*ae p))))=H3 at hb3 hz3 hq3 ho3 ⊢
   clear hb2 hz2 hq2 ho2 hbs hb1 hz1 ho1 hrs
   repeat first|apply bB hp;rfl;(focus((repeat(first|assumption|refine ab (by omega) ?_));done))|apply ah;rfl|apply aG;rfl;(focus((repeat(exact ac));done));rfl|apply bW;rfl;kernel_rfl;exact uS hp
   rw [hr]
   obtain⟨q0,hq0⟩: ∃ q0,q0=nx+1+1+1+1:=⟨_,rfl⟩
   rw [← hq0]
   refine cQ (R:=fun H4 n4=>n4=q0+1+1∧H4.at' q0=some (pgO p)∧H4.at' (q0+1)=some (aq 4 [.sc (.bool true)])∧H4.at' nx=some (pgO p)∧H4.at' (nx+1)=some (pgO zeroP)∧H4.at' (nx+1+1)=some (pgO (ck p 0))∧H4.at' (nx+1+1+1)=some (atO p 0)∧ ∀ m,m<nx→H4.at' m=H.at' m)
    ⟨rfl,by repeat(first|exact ac|refine ab (by omega) ?_),by repeat(exact ac),by repeat(first|assumption|refine ab (by omega) ?_),by repeat(first|assumption|refine ab (by omega) ?_),by repeat(first|assumption|refine ab (by omega) ?_),by repeat(first|exact ac|refine ab (by omega) ?_),fun m hm=>by(repeat(refine ab (by omega) ?_));exact ho3 m hm⟩ ?_
   rintro H4 n4 ⟨rfl,m0,m1,m2,m4,m5,m6,mo⟩
   clear hb3 hz3 hq3 ho3
   refine iZ [(1,.ptr nx 0),(2,.ptr (nx+1) 0),(4,.ptr (nx+1+1) 0),(5,.ptr (nx+1+1+1) 0)] rfl rfl (by kernel_rfl) (KK (KN rfl)) ?_
   intro cA cB hcA hcB
   refine KD (uR (l:=q0+1+1+1) (f:=q0+1) (q:=q0) hp hr (f2:=28) (nt2:=37) (T2:=slT [(1,.ptr nx 0),(2,.ptr (nx+1) 0),(4,.ptr (nx+1+1) 0),(5,.ptr (nx+1+1+1) 0)]) (ps:= #[19,20]) (ca:=cA) (cb:=cB) (dr:=q0+1+1) rfl
    (fun j H5 n5=>H5.at' (q0+1+1+1)=some (.loop .ready none 28 37 (slT [(1,.ptr nx 0),(2,.ptr (nx+1) 0),(4,.ptr (nx+1+1) 0),(5,.ptr (nx+1+1+1) 0)]) #[19,20] cA cB (q0+1+1))∧H5.at' (q0+1)=some (aq 4 [.sc (.bool true)])∧H5.at' q0=some (pgO p)∧q0+1+1+1+1≤n5∧H5.at' nx=some (pgO p)∧H5.at' (nx+1)=some (pgO zeroP)∧H5.at' (nx+1+1)=some (pgO (ck p j))∧H5.at' (nx+1+1+1)=some (atO p j)∧H5.at' (q0+1+1)=some (.dfd (some []))∧ ∀ m,m<nx→H5.at' m=H.at' m)
    (fun _ _=>False)
    ?_ ?_ ?_ ?_ ?_) ?_
   ·rintro j H5 n5 ⟨i1,i2,i3,i4,_⟩
    exact⟨i1,i2,i3,by omega,by omega,by omega⟩
   ·rintro j H5 n5 H6 n6 ⟨i1,i2,i3,i4,i5,i6,i7,i8,i9,i10⟩ hle hs
    exact⟨(hs _ (by omega)).trans i1,(hs _ (by omega)).trans i2,(hs _ (by omega)).trans i3,by omega,(hs _ (by omega)).trans i5,(hs _ (by omega)).trans i6,(hs _ (by omega)).trans i7,(hs _ (by omega)).trans i8,(hs _ (by omega)).trans i9,fun m hm=>(hs _ (by omega)).trans (i10 m hm)⟩
   ·rintro j H5 n5 ⟨i1,i2,i3,i4,i5,i6,i7,i8,i9,i10⟩ hz
    have e1:ck p (j+1)=ck p j:=by show(if _ then _ else _)=_;rw [Kb hz]
    have e2:atO p (j+1)=atO p j:=by unfold atO;rw [show bU p (j+1)=bU p j from by show bU p j+ar p j=_;omega]
    exact⟨i1,i2,i3,i4,i5,i6,by rw [e1];exact i7,by rw [e2];exact i8,i9,i10⟩
   ·rintro j H5 n5 r ⟨i1,i2,i3,i4,i5,i6,i7,i8,i9,i10⟩ hr1 hr2 hj hs hrow
    have hrow2:(H5.set (q0+1+1+1) (.loop .busy none 28 37 (slT [(1,.ptr nx 0),(2,.ptr (nx+1) 0),(4,.ptr (nx+1+1) 0),(5,.ptr (nx+1+1+1) 0)]) #[19,20] cA cB (q0+1+1))).at' r=some (u8R false (byV (aS p j))):=(aa _ _ (by omega)).trans hrow
    have hsl:=hok.slot j hj
    have hil:=dL hp (j:=j) (by omega)
    have hbl:=bL (aS p j)
    have hmono:=dO p (show j+1≤ae p by omega)
    have hsj:bU p (j+1)=bU p j+ar p j:=rfl
    have hpk:=sN hok j (by omega)
    have e1:ck p (j+1)=bP (bg (ck p j) (1024-bU p (j+1)) (aS p j)) j (1024-bU p (j+1)) (ar p j):=by show(if _ then _ else _)=_;rw [Ka hs]
    refine nu hcA ?_
    repeat apply ah;rfl
    refine qr (by assumption) ?_
    refine nu hcB ?_
    repeat first|apply ah;rfl|apply aG;rfl;(focus((repeat(first|assumption|exact ac|refine ab (by omega) ?_));done));rfl|apply aL;rfl;omega;omega
    rw [show((1024-bU p j:Nat):Int)-((aS p j).length:Int)=((1024-bU p (j+1):Nat):Int) by omega]
    repeat first|apply ah;rfl|apply li (lw:=1024-bU p (j+1)) (hg:=1024) (m:=1024-(1024-bU p (j+1)));rfl;rfl;rfl;exact(F.un _ rfl);exact(F.sz _ rfl);rfl;rfl;(focus(omega));(focus(omega));(focus(omega));rfl;rfl;exact(Kc _)
    refine ov rfl rfl rfl rfl (F.un _ rfl) (F.sz _ rfl) (cs:=pgS (ck p j)) (vs:=byV (aS p j)) (by repeat(first|assumption|refine ab (by omega) ?_)) (ju (by(repeat(refine ab (by omega) ?_));exact hrow)) (by omega) (by rw [bh hpk.len];omega) ?_
    rw [mR rfl]
    have hlq:(bg (ck p j) (1024-bU p (j+1)) (aS p j)).length=1024:=(bS (by rw [hpk.len];omega)).trans hpk.len
    repeat first|apply ah;rfl|apply aG;rfl;(focus((repeat(first|exact ac|refine ab (by omega) ?_));done));rfl
    refine aE rfl rfl rfl (by kernel_rfl) (KD (qO (b:=nx+1+1) (by repeat(exact ac)) hlq (n:=j) (a:=1024-bU p (j+1)) (s:=(aS p j).length) (by omega) (by omega) (by omega)) ?_)
    rintro⟨_,H6,n6⟩ ⟨rfl,g1,g2,g3⟩
    dsimp only at g1 g2 g3 ⊢
    rw [hil,←e1] at g1
    have g4:H6.at' (q0+1+1+1)=some (.loop .busy none 28 37 (slT [(1,.ptr nx 0),(2,.ptr (nx+1) 0),(4,.ptr (nx+1+1) 0),(5,.ptr (nx+1+1+1) 0)]) #[19,20] cA cB (q0+1+1)):=(g3 (q0+1+1+1) (by omega) (by omega)).trans (by repeat(first|exact ac|refine ab (by omega) ?_))
    have g6:H6.at' (nx+1+1+1)=some (atO p (j+1)):=(g3 _ (by omega) (by omega)).trans (by repeat(first|exact ac|refine ab (by omega) ?_))
    have gk: ∀ m,m<n5→m≠q0+1+1+1→m≠nx+1+1→m≠nx+1+1+1→H6.at' m=H5.at' m:=fun m h1 h2 h3 h4=>(g3 m h1 h3).trans ((aa _ _ h3).trans ((aa _ _ h4).trans (aa _ _ h2)))
    clear g3 hrow hrow2
    repeat apply ah;rfl
    refine iE (by exact g4) (.inl ⟨rfl,⟨ai _ _ _,?_,?_,by dsimp only;omega,?_,?_,?_,?_,?_,fun m hm=>?_⟩,by dsimp only;omega,?_⟩)
    ·(focus((repeat(refine ab (by omega) ?_));exact(gk _ (by omega) (by omega) (by omega) (by omega)).trans i2))
    ·(focus((repeat(refine ab (by omega) ?_));exact(gk _ (by omega) (by omega) (by omega) (by omega)).trans i3))
    ·(focus((repeat(refine ab (by omega) ?_));exact(gk _ (by omega) (by omega) (by omega) (by omega)).trans i5))
    ·(focus((repeat(refine ab (by omega) ?_));exact(gk _ (by omega) (by omega) (by omega) (by omega)).trans i6))
    ·(focus((repeat(refine ab (by omega) ?_));exact g1))
    ·(focus((repeat(refine ab (by omega) ?_));exact g6))
    ·(focus((repeat(refine ab (by omega) ?_));exact(gk _ (by omega) (by omega) (by omega) (by omega)).trans i9))
    ·(focus((repeat(refine ab (by omega) ?_));exact(gk _ (by omega) (by omega) (by omega) (by omega)).trans (i10 m hm)))
    ·(focus((repeat(refine ab (by omega) ?_));exact gk _ (by omega) (by omega) (by omega) (by omega)))
   ·exact⟨ai _ _ _,by repeat(first|assumption|refine ab (by omega) ?_),by repeat(first|assumption|refine ab (by omega) ?_),JZ _,by repeat(first|assumption|refine ab (by omega) ?_),by repeat(first|assumption|refine ab (by omega) ?_),by repeat(first|assumption|refine ab (by omega) ?_),by repeat(first|assumption|refine ab (by omega) ?_),by repeat(first|exact ac|refine ab (by omega) ?_),fun m hm=>(aa _ _ (by omega)).trans ((aa _ _ (by omega)).trans (mo m hm))⟩
   ·rintro⟨v,H5,n5⟩ (⟨i1,i2,i3,i4,i5,i6,i7,i8,i9,i10⟩|hf)
    ·dsimp only at i1 i2 i3 i4 i5 i6 i7 i8 i9 i10 ⊢
     refine iF i1 (fun h=>by cases h) ?_
     dsimp only [kE]
     have hpk:=sN hok (ae p) (JZ _)
     have hpl:=hpk.len
     have hvl:(cw (ck p (ae p)) 16 (1024-bU p (ae p))).length=1024:=(bI (by omega)).trans hpl
     repeat first|apply ah;rfl|apply aG;rfl;(focus((repeat(first|assumption|refine ab (by omega) ?_));done));rfl
     refine aE rfl rfl rfl (by kernel_rfl) (KD (pI (b:=nx+1+1) (o:=16) (n:=1024-bU p (ae p)) (by(repeat(refine ab (by omega) ?_));exact i7) hpl (by decide) (by omega)) ?_)
     rintro⟨_,H6,n6⟩ ⟨rfl,g1,g2,g3⟩
     dsimp only at g1 g2 g3 ⊢
     have g4:H6.at' (nx+1)=some (pgO zeroP):=(g3 _ (by omega) (by omega)).trans (by(repeat(refine ab (by omega) ?_));exact i6)
     have g9:H6.at' (q0+1+1)=some (.dfd (some [])):=(g3 _ (by omega) (by omega)).trans (by(repeat(refine ab (by omega) ?_));exact i9)
     have go: ∀ m,m<nx→H6.at' m=H.at' m:=fun m hm=>(g3 _ (by omega) (by omega)).trans (by(repeat(refine ab (by omega) ?_));exact i10 m hm)
     have hpv:cw (ck p (ae p)) 16 (1024-bU p (ae p))=iM p:=rfl
     rw [hpv] at g1 hvl
     generalize iM p=pv at hv hvl g1
     clear hpv g3
     repeat first|apply bB hvl;rfl;assumption|apply bJ hvl aj;rfl;assumption|apply ah;rfl
     refine rW Tryz.func28 (congrArg Array.toList Tryz.results28) (rs:= [q0+1+1]) rfl (fun r hr=>by rw [Kg.1 hr];(focus((repeat(first|assumption|refine ab (by omega) ?_));done))) (by simp) ?_
     intro H7 hH7
     have hno: ∀ m,m≤nx+1→m∉ [q0+1+1]:=fun m hm h=>by have:=Kg.1 h;omega
     have k4:H7.at' (nx+1)=some (pgO pv):=(hH7 _ (hno _ (by omega))).trans (by repeat(exact ac))
     refine⟨_,(by(apply KG rfl (KI (F.ag _ rfl) (by assumption) (bv hvl)));(repeat(first|exact KF|apply KH rfl))),?_⟩
     exact⟨by rw [hv];rfl,by dsimp only;omega,fun m hm=>(hH7 m (hno _ (by omega))).trans (by(repeat(refine ab (by omega) ?_));exact go m hm)⟩
    ·exact hf.elim
theorem De(hp:p.length=1024):Fnc Tryz.prog 28 [.agg (pgS p)] H nx (fun q=>q=(pgE (iN p),H,nx)):=Fnc.bA (hY _) (HM hp)
theorem oK(hm:mem.length=131072)(l p:Int):(pY mem l p).length=131074:=by simp [hm]
theorem gQ(hm:mem.length=131072):((byV mem).map SV.sc).length=131072:=by simpa using hm
theorem v6(hm:mem.length=131072)(l p:Int):(pY mem l p)[131072]? =some (.sc (.int .i64 l)):=by
 rw [Kk (by rw [gQ hm];exact JZ _),gQ hm]
 rfl
theorem dD(hm:mem.length=131072)(l p:Int):(pY mem l p)[131073]? =some (.sc (.int .i64 p)):=by
 rw [Kk (by rw [gQ hm];decide),gQ hm]
 rfl
theorem BT(hm:mem.length=131072)(l p l':Int):(pY mem l p).set 131072 (.sc (.int .i64 l'))=pY mem l' p:=by
 rw [List.set_append_right _ _ (by rw [gQ hm];exact JZ _),gQ hm]
 rfl
theorem BS(hm:mem.length=131072)(l p p':Int):(pY mem l p).set 131073 (.sc (.int .i64 p'))=pY mem l p':=by
 rw [List.set_append_right _ _ (by rw [gQ hm];decide),gQ hm]
 rfl
def fx(mem:List UInt8)(n:Nat)(x:List UInt8):List UInt8:=bg mem (1024*n) x
theorem kI(hm:mem.length=131072)(hn:n<128)(hx:x.length=1024):(fx mem n x).length=131072:=by
 unfold fx
 rw [bS (by omega),hm]
theorem El(hm:mem.length=131072)(hn:n<128)(hx:x.length=1024)(l p:Int):(pY mem l p).take (0+n*1024) ++ pgS x ++ (pY mem l p).drop (0+n*1024+1024)=pY (fx mem n x) l p:=by
 have hl:=gQ hm
 rw [List.take_append_of_le_length (by omega),List.drop_append_of_le_length (by omega)]
 unfold fx bg
 rw [hx,Kc,Nat.mul_comm n]
 show _=(byV (mem.take (1024*n) ++ x ++ mem.drop (1024*n+1024))).map SV.sc ++ _
 rw [ku,ku,J4,J4]
 simp only [byV,List.map_take,List.map_drop,Kl]
theorem vV(hb:H.at' b=some (cT mem left puts))(hm:mem.length=131072)(hn:n<128)(hx:x.length=1024)(hl:left≠0)(hl2 : -1000000000≤left∧left≤1000000000)(hp : -1000000000≤puts∧puts≤1000000000):Fnc Tryz.prog 141 [.ptr b 0,.sc (.int .i64 (n:Int)),.agg (pgS x)] H nx
 (fun q=>q.1 = .sc (.int .i64 0)∧q.2.1.at' b=some (cT (fx mem n x) (left-1) (puts+1))∧nx≤q.2.2∧ ∀ m,m<nx→m≠b→q.2.1.at' m=H.at' m):=by
 refine KE Tryz.func141 rfl rfl ?_
 refine aV fun hund=>?_
 have hlt:=hund _ _ hb
 have hbox:(H.set nx (pgO x)).at' nx=some (pgO x):=ai _ _ _
 have hb1:(H.set nx (pgO x)).at' b=some (cT mem left puts):=(aa _ _ (by omega)).trans hb
 have hold: ∀ m,m<nx→(H.set nx (pgO x)).at' m=H.at' m:=fun m hm=>aa _ _ (by omega)
 repeat apply ah;rfl
 generalize H.set nx (pgO x)=H1 at hbox hb1 hold ⊢
 repeat first|refine df rfl rfl rfl (F.ag _ rfl) hb1 (v6 hm _ _) ?_|apply ah;rfl|apply aL;rfl;omega;omega|apply ll;rfl;omega|apply iA;rfl;omega
 refine dU rfl rfl rfl (F.sz _ rfl) hb1 rfl (JN (by rw [oK hm];decide)) ?_
 rw [BT hm]
 have hb2:(H1.set b (cT mem (left-1) puts)).at' b=some (cT mem (left-1) puts):=ai _ _ _
 repeat first|refine df rfl rfl rfl (F.ag _ rfl) hb2 (dD hm _ _) ?_|apply ah;rfl|apply aL;rfl;omega;omega
 refine dU rfl rfl rfl (F.sz _ rfl) hb2 rfl (JN (by rw [oK hm];decide)) ?_
 rw [BS hm]
 have hb3:((H1.set b (cT mem (left-1) puts)).set b (cT mem (left-1) (puts+1))).at' b=some (cT mem (left-1) (puts+1)):=ai _ _ _
 have hbox3:((H1.set b (cT mem (left-1) puts)).set b (cT mem (left-1) (puts+1))).at' nx=some (pgO x):=(aa _ _ (by omega)).trans ((aa _ _ (by omega)).trans hbox)
 have hold3: ∀ m,m<nx→m≠b→((H1.set b (cT mem (left-1) puts)).set b (cT mem (left-1) (puts+1))).at' m=H.at' m:=fun m h1 h2=>(aa _ _ h2).trans ((aa _ _ h2).trans (hold m h1))
 generalize (H1.set b (cT mem (left-1) puts)).set b (cT mem (left-1) (puts+1))=H3 at hb3 hbox3 hold3 ⊢
 clear hb2 hb1 hbox hold
 repeat apply ah;rfl
 (apply bk;(focus(kernel_rfl));(focus(kernel_rfl)))
 repeat first|refine cn rfl rfl rfl (F.ag _ rfl) hbox3 (bh hx) ?_|refine bY rfl rfl rfl (F.sz _ rfl) hb3 (bh hx) (by rw [oK hm];omega) (hZ _) (El hm hn hx _ _) ?_|apply gg (q:=n);rfl;rfl;rfl;rfl;exact(F.un _ rfl);exact(F.sz _ rfl);(focus(omega));(focus(omega))|apply aW;rfl
 refine aA ⟨by kernel_rfl,?_,?_⟩;(focus(repeat(first|exact KO|apply jE;rfl|apply gr;rfl;kernel_rfl|refine fO 0 rfl (by kernel_rfl) (by(repeat(refine⟨(by first|exact aU (F.ag _ rfl) rfl (by repeat(first|assumption|refine ab (by omega) ?_)) (bv hx)|exact fk (q:=n) rfl rfl (F.un _ rfl) (F.sz _ rfl) (by omega) (by omega)),?_⟩));exact KO) ?_)))
 repeat apply ah;rfl
 (apply bR Tryz.func141 Tryz.results141;rfl)
 exact⟨rfl,ai _ _ _,J8 _,fun m h1 h2=>(aa _ _ h2).trans (hold3 m h1 h2)⟩
def kP(p:List UInt8):Nat:=(p.getD 12 0).toNat
theorem HW(hp:p.length=1024):Fnc Tryz.prog 88 [.agg (pgS p)] H nx (fun q=>q=(.sc (.int .u8 (kP p:Int)),H,nx)):=by
 refine Fnc.bA (Free.sc _) ?_
 refine KE Tryz.func88 rfl rfl ?_
 have hc:=nX (p:=p) (i:=12) (by omega)
 repeat first|apply ah;rfl|apply gB (q:=12);rfl;rfl;rfl;rfl;exact(F.un _ rfl);exact(F.sz _ rfl);(focus(omega));(focus(omega))|refine cf (an (F.ag _ rfl) rfl (by repeat(exact ac)) hc) rfl rfl rfl ?_
 (apply bR Tryz.func88 Tryz.results88;rfl)
 refine⟨?_,J8 _,fun m hm=>aa _ _ (by omega)⟩
 have hg:p.getD 12 0=p[12]'(by omega):=by rw [JU,JJ (by omega)];rfl
 unfold kP
 rw [hg]
 rfl
def ug(p:List UInt8):Bool:=(List.range (ae p)).any fun j=>decide (ar p j≠0) && (ofV (aS p j)).isNone
def aM(p:List UInt8):List UInt8×Nat:=if fE p=true then(fJ 4,0) else if bj p=false∨kP p≠4 then(zeroP,13) else if ug p=true then(zeroP,13) else(p,0)
theorem cN{s:SV}{vs:List Value}(h:BsIs H s vs):s.one=true:=by
 obtain⟨_,⟨_,_,_,rfl⟩|⟨r0,eo,ne,ro0,t0,us,rfl,_⟩|⟨b0,o0,C0,vo0,rfl,_⟩⟩:=h <;> rfl
abbrev ud(b:Nat):SV:= .ifc 25 (.ptr b 0)
abbrev fB(e:Int):VO:=aq 43 [.sc (.int .i64 e)]
theorem Hz(hb:H.at' b=some (cT mem left puts))(hm:mem.length=131072)(hn:n<128):Fnc Tryz.prog 43 [ud b,.sc (.int .i64 (n:Int))] H nx (fun q=>q.1=pgE (aM (az mem n))∧nx≤q.2.2∧ ∀ m,m<nx→q.2.1.at' m=H.at' m):=by
 have hp:=cG hm hn
 refine KE Tryz.func43 rfl rfl ?_
 refine aV fun hund=>?_
 have hlt:=hund _ _ hb
 repeat first|refine be rfl rfl cq ?_|apply ah;rfl
 have hb1:((H.set nx (pgO zeroP)).set (nx+1) (fB 0)).at' b=some (cT mem left puts):=by repeat(first|assumption|refine ab (by omega) ?_)
 have h41:((H.set nx (pgO zeroP)).set (nx+1) (fB 0)).at' nx=some (pgO zeroP):=by repeat(first|exact ac|refine ab (by omega) ?_)
 have h51:((H.set nx (pgO zeroP)).set (nx+1) (fB 0)).at' (nx+1)=some (fB 0):=by repeat(exact ac)
 have ho1: ∀ m,m<nx→((H.set nx (pgO zeroP)).set (nx+1) (fB 0)).at' m=H.at' m:=fun m hm=>by(repeat(refine ab (by omega) ?_));rfl
 refine lU 140 rfl rfl rfl rfl (by kernel_rfl) (KD (HL hb1 hm hn) ?_)
 rintro _ rfl
 dsimp only
 generalize (H.set nx (pgO zeroP)).set (nx+1) (fB 0)=H1 at hb1 h41 h51 ho1 ⊢
 generalize az mem n=p at hp ⊢
 repeat first|refine be rfl rfl cq ?_|apply bJ hp aj;rfl;(focus((repeat(exact ac));done))|apply ah;rfl|apply dA;rfl;rfl
 have h62:((H1.set (nx+1+1) (pgO zeroP)).set (nx+1+1) (pgO p)).at' (nx+1+1)=some (pgO p):=ai _ _ _
 have h42:((H1.set (nx+1+1) (pgO zeroP)).set (nx+1+1) (pgO p)).at' nx=some (pgO zeroP):=by repeat(first|assumption|refine ab (by omega) ?_)
 have h52:((H1.set (nx+1+1) (pgO zeroP)).set (nx+1+1) (pgO p)).at' (nx+1)=some (fB 0):=by repeat(first|assumption|refine ab (by omega) ?_)
 have ho2: ∀ m,m<nx→((H1.set (nx+1+1) (pgO zeroP)).set (nx+1+1) (pgO p)).at' m=H.at' m:=fun m hm=>(aa _ _ (by omega)).trans ((aa _ _ (by omega)).trans (ho1 m hm))
 refine cQ (R:=fun H2 n2=>H2=(H1.set (nx+1+1) (pgO zeroP)).set (nx+1+1) (pgO p)∧n2=nx+1+1+1) ⟨rfl,rfl⟩ ?_
 rintro H2 n2 ⟨hH2,rfl⟩
 rw [← hH2] at h62 h42 h52 ho2
 clear hH2 h41 h51 ho1 hb1
 have hfin: ∀ (e:Nat) (x:List UInt8) (H3:au) (n3:Nat),aM p=(x,e)→nx≤n3→(∀ m,m<nx→H3.at' m=H.at' m)→(SV.tup [.agg (pgS x),.sc (.int .i64 (e:Int))]=pgE (aM p)∧nx≤n3∧ ∀ m,m<nx→H3.at' m=H.at' m):=fun e x H3 n3 h1 h2 h3=>⟨by rw [h1],h2,h3⟩
 cases hu:fE p with
 | true=>
   have hv:aM p=(fJ 4,0):=by unfold aM;rw [Kb hu]
   have hus:=fun(H:au) nx=>vB (H:=H) (nx:=nx) hp
   rw [hu] at hus
   have hl4:=fX 4
   repeat first|apply bB hp;rfl;assumption|apply ah;rfl|apply bW;rfl;kernel_rfl;exact hus _ _
   refine aE rfl rfl rfl (by kernel_rfl) (KD (Jd 4) ?_)
   rintro _ rfl
   dsimp only
   generalize fJ 4=p4 at hv hl4
   repeat first|apply bJ hl4 aj;rfl;assumption|apply ah;rfl|apply aG;rfl;(focus((repeat(first|assumption|refine ab (by omega) ?_));done));rfl
   ((apply bw Tryz.func43 (congrArg Array.toList Tryz.results43));(focus((apply KG rfl (KI (F.ag _ rfl) (by repeat(first|exact ac|refine ab (by omega) ?_)) (bv hl4)));apply KG rfl (KJ (F.ag _ rfl) (by repeat(exact ac)) (aD rfl));exact KF)))
   exact hfin 0 _ _ _ hv (by dsimp only;omega) fun m hm=>(aa _ _ (by omega)).trans ((aa _ _ (by omega)).trans (ho2 m hm))
 | false=>
   have hus:=fun(H:au) nx=>vB (H:=H) (nx:=nx) hp
   rw [hu] at hus
   have hrs:=fun(H:au) nx=>Gf (H:=H) (nx:=nx) hp
   cases hr:bj p with
   | false=>
     have hv:aM p=(zeroP,13):=by unfold aM;rw [Ka (by rw [hu];decide),Kb (.inl hr)]
     rw [hr] at hrs
     repeat first|apply bB hp;rfl;assumption|apply bJ aj aj;rfl;assumption|apply ah;rfl|apply aG;rfl;(focus((repeat(first|assumption|refine ab (by omega) ?_));done));rfl|apply bW;rfl;kernel_rfl;exact hus _ _|apply bW;rfl;kernel_rfl;exact hrs _ _|refine cf (dm iD) rfl rfl rfl ?_
     ((apply bw Tryz.func43 (congrArg Array.toList Tryz.results43));(focus((apply KG rfl (KI (F.ag _ rfl) (by repeat(first|exact ac|refine ab (by omega) ?_)) (bv aj)));apply KG rfl (KJ (F.ag _ rfl) (by repeat(exact ac)) (aD rfl));exact KF)))
     exact hfin 13 _ _ _ hv (by dsimp only;omega) fun m hm=>(aa _ _ (by omega)).trans ((aa _ _ (by omega)).trans (ho2 m hm))
   | true=>
     rw [hr] at hrs
     repeat first|apply bB hp;rfl;assumption|apply ah;rfl|apply bW;rfl;kernel_rfl;exact hus _ _|apply bW;rfl;kernel_rfl;exact hrs _ _|apply bW;rfl;kernel_rfl;exact HW hp
     refine lT rfl rfl rfl rfl (fun hk=>?_) (fun hk=>?_)
     ·have hv:aM p=(zeroP,13):=by unfold aM;rw [Ka (by rw [hu];decide),Kb (.inr (by omega))]
      repeat first|apply bJ aj aj;rfl;assumption|apply ah;rfl|apply aG;rfl;(focus((repeat(first|assumption|refine ab (by omega) ?_));done));rfl|refine cf (dm iD) rfl rfl rfl ?_
      ((apply bw Tryz.func43 (congrArg Array.toList Tryz.results43));(focus((apply KG rfl (KI (F.ag _ rfl) (by repeat(first|exact ac|refine ab (by omega) ?_)) (bv aj)));apply KG rfl (KJ (F.ag _ rfl) (by repeat(exact ac)) (aD rfl));exact KF)))
      exact hfin 13 _ _ _ hv (by dsimp only;omega) fun m hm=>(aa _ _ (by omega)).trans ((aa _ _ (by omega)).trans (ho2 m hm))
     ·have hv:aM p=if ug p=true then(zeroP,13) else(p,0):=by unfold aM;rw [Ka (by rw [hu];decide),Ka (by rw [hr];intro h;rcases h with h|h;cases h;omega)]
      repeat first|apply bB hp;rfl;assumption|apply ah;rfl|apply bW;rfl;kernel_rfl;exact uS hp
      rw [hr]
      obtain⟨q0,hq0⟩: ∃ q0,q0=nx+1+1+1:=⟨_,rfl⟩
      rw [← hq0]
      have m0:((H2.set q0 (pgO p)).set (q0+1) (aq 4 [.sc (.bool true)])).at' q0=some (pgO p):=by repeat(first|exact ac|refine ab (by omega) ?_)
      have m1:((H2.set q0 (pgO p)).set (q0+1) (aq 4 [.sc (.bool true)])).at' (q0+1)=some (aq 4 [.sc (.bool true)]):=ai _ _ _
      have m4:((H2.set q0 (pgO p)).set (q0+1) (aq 4 [.sc (.bool true)])).at' nx=some (pgO zeroP):=by repeat(first|assumption|refine ab (by omega) ?_)
      have m5:((H2.set q0 (pgO p)).set (q0+1) (aq 4 [.sc (.bool true)])).at' (nx+1)=some (fB 0):=by repeat(first|assumption|refine ab (by omega) ?_)
      have m6:((H2.set q0 (pgO p)).set (q0+1) (aq 4 [.sc (.bool true)])).at' (nx+1+1)=some (pgO p):=by repeat(first|assumption|refine ab (by omega) ?_)
      have mo: ∀ m,m<nx→((H2.set q0 (pgO p)).set (q0+1) (aq 4 [.sc (.bool true)])).at' m=H.at' m:=fun m hm=>(aa _ _ (by omega)).trans ((aa _ _ (by omega)).trans (ho2 m hm))
      generalize (H2.set q0 (pgO p)).set (q0+1) (aq 4 [.sc (.bool true)])=H3 at m0 m1 m4 m5 m6 mo ⊢
      clear ho2 h52 h42 h62 hus hrs hu
      refine iZ [(4,.ptr nx 0),(5,.ptr (nx+1) 0)] rfl rfl (by kernel_rfl) (KK (KN rfl)) ?_
      intro cA cB hcA hcB
      refine KD (uR (l:=q0+1+1+1) (f:=q0+1) (q:=q0) hp hr (f2:=43) (nt2:=47) (T2:=slT [(4,.ptr nx 0),(5,.ptr (nx+1) 0)]) (ps:= #[36,37]) (ca:=cA) (cb:=cB) (dr:=q0+1+1) rfl
       (fun j H4 n4=>H4.at' (q0+1+1+1)=some (.loop .ready none 43 47 (slT [(4,.ptr nx 0),(5,.ptr (nx+1) 0)]) #[36,37] cA cB (q0+1+1))∧H4.at' (q0+1)=some (aq 4 [.sc (.bool true)])∧H4.at' q0=some (pgO p)∧q0+1+1+1+1≤n4∧H4.at' nx=some (pgO zeroP)∧H4.at' (nx+1)=some (fB 0)∧H4.at' (nx+1+1)=some (pgO p)∧H4.at' (q0+1+1)=some (.dfd (some []))∧(∀ i,i<j→ar p i≠0→(ofV (aS p i)).isSome=true)∧ ∀ m,m<nx→H4.at' m=H.at' m)
       (fun H4 n4=>H4.at' (q0+1+1+1)=some (.loop .done (some .ret) 43 47 (slT [(4,.ptr nx 0),(5,.ptr (nx+1) 0)]) #[36,37] cA cB (q0+1+1))∧q0≤n4∧H4.at' nx=some (pgO zeroP)∧H4.at' (nx+1)=some (fB 13)∧H4.at' (q0+1+1)=some (.dfd (some []))∧ug p=true∧ ∀ m,m<nx→H4.at' m=H.at' m)
       ?_ ?_ ?_ ?_ ?_) ?_
      ·rintro j H4 n4 ⟨i1,i2,i3,i4,_⟩
       exact⟨i1,i2,i3,by omega,by omega,by omega⟩
      ·rintro j H4 n4 H5 n5 ⟨i1,i2,i3,i4,i5,i6,i7,i8,i9,i10⟩ hle hs
       exact⟨(hs _ (by omega)).trans i1,(hs _ (by omega)).trans i2,(hs _ (by omega)).trans i3,by omega,(hs _ (by omega)).trans i5,(hs _ (by omega)).trans i6,(hs _ (by omega)).trans i7,(hs _ (by omega)).trans i8,i9,fun m hm=>(hs _ (by omega)).trans (i10 m hm)⟩
      ·rintro j H4 n4 ⟨i1,i2,i3,i4,i5,i6,i7,i8,i9,i10⟩ hz
       refine⟨i1,i2,i3,i4,i5,i6,i7,i8,fun i hi hs=>?_,i10⟩
       rcases Kd i j with h|h
       ·exact i9 i h hs
       ·obtain rfl:i=j:=by omega
        exact absurd hz hs
      ·rintro j H4 n4 r ⟨i1,i2,i3,i4,i5,i6,i7,i8,i9,i10⟩ hr1 hr2 hj hs hrow
       have hrow2:(H4.set (q0+1+1+1) (.loop .busy none 43 47 (slT [(4,.ptr nx 0),(5,.ptr (nx+1) 0)]) #[36,37] cA cB (q0+1+1))).at' r=some (u8R false (byV (aS p j))):=(aa _ _ (by omega)).trans hrow
       have hil:(aS p j).length≤1024:=by unfold aS;rw [Ke,Kh];omega
       refine nu hcA ?_
       repeat apply ah;rfl
       refine qr (by assumption) ?_
       refine nu hcB ?_
       repeat apply ah;rfl
       refine aE rfl rfl rfl (by kernel_rfl) (KD (of_s (ju hrow2) (by omega)) ?_)
       rintro⟨_,H5,n5⟩ ⟨s',r',rfl,⟨k,w,rfl,gk,gw⟩,_,g2,g3⟩
       dsimp only at g2 g3 ⊢
       have j1:=(g3 _ (show q0+1+1+1<n4 by omega)).trans (ai _ _ _)
       have jo: ∀ m,m<n4→m≠q0+1+1+1→H5.at' m=H4.at' m:=fun m h1 h2=>(g3 m h1).trans (aa _ _ h2)
       have j4:H5.at' nx=some (pgO zeroP):=(jo _ (by omega) (by omega)).trans i5
       have j5:H5.at' (nx+1)=some (fB 0):=(jo _ (by omega) (by omega)).trans i6
       have hone: ∀ x y:Nat,bm (dB k w x y)=true:=fun x y=>by simp only [bm,cN gk.bs,cN gw.bs];rfl
       clear gk gw g3 hrow hrow2
       repeat first|apply ah;rfl|refine cU rfl rfl rfl (F.sz _ rfl) (by repeat(first|assumption|exact ac)) rfl (by exact JL rfl) (hone _ _) rfl ?_
       cases ho:ofV (aS p j)with
       | none=>
         have hbd:ug p=true:=by
          unfold ug
          rw [List.any_eq_true]
          exact⟨j,Kw.2 hj,by rw [Kt hs,ho];rfl⟩
         refine lT rfl rfl rfl rfl (fun _=>?_) (fun hq=>absurd hq (by decide))
         repeat first|apply bJ aj aj;rfl;(focus((repeat(first|assumption|refine ab (by omega) ?_));done))|apply ah;rfl|apply aG;rfl;(focus((repeat(first|assumption|refine ab (by omega) ?_));done));rfl|refine cf (dm iD) rfl rfl rfl ?_
         refine xt (by repeat(first|assumption|refine ab (by omega) ?_)) (.inr ⟨rfl,ai _ _ _,by dsimp only;omega,by repeat(first|exact ac|refine ab (by omega) ?_),by repeat(first|exact ac|refine ab (by omega) ?_),?_,hbd,fun m hm=>?_⟩)
         ·(focus((repeat(refine ab (by omega) ?_));exact(jo _ (by omega) (by omega)).trans i8))
         ·(focus((repeat(refine ab (by omega) ?_));exact(jo _ (by omega) (by omega)).trans (i10 m hm)))
       | some v=>
         refine lT rfl rfl rfl rfl (fun hq=>absurd rfl hq) (fun _=>?_)
         repeat apply ah;rfl
         refine iE (by repeat(first|assumption|refine ab (by omega) ?_)) (.inl ⟨rfl,⟨ai _ _ _,?_,?_,by dsimp only;omega,?_,?_,?_,?_,fun i hi hsi=>?_,fun m hm=>?_⟩,by dsimp only;omega,?_⟩)
         ·(focus((repeat(refine ab (by omega) ?_));exact(jo _ (by omega) (by omega)).trans i2))
         ·(focus((repeat(refine ab (by omega) ?_));exact(jo _ (by omega) (by omega)).trans i3))
         ·(focus((repeat(first|assumption|refine ab (by omega) ?_));done))
         ·(focus((repeat(first|assumption|refine ab (by omega) ?_));done))
         ·(focus((repeat(refine ab (by omega) ?_));exact(jo _ (by omega) (by omega)).trans i7))
         ·(focus((repeat(refine ab (by omega) ?_));exact(jo _ (by omega) (by omega)).trans i8))
         ·rcases Kd i j with h|h
          ·exact i9 i h hsi
          ·obtain rfl:i=j:=by omega
           rw [ho]
           rfl
         ·(focus((repeat(refine ab (by omega) ?_));exact(jo _ (by omega) (by omega)).trans (i10 m hm)))
         ·(focus((repeat(refine ab (by omega) ?_));exact jo _ (by omega) (by omega)))
      ·exact⟨ai _ _ _,by repeat(first|assumption|refine ab (by omega) ?_),by repeat(first|assumption|refine ab (by omega) ?_),JZ _,by repeat(first|assumption|refine ab (by omega) ?_),by repeat(first|assumption|refine ab (by omega) ?_),by repeat(first|assumption|refine ab (by omega) ?_),by repeat(first|exact ac|refine ab (by omega) ?_),fun i hi=>absurd hi (Nat.not_lt_zero _),fun m hm=>(aa _ _ (by omega)).trans ((aa _ _ (by omega)).trans (mo m hm))⟩
      ·rintro⟨v,H4,n4⟩ (⟨i1,i2,i3,i4,i5,i6,i7,i8,i9,i10⟩|⟨i1,i4,i5,i6,i8,i9,i10⟩)
       ·dsimp only at i1 i2 i3 i4 i5 i6 i7 i8 i10 ⊢
        have hbad:ug p=false:=by
         unfold ug
         rw [List.any_eq_false]
         intro j hj
         have hj:=Kw.1 hj
         by_cases hz:ar p j=0
         ·rw [Ku (fun h=>h hz)];simp
         ·have:=i9 j hj hz
          rw [show(ofV (aS p j)).isNone=false by cases h:ofV (aS p j)with|none=>rw [h] at this;cases this|some _=>rfl]
          simp
        rw [hbad] at hv
        refine iF i1 (fun h=>by cases h) ?_
        dsimp only [kE]
        have h6: ∀ vo,(H4.set (q0+1+1+1) vo).at' (nx+1+1)=some (pgO p):=fun vo=>(aa _ _ (by omega)).trans i7
        have h4: ∀ vo,(H4.set (q0+1+1+1) vo).at' nx=some (pgO zeroP):=fun vo=>(aa _ _ (by omega)).trans i5
        repeat first|apply bB hp;rfl;(focus((repeat(first|assumption|refine ab (by omega) ?_));done))|apply bJ hp aj;rfl;(focus((repeat(first|assumption|refine ab (by omega) ?_));done))|apply ah;rfl|apply aG;rfl;(focus((repeat(first|assumption|refine ab (by omega) ?_));done));rfl
        refine rW Tryz.func43 (congrArg Array.toList Tryz.results43) (rs:= [q0+1+1]) rfl (fun r hr=>by rw [Kg.1 hr];(focus((repeat(first|assumption|refine ab (by omega) ?_));done))) (by simp) ?_
        intro H7 hH7
        have hno: ∀ m,m≤nx+1→m∉ [q0+1+1]:=fun m hm h=>by have:=Kg.1 h;omega
        have g4:H7.at' nx=some (pgO p):=(hH7 nx (hno _ (by omega))).trans (by repeat(first|exact ac|refine ab (by omega) ?_))
        have g5:H7.at' (nx+1)=some (fB 0):=(hH7 _ (hno _ (by omega))).trans (by repeat(exact ac))
        refine⟨_,(by((apply KG rfl (KI (F.ag _ rfl) (by assumption) (bv hp)));apply KG rfl (KJ (F.ag _ rfl) (by assumption) (aD rfl));exact KF)),?_⟩
        exact hfin 0 _ _ _ (hv.trans (Ka (by decide))) (by dsimp only;omega) fun m hm=>(hH7 m (hno _ (by omega))).trans (by(repeat(refine ab (by omega) ?_));exact i10 m hm)
       ·dsimp only at i1 i4 i5 i6 i8 i10 ⊢
        refine iF i1 (fun h=>by cases h) ?_
        dsimp only [kE]
        refine rW Tryz.func43 (congrArg Array.toList Tryz.results43) (rs:= [q0+1+1]) rfl (fun r hr=>by rw [Kg.1 hr];(focus((repeat(first|assumption|refine ab (by omega) ?_));done))) (by simp) ?_
        intro H7 hH7
        have hno: ∀ m,m≤nx+1→m∉ [q0+1+1]:=fun m hm h=>by have:=Kg.1 h;omega
        have g4:H7.at' nx=some (pgO zeroP):=(hH7 nx (hno _ (by omega))).trans (by repeat(first|assumption|refine ab (by omega) ?_))
        have g5:H7.at' (nx+1)=some (fB 13):=(hH7 _ (hno _ (by omega))).trans (by repeat(first|assumption|refine ab (by omega) ?_))
        refine⟨_,(by((apply KG rfl (KI (F.ag _ rfl) (by assumption) (bv aj)));apply KG rfl (KJ (F.ag _ rfl) (by assumption) (aD rfl));exact KF)),?_⟩
        exact hfin 13 _ _ _ (hv.trans (Kb i9)) (by dsimp only;omega) fun m hm=>(hH7 m (hno _ (by omega))).trans (by(repeat(refine ab (by omega) ?_));exact i10 m hm)
theorem sC(hb:H.at' b=some (cT mem left puts))(hm:mem.length=131072)(hn:n<128):Fnc Tryz.prog 43 [ud b,.sc (.int .i64 (n:Int))] H nx (fun q=>q=(pgE (aM (az mem n)),H,nx)):=Fnc.bA (hY _) (Hz hb hm hn)
end
end Go.Proofs.YtnhmbonmlfeifaaGreat
end
