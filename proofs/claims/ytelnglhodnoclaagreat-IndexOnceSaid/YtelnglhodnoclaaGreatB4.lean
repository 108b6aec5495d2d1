import Derived.Laws.StructEq
import Derived.Sort.AssemblyPlain
import Derived.Sort.LotD5
import Derived.Test.YtelnglhodnoclaaGreatB3
set_option linter.unusedVariables false
set_option linter.unusedSimpArgs false
set_option maxRecDepth 100000
set_option maxHeartbeats 0
section
namespace Go.Proofs.YtelnglhodnoclaaGreat
open Go Go.Sy Go.Sl Go.RowKit
abbrev byV(l:List UInt8):List Value:=l.map fun c=> .int .u8 (c.toNat:Int)
def beN(l:List UInt8):Nat:=l.foldl (fun n c=>256*n+c.toNat) 0
theorem Aj(l:List UInt8)(c:UInt8):beN (l ++ [c])=256*beN l+c.toNat:=by simp [beN]
theorem Ai{l:List UInt8}{j:Nat}(h:j<l.length):beN (l.take (j+1))=256*beN (l.take j)+(l[j]).toNat:=by
 rw [List.take_add_one,D5 h]
 exact Aj _ _
theorem ui: ∀ (l:List UInt8) (a:Nat),l.foldl (fun n c=>256*n+c.toNat) a<(a+1)*256 ^ l.length
 | [],a=>by simp
 | c :: l,a=>by
   have h:=ui l (256*a+c.toNat)
   have hc:=c.toNat_lt
   simp only [List.foldl_cons,Ep,Nat.pow_succ]
   refine Nat.lt_of_lt_of_le h ?_
   rw [Nat.mul_comm (256 ^ l.length) 256,←Nat.mul_assoc]
   exact Nat.mul_le_mul_right _ (by omega)
theorem AZ(l:List UInt8):beN l<256 ^ l.length:=by
 have:=ui l 0
 rwa [EA,Nat.one_mul] at this
theorem Cp{l:List UInt8}{j:Nat}(h:j<(byV l).length):(byV l)[j] = .int .u8 ((l[j]'(by simpa using h)).toNat:Int):=by simp
theorem shl8{n:Nat}(h:n<72057594037927936):IntKind.u64.wrap ((n:Int)*2 ^ (min (8:Int).toNat IntKind.u64.bits))=((256*n:Nat):Int):=by
 rw [show(min (8:Int).toNat IntKind.u64.bits)=8 from rfl]
 refine(EX _ ⟨by omega,by omega⟩).trans ?_
 omega
theorem or8{n c:Nat}(hn:n<72057594037927936)(hc:c<256):yr .or .u64 ((256*n:Nat):Int) (c:Int)=((256*n+c:Nat):Int):=by
 show IntKind.u64.wrap (((BitVec.ofInt 64 ((256*n:Nat):Int) ||| BitVec.ofInt 64 (c:Int)).toNat:Nat):Int)=_
 have e1:(((256*n:Nat):Int) % ((2 ^ 64:Nat):Int)).toNat=n <<< 8:=by rw [Nat.shiftLeft_eq];omega
 have e2:((c:Int) % ((2 ^ 64:Nat):Int)).toNat=c:=by omega
 rw [BitVec.toNat_or,BitVec.toNat_ofInt,BitVec.toNat_ofInt,e1,e2,←Nat.shiftLeft_add_eq_or_of_lt (show c<2 ^ 8 by omega),Nat.shiftLeft_eq]
 exact(EX _ ⟨by omega,by omega⟩).trans (by omega)
theorem get_s{H:aw}{nx:Nat}{s:SV}{bs:List UInt8}(hb:BsIs H s (byV bs))(h1:1≤bs.length)(h2:bs.length≤8):Fnc Tryz.prog 125 [s] H nx
 (fun q=>q=(.tup [.sc (.int .u64 (beN bs:Int)),.sc (.int .i64 0)],H,nx)):=by
 have hlen:(byV bs).length=bs.length:=by simp
 refine E2 Tryz.func125 rfl rfl ?_
 repeat first|apply bk;rfl|refine bN (iD (F.un _ rfl) rfl hb) rfl rfl rfl ?_
 refine bm rfl rfl rfl rfl (fun hq=>absurd hq (by omega)) (fun _=>?_)
 repeat first|apply bk;rfl|refine bN (iD (F.un _ rfl) rfl hb) rfl rfl rfl ?_
 refine dS rfl rfl rfl rfl (fun hq=>absurd hq (by omega)) (fun _=>?_)
 repeat first|apply ae;rfl|apply bk;rfl|refine bN (iD (F.un _ rfl) rfl hb) rfl rfl rfl ?_
 refine br (α:=Nat) (fun j=> [(0,s),(4,.sc (.int .u64 (beN (bs.take j):Int))),(15,s),(16,.sc (.int .i64 ((byV bs).length:Int))),(17,.sc (.int .i64 (j:Int)))]) (fun j H1 n1=>H1=H∧n1=nx∧j≤bs.length) (fun j=>bs.length-j) 0
  ⟨rfl,rfl,En _⟩ (E8 (Gb rfl)) ?_
 rintro j H1 n1 ⟨rfl,rfl,h3⟩ ih
 repeat apply ae;rfl
 (apply bm;rfl;rfl;rfl;rfl)
 all_goals intro h4
 ·have hj:j<bs.length:=by omega
  have hlt:=AZ (bs.take j)
  rw [EC,Nat.min_eq_left (by omega)] at hlt
  have hp:256 ^ j≤256 ^ 7:=Nat.pow_le_pow_right (by decide) (by omega)
  have hn:beN (bs.take j)<72057594037927936:=Nat.lt_of_lt_of_le hlt hp
  repeat apply ae;rfl
  refine C2 (j:=j) rfl rfl rfl rfl (F.un _ rfl) (F.sz _ rfl) hb (by omega) ?_
  intro b o vo hvo hcell
  rw [Cp] at hcell
  have hc:=(bs[j]).toNat_lt
  repeat first|apply ae;rfl|apply aB;rfl;omega;omega|refine bN (aI (F.ag _ rfl) rfl hvo hcell) rfl rfl rfl ?_|refine bN (tF rfl rfl (by focus(decide)) (shl8 hn)) rfl rfl rfl ?_|refine bN (cG (F.un _ rfl) (F.un _ rfl) rfl (show _=((bs[j].toNat:Nat):Int)from EX _ ⟨by omega,by omega⟩)) rfl rfl rfl ?_|refine bN (kZ rfl rfl (.inr (.inl rfl)) (or8 hn hc)) rfl rfl rfl ?_
  refine ih _ _ _ (j+1) ⟨rfl,rfl,by omega⟩ (by omega) ?_
  rw [Ai hj]
  exact E8 (by repeat(first|exact Gc|refine⟨rfl,?_⟩))
 ·obtain rfl:j=bs.length:=by omega
  rw [List.take_length]
  repeat apply ae;rfl
  (apply bW Tryz.func125 Tryz.results125;rfl)
  rfl
def beB(n size:Nat):List UInt8:=(List.range size).map fun i=>UInt8.ofNat (n / 256 ^ (size-1-i))
theorem ej(n size:Nat):(beB n size).length=size:=by simp [beB]
theorem shrB{n k:Nat}{b:Int}(hb:b=8*(k:Int))(hk:k<8):((n:Nat):Int).fdiv (2 ^ (min b.toNat IntKind.u64.bits))=((n / 256 ^ k:Nat):Int):=by
 have e:min b.toNat IntKind.u64.bits=8*k:=by
  have:IntKind.u64.bits=64:=rfl
  omega
 rw [e,Int.natCast_ediv]
 have:(2:Int) ^ (8*k)=((256 ^ k:Nat):Int):=by
  rw [Int.pow_mul]
  simp
 rw [this,Int.fdiv_eq_ediv_of_nonneg _ (Int.natCast_nonneg _)]
theorem v7(q:Nat):IntKind.u8.wrap ((q:Nat):Int)=((UInt8.ofNat q).toNat:Int):=by
 simp [IntKind.wrap,IntKind.bits,IntKind.signed]
theorem tK{n size i:Nat}(hi:i<size):(beB n size).take (i+1)=(beB n size).take i ++ [UInt8.ofNat (n / 256 ^ (size-1-i))]:=by
 rw [List.take_add_one,D5 (by rw [ej];exact hi)]
 simp [beB]
theorem put_s{H:aw}{nx n size:Nat}(hn:n<256 ^ size)(h1:1≤size)(h2:size≤8)(hn2:n≤18446744073709551615):Fnc Tryz.prog 102 [.sc (.int .u64 (n:Int)),.sc (.int .i64 (size:Int))] H nx
 (fun q=>q.1 = .tup [.slu nx 0 size,.sc (.int .i64 0)]∧q.2.1.at' nx=some (dat false size 1 5 (byV (beB n size)))∧q.2.2=nx+1∧ ∀ m,m<nx→q.2.1.at' m=H.at' m):=by
 refine E2 Tryz.func102 rfl rfl ?_
 repeat apply ae;rfl
 refine bm rfl rfl rfl rfl (fun hq=>absurd hq (by omega)) (fun _=>?_)
 repeat apply ae;rfl
 refine dS rfl rfl rfl rfl (fun hq=>absurd hq (by omega)) (fun _=>?_)
 repeat apply ae;rfl
 (apply bm;rfl;rfl;rfl;rfl)
 all_goals intro hs
 ·have hz:n / 256 ^ size=0:=Nat.div_eq_of_lt hn
  repeat first|apply ae;rfl|apply aB;rfl;omega;omega|refine bN (qz rfl rfl (by focus(omega)) (shrB rfl (by omega))) rfl rfl rfl ?_
  refine ga rfl rfl rfl rfl (fun hq=>absurd (by rw [hz];rfl) hq) (fun _=>?_)
  repeat first|apply ae;rfl|apply oS (z:= .int .u8 0) (bb:=1) (n:=size) (m:=size);rfl;rfl;exact(F.un _ rfl);exact(F.sz _ rfl);exact(F.ze _ rfl);(focus(kernel_rfl));rfl;rfl;rfl;exact(Em _);(focus(omega));(focus(omega))
  refine br (α:=Nat) (fun i=> [(0,.sc (.int .u64 (n:Int))),(1,.sc (.int .i64 (size:Int))),(6,.slu nx 0 size),(28,.sc (.int .i64 (size:Int))),(29,.sc (.int .i64 (i:Int)))]) (fun i H1 n1=>n1=nx+1∧i≤size∧H1.at' nx=some (dat false size 1 5 (byV ((beB n size).take i) ++ List.replicate (size-i) (.int .u8 0)))∧ ∀ m,m<nx→H1.at' m=H.at' m) (fun i=>size-i) 0 ⟨rfl,En _,by rw [au];simp,fun m hm=>ab _ _ (by omega)⟩ (E8 (Gb rfl)) ?_
  rintro i H1 n1 ⟨rfl,h3,h4,h5⟩ ih
  repeat apply ae;rfl
  (apply bm;rfl;rfl;rfl;rfl)
  all_goals intro h6
  ·have hi:i<size:=by omega
   have hl1:(byV ((beB n size).take i)).length=i:=by rw [ED,EC,ej];omega
   repeat first|apply ae;rfl|apply aB;rfl;omega;omega|refine bN (qz rfl rfl (by focus(omega)) (shrB (k:=size-1-i) (by omega) (by omega))) rfl rfl rfl ?_|refine bN (cG (F.un _ rfl) (F.un _ rfl) rfl (v7 _)) rfl rfl rfl ?_|refine cQ (q:=i) rfl rfl rfl rfl (F.un _ rfl) (F.sz _ rfl) h4 rfl hi (Em _) ?_
   refine tj (vs:= [.int .u8 ((UInt8.ofNat (n / 256 ^ (size-1-i))).toNat:Int)]) (cs':=byV ((beB n size).take (i+1)) ++ List.replicate (size-(i+1)) (.int .u8 0)) rfl rfl rfl rfl (F.sz _ rfl) h4 rfl (by omega) (by rw [Er,hl1,EL];omega) (fun v hv=>by rw [EE.1 hv];rfl) ?_ ?_
   ·rw [tK hi,Nat.mul_one,List.take_left' hl1,←List.drop_drop,List.drop_left' hl1,List.drop_replicate,show size-(i+1)=size-i-1 from(Nat.sub_sub _ _ _).symm]
    simp only [byV,Es,Eo,List.map_nil]
   ·repeat first|apply ae;rfl|apply aB;rfl;omega;omega
    refine ih _ _ _ (i+1) ⟨rfl,hi,au _ _ _,fun m hm=>(ab _ _ (by omega)).trans (h5 m hm)⟩ (by omega) (E8 (Gb rfl))
  ·obtain rfl:i=size:=by omega
   rw [Nat.sub_self,List.replicate_zero,EM,Ed (by rw [ej];exact Em _)] at h4
   repeat apply ae;rfl
   (apply bW Tryz.func102 Tryz.results102;rfl)
   exact⟨rfl,h4,rfl,h5⟩
 ·repeat first|apply ae;rfl|apply oS (z:= .int .u8 0) (bb:=1) (n:=size) (m:=size);rfl;rfl;exact(F.un _ rfl);exact(F.sz _ rfl);exact(F.ze _ rfl);(focus(kernel_rfl));rfl;rfl;rfl;exact(Em _);(focus(omega));(focus(omega))
  refine br (α:=Nat) (fun i=> [(0,.sc (.int .u64 (n:Int))),(1,.sc (.int .i64 (size:Int))),(6,.slu nx 0 size),(28,.sc (.int .i64 (size:Int))),(29,.sc (.int .i64 (i:Int)))]) (fun i H1 n1=>n1=nx+1∧i≤size∧H1.at' nx=some (dat false size 1 5 (byV ((beB n size).take i) ++ List.replicate (size-i) (.int .u8 0)))∧ ∀ m,m<nx→H1.at' m=H.at' m) (fun i=>size-i) 0 ⟨rfl,En _,by rw [au];simp,fun m hm=>ab _ _ (by omega)⟩ (E8 (Gb rfl)) ?_
  rintro i H1 n1 ⟨rfl,h3,h4,h5⟩ ih
  repeat apply ae;rfl
  (apply bm;rfl;rfl;rfl;rfl)
  all_goals intro h6
  ·have hi:i<size:=by omega
   have hl1:(byV ((beB n size).take i)).length=i:=by rw [ED,EC,ej];omega
   repeat first|apply ae;rfl|apply aB;rfl;omega;omega|refine bN (qz rfl rfl (by focus(omega)) (shrB (k:=size-1-i) (by omega) (by omega))) rfl rfl rfl ?_|refine bN (cG (F.un _ rfl) (F.un _ rfl) rfl (v7 _)) rfl rfl rfl ?_|refine cQ (q:=i) rfl rfl rfl rfl (F.un _ rfl) (F.sz _ rfl) h4 rfl hi (Em _) ?_
   refine tj (vs:= [.int .u8 ((UInt8.ofNat (n / 256 ^ (size-1-i))).toNat:Int)]) (cs':=byV ((beB n size).take (i+1)) ++ List.replicate (size-(i+1)) (.int .u8 0)) rfl rfl rfl rfl (F.sz _ rfl) h4 rfl (by omega) (by rw [Er,hl1,EL];omega) (fun v hv=>by rw [EE.1 hv];rfl) ?_ ?_
   ·rw [tK hi,Nat.mul_one,List.take_left' hl1,←List.drop_drop,List.drop_left' hl1,List.drop_replicate,show size-(i+1)=size-i-1 from(Nat.sub_sub _ _ _).symm]
    simp only [byV,Es,Eo,List.map_nil]
   ·repeat first|apply ae;rfl|apply aB;rfl;omega;omega
    refine ih _ _ _ (i+1) ⟨rfl,hi,au _ _ _,fun m hm=>(ab _ _ (by omega)).trans (h5 m hm)⟩ (by omega) (E8 (Gb rfl))
  ·obtain rfl:i=size:=by omega
   rw [Nat.sub_self,List.replicate_zero,EM,Ed (by rw [ej];exact Em _)] at h4
   repeat apply ae;rfl
   (apply bW Tryz.func102 Tryz.results102;rfl)
   exact⟨rfl,h4,rfl,h5⟩
end Go.Proofs.YtelnglhodnoclaaGreat
end
section
namespace Go.Sy
open Go Go.Sl Go.RowKit
section
variable {P:Program}
theorem Fnc.bV{f:FuncId}{args:List SV}{H:aw}{nx:Nat}{v:SV}(hv:Free v)(h:Fnc P f args H nx (fun q=>q.1=v∧nx≤q.2.2∧ ∀ n,n<nx→q.2.1.at' n=H.at' n)):Fnc P f args H nx (fun q=>q=(v,H,nx)):=by
 unfold Fnc iR at h ⊢
 rcases h with ⟨h1,u,r,h2,⟨q1,q2,q3⟩,h4⟩|h
 ·refine .inl ⟨h1,u,_,h2,rfl,fun K w0 e w hS=>?_⟩
  obtain⟨e',g1,g2,g3⟩:=h4 K w0 e w hS
  rw [q1] at g3
  exact⟨e,E9 e,hS.drop g1 g2 q3,hv _ _ _ g3⟩
 ·refine .inr ?_
  split at h
  ·refine⟨fun K w0 e w tmps todo ds kd rof cs hS a2 a3 a4 a5=>?_⟩
   obtain⟨r,⟨q1,q2,q3⟩,e',w',u,g1,g2,g3,g4⟩:=Wp.run h K w0 e w tmps todo ds kd rof cs hS a2 a3 a4 a5
   rw [q1] at g3
   exact⟨_,rfl,e,w',u,E9 e,hS.drop g1 g2 q3,hv _ _ _ g3,g4⟩
  ·exact h.elim
end
end Go.Sy
end
section
namespace Go.Proofs.YtelnglhodnoclaaGreat
open Go Go.Sy Go.Sl Go.RowKit
section
variable {H:aw}{b n nx o:Nat}{l p:List UInt8}
abbrev pgS(p:List UInt8):List SV:=(byV p).map .sc
abbrev pgO(p:List UInt8):VO:=am 48 (pgS p)
theorem bf(h:p.length=n):(pgS p).length=n:=by simpa using h
def eJ(p:List UInt8)(o:Nat)(l:List UInt8):List UInt8:=p.take o ++ l ++ p.drop (o+l.length)
theorem eI(h:o+l.length≤p.length):(eJ p o l).length=p.length:=by
 unfold eJ
 simp only [Er,EC,EF]
 omega
def gL(p:List UInt8)(at':Nat):Nat:=beN ((p.drop at').take 2)
def fi(p:List UInt8)(at' n:Nat):List UInt8:=eJ p at' (beB n 2)
theorem cc(h:o+2≤p.length):(fi p o n).length=p.length:=eI (by rw [ej];exact h)
theorem jN(p:List UInt8)(o:Nat):gL p o<65536:=by
 have h1:=AZ ((p.drop o).take 2)
 have h2:((p.drop o).take 2).length≤2:=by rw [EC];omega
 have h3:256 ^ ((p.drop o).take 2).length≤256 ^ 2:=Nat.pow_le_pow_right (by decide) h2
 unfold gL
 omega
theorem zu{i:Nat}(hi:i<p.length):(pgO p).cell i=some (.sc (.int .u8 ((p[i]).toNat:Int))):=aE (by simp [hi])
theorem mR(hn:(byV l).length=n):(pgS p).take o ++ (byV l).map .sc ++ (pgS p).drop (o+n)=pgS (eJ p o l):=by
 subst hn
 unfold eJ
 simp [List.map_take,List.map_drop]
theorem s9{m C:Nat}(hb:H.at' b=some (pgO p))(h:o+m≤p.length):BsIs H (.sl b o m C) (byV ((p.drop o).take m)):=by
 have hl:(byV ((p.drop o).take m)).length=m:=by simp;omega
 refine⟨fun v hv=>?_,.inr (.inr ⟨b,o,C,_,by rw [hl],hb,?_⟩)⟩
 ·obtain⟨c,_,rfl⟩:=EV.1 hv
  rfl
 ·rw [hl]
  exact aH _ o (by simp [List.map_take,List.map_drop]) (by simpa using hl)
theorem rK{r:Nat}{ro:Bool}(hb:H.at' r=some (dat ro n 1 5 (byV l)))(hn:l.length=n):BsIs H (.slu r 0 n) (byV l):=
 BsIs.row (fun v hv=>by obtain⟨c,_,rfl⟩:=EV.1 hv;rfl) hb (by simpa using hn)
theorem mf(hb:H.at' b=some (pgO p))(hp:p.length=1024)(ho:o+2≤1024):Fnc Tryz.prog 101 [.ptr b 0,.sc (.int .i64 (o:Int))] H nx (fun q=>q=(.sc (.int .i64 (gL p o:Int)),H,nx)):=by
 have hl:((p.drop o).take 2).length=2:=by simp;omega
 have hlt:=jN p o
 have hg: ∀ {nx C:Nat},Fnc Tryz.prog 125 [.sl b o 2 C] H nx (fun q=>q=(.tup [.sc (.int .u64 (gL p o:Int)),.sc (.int .i64 0)],H,nx)):=get_s (s9 hb (by omega)) (by omega) (by omega)
 refine E2 Tryz.func101 rfl rfl ?_
 repeat first|apply ae;rfl|apply aB;rfl;omega;omega|apply nW (lw:=o) (hg:=o+2);rfl;rfl;rfl;exact(F.un _ rfl);exact(F.sz _ rfl);rfl;rfl;(focus(omega));(focus(omega));(focus(omega));exact(show o+2-o=2 by omega);rfl;exact(EA o)|apply cH;rfl;kernel_rfl;exact hg|refine bN (cG (F.un _ rfl) (F.un _ rfl) rfl (show _=((gL p o:Nat):Int)from D3 _ ⟨by omega,by omega⟩)) rfl rfl rfl ?_
 (apply bW Tryz.func101 Tryz.results101;rfl)
 rfl
abbrev aj(p:List UInt8):Nat:=gL p 14
abbrev aM(p:List UInt8):Nat:=gL p 16
theorem gP(hb:H.at' b=some (pgO p))(hp:p.length=1024):Fnc Tryz.prog 78 [.ptr b 0] H nx (fun q=>q=(.sc (.int .i64 (aj p:Int)),H,nx)):=by
 refine E2 Tryz.func78 rfl rfl ?_
 repeat first|apply ae;rfl|apply cH;rfl;kernel_rfl;exact mf (o:=14) hb hp (by decide)
 (apply bW Tryz.func78 Tryz.results78;rfl)
 rfl
theorem pY(hb:H.at' b=some (pgO p))(hp:p.length=1024):Fnc Tryz.prog 90 [.ptr b 0] H nx (fun q=>q=(.sc (.int .i64 (aM p:Int)),H,nx)):=by
 refine E2 Tryz.func90 rfl rfl ?_
 repeat first|apply ae;rfl|apply cH;rfl;kernel_rfl;exact mf (o:=16) hb hp (by decide)
 (apply bW Tryz.func90 Tryz.results90;rfl)
 rfl
abbrev Cg(f:Nat):SV:= .fn (.func 100) [] [.ptr f 0]
abbrev zU(b:Nat):VO:=am 132 [.ptr b 0]
theorem kD:Fnc Tryz.prog 77 [.ptr b 0] H nx (fun q=>q=(Cg nx,H.set nx (zU b),nx+1)):=by
 refine E2 Tryz.func77 rfl rfl ?_
 repeat apply ae;rfl
 (apply bW Tryz.func77 Tryz.results77;rfl)
 rfl
abbrev aY(p:List UInt8)(n:Nat):Nat:=gL p (18+4*n)
abbrev aG(p:List UInt8)(n:Nat):Nat:=gL p (18+4*n+2)
theorem mv{f:Nat}(hf:H.at' f=some (zU b))(hb:H.at' b=some (pgO p))(hp:p.length=1024)(hn:18+4*n+4≤1024):Fnc Tryz.prog 100 [.sc (.int .i64 (n:Int)),.ptr f 0] H nx
 (fun q=>q=(.tup [.sc (.int .i64 (aY p n:Int)),.sc (.int .i64 (aG p n:Int))],H,nx)):=by
 have h1: ∀ nx,Fnc Tryz.prog 101 [.ptr b 0,.sc (.int .i64 (18+4*(n:Int)))] H nx (fun q=>q=(.sc (.int .i64 (aY p n:Int)),H,nx)):=fun nx=>by
  have:=mf (nx:=nx) (o:=18+4*n) hb hp (by omega)
  rw [show((18+4*n:Nat):Int)=18+4*(n:Int) by omega] at this
  exact this
 have h2: ∀ nx,Fnc Tryz.prog 101 [.ptr b 0,.sc (.int .i64 (18+4*(n:Int)+2))] H nx (fun q=>q=(.sc (.int .i64 (aG p n:Int)),H,nx)):=fun nx=>by
  have:=mf (nx:=nx) (o:=18+4*n+2) hb hp (by omega)
  rw [show((18+4*n+2:Nat):Int)=18+4*(n:Int)+2 by omega] at this
  exact this
 refine E2 Tryz.func100 rfl rfl ?_
 repeat first|apply ae;rfl|apply aB;rfl;omega;omega
 (apply aS;(focus(kernel_rfl));(focus(kernel_rfl)))
 repeat first|apply aA;rfl|refine bq (ak rfl rfl (.inl ⟨rfl,(D3 _ ⟨(by focus(omega)),(by focus(omega))⟩).symm⟩)) rfl rfl rfl ?_|refine bq (aI (F.ag _ rfl) rfl hf (aE rfl)) rfl rfl rfl ?_|apply eZ;rfl;rfl;rfl;(focus(kernel_rfl));exact(h1 _)|apply eZ;rfl;rfl;rfl;(focus(kernel_rfl));exact(h2 _)
 refine ay ⟨by kernel_rfl,?_,?_⟩;(focus(repeat(first|exact Gc|apply bZ;rfl|apply bM;rfl|refine⟨.inr (by(repeat(refine⟨(by first|exact ak rfl rfl (.inl ⟨rfl,(D3 _ ⟨by omega,by omega⟩).symm⟩)|exact aI (F.ag _ rfl) rfl (by assumption) (aE rfl)),?_⟩));exact Gc),?_⟩)))
 (apply bW Tryz.func100 Tryz.results100;rfl)
 rfl
theorem nK(hb:H.at' b=some (pgO p))(hp:p.length=1024)(ho:o+2≤1024)(hn:n<65536):Fnc Tryz.prog 79 [.ptr b 0,.sc (.int .i64 (o:Int)),.sc (.int .i64 (n:Int))] H nx
 (fun q=>q.1 = .tup []∧q.2.1.at' b=some (pgO (fi p o n))∧nx≤q.2.2∧ ∀ m,m<nx→m≠b→q.2.1.at' m=H.at' m):=by
 refine E2 Tryz.func79 rfl rfl ?_
 refine a9 fun hund=>?_
 have hlt:=hund _ _ hb
 repeat first|apply ae;rfl|refine bN (cG (F.un _ rfl) (F.un _ rfl) rfl (show _=((n:Nat):Int)from EX _ ⟨by omega,by omega⟩)) rfl rfl rfl ?_
 refine aL rfl rfl rfl (by kernel_rfl) (E1 (put_s (n:=n) (size:=2) (by omega) (by decide) (by decide) (by omega)) ?_)
 rintro⟨_,H2,n2⟩ ⟨rfl,h2,rfl,h4⟩
 dsimp only at h2 h4 ⊢
 have hb2:=(h4 b hlt).trans hb
 repeat first|apply ae;rfl|apply aB;rfl;omega;omega|apply nW (lw:=o) (hg:=o+2);rfl;rfl;rfl;exact(F.un _ rfl);exact(F.sz _ rfl);rfl;rfl;(focus(omega));(focus(omega));(focus(omega));exact(show o+2-o=2 by omega);rfl;exact(EA o)|refine bN (ct rfl rfl (.inl ⟨rfl,rfl⟩)) rfl rfl rfl ?_
 refine oV rfl rfl rfl rfl (F.un _ rfl) (F.sz _ rfl) hb2 (rK h2 (by rw [ej])) (by simp [ej]) (by simp [ej];omega) ?_
 repeat apply ae;rfl
 (apply wd Tryz.func79 Tryz.results79;rfl)
 refine⟨rfl,?_,Ew _,fun m hm hmb=>(ab _ _ hmb).trans (h4 m hm)⟩
 rw [au,mR (by simp [ej])]
 rfl
def bP(p:List UInt8)(n a s:Nat):List UInt8:=fi (fi p (18+4*n) a) (18+4*n+2) s
theorem fK{a s:Nat}(h:18+4*n+4≤p.length):(bP p n a s).length=p.length:=by
 unfold bP
 rw [cc,cc (by omega)]
 rw [cc (by omega)]
 omega
theorem pg(hb:H.at' b=some (pgO p))(hp:p.length=1024){a s:Nat}(hn:18+4*n+4≤1024)(ha:a<65536)(hs:s<65536):Fnc Tryz.prog 76 [.ptr b 0,.sc (.int .i64 (n:Int)),.sc (.int .i64 (a:Int)),.sc (.int .i64 (s:Int))] H nx
 (fun q=>q.1 = .tup []∧q.2.1.at' b=some (pgO (bP p n a s))∧nx≤q.2.2∧ ∀ m,m<nx→m≠b→q.2.1.at' m=H.at' m):=by
 have h1: ∀ {H:aw} {nx:Nat},H.at' b=some (pgO p)→Fnc Tryz.prog 79 [.ptr b 0,.sc (.int .i64 (18+4*(n:Int))),.sc (.int .i64 (a:Int))] H nx _:=fun {H nx} hb=>by
  have:=nK (nx:=nx) (o:=18+4*n) hb hp (by omega) ha
  rw [show((18+4*n:Nat):Int)=18+4*(n:Int) by omega] at this
  exact this
 have h2: ∀ {H:aw} {nx:Nat},H.at' b=some (pgO (fi p (18+4*n) a))→Fnc Tryz.prog 79 [.ptr b 0,.sc (.int .i64 (18+4*(n:Int)+2)),.sc (.int .i64 (s:Int))] H nx _:=fun {H nx} hb=>by
  have:=nK (nx:=nx) (o:=18+4*n+2) hb (by rw [cc (by omega)];exact hp) (by omega) hs
  rw [show((18+4*n+2:Nat):Int)=18+4*(n:Int)+2 by omega] at this
  exact this
 refine E2 Tryz.func76 rfl rfl ?_
 refine a9 fun hund=>?_
 have hlt:=hund _ _ hb
 repeat first|apply ae;rfl|apply aB;rfl;omega;omega
 refine aL rfl rfl rfl (by kernel_rfl) (E1 (h1 hb) ?_)
 rintro⟨_,H2,n2⟩ ⟨rfl,g2,g3,g4⟩
 dsimp only at g2 g3 g4 ⊢
 repeat first|apply ae;rfl|apply aB;rfl;omega;omega
 refine aL rfl rfl rfl (by kernel_rfl) (E1 (h2 g2) ?_)
 rintro⟨_,H3,n3⟩ ⟨rfl,k2,k3,k4⟩
 dsimp only at k2 k3 k4 ⊢
 repeat apply ae;rfl
 (apply wd Tryz.func76 Tryz.results76;rfl)
 exact⟨rfl,k2,Ev g3 k3,fun m hm hmb=>(k4 m (by omega) hmb).trans (g4 m hm hmb)⟩
theorem xi:Fnc Tryz.prog 87 [.sc (.int .i64 (n:Int))] H nx (fun q=>q=(.sc (.bool (decide (1≤n∧n≤1000))),H,nx)):=by
 refine E2 Tryz.func87 rfl rfl ?_
 (repeat' (first|apply ae;rfl|(refine cD rfl rfl rfl rfl ?_ ?_ <;> intro hq)|(refine my rfl rfl rfl rfl ?_ ?_ <;> intro hq2)))
 all_goals(apply bW Tryz.func87 Tryz.results87;rfl)
 all_goals first|(rw [ER (by omega)];rfl)|(rw [ES (by omega)];rfl)
def zeroP:List UInt8:=List.replicate 1024 0
theorem ac:zeroP.length=1024:=EL
def dm(k:UInt8):List UInt8:=fi (zeroP.set 12 k) 16 1024
theorem cM(k:UInt8):(dm k).length=1024:=by
 unfold dm
 rw [cc (by rw [List.length_set,ac];decide),List.length_set,ac]
theorem dN:qe Tryz.prog 48=some (pgS zeroP):=by kernel_rfl
theorem jx(a b:List UInt8)(ha:a.length=1024)(hb:b.length=1024):List.take 0 (pgS a) ++ (SV.agg (pgS b)).cells ++ List.drop (0+1024) (pgS a)=pgS b:=by
 rw [List.take_zero,List.nil_append,EA,List.drop_of_length_le (by simp [ha]),EM]
 rfl
theorem iG(p:List UInt8):cq (pgS p)=true:=by
 induction p with
 | nil=>rfl
 | cons c p ih=>exact ih
theorem bH(hp:p.length=1024):(pgO p).cellsFrom 0 1024=some (pgS p):=
 aH _ 0 (by rw [List.drop_zero,Ed (by simp [hp])]) (by simp [hp])
theorem Dd(p:List UInt8)(i:Nat)(c:UInt8):(pgS p).set i (.sc (.int .u8 (c.toNat:Int)))=pgS (p.set i c):=by simp [List.map_set]
end
section
variable {ro:Option Nat} {fn nt nx d b:Nat} {T:Tr SV} {k k':List AIt} {dfs:List ADf} {H:aw} {Q:Pst} {p q:List UInt8}
theorem dc(hp:p.length=1024)(h:ldW wl nt T k=some (b,1024,d,k'))(hb:H.at' b=some (pgO p))(hw:Wp Tryz.prog ro ⟨fn,nt,T.set d (.agg (pgS p)),k',dfs,H,nx⟩ Q):Wp Tryz.prog ro ⟨fn,nt,T,k,dfs,H,nx⟩ Q:=w_ldW jt h hb (bf hp) hw
theorem cx(hp:p.length=1024)(hq:q.length=1024)(h:stW wl nt T k=some (b,1024,pgS p,k'))(hb:H.at' b=some (pgO q))(hw:Wp Tryz.prog ro ⟨fn,nt,T,k',dfs,H.set b (pgO p),nx⟩ Q):Wp Tryz.prog ro ⟨fn,nt,T,k,dfs,H,nx⟩ Q:=w_stW jt h hb (bf hp) (bf hq) (iG p) hw
end
section
variable {H:aw}{s:SV}{a b i n nx o r:Nat}{ro:Bool}{l p:List UInt8}{seen:List (Nat×Nat)}
theorem BP(hi:i<p.length)(c:UInt8):List.take i (pgS p) ++ (SV.sc (.int .u8 (c.toNat:Int))).cells ++ List.drop (i+1) (pgS p)=pgS (p.set i c):=by
 rw [← Dd,List.set_eq_take_append_cons_drop,Ez (by simpa using hi)]
 simp [SV.cells]
theorem DB(k:UInt8):Fnc Tryz.prog 57 [.sc (.int .u8 (k.toNat:Int))] H nx (fun q=>q.1 = .agg (pgS (dm k))∧nx≤q.2.2∧ ∀ m,m<nx→q.2.1.at' m=H.at' m):=by
 refine E2 Tryz.func57 rfl rfl ?_
 have hl0:(pgS zeroP).length=1024:=by rw [ED,ED];exact ac
 repeat first|apply ae;rfl|apply aR;rfl;(focus((repeat(exact ah));done));rfl|refine eR (aW dN) rfl rfl rfl ?_|apply ic (q:=12);rfl;rfl;rfl;rfl;exact(F.un _ rfl);exact(F.sz _ rfl);(focus(omega));(focus(omega))
 rw [BP (p:=zeroP) (i:=0+12*1) (by rw [ac];decide) k,show 0+12*1=12 from rfl]
 refine aL rfl rfl rfl (by kernel_rfl) (E1 (nK (b:=nx+1) (p:=zeroP.set 12 k) (o:=16) (n:=1024) (by repeat(exact ah)) (by rw [List.length_set];exact ac) (by decide) (by decide)) ?_)
 rintro⟨_,H2,n2⟩ ⟨rfl,g2,g3,g4⟩
 dsimp only at g2 g3 g4 ⊢
 have hres:H2.at' nx=some (pgO zeroP):=(g4 nx (by omega) (by omega)).trans (by repeat(first|exact ah|refine aa (by omega) ?_))
 have hl:(dm k).length=1024:=cM k
 repeat first|apply ae;rfl|apply aR;rfl;assumption;rfl
 rw [show fi (zeroP.set 12 k) 16 1024=dm k from rfl,jx zeroP (dm k) ac hl]
 ((apply bv Tryz.func57 (congrArg Array.toList Tryz.results57));(focus((apply E4 rfl (E6 (F.ag _ rfl) (by repeat(exact ah)) (bH hl)));(repeat(exact E3)))))
 exact⟨rfl,by dsimp only;omega,fun m hm=>(ab _ _ (by omega)).trans ((g4 m (by omega) (by omega)).trans (by(repeat(refine aa (by omega) ?_));rfl))⟩
theorem xD(k:UInt8):Fnc Tryz.prog 57 [.sc (.int .u8 (k.toNat:Int))] H nx (fun q=>q=(.agg (pgS (dm k)),H,nx)):=Fnc.bV (Free.agg _) (DB k)
def cu(seen:List (Nat×Nat))(i:Nat):Bool:=seen.any fun x=>decide (x.1≤i∧i<x.1+x.2)
def sI(seen:List (Nat×Nat))(a s:Nat):Bool:=(List.range s).any fun j=>cu seen (a+j)
def eF(p:List UInt8):Nat→Nat→List (Nat×Nat)→Bool→Bool
 | 0,_,_,fine=>fine
 | k+1,n,seen,_=>
   if aY p n=0∧aG p n=0 then eF p k (n+1) seen (decide (n+1<aj p))
   else if aG p n<1∨1000<aG p n∨aY p n<aM p∨1024<aY p n+aG p n then false
   else if sI seen (aY p n) (aG p n) then false else eF p k (n+1) ((aY p n,aG p n) :: seen) true
def cr(p:List UInt8):Bool:=decide (18+4*aj p≤aM p∧aM p≤1024) && eF p (aj p) 0 [] true
abbrev CB(f:Nat→Bool):List SV:=(List.range 1024).map fun i=> .sc (.bool (f i))
abbrev CC(f:Nat→Bool):VO:=am 158 (CB f)
theorem zTak:qe Tryz.prog 158=some (CB fun _=>false):=by kernel_rfl
theorem tu(f:Nat→Bool)(hi:i<1024):(CC f).cell i=some (.sc (.bool (f i))):=aE (by simp [hi])
theorem uv(seen:List (Nat×Nat))(a:Nat):cu ((a,0) :: seen)=cu seen:=by
 funext i
 simp only [cu,List.any_cons,Nat.add_zero]
 rw [ES (by omega),Bool.false_or]
theorem AW(seen:List (Nat×Nat))(h:a≤i):cu ((a,i-a) :: seen) i=cu seen i:=by
 simp only [cu,List.any_cons]
 rw [ES (by omega),Bool.false_or]
theorem wk(h:a≤i):(CB (cu ((a,i-a) :: seen))).set i (.sc (.bool true))=CB (cu ((a,i+1-a) :: seen)):=by
 refine ET fun j=>?_
 rw [List.getElem?_set,EP,EP,ED,List.length_range]
 rcases EB j 1024 with hj|hj
 ·rw [List.getElem?_range hj]
  by_cases he:i=j
  ·subst he
   rw [Ez rfl,Ez hj]
   simp only [Et,cu,List.any_cons]
   rw [ER (by omega),Bool.true_or]
  ·rw [Ey he]
   simp only [Et,cu,List.any_cons]
   rw [show decide (a≤j∧j<a+(i-a))=decide (a≤j∧j<a+(i+1-a))from decide_eq_decide.2 (by omega)]
 ·rw [EW (by simpa using hj)]
  by_cases he:i=j
  ·subst he
   rw [Ez rfl,Ey (by omega)]
   rfl
  ·rw [Ey he]
   rfl
theorem kq{s:Nat}(h1:a≤i)(h2:i<a+s)(h:cu seen i=true):sI seen a s=true:=by
 unfold sI
 rw [List.any_eq_true]
 exact⟨i-a,EU.2 (by omega),by rw [show a+(i-a)=i by omega];exact h⟩
theorem tV{s:Nat}(h: ∀ j,a≤j→j<a+s→cu seen j=false):sI seen a s=false:=by
 unfold sI
 rw [List.any_eq_false]
 intro j hj
 rw [h (a+j) (by omega) (by have:=EU.1 hj;omega)]
 decide
theorem Bt(hb:H.at' b=some (pgO p))(hp:p.length=1024):Fnc Tryz.prog 74 [.ptr b 0] H nx (fun q=>q.1 = .sc (.bool (cr p))∧nx≤q.2.2∧ ∀ m,m<nx→q.2.1.at' m=H.at' m):=by
 have hs:aj p<65536:=jN p 14
 have hg:aM p<65536:=jN p 16
 refine E2 Tryz.func74 rfl rfl ?_
 refine a9 fun hund=>?_
 have hlt:=hund _ _ hb
 repeat first|apply ae;rfl|apply aB;rfl;omega;omega|apply cH;rfl;kernel_rfl;exact gP hb hp|apply cH;rfl;kernel_rfl;exact pY hb hp
 refine bm rfl rfl rfl rfl (fun h1=>?_) (fun h1=>?_)
 ·repeat apply ae;rfl
  (apply bW Tryz.func74 Tryz.results74;rfl)
  refine⟨?_,Em _,fun m _=>rfl⟩
  unfold cr
  rw [ES (by omega)]
  rfl
 repeat apply ae;rfl
 refine dS rfl rfl rfl rfl (fun h2=>?_) (fun h2=>?_)
 ·repeat apply ae;rfl
  (apply bW Tryz.func74 Tryz.results74;rfl)
  refine⟨?_,Em _,fun m _=>rfl⟩
  unfold cr
  rw [ES (by omega)]
  rfl
 have hrp:cr p=eF p (aj p) 0 [] true:=by
  unfold cr
  rw [ER (by omega),Bool.true_and]
 rw [hrp]
 repeat first|apply ae;rfl|apply cH;rfl;kernel_rfl;exact kD|refine eR (aW zTak) rfl rfl rfl ?_
 refine br (α:=Nat×List (Nat×Nat)×Bool) (fun x=> [(0,.ptr b 0),(3,.sc (.int .i64 (aj p:Int))),(4,.sc (.int .i64 (aM p:Int))),(5,Cg nx),(6,.ptr (nx+1) 0),(7,.sc (.bool x.2.2)),(27,.sc (.int .i64 (aj p:Int))),(28,.sc (.int .i64 (x.1:Int)))])
  (fun x H1 n1=>n1=nx+1+1∧x.1≤aj p∧eF p (aj p-x.1) x.1 x.2.1 x.2.2=eF p (aj p) 0 [] true∧H1.at' nx=some (zU b)∧H1.at' (nx+1)=some (CC (cu x.2.1))∧ ∀ m,m<nx→H1.at' m=H.at' m) (fun x=>aj p-x.1) (0,[],true)
  ⟨rfl,En _,rfl,by repeat(first|exact ah|refine aa (by omega) ?_),au _ _ _,fun m hm=>(ab _ _ (by omega)).trans (ab _ _ (by omega))⟩ (E8 (Gb rfl)) ?_
 rintro⟨n,seen,fine⟩ H1 n1 ⟨rfl,h3,h4,h5,h6,h7⟩ ih
 dsimp only at h3 h4 h5 h6 h7 ih ⊢
 have hb1:=(h7 b hlt).trans hb
 have ha0:aY p n<65536:=jN p _
 have hz0:aG p n<65536:=jN p _
 repeat apply ae;rfl
 refine bm rfl rfl rfl rfl (fun h8=>?_) (fun h8=>?_)
 ·have hn:n<aj p:=by omega
  have hgo:eF p (aj p-n) n seen fine=if aY p n=0∧aG p n=0 then eF p (aj p-(n+1)) (n+1) seen (decide (n+1<aj p))
   else if aG p n<1∨1000<aG p n∨aY p n<aM p∨1024<aY p n+aG p n then false
   else if sI seen (aY p n) (aG p n) then false else eF p (aj p-(n+1)) (n+1) ((aY p n,aG p n) :: seen) true:=by
   rw [show aj p-n=(aj p-(n+1))+1 by omega]
   rfl
  repeat apply ae;rfl
  refine jG rfl rfl rfl rfl (by kernel_rfl) (E1 (mv h5 hb1 hp (n:=n) (by omega)) ?_)
  rintro _ rfl
  dsimp only
  repeat apply ae;rfl
  by_cases hE:aY p n=0∧aG p n=0
  ·refine cE rfl rfl rfl rfl (fun _=>?_) (fun hq=>absurd (by omega) hq)
   repeat apply ae;rfl
   refine cE rfl rfl rfl rfl (fun _=>?_) (fun hq=>absurd (by omega) hq)
   repeat first|apply ae;rfl|apply aB;rfl;omega;omega|refine bN (ct rfl rfl (.inr (.inr (.inl ⟨rfl,rfl⟩)))) rfl rfl rfl ?_
   refine ih _ _ _ (n+1,seen,decide (n+1<aj p)) ⟨rfl,hn,?_,h5,h6,h7⟩ (by omega) ?_
   ·rw [← h4,hgo,Ez hE]
   ·rw [show decide ((n:Int)<(aj p:Int)-1)=decide (n+1<aj p)from decide_eq_decide.2 (by omega)]
    exact E8 (by repeat(first|exact Gc|refine⟨rfl,?_⟩))
  ·have hgo2:=hgo
   rw [Ey hE] at hgo2
   refine cE rfl rfl rfl rfl (fun e1=>?_) (fun e1=>?_)
   ·repeat apply ae;rfl
    refine cE rfl rfl rfl rfl (fun hq=>absurd hq (by omega)) (fun _=>?_)
    repeat apply ae;rfl
    refine bm rfl rfl rfl rfl (fun c1=>?_) (fun c1=>?_)
    ·(repeat(apply ae;rfl));(apply bW Tryz.func74 Tryz.results74;rfl);exact⟨by rw [← h4,hgo2,Ez (by omega)];rfl,by dsimp only;omega,h7⟩
    repeat apply ae;rfl
    refine dS rfl rfl rfl rfl (fun c2=>?_) (fun c2=>?_)
    ·(repeat(apply ae;rfl));(apply bW Tryz.func74 Tryz.results74;rfl);exact⟨by rw [← h4,hgo2,Ez (by omega)];rfl,by dsimp only;omega,h7⟩
    repeat apply ae;rfl
    refine bm rfl rfl rfl rfl (fun c3=>?_) (fun c3=>?_)
    ·(repeat(apply ae;rfl));(apply bW Tryz.func74 Tryz.results74;rfl);exact⟨by rw [← h4,hgo2,Ez (by omega)];rfl,by dsimp only;omega,h7⟩
    repeat first|apply ae;rfl|apply aB;rfl;omega;omega
    refine dS rfl rfl rfl rfl (fun c4=>?_) (fun c4=>?_)
    ·(repeat(apply ae;rfl));(apply bW Tryz.func74 Tryz.results74;rfl);exact⟨by rw [← h4,hgo2,Ez (by omega)];rfl,by dsimp only;omega,h7⟩
    rw [Ey (by omega)] at hgo2
    repeat apply ae;rfl
    refine br (α:=Nat) (fun i=> [(0,.ptr b 0),(3,.sc (.int .i64 (aj p:Int))),(4,.sc (.int .i64 (aM p:Int))),(5,Cg nx),(6,.ptr (nx+1) 0),(8,.sc (.int .i64 (n:Int))),(9,.sc (.int .i64 (aY p n:Int))),(10,.sc (.int .i64 (aG p n:Int))),(11,.sc (.int .i64 (i:Int))),(27,.sc (.int .i64 (aj p:Int))),(28,.sc (.int .i64 (n:Int)))])
     (fun i H2 n2=>n2=nx+1+1∧aY p n≤i∧i≤aY p n+aG p n∧(∀ j,aY p n≤j→j<i→cu seen j=false)∧H2.at' nx=some (zU b)∧H2.at' (nx+1)=some (CC (cu ((aY p n,i-aY p n) :: seen)))∧ ∀ m,m<nx→H2.at' m=H.at' m) (fun i=>aY p n+aG p n-i) (aY p n)
     ⟨rfl,Em _,by omega,fun j g1 g2=>absurd g1 (by omega),h5,by rw [Nat.sub_self];exact h6.trans (congrArg (fun f=>some (CC f)) (uv _ _).symm),h7⟩ (E8 (Gb rfl)) ?_
    rintro i H2 n2 ⟨rfl,g1,g2,g3,g4,g5,g6⟩ ih2
    repeat first|apply ae;rfl|apply aB;rfl;omega;omega
    refine bm rfl rfl rfl rfl (fun c5=>?_) (fun c5=>?_)
    ·have hi:i<1024:=by omega
     have hc:=tu (cu ((aY p n,i-aY p n) :: seen)) hi
     rw [AW seen g1] at hc
     cases hci:cu seen i with
     | true=>
       rw [hci] at hc
       repeat first|apply ae;rfl|apply ic (q:=i);rfl;rfl;rfl;rfl;exact(F.un _ rfl);exact(F.sz _ rfl);(focus(omega));(focus(omega))|refine bN (aI (F.ag _ rfl) rfl g5 (by rw [EA,Nat.mul_one];exact hc)) rfl rfl rfl ?_
       (apply bW Tryz.func74 Tryz.results74;rfl)
       exact⟨by rw [← h4,hgo2,Ez (kq (by omega) (by omega) hci)];rfl,by dsimp only;omega,g6⟩
     | false=>
       rw [hci] at hc
       repeat first|apply ae;rfl|apply ic (q:=i);rfl;rfl;rfl;rfl;exact(F.un _ rfl);exact(F.sz _ rfl);(focus(omega));(focus(omega))|refine bN (aI (F.ag _ rfl) rfl g5 (by rw [EA,Nat.mul_one];exact hc)) rfl rfl rfl ?_
       refine cJ (v:= .sc (.bool true)) (cs:=CB (cu ((aY p n,i-aY p n) :: seen))) rfl rfl rfl (F.sz _ rfl) g5 rfl (by rw [EA,Nat.mul_one];exact D9 (by rw [ED,List.length_range];exact hi)) ?_
       rw [EA,Nat.mul_one,wk g1]
       repeat first|apply ae;rfl|apply aB;rfl;omega;omega
       refine ih2 _ _ _ (i+1) ⟨rfl,by omega,by omega,fun j k1 k2=>?_,(ab _ _ (by omega)).trans g4,au _ _ _,fun m hm=>(ab _ _ (by omega)).trans (g6 m hm)⟩ (by omega) (E8 (Gb rfl))
       rcases EB j i with k3|k3
       ·exact g3 j k1 k3
       ·obtain rfl:j=i:=by omega
        exact hci
    ·obtain rfl:i=aY p n+aG p n:=by omega
     rw [Nat.add_sub_cancel_left] at g5
     rw [Ey (by rw [tV g3];decide)] at hgo2
     repeat first|apply ae;rfl|apply aB;rfl;omega;omega
     exact ih _ _ _ (n+1,(aY p n,aG p n) :: seen,true) ⟨rfl,hn,by rw [← h4,hgo2],g4,g5,g6⟩ (by omega) (E8 (Gb rfl))
   ·repeat apply ae;rfl
    refine bm rfl rfl rfl rfl (fun c1=>?_) (fun c1=>?_)
    ·(repeat(apply ae;rfl));(apply bW Tryz.func74 Tryz.results74;rfl);exact⟨by rw [← h4,hgo2,Ez (by omega)];rfl,by dsimp only;omega,h7⟩
    repeat apply ae;rfl
    refine dS rfl rfl rfl rfl (fun c2=>?_) (fun c2=>?_)
    ·(repeat(apply ae;rfl));(apply bW Tryz.func74 Tryz.results74;rfl);exact⟨by rw [← h4,hgo2,Ez (by omega)];rfl,by dsimp only;omega,h7⟩
    repeat apply ae;rfl
    refine bm rfl rfl rfl rfl (fun c3=>?_) (fun c3=>?_)
    ·(repeat(apply ae;rfl));(apply bW Tryz.func74 Tryz.results74;rfl);exact⟨by rw [← h4,hgo2,Ez (by omega)];rfl,by dsimp only;omega,h7⟩
    repeat first|apply ae;rfl|apply aB;rfl;omega;omega
    refine dS rfl rfl rfl rfl (fun c4=>?_) (fun c4=>?_)
    ·(repeat(apply ae;rfl));(apply bW Tryz.func74 Tryz.results74;rfl);exact⟨by rw [← h4,hgo2,Ez (by omega)];rfl,by dsimp only;omega,h7⟩
    rw [Ey (by omega)] at hgo2
    repeat apply ae;rfl
    refine br (α:=Nat) (fun i=> [(0,.ptr b 0),(3,.sc (.int .i64 (aj p:Int))),(4,.sc (.int .i64 (aM p:Int))),(5,Cg nx),(6,.ptr (nx+1) 0),(8,.sc (.int .i64 (n:Int))),(9,.sc (.int .i64 (aY p n:Int))),(10,.sc (.int .i64 (aG p n:Int))),(11,.sc (.int .i64 (i:Int))),(27,.sc (.int .i64 (aj p:Int))),(28,.sc (.int .i64 (n:Int)))])
     (fun i H2 n2=>n2=nx+1+1∧aY p n≤i∧i≤aY p n+aG p n∧(∀ j,aY p n≤j→j<i→cu seen j=false)∧H2.at' nx=some (zU b)∧H2.at' (nx+1)=some (CC (cu ((aY p n,i-aY p n) :: seen)))∧ ∀ m,m<nx→H2.at' m=H.at' m) (fun i=>aY p n+aG p n-i) (aY p n)
     ⟨rfl,Em _,by omega,fun j g1 g2=>absurd g1 (by omega),h5,by rw [Nat.sub_self];exact h6.trans (congrArg (fun f=>some (CC f)) (uv _ _).symm),h7⟩ (E8 (Gb rfl)) ?_
    rintro i H2 n2 ⟨rfl,g1,g2,g3,g4,g5,g6⟩ ih2
    repeat first|apply ae;rfl|apply aB;rfl;omega;omega
    refine bm rfl rfl rfl rfl (fun c5=>?_) (fun c5=>?_)
    ·have hi:i<1024:=by omega
     have hc:=tu (cu ((aY p n,i-aY p n) :: seen)) hi
     rw [AW seen g1] at hc
     cases hci:cu seen i with
     | true=>
       rw [hci] at hc
       repeat first|apply ae;rfl|apply ic (q:=i);rfl;rfl;rfl;rfl;exact(F.un _ rfl);exact(F.sz _ rfl);(focus(omega));(focus(omega))|refine bN (aI (F.ag _ rfl) rfl g5 (by rw [EA,Nat.mul_one];exact hc)) rfl rfl rfl ?_
       (apply bW Tryz.func74 Tryz.results74;rfl)
       exact⟨by rw [← h4,hgo2,Ez (kq (by omega) (by omega) hci)];rfl,by dsimp only;omega,g6⟩
     | false=>
       rw [hci] at hc
       repeat first|apply ae;rfl|apply ic (q:=i);rfl;rfl;rfl;rfl;exact(F.un _ rfl);exact(F.sz _ rfl);(focus(omega));(focus(omega))|refine bN (aI (F.ag _ rfl) rfl g5 (by rw [EA,Nat.mul_one];exact hc)) rfl rfl rfl ?_
       refine cJ (v:= .sc (.bool true)) (cs:=CB (cu ((aY p n,i-aY p n) :: seen))) rfl rfl rfl (F.sz _ rfl) g5 rfl (by rw [EA,Nat.mul_one];exact D9 (by rw [ED,List.length_range];exact hi)) ?_
       rw [EA,Nat.mul_one,wk g1]
       repeat first|apply ae;rfl|apply aB;rfl;omega;omega
       refine ih2 _ _ _ (i+1) ⟨rfl,by omega,by omega,fun j k1 k2=>?_,(ab _ _ (by omega)).trans g4,au _ _ _,fun m hm=>(ab _ _ (by omega)).trans (g6 m hm)⟩ (by omega) (E8 (Gb rfl))
       rcases EB j i with k3|k3
       ·exact g3 j k1 k3
       ·obtain rfl:j=i:=by omega
        exact hci
    ·obtain rfl:i=aY p n+aG p n:=by omega
     rw [Nat.add_sub_cancel_left] at g5
     rw [Ey (by rw [tV g3];decide)] at hgo2
     repeat first|apply ae;rfl|apply aB;rfl;omega;omega
     exact ih _ _ _ (n+1,(aY p n,aG p n) :: seen,true) ⟨rfl,hn,by rw [← h4,hgo2],g4,g5,g6⟩ (by omega) (E8 (Gb rfl))
 ·obtain rfl:n=aj p:=by omega
  rw [Nat.sub_self] at h4
  have h4:fine=eF p (aj p) 0 [] true:=h4
  repeat apply ae;rfl
  (apply bW Tryz.func74 Tryz.results74;rfl)
  exact⟨by rw [← h4];rfl,by dsimp only;omega,h7⟩
theorem jI(hb:H.at' b=some (pgO p))(hp:p.length=1024):Fnc Tryz.prog 74 [.ptr b 0] H nx (fun q=>q=(.sc (.bool (cr p)),H,nx)):=Fnc.bV (fun _ _ _ h=>h) (Bt hb hp)
def dQ(p:List UInt8):Nat→Nat→Nat
 | 0,n=>n
 | k+1,n=>if aG p n=0 then n else dQ p k (n+1)
def a8(p:List UInt8):Nat:=dQ p (aj p) 0
theorem ox(p:List UInt8): ∀ k n,dQ p k n≤n+k
 | 0,n=>Em _
 | k+1,n=>by
   unfold dQ
   split
   ·omega
   ·have:=ox p k (n+1);omega
theorem rx(p:List UInt8):a8 p≤aj p:=by have:=ox p (aj p) 0;unfold a8;omega
def vr(p:List UInt8):Prop:=p.length=1024∧18+4*aj p≤aM p∧aM p≤1024
theorem eY(hp:p.length=1024)(h:cr p=true):vr p:=by
 unfold cr at h
 rw [Ek,EZ] at h
 exact⟨hp,h.1⟩
theorem Ci(hb:H.at' b=some (pgO p))(hp:vr p):Fnc Tryz.prog 89 [.ptr b 0] H nx (fun q=>q.1 = .sc (.int .i64 (a8 p:Int))∧nx≤q.2.2∧ ∀ m,m<nx→q.2.1.at' m=H.at' m):=by
 obtain⟨hp,hp1,hp2⟩:=hp
 have hs:aj p<65536:=jN p 14
 refine E2 Tryz.func89 rfl rfl ?_
 refine a9 fun hund=>?_
 have hlt:=hund _ _ hb
 have hb0: ∀ {vo:VO},(H.set nx vo).at' b=some (pgO p):=fun {vo}=>(ab _ _ (by omega)).trans hb
 repeat first|apply ae;rfl|apply cH;rfl;kernel_rfl;exact kD|apply cH;rfl;kernel_rfl;exact gP hb0 hp
 refine br (α:=Nat) (fun n=> [(0,.ptr b 0),(3,Cg nx),(10,.sc (.int .i64 (aj p:Int))),(11,.sc (.int .i64 (n:Int)))])
  (fun n H1 n1=>n1=nx+1∧n≤aj p∧dQ p (aj p-n) n=a8 p∧H1=H.set nx (zU b)) (fun n=>aj p-n) 0
  ⟨rfl,En _,rfl,rfl⟩ (E8 (Gb rfl)) ?_
 rintro n H1 n1 ⟨rfl,h3,h4,rfl⟩ ih
 repeat apply ae;rfl
 refine bm rfl rfl rfl rfl (fun h8=>?_) (fun h8=>?_)
 ·have hgo:dQ p (aj p-n) n=if aG p n=0 then n else dQ p (aj p-(n+1)) (n+1):=by
   rw [show aj p-n=(aj p-(n+1))+1 by omega]
   rfl
  repeat apply ae;rfl
  refine jG rfl rfl rfl rfl (by kernel_rfl) (E1 (mv (au _ _ _) hb0 hp (n:=n) (by omega)) ?_)
  rintro _ rfl
  dsimp only
  repeat apply ae;rfl
  refine cE rfl rfl rfl rfl (fun e1=>?_) (fun e1=>?_)
  ·repeat apply ae;rfl
   (apply bW Tryz.func89 Tryz.results89;rfl)
   refine⟨?_,Ew _,fun m hm=>ab _ _ (by omega)⟩
   rw [← h4,hgo,Ez (by omega)]
   rfl
  ·repeat first|apply ae;rfl|apply aB;rfl;omega;omega
   exact ih _ _ _ (n+1) ⟨rfl,by omega,by rw [← h4,hgo,Ey (by omega)],rfl⟩ (by omega) (E8 (Gb rfl))
 ·obtain rfl:n=aj p:=by omega
  rw [Nat.sub_self] at h4
  have h4:aj p=a8 p:=h4
  repeat first|apply ae;rfl|apply cH;rfl;kernel_rfl;exact gP hb0 hp
  (apply bW Tryz.func89 Tryz.results89;rfl)
  refine⟨?_,Ew _,fun m hm=>ab _ _ (by omega)⟩
  rw [← h4]
  rfl
theorem xW(hb:H.at' b=some (pgO p))(hp:vr p):Fnc Tryz.prog 89 [.ptr b 0] H nx (fun q=>q=(.sc (.int .i64 (a8 p:Int)),H,nx)):=Fnc.bV (fun _ _ _ h=>h) (Ci hb hp)
def ke(p:List UInt8):Nat:=aM p-18-4*aj p-(if a8 p=aj p then 4 else 0)
theorem De(hb:H.at' b=some (pgO p))(hp:vr p):Fnc Tryz.prog 88 [.ptr b 0] H nx (fun q=>q=(.sc (.int .i64 (ke p:Int)),H,nx)):=by
 have hp0:=hp
 obtain⟨hp,hp1,hp2⟩:=hp
 have hs:aj p<65536:=jN p 14
 have he:=rx p
 refine E2 Tryz.func88 rfl rfl ?_
 repeat first|apply ae;rfl|apply aB;rfl;omega;omega|apply cH;rfl;kernel_rfl;exact gP hb hp|apply cH;rfl;kernel_rfl;exact pY hb hp|apply cH;rfl;kernel_rfl;exact xW hb hp0
 refine cE rfl rfl rfl rfl (fun e1=>?_) (fun e1=>?_)
 ·repeat first|apply ae;rfl|apply aB;rfl;omega;omega|apply Ax (c:=(ke p:Int));rfl;rfl;rfl;rfl;(focus(unfold ke;rw [Ez (by omega)];omega))
  (apply bW Tryz.func88 Tryz.results88;rfl)
  rfl
 ·repeat first|apply ae;rfl|apply Ax (c:=(ke p:Int));rfl;rfl;rfl;rfl;(focus(unfold ke;rw [Ey (by omega)];omega))
  (apply bW Tryz.func88 Tryz.results88;rfl)
  rfl
theorem kg(h:o+l.length≤p.length)(i:Nat):(eJ p o l)[i]? =if o≤i∧i<o+l.length then l[i-o]? else p[i]? :=by
 have ho:(p.take o).length=o:=by rw [EC];omega
 unfold eJ
 rcases EB i o with h1|h1
 ·rw [Ey (by omega),EJ,Ei (by omega),List.getElem?_take_of_lt h1]
 ·rcases EB i (o+l.length)with h2|h2
  ·rw [Ez ⟨h1,h2⟩,Ei (by rw [Er];omega),EI (by omega),ho]
  ·rw [Ey (by omega),EI (by rw [Er];omega),Er,ho,List.getElem?_drop]
   congr 1
   omega
theorem iI{q:List UInt8}(h: ∀ i,o≤i→i<o+2→p[i]? =q[i]?):gL p o=gL q o:=by
 unfold gL
 congr 1
 refine ET fun i=>?_
 rcases EB i 2 with hi|hi
 ·rw [List.getElem?_take_of_lt hi,List.getElem?_take_of_lt hi,List.getElem?_drop,List.getElem?_drop]
  exact h _ (by omega) (by omega)
 ·rw [EW (by rw [EC];omega),EW (by rw [EC];omega)]
theorem py{o':Nat}(h:o+l.length≤p.length)(h2:o'+2≤o∨o+l.length≤o'):gL (eJ p o l) o'=gL p o':=
 iI fun i h3 h4=>by rw [kg h,Ey (by omega)]
theorem cy{o':Nat}(h:o+2≤p.length)(h2:o'+2≤o∨o+2≤o'):gL (fi p o n) o'=gL p o':=
 py (by rw [ej];exact h) (by rw [ej];exact h2)
theorem Cs(h:n<65536):beN (beB n 2)=n:=by
 show 256*(256*0+(UInt8.ofNat (n / 256 ^ 1)).toNat)+(UInt8.ofNat (n / 256 ^ 0)).toNat=n
 have t: ∀ k,(UInt8.ofNat k).toNat=k % 256:=fun k=>by simp
 rw [t,t]
 omega
theorem eK(h:o+2≤p.length)(hn:n<65536):gL (fi p o n) o=n:=by
 have:((fi p o n).drop o).take 2=beB n 2:=by
  unfold fi eJ
  rw [EJ,List.drop_left' (by rw [EC];omega),List.take_left' (ej n 2)]
 unfold gL
 rw [this,Cs hn]
theorem f9:lR Tryz.prog 48 []=some (.agg (pgS zeroP)):=by kernel_rfl
def gt(p:List UInt8):List UInt8:=if a8 p=aj p then fi p 14 (a8 p+1) else p
def nP(p it:List UInt8):List UInt8:=eJ (fi (bP (gt p) (a8 p) (aM (gt p)-it.length) it.length) 16 (aM (gt p)-it.length)) (aM (gt p)-it.length) it
def eX(p it:List UInt8):List UInt8×Nat×Nat:=
 if cr p=false then(zeroP,0,4) else if ¬ (1≤it.length∧it.length≤1000) then(zeroP,0,2) else if ke p<it.length then(zeroP,0,5) else(nP p it,a8 p,0)
abbrev insS(r:List UInt8×Nat×Nat):SV:= .tup [.agg (pgS r.1),.sc (.int .i64 (r.2.1:Int)),.sc (.int .i64 (r.2.2:Int))]
theorem zQ{it:List UInt8}(hp:p.length=1024)(hB:BsIs H s (byV it))(hit:it.length≤4611686018427387904):Fnc Tryz.prog 56 [.agg (pgS p),s] H nx (fun q=>q.1=insS (eX p it)∧nx≤q.2.2∧ ∀ m,m<nx→q.2.1.at' m=H.at' m):=by
 have hlen:(byV it).length=it.length:=by simp
 refine E2 Tryz.func56 rfl rfl ?_
 refine a9 fun hund=>?_
 repeat first|apply ae;rfl|refine eR (aW dN) rfl rfl rfl ?_
 have hb1:((H.set nx (pgO p)).set (nx+1) (pgO zeroP)).at' nx=some (pgO p):=by repeat(first|exact ah|refine aa (by omega) ?_)
 have hz1:((H.set nx (pgO p)).set (nx+1) (pgO zeroP)).at' (nx+1)=some (pgO zeroP):=by repeat(exact ah)
 have ho1: ∀ m,m<nx→((H.set nx (pgO p)).set (nx+1) (pgO zeroP)).at' m=H.at' m:=fun m hm=>by(repeat(refine aa (by omega) ?_));rfl
 have hB2: ∀ H':aw,(∀ m,m<nx→H'.at' m=H.at' m)→BsIs H' s (byV it):=fun H' h=>hB.frame fun b vo hb=>(h b (hund b vo hb)).trans hb
 have hB1:=hB2 _ ho1
 generalize (H.set nx (pgO p)).set (nx+1) (pgO zeroP)=H1 at hb1 hz1 ho1 hB1 ⊢
 cases hr:cr p with
 | false=>
   have hv:eX p it=(zeroP,0,4):=by unfold eX;rw [Ez hr]
   have hrs:=fun nx=>jI (nx:=nx) hb1 hp
   rw [hr] at hrs
   repeat first|apply ae;rfl|apply aR;rfl;assumption;rfl|apply cH;rfl;kernel_rfl;exact hrs _|refine cv rfl rfl f9 ?_
   rw [jx _ _ ac ac]
   ((apply bv Tryz.func56 (congrArg Array.toList Tryz.results56));(focus((apply E4 rfl (E6 (F.ag _ rfl) (by repeat(exact ah)) (bH ac)));(repeat(first|exact E3|apply E5 rfl)))))
   exact⟨by rw [hv];rfl,by dsimp only;omega,fun m hm=>(ab _ _ (by omega)).trans (ho1 m hm)⟩
 | true=>
   have hf:=eY hp hr
   have hrs:=fun nx=>jI (nx:=nx) hb1 hp
   rw [hr] at hrs
   have hmi:=fun(H:aw) nx=>xi (H:=H) (nx:=nx) (n:=it.length)
   have hlB:=hlen
   by_cases hm:1≤it.length∧it.length≤1000
   ·have hmt:decide (1≤it.length∧it.length≤1000)=true:=ER hm
    rw [hmt] at hmi
    repeat first|apply bk;rfl|apply cH;rfl;kernel_rfl;exact hrs _|refine bN (iD (F.un _ rfl) rfl hB1) rfl rfl rfl ?_;rw [hlen]|apply cH;rfl;kernel_rfl;exact hmi _ _|apply cH;rfl;kernel_rfl;exact De hb1 hf
    refine dS rfl rfl rfl rfl (fun h1=>?_) (fun h1=>?_)
    ·have hv:eX p it=(zeroP,0,5):=by unfold eX;rw [Ey (by rw [hr];decide),Ey (fun hq=>hq hm),Ez (by omega)]
     repeat first|apply ae;rfl|apply aR;rfl;assumption;rfl|refine cv rfl rfl f9 ?_
     rw [jx _ _ ac ac]
     ((apply bv Tryz.func56 (congrArg Array.toList Tryz.results56));(focus((apply E4 rfl (E6 (F.ag _ rfl) (by repeat(exact ah)) (bH ac)));(repeat(first|exact E3|apply E5 rfl)))))
     exact⟨by rw [hv];rfl,by dsimp only;omega,fun m hm=>(ab _ _ (by omega)).trans (ho1 m hm)⟩
    ·have hv:eX p it=(nP p it,a8 p,0):=by unfold eX;rw [Ey (by rw [hr];decide),Ey (fun hq=>hq hm),Ey (by omega)]
     have hel:=rx p
     have hf1:=hf.2.1
     have hf2:=hf.2.2
     have hro:it.length+18+4*aj p+(if a8 p=aj p then 4 else 0)≤aM p:=by
      have:ke p=aM p-18-4*aj p-(if a8 p=aj p then 4 else 0):=rfl
      omega
     repeat first|apply ae;rfl|apply cH;rfl;kernel_rfl;exact xW hb1 hf|apply cH;rfl;kernel_rfl;exact gP hb1 hp
     refine cE rfl rfl rfl rfl (fun e1=>?_) (fun e1=>?_)
     ·have en:a8 p=aj p:=by omega
      rw [Ez en] at hro
      have hmo:fi p 14 (a8 p+1)=gt p:=by unfold gt;rw [Ez en]
      repeat first|apply ae;rfl|apply aB;rfl;omega;omega
      rw [show((a8 p:Nat):Int)+1=((a8 p+1:Nat):Int) by omega]
      refine aL rfl rfl rfl (by kernel_rfl) (E1 (nK hb1 hp (o:=14) (n:=a8 p+1) (by decide) (by omega)) ?_)
      rintro⟨_,H2,n2⟩ ⟨rfl,hb2,hn2,g4⟩
      dsimp only at hb2 hn2 g4 ⊢
      have hp1:(fi p 14 (a8 p+1)).length=1024:=by rw [cc (by omega)];exact hp
      have hbe:aM (fi p 14 (a8 p+1))=aM p:=cy (by omega) (by omega)
      have k2: ∀ m,m<nx→H2.at' m=H.at' m:=fun m hm=>(g4 m (by omega) (by omega)).trans (ho1 m hm)
      have hz2:H2.at' (nx+1)=some (pgO zeroP):=(g4 _ (by omega) (by omega)).trans hz1
      generalize fi p 14 (a8 p+1)=p1 at hmo hb2 hp1 hbe
      repeat first|apply ae;rfl|apply bk;rfl|apply aB;rfl;omega;omega|apply cH;rfl;kernel_rfl;exact pY hb2 hp1|(refine bN (iD (F.un _ rfl) rfl (hB2 _ k2)) rfl rfl rfl ?_);rw [hlen]
      rw [show((aM p1:Nat):Int)-(it.length:Int)=((aM p1-it.length:Nat):Int) by omega]
      refine aL rfl rfl rfl (by kernel_rfl) (E1 (pg hb2 hp1 (n:=a8 p) (a:=aM p1-it.length) (s:=it.length) (by omega) (by omega) (by omega)) ?_)
      rintro⟨_,H3,n3⟩ ⟨rfl,q2,q3,q4⟩
      dsimp only at q2 q3 q4 ⊢
      have hp2:(bP p1 (a8 p) (aM p1-it.length) it.length).length=1024:=by rw [fK (by omega)];exact hp1
      repeat apply ae;rfl
      refine aL rfl rfl rfl (by kernel_rfl) (E1 (nK q2 hp2 (o:=16) (n:=aM p1-it.length) (by decide) (by omega)) ?_)
      rintro⟨_,H4,n4⟩ ⟨rfl,r2,r3,r4⟩
      dsimp only at r2 r3 r4 ⊢
      have hp3:(fi (bP p1 (a8 p) (aM p1-it.length) it.length) 16 (aM p1-it.length)).length=1024:=by rw [cc (by omega)];exact hp2
      have k4: ∀ m,m<nx→H4.at' m=H.at' m:=fun m hm=>(r4 m (by omega) (by omega)).trans ((q4 m (by omega) (by omega)).trans (k2 m hm))
      have hz4:H4.at' (nx+1)=some (pgO zeroP):=(r4 _ (by omega) (by omega)).trans ((q4 _ (by omega) (by omega)).trans hz2)
      repeat first|apply ae;rfl|apply nW (lw:=aM p1-it.length) (hg:=1024) (m:=1024-(aM p1-it.length));rfl;rfl;rfl;exact(F.un _ rfl);exact(F.sz _ rfl);rfl;rfl;(focus(omega));(focus(omega));(focus(omega));rfl;rfl;exact(EA _)
      refine oV rfl rfl rfl rfl (F.un _ rfl) (F.sz _ rfl) r2 (hB2 _ k4) (by omega) (by rw [bf hp3];omega) ?_
      rw [mR rfl]
      have hlay:eJ (fi (bP p1 (a8 p) (aM p1-it.length) it.length) 16 (aM p1-it.length)) (aM p1-it.length) it=nP p it:=by rw [hmo];rfl
      have hp4:(nP p it).length=1024:=by rw [← hlay,eI (by omega)];exact hp3
      rw [hlay]
      clear hlay
      generalize nP p it=pL at hv hp4 ⊢
      repeat first|apply dc hp4;rfl;(focus((repeat(exact ah));done))|apply cx hp4 ac;rfl;(focus((repeat(first|assumption|refine aa (by omega) ?_));done))|apply ae;rfl
      ((apply bv Tryz.func56 (congrArg Array.toList Tryz.results56));(focus((apply E4 rfl (E6 (F.ag _ rfl) (by repeat(exact ah)) (bH hp4)));(repeat(first|exact E3|apply E5 rfl)))))
      exact⟨by rw [hv];rfl,Ev (Ev (Ew _) (Ew _)) (Ev hn2 (Ev q3 r3)),fun m hm=>(ab _ _ (by omega)).trans ((ab _ _ (by omega)).trans (k4 m hm))⟩
     ·have en: ¬ a8 p=aj p:=by omega
      rw [Ey en] at hro
      obtain⟨p1,hmo,hb2,hp1,hbe⟩: ∃ p1,p1=gt p∧H1.at' nx=some (pgO p1)∧p1.length=1024∧aM p1=aM p:=⟨p,by unfold gt;rw [Ey en],hb1,hp,rfl⟩
      have hz2:=hz1
      have k2:=ho1
      have hn2:nx+1+1≤nx+1+1:=Em _
      repeat first|apply ae;rfl|apply bk;rfl|apply aB;rfl;omega;omega|apply cH;rfl;kernel_rfl;exact pY hb2 hp1|(refine bN (iD (F.un _ rfl) rfl (hB2 _ k2)) rfl rfl rfl ?_);rw [hlen]
      rw [show((aM p1:Nat):Int)-(it.length:Int)=((aM p1-it.length:Nat):Int) by omega]
      refine aL rfl rfl rfl (by kernel_rfl) (E1 (pg hb2 hp1 (n:=a8 p) (a:=aM p1-it.length) (s:=it.length) (by omega) (by omega) (by omega)) ?_)
      rintro⟨_,H3,n3⟩ ⟨rfl,q2,q3,q4⟩
      dsimp only at q2 q3 q4 ⊢
      have hp2:(bP p1 (a8 p) (aM p1-it.length) it.length).length=1024:=by rw [fK (by omega)];exact hp1
      repeat apply ae;rfl
      refine aL rfl rfl rfl (by kernel_rfl) (E1 (nK q2 hp2 (o:=16) (n:=aM p1-it.length) (by decide) (by omega)) ?_)
      rintro⟨_,H4,n4⟩ ⟨rfl,r2,r3,r4⟩
      dsimp only at r2 r3 r4 ⊢
      have hp3:(fi (bP p1 (a8 p) (aM p1-it.length) it.length) 16 (aM p1-it.length)).length=1024:=by rw [cc (by omega)];exact hp2
      have k4: ∀ m,m<nx→H4.at' m=H.at' m:=fun m hm=>(r4 m (by omega) (by omega)).trans ((q4 m (by omega) (by omega)).trans (k2 m hm))
      have hz4:H4.at' (nx+1)=some (pgO zeroP):=(r4 _ (by omega) (by omega)).trans ((q4 _ (by omega) (by omega)).trans hz2)
      repeat first|apply ae;rfl|apply nW (lw:=aM p1-it.length) (hg:=1024) (m:=1024-(aM p1-it.length));rfl;rfl;rfl;exact(F.un _ rfl);exact(F.sz _ rfl);rfl;rfl;(focus(omega));(focus(omega));(focus(omega));rfl;rfl;exact(EA _)
      refine oV rfl rfl rfl rfl (F.un _ rfl) (F.sz _ rfl) r2 (hB2 _ k4) (by omega) (by rw [bf hp3];omega) ?_
      rw [mR rfl]
      have hlay:eJ (fi (bP p1 (a8 p) (aM p1-it.length) it.length) 16 (aM p1-it.length)) (aM p1-it.length) it=nP p it:=by rw [hmo];rfl
      have hp4:(nP p it).length=1024:=by rw [← hlay,eI (by omega)];exact hp3
      rw [hlay]
      clear hlay
      generalize nP p it=pL at hv hp4 ⊢
      repeat first|apply dc hp4;rfl;(focus((repeat(exact ah));done))|apply cx hp4 ac;rfl;(focus((repeat(first|assumption|refine aa (by omega) ?_));done))|apply ae;rfl
      ((apply bv Tryz.func56 (congrArg Array.toList Tryz.results56));(focus((apply E4 rfl (E6 (F.ag _ rfl) (by repeat(exact ah)) (bH hp4)));(repeat(first|exact E3|apply E5 rfl)))))
      exact⟨by rw [hv];rfl,Ev (Ev (Ew _) (Ew _)) (Ev hn2 (Ev q3 r3)),fun m hm=>(ab _ _ (by omega)).trans ((ab _ _ (by omega)).trans (k4 m hm))⟩
   ·have hmt:decide (1≤it.length∧it.length≤1000)=false:=ES hm
    rw [hmt] at hmi
    have hv:eX p it=(zeroP,0,2):=by unfold eX;rw [Ey (by rw [hr];decide),Ez hm]
    repeat first|apply ae;rfl|apply bk;rfl|apply aR;rfl;assumption;rfl|apply cH;rfl;kernel_rfl;exact hrs _|refine bN (iD (F.un _ rfl) rfl hB1) rfl rfl rfl ?_;rw [hlen]|apply cH;rfl;kernel_rfl;exact hmi _ _|refine cv rfl rfl f9 ?_
    rw [jx _ _ ac ac]
    ((apply bv Tryz.func56 (congrArg Array.toList Tryz.results56));(focus((apply E4 rfl (E6 (F.ag _ rfl) (by repeat(exact ah)) (bH ac)));(repeat(first|exact E3|apply E5 rfl)))))
    exact⟨by rw [hv];rfl,by dsimp only;omega,fun m hm=>(ab _ _ (by omega)).trans (ho1 m hm)⟩
theorem Free.A4{a b c:SV}(ha:Free a)(hb:Free b)(hc:Free c):Free (.tup [a,b,c]):=fun e e' u h=>by
 simp only [SV.conc,SV.aC] at h ⊢
 cases h1:a.conc e with
 | none=>rw [h1] at h;simp at h
 | some x=>
   cases h2:b.conc e with
   | none=>rw [h1,h2] at h;simp at h
   | some y=>
     cases h3:c.conc e with
     | none=>rw [h1,h2,h3] at h;simp at h
     | some z=>
       rw [h1,h2,h3] at h
       rw [ha e e' x h1,hb e e' y h2,hc e e' z h3]
       exact h
theorem qY(r:List UInt8×Nat×Nat):Free (insS r):=Free.A4 (Free.agg _) (Free.sc _) (Free.sc _)
theorem jh{it:List UInt8}(hp:p.length=1024)(hB:BsIs H s (byV it))(hit:it.length≤4611686018427387904):Fnc Tryz.prog 56 [.agg (pgS p),s] H nx (fun q=>q=(insS (eX p it),H,nx)):=Fnc.bV (qY _) (zQ hp hB hit)
def kE(p:List UInt8)(n:Nat):Nat×Nat×Nat:=if aj p≤n then(0,0,6) else if aG p n=0 then(0,0,6) else(aY p n,aG p n,0)
abbrev DH(r:Nat×Nat×Nat):SV:= .tup [.sc (.int .i64 (r.1:Int)),.sc (.int .i64 (r.2.1:Int)),.sc (.int .i64 (r.2.2:Int))]
theorem DF(hb:H.at' b=some (pgO p))(hp:vr p):Fnc Tryz.prog 75 [.ptr b 0,.sc (.int .i64 (n:Int))] H nx (fun q=>q.1=DH (kE p n)∧nx≤q.2.2∧ ∀ m,m<nx→q.2.1.at' m=H.at' m):=by
 obtain⟨hp,hp1,hp2⟩:=hp
 refine E2 Tryz.func75 rfl rfl ?_
 refine a9 fun hund=>?_
 have hlt:=hund _ _ hb
 have hb0: ∀ {vo:VO},(H.set nx vo).at' b=some (pgO p):=fun {vo}=>(ab _ _ (by omega)).trans hb
 repeat first|apply ae;rfl|apply cH;rfl;kernel_rfl;exact gP hb hp
 refine cD rfl rfl rfl rfl (fun h1=>?_) (fun h1=>?_)
 ·repeat apply ae;rfl
  (apply bW Tryz.func75 Tryz.results75;rfl)
  refine⟨?_,Em _,fun m hm=>rfl⟩
  unfold kE
  rw [Ez (by omega)]
  rfl
 ·repeat first|apply ae;rfl|apply cH;rfl;kernel_rfl;exact kD
  refine jG rfl rfl rfl rfl (by kernel_rfl) (E1 (mv (au _ _ _) hb0 hp (n:=n) (by omega)) ?_)
  rintro _ rfl
  dsimp only
  repeat apply ae;rfl
  refine cE rfl rfl rfl rfl (fun h2=>?_) (fun h2=>?_)
  ·repeat apply ae;rfl
   (apply bW Tryz.func75 Tryz.results75;rfl)
   refine⟨?_,Ew _,fun m hm=>ab _ _ (by omega)⟩
   unfold kE
   rw [Ey (by omega),Ez (by omega)]
   rfl
  ·repeat apply ae;rfl
   (apply bW Tryz.func75 Tryz.results75;rfl)
   refine⟨?_,Ew _,fun m hm=>ab _ _ (by omega)⟩
   unfold kE
   rw [Ey (by omega),Ey (by omega)]
   rfl
theorem DE(hb:H.at' b=some (pgO p))(hp:vr p):Fnc Tryz.prog 75 [.ptr b 0,.sc (.int .i64 (n:Int))] H nx (fun q=>q=(DH (kE p n),H,nx)):=Fnc.bV (Free.A4 (Free.sc _) (Free.sc _) (Free.sc _)) (DF hb hp)
abbrev pgE(r:List UInt8×Nat):SV:= .tup [.agg (pgS r.1),.sc (.int .i64 (r.2:Int))]
theorem pm(r:List UInt8×Nat):Free (pgE r):=Free.two (Free.agg _) (Free.sc _)
theorem Cu(hp:p.length=1024):Fnc Tryz.prog 67 [.agg (pgS p)] H nx (fun q=>q.1 = .sc (.bool (cr p))∧nx≤q.2.2∧ ∀ m,m<nx→q.2.1.at' m=H.at' m):=by
 refine E2 Tryz.func67 rfl rfl ?_
 have hb1:(H.set nx (pgO p)).at' nx=some (pgO p):=au _ _ _
 repeat first|apply ae;rfl|apply cH;rfl;kernel_rfl;exact jI hb1 hp
 (apply bW Tryz.func67 Tryz.results67;rfl)
 exact⟨rfl,Ew _,fun m hm=>ab _ _ (by omega)⟩
theorem yv(hp:p.length=1024):Fnc Tryz.prog 67 [.agg (pgS p)] H nx (fun q=>q=(.sc (.bool (cr p)),H,nx)):=Fnc.bV (fun _ _ _ h=>h) (Cu hp)
abbrev Dy(f q:Nat):SV:= .fn (.func 96) [] [.ptr f 0,.ptr q 0]
theorem sO(hp:p.length=1024):Fnc Tryz.prog 69 [.agg (pgS p)] H nx (fun q=>q=(Dy (nx+1) nx,(H.set nx (pgO p)).set (nx+1) (am 4 [.sc (.bool (cr p))]),nx+1+1)):=by
 refine E2 Tryz.func69 rfl rfl ?_
 have hb1:(H.set nx (pgO p)).at' nx=some (pgO p):=au _ _ _
 repeat first|apply ae;rfl|apply aR;rfl;(focus((repeat(exact ah));done));rfl|apply cH;rfl;kernel_rfl;exact jI hb1 hp
 (apply bW Tryz.func69 Tryz.results69;rfl)
 refine Prod.ext rfl (Prod.ext ?_ rfl)
 funext n
 by_cases hn:n=nx+1
 ·subst hn
  exact(au _ _ _).trans (au _ _ _).symm
 ·exact(ab _ _ hn).trans ((ab _ _ hn).trans (ab _ _ hn).symm)
theorem w7(l:List UInt8):rY (byV l):=fun v hv=>by obtain⟨c,_,rfl⟩:=EV.1 hv;rfl
theorem fu(l:List UInt8):(byV l).length=l.length:=ED _
theorem LsIs.nil(H:aw):LsIs H [] []:=⟨rfl,fun j s vs h=>by simp at h⟩
theorem LsIs.cons{vs:List Value}{ls:List SV}{bs:List (List Value)}(h:BsIs H s vs)(t:LsIs H ls bs):LsIs H (s :: ls) (vs :: bs):=by
 refine⟨by simp [t.1],fun j s' vs' h1 h2=>?_⟩
 cases j with
 | zero=>
   simp only [Ej,D2] at h1 h2
   subst h1 h2
   exact h
 | succ j=>exact t.2 j s' vs' (by simpa using h1) (by simpa using h2)
theorem oa(h:H.at' r=some (u8R ro (byV l))):BsIs H (.slu r 0 l.length) (byV l):=by
 have:=BsIs.row (w7 l) h rfl
 rwa [fu] at this
def cd(p:List UInt8)(j:Nat):List UInt8:=(p.drop (aY p j)).take (aG p j)
theorem gS(p:List UInt8): ∀ (k n:Nat) (seen:List (Nat×Nat)) (fine:Bool),eF p k n seen fine=true→ ∀ j,n≤j→j<n+k→(aY p j=0∧aG p j=0)∨(1≤aG p j∧aG p j≤1000∧aM p≤aY p j∧aY p j+aG p j≤1024)
 | 0,n,seen,fine,_,j,h1,h2=>absurd h1 (by omega)
 | k+1,n,seen,fine,h,j,h1,h2=>by
   unfold eF at h
   split at h
   ·rename_i h3
    rcases EB n j with h4|h4
    ·exact gS p k (n+1) _ _ h j (by omega) (by omega)
    ·obtain rfl:n=j:=by omega
     exact .inl h3
   ·split at h
    ·cases h
    ·split at h
     ·cases h
     ·rename_i h5 _
      rcases EB n j with h4|h4
      ·exact gS p k (n+1) _ _ h j (by omega) (by omega)
      ·obtain rfl:n=j:=by omega
       exact .inr (by omega)
theorem mG(h:cr p=true){j:Nat}(hj:j<aj p)(hs:aG p j≠0):1≤aG p j∧aG p j≤1000∧aM p≤aY p j∧aY p j+aG p j≤1024:=by
 unfold cr at h
 rw [Ek] at h
 rcases gS p _ _ _ _ h.2 j (En _) (by omega)with h1|h1
 ·exact absurd h1.2 hs
 ·exact h1
theorem kB(hp:p.length=1024){j:Nat}(h:aY p j+aG p j≤1024):(cd p j).length=aG p j:=by
 unfold cd
 rw [EC,EF]
 omega
theorem sN{l f q:Nat}(hp:p.length=1024)(hr:cr p=true){f2 nt2:Nat}{T2:Tr SV}{ps:Array Tmp}{ca cb:Code}{dr:Nat}(hps:ps.size=2)(I:Nat→aw→Nat→Prop)(J:aw→Nat→Prop)
 (hI: ∀ j H nx,I j H nx→H.at' l=some (.loop .ready none f2 nt2 T2 ps ca cb dr)∧H.at' f=some (am 4 [.sc (.bool true)])∧H.at' q=some (pgO p)∧l<nx∧f<nx∧q<nx)
 (hgrow: ∀ j H nx H' nx',I j H nx→nx≤nx'→(∀ m,m<nx→H'.at' m=H.at' m)→I j H' nx')
 (hskip: ∀ j H nx,I j H nx→aG p j=0→I (j+1) H nx)
 (hround: ∀ j H1 n1 r,I j H1 n1→nx≤r→r<n1→j<aj p→aG p j≠0→H1.at' r=some (u8R false (byV (cd p j))) →
   Wp Tryz.prog (some l) ⟨f2,nt2,(ps.toList.zip [.sc (.int .i64 (j:Int)),.slu r 0 (cd p j).length]).foldl (fun T x=>k9 nt2 T (some x.1) x.2) T2,[.code ca,.beginRound,.code cb],[],H1,n1⟩ (fun x=>(x.1 = .sc (.bool true)∧I (j+1) x.2.1 x.2.2∧n1≤x.2.2∧x.2.1.at' nx=H1.at' nx)∨(x.1 = .sc (.bool false)∧J x.2.1 x.2.2)))
 (h0:I 0 H nx):Fnc Tryz.prog 96 [.yld l,.ptr f 0,.ptr q 0] H nx (fun r=>I (aj p) r.2.1 r.2.2∨J r.2.1 r.2.2):=by
 have hf:=eY hp hr
 obtain⟨_,hp1,hp2⟩:=hf
 have hJ0:Nat.beq ps.size 2=true:=by rw [hps];rfl
 refine E2 Tryz.func96 rfl rfl ?_
 obtain⟨i1,i2,i3,i4,i5,i6⟩:=hI _ _ _ h0
 have hg1:I 0 (H.set nx (zU q)) (nx+1):=hgrow _ _ _ _ _ h0 (Ew _) fun m hm=>ab _ _ (by omega)
 have hq1: ∀ {vo:VO},(H.set nx vo).at' q=some (pgO p):=fun {vo}=>(ab _ _ (by omega)).trans i3
 repeat first|apply ae;rfl|apply aR;rfl;assumption;rfl|apply cH;rfl;kernel_rfl;exact kD|apply cH;rfl;kernel_rfl;exact gP hq1 hp
 refine br (α:=Nat) (fun j=> [(0,.yld l),(2,.ptr q 0),(4,Cg nx),(11,.sc (.int .i64 (aj p:Int))),(12,.sc (.int .i64 (j:Int)))])
  (fun j H1 n1=>j≤aj p∧I j H1 n1∧nx+1≤n1∧H1.at' nx=some (zU q)) (fun j=>aj p-j) 0
  ⟨En _,hg1,Em _,au _ _ _⟩ (E8 (Gb rfl)) ?_
 clear hg1 h0 hq1 i1 i2 i3
 rintro j H1 n1 ⟨h1,h2,h3,h4⟩ ih
 obtain⟨k1,k2,k3,k4,k5,k6⟩:=hI _ _ _ h2
 repeat apply ae;rfl
 refine bm rfl rfl rfl rfl (fun h5=>?_) (fun h5=>?_)
 ·repeat apply ae;rfl
  refine jG rfl rfl rfl rfl (by kernel_rfl) (E1 (mv h4 k3 hp (n:=j) (by omega)) ?_)
  rintro _ rfl
  dsimp only
  repeat apply ae;rfl
  refine cE rfl rfl rfl rfl (fun e1=>?_) (fun e1=>?_)
  ·repeat first|apply ae;rfl|apply aB;rfl;omega;omega
   exact ih _ _ _ (j+1) ⟨by omega,hskip _ _ _ h2 (by omega),h3,h4⟩ (by omega) (E8 (Gb rfl))
  ·have hs:=mG hr (j:=j) (by omega) (by omega)
   have hil:=kB hp hs.2.2.2
   have hbl:=fu (cd p j)
   repeat first|apply ae;rfl|apply aB;rfl;omega;omega|apply nW (lw:=aY p j) (hg:=aY p j+aG p j);rfl;rfl;rfl;exact(F.un _ rfl);exact(F.sz _ rfl);rfl;rfl;(focus(omega));(focus(omega));(focus(omega));exact(show aY p j+aG p j-aY p j=aG p j by omega);rfl;exact(EA _)|refine bN (fe rfl rfl Tryz.underlying153 rfl) rfl rfl rfl ?_|refine eR (aU (F.un _ rfl) (F.sz _ rfl) (aN rfl) (F.ze _ rfl) rfl rfl rfl rfl rfl) rfl rfl rfl ?_
   refine aL rfl rfl rfl (by kernel_rfl) (E1 (xq (bs:= [byV (cd p j)]) (ls:= [_]) (au _ _ _) (LsIs.cons (s9 ((ab _ _ (by omega)).trans k3) (by omega)) (LsIs.nil _)) (by show(byV (cd p j) ++ []).length≤_;rw [EM];omega) (D7 rfl)) ?_)
   rintro _ rfl
   dsimp only
   have hfl: [byV (cd p j)].flatten=byV (cd p j):=EM _
   rw [hfl,fu]
   have hg:I j ((H1.set n1 (bsR false [.sl q (aY p j) (aG p j) (1024-aY p j)])).set (n1+1) (u8R false (byV (cd p j)))) (n1+1+1):=hgrow _ _ _ _ _ h2 (by omega) fun m hm=>(ab _ _ (by omega)).trans (ab _ _ (by omega))
   have hl2:=(hI _ _ _ hg).1
   refine Bk (n:=l) rfl rfl rfl rfl hl2 hJ0 ?_
   refine Wp.mono (hround j _ _ (n1+1) hg (by omega) (by omega) (by omega) (by omega) (au _ _ _)) ?_
   rintro⟨v,H2,n2⟩ (⟨rfl,g2,g3,g4⟩|⟨rfl,g2⟩)
   ·dsimp only at g2 g3 g4 ⊢
    repeat first|apply ae;rfl|apply aB;rfl;omega;omega
    exact ih _ _ _ (j+1) ⟨by omega,g2,by omega,g4.trans ((ab _ _ (by omega)).trans ((ab _ _ (by omega)).trans h4))⟩ (by omega) (E8 (Gb rfl))
   ·dsimp only at g2 ⊢
    repeat apply ae;rfl
    (apply bW Tryz.func96 Tryz.results96;rfl)
    exact .inr g2
 ·obtain rfl:j=aj p:=by omega
  repeat apply ae;rfl
  (apply wd Tryz.func96 Tryz.results96;rfl)
  exact .inl h2
theorem ru(e:a7):Free (io e):=Free.agg [.string e.1,.int .i64 e.2.1,.int .i64 e.2.2]
theorem uX(l:List UInt8)(no:Int):Free (uY l no):=Free.two (ru _) (Free.sc _)
theorem sJ(e:a7):Fnc Tryz.prog 12 [io e] H nx (fun q=>q=(.sc (.bool (fk e)),H,nx)):=Ctr.callV (zI e) [] rfl (E0 rfl) rfl trivial rfl
theorem AM(a b:a7):Fnc Tryz.prog 14 [io a,io b] H nx (fun q=>q=(.sc (.bool (bj a b)),H,nx)):=Ctr.callV (xk a b) [] rfl (E0 rfl) rfl trivial rfl
theorem yp{eo:Nat}{w:List UInt8}(hr:H.at' r=some (u8R ro (byV w)))(he:eo+l.length=w.length)(hl:w.drop eo=l):BsIs H (.slu r eo l.length) (byV l):=
 ⟨w7 l,.inr (.inl ⟨r,eo,w.length,ro,_,byV w,by rw [fu],by rw [hr];unfold u8R;rw [fu],by rw [fu];omega,by rw [fu];show((byV w).drop eo).take l.length=byV l;rw [← List.map_drop,hl];exact Ed (by simp)⟩)⟩
theorem of_u{eo:Nat}{w:List UInt8}(hr:H.at' r=some (u8R ro (byV w)))(he:eo+l.length=w.length)(hl:w.drop eo=l)(h9:l.length≤9000):Fnc Tryz.prog 10 [.slu r eo l.length] H nx (fun q=>q=(uY l 13,H,nx)):=by
 refine Fnc.bV (uX _ _) ?_
 refine E2 Tryz.func10 rfl rfl ?_
 refine a9 fun hund=>?_
 have hlt:=hund _ _ hr
 repeat apply ae;rfl
 refine bm rfl rfl rfl rfl (fun h1=>?_) (fun h1=>?_)
 ·repeat first|apply ae;rfl|apply aR;rfl;(focus((repeat(exact ah));done));rfl
  ((apply bv Tryz.func10 (congrArg Array.toList Tryz.results10));(focus(repeat(first|exact E3|apply E5 rfl|apply E4 rfl (E6 (F.ag _ rfl) (by repeat(exact ah)) (aH _ 0 rfl rfl))))))
  exact⟨(gD (xa (by omega))).symm,Ew _,fun m hm=>by(repeat(refine aa (by omega) ?_));rfl⟩
 repeat apply ae;rfl
 refine dS rfl rfl rfl rfl (fun h2=>?_) (fun h2=>?_)
 ·have hno:ofL l=none:=by
   rcases l with _|⟨b0,_|⟨b1,_|⟨b2,rr⟩⟩⟩
   ·rfl
   ·rfl
   ·rfl
   ·exact AK (B2 (by simp only [Ep] at h2;omega))
  repeat first|apply ae;rfl|apply aR;rfl;(focus((repeat(exact ah));done));rfl
  ((apply bv Tryz.func10 (congrArg Array.toList Tryz.results10));(focus(repeat(first|exact E3|apply E5 rfl|apply E4 rfl (E6 (F.ag _ rfl) (by repeat(exact ah)) (aH _ 0 rfl rfl))))))
  exact⟨(gD hno).symm,Ew _,fun m hm=>by(repeat(refine aa (by omega) ?_));rfl⟩
 rcases l with _|⟨b0,_|⟨b1,_|⟨b2,rr⟩⟩⟩
 ·simp at h1
 ·simp at h1
 ·simp at h1
 have hll:(b0 :: b1 :: b2 :: rr).length=rr.length+3:=rfl
 rw [hll] at he h1 h2 ⊢
 have hr1: ∀ vo,(H.set nx vo).at' r=some (u8R ro (byV w)):=fun vo=>(ab _ _ (by omega)).trans hr
 have hwl:(byV w).length=rr.length+3+eo:=by rw [fu];omega
 have hw0:w[eo]? =some b0:=by rw [← Nat.add_zero eo,←List.getElem?_drop,hl];rfl
 have hw1:w[eo+1]? =some b1:=by rw [← List.getElem?_drop,hl];rfl
 have hv0:(byV w)[eo]? =some (.int .u8 (b0.toNat:Int)):=by rw [EP,hw0];rfl
 have hv1:(byV w)[eo+1]? =some (.int .u8 (b1.toNat:Int)):=by rw [EP,hw1];rfl
 have hd2:w.drop (eo+2)=b2 :: rr:=by rw [← List.drop_drop,hl];rfl
 have hbs: ∀ vo,BsIs (H.set nx vo) (.slu r (eo+2) (rr.length+3-2)) (u8L ⟨(b2 :: rr).toArray⟩):=fun vo=>by
  have:=yp (l:=b2 :: rr) (eo:=eo+2) (hr1 vo) (by simp only [Ep];omega) hd2
  exact this
 repeat apply ae;rfl
 (apply cR;(focus(kernel_rfl));(focus(kernel_rfl)))
 repeat first|apply dn;rfl;rfl;exact(fun _ h=>by cases h);exact(gg (F.un _ rfl) (F.sz _ rfl) rfl rfl (hr1 _) (by omega) (by omega) (by omega))|apply ry (v:= .int .u8 (b0.toNat:Int));rfl;rfl;rfl;exact(F.ag _ rfl);exact(hr1 _);(focus(rw [show(eo+(0:Int).toNat)*1=eo by simp];exact hv0));(focus(rw [hwl];simp))|apply ry (v:= .int .u8 (b1.toNat:Int));rfl;rfl;rfl;exact(F.ag _ rfl);exact(hr1 _);(focus(rw [show(eo+(1:Int).toNat)*1=eo+1 by simp];exact hv1));(focus(rw [hwl];simp;omega))|refine bq (cG (F.un _ rfl) (F.un _ rfl) rfl (wj _)) rfl rfl rfl ?_|apply dn;rfl;rfl;exact(fun _ h=>by cases h);exact(pd (l:=2) (h:=rr.length+3) (F.un _ rfl) (F.sz _ rfl) rfl (hr1 _) rfl rfl (by omega) (by omega) (by omega))|refine bq (tD (F.un _ rfl) (F.un _ rfl) (F.un _ rfl) rfl (hbs _)) rfl rfl rfl ?_|apply aA;rfl|refine vw (aW (F.zl _ rfl)) rfl rfl rfl ?_|refine db (gT (F.sz _ rfl) rfl rfl rfl (by repeat(exact ah)) (by rfl) (by exact D7 rfl) (by rfl)) rfl rfl ?_
 have hbsG: ∀ H':aw,H'.at' r=H.at' r→BsIs H' (.slu r (eo+2) (rr.length+3-2)) (u8L ⟨(b2 :: rr).toArray⟩):=fun H' h=>yp (l:=b2 :: rr) (eo:=eo+2) (h.trans hr) (by simp only [Ep];omega) hd2
 refine ay ⟨by kernel_rfl,?_,?_⟩;(focus(repeat(first|exact Gc|apply mh;rfl|apply l5;rfl;kernel_rfl|refine jC 0 rfl (by kernel_rfl) (by(repeat(refine⟨(by first|exact pd (l:=2) (h:=rr.length+3) (F.un _ rfl) (F.sz _ rfl) rfl (by(repeat(refine aa (by omega) ?_));exact hr) rfl rfl (by omega) (by omega) (by omega)|exact tD (F.un _ rfl) (F.un _ rfl) (F.un _ rfl) rfl (hbsG _ (by(repeat(refine aa (by omega) ?_));rfl))|exact gg (F.un _ rfl) (F.sz _ rfl) rfl rfl (by(repeat(refine aa (by omega) ?_));exact hr) (by omega) (by omega) (by omega)|exact aI (v:= .sc (.int .u8 (b0.toNat:Int))) (F.ag _ rfl) rfl (by(repeat(refine aa (by omega) ?_));exact hr) (jn (by rw [hwl];simp) (by first|exact hv0|(rw [show(eo+(0:Int).toNat)*1=eo by simp];exact hv0)))|exact aI (v:= .sc (.int .u8 (b1.toNat:Int))) (F.ag _ rfl) rfl (by(repeat(refine aa (by omega) ?_));exact hr) (jn (by rw [hwl];simp;omega) (by(rw [show(eo+(1:Int).toNat)*1=eo+1 by simp];exact hv1)))|exact cG (F.un _ rfl) (F.un _ rfl) rfl (wj _)),?_⟩));exact Gc) ?_)))
 cases hm2:fk (yC b0 b1 b2 rr)with
 | false=>
   repeat first|apply ae;rfl|apply aR;rfl;(focus((repeat(first|exact ah|refine aa (by omega) ?_));done));rfl|refine aL rfl rfl rfl (by kernel_rfl) (E1 (sJ (yC b0 b1 b2 rr)) ?_);rintro _ rfl;dsimp only;rw [hm2]
   ((apply bv Tryz.func10 (congrArg Array.toList Tryz.results10));(focus(repeat(first|exact E3|apply E5 rfl|apply E4 rfl (E6 (F.ag _ rfl) (by repeat(exact ah)) (aH _ 0 rfl rfl))))))
   exact⟨(gD (AK hm2)).symm,by dsimp only;omega,fun m hm=>by(repeat(refine aa (by omega) ?_));rfl⟩
 | true=>
   repeat first|apply ae;rfl|apply aR;rfl;(focus((repeat(first|exact ah|refine aa (by omega) ?_));done));rfl|refine aL rfl rfl rfl (by kernel_rfl) (E1 (sJ (yC b0 b1 b2 rr)) ?_);rintro _ rfl;dsimp only;rw [hm2]
   ((apply bv Tryz.func10 (congrArg Array.toList Tryz.results10));(focus(repeat(first|exact E3|apply E5 rfl|apply E4 rfl (E6 (F.ag _ rfl) (by repeat(exact ah)) (aH _ 0 rfl rfl))))))
   exact⟨(ll (w9 hm2)).symm,by dsimp only;omega,fun m hm=>by(repeat(refine aa (by omega) ?_));rfl⟩
def gq(a b:a7):Bool:=decide (a=b)
theorem uTd:Tryz.prog.underlying 23=some (.struct (Tryz.prog.fieldsOf 23)):=by kernel_rfl
theorem uEn:Tryz.prog.underlying 25=some (.struct (Tryz.prog.fieldsOf 25)):=by kernel_rfl
def fdsTd:List (Bool×TypeId×Nat):= [(true,3,0),(true,3,1)]
def fdsEn:List (Bool×TypeId×Nat):= [(true,9,0),(true,23,1)]
theorem fTd:(Tryz.prog.fieldsOf 23).toList.map (fun f=>(f.name != "_",f.type,f.offset))=fdsTd:=by kernel_rfl
theorem fEn:(Tryz.prog.fieldsOf 25).toList.map (fun f=>(f.name != "_",f.type,f.offset))=fdsEn:=by kernel_rfl
theorem nX{l:List Field}{a b:TypeId}{p:Nat}(h:l.map (fun f=>(f.name != "_",f.type,f.offset))= [(true,a,o),(true,b,p)]): ∃ f g:Field,l= [f,g]∧f.name ≠ "_" ∧f.type=a∧f.offset=o∧g.name ≠ "_" ∧g.type=b∧g.offset=p:=by
 have hl:l.length=2:=by simpa using congrArg List.length h
 rcases l with _|⟨f,_|⟨g,_|⟨x,l⟩⟩⟩
 ·simp at hl
 ·simp at hl
 ·simp only [Eo,List.map_nil,List.cons.injEq,Ea,and_true,bne_iff_ne] at h
  exact⟨f,g,rfl,h.1.1,h.1.2.1,h.1.2.2,h.2.1,h.2.2.1,h.2.2.2⟩
 ·simp at hl
theorem j9{P:Program}{t:TypeId}{cs:Array Value}{off:Nat}{v:Value}{k:IntKind}(hu:P.underlying t=some (.int k))(hv:cs[off]? =some v)(w:World):(part t cs off).run P w = .ok v w:=by
 simp [part,isAgg,run_underlying hu,hv]
theorem qt{P:Program}{t:TypeId}{cs:Array Value}{off:Nat}{v:Value}(hu:P.underlying t=some .string)(hv:cs[off]? =some v)(w:World):(part t cs off).run P w = .ok v w:=by
 simp [part,isAgg,run_underlying hu,hv]
theorem wx(s x y:Value)(w:World):(part 23 #[s,x,y] 1).run Tryz.prog w = .ok (.agg #[x,y]) w:=by
 obtain⟨i,hi⟩: ∃ i,Tryz.prog.info? 23=some i:=by
  have:(Tryz.prog.info? 23).isSome=true:=by kernel_rfl
  exact Option.isSome_iff_exists.1 this
 have hc:Tryz.prog.cellsOf 23=2:=by kernel_rfl
 simp [part,isAgg,run_underlying uTd,run_sizeOf w hi,hc]
theorem tB(d:Nat)(a b:Int×Int)(w:World):(Op.equalIn (d+2) 23 (.agg #[.int .i64 a.1,.int .i64 a.2]) (.agg #[.int .i64 b.1,.int .i64 b.2])).run Tryz.prog w = .ok (decide (a=b)) w:=by
 obtain⟨f,g,hl,f1,f2,f3,g1,g2,g3⟩:=nX fTd
 have hu:Tryz.prog.underlying 3=some (.int .i64):=by kernel_rfl
 have he: ∀ (a b:Int) (w:World),(Op.equalIn (d+1) 3 (.int .i64 a) (.int .i64 b)).run Tryz.prog w = .ok (a == b) w:=fun a b w=>run_equalIn_int w d _ .i64 .i64 a b hu
 rw [show d+2=(d+1)+1 from rfl,run_equalIn_struct w (d+1) _ _ _ uTd (by kernel_rfl),hl]
 simp only [Op.eqFields,Ez f1,Ez g1,f2,f3,g2,g3,Sem.run_bind,j9 hu (cs:= #[.int .i64 a.1,.int .i64 a.2]) (off:=0) (v:= .int .i64 a.1) rfl,j9 hu (cs:= #[.int .i64 b.1,.int .i64 b.2]) (off:=0) (v:= .int .i64 b.1) rfl,Result.andThen_ok]
 rw [he]
 simp only [Result.andThen_ok]
 obtain⟨a1,a2⟩:=a
 obtain⟨b1,b2⟩:=b
 simp only
 by_cases h1:a1=b1
 ·rw [show(a1 == b1)=true by simpa using h1]
  simp only [Bool.not_true,Bool.false_eq_true,if_false,Sem.run_bind,j9 hu (cs:= #[.int .i64 a1,.int .i64 a2]) (off:=1) (v:= .int .i64 a2) rfl,j9 hu (cs:= #[.int .i64 b1,.int .i64 b2]) (off:=1) (v:= .int .i64 b2) rfl,Result.andThen_ok]
  rw [he]
  simp only [Result.andThen_ok]
  by_cases h2:a2=b2
  ·rw [show(a2 == b2)=true by simpa using h2]
   simp [h1,h2]
  ·rw [show(a2 == b2)=false by simpa using h2]
   simp [h1,h2]
 ·rw [show(a1 == b1)=false by simpa using h1]
  simp [h1]
theorem tC(a b:a7)(w:World):(Op.equalIn 10000 25 (.agg #[.string a.1,.int .i64 a.2.1,.int .i64 a.2.2]) (.agg #[.string b.1,.int .i64 b.2.1,.int .i64 b.2.2])).run Tryz.prog w = .ok (gq a b) w:=by
 obtain⟨f,g,hl,f1,f2,f3,g1,g2,g3⟩:=nX fEn
 have hu:Tryz.prog.underlying 9=some .string:=by kernel_rfl
 rw [show(10000:Nat)=9999+1 from rfl,run_equalIn_struct w 9999 _ _ _ uEn (by kernel_rfl),hl]
 simp only [Op.eqFields,Ez f1,Ez g1,f2,f3,g2,g3,Sem.run_bind,qt hu (cs:= #[.string a.1,.int .i64 a.2.1,.int .i64 a.2.2]) (off:=0) (v:= .string a.1) rfl,qt hu (cs:= #[.string b.1,.int .i64 b.2.1,.int .i64 b.2.2]) (off:=0) (v:= .string b.1) rfl,Result.andThen_ok]
 rw [show(9999:Nat)=9998+1 from rfl,run_equalIn_string (w:=w) 9998 _ _ _ hu,rN]
 simp only [Result.andThen_ok]
 obtain⟨a1,a2⟩:=a
 obtain⟨b1,b2⟩:=b
 simp only
 by_cases h1:a1=b1
 ·rw [ER h1]
  simp only [Bool.not_true,Bool.false_eq_true,if_false,Sem.run_bind,wx,Result.andThen_ok]
  rw [show(9998+1:Nat)=9997+2 from rfl,tB 9997 a2 b2]
  simp only [Result.andThen_ok]
  by_cases h2:a2=b2 <;> simp [h1,h2,gq]
 ·rw [ES h1]
  simp [h1,gq]
end
section
variable {H:aw} {T:Tr SV} {nx:Nat}
variable {d:Option Tmp} {ty:TypeId} {pos:String} {af:Array Edge} {gd:Option (Nat×Bool)}
theorem pS{e:Env}{a:a7}{v:Value}(h:(io a).conc e=some v):v = .agg #[.string a.1,.int .i64 a.2.1,.int .i64 a.2.2]:=by
 simpa [io,SV.conc,SV.aC] using h.symm
theorem pf{x y:Operand}{yt:TypeId}{a b:a7}{r:Bool}(hr:gq a b=r)(hx:ar T x=some (io a))(hy:ar T y=some (io b)):ReadDoes Tryz.prog T H ⟨d,.binOp .eql 25 x y yt,ty,pos,af,gd⟩ (.sc (.bool r)):=by
 subst hr
 intro K w0 e nx w ev hS hE
 refine⟨_,rfl,?_⟩
 have e1:=pS (hE x _ hx)
 have e2:=pS (hE y _ hy)
 simp [execOp,e1,e2,run_eqGuard_agg (P:=Tryz.prog) w .eql 25 x y _ _ (by kernel_rfl),run_eql_struct,tC]
theorem mc{x y:Operand}{yt:TypeId}{a b:a7}{r:Bool}(hr:gq a b=r)(hx:ar T x=some (io a))(hy:ar T y=some (io b)):ReadDoes Tryz.prog T H ⟨d,.binOp .neq 25 x y yt,ty,pos,af,gd⟩ (.sc (.bool (!r))):=by
 subst hr
 intro K w0 e nx w ev hS hE
 refine⟨_,rfl,?_⟩
 have e1:=pS (hE x _ hx)
 have e2:=pS (hE y _ hy)
 simp [execOp,e1,e2,run_eqGuard_agg (P:=Tryz.prog) w .neq 25 x y _ _ (by kernel_rfl),run_neq_struct,tC]
end
section
variable {ro:Option Nat} {fn nt nx i:Nat} {T:Tr SV} {k:List AIt} {dfs:List ADf} {H:aw} {Q:Pst} {ops:Array Oper} {l:List Oper} {ty:TypeId} {pos:String} {af:Array Edge} {gd:Option (Nat×Bool)}
theorem wg{x y:Operand}{yt:TypeId}{a b:a7}{r:Bool}{dd:Nat}(hw:aD T ops ⟨some dd,.binOp .eql 25 x y yt,ty,pos,af,gd⟩=some true)(hd:Nat.blt dd nt=true)(hr:gq a b=r)(hx:ar T x=some (io a))(hy:ar T y=some (io b))
 (h:Wp Tryz.prog ro ⟨fn,nt,T.set dd (.sc (.bool r)),.inReg ops (i+1) l :: k,dfs,H,nx⟩ Q):Wp Tryz.prog ro ⟨fn,nt,T,.inReg ops i (⟨some dd,.binOp .eql 25 x y yt,ty,pos,af,gd⟩ :: l) :: k,dfs,H,nx⟩ Q:=
 dZ hw (.inr (fun _ h=>by cases h)) ((pf hr hx hy).does) (by rw [aK hd];exact h)
end
end Go.Proofs.YtelnglhodnoclaaGreat
end
section
namespace Go.Proofs.YtelnglhodnoclaaGreat
namespace Bn
open Go Go.Sy
abbrev El:=Int×a7
abbrev elV(x:El):List Value:= [.int .i64 x.1,.string x.2.1,.int .i64 x.2.2.1,.int .i64 x.2.2.2]
abbrev elS(x:El):SV:= .agg ((elV x).map .sc)
abbrev rowP(n:Nat)(d:Array El):VO:=arr false n 4 100 elV d
theorem recP:RecOf elV 4:=⟨fun _=>rfl,fun a v hv=>by
 simp only [elV,EN,List.not_mem_nil,or_false] at hv
 rcases hv with rfl|rfl|rfl|rfl <;> rfl⟩
def ordP(y x:El):Int:=zz x.2 y.2
def ltP(x y:El):Bool:=decide (ordP y x<0)
abbrev cmpF:SV:= .fn (.func 70) [] []
theorem aq{A:Type} [Inhabited A](d:Array A)(i j:Nat):(Sort.swp d i j).size=d.size:=by simp [Sort.swp]
theorem cmp_spec(a b:El):Ctr Tryz.prog 70 [elS a,elS b] [] (fun c=>c=⟨.sc (.int .i64 (ordP b a)),[]⟩):=by
 refine Ctr.at 0 rfl ?_
 refine E2 Tryz.func70 rfl rfl ?_
 repeat first|apply ae;rfl|refine dO rfl rfl rfl (F.ag _ rfl) rfl (aH 3 1 rfl rfl) ?_|refine ey (lj a.2 b.2) [] rfl rfl rfl (by kernel_rfl) rfl (E0 rfl) rfl trivial ?_
 (apply bW Tryz.func70 Tryz.results70;rfl)
 (refine⟨_,rfl,Ends.val (E0 rfl) rfl ?_ ?_⟩)
 ·rfl
 ·trivial
theorem pH(n a b:Nat)(d:Array El)(hn:n<4611686018427387904)(hd:d.size=n)(hab:a≤b)(hb:b≤n) :
 Ctr Tryz.prog 107 [.slu 0 0 n,.sc (.int .i64 (a:Int)),.sc (.int .i64 (b:Int)),cmpF] [rowP n d] (fun c=>c=⟨.tup [],[some (rowP n (Sort.insertionSort ltP d a b))]⟩):=by
 refine E2 Tryz.func107 rfl rfl ?_
 repeat first|apply ae;rfl|apply aB;rfl;omega;omega
 refine cO 1 (fun s:Nat×Array El=> [(0,.slu 0 0 n),(1,.sc (.int .i64 (a:Int))),(2,.sc (.int .i64 (b:Int))),(3,cmpF),(8,.sc (.int .i64 (s.1:Int)))]) (fun s=> [some (rowP n s.2)]) (fun s=>s.1≤n+1∧a<s.1∧s.2.size=n∧Sort.insOuter ltP a b s.1 s.2=Sort.insertionSort ltP d a b) (fun s=>n+1-s.1) (a+1,d) []
  (fun _=>rfl) ⟨by omega,by omega,hd,rfl⟩ ?_ (fun _=>rfl) (fun _=>rfl) ?_
 ·(exact Ga rfl rfl rfl ⟨ai rfl,trivial⟩)
 rintro⟨i,d1⟩ ⟨hi,hai,hd1,ho⟩ ih
 simp only at hi hai hd1 ho ih ⊢
 repeat apply ae;rfl
 refine bm rfl rfl rfl rfl ?_ ?_
 all_goals intro h1
 ·repeat apply ae;rfl
  have ho2:Sort.insOuter ltP a b (i+1) (Sort.insInner ltP a i d1)=Sort.insertionSort ltP d a b:=by
   rw [← ho]
   conv=>rhs;rw [Sort.insOuter,Ez (by omega)]
  refine cO 1 (fun s:Nat×Array El=> [(0,.slu 0 0 n),(1,.sc (.int .i64 (a:Int))),(2,.sc (.int .i64 (b:Int))),(3,cmpF),(8,.sc (.int .i64 (i:Int))),(9,.sc (.int .i64 (s.1:Int)))]) (fun s=> [some (rowP n s.2)]) (fun s=>s.1≤i∧s.2.size=n∧Sort.insInner ltP a s.1 s.2=Sort.insInner ltP a i d1) (fun s=>s.1) (i,d1) []
   (fun _=>rfl) ⟨by omega,hd1,rfl⟩ ?_ (fun _=>rfl) (fun _=>rfl) ?_
  ·(exact Ga rfl rfl rfl ⟨ai rfl,trivial⟩)
  rintro⟨j,d2⟩ ⟨hj,hd2,hin⟩ ihj
  simp only at hj hd2 hin ihj ⊢
  repeat apply ae;rfl
  refine aS (by kernel_rfl) (by kernel_rfl) ?_
  repeat apply aA;rfl
  refine jV rfl rfl rfl rfl ?_ ?_
  all_goals intro h2
  ·obtain⟨j,rfl⟩: ∃ j',j=j'+1:=⟨j-1,by omega⟩
   repeat first|apply aA;rfl|refine bq (ak rfl rfl (.inr (.inl ⟨rfl,(D3 _ ⟨(by omega),(by omega)⟩).symm⟩))) rfl rfl rfl ?_|refine an (q:=j+1) rfl rfl rfl rfl (F.un _ rfl) (F.sz _ rfl) rfl (by omega) (by omega) (by omega) ?_|refine an (q:=j) rfl rfl rfl rfl (F.un _ rfl) (F.sz _ rfl) rfl (by omega) (by omega) (by omega) ?_|refine aX rfl rfl rfl (F.ag _ rfl) (recP) rfl (by(omega)) (by(omega)) ?_|refine bg rfl rfl rfl rfl (by kernel_rfl) rfl (Ctr.callV (cmp_spec d2[j+1]! d2[j]!) [] rfl (E0 rfl) rfl trivial rfl) ?_
   refine bx rfl rfl rfl rfl ?_ ?_
   all_goals intro h3
   ·repeat apply aA;rfl
    refine ay ⟨by kernel_rfl,?_,?_⟩;(focus(repeat(first|exact Gc|apply bZ;rfl|apply bM;rfl|refine⟨.inr (by(repeat(refine⟨(by first|exact az (F.un _ rfl) (F.sz _ rfl) rfl rfl rfl (by omega) (by omega) (by omega)|exact ak rfl rfl (.inr (.inl ⟨rfl,(D3 _ ⟨by omega,by omega⟩).symm⟩))),?_⟩));exact Gc),?_⟩|refine⟨.inl (by kernel_rfl),?_⟩)))
    repeat apply ae;rfl
    refine aS (by kernel_rfl) (by kernel_rfl) ?_
    repeat first|apply aA;rfl|refine bq (ak rfl rfl (.inr (.inl ⟨rfl,(D3 _ ⟨(by omega),(by omega)⟩).symm⟩))) rfl rfl rfl ?_|refine an (q:=j+1) rfl rfl rfl rfl (F.un _ rfl) (F.sz _ rfl) rfl (by omega) (by omega) (by omega) ?_|refine an (q:=j) rfl rfl rfl rfl (F.un _ rfl) (F.sz _ rfl) rfl (by omega) (by omega) (by omega) ?_|refine aX rfl rfl rfl (F.ag _ rfl) (recP) rfl (by(omega)) (by(omega)) ?_|refine db (bS (F.sz _ rfl) rfl rfl rfl (recP) rfl (by first|omega|(simp only [D4,aq];omega)) (by first|omega|(simp only [D4,aq];omega))) rfl rfl ?_
    refine ay ⟨by kernel_rfl,?_,?_⟩;(focus(repeat(first|exact Gc|apply bZ;rfl|apply bM;rfl|refine⟨.inr (by(repeat(refine⟨(by first|exact az (F.un _ rfl) (F.sz _ rfl) rfl rfl rfl (by omega) (by omega) (by omega)|exact ak rfl rfl (.inr (.inl ⟨rfl,(D3 _ ⟨by omega,by omega⟩).symm⟩))),?_⟩));exact Gc),?_⟩|refine⟨.inl (by kernel_rfl),?_⟩)))
    repeat first|apply ae;rfl|apply aB;rfl;omega;omega
    refine ihj _ _ _ (j,Sort.swp d2 (j+1) j) [] ⟨by omega,by rw [aq];exact hd2,?_⟩ (by simp only;omega) ?_
    ·rw [← hin]
     conv=>rhs;rw [Sort.insInner,Ez (by simp only [ltP,Ek,EZ];exact⟨by omega,h3⟩)]
    ·(refine⟨(E0 rfl),rfl,(by repeat(first|exact Gc|refine⟨rfl,?_⟩|refine⟨cK (by(omega)),?_⟩)),⟨ai rfl,trivial⟩⟩)
   ·repeat apply aA;rfl
    refine ay ⟨by kernel_rfl,?_,?_⟩;(focus(repeat(first|exact Gc|apply bZ;rfl|apply bM;rfl|refine⟨.inr (by(repeat(refine⟨(by first|exact az (F.un _ rfl) (F.sz _ rfl) rfl rfl rfl (by omega) (by omega) (by omega)|exact ak rfl rfl (.inr (.inl ⟨rfl,(D3 _ ⟨by omega,by omega⟩).symm⟩))),?_⟩));exact Gc),?_⟩|refine⟨.inl (by kernel_rfl),?_⟩)))
    repeat first|apply ae;rfl|apply aB;rfl;omega;omega
    have hin2:Sort.insInner ltP a i d1=d2:=by
     rw [← hin,Sort.insInner,Ey (by simp only [ltP,Ek,EZ];omega)]
    refine ih _ _ _ (i+1,d2) [] ⟨by omega,by omega,hd2,by rw [← hin2];exact ho2⟩ (by simp only;omega) ?_
    (exact Ga rfl rfl rfl ⟨ai rfl,trivial⟩)
  ·repeat first|apply aA;rfl|refine b8 rfl rfl ?_
   refine ay ⟨by kernel_rfl,?_,?_⟩;(focus(repeat(first|exact Gc|apply ow;rfl|apply bM;rfl|refine⟨.inl rfl,?_⟩)))
   repeat first|apply ae;rfl|apply aB;rfl;omega;omega
   have hin2:Sort.insInner ltP a i d1=d2:=by
    rw [← hin]
    cases j with
    | zero=>rfl
    | succ j=>rw [Sort.insInner,Ey (by simp only [Ek,EZ];omega)]
   refine ih _ _ _ (i+1,d2) [] ⟨by omega,by omega,hd2,by rw [← hin2];exact ho2⟩ (by simp only;omega) ?_
   (exact Ga rfl rfl rfl ⟨ai rfl,trivial⟩)
 ·repeat apply ae;rfl
  have ho2:d1=Sort.insertionSort ltP d a b:=by rw [← ho,Sort.insOuter,Ey (by omega)]
  apply jF Tryz.func107 (congrArg Array.toList Tryz.results107)
  (focus(repeat(exact E3)))
  refine⟨_,rfl,Ends.mk [] (E0 rfl) rfl rfl ?_⟩
  rw [← ho2]
  exact⟨ai rfl,trivial⟩
end Bn
end Go.Proofs.YtelnglhodnoclaaGreat
end
section
namespace Go.Proofs.YtelnglhodnoclaaGreat
open Go Go.Sy Go.Sl Go.RowKit
section
variable {P:Program} {H:aw} {T:Tr SV} {nx:Nat}
variable {d:Option Tmp} {ty:TypeId} {pos:String} {af:Array Edge} {gd:Option (Nat×Bool)}
theorem tE{t:TypeId}{x y:Operand}{s:ByteArray}{k:IntKind}{i:Nat}{v:UInt8}(hx:ar T x=some (.sc (.string s)))(hy:ar T y=some (.sc (.int k (i:Int))))(hu:P.underlying t=some .string)(hv:s[i]? =some v) :
 ReadDoes P T H ⟨d,.index t x y,ty,pos,af,gd⟩ (.sc (.int .u8 v.toNat)):=by
 refine cY fun ev w he=>?_
 have e1:=he x _ hx _ rfl
 have e2:=he y _ hy _ rfl
 simp [execOp,e1,e2,Instr.index,asIntOf,run_underlying hu,hv]
end
theorem aq{A:Type} [Inhabited A](d:Array A)(i j:Nat):(Sort.swp d i j).size=d.size:=by simp [Sort.swp]
theorem tJ{x:Int}{m:Nat}(hx:x=(m:Int)-1)(hm:m<4611686018427387904):IntKind.i64.wrap (x.tdiv 2)=(((m-1) / 2:Nat):Int):=by
 subst hx
 rcases Nat.eq_zero_or_pos m with rfl|h
 ·decide
 ·rw [Int.tdiv_eq_ediv_of_nonneg (by omega),D3 _ ⟨by omega,by omega⟩]
  omega
def xH:Sort.Hint→Int
 | .unknown=>0
 | .increasing=>1
 | .decreasing=>2
theorem q9{h:Sort.Hint}:(xH h == 2)=decide (h = .decreasing):=by cases h <;> rfl
theorem Ay{m:Nat}(h:m<2 ^ 64):IntKind.u64.wrap ((m:Nat):Int)=(m:Int):=by
 rw [EX _ ⟨by omega,by omega⟩]
theorem xorU{a b:Nat}(ha:a<18446744073709551616)(hb:b<18446744073709551616):yr .xor .u64 (a:Int) (b:Int)=((a ^^^ b:Nat):Int):=by
 show IntKind.u64.wrap (((BitVec.ofInt 64 (a:Int) ^^^ BitVec.ofInt 64 (b:Int)).toNat:Nat):Int)=_
 rw [BitVec.toNat_xor,BitVec.ofInt_natCast,BitVec.ofInt_natCast,BitVec.toNat_ofNat,BitVec.toNat_ofNat,Nat.mod_eq_of_lt ha,Nat.mod_eq_of_lt hb,Ay]
 exact Nat.xor_lt_two_pow ha hb
theorem andU{a b:Nat}(ha:a<18446744073709551616)(hb:b<18446744073709551616):yr .and .u64 (a:Int) (b:Int)=((a &&& b:Nat):Int):=by
 show IntKind.u64.wrap (((BitVec.ofInt 64 (a:Int) &&& BitVec.ofInt 64 (b:Int)).toNat:Nat):Int)=_
 rw [BitVec.toNat_and,BitVec.ofInt_natCast,BitVec.ofInt_natCast,BitVec.toNat_ofNat,BitVec.toNat_ofNat,Nat.mod_eq_of_lt ha,Nat.mod_eq_of_lt hb,Ay]
 exact Nat.and_lt_two_pow _ hb
theorem sh13(x:Nat):IntKind.u64.wrap ((x:Int)*2 ^ (min (Int.toNat 13) IntKind.u64.bits))=((x*8192 % 18446744073709551616:Nat):Int):=by
 have:(2:Int) ^ (min (Int.toNat 13) IntKind.u64.bits)=8192:=by decide
 rw [this,IntKind.wrap_u64]
 omega
theorem sh17(x:Nat):IntKind.u64.wrap ((x:Int)*2 ^ (min (Int.toNat 17) IntKind.u64.bits))=((x*131072 % 18446744073709551616:Nat):Int):=by
 have:(2:Int) ^ (min (Int.toNat 17) IntKind.u64.bits)=131072:=by decide
 rw [this,IntKind.wrap_u64]
 omega
theorem sh7(x:Nat):Int.fdiv (x:Int) (2 ^ (min (Int.toNat 7) IntKind.u64.bits))=((x / 128:Nat):Int):=by
 have:(2:Int) ^ (min (Int.toNat 7) IntKind.u64.bits)=128:=by decide
 rw [this,Int.fdiv_eq_ediv_of_nonneg _ (by decide)]
 omega
theorem sh8(x:Nat):Int.fdiv (x:Int) (2 ^ (min (Int.toNat 8) IntKind.u64.bits))=((x / 256:Nat):Int):=by
 have:(2:Int) ^ (min (Int.toNat 8) IntKind.u64.bits)=256:=by decide
 rw [this,Int.fdiv_eq_ediv_of_nonneg _ (by decide)]
 omega
abbrev xsO(x:Nat):VO:=am 184 [.sc (.int .u64 (x:Int))]
theorem qL(x:Nat)(hx:x<18446744073709551616):Ctr Tryz.prog 128 [.ptr 0 0] [xsO x] (fun c=>c=⟨.sc (.int .u64 (Sort.xorNextN x:Int)),[some (xsO (Sort.xorNextN x))]⟩):=by
 have hA:x ^^^ (x*8192 % 18446744073709551616)<18446744073709551616:=Nat.xor_lt_two_pow (n:=64) (by omega) (by omega)
 have eA:=xorU (a:=x) (b:=x*8192 % 18446744073709551616) hx (by omega)
 have eC:Sort.xorNextN x=Sort.xorNextN x:=rfl
 conv at eC=>rhs;unfold Sort.xorNextN
 simp only at eC
 generalize x ^^^ (x*8192 % 18446744073709551616)=A at hA eA eC
 have hB:A ^^^ (A / 128)<18446744073709551616:=Nat.xor_lt_two_pow (n:=64) (by omega) (by omega)
 have eB:=xorU (a:=A) (b:=A / 128) hA (by omega)
 generalize A ^^^ (A / 128)=B at hB eB eC
 have eD:=xorU (a:=B) (b:=B*131072 % 18446744073709551616) hB (by omega)
 rw [← eC] at eD
 refine E2 Tryz.func128 rfl rfl ?_
 repeat apply ae;rfl
 refine aS (by kernel_rfl) (by kernel_rfl) ?_
 repeat first|apply aA;rfl|refine bq (aI (F.ag _ rfl) rfl rfl (aE rfl)) rfl rfl rfl ?_|refine ci rfl rfl rfl (F.sz _ rfl) rfl rfl rfl ?_|refine bq (tF rfl rfl (by decide) (sh13 x)) rfl rfl rfl ?_|refine bq (kZ rfl rfl (.inr (.inr (.inl rfl))) eA) rfl rfl rfl ?_
 refine ay ⟨by kernel_rfl,?_,?_⟩;(focus(repeat(first|exact Gc|apply bZ;rfl|apply bM;rfl|refine⟨.inl (by kernel_rfl),?_⟩)))
 repeat apply ae;rfl
 refine aS (by kernel_rfl) (by kernel_rfl) ?_
 repeat first|apply aA;rfl|refine bq (aI (F.ag _ rfl) rfl rfl (aE rfl)) rfl rfl rfl ?_|refine ci rfl rfl rfl (F.sz _ rfl) rfl rfl rfl ?_|refine bq (qz rfl rfl (by decide) (sh7 A)) rfl rfl rfl ?_|refine bq (kZ rfl rfl (.inr (.inr (.inl rfl))) eB) rfl rfl rfl ?_
 refine ay ⟨by kernel_rfl,?_,?_⟩;(focus(repeat(first|exact Gc|apply bZ;rfl|apply bM;rfl|refine⟨.inl (by kernel_rfl),?_⟩)))
 repeat apply ae;rfl
 refine aS (by kernel_rfl) (by kernel_rfl) ?_
 repeat first|apply aA;rfl|refine bq (aI (F.ag _ rfl) rfl rfl (aE rfl)) rfl rfl rfl ?_|refine ci rfl rfl rfl (F.sz _ rfl) rfl rfl rfl ?_|refine bq (tF rfl rfl (by decide) (sh17 B)) rfl rfl rfl ?_|refine bq (kZ rfl rfl (.inr (.inr (.inl rfl))) eD) rfl rfl rfl ?_
 refine ay ⟨by kernel_rfl,?_,?_⟩;(focus(repeat(first|exact Gc|apply bZ;rfl|apply bM;rfl|refine⟨.inl (by kernel_rfl),?_⟩)))
 repeat first|apply ae;rfl|apply aR;rfl;(focus((repeat(exact ah));done));rfl
 ((apply bv Tryz.func128 (congrArg Array.toList Tryz.results128));(focus(repeat(first|exact E3|apply E5 rfl)));refine⟨_,rfl,Ends.mk [] (E0 rfl) rfl rfl ?_⟩)
 exact(by repeat(first|exact Gc|refine⟨cm rfl,?_⟩))
def C5(s:ByteArray):Bool:=(List.range 256).all fun i=>match s[i]? with
 | some v=>v.toNat == Sort.bitsLen i
 | none=>false
theorem AA{s:ByteArray}(h:C5 s=true){i:Nat}(hi:i<256):s[i]? =some (UInt8.ofNat (Sort.bitsLen i)):=by
 unfold C5 at h
 rw [List.all_eq_true] at h
 have:=h i (EU.2 hi)
 split at this
 ·rename_i v hv
  rw [hv,←(beq_iff_eq.1 this),UInt8.ofNat_toNat]
 ·cases this
theorem Ag(x:Nat)(h:256≤x):Sort.bitsLen x=8+Sort.bitsLen (x / 256):=by
 have key: ∀ k,Sort.bitsLen (x / 256)≤k↔Sort.bitsLen x≤k+8:=fun k=>by
  rw [Sort.bitsLen_le_iff,Sort.bitsLen_le_iff,Nat.pow_add,Nat.div_lt_iff_lt_mul (by decide)]
 have h8: ¬ Sort.bitsLen x≤7:=by
  rw [Sort.bitsLen_le_iff]
  omega
 have h1:=(key (Sort.bitsLen (x / 256))).1 (Em _)
 have h2:=(key (Sort.bitsLen x-8)).2 (by omega)
 omega
theorem lS{x:Nat}(h:x<65536):Sort.bitsLen x≤16:=(Sort.bitsLen_le_iff x 16).2 h
theorem C4{x:Nat}(h:x<65536):IntKind.i64.wrap (((UInt8.ofNat (Sort.bitsLen x)).toNat:Nat):Int)=(Sort.bitsLen x:Int):=by
 have:=lS h
 rw [UInt8.toNat_ofNat',Nat.mod_eq_of_lt (by omega),D3 _ ⟨by omega,by omega⟩]
theorem vj(x:Nat)(hx:x<65536):Ctr Tryz.prog 116 [.sc (.int .u64 (x:Int))] [] (fun c=>c=⟨.sc (.int .i64 (Sort.bitsLen x:Int)),[]⟩):=by
 have h16:=lS hx
 refine E2 Tryz.func116 rfl rfl ?_
 repeat apply ae;rfl
 refine cD rfl rfl rfl rfl ?_ ?_
 all_goals intro h1
 ·exact absurd h1 (by omega)
 repeat apply ae;rfl
 refine cD rfl rfl rfl rfl ?_ ?_
 all_goals intro h2
 ·exact absurd h2 (by omega)
 repeat apply ae;rfl
 refine cD rfl rfl rfl rfl ?_ ?_
 all_goals intro h3
 ·have h17:=lS (x:=x / 256) (by omega)
  repeat first|apply ae;rfl|apply aB;rfl;omega;omega|refine bN (qz rfl rfl (by decide) (sh8 x)) rfl rfl rfl ?_|refine bN (cG (F.un _ rfl) (F.un _ rfl) rfl (show _=((x / 256:Nat):Int)from Go.IntWalk.u8_in _ ⟨by omega,by omega⟩)) rfl rfl rfl ?_|refine bN (tE rfl rfl (F.un _ rfl) (AA (by kernel_rfl) (show x / 256<256 by omega))) rfl rfl rfl ?_|refine bN (cG (F.un _ rfl) (F.un _ rfl) rfl (C4 (x:=x / 256) (by omega))) rfl rfl rfl ?_
  rw [Ag x (by omega)]
  (apply bW Tryz.func116 Tryz.results116;rfl)
  (refine⟨_,rfl,Ends.val (E0 rfl) rfl ?_ ?_⟩)
  ·simp
  ·trivial
 ·repeat first|apply ae;rfl|apply aB;rfl;omega;omega|refine bN (cG (F.un _ rfl) (F.un _ rfl) rfl (show _=(x:Int)from Go.IntWalk.u8_in _ ⟨by omega,by omega⟩)) rfl rfl rfl ?_|refine bN (tE rfl rfl (F.un _ rfl) (AA (by kernel_rfl) (show x<256 by omega))) rfl rfl rfl ?_|refine bN (cG (F.un _ rfl) (F.un _ rfl) rfl (C4 (x:=x) (by omega))) rfl rfl rfl ?_
  (apply bW Tryz.func116 Tryz.results116;rfl)
  (refine⟨_,rfl,Ends.val (E0 rfl) rfl ?_ ?_⟩)
  ·simp
  ·trivial
theorem pD(x:Nat)(hx:x<65536):Ctr Tryz.prog 98 [.sc (.int .u64 (x:Int))] [] (fun c=>c=⟨.sc (.int .i64 (Sort.bitsLen x:Int)),[]⟩):=by
 refine E2 Tryz.func98 rfl rfl ?_
 repeat first|apply ae;rfl|refine ey (vj x hx) [] rfl rfl rfl (by kernel_rfl) rfl (E0 rfl) rfl trivial ?_
 (apply bW Tryz.func98 Tryz.results98;rfl)
 (refine⟨_,rfl,Ends.val (E0 rfl) rfl ?_ ?_⟩)
 ·rfl
 ·trivial
theorem Dk{k:Nat}(h:k≤16):IntKind.u64.wrap ((1:Int)*2 ^ (min (Int.toNat (k:Int)) IntKind.u64.bits))=((2 ^ k:Nat):Int):=by
 have: ∀ k:Fin 17,IntKind.u64.wrap ((1:Int)*2 ^ (min (Int.toNat (k.val:Int)) IntKind.u64.bits))=((2 ^ k.val:Nat):Int):=by decide
 exact this ⟨k,by omega⟩
theorem qE(x:Nat)(hx:x<65536):Ctr Tryz.prog 127 [.sc (.int .i64 (x:Int))] [] (fun c=>c=⟨.sc (.int .u64 ((2 ^ Sort.bitsLen x:Nat):Int)),[]⟩):=by
 refine E2 Tryz.func127 rfl rfl ?_
 repeat first|apply ae;rfl|refine bN (cG (F.un _ rfl) (F.un _ rfl) rfl (show _=(x:Int)from EX _ ⟨by omega,by omega⟩)) rfl rfl rfl ?_|refine ey (pD x hx) [] rfl rfl rfl (by kernel_rfl) rfl (E0 rfl) rfl trivial ?_|refine bN (tF rfl rfl (by omega) (Dk (lS hx))) rfl rfl rfl ?_
 (apply bW Tryz.func127 Tryz.results127;rfl)
 (refine⟨_,rfl,Ends.val (E0 rfl) rfl ?_ ?_⟩)
 ·rfl
 ·trivial
end Go.Proofs.YtelnglhodnoclaaGreat
end
section
namespace Go.Proofs.YtelnglhodnoclaaGreat
namespace Bn
open Go Go.Sy
abbrev DQ:SV:= .sc (.func (.func 70) #[] #[])
abbrev ArP:=Array El
theorem gh: ∀ l:List (El),(l.flatMap elV).length=l.length*4
 | []=>rfl
 | a :: l=>by
   rw [List.flatMap_cons,Er,gh l]
   show 4+l.length*4=(l.length+1)*4
   omega
end Bn
end Go.Proofs.YtelnglhodnoclaaGreat
end
section
namespace Go.Sy
open Go Go.Sl Go.RowKit
section
variable {P:Program} {T:Tr SV} {H:aw} {nx:Nat} {d:Option Tmp} {ty:TypeId} {pos:String} {af:Array Edge} {gd:Option (Nat×Bool)}
theorem vt{t:TypeId}{m:Array (String×TypeId)}(hu:P.underlying t=some (.interface m))(w:World):(Op.equal t .nilIface .nilIface).run P w = .ok true w:=by
 have: ∀ n,(Op.equalIn (n+1) t .nilIface .nilIface).run P w = .ok true w:=fun n=>by simp [Op.equalIn,run_underlying hu]
 exact this 9999
theorem fS{t yt:TypeId}{m:Array (String×TypeId)}{x:Operand}(hx:ar T x=some (.sc .nilIface))(hu:P.underlying t=some (.interface m)):ReadDoes P T H ⟨d,.binOp .neq t x (.const .nilIface) yt,ty,pos,af,gd⟩ (.sc (.bool false)):=by
 refine cY fun ev w he=>?_
 have e1:=he x _ hx _ rfl
 have e2:=he (.const .nilIface) _ rfl _ rfl
 have hg:(eqGuard .neq t x (.const .nilIface) .nilIface .nilIface).run P w = .ok () w:=by cases x <;> rfl
 have hq:(Op.equal t .nilIface .nilIface).run P w = .ok true w:=vt hu w
 have hb:(binOp .neq t .nilIface .nilIface).run P w = .ok (.bool false) w:=by
  simp only [binOp,Sem.run_bind,hq,Result.andThen_ok,Sem.run_pure,Bool.not_true]
 simp only [execOp,e1,e2,Sem.run_bind,hg,hb,Result.andThen_ok,Sem.run_pure]
end
section
variable {P:Program} {ro:Option Nat} {fn nt nx i:Nat} {T:Tr SV} {k:List AIt} {dfs:List ADf} {H:aw} {Q:Pst} {ops:Array Oper} {l:List Oper} {ty:TypeId} {pos:String} {af:Array Edge} {gd:Option (Nat×Bool)}
theorem gN{x:Operand}{as1:List Operand}{ats:Array TypeId}{g:FuncId}{fa fb args:List SV}(hw:aD T ops ⟨none,.defer {callee:= .value x,args:=as1.toArray,argTypes:=ats},ty,pos,af,gd⟩=some true)(hx:ar T x=some (.fn (.func g) fa fb))(ha:dh T as1=some args)(hm:bB P g=true)
 (h:Wp P none ⟨fn,nt,T,.inReg ops (i+1) l :: k,.call g (fa ++ args ++ fb) :: dfs,H,nx⟩ Q):Wp P none ⟨fn,nt,T,.inReg ops i (⟨none,.defer {callee:= .value x,args:=as1.toArray,argTypes:=ats},ty,pos,af,gd⟩ :: l) :: k,dfs,H,nx⟩ Q:=by
 refine .step (.inr ⟨hw,.inl rfl,OpDoes.any (out:=(.dfr (.call g (fa ++ args ++ fb)),H,nx)) ?_ ⟨rfl,h⟩⟩)
 intro K w0 e w ev hS hE
 refine kK hS hE ?_
 unfold fZ
 simp only [bE,ha,hx,da,hm,cond_true]
theorem fQ{dd:Nat}(hw:aD T ops ⟨some dd,.call {callee:= .builtin .recover,args:= #[],argTypes:= #[]},ty,pos,af,gd⟩=some true)(hd:Nat.blt dd nt=true)
 (h:Wp P none ⟨fn,nt,T.set dd (.sc .nilIface),.inReg ops (i+1) l :: k,dfs,H,nx⟩ Q):Wp P none ⟨fn,nt,T,.inReg ops i (⟨some dd,.call {callee:= .builtin .recover,args:= #[],argTypes:= #[]},ty,pos,af,gd⟩ :: l) :: k,dfs,H,nx⟩ Q:=by
 refine .step (.inr ⟨hw,.inl rfl,OpDoes.any (out:=(.recover,H,nx)) ?_ ⟨rfl,?_⟩⟩)
 ·intro K w0 e w ev hS hE
  refine kK hS hE ?_
  unfold fZ
  simp only [dh,Eu,fh]
 ·rw [aK hd]
  exact h
theorem fC{x:Operand}{name:String}{as1:List Operand}{ats:Array TypeId}{t:TypeId}{v:SV}{args:List SV}{dd:Nat}(g:FuncId)(hw:aD T ops ⟨some dd,.call {callee:= .invoke x name,args:=as1.toArray,argTypes:=ats},ty,pos,af,gd⟩=some true)(hd:Nat.blt dd nt=true)(hx:ar T x=some (.ifc t v))(ha:dh T as1=some args)(hm:jO P t name=some g)
 (h:Fnc P g (v :: args) H nx (fun r=>Wp P ro ⟨fn,nt,T.set dd r.1,.inReg ops (i+1) l :: k,dfs,r.2.1,r.2.2⟩ Q)) :
 Wp P ro ⟨fn,nt,T,.inReg ops i (⟨some dd,.call {callee:= .invoke x name,args:=as1.toArray,argTypes:=ats},ty,pos,af,gd⟩ :: l) :: k,dfs,H,nx⟩ Q:=by
 refine th hw (args:=v :: args) ?_ (by simp only [aK hd];exact h)
 simp only [bE,ha,hx,hm]
theorem eS{rl:List ResultVar}{F:Func}{g:FuncId}{args:List SV}(hf:P.funcs[fn]? =some F)(hl:F.results.toList=rl)(hg:bB P g=true)(h:Fnc P g args H nx (fun r=> ∃ vs,ResIs P r.2.1 T rl vs∧Q (fv vs,r.2.1,r.2.2))):Wp P none ⟨fn,nt,T,.code .ret :: k,[.call g args],H,nx⟩ Q:=by
 refine Au (B1 hg (E1 h ?_))
 rintro⟨v,H',n'⟩ ⟨vs,h1,h2⟩
 exact AL (by simp only [eG,hf,hl]) h1.res h2
end
end Go.Sy
end
section
namespace Go.Proofs.YtelnglhodnoclaaGreat
open Go Go.Sy Go.Sl Go.RowKit
section
variable {H H':aw}{s:SV}{b c:Nat}{left:Int}{m n nx:Nat}{odd:Bool}{mem x:List UInt8}
abbrev cC:SV:= .sc (.slice none 0 0)
abbrev nN(mem:List UInt8)(s:SV)(left:Int)(odd:Bool):List SV:=(byV mem).map .sc ++ [s,.sc (.int .i64 left),.sc (.bool odd)]
abbrev gC(mem:List UInt8)(s:SV)(left:Int)(odd:Bool):VO:=am 53 (nN mem s left odd)
def aQ(mem:List UInt8)(n:Nat):List UInt8:=(mem.drop (1024*n)).take 1024
theorem dB(hm:mem.length=28672)(hn:n<28):(aQ mem n).length=1024:=by
 unfold aQ
 rw [EC,EF]
 omega
theorem wU(hm:mem.length=28672)(hn:n<28)(s:SV)(left:Int)(odd:Bool):(gC mem s left odd).cellsFrom (0+n*1024) 1024=some (pgS (aQ mem n)):=by
 refine aH _ _ ?_ (by rw [bf (dB hm hn)])
 have hl:((byV mem).map SV.sc).length=28672:=by simpa using hm
 rw [List.drop_append_of_le_length (by omega),List.take_append_of_le_length (by rw [EF];omega)]
 unfold aQ
 rw [EA,Nat.mul_comm]
 simp [List.map_take,List.map_drop]
theorem AH(hb:H.at' b=some (gC mem s left odd))(hm:mem.length=28672)(hn:n<28):Fnc Tryz.prog 152 [.ptr b 0,.sc (.int .i64 ((4+n:Nat):Int))] H nx (fun q=>q=(pgE (aQ mem n,0),H,nx)):=by
 refine Fnc.bV (pm _) ?_
 refine E2 Tryz.func152 rfl rfl ?_
 refine a9 fun hund=>?_
 have hlt:=hund _ _ hb
 have hl:=dB hm hn
 repeat first|refine eR (aW dN) rfl rfl rfl ?_|apply ae;rfl|apply aB;rfl;omega;omega|apply rX;rfl;omega|apply ic (q:=n);rfl;rfl;rfl;rfl;exact(F.un _ rfl);exact(F.sz _ rfl);(focus(omega));(focus(omega))
 refine dO rfl rfl rfl (F.ag _ rfl) (by repeat(first|assumption|refine aa (by omega) ?_)) (wU hm hn _ _ _) ?_
 repeat first|apply cx hl ac;rfl;(focus((repeat(exact ah));done))|apply ae;rfl
 ((apply bv Tryz.func152 (congrArg Array.toList Tryz.results152));(focus((apply E4 rfl (E6 (F.ag _ rfl) (by repeat(exact ah)) (bH hl)));(repeat(first|exact E3|apply E5 rfl)))))
 exact⟨rfl,Ew _,fun m hm=>(ab _ _ (by omega)).trans (ab _ _ (by omega))⟩
theorem AY(a b:List UInt8):byV (a ++ b)=byV a ++ byV b:=Es
theorem iS(hm:mem.length=28672):((byV mem).map SV.sc).length=28672:=by simpa using hm
theorem jK(hm:mem.length=28672)(s:SV)(l:Int)(o:Bool):(nN mem s l o).length=28675:=by simp [hm]
theorem mQ(hm:mem.length=28672)(s:SV)(l:Int)(o:Bool)(j:Nat):(nN mem s l o)[28672+j]? = [s,.sc (.int .i64 l),.sc (.bool o)][j]? :=by
 rw [EI (by rw [iS hm];omega),iS hm,Nat.add_sub_cancel_left]
theorem pj(hm:mem.length=28672)(s s':SV)(l:Int)(o:Bool):(nN mem s l o).set 28672 s'=nN mem s' l o:=by
 rw [List.set_append_right _ _ (by rw [iS hm];exact Em _),iS hm]
 rfl
theorem tN(hm:mem.length=28672)(s:SV)(l l':Int)(o:Bool):(nN mem s l o).set 28673 (.sc (.int .i64 l'))=nN mem s l' o:=by
 rw [List.set_append_right _ _ (by rw [iS hm];decide),iS hm]
 rfl
def bQ(mem:List UInt8)(n:Nat)(x:List UInt8):List UInt8:=eJ mem (1024*n) x
theorem j7(hm:mem.length=28672)(hn:n<28)(hx:x.length=1024):(bQ mem n x).length=28672:=by
 unfold bQ
 rw [eI (by omega),hm]
theorem BB(hm:mem.length=28672)(hn:n<28)(hx:x.length=1024)(s:SV)(l:Int)(o:Bool):(nN mem s l o).take (0+n*1024) ++ pgS x ++ (nN mem s l o).drop (0+n*1024+1024)=nN (bQ mem n x) s l o:=by
 have hl:=iS hm
 rw [List.take_append_of_le_length (by omega),List.drop_append_of_le_length (by omega)]
 unfold bQ eJ
 rw [hx,EA,Nat.mul_comm n]
 show _=(byV (mem.take (1024*n) ++ x ++ mem.drop (1024*n+1024))).map SV.sc ++ _
 rw [AY,AY,Es,Es]
 simp only [byV,List.map_take,List.map_drop,EJ]
def LIs(H:aw)(s:SV)(c:Nat):Prop:=(c=0∧s=cC)∨ ∃ r ws,0<c∧s = .slu r 0 c∧H.at' r=some (fA false c 1025 212 ws)∧ws.length=c*1025
theorem LIs.frame(h:LIs H s c)(hf: ∀ r ws,H.at' r=some (fA false c 1025 212 ws)→H'.at' r=H.at' r):LIs H' s c:=by
 rcases h with h|⟨r,ws,h0,h1,h2,h3⟩
 ·exact .inl h
 ·exact .inr ⟨r,ws,h0,h1,(hf r ws h2).trans h2,h3⟩
def PgAt(H:aw)(b:Nat)(mem:List UInt8)(left:Int)(c:Nat):Prop:= ∃ s,H.at' b=some (gC mem s left false)∧LIs H s c
theorem PgAt.frame(h:PgAt H b mem left c)(hund: ∀ r vo,H.at' r=some vo→r<nx)(hf: ∀ m,m<nx→H'.at' m=H.at' m):PgAt H' b mem left c:=by
 obtain⟨s,h1,h2⟩:=h
 exact⟨s,(hf b (hund _ _ h1)).trans h1,h2.frame fun r ws hr=>hf r (hund _ _ hr)⟩
theorem LIs.one{H:aw}{s:SV}{c:Nat}(h:LIs H s c):s.one=true:=by
 rcases h with ⟨_,rfl⟩|⟨_,_,_,rfl,_⟩ <;> rfl
abbrev lY(n:Int)(x:List UInt8):List SV:= .sc (.int .i64 n) :: pgS x
theorem kf(n:Int)(h:x.length=1024):(lY n x).length=1*1025:=by simp [h]
theorem pw(n:Int)(x:List UInt8):cq (lY n x)=true:=iG x
theorem yB:dY Tryz.prog 212=some (.agg (Value.int .i64 0 :: List.replicate 1024 (Value.int .u8 0)).toArray):=by kernel_rfl
theorem qG:AG Tryz.prog 212=some [(0,1),(1,1024)]:=by kernel_rfl
theorem mg{place:Nat→Option (Nat×Nat)}{cells vc:List SV}{i off size:Nat}{v:SV}(hp:place i=some (off,size))(hv:v.cells=vc)(hl:vc.length=size)(ho:off+size≤cells.length):hJ place cells [(i,v)]=some (cells.take off ++ vc ++ cells.drop (off+size)):=by
 subst hv
 have hb:(Nat.beq v.cells.length size && Nat.ble (off+size) cells.length)=true:=by
  rw [Ek]
  exact⟨by rw [hl];exact Nat.beq_refl _,D9 ho⟩
 simp only [hJ,hp,hb,cond_true]
theorem gi{zs:List SV}(hz:zs.length=1025){n:Int}{p:List UInt8}(hp:p.length=1024):hJ (fun i=> [(0,1),(1,1024)][i]?) zs [(0,.sc (.int .i64 n)),(1,.agg (pgS p))]=some (lY n p):=by
 have h1:(pgS p).length=1024:=bf hp
 have h2:(zs.take 0 ++ (SV.sc (.int .i64 n)).cells ++ zs.drop (0+1)).length=1025:=by
  rw [Er,Er,EF,hz]
  rfl
 have hb:(Nat.beq (SV.sc (.int .i64 n)).cells.length 1 && Nat.ble (0+1) zs.length)=true:=by rw [hz];rfl
 show(bif (Nat.beq (SV.sc (.int .i64 n)).cells.length 1 && Nat.ble (0+1) zs.length) then hJ (fun i=> [(0,1),(1,1024)][i]?) (zs.take 0 ++ (SV.sc (.int .i64 n)).cells ++ zs.drop (0+1)) [(1,.agg (pgS p))] else none)=_
 rw [hb,cond_true,mg (off:=1) (size:=1024) (vc:=pgS p) rfl rfl h1 (by omega)]
 rw [List.drop_of_length_le (show(zs.take 0 ++ (SV.sc (.int .i64 n)).cells ++ zs.drop (0+1)).length≤1+1024 by omega),EM]
 rfl
theorem ri{zs:List SV}(hz:zs.length=1025){n:Int}{p:List UInt8}(hp:p.length=1024):hJ (fun i=>some (i*1025,1025)) zs [(0,.agg (lY n p))]=some (lY n p):=by
 have hl:(lY n p).length=1025:=kf n hp
 rw [mg (off:=0) (size:=1025) (vc:=lY n p) rfl rfl hl (by omega)]
 rw [List.take_zero,List.nil_append,List.drop_of_length_le (by omega),EM]
theorem yq{n:Int}(hx:x.length=1024):(am 212 (lY n x)).cellsFrom (0+1) 1024=some (pgS x):=
 aH _ _ (by show(pgS x).take 1024=pgS x;exact Ed (by rw [bf hx];exact Em _)) (bf hx)
theorem Dv(hb:H.at' b=some (gC mem s left odd))(hm:mem.length=28672)(hn:n<28)(hx:x.length=1024):Fnc Tryz.prog 155 [.ptr b 0,.agg (lY ((4+n:Nat):Int) x)] H nx
 (fun q=>q=(.tup [],(H.set nx (am 212 (lY ((4+n:Nat):Int) x))).set b (gC (bQ mem n x) s left odd),nx+1)):=by
 refine E2 Tryz.func155 rfl rfl ?_
 refine a9 fun hund=>?_
 have hlt:=hund _ _ hb
 have hpl:(lY ((4+n:Nat):Int) x).length=1025:=by simp [hx]
 repeat first|apply ae;rfl|apply aR;rfl;(focus((repeat(exact ah));done));rfl
 have k1:(H.set nx (am 212 (lY ((4+n:Nat):Int) x))).at' nx=some (am 212 (lY ((4+n:Nat):Int) x)):=au _ _ _
 have k2:(H.set nx (am 212 (lY ((4+n:Nat):Int) x))).at' b=some (gC mem s left odd):=(ab _ _ (by omega)).trans hb
 obtain⟨H1,hH1⟩: ∃ H1,H1=H.set nx (am 212 (lY ((4+n:Nat):Int) x)):=⟨_,rfl⟩
 rw [← hH1] at k1 k2 ⊢
 repeat first|refine aZ rfl rfl rfl (F.ag _ rfl) k1 rfl ?_|apply w_cT;rfl;omega|apply ae;rfl
 (apply cR;(focus(kernel_rfl));(focus(kernel_rfl)))
 repeat first|refine bq (aI (F.ag _ rfl) rfl k1 (aE rfl)) rfl rfl rfl ?_|apply dn;rfl;rfl;exact(fun _ h=>by cases h);exact(bA (F.ag _ rfl) rfl k1 (yq hx))|refine fV rfl rfl rfl (F.sz _ rfl) k2 (bf hx) (by rw [jK hm];omega) (iG _) (BB hm hn hx _ _ _) ?_|apply Cj (q:=n);rfl;rfl;rfl;rfl;exact(F.un _ rfl);exact(F.sz _ rfl);(focus(omega));(focus(omega))|apply aA;rfl|refine bq (ak rfl rfl (.inr (.inl ⟨rfl,(D3 _ ⟨(by focus(omega)),(by focus(omega))⟩).symm⟩))) rfl rfl rfl ?_
 refine ay ⟨by kernel_rfl,?_,?_⟩;(focus(repeat(first|exact Gc|apply mh;rfl|apply l5;rfl;kernel_rfl|refine⟨.inr ⟨0,by kernel_rfl,AllH.all (fun _=>(by(exact ak rfl rfl (.inr (.inl ⟨rfl,(D3 _ ⟨by omega,by omega⟩).symm⟩))))) _⟩,?_⟩|refine jC 0 rfl (by kernel_rfl) (by(repeat(refine⟨(by first|exact aI (F.ag _ rfl) rfl (by repeat(first|assumption|refine aa (by omega) ?_)) (aE rfl)|exact sy (q:=n) rfl rfl (F.un _ rfl) (F.sz _ rfl) (by omega) (by omega)),?_⟩));exact Gc) ?_|refine jC 1 rfl (by kernel_rfl) (by(repeat(refine⟨(by(exact bA (F.ag _ rfl) rfl k1 (yq hx))),?_⟩));exact Gc) ?_)))
 (apply wd Tryz.func155 Tryz.results155;rfl)
 rfl
theorem wS(hb:H.at' b=some (gC mem cC left false))(hm:mem.length=28672)(hn:n<28)(hx:x.length=1024)(hl:left≠0)(hl2 : -1000000000≤left∧left≤9223372036854775807):Fnc Tryz.prog 153 [.ptr b 0,.sc (.int .i64 ((4+n:Nat):Int)),.agg (pgS x)] H nx
 (fun q=>q.1 = .sc (.int .i64 0)∧(∃ r,nx≤r∧q.2.1.at' b=some (gC (bQ mem n x) (.slu r 0 (0+1)) (left-1) false)∧q.2.1.at' r=some (fA false (0+1) 1025 212 (lY ((4+n:Nat):Int) x)))∧nx≤q.2.2∧ ∀ m,m<nx→m≠b→q.2.1.at' m=H.at' m):=by
 obtain⟨s,hs⟩: ∃ s,s=cC:=⟨_,rfl⟩
 rw [← hs] at hb
 refine E2 Tryz.func153 rfl rfl ?_
 refine a9 fun hund=>?_
 have hlt:=hund _ _ hb
 have hbox:(H.set nx (pgO x)).at' nx=some (pgO x):=au _ _ _
 have hb1:(H.set nx (pgO x)).at' b=some (gC mem s left false):=(ab _ _ (by omega)).trans hb
 have hold: ∀ m,m<nx→(H.set nx (pgO x)).at' m=H.at' m:=fun m hm=>ab _ _ (by omega)
 have hone:s.one=true:=by rw [hs];rfl
 repeat apply ae;rfl
 generalize H.set nx (pgO x)=H1 at hbox hb1 hold ⊢
 repeat first|refine aZ rfl rfl rfl (F.ag _ rfl) hb1 (mQ hm _ _ _ 1) ?_|apply ae;rfl|apply aB;rfl;omega;omega|apply rX;rfl;omega|apply tp;rfl;omega
 refine cJ rfl rfl rfl (F.sz _ rfl) hb1 rfl (D9 (by rw [jK hm];decide)) ?_
 rw [tN hm]
 have hb2:(H1.set b (gC mem s (left-1) false)).at' b=some (gC mem s (left-1) false):=au _ _ _
 have hbox2:(H1.set b (gC mem s (left-1) false)).at' nx=some (pgO x):=(ab _ _ (by omega)).trans hbox
 have hold2: ∀ m,m<nx→m≠b→(H1.set b (gC mem s (left-1) false)).at' m=H.at' m:=fun m h1 h2=>(ab _ _ h2).trans (hold m h1)
 generalize H1.set b (gC mem s (left-1) false)=H2 at hb2 hbox2 hold2 ⊢
 clear hb1 hbox hold
 repeat apply ae;rfl
 have hsz:(lY ((4+n:Nat):Int) x).length=1*1025:=kf _ hx
 subst hs
 (apply cR;(focus(kernel_rfl));(focus(kernel_rfl)))
 repeat first|refine fp rfl rfl rfl (F.ag _ rfl) hbox2 (bf hx) ?_|refine bq (aI (F.ag _ rfl) rfl hb2 (aE (mQ hm _ _ _ 0))) rfl rfl rfl ?_|refine bq (eH rfl yB qG (gi (by kernel_rfl) hx)) rfl rfl rfl ?_|refine hX (cs:=lY ((4+n:Nat):Int) x) rfl rfl (F.un _ rfl) (F.sz _ rfl) rfl yB rfl (ri (by simp) hx) (pw _ _) rfl hsz ?_|refine oA rfl rfl (fun _ h=>by cases h) (jc (b:=1032) (F.un _ rfl) (.inl ⟨_,F.un _ rfl⟩) (F.sz _ rfl) (by decide) (by kernel_rfl) (by kernel_rfl) rfl rfl (Dc (by repeat(exact ah)) hsz) (by exact pw _ _) (by omega) (by omega) (by omega)) ?_|refine ci rfl rfl rfl (F.sz _ rfl) (by(repeat(refine aa (by omega) ?_));exact hb2) rfl (D9 (by rw [jK hm];decide)) ?_|apply aA;rfl
 refine ay ⟨by kernel_rfl,?_,?_⟩;(focus(repeat(first|exact Gc|apply mh;rfl|apply l5;rfl;kernel_rfl|refine jC 0 rfl (by kernel_rfl) (by(repeat(refine⟨(by first|exact bA (F.ag _ rfl) rfl hbox2 (bH hx)|exact bA (F.ag _ rfl) rfl (by(repeat(refine aa (by omega) ?_));exact hbox2) (bH hx)|exact eH rfl yB qG (gi (by kernel_rfl) hx)),?_⟩));exact Gc) ?_|refine jC 1 rfl (by kernel_rfl) (by(repeat(refine⟨(by(exact aI (F.ag _ rfl) rfl (by(repeat(refine aa (by omega) ?_));exact hb2) (aE (mQ hm _ _ _ 0)))),?_⟩));exact Gc) ?_)))
 rw [pj hm]
 refine im (R:=fun H5 n5=>nx+1<n5∧H5.at' nx=some (pgO x)∧H5.at' b=some (gC mem (.slu (nx+1+1) 0 (0+1)) (left-1) false)∧H5.at' (nx+1+1)=some (fA false (0+1) 1025 212 (lY ((4+n:Nat):Int) x))∧nx+1+1<n5∧ ∀ m,m<nx→m≠b→H5.at' m=H.at' m) ⟨by dsimp only;omega,by(repeat(refine aa (by omega) ?_));exact hbox2,by repeat(exact ah),by repeat(first|exact ah|refine aa (by omega) ?_),by dsimp only;omega,fun m h1 h2=>by(repeat(refine aa (by omega) ?_));exact hold2 m h1 h2⟩ ?_
 rintro H5 n5 ⟨_,e1,e2,e3,e4,e5⟩
 repeat apply ae;rfl
 (apply cR;(focus(kernel_rfl));(focus(kernel_rfl)))
 repeat first|refine fp rfl rfl rfl (F.ag _ rfl) e1 (bf hx) ?_|refine bq (eH rfl yB qG (gi (by kernel_rfl) hx)) rfl rfl rfl ?_|apply eZ;rfl;rfl;rfl;(focus(kernel_rfl));exact(Dv e2 hm hn hx)|apply aA;rfl
 refine ay ⟨by kernel_rfl,?_,?_⟩;(focus(repeat(first|exact Gc|apply mh;rfl|apply l5;rfl;kernel_rfl|refine jC 0 rfl (by kernel_rfl) (by(repeat(refine⟨(by(exact eH rfl yB qG (gi (by kernel_rfl) hx))),?_⟩));exact Gc) ?_|refine jC 1 rfl (by kernel_rfl) (by(repeat(refine⟨(by(exact bA (F.ag _ rfl) rfl e1 (bH hx))),?_⟩));exact Gc) ?_)))
 repeat apply ae;rfl
 (apply bW Tryz.func153 Tryz.results153;rfl)
 exact⟨rfl,⟨nx+1+1,by omega,au _ _ _,(ab _ _ (by omega)).trans ((ab _ _ (by omega)).trans e3)⟩,by dsimp only;omega,fun m h1 h2=>(ab _ _ h2).trans ((ab _ _ (by omega)).trans (e5 m h1 h2))⟩
theorem mP{m1 m2:List UInt8}{s1 s2:SV}{l1 l2:Int}{o1 o2:Bool}(h:gC m1 s1 l1 o1=gC m2 s2 l2 o2):s1=s2:=by
 have h2:fw (nN m1 s1 l1 o1)=fw (nN m2 s2 l2 o2):=by
  unfold gC am at h
  injection h
 have h3:nN m1 s1 l1 o1=nN m2 s2 l2 o2:=ET fun i=>congrFun h2 i
 have h4:=(List.append_inj' h3 rfl).2
 injection h4
def Off(H:aw)(b m:Nat):Prop:= ∀ mem r n left odd,H.at' b=some (gC mem (.slu r 0 n) left odd)→r≠m
theorem PgAt.off(hb:PgAt H b mem left c)(h: ∀ ws,H.at' m≠some (fA false c 1025 212 ws)):Off H b m:=fun mem' r n left' odd hq hr=>by
 obtain⟨s,h1,h2⟩:=hb
 have hs:=mP (Option.some.inj (h1.symm.trans hq))
 rcases h2 with ⟨_,rfl⟩|⟨r2,ws,h0,rfl,h3,h4⟩
 ·cases hs
 ·injection hs with hr2
  subst hr2 hr
  exact h ws h3
theorem Off.new{r:Nat}(h:H.at' b=some (gC mem (.slu r 0 n) left odd))(hr:m<r):Off H b m:=fun mem' r' n' left' odd' hq hm=>by
 have hs:=mP (Option.some.inj (h.symm.trans hq))
 injection hs with hr2
 omega
theorem wQ(hb:PgAt H b mem left c)(hm:mem.length=28672)(hn:n<28)(hx:x.length=1024)(hl:left≠0)(hl2 : -1000000000≤left∧left≤9223372036854775807)(hc:c≤1000000):Fnc Tryz.prog 153 [.ptr b 0,.sc (.int .i64 ((4+n:Nat):Int)),.agg (pgS x)] H nx
 (fun q=>q.1 = .sc (.int .i64 0)∧PgAt q.2.1 b (bQ mem n x) (left-1) (c+1)∧nx≤q.2.2∧ ∀ m,m<nx→m≠b→Off H b m→q.2.1.at' m=H.at' m∧Off q.2.1 b m):=by
 obtain⟨s,hb,hL⟩:=hb
 rcases hL with ⟨rfl,rfl⟩|⟨r,ws,h0,rfl,hr1,hwl⟩
 ·refine E1 (wS hb hm hn hx hl hl2) ?_
  rintro⟨_,H1,n1⟩ ⟨rfl,⟨r,g1,g2,g3⟩,g4,g5⟩
  exact⟨rfl,⟨_,g2,.inr ⟨r,_,by omega,rfl,g3,kf _ hx⟩⟩,g4,fun m h1 h2 _=>⟨g5 m h1 h2,Off.new g2 (by omega)⟩⟩
 refine E2 Tryz.func153 rfl rfl ?_
 refine a9 fun hund=>?_
 have hlt:=hund _ _ hb
 have hbox:(H.set nx (pgO x)).at' nx=some (pgO x):=au _ _ _
 have hb1:(H.set nx (pgO x)).at' b=some (gC mem (.slu r 0 c) left false):=(ab _ _ (by omega)).trans hb
 have hold: ∀ m,m<nx→(H.set nx (pgO x)).at' m=H.at' m:=fun m hm=>ab _ _ (by omega)
 have hone:(SV.slu r 0 c).one=true:=rfl
 repeat apply ae;rfl
 generalize H.set nx (pgO x)=H1 at hbox hb1 hold ⊢
 repeat first|refine aZ rfl rfl rfl (F.ag _ rfl) hb1 (mQ hm _ _ _ 1) ?_|apply ae;rfl|apply aB;rfl;omega;omega|apply rX;rfl;omega|apply tp;rfl;omega
 refine cJ rfl rfl rfl (F.sz _ rfl) hb1 rfl (D9 (by rw [jK hm];decide)) ?_
 rw [tN hm]
 have hb2:(H1.set b (gC mem (.slu r 0 c) (left-1) false)).at' b=some (gC mem (.slu r 0 c) (left-1) false):=au _ _ _
 have hbox2:(H1.set b (gC mem (.slu r 0 c) (left-1) false)).at' nx=some (pgO x):=(ab _ _ (by omega)).trans hbox
 have hold2: ∀ m,m<nx→m≠b→(H1.set b (gC mem (.slu r 0 c) (left-1) false)).at' m=H.at' m:=fun m h1 h2=>(ab _ _ h2).trans (hold m h1)
 generalize H1.set b (gC mem (.slu r 0 c) (left-1) false)=H2 at hb2 hbox2 hold2 ⊢
 clear hb1 hbox hold
 repeat apply ae;rfl
 have hsz:(lY ((4+n:Nat):Int) x).length=1*1025:=kf _ hx
 have hrl:=hund _ _ hr1
 have hrb:r≠b:=fun e=>by rw [e,hb] at hr1;cases hr1
 have hr2:=(hold2 r hrl hrb).trans hr1
 (apply cR;(focus(kernel_rfl));(focus(kernel_rfl)))
 repeat first|refine fp rfl rfl rfl (F.ag _ rfl) hbox2 (bf hx) ?_|refine bq (aI (F.ag _ rfl) rfl hb2 (aE (mQ hm _ _ _ 0))) rfl rfl rfl ?_|refine bq (eH rfl yB qG (gi (by kernel_rfl) hx)) rfl rfl rfl ?_|refine hX (cs:=lY ((4+n:Nat):Int) x) rfl rfl (F.un _ rfl) (F.sz _ rfl) rfl yB rfl (ri (by simp) hx) (pw _ _) rfl hsz ?_|refine oA rfl rfl (fun _ h=>by cases h) (BO (b:=1032) (F.un _ rfl) (.inl ⟨_,F.un _ rfl⟩) (F.sz _ rfl) (by decide) (by kernel_rfl) (by kernel_rfl) rfl rfl (by(repeat(refine aa (by omega) ?_));exact hr2) (hwl) (Dc (by repeat(exact ah)) hsz) (by exact pw _ _) (by omega) (by omega) (by omega)) ?_|refine ci rfl rfl rfl (F.sz _ rfl) (by(repeat(first|refine aa (by omega) ?_|refine bO (by omega) ?_));exact hb2) rfl (D9 (by rw [jK hm];decide)) ?_|apply aA;rfl
 refine ay ⟨by kernel_rfl,?_,?_⟩;(focus(repeat(first|exact Gc|apply mh;rfl|apply l5;rfl;kernel_rfl|refine jC 0 rfl (by kernel_rfl) (by(repeat(refine⟨(by first|exact bA (F.ag _ rfl) rfl hbox2 (bH hx)|exact bA (F.ag _ rfl) rfl (by(repeat(first|refine aa (by omega) ?_|refine bO (by omega) ?_));exact hbox2) (bH hx)|exact eH rfl yB qG (gi (by kernel_rfl) hx)),?_⟩));exact Gc) ?_|refine jC 1 rfl (by kernel_rfl) (by(repeat(refine⟨(by(exact aI (F.ag _ rfl) rfl (by(repeat(first|refine aa (by omega) ?_|refine bO (by omega) ?_));exact hb2) (aE (mQ hm _ _ _ 0)))),?_⟩));exact Gc) ?_)))
 rw [pj hm]
 refine im (R:=fun H5 n5=>nx+1<n5∧H5.at' nx=some (pgO x)∧H5.at' b=some (gC mem (.slu (nx+1+1) 0 (c+1)) (left-1) false)∧LIs H5 (.slu (nx+1+1) 0 (c+1)) (c+1)∧nx+1+1<n5∧ ∀ m,m<nx→m≠b→Off H b m→H5.at' m=H.at' m) ⟨by dsimp only;omega,by(repeat(first|refine aa (by omega) ?_|refine bO (by omega) ?_));exact hbox2,by repeat(exact ah),.inr ⟨nx+1+1,_,by omega,rfl,by repeat(first|exact ah|refine aa (by omega) ?_),by rw [Er,hwl,hsz];omega⟩,by dsimp only;omega,fun m h1 h2 h3=>(by have hmr:m≠r:=fun e=>h3 _ _ _ _ _ hb e.symm;(focus((repeat(first|refine aa (by omega) ?_|refine bO (by omega) ?_));exact hold2 m h1 h2)))⟩ ?_
 rintro H5 n5 ⟨_,e1,e2,e3,e4,e5⟩
 repeat apply ae;rfl
 (apply cR;(focus(kernel_rfl));(focus(kernel_rfl)))
 repeat first|refine fp rfl rfl rfl (F.ag _ rfl) e1 (bf hx) ?_|refine bq (eH rfl yB qG (gi (by kernel_rfl) hx)) rfl rfl rfl ?_|apply eZ;rfl;rfl;rfl;(focus(kernel_rfl));exact(Dv e2 hm hn hx)|apply aA;rfl
 refine ay ⟨by kernel_rfl,?_,?_⟩;(focus(repeat(first|exact Gc|apply mh;rfl|apply l5;rfl;kernel_rfl|refine jC 0 rfl (by kernel_rfl) (by(repeat(refine⟨(by(exact eH rfl yB qG (gi (by kernel_rfl) hx))),?_⟩));exact Gc) ?_|refine jC 1 rfl (by kernel_rfl) (by(repeat(refine⟨(by(exact bA (F.ag _ rfl) rfl e1 (bH hx))),?_⟩));exact Gc) ?_)))
 repeat apply ae;rfl
 (apply bW Tryz.func153 Tryz.results153;rfl)
 rcases e3 with ⟨h,_⟩|⟨r',ws',q0,q1,q2,q3⟩
 ·omega
 cases q1
 refine⟨rfl,⟨_,au _ _ _,.inr ⟨_,ws',q0,rfl,(ab _ _ (by omega)).trans ((ab _ _ (by omega)).trans q2),q3⟩⟩,by dsimp only;omega,fun m h1 h2 h3=>⟨?_,Off.new (au _ _ _) (by omega)⟩⟩
 exact(ab _ _ h2).trans ((ab _ _ (by omega)).trans (e5 m h1 h2 h3))
theorem Dj(hb:PgAt H b mem left c)(hm:mem.length=28672)(hn:n<28)(hx:x.length=1024)(hl:left≠0)(hl2 : -1000000000≤left∧left≤9223372036854775807)(hc:c≤1000000):Fnc Tryz.prog 153 [.ptr b 0,.sc (.int .i64 ((4+n:Nat):Int)),.agg (pgS x)] H nx
 (fun q=>q.1 = .sc (.int .i64 0)∧PgAt q.2.1 b (bQ mem n x) (left-1) (c+1)∧nx≤q.2.2∧ ∀ m,m<nx→m≠b→(∀ ws,H.at' m≠some (fA false c 1025 212 ws))→q.2.1.at' m=H.at' m):=by
 refine E1 (wQ hb hm hn hx hl hl2 hc) ?_
 rintro q ⟨h1,h2,h3,h4⟩
 exact⟨h1,h2,h3,fun m g1 g2 g3=>(h4 m g1 g2 (hb.off g3)).1⟩
theorem zr(hb:PgAt H b mem 0 c)(hm:mem.length=28672)(hn:n<28):Fnc Tryz.prog 153 [.ptr b 0,.sc (.int .i64 ((4+n:Nat):Int)),.agg (pgS x)] H nx
 (fun q=>q.1 = .sc (.int .i64 8)∧PgAt q.2.1 b mem 0 c∧b<nx∧nx≤q.2.2∧ ∀ m,m<nx→q.2.1.at' m=H.at' m):=by
 have hb0:=hb
 obtain⟨s,hb,hL⟩:=hb
 refine E2 Tryz.func153 rfl rfl ?_
 refine a9 fun hund=>?_
 have hlt:=hund _ _ hb
 have hb1:(H.set nx (pgO x)).at' b=some (gC mem s 0 false):=(ab _ _ (by omega)).trans hb
 have hold: ∀ m,m<nx→(H.set nx (pgO x)).at' m=H.at' m:=fun m hm=>ab _ _ (by omega)
 repeat apply ae;rfl
 generalize H.set nx (pgO x)=H1 at hb1 hold ⊢
 repeat first|refine aZ rfl rfl rfl (F.ag _ rfl) hb1 (mQ hm _ _ _ 1) ?_|apply ae;rfl|apply rX;rfl;omega|apply ig;rfl;rfl
 (apply bW Tryz.func153 Tryz.results153;rfl)
 exact⟨rfl,hb0.frame hund hold,hlt,by first|omega|(dsimp only;omega),hold⟩
def NoPut(H:aw)(m:Nat):Prop:= ∀ c ws,H.at' m≠some (fA false c 1025 212 ws)
theorem NoPut.same(h:NoPut H m)(e:H'.at' m=H.at' m):NoPut H' m:=fun c ws=>by rw [e];exact h c ws
end
structure Kept (H H':aw) (b nx:Nat):Prop where
 keep: ∀ m,m<nx→m≠b→NoPut H m→H'.at' m=H.at' m
 two: ∀ m,m<nx→m≠b→Off H b m→H'.at' m=H.at' m∧Off H' b m
instance {H H':aw} {b nx:Nat}:CoeFun (Kept H H' b nx) (fun _=> ∀ m,m<nx→m≠b→NoPut H m→H'.at' m=H.at' m):=⟨Kept.keep⟩
section
variable {H H':aw}{b nx:Nat}{p:List UInt8}
theorem Kept.refl(H:aw)(b nx:Nat):Kept H H b nx:=⟨fun _ _ _ _=>rfl,fun _ _ _ h=>⟨rfl,h⟩⟩
theorem Kept.trans{H1 H2:aw}{n1:Nat}(h:Kept H H1 b nx)(g:Kept H1 H2 b n1)(hn:nx≤n1):Kept H H2 b nx:=
 ⟨fun m h1 h2 h3=>(g.keep m (by omega) h2 (h3.same (h.keep m h1 h2 h3))).trans (h.keep m h1 h2 h3),fun m h1 h2 h3=>by
   obtain⟨a1,a2⟩:=h.two m h1 h2 h3
   obtain⟨b1,b2⟩:=g.two m (by omega) h2 a2
   exact⟨b1.trans a1,b2⟩⟩
theorem Kept.old(hb:b<nx)(h: ∀ m,m<nx→H'.at' m=H.at' m):Kept H H' b nx:=
 ⟨fun m h1 _ _=>h m h1,fun m h1 _ h3=>⟨h m h1,fun mem r n left odd hq=>h3 mem r n left odd ((h b hb).symm.trans hq)⟩⟩
theorem Kept.set{m0:Nat}{vo:VO}(g:Kept H H' b nx)(h0:nx≤m0)(hb:m0≠b):Kept H (H'.set m0 vo) b nx:=
 ⟨fun m h1 h2 h3=>(ab _ _ (by omega)).trans (g.keep m h1 h2 h3),fun m h1 h2 h3=>⟨(ab _ _ (by omega)).trans (g.two m h1 h2 h3).1,fun mem r n left odd hq=>(g.two m h1 h2 h3).2 mem r n left odd ((ab _ _ (Ne.symm hb)).symm.trans hq)⟩⟩
theorem PgAt.other{p c:Nat}{mem:List UInt8}{left:Int}(h:PgAt H p mem left c)(g:Kept H H' b nx)(hpb:p≠b)(hp:p<nx)(hr: ∀ s,H.at' p=some (gC mem s left false)→ ∀ r n,s = .slu r 0 n→r<nx∧r≠b∧Off H b r):PgAt H' p mem left c∧H'.at' p=H.at' p:=by
 obtain⟨s,h1,h2⟩:=h
 have hk:H'.at' p=H.at' p:=g.keep p hp hpb fun c ws hq=>by rw [h1] at hq;unfold gC am at hq;cases hq
 refine⟨⟨s,hk.trans h1,?_⟩,hk⟩
 rcases h2 with h2|⟨r,ws,h0,rfl,h3,h4⟩
 ·exact .inl h2
 ·obtain⟨g1,g2,g3⟩:=hr _ h1 r c rfl
  exact .inr ⟨r,ws,h0,rfl,(g.two r g1 g2 g3).1.trans h3,h4⟩
theorem uT{n c:Nat}{mem x:List UInt8}{left:Int}(hb:PgAt H b mem left c)(hm:mem.length=28672)(hn:n<28)(hx:x.length=1024)(hl2 : -1000000000≤left∧left≤9223372036854775807)(hc:c≤1000000):Fnc Tryz.prog 153 [.ptr b 0,.sc (.int .i64 ((4+n:Nat):Int)),.agg (pgS x)] H nx
 (fun q=>nx≤q.2.2∧Kept H q.2.1 b nx∧((left≠0∧q.1 = .sc (.int .i64 0)∧PgAt q.2.1 b (bQ mem n x) (left-1) (c+1))∨(left=0∧q.1 = .sc (.int .i64 8)∧PgAt q.2.1 b mem 0 c))):=by
 by_cases h0:left=0
 ·subst h0
  refine E1 (zr hb hm hn) ?_
  rintro⟨_,H1,n1⟩ ⟨rfl,g0,g3,g1,g2⟩
  exact⟨g1,Kept.old g3 g2,.inr ⟨rfl,rfl,g0⟩⟩
 ·refine E1 (wQ hb hm hn hx h0 hl2 hc) ?_
  rintro⟨_,H1,n1⟩ ⟨rfl,g1,g2,g3⟩
  exact⟨g2,⟨fun m h1 h2 h3=>(g3 m h1 h2 (hb.off (h3 c))).1,g3⟩,.inl ⟨h0,rfl,g1⟩⟩
def kP(p:List UInt8):UInt8:=p[12]?.getD 0
def jr(u:List Bool):List UInt8→Option (Nat×a7)
 | []=>none
 | c :: r=>if c.toNat<1∨28≤c.toNat∨u[c.toNat]? =some true then none else match r with
   | []=>some (c.toNat,cn)
   | b :: r=>(ofL (b :: r)).map fun e=>(c.toNat,e)
def ch(p:List UInt8):Nat→Option (List Bool×List Bn.El)
 | 0=>some (List.replicate 28 false,[])
 | j+1=>match ch p j with
   | none=>none
   | some (u,l)=>if aG p j=0 then some (u,l) else match jr u (cd p j)with
     | none=>none
     | some (k,e)=>some (u.set k true,l ++ [((4:Int)+(k:Int),e)])
theorem gR{j:Nat}(h:ch p j=none): ∀ {k:Nat},j≤k→ch p k=none:=by
 intro k hk
 induction k with
 | zero=>rw [Nat.le_zero.1 hk] at h;exact h
 | succ k ih=>
   rcases EB k j with h1|h1
   ·rw [show k+1=j by omega];exact h
   ·show(match ch p k with|none=>none|some (u,l)=>_)=none
    rw [ih h1]
theorem pW{u:List Bool}{it:List UInt8}{k:Nat}{e:a7}(h:jr u it=some (k,e)):1≤k∧k<28∧u[k]? ≠some true:=by
 unfold jr at h
 split at h
 ·cases h
 ·split at h
  ·cases h
  ·rename_i c r hc
   split at h
   ·cases h;exact⟨by omega,by omega,fun h=>hc (.inr (.inr h))⟩
   ·obtain⟨x,_,hx⟩:=Eb.1 h
    cases hx
    exact⟨by omega,by omega,fun h=>hc (.inr (.inr h))⟩
theorem yi: ∀ (l:List Bool) (i:Nat),l[i]? =some false→(l.set i true).count false+1=l.count false
 | [],i,h=>by simp at h
 | b :: l,0,h=>by
   simp only [Ej,D2] at h
   subst h
   simp [List.count_cons]
 | b :: l,i+1,h=>by
   have:=yi l i (by simpa using h)
   simp only [List.set_cons_succ,List.count_cons]
   omega
theorem kY{p:List UInt8}: ∀ {j:Nat} {u:List Bool} {l:List Bn.El},ch p j=some (u,l)→u.length=28∧l.length+u.count false=28
 | 0,u,l,h=>by
   unfold ch at h
   cases h
   exact⟨EL,by simp⟩
 | j+1,u,l,h=>by
   unfold ch at h
   cases hr:ch p j with
   | none=>rw [hr] at h;cases h
   | some x=>
     obtain⟨u0,l0⟩:=x
     obtain⟨h1,h2⟩:=kY hr
     rw [hr] at h
     simp only at h
     split at h
     ·cases h;exact⟨h1,h2⟩
     ·cases hb:jr u0 (cd p j)with
      | none=>rw [hb] at h;cases h
      | some y=>
        obtain⟨k,e⟩:=y
        rw [hb] at h
        simp only [D2,Ea] at h
        obtain⟨rfl,rfl⟩:=h
        obtain⟨k1,k2,k3⟩:=pW hb
        have hf:u0[k]? =some false:=by
         rw [D5 (by omega)] at k3 ⊢
         cases hx:u0[k] with
         | true=>rw [hx] at k3;exact absurd rfl k3
         | false=>rfl
        have:=yi u0 k hf
        exact⟨by rw [List.length_set];exact h1,by rw [Er,List.length_singleton];omega⟩
theorem qx{j:Nat}{u:List Bool}{l:List Bn.El}(h:ch p j=some (u,l)):l.length≤28:=by
 have:=(kY h).2
 omega
def lW(l:List Bn.El):List Bn.El:=(Sort.sort Bn.ltP l.toArray).toList
def yD(s:List Bn.El):Nat→Bool
 | 0=>false
 | i+1=>yD s i || (decide (0<i) && decide (Bn.ordP (s.getD i (0,cn)) (s.getD (i-1) (0,cn))=0))
def xJ:List Bn.El→Bool
 | []=>false
 | x :: _=>gq x.2 cn
def okB(s:List Bn.El):Bool:= !(yD s s.length) && xJ s
def gr(p:List UInt8):Option (List Bn.El):=if cr p=true∧kP p=2 then(match ch p (aj p)with
 | none=>none
 | some (_,l)=>if okB (lW l)=true then some (lW l) else none) else none
abbrev nS(l:List Bn.El):VO:=Bn.rowP l.length l.toArray
abbrev usO(u:List Bool):VO:=am 121 (u.map fun b=> .sc (.bool b))
abbrev lvO(s:SV):VO:=am 81 [s]
abbrev nI(b:Bool):VO:=am 4 [.sc (.bool b)]
abbrev l7(e:Int):VO:=am 28 [.sc (.int .i64 e)]
def LvAt(H:aw)(s:SV)(l:List Bn.El)(lo hi:Nat):Prop:=(l= []∧s=cC)∨ ∃ r,l≠ []∧s = .slu r 0 l.length∧lo≤r∧r<hi∧H.at' r=some (nS l)
theorem LvAt.frame{s:SV}{l:List Bn.El}{lo hi hi':Nat}(h:LvAt H s l lo hi)(hh:hi≤hi')(hf: ∀ m,lo≤m→m<hi→H'.at' m=H.at' m):LvAt H' s l lo hi':=by
 rcases h with h|⟨r,h1,h2,h3,h4,h5⟩
 ·exact .inl h
 ·exact .inr ⟨r,h1,h2,h3,by omega,(hf r h3 h4).trans h5⟩
theorem A3(hp:p.length=1024):Fnc Tryz.prog 68 [.agg (pgS p)] H nx (fun q=>q=(.sc (.int .u8 ((kP p).toNat:Int)),H,nx)):=by
 have h12:kP p=p[12]'(by omega):=by unfold kP;rw [D5 (by omega)];rfl
 rw [h12]
 refine Fnc.bV (Free.sc _) ?_
 refine E2 Tryz.func68 rfl rfl ?_
 have hc:=zu (p:=p) (i:=12) (by omega)
 repeat first|apply ae;rfl|apply ic (q:=12);rfl;rfl;rfl;rfl;exact(F.un _ rfl);exact(F.sz _ rfl);(focus(omega));(focus(omega))|refine bN (aI (F.ag _ rfl) rfl (by repeat(exact ah)) hc) rfl rfl rfl ?_
 (apply bW Tryz.func68 Tryz.results68;rfl)
 exact⟨rfl,Ew _,fun m hm=>ab _ _ (by omega)⟩
end
end Go.Proofs.YtelnglhodnoclaaGreat
end
section
namespace Go.Proofs.YtelnglhodnoclaaGreat
namespace Ow
open Go Go.Sy
abbrev El:=a7×Int
abbrev elV(x:El):List Value:= [.string x.1.1,.int .i64 x.1.2.1,.int .i64 x.1.2.2,.int .i64 x.2]
abbrev elS(x:El):SV:= .agg ((elV x).map .sc)
abbrev rowP(n:Nat)(d:Array El):VO:=arr false n 4 128 elV d
theorem recP:RecOf elV 4:=⟨fun _=>rfl,fun a v hv=>by
 simp only [elV,EN,List.not_mem_nil,or_false] at hv
 rcases hv with rfl|rfl|rfl|rfl <;> rfl⟩
def ordP(y x:El):Int:=zz x.1 y.1
def ltP(x y:El):Bool:=decide (ordP y x<0)
abbrev cmpF:SV:= .fn (.func 73) [] []
theorem aq{A:Type} [Inhabited A](d:Array A)(i j:Nat):(Sort.swp d i j).size=d.size:=by simp [Sort.swp]
theorem cmp_spec(a b:El):Ctr Tryz.prog 73 [elS a,elS b] [] (fun c=>c=⟨.sc (.int .i64 (ordP b a)),[]⟩):=by
 refine Ctr.at 0 rfl ?_
 refine E2 Tryz.func73 rfl rfl ?_
 repeat first|apply ae;rfl|refine dO rfl rfl rfl (F.ag _ rfl) rfl (aH 3 0 rfl rfl) ?_|refine ey (lj a.1 b.1) [] rfl rfl rfl (by kernel_rfl) rfl (E0 rfl) rfl trivial ?_
 (apply bW Tryz.func73 Tryz.results73;rfl)
 (refine⟨_,rfl,Ends.val (E0 rfl) rfl ?_ ?_⟩)
 ·rfl
 ·trivial
theorem pH(n a b:Nat)(d:Array El)(hn:n<4611686018427387904)(hd:d.size=n)(hab:a≤b)(hb:b≤n) :
 Ctr Tryz.prog 117 [.slu 0 0 n,.sc (.int .i64 (a:Int)),.sc (.int .i64 (b:Int)),cmpF] [rowP n d] (fun c=>c=⟨.tup [],[some (rowP n (Sort.insertionSort ltP d a b))]⟩):=by
 refine E2 Tryz.func117 rfl rfl ?_
 repeat first|apply ae;rfl|apply aB;rfl;omega;omega
 refine cO 1 (fun s:Nat×Array El=> [(0,.slu 0 0 n),(1,.sc (.int .i64 (a:Int))),(2,.sc (.int .i64 (b:Int))),(3,cmpF),(8,.sc (.int .i64 (s.1:Int)))]) (fun s=> [some (rowP n s.2)]) (fun s=>s.1≤n+1∧a<s.1∧s.2.size=n∧Sort.insOuter ltP a b s.1 s.2=Sort.insertionSort ltP d a b) (fun s=>n+1-s.1) (a+1,d) []
  (fun _=>rfl) ⟨by omega,by omega,hd,rfl⟩ ?_ (fun _=>rfl) (fun _=>rfl) ?_
 ·(exact Ga rfl rfl rfl ⟨ai rfl,trivial⟩)
 rintro⟨i,d1⟩ ⟨hi,hai,hd1,ho⟩ ih
 simp only at hi hai hd1 ho ih ⊢
 repeat apply ae;rfl
 refine bm rfl rfl rfl rfl ?_ ?_
 all_goals intro h1
 ·repeat apply ae;rfl
  have ho2:Sort.insOuter ltP a b (i+1) (Sort.insInner ltP a i d1)=Sort.insertionSort ltP d a b:=by
   rw [← ho]
   conv=>rhs;rw [Sort.insOuter,Ez (by omega)]
  refine cO 1 (fun s:Nat×Array El=> [(0,.slu 0 0 n),(1,.sc (.int .i64 (a:Int))),(2,.sc (.int .i64 (b:Int))),(3,cmpF),(8,.sc (.int .i64 (i:Int))),(9,.sc (.int .i64 (s.1:Int)))]) (fun s=> [some (rowP n s.2)]) (fun s=>s.1≤i∧s.2.size=n∧Sort.insInner ltP a s.1 s.2=Sort.insInner ltP a i d1) (fun s=>s.1) (i,d1) []
   (fun _=>rfl) ⟨by omega,hd1,rfl⟩ ?_ (fun _=>rfl) (fun _=>rfl) ?_
  ·(exact Ga rfl rfl rfl ⟨ai rfl,trivial⟩)
  rintro⟨j,d2⟩ ⟨hj,hd2,hin⟩ ihj
  simp only at hj hd2 hin ihj ⊢
  repeat apply ae;rfl
  refine aS (by kernel_rfl) (by kernel_rfl) ?_
  repeat apply aA;rfl
  refine jV rfl rfl rfl rfl ?_ ?_
  all_goals intro h2
  ·obtain⟨j,rfl⟩: ∃ j',j=j'+1:=⟨j-1,by omega⟩
   repeat first|apply aA;rfl|refine bq (ak rfl rfl (.inr (.inl ⟨rfl,(D3 _ ⟨(by omega),(by omega)⟩).symm⟩))) rfl rfl rfl ?_|refine an (q:=j+1) rfl rfl rfl rfl (F.un _ rfl) (F.sz _ rfl) rfl (by omega) (by omega) (by omega) ?_|refine an (q:=j) rfl rfl rfl rfl (F.un _ rfl) (F.sz _ rfl) rfl (by omega) (by omega) (by omega) ?_|refine aX rfl rfl rfl (F.ag _ rfl) (recP) rfl (by(omega)) (by(omega)) ?_|refine bg rfl rfl rfl rfl (by kernel_rfl) rfl (Ctr.callV (cmp_spec d2[j+1]! d2[j]!) [] rfl (E0 rfl) rfl trivial rfl) ?_
   refine bx rfl rfl rfl rfl ?_ ?_
   all_goals intro h3
   ·repeat apply aA;rfl
    refine ay ⟨by kernel_rfl,?_,?_⟩;(focus(repeat(first|exact Gc|apply bZ;rfl|apply bM;rfl|refine⟨.inr (by(repeat(refine⟨(by first|exact az (F.un _ rfl) (F.sz _ rfl) rfl rfl rfl (by omega) (by omega) (by omega)|exact ak rfl rfl (.inr (.inl ⟨rfl,(D3 _ ⟨by omega,by omega⟩).symm⟩))),?_⟩));exact Gc),?_⟩|refine⟨.inl (by kernel_rfl),?_⟩)))
    repeat apply ae;rfl
    refine aS (by kernel_rfl) (by kernel_rfl) ?_
    repeat first|apply aA;rfl|refine bq (ak rfl rfl (.inr (.inl ⟨rfl,(D3 _ ⟨(by omega),(by omega)⟩).symm⟩))) rfl rfl rfl ?_|refine an (q:=j+1) rfl rfl rfl rfl (F.un _ rfl) (F.sz _ rfl) rfl (by omega) (by omega) (by omega) ?_|refine an (q:=j) rfl rfl rfl rfl (F.un _ rfl) (F.sz _ rfl) rfl (by omega) (by omega) (by omega) ?_|refine aX rfl rfl rfl (F.ag _ rfl) (recP) rfl (by(omega)) (by(omega)) ?_|refine db (bS (F.sz _ rfl) rfl rfl rfl (recP) rfl (by first|omega|(simp only [D4,aq];omega)) (by first|omega|(simp only [D4,aq];omega))) rfl rfl ?_
    refine ay ⟨by kernel_rfl,?_,?_⟩;(focus(repeat(first|exact Gc|apply bZ;rfl|apply bM;rfl|refine⟨.inr (by(repeat(refine⟨(by first|exact az (F.un _ rfl) (F.sz _ rfl) rfl rfl rfl (by omega) (by omega) (by omega)|exact ak rfl rfl (.inr (.inl ⟨rfl,(D3 _ ⟨by omega,by omega⟩).symm⟩))),?_⟩));exact Gc),?_⟩|refine⟨.inl (by kernel_rfl),?_⟩)))
    repeat first|apply ae;rfl|apply aB;rfl;omega;omega
    refine ihj _ _ _ (j,Sort.swp d2 (j+1) j) [] ⟨by omega,by rw [aq];exact hd2,?_⟩ (by simp only;omega) ?_
    ·rw [← hin]
     conv=>rhs;rw [Sort.insInner,Ez (by simp only [ltP,Ek,EZ];exact⟨by omega,h3⟩)]
    ·(refine⟨(E0 rfl),rfl,(by repeat(first|exact Gc|refine⟨rfl,?_⟩|refine⟨cK (by(omega)),?_⟩)),⟨ai rfl,trivial⟩⟩)
   ·repeat apply aA;rfl
    refine ay ⟨by kernel_rfl,?_,?_⟩;(focus(repeat(first|exact Gc|apply bZ;rfl|apply bM;rfl|refine⟨.inr (by(repeat(refine⟨(by first|exact az (F.un _ rfl) (F.sz _ rfl) rfl rfl rfl (by omega) (by omega) (by omega)|exact ak rfl rfl (.inr (.inl ⟨rfl,(D3 _ ⟨by omega,by omega⟩).symm⟩))),?_⟩));exact Gc),?_⟩|refine⟨.inl (by kernel_rfl),?_⟩)))
    repeat first|apply ae;rfl|apply aB;rfl;omega;omega
    have hin2:Sort.insInner ltP a i d1=d2:=by
     rw [← hin,Sort.insInner,Ey (by simp only [ltP,Ek,EZ];omega)]
    refine ih _ _ _ (i+1,d2) [] ⟨by omega,by omega,hd2,by rw [← hin2];exact ho2⟩ (by simp only;omega) ?_
    (exact Ga rfl rfl rfl ⟨ai rfl,trivial⟩)
  ·repeat first|apply aA;rfl|refine b8 rfl rfl ?_
   refine ay ⟨by kernel_rfl,?_,?_⟩;(focus(repeat(first|exact Gc|apply ow;rfl|apply bM;rfl|refine⟨.inl rfl,?_⟩)))
   repeat first|apply ae;rfl|apply aB;rfl;omega;omega
   have hin2:Sort.insInner ltP a i d1=d2:=by
    rw [← hin]
    cases j with
    | zero=>rfl
    | succ j=>rw [Sort.insInner,Ey (by simp only [Ek,EZ];omega)]
   refine ih _ _ _ (i+1,d2) [] ⟨by omega,by omega,hd2,by rw [← hin2];exact ho2⟩ (by simp only;omega) ?_
   (exact Ga rfl rfl rfl ⟨ai rfl,trivial⟩)
 ·repeat apply ae;rfl
  have ho2:d1=Sort.insertionSort ltP d a b:=by rw [← ho,Sort.insOuter,Ey (by omega)]
  apply jF Tryz.func117 (congrArg Array.toList Tryz.results117)
  (focus(repeat(exact E3)))
  refine⟨_,rfl,Ends.mk [] (E0 rfl) rfl rfl ?_⟩
  rw [← ho2]
  exact⟨ai rfl,trivial⟩
end Ow
end Go.Proofs.YtelnglhodnoclaaGreat
end
section
namespace Go.Proofs.YtelnglhodnoclaaGreat
namespace Ow
open Go Go.Sy
abbrev DQ:SV:= .sc (.func (.func 73) #[] #[])
abbrev ArP:=Array El
theorem gh: ∀ l:List (El),(l.flatMap elV).length=l.length*4
 | []=>rfl
 | a :: l=>by
   rw [List.flatMap_cons,Er,gh l]
   show 4+l.length*4=(l.length+1)*4
   omega
end Ow
end Go.Proofs.YtelnglhodnoclaaGreat
end
section
namespace Go.Proofs.YtelnglhodnoclaaGreat
open Go Go.Sy Go.Sl Go.RowKit
theorem ks(a b:a7):bj a b=true↔bLt a.1 b.1=true∨(a.1=b.1∧(a.2.1<b.2.1∨a.2.1=b.2.1∧a.2.2<b.2.2)):=by
 by_cases h:a.1=b.1
 ·rw [zM (by simp only [bne,(MapKept.bytes_beq a.1 b.1).2 h];rfl),EZ]
  constructor
  ·intro h2;exact .inr ⟨h,h2⟩
  ·rintro(h2|⟨_,h2⟩)
   ·rw [h,fN] at h2;cases h2
   ·exact h2
 ·rw [zL (by cases hh:(a.1 == b.1)with|true=>exact absurd ((MapKept.bytes_beq a.1 b.1).1 hh) h|false=>simp only [bne,hh];rfl)]
  exact⟨.inl,fun h2=>h2.resolve_right fun h3=>h h3.1⟩
theorem dC(a:a7):bj a a=false:=by
 cases h:bj a a with
 | false=>rfl
 | true=>
   rcases(ks a a).1 h with h|⟨_,h⟩
   ·rw [fN] at h;cases h
   ·omega
theorem eV{a b c:a7}(h1:bj a b=true)(h2:bj b c=true):bj a c=true:=by
 rw [ks] at h1 h2 ⊢
 rcases h1 with h1|⟨e1,h1⟩
 ·rcases h2 with h2|⟨e2,h2⟩
  ·exact .inl (rO h1 h2)
  ·exact .inl (e2 ▸ h1)
 ·rcases h2 with h2|⟨e2,h2⟩
  ·exact .inl (e1 ▸ h2)
  ·exact .inr ⟨e1.trans e2,by omega⟩
theorem fm{a b:a7}(h1:bj a b=false)(h2:bj b a=false):a=b:=by
 have n1: ¬ (bj a b=true):=by rw [h1];decide
 have n2: ¬ (bj b a=true):=by rw [h2];decide
 rw [ks] at n1 n2
 have e1:a.1=b.1:=by
  cases h:bLt a.1 b.1 with
  | true=>exact absurd (.inl h) n1
  | false=>
    cases h':bLt b.1 a.1 with
    | true=>exact absurd (.inl h') n2
    | false=>exact uy h h'
 have m1: ¬ (a.2.1<b.2.1∨a.2.1=b.2.1∧a.2.2<b.2.2):=fun h=>n1 (.inr ⟨e1,h⟩)
 have m2: ¬ (b.2.1<a.2.1∨b.2.1=a.2.1∧b.2.2<a.2.2):=fun h=>n2 (.inr ⟨e1.symm,h⟩)
 refine Prod.ext e1 (Prod.ext ?_ ?_) <;> omega
theorem yk{a b:ByteArray}(h:yE a b=0):a=b:=by
 unfold yE at h
 cases h1:bLt a b with
 | true=>rw [h1] at h;simp at h
 | false=>
   rw [h1] at h
   cases h2:bLt b a with
   | true=>rw [h2] at h;simp at h
   | false=>exact uy h1 h2
theorem rF{a b:Int}(h:Ac a b=0):a=b:=by
 unfold Ac at h
 split at h
 ·omega
 ·split at h <;> omega
theorem wW{a b:a7}:zz a b=0↔a=b:=by
 constructor
 ·intro h
  unfold zz or3 at h
  split at h
  ·rename_i h1
   split at h
   ·rename_i h2
    exact Prod.ext (yk h1) (Prod.ext (rF h2) (rF h))
   ·rename_i h2;exact absurd h h2
  ·rename_i h1;exact absurd h h1
 ·rintro rfl
  unfold zz or3 yE Ac
  simp [fN]
theorem swoE{A:Type}(f:A→a7):Sort.SWO (fun x y:A=>bj (f x) (f y)):=by
 refine⟨fun a=>dC _,fun a b c h1 h2=>eV h1 h2,fun a b c h1 h2=>?_⟩
 cases h:bj (f a) (f c)with
 | false=>rfl
 | true=>
   exfalso
   cases h3:bj (f b) (f a)with
   | true=>have:=eV h3 h;rw [h2] at this;cases this
   | false=>rw [fm h1 h3,h2] at h;cases h
theorem nZ{A:Type} [Inhabited A]{lt:A→A→Bool}(h:Sort.SWO lt)(l:List A):(Sort.sort lt l.toArray).toList.Perm l∧(Sort.sort lt l.toArray).toList.Pairwise (fun x y=>lt y x=false):=by
 obtain⟨⟨h1,h2,h3⟩,h4⟩:=Sort.sort_sorts lt h l.toArray
 have hsz:(Sort.sort lt l.toArray).size=l.length:=by simpa using h1
 constructor
 ·have e1:((Sort.sort lt l.toArray).extract 0 l.toArray.size)=Sort.sort lt l.toArray:=by
   rw [show l.toArray.size=(Sort.sort lt l.toArray).size by simpa using h1.symm]
   exact Array.extract_size
  have e2:(l.toArray.extract 0 l.toArray.size)=l.toArray:=Array.extract_size
  rw [e1,e2] at h3
  exact h3
 ·rw [List.pairwise_iff_getElem]
  intro i j hi hj hij
  have hi':i<(Sort.sort lt l.toArray).size:=hi
  have hj':j<(Sort.sort lt l.toArray).size:=hj
  have:=h4 i j (En _) hij (by simp;omega)
  rw [getElem!_pos _ i hi',getElem!_pos _ j hj'] at this
  simp only [Array.getElem_toList]
  exact this
theorem CE:Sort.SWO Bn.ltP:=swoE (fun x:Bn.El=>x.2)
theorem CD:Sort.SWO Ow.ltP:=swoE (fun x:Ow.El=>x.1)
theorem kX(l:List Bn.El):(lW l).Perm l∧(lW l).Pairwise (fun x y=>bj y.2 x.2=false):=nZ CE l
theorem mb(l:List Bn.El):(lW l).length=l.length:=(kX l).1.length_eq
theorem zb(l:List Bn.El):Bn.rowP l.length (Sort.sort Bn.ltP l.toArray)=nS (lW l):=by
 show dat false l.length 4 _ _=dat false (lW l).length 4 _ _
 rw [mb]
 rfl
end Go.Proofs.YtelnglhodnoclaaGreat
end
section
namespace Go.Sy
open Go Go.Sl Go.RowKit
section
variable {P:Program} {ro:Option Nat} {fn nt nx:Nat} {T:Tr SV} {k:List AIt} {dfs:List ADf} {H:aw} {Q:Pst}
theorem fP{id n:Nat}{st:LoopState}{pend:Option Code}{f2 nt2:Nat}{T2:Tr SV}{ps:Array Tmp}{as1 bd:Code}{dr:Nat}(hx:nj id k=none)(hl:H.at' n=some (.loop st pend f2 nt2 T2 ps as1 bd dr))
 (h:Q (.sc (.bool false),H.set n (.loop .done (some (.exit id)) f2 nt2 T2 ps as1 bd dr),nx)):Wp P (some n) ⟨fn,nt,T,.code (.exit id) :: k,dfs,H,nx⟩ Q:=by
 refine .step ?_
 simp only [oY,sX,hx,lM,tY,hl]
 exact h
end
end Go.Sy
end
section
namespace Go.Proofs.YtelnglhodnoclaaGreat
namespace Bn
open Go Go.Sy
section
variable {first hi root:Nat}{d:Array El}{lt:El→El→Bool}
theorem ez(lt:El→El→Bool)(hi first root:Nat)(d:Array El):(Sort.siftDown lt hi first root d).size=d.size:=by
 induction h:hi-root using Nat.strongRecOn generalizing root d with
 | _ m ih=>
   subst h
   unfold Sort.siftDown
   split
   ·rfl
   ·split
    ·split
     ·rfl
     ·split
      ·rw [ih _ (by omega) _ _ rfl,aq]
      ·rfl
    ·split
     ·rfl
     ·rw [ih _ (by omega) _ _ rfl,aq]
theorem mE(h:hi≤2*root+1):Sort.siftDown lt hi first root d=d:=by
 unfold Sort.siftDown
 rw [dif_pos h]
theorem ww(h:2*root+2<hi)(hl:lt d[first+(2*root+1)]! d[first+(2*root+2)]! =true) :
 Sort.siftDown lt hi first root d=if lt d[first+root]! d[first+(2*root+2)]! =true then Sort.siftDown lt hi first (2*root+2) (Sort.swp d (first+root) (first+(2*root+2))) else d:=by
 conv=>lhs;unfold Sort.siftDown
 rw [dif_neg (by omega),Ez (by simp only [Ek,EZ];exact⟨by omega,hl⟩)]
 cases lt d[first+root]! d[first+(2*root+2)]!
 ·simp
 ·simp only [Bool.not_true,Bool.false_eq_true,if_false,if_true]
  rw [dif_pos (by omega)]
theorem qr(h:2*root+1<hi)(hl:hi≤2*root+2∨lt d[first+(2*root+1)]! d[first+(2*root+2)]! =false) :
 Sort.siftDown lt hi first root d=if lt d[first+root]! d[first+(2*root+1)]! =true then Sort.siftDown lt hi first (2*root+1) (Sort.swp d (first+root) (first+(2*root+1))) else d:=by
 conv=>lhs;unfold Sort.siftDown
 rw [dif_neg (by omega),Ey (by
  simp only [Ek,EZ]
  rintro⟨h1,h2⟩
  rcases hl with hl|hl
  ·omega
  ·rw [show first+(2*root+2)=first+(2*root+1)+1 by omega,h2] at hl;cases hl)]
 cases lt d[first+root]! d[first+(2*root+1)]! <;> simp
theorem iw(n lo hi first:Nat)(d:Array El)(hn:n<4611686018427387904)(hd:d.size=n)(hf:first+hi≤n)(hlo:lo≤n) :
 Ctr Tryz.prog 126 [.slu 0 0 n,.sc (.int .i64 (lo:Int)),.sc (.int .i64 (hi:Int)),.sc (.int .i64 (first:Int)),cmpF] [rowP n d] (fun c=>c=⟨.tup [],[some (rowP n (Sort.siftDown ltP hi first lo d))]⟩):=by
 refine E2 Tryz.func126 rfl rfl ?_
 repeat apply ae;rfl
 refine cO 1 (fun s:Nat×Array El=> [(0,.slu 0 0 n),(2,.sc (.int .i64 (hi:Int))),(3,.sc (.int .i64 (first:Int))),(4,cmpF),(10,.sc (.int .i64 (s.1:Int)))]) (fun s=> [some (rowP n s.2)]) (fun s=>s.1≤n∧s.2.size=n∧Sort.siftDown ltP hi first s.1 s.2=Sort.siftDown ltP hi first lo d) (fun s=>n-s.1) (lo,d) []
  (fun _=>rfl) ⟨hlo,hd,rfl⟩ ?_ (fun _=>rfl) (fun _=>rfl) ?_
 ·(exact Ga rfl rfl rfl ⟨ai rfl,trivial⟩)
 rintro⟨r,d1⟩ ⟨hr,hd1,ho⟩ ih
 simp only at hr hd1 ho ih ⊢
 repeat first|apply ae;rfl|apply aB;rfl;omega;omega
 refine cD rfl rfl rfl rfl ?_ ?_
 all_goals intro h1
 ·repeat apply ae;rfl
  ((apply jF Tryz.func126 (congrArg Array.toList Tryz.results126));(focus(repeat(exact E3)));refine⟨_,rfl,Ends.mk [] (E0 rfl) rfl rfl ?_⟩)
  rw [← ho,mE (by omega)]
  exact⟨ai rfl,trivial⟩
 ·repeat apply ae;rfl
  refine aS (by kernel_rfl) (by kernel_rfl) ?_
  repeat first|apply aA;rfl|refine bq (ak rfl rfl (.inl ⟨rfl,(D3 _ ⟨(by omega),(by omega)⟩).symm⟩)) rfl rfl rfl ?_
  refine bx rfl rfl rfl rfl ?_ ?_
  all_goals intro h2
  ·repeat first|apply aA;rfl|refine bq (ak rfl rfl (.inl ⟨rfl,(D3 _ ⟨(by omega),(by omega)⟩).symm⟩)) rfl rfl rfl ?_|refine aX rfl rfl rfl (F.ag _ rfl) (recP) rfl (by(omega)) (by(omega)) ?_|refine an (q:=first+(2*r+1)) rfl rfl rfl rfl (F.un _ rfl) (F.sz _ rfl) rfl (by omega) (by omega) (by omega) ?_|refine an (q:=first+(2*r+2)) rfl rfl rfl rfl (F.un _ rfl) (F.sz _ rfl) rfl (by omega) (by omega) (by omega) ?_|refine bg rfl rfl rfl rfl (by kernel_rfl) rfl (Ctr.callV (cmp_spec d1[first+(2*r+1)]! d1[first+(2*r+2)]!) [] rfl (E0 rfl) rfl trivial rfl) ?_
   refine bx rfl rfl rfl rfl ?_ ?_
   all_goals intro h3
   ·have e:=ww (lt:=ltP) (hi:=hi) (first:=first) (root:=r) (d:=d1) (by omega) (by simpa [ltP] using h3)
    repeat apply aA;rfl
    refine ay ⟨by kernel_rfl,?_,?_⟩;(focus(repeat(first|exact Gc|apply bZ;rfl|apply bM;rfl|refine⟨.inr (by(repeat(refine⟨(by first|exact az (F.un _ rfl) (F.sz _ rfl) rfl rfl rfl (by omega) (by omega) (by omega)|exact ak rfl rfl (.inl ⟨rfl,(D3 _ ⟨by omega,by omega⟩).symm⟩)),?_⟩));exact Gc),?_⟩|refine⟨.inl (by kernel_rfl),?_⟩)))
    repeat first|apply ae;rfl|apply aB;rfl;omega;omega
    refine aS (by kernel_rfl) (by kernel_rfl) ?_
    repeat first|apply aA;rfl|refine bq (ak rfl rfl (.inl ⟨rfl,(D3 _ ⟨(by omega),(by omega)⟩).symm⟩)) rfl rfl rfl ?_|refine aX rfl rfl rfl (F.ag _ rfl) (recP) rfl (by(omega)) (by(omega)) ?_|refine an (q:=first+r) rfl rfl rfl rfl (F.un _ rfl) (F.sz _ rfl) rfl (by omega) (by omega) (by omega) ?_|refine an (q:=first+(2*r+2)) rfl rfl rfl rfl (F.un _ rfl) (F.sz _ rfl) rfl (by omega) (by omega) (by omega) ?_|refine bg rfl rfl rfl rfl (by kernel_rfl) rfl (Ctr.callV (cmp_spec d1[first+r]! d1[first+(2*r+2)]!) [] rfl (E0 rfl) rfl trivial rfl) ?_
    refine bx rfl rfl rfl rfl ?_ ?_
    all_goals intro h4
    ·rw [Ez (by simpa [ltP] using h4)] at e
     repeat apply aA;rfl
     refine ay ⟨by kernel_rfl,?_,?_⟩;(focus(repeat(first|exact Gc|apply bZ;rfl|apply bM;rfl|refine⟨.inr (by(repeat(refine⟨(by first|exact az (F.un _ rfl) (F.sz _ rfl) rfl rfl rfl (by omega) (by omega) (by omega)|exact ak rfl rfl (.inl ⟨rfl,(D3 _ ⟨by omega,by omega⟩).symm⟩)),?_⟩));exact Gc),?_⟩|refine⟨.inl (by kernel_rfl),?_⟩)))
     repeat apply ae;rfl
     refine aS (by kernel_rfl) (by kernel_rfl) ?_
     repeat first|apply aA;rfl|refine bq (ak rfl rfl (.inl ⟨rfl,(D3 _ ⟨(by omega),(by omega)⟩).symm⟩)) rfl rfl rfl ?_|refine aX rfl rfl rfl (F.ag _ rfl) (recP) rfl (by(omega)) (by(omega)) ?_|refine db (bS (F.sz _ rfl) rfl rfl rfl (recP) rfl (by first|omega|(simp only [D4,aq];omega)) (by first|omega|(simp only [D4,aq];omega))) rfl rfl ?_|refine an (q:=first+r) rfl rfl rfl rfl (F.un _ rfl) (F.sz _ rfl) rfl (by omega) (by omega) (by omega) ?_|refine an (q:=first+(2*r+2)) rfl rfl rfl rfl (F.un _ rfl) (F.sz _ rfl) rfl (by omega) (by omega) (by omega) ?_
     refine ay ⟨by kernel_rfl,?_,?_⟩;(focus(repeat(first|exact Gc|apply bZ;rfl|apply bM;rfl|refine⟨.inr (by(repeat(refine⟨(by first|exact az (F.un _ rfl) (F.sz _ rfl) rfl rfl rfl (by omega) (by omega) (by omega)|exact ak rfl rfl (.inl ⟨rfl,(D3 _ ⟨by omega,by omega⟩).symm⟩)),?_⟩));exact Gc),?_⟩|refine⟨.inl (by kernel_rfl),?_⟩)))
     repeat apply ae;rfl
     refine ih _ _ _ (2*r+2,Sort.swp d1 (first+r) (first+(2*r+2))) [] ⟨by simp only;omega,by rw [aq];exact hd1,by rw [← ho,e]⟩ (by simp only;omega) ?_
     (exact Ga rfl rfl rfl ⟨ai rfl,trivial⟩)
    ·rw [Ey (by simpa [ltP] using h4)] at e
     repeat apply aA;rfl
     refine ay ⟨by kernel_rfl,?_,?_⟩;(focus(repeat(first|exact Gc|apply bZ;rfl|apply bM;rfl|refine⟨.inr (by(repeat(refine⟨(by first|exact az (F.un _ rfl) (F.sz _ rfl) rfl rfl rfl (by omega) (by omega) (by omega)|exact ak rfl rfl (.inl ⟨rfl,(D3 _ ⟨by omega,by omega⟩).symm⟩)),?_⟩));exact Gc),?_⟩|refine⟨.inl (by kernel_rfl),?_⟩)))
     repeat apply ae;rfl
     ((apply bv Tryz.func126 (congrArg Array.toList Tryz.results126));(focus(repeat(exact E3)));refine⟨_,rfl,Ends.mk [] (E0 rfl) rfl rfl ?_⟩)
     rw [← ho,e]
     exact⟨ai rfl,trivial⟩
   ·have e:=qr (lt:=ltP) (hi:=hi) (first:=first) (root:=r) (d:=d1) (by omega) (.inr (by simpa [ltP] using h3))
    repeat apply aA;rfl
    refine ay ⟨by kernel_rfl,?_,?_⟩;(focus(repeat(first|exact Gc|apply bZ;rfl|apply bM;rfl|refine⟨.inr (by(repeat(refine⟨(by first|exact az (F.un _ rfl) (F.sz _ rfl) rfl rfl rfl (by omega) (by omega) (by omega)|exact ak rfl rfl (.inl ⟨rfl,(D3 _ ⟨by omega,by omega⟩).symm⟩)),?_⟩));exact Gc),?_⟩|refine⟨.inl (by kernel_rfl),?_⟩)))
    repeat apply ae;rfl
    refine aS (by kernel_rfl) (by kernel_rfl) ?_
    repeat first|apply aA;rfl|refine bq (ak rfl rfl (.inl ⟨rfl,(D3 _ ⟨(by omega),(by omega)⟩).symm⟩)) rfl rfl rfl ?_|refine aX rfl rfl rfl (F.ag _ rfl) (recP) rfl (by(omega)) (by(omega)) ?_|refine an (q:=first+r) rfl rfl rfl rfl (F.un _ rfl) (F.sz _ rfl) rfl (by omega) (by omega) (by omega) ?_|refine an (q:=first+(2*r+1)) rfl rfl rfl rfl (F.un _ rfl) (F.sz _ rfl) rfl (by omega) (by omega) (by omega) ?_|refine bg rfl rfl rfl rfl (by kernel_rfl) rfl (Ctr.callV (cmp_spec d1[first+r]! d1[first+(2*r+1)]!) [] rfl (E0 rfl) rfl trivial rfl) ?_
    refine bx rfl rfl rfl rfl ?_ ?_
    all_goals intro h4
    ·rw [Ez (by simpa [ltP] using h4)] at e
     repeat apply aA;rfl
     refine ay ⟨by kernel_rfl,?_,?_⟩;(focus(repeat(first|exact Gc|apply bZ;rfl|apply bM;rfl|refine⟨.inr (by(repeat(refine⟨(by first|exact az (F.un _ rfl) (F.sz _ rfl) rfl rfl rfl (by omega) (by omega) (by omega)|exact ak rfl rfl (.inl ⟨rfl,(D3 _ ⟨by omega,by omega⟩).symm⟩)),?_⟩));exact Gc),?_⟩|refine⟨.inl (by kernel_rfl),?_⟩)))
     repeat apply ae;rfl
     refine aS (by kernel_rfl) (by kernel_rfl) ?_
     repeat first|apply aA;rfl|refine bq (ak rfl rfl (.inl ⟨rfl,(D3 _ ⟨(by omega),(by omega)⟩).symm⟩)) rfl rfl rfl ?_|refine aX rfl rfl rfl (F.ag _ rfl) (recP) rfl (by(omega)) (by(omega)) ?_|refine db (bS (F.sz _ rfl) rfl rfl rfl (recP) rfl (by first|omega|(simp only [D4,aq];omega)) (by first|omega|(simp only [D4,aq];omega))) rfl rfl ?_|refine an (q:=first+r) rfl rfl rfl rfl (F.un _ rfl) (F.sz _ rfl) rfl (by omega) (by omega) (by omega) ?_|refine an (q:=first+(2*r+1)) rfl rfl rfl rfl (F.un _ rfl) (F.sz _ rfl) rfl (by omega) (by omega) (by omega) ?_
     refine ay ⟨by kernel_rfl,?_,?_⟩;(focus(repeat(first|exact Gc|apply bZ;rfl|apply bM;rfl|refine⟨.inr (by(repeat(refine⟨(by first|exact az (F.un _ rfl) (F.sz _ rfl) rfl rfl rfl (by omega) (by omega) (by omega)|exact ak rfl rfl (.inl ⟨rfl,(D3 _ ⟨by omega,by omega⟩).symm⟩)),?_⟩));exact Gc),?_⟩|refine⟨.inl (by kernel_rfl),?_⟩)))
     repeat apply ae;rfl
     refine ih _ _ _ (2*r+1,Sort.swp d1 (first+r) (first+(2*r+1))) [] ⟨by simp only;omega,by rw [aq];exact hd1,by rw [← ho,e]⟩ (by simp only;omega) ?_
     (exact Ga rfl rfl rfl ⟨ai rfl,trivial⟩)
    ·rw [Ey (by simpa [ltP] using h4)] at e
     repeat apply aA;rfl
     refine ay ⟨by kernel_rfl,?_,?_⟩;(focus(repeat(first|exact Gc|apply bZ;rfl|apply bM;rfl|refine⟨.inr (by(repeat(refine⟨(by first|exact az (F.un _ rfl) (F.sz _ rfl) rfl rfl rfl (by omega) (by omega) (by omega)|exact ak rfl rfl (.inl ⟨rfl,(D3 _ ⟨by omega,by omega⟩).symm⟩)),?_⟩));exact Gc),?_⟩|refine⟨.inl (by kernel_rfl),?_⟩)))
     repeat apply ae;rfl
     ((apply bv Tryz.func126 (congrArg Array.toList Tryz.results126));(focus(repeat(exact E3)));refine⟨_,rfl,Ends.mk [] (E0 rfl) rfl rfl ?_⟩)
     rw [← ho,e]
     exact⟨ai rfl,trivial⟩
  ·have e:=qr (lt:=ltP) (hi:=hi) (first:=first) (root:=r) (d:=d1) (by omega) (.inl (by omega))
   repeat first|apply aA;rfl|refine b8 rfl rfl ?_
   refine ay ⟨by kernel_rfl,?_,?_⟩;(focus(repeat(first|exact Gc|apply ow;rfl|apply bM;rfl|refine⟨.inl rfl,?_⟩)))
   repeat apply ae;rfl
   refine aS (by kernel_rfl) (by kernel_rfl) ?_
   repeat first|apply aA;rfl|refine bq (ak rfl rfl (.inl ⟨rfl,(D3 _ ⟨(by omega),(by omega)⟩).symm⟩)) rfl rfl rfl ?_|refine aX rfl rfl rfl (F.ag _ rfl) (recP) rfl (by(omega)) (by(omega)) ?_|refine an (q:=first+r) rfl rfl rfl rfl (F.un _ rfl) (F.sz _ rfl) rfl (by omega) (by omega) (by omega) ?_|refine an (q:=first+(2*r+1)) rfl rfl rfl rfl (F.un _ rfl) (F.sz _ rfl) rfl (by omega) (by omega) (by omega) ?_|refine bg rfl rfl rfl rfl (by kernel_rfl) rfl (Ctr.callV (cmp_spec d1[first+r]! d1[first+(2*r+1)]!) [] rfl (E0 rfl) rfl trivial rfl) ?_
   refine bx rfl rfl rfl rfl ?_ ?_
   all_goals intro h4
   ·rw [Ez (by simpa [ltP] using h4)] at e
    repeat apply aA;rfl
    refine ay ⟨by kernel_rfl,?_,?_⟩;(focus(repeat(first|exact Gc|apply bZ;rfl|apply bM;rfl|refine⟨.inr (by(repeat(refine⟨(by first|exact az (F.un _ rfl) (F.sz _ rfl) rfl rfl rfl (by omega) (by omega) (by omega)|exact ak rfl rfl (.inl ⟨rfl,(D3 _ ⟨by omega,by omega⟩).symm⟩)),?_⟩));exact Gc),?_⟩|refine⟨.inl (by kernel_rfl),?_⟩)))
    repeat apply ae;rfl
    refine aS (by kernel_rfl) (by kernel_rfl) ?_
    repeat first|apply aA;rfl|refine bq (ak rfl rfl (.inl ⟨rfl,(D3 _ ⟨(by omega),(by omega)⟩).symm⟩)) rfl rfl rfl ?_|refine aX rfl rfl rfl (F.ag _ rfl) (recP) rfl (by(omega)) (by(omega)) ?_|refine db (bS (F.sz _ rfl) rfl rfl rfl (recP) rfl (by first|omega|(simp only [D4,aq];omega)) (by first|omega|(simp only [D4,aq];omega))) rfl rfl ?_|refine an (q:=first+r) rfl rfl rfl rfl (F.un _ rfl) (F.sz _ rfl) rfl (by omega) (by omega) (by omega) ?_|refine an (q:=first+(2*r+1)) rfl rfl rfl rfl (F.un _ rfl) (F.sz _ rfl) rfl (by omega) (by omega) (by omega) ?_
    refine ay ⟨by kernel_rfl,?_,?_⟩;(focus(repeat(first|exact Gc|apply bZ;rfl|apply bM;rfl|refine⟨.inr (by(repeat(refine⟨(by first|exact az (F.un _ rfl) (F.sz _ rfl) rfl rfl rfl (by omega) (by omega) (by omega)|exact ak rfl rfl (.inl ⟨rfl,(D3 _ ⟨by omega,by omega⟩).symm⟩)),?_⟩));exact Gc),?_⟩|refine⟨.inl (by kernel_rfl),?_⟩)))
    repeat apply ae;rfl
    refine ih _ _ _ (2*r+1,Sort.swp d1 (first+r) (first+(2*r+1))) [] ⟨by simp only;omega,by rw [aq];exact hd1,by rw [← ho,e]⟩ (by simp only;omega) ?_
    (exact Ga rfl rfl rfl ⟨ai rfl,trivial⟩)
   ·rw [Ey (by simpa [ltP] using h4)] at e
    repeat apply aA;rfl
    refine ay ⟨by kernel_rfl,?_,?_⟩;(focus(repeat(first|exact Gc|apply bZ;rfl|apply bM;rfl|refine⟨.inr (by(repeat(refine⟨(by first|exact az (F.un _ rfl) (F.sz _ rfl) rfl rfl rfl (by omega) (by omega) (by omega)|exact ak rfl rfl (.inl ⟨rfl,(D3 _ ⟨by omega,by omega⟩).symm⟩)),?_⟩));exact Gc),?_⟩|refine⟨.inl (by kernel_rfl),?_⟩)))
    repeat apply ae;rfl
    ((apply bv Tryz.func126 (congrArg Array.toList Tryz.results126));(focus(repeat(exact E3)));refine⟨_,rfl,Ends.mk [] (E0 rfl) rfl rfl ?_⟩)
    rw [← ho,e]
    exact⟨ai rfl,trivial⟩
end
end Bn
end Go.Proofs.YtelnglhodnoclaaGreat
end
section
namespace Go.Proofs.YtelnglhodnoclaaGreat
namespace Bn
open Go Go.Sy
theorem nd(n a b:Nat)(d:Array El)(hn:n<4611686018427387904)(hd:d.size=n)(hab:a≤b)(hb:b≤n) :
 Ctr Tryz.prog 108 [.slu 0 0 n,.sc (.int .i64 (a:Int)),.sc (.int .i64 (b:Int)),cmpF] [rowP n d] (fun c=>c=⟨.tup [],[some (rowP n (Sort.heapSort ltP d a b))]⟩):=by
 refine E2 Tryz.func108 rfl rfl ?_
 repeat first|apply ae;rfl|apply aB;rfl;omega;omega
 refine bN (ii rfl rfl (by decide) (show _=(((b-a-1) / 2:Nat):Int)from tJ (m:=b-a) (by omega) (by omega))) rfl rfl rfl ?_
 repeat apply ae;rfl
 refine cO 1 (fun s:Nat×Array El=> [(0,.slu 0 0 n),(3,cmpF),(8,.sc (.int .i64 (a:Int))),(9,.sc (.int .i64 0)),(10,.sc (.int .i64 ((b-a:Nat):Int))),(11,.sc (.int .i64 ((s.1:Int)-1)))]) (fun s=> [some (rowP n s.2)]) (fun s=>s.1≤(b-a-1) / 2+1∧s.2.size=n∧Sort.heapBuild ltP (b-a) a s.1 s.2=Sort.heapBuild ltP (b-a) a ((b-a-1) / 2+1) d) (fun s=>s.1) ((b-a-1) / 2+1,d) []
  (fun _=>rfl) ⟨Em _,hd,rfl⟩ ?_ (fun _=>rfl) (fun _=>rfl) ?_
 ·(refine⟨(E0 rfl),rfl,(by repeat(first|exact Gc|refine⟨rfl,?_⟩|refine⟨cK (by(omega)),?_⟩)),⟨ai rfl,trivial⟩⟩)
 rintro⟨k,d1⟩ ⟨hk,hd1,ho⟩ ih
 simp only at hk hd1 ho ih ⊢
 repeat apply ae;rfl
 refine cD rfl rfl rfl rfl ?_ ?_
 all_goals intro h1
 ·obtain⟨k,rfl⟩: ∃ k',k=k'+1:=⟨k-1,by omega⟩
  have ek:((k+1:Nat):Int)-1=(k:Int):=by omega
  rw [ek]
  repeat first|apply ae;rfl|apply aB;rfl;omega;omega|refine aP rfl rfl rfl (by kernel_rfl) (Ctr.bF (iw n k (b-a) a d1 hn hd1 (by omega) (by omega)) [0] rfl (E0 rfl) rfl ⟨ai rfl,trivial⟩ rfl (by repeat(first|exact Gc|refine⟨aF,?_⟩)) (fun _=>rfl) rfl rfl) ?_
  refine ih _ _ _ (k,Sort.siftDown ltP (b-a) a k d1) [] ⟨by simp only;omega,by rw [ez];exact hd1,by rw [← ho];rfl⟩ (by simp only;omega) ?_
  (exact Ga rfl rfl rfl ⟨ai rfl,trivial⟩)
 ·obtain rfl:k=0:=by omega
  have ho1:d1=Sort.heapBuild ltP (b-a) a ((b-a-1) / 2+1) d:=ho
  repeat first|apply ae;rfl|apply aB;rfl;omega;omega
  refine cO 1 (fun s:Nat×Array El=> [(0,.slu 0 0 n),(3,cmpF),(8,.sc (.int .i64 (a:Int))),(9,.sc (.int .i64 0)),(12,.sc (.int .i64 ((s.1:Int)-1)))]) (fun s=> [some (rowP n s.2)]) (fun s=>s.1≤b-a∧s.2.size=n∧Sort.heapPop ltP a s.1 s.2=Sort.heapSort ltP d a b) (fun s=>s.1) (b-a,d1) []
   (fun _=>rfl) ⟨Em _,hd1,by rw [ho1];rfl⟩ ?_ (fun _=>rfl) (fun _=>rfl) ?_
  ·(exact Ga rfl rfl rfl ⟨ai rfl,trivial⟩)
  rintro⟨m,d2⟩ ⟨hm,hd2,hp⟩ ihm
  simp only at hm hd2 hp ihm ⊢
  repeat apply ae;rfl
  refine cD rfl rfl rfl rfl ?_ ?_
  all_goals intro h2
  ·obtain⟨m,rfl⟩: ∃ m',m=m'+1:=⟨m-1,by omega⟩
   have em:((m+1:Nat):Int)-1=(m:Int):=by omega
   rw [em]
   repeat apply ae;rfl
   refine aS (by kernel_rfl) (by kernel_rfl) ?_
   repeat first|apply aA;rfl|refine bq (ak rfl rfl (.inl ⟨rfl,(D3 _ ⟨(by omega),(by omega)⟩).symm⟩)) rfl rfl rfl ?_|refine aX rfl rfl rfl (F.ag _ rfl) (recP) rfl (by(omega)) (by(omega)) ?_|refine db (bS (F.sz _ rfl) rfl rfl rfl (recP) rfl (by first|omega|(simp only [D4,aq];omega)) (by first|omega|(simp only [D4,aq];omega))) rfl rfl ?_|refine an (q:=a) rfl rfl rfl rfl (F.un _ rfl) (F.sz _ rfl) rfl (by omega) (by omega) (by omega) ?_|refine an (q:=a+m) rfl rfl rfl rfl (F.un _ rfl) (F.sz _ rfl) rfl (by omega) (by omega) (by omega) ?_
   refine ay ⟨by kernel_rfl,?_,?_⟩;(focus(repeat(first|exact Gc|apply bZ;rfl|apply bM;rfl|refine⟨.inr (by(repeat(refine⟨(by first|exact az (F.un _ rfl) (F.sz _ rfl) rfl rfl rfl (by omega) (by omega) (by omega)|exact ak rfl rfl (.inl ⟨rfl,(D3 _ ⟨by omega,by omega⟩).symm⟩)),?_⟩));exact Gc),?_⟩|refine⟨.inl (by kernel_rfl),?_⟩)))
   repeat first|apply ae;rfl|apply aB;rfl;omega;omega|refine aP rfl rfl rfl (by kernel_rfl) (Ctr.bF (iw n 0 m a (Sort.swp d2 a (a+m)) hn (by rw [aq];exact hd2) (by omega) (by omega)) [0] rfl (E0 rfl) rfl ⟨ai rfl,trivial⟩ rfl (by repeat(first|exact Gc|refine⟨aF,?_⟩)) (fun _=>rfl) rfl rfl) ?_
   refine ihm _ _ _ (m,Sort.siftDown ltP m a 0 (Sort.swp d2 a (a+m))) [] ⟨by simp only;omega,by rw [ez,aq];exact hd2,by rw [← hp];rfl⟩ (by simp only;omega) ?_
   (exact Ga rfl rfl rfl ⟨ai rfl,trivial⟩)
  ·obtain rfl:m=0:=by omega
   repeat apply ae;rfl
   ((apply jF Tryz.func108 (congrArg Array.toList Tryz.results108));(focus(repeat(exact E3)));refine⟨_,rfl,Ends.mk [] (E0 rfl) rfl rfl ?_⟩)
   rw [← hp]
   exact⟨ai rfl,trivial⟩
end Bn
end Go.Proofs.YtelnglhodnoclaaGreat
end
section
namespace Go.Proofs.YtelnglhodnoclaaGreat
namespace Bn
open Go Go.Sy
theorem oZ(n a b:Nat)(d:Array El)(hn:n<4611686018427387904)(hd:d.size=n)(hab:a<b)(hb:b≤n) :
 Ctr Tryz.prog 111 [.slu 0 0 n,.sc (.int .i64 (a:Int)),.sc (.int .i64 (b:Int)),cmpF] [rowP n d] (fun c=>c=⟨.tup [],[some (rowP n (Sort.reverseRange d a b))]⟩):=by
 refine E2 Tryz.func111 rfl rfl ?_
 repeat first|apply ae;rfl|apply aB;rfl;omega;omega
 refine cO 1 (fun s:(Nat×Nat)×Array El=> [(0,.slu 0 0 n),(8,.sc (.int .i64 (s.1.1:Int))),(9,.sc (.int .i64 (s.1.2:Int)))]) (fun s=> [some (rowP n s.2)]) (fun s=>s.1.1≤n∧s.1.2<n∧s.1.1≤s.1.2+1∧s.2.size=n∧Sort.reverseLoop s.1.1 s.1.2 s.2=Sort.reverseRange d a b) (fun s=>s.1.2+1-s.1.1) ((a,b-1),d) []
  (fun _=>rfl) ⟨by simp only;omega,by simp only;omega,by simp only;omega,hd,rfl⟩ ?_ (fun _=>rfl) (fun _=>rfl) ?_
 ·(refine⟨(E0 rfl),rfl,(by repeat(first|exact Gc|refine⟨rfl,?_⟩|refine⟨cK (by(simp only;omega)),?_⟩)),⟨ai rfl,trivial⟩⟩)
 rintro⟨⟨i,j⟩,d1⟩ ⟨hi,hj,hij,hd1,ho⟩ ih
 simp only at hi hj hij hd1 ho ih ⊢
 repeat apply ae;rfl
 refine bm rfl rfl rfl rfl ?_ ?_
 all_goals intro h1
 ·repeat apply ae;rfl
  refine aS (by kernel_rfl) (by kernel_rfl) ?_
  repeat first|apply aA;rfl|refine aX rfl rfl rfl (F.ag _ rfl) (recP) rfl (by(omega)) (by(omega)) ?_|refine db (bS (F.sz _ rfl) rfl rfl rfl (recP) rfl (by first|omega|(simp only [D4,aq];omega)) (by first|omega|(simp only [D4,aq];omega))) rfl rfl ?_|refine an (q:=i) rfl rfl rfl rfl (F.un _ rfl) (F.sz _ rfl) rfl (by omega) (by omega) (by omega) ?_|refine an (q:=j) rfl rfl rfl rfl (F.un _ rfl) (F.sz _ rfl) rfl (by omega) (by omega) (by omega) ?_
  refine ay ⟨by kernel_rfl,?_,?_⟩;(focus(repeat(first|exact Gc|apply bZ;rfl|apply bM;rfl|refine⟨.inr (by(repeat(refine⟨(by(exact az (F.un _ rfl) (F.sz _ rfl) rfl rfl rfl (by omega) (by omega) (by omega))),?_⟩));exact Gc),?_⟩|refine⟨.inl (by kernel_rfl),?_⟩)))
  repeat first|apply ae;rfl|apply aB;rfl;omega;omega
  refine ih _ _ _ ((i+1,j-1),Sort.swp d1 i j) [] ⟨by simp only;omega,by simp only;omega,by simp only;omega,by rw [aq];exact hd1,?_⟩ (by simp only;omega) ?_
  ·rw [← ho]
   conv=>rhs;rw [Sort.reverseLoop,Ez (by omega)]
  ·(refine⟨(E0 rfl),rfl,(by repeat(first|exact Gc|refine⟨rfl,?_⟩|refine⟨cK (by(simp only;omega)),?_⟩)),⟨ai rfl,trivial⟩⟩)
 ·repeat apply ae;rfl
  ((apply jF Tryz.func111 (congrArg Array.toList Tryz.results111));(focus(repeat(exact E3)));refine⟨_,rfl,Ends.mk [] (E0 rfl) rfl rfl ?_⟩)
  rw [← ho,Sort.reverseLoop,Ey (by omega)]
  exact⟨ai rfl,trivial⟩
abbrev vy(k:Nat):VO:=am 3 [.sc (.int .i64 (k:Int))]
theorem d8(n a b k:Nat)(d:Array El)(hn:n<4611686018427387904)(hd:d.size=n)(ha:a<n)(hb:b<n)(hk:k<1000) :
 Ctr Tryz.prog 134 [.slu 0 0 n,.sc (.int .i64 (a:Int)),.sc (.int .i64 (b:Int)),.ptr 1 0,cmpF] [rowP n d,vy k] (fun c=>c=⟨.tup [.sc (.int .i64 ((Sort.order2 ltP d a b k).1:Int)),.sc (.int .i64 ((Sort.order2 ltP d a b k).2.1:Int))],[some (rowP n d),some (vy (Sort.order2 ltP d a b k).2.2)]⟩):=by
 refine E2 Tryz.func134 rfl rfl ?_
 repeat apply ae;rfl
 refine aS (by kernel_rfl) (by kernel_rfl) ?_
 repeat first|apply aA;rfl|refine aX rfl rfl rfl (F.ag _ rfl) (recP) rfl (by(omega)) (by(omega)) ?_|refine an (q:=a) rfl rfl rfl rfl (F.un _ rfl) (F.sz _ rfl) rfl (by omega) (by omega) (by omega) ?_|refine an (q:=b) rfl rfl rfl rfl (F.un _ rfl) (F.sz _ rfl) rfl (by omega) (by omega) (by omega) ?_|refine bg rfl rfl rfl rfl (by kernel_rfl) rfl (Ctr.callV (cmp_spec d[b]! d[a]!) [] rfl (E0 rfl) rfl trivial rfl) ?_
 refine bx rfl rfl rfl rfl ?_ ?_
 all_goals intro h1
 ·skip
  refine ay ⟨by kernel_rfl,?_,?_⟩;(focus(repeat(first|exact Gc|apply bZ;rfl|apply bM;rfl|refine⟨.inr (by(repeat(refine⟨(by(exact az (F.un _ rfl) (F.sz _ rfl) rfl rfl rfl (by omega) (by omega) (by omega))),?_⟩));exact Gc),?_⟩|refine⟨.inl (by kernel_rfl),?_⟩)))
  repeat first|apply ae;rfl|apply aB;rfl;omega;omega|refine aZ rfl rfl rfl (F.ag _ rfl) rfl rfl ?_|refine cJ rfl rfl rfl (F.sz _ rfl) rfl rfl rfl ?_
  rw [show Sort.order2 ltP d a b k=(b,a,k+1) by rw [Sort.order2,Ez (by simpa [ltP] using h1)]]
  ((apply bv Tryz.func134 (congrArg Array.toList Tryz.results134));(focus(repeat(first|exact E3|apply E5 rfl)));refine⟨_,rfl,Ends.mk [] (E0 rfl) rfl rfl ?_⟩)
  exact(by repeat(first|exact Gc|refine⟨ai rfl,?_⟩|refine⟨cm rfl,?_⟩))
 ·skip
  refine ay ⟨by kernel_rfl,?_,?_⟩;(focus(repeat(first|exact Gc|apply bZ;rfl|apply bM;rfl|refine⟨.inr (by(repeat(refine⟨(by(exact az (F.un _ rfl) (F.sz _ rfl) rfl rfl rfl (by omega) (by omega) (by omega))),?_⟩));exact Gc),?_⟩|refine⟨.inl (by kernel_rfl),?_⟩)))
  repeat apply ae;rfl
  rw [show Sort.order2 ltP d a b k=(a,b,k) by rw [Sort.order2,Ey (by simpa [ltP] using h1)]]
  ((apply bv Tryz.func134 (congrArg Array.toList Tryz.results134));(focus(repeat(first|exact E3|apply E5 rfl)));refine⟨_,rfl,Ends.mk [] (E0 rfl) rfl rfl ?_⟩)
  exact(by repeat(first|exact Gc|refine⟨ai rfl,?_⟩|refine⟨cm rfl,?_⟩))
theorem cT{lt:El→El→Bool}{d:Array El}{a b k n:Nat}(ha:a<n)(hb:b<n):(Sort.order2 lt d a b k).1<n∧(Sort.order2 lt d a b k).2.1<n∧(Sort.order2 lt d a b k).2.2≤k+1:=by
 unfold Sort.order2
 split
 ·exact⟨hb,ha,Em _⟩
 ·exact⟨ha,hb,Ew _⟩
theorem d9(n a b c k:Nat)(d:Array El)(hn:n<4611686018427387904)(hd:d.size=n)(ha:a<n)(hb:b<n)(hc:c<n)(hk:k<900) :
 Ctr Tryz.prog 130 [.slu 0 0 n,.sc (.int .i64 (a:Int)),.sc (.int .i64 (b:Int)),.sc (.int .i64 (c:Int)),.ptr 1 0,cmpF] [rowP n d,vy k] (fun r=>r=⟨.sc (.int .i64 ((Sort.median ltP d a b c k).1:Int)),[some (rowP n d),some (vy (Sort.median ltP d a b c k).2)]⟩):=by
 obtain⟨q1,q2,q3⟩:=cT (lt:=ltP) (d:=d) (k:=k) ha hb
 have e1:=d8 n a b k d hn hd ha hb (by omega)
 unfold Sort.median
 generalize Sort.order2 ltP d a b k=r1 at q1 q2 q3 e1 ⊢
 obtain⟨a1,b1,k1⟩:=r1
 obtain⟨p1,p2,p3⟩:=cT (lt:=ltP) (d:=d) (k:=k1) q2 hc
 have e2:=d8 n b1 c k1 d hn hd q2 hc (by simp only at q3;omega)
 simp only at q1 q2 q3 p1 p2 p3 e1 e2 ⊢
 generalize Sort.order2 ltP d b1 c k1=r2 at p1 p2 p3 e2 ⊢
 obtain⟨b2,c2,k2⟩:=r2
 obtain⟨o1,o2,o3⟩:=cT (lt:=ltP) (d:=d) (k:=k2) q1 p1
 have e3:=d8 n a1 b2 k2 d hn hd q1 p1 (by simp only at p3;omega)
 simp only at p1 p2 p3 o1 o2 o3 e2 e3 ⊢
 generalize Sort.order2 ltP d a1 b2 k2=r3 at o1 o2 o3 e3 ⊢
 obtain⟨a3,b3,k3⟩:=r3
 simp only at o1 o2 o3 e3 ⊢
 refine E2 Tryz.func130 rfl rfl ?_
 repeat first|apply ae;rfl|refine aP rfl rfl rfl (by kernel_rfl) (Ctr.bF (e1) [0,1] rfl (E0 rfl) rfl (by repeat(first|exact Gc|refine⟨ai rfl,?_⟩|refine⟨cm rfl,?_⟩)) rfl (by repeat(first|exact Gc|refine⟨aF,?_⟩|refine⟨bD (fun _=>rfl),?_⟩)) (fun _=>rfl) rfl rfl) ?_|refine aP rfl rfl rfl (by kernel_rfl) (Ctr.bF (e2) [0,1] rfl (E0 rfl) rfl (by repeat(first|exact Gc|refine⟨ai rfl,?_⟩|refine⟨cm rfl,?_⟩)) rfl (by repeat(first|exact Gc|refine⟨aF,?_⟩|refine⟨bD (fun _=>rfl),?_⟩)) (fun _=>rfl) rfl rfl) ?_|refine aP rfl rfl rfl (by kernel_rfl) (Ctr.bF (e3) [0,1] rfl (E0 rfl) rfl (by repeat(first|exact Gc|refine⟨ai rfl,?_⟩|refine⟨cm rfl,?_⟩)) rfl (by repeat(first|exact Gc|refine⟨aF,?_⟩|refine⟨bD (fun _=>rfl),?_⟩)) (fun _=>rfl) rfl rfl) ?_
 ((apply bv Tryz.func130 (congrArg Array.toList Tryz.results130));(focus(repeat(first|exact E3|apply E5 rfl)));refine⟨_,rfl,Ends.mk [] (E0 rfl) rfl rfl ?_⟩)
 exact(by repeat(first|exact Gc|refine⟨ai rfl,?_⟩|refine⟨cm rfl,?_⟩))
theorem fU{lt:El→El→Bool}{d:Array El}{a b c k n:Nat}(ha:a<n)(hb:b<n)(hc:c<n):(Sort.median lt d a b c k).1<n∧(Sort.median lt d a b c k).2≤k+3:=by
 obtain⟨q1,q2,q3⟩:=cT (lt:=lt) (d:=d) (k:=k) ha hb
 obtain⟨p1,p2,p3⟩:=cT (lt:=lt) (d:=d) (k:=(Sort.order2 lt d a b k).2.2) q2 hc
 obtain⟨o1,o2,o3⟩:=cT (lt:=lt) (d:=d) (k:=(Sort.order2 lt d (Sort.order2 lt d a b k).2.1 c (Sort.order2 lt d a b k).2.2).2.2) q1 p1
 exact⟨o2,by simp only [Sort.median];omega⟩
theorem ea(n a k:Nat)(d:Array El)(hn:n<4611686018427387904)(hd:d.size=n)(ha:a+1<n)(h1:1≤a)(hk:k<900) :
 Ctr Tryz.prog 129 [.slu 0 0 n,.sc (.int .i64 (a:Int)),.ptr 1 0,cmpF] [rowP n d,vy k] (fun r=>r=⟨.sc (.int .i64 ((Sort.medianAdjacent ltP d a k).1:Int)),[some (rowP n d),some (vy (Sort.medianAdjacent ltP d a k).2)]⟩):=by
 obtain⟨a,rfl⟩: ∃ a',a=a'+1:=⟨a-1,by omega⟩
 have e:=d9 n a (a+1) (a+1+1) k d hn hd (by omega) (by omega) (by omega) hk
 have e0:((a:Nat):Int)=((a+1:Nat):Int)-1:=by omega
 rw [e0] at e
 refine E2 Tryz.func129 rfl rfl ?_
 repeat first|apply ae;rfl|apply aB;rfl;omega;omega|refine aP rfl rfl rfl (by kernel_rfl) (Ctr.bF (e) [0,1] rfl (E0 rfl) rfl (by repeat(first|exact Gc|refine⟨ai rfl,?_⟩|refine⟨cm rfl,?_⟩)) rfl (by repeat(first|exact Gc|refine⟨aF,?_⟩|refine⟨bD (fun _=>rfl),?_⟩)) (fun _=>rfl) rfl rfl) ?_
 ((apply bv Tryz.func129 (congrArg Array.toList Tryz.results129));(focus(repeat(first|exact E3|apply E5 rfl)));refine⟨_,rfl,Ends.mk [] (E0 rfl) rfl rfl ?_⟩)
 exact(by repeat(first|exact Gc|refine⟨ai rfl,?_⟩|refine⟨cm rfl,?_⟩))
end Bn
end Go.Proofs.YtelnglhodnoclaaGreat
end
section
namespace Go.Proofs.YtelnglhodnoclaaGreat
namespace Bn
open Go Go.Sy
theorem ph(n a b:Nat)(d:Array El)(hn:n<4611686018427387904)(hd:d.size=n)(hab:a<b)(hb:b≤n) :
 Ctr Tryz.prog 110 [.slu 0 0 n,.sc (.int .i64 (a:Int)),.sc (.int .i64 (b:Int)),cmpF] [rowP n d] (fun r=>r=⟨.tup [.sc (.int .i64 ((Sort.choosePivot ltP d a b).1:Int)),.sc (.int .i64 (xH (Sort.choosePivot ltP d a b).2))],[some (rowP n d)]⟩):=by
 have e1:((a:Int)+((b:Int)-(a:Int)) / 4*1)=((a+(b-a) / 4*1:Nat):Int):=by omega
 have e2:((a:Int)+((b:Int)-(a:Int)) / 4*2)=((a+(b-a) / 4*2:Nat):Int):=by omega
 have e3:((a:Int)+((b:Int)-(a:Int)) / 4*3)=((a+(b-a) / 4*3:Nat):Int):=by omega
 refine E2 Tryz.func110 rfl rfl ?_
 repeat first|apply ae;rfl|apply aB;rfl;omega;omega|refine bN (ii rfl rfl (by omega) (dR (by omega) (by omega) (by omega))) rfl rfl rfl ?_
 rw [e1,e2,e3]
 have fin: ∀ (T:Tr SV) (H:aw) (nx:Nat) (p k:Nat),True:=fun _ _ _ _ _=>trivial
 refine cD rfl rfl rfl rfl ?_ ?_
 all_goals intro h1
 ·repeat apply ae;rfl
  refine cD rfl rfl rfl rfl ?_ ?_
  all_goals intro h2
  ·have m1:=ea n (a+(b-a) / 4*1) 0 d hn hd (by omega) (by omega) (by omega)
   have l1:(Sort.medianAdjacent ltP d (a+(b-a) / 4*1) 0).1<n∧(Sort.medianAdjacent ltP d (a+(b-a) / 4*1) 0).2≤0+3:=fU (by omega) (by omega) (by omega)
   have ec:Sort.choosePivot ltP d a b=Sort.choosePivot ltP d a b:=rfl
   conv at ec=>rhs;unfold Sort.choosePivot
   simp only [show b-a≥8 by omega,show b-a≥50 by omega,if_true] at ec
   generalize Sort.medianAdjacent ltP d (a+(b-a) / 4*1) 0=r1 at m1 l1 ec
   have m2:=ea n (a+(b-a) / 4*2) r1.2 d hn hd (by omega) (by omega) (by omega)
   have l2:(Sort.medianAdjacent ltP d (a+(b-a) / 4*2) r1.2).1<n∧(Sort.medianAdjacent ltP d (a+(b-a) / 4*2) r1.2).2≤r1.2+3:=fU (by omega) (by omega) (by omega)
   generalize Sort.medianAdjacent ltP d (a+(b-a) / 4*2) r1.2=r2 at m2 l2 ec
   have m3:=ea n (a+(b-a) / 4*3) r2.2 d hn hd (by omega) (by omega) (by omega)
   have l3:(Sort.medianAdjacent ltP d (a+(b-a) / 4*3) r2.2).1<n∧(Sort.medianAdjacent ltP d (a+(b-a) / 4*3) r2.2).2≤r2.2+3:=fU (by omega) (by omega) (by omega)
   generalize Sort.medianAdjacent ltP d (a+(b-a) / 4*3) r2.2=r3 at m3 l3 ec
   have m4:=d9 n r1.1 r2.1 r3.1 r3.2 d hn hd l1.1 l2.1 l3.1 (by omega)
   generalize Sort.median ltP d r1.1 r2.1 r3.1 r3.2=r4 at m4 ec
   rw [ec]
   obtain⟨p,k⟩:=r4
   repeat first|apply ae;rfl|apply aR;rfl;(focus((repeat(exact ah));done));rfl|refine aP rfl rfl rfl (by kernel_rfl) (Ctr.bF (m1) [0,1] rfl (E0 rfl) rfl (by repeat(first|exact Gc|refine⟨ai rfl,?_⟩|refine⟨cm rfl,?_⟩)) rfl (by repeat(first|exact Gc|refine⟨aF,?_⟩|refine⟨bD (fun _=>rfl),?_⟩)) (fun _=>rfl) rfl rfl) ?_|refine aP rfl rfl rfl (by kernel_rfl) (Ctr.bF (m2) [0,1] rfl (E0 rfl) rfl (by repeat(first|exact Gc|refine⟨ai rfl,?_⟩|refine⟨cm rfl,?_⟩)) rfl (by repeat(first|exact Gc|refine⟨aF,?_⟩|refine⟨bD (fun _=>rfl),?_⟩)) (fun _=>rfl) rfl rfl) ?_|refine aP rfl rfl rfl (by kernel_rfl) (Ctr.bF (m3) [0,1] rfl (E0 rfl) rfl (by repeat(first|exact Gc|refine⟨ai rfl,?_⟩|refine⟨cm rfl,?_⟩)) rfl (by repeat(first|exact Gc|refine⟨aF,?_⟩|refine⟨bD (fun _=>rfl),?_⟩)) (fun _=>rfl) rfl rfl) ?_|refine aP rfl rfl rfl (by kernel_rfl) (Ctr.bF (m4) [0,1] rfl (E0 rfl) rfl (by repeat(first|exact Gc|refine⟨ai rfl,?_⟩|refine⟨cm rfl,?_⟩)) rfl (by repeat(first|exact Gc|refine⟨aF,?_⟩|refine⟨bD (fun _=>rfl),?_⟩)) (fun _=>rfl) rfl rfl) ?_
   refine cE rfl rfl rfl rfl ?_ ?_
   all_goals intro h3
   ·repeat apply ae;rfl
    rw [Ez (show(p,k).2=0 by simp only;omega)]
    ((apply bv Tryz.func110 (congrArg Array.toList Tryz.results110));(focus(repeat(first|exact E3|apply E5 rfl)));refine⟨_,rfl,Ends.mk [] (E0 rfl) rfl rfl ?_⟩)
    exact⟨ai rfl,trivial⟩
   ·repeat apply ae;rfl
    refine cE rfl rfl rfl rfl ?_ ?_
    all_goals intro h4
    ·repeat apply ae;rfl
     rw [Ey (show ¬ (p,k).2=0 by simp only;omega),Ez (show(p,k).2=12 by simp only;omega)]
     ((apply bv Tryz.func110 (congrArg Array.toList Tryz.results110));(focus(repeat(first|exact E3|apply E5 rfl)));refine⟨_,rfl,Ends.mk [] (E0 rfl) rfl rfl ?_⟩)
     exact⟨ai rfl,trivial⟩
    ·repeat apply ae;rfl
     rw [Ey (show ¬ (p,k).2=0 by simp only;omega),Ey (show ¬ (p,k).2=12 by simp only;omega)]
     ((apply bv Tryz.func110 (congrArg Array.toList Tryz.results110));(focus(repeat(first|exact E3|apply E5 rfl)));refine⟨_,rfl,Ends.mk [] (E0 rfl) rfl rfl ?_⟩)
     exact⟨ai rfl,trivial⟩
  ·have ec:Sort.choosePivot ltP d a b=Sort.choosePivot ltP d a b:=rfl
   conv at ec=>rhs;unfold Sort.choosePivot
   simp only [show b-a≥8 by omega,show ¬ (b-a≥50) by omega,if_true,if_false] at ec
   have m4:=d9 n (a+(b-a) / 4*1) (a+(b-a) / 4*2) (a+(b-a) / 4*3) 0 d hn hd (by omega) (by omega) (by omega) (by omega)
   generalize Sort.median ltP d (a+(b-a) / 4*1) (a+(b-a) / 4*2) (a+(b-a) / 4*3) 0=r4 at m4 ec
   rw [ec]
   obtain⟨p,k⟩:=r4
   repeat first|apply ae;rfl|apply aR;rfl;(focus((repeat(exact ah));done));rfl|refine aP rfl rfl rfl (by kernel_rfl) (Ctr.bF (m4) [0,1] rfl (E0 rfl) rfl (by repeat(first|exact Gc|refine⟨ai rfl,?_⟩|refine⟨cm rfl,?_⟩)) rfl (by repeat(first|exact Gc|refine⟨aF,?_⟩|refine⟨bD (fun _=>rfl),?_⟩)) (fun _=>rfl) rfl rfl) ?_
   refine cE rfl rfl rfl rfl ?_ ?_
   all_goals intro h3
   ·repeat apply ae;rfl
    rw [Ez (show(p,k).2=0 by simp only;omega)]
    ((apply bv Tryz.func110 (congrArg Array.toList Tryz.results110));(focus(repeat(first|exact E3|apply E5 rfl)));refine⟨_,rfl,Ends.mk [] (E0 rfl) rfl rfl ?_⟩)
    exact⟨ai rfl,trivial⟩
   ·repeat apply ae;rfl
    refine cE rfl rfl rfl rfl ?_ ?_
    all_goals intro h4
    ·repeat apply ae;rfl
     rw [Ey (show ¬ (p,k).2=0 by simp only;omega),Ez (show(p,k).2=12 by simp only;omega)]
     ((apply bv Tryz.func110 (congrArg Array.toList Tryz.results110));(focus(repeat(first|exact E3|apply E5 rfl)));refine⟨_,rfl,Ends.mk [] (E0 rfl) rfl rfl ?_⟩)
     exact⟨ai rfl,trivial⟩
    ·repeat apply ae;rfl
     rw [Ey (show ¬ (p,k).2=0 by simp only;omega),Ey (show ¬ (p,k).2=12 by simp only;omega)]
     ((apply bv Tryz.func110 (congrArg Array.toList Tryz.results110));(focus(repeat(first|exact E3|apply E5 rfl)));refine⟨_,rfl,Ends.mk [] (E0 rfl) rfl rfl ?_⟩)
     exact⟨ai rfl,trivial⟩
 ·have ec:Sort.choosePivot ltP d a b=(a+(b-a) / 4*2,.increasing):=by
   unfold Sort.choosePivot
   simp only [show ¬ (b-a≥8) by omega,if_false,if_true]
  rw [ec]
  repeat first|apply ae;rfl|apply aR;rfl;(focus((repeat(exact ah));done));rfl|refine bN (ct rfl rfl (.inl ⟨rfl,rfl⟩)) rfl rfl rfl ?_
  ((apply bv Tryz.func110 (congrArg Array.toList Tryz.results110));(focus(repeat(first|exact E3|apply E5 rfl)));refine⟨_,rfl,Ends.mk [] (E0 rfl) rfl rfl ?_⟩)
  exact⟨ai rfl,trivial⟩
end Bn
end Go.Proofs.YtelnglhodnoclaaGreat
end
