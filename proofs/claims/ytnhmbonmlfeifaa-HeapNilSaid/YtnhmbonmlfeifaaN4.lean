import Derived.Test.YtnhmbonmlfeifaaN3
set_option linter.unusedVariables false
set_option linter.unusedSimpArgs false
set_option maxRecDepth 100000
set_option maxHeartbeats 0
section
namespace Go.Proofs.Ytnhmbonmlfeifaa
open Go Go.Sy Go.Sl Go.RowKit
def bR(seen:List (Nat×Nat))(i:Nat):Bool:=seen.any fun x=>decide (x.1≤i∧i<x.1+x.2)
def lZ(seen:List (Nat×Nat))(a s:Nat):Bool:=(List.range s).any fun j=>bR seen (a+j)
def cF(p:List UInt8):Nat→Nat→List (Nat×Nat)→Bool→Bool
 | 0,_,_,fine=>fine
 | k+1,n,seen,_=>
   if aX p n=0∧a9 p n=0 then cF p k (n+1) seen (decide (n+1<aE p))
   else if a9 p n<1∨1000<a9 p n∨aX p n<aS p∨1024<aX p n+a9 p n then false
   else if lZ seen (aX p n) (a9 p n) then false else cF p k (n+1) ((aX p n,a9 p n) :: seen) true
def bP(p:List UInt8):Bool:=decide (18+4*aE p≤aS p∧aS p≤1024) && cF p (aE p) 0 [] true
abbrev qU(f:Nat→Bool):List SV:=(List.range 1024).map fun i=> .sc (.bool (f i))
abbrev qV(f:Nat→Bool):VO:=am 115 (qU f)
theorem zTak:j3 Try.prog 115=some (qU fun _=>false):=by kernel_rfl
theorem kL(f:Nat→Bool){i:Nat}(hi:i<1024):(qV f).cell i=some (.sc (.bool (f i))):=bk (by simp [hi])
theorem lp(seen:List (Nat×Nat))(a:Nat):bR ((a,0) :: seen)=bR seen:=by
 funext i
 simp only [bR,List.any_cons,Nat.add_zero]
 rw [decide_eq_false (by omega),Bool.false_or]
theorem pB(seen:List (Nat×Nat)){a i:Nat}(h:a≤i):bR ((a,i-a) :: seen) i=bR seen i:=by
 simp only [bR,List.any_cons]
 rw [decide_eq_false (by omega),Bool.false_or]
theorem mr{seen:List (Nat×Nat)}{a i:Nat}(h:a≤i):(qU (bR ((a,i-a) :: seen))).set i (.sc (.bool true))=qU (bR ((a,i+1-a) :: seen)):=by
 refine List.ext_getElem? fun j=>?_
 rw [List.getElem?_set,List.getElem?_map,List.getElem?_map,List.length_map,List.length_range]
 rcases Nat.lt_or_ge j 1024 with hj|hj
 ·rw [List.getElem?_range hj]
  by_cases he:i=j
  ·subst he
   rw [if_pos rfl,if_pos hj]
   simp only [tu,bR,List.any_cons]
   rw [decide_eq_true (by omega),Bool.true_or]
  ·rw [if_neg he]
   simp only [tu,bR,List.any_cons]
   rw [show decide (a≤j∧j<a+(i-a))=decide (a≤j∧j<a+(i+1-a))from decide_eq_decide.2 (by omega)]
 ·rw [List.getElem?_eq_none (by simpa using hj)]
  by_cases he:i=j
  ·subst he
   rw [if_pos rfl,if_neg (by omega)]
   rfl
  ·rw [if_neg he]
   rfl
theorem ju{seen:List (Nat×Nat)}{a s i:Nat}(h1:a≤i)(h2:i<a+s)(h:bR seen i=true):lZ seen a s=true:=by
 unfold lZ
 rw [List.any_eq_true]
 exact⟨i-a,List.mem_range.2 (by omega),by rw [show a+(i-a)=i by omega];exact h⟩
theorem kZ{seen:List (Nat×Nat)}{a s:Nat}(h: ∀ j,a≤j→j<a+s→bR seen j=false):lZ seen a s=false:=by
 unfold lZ
 rw [List.any_eq_false]
 intro j hj
 rw [h (a+j) (by omega) (by have:=List.mem_range.1 hj;omega)]
 decide
theorem p7{H:ar}{nx b:Nat}{p:List UInt8}(hb:H.at' b=some (pgO p))(hp:p.length=1024):Fnc Try.prog 43 [.ptr b 0] H nx (fun q=>q.1 = .sc (.bool (bP p))∧nx≤q.2.2∧ ∀ m,m<nx→q.2.1.at' m=H.at' m):=by
 have hs:aE p<65536:=eF p 14
 have hg:aS p<65536:=eF p 16
 refine Fnc.start Try.func43 rfl rfl ?_
 refine bv fun hund=>?_
 have hlt:=hund _ _ hb
 (repeat(first|refine an ?_|refine ae ?_|refine ac ?_|refine pJ ?_|(apply ai;exact rfl;exact rfl;exact rfl)|(apply ah;exact rfl;exact rfl;exact rfl)|(apply cn;exact rfl;exact rfl;exact rfl;exact rfl;(focus(omega));(focus(omega)))|(apply je;exact rfl;exact rfl;exact rfl;exact rfl;(focus(omega));(focus(omega)))|(refine au rfl rfl rfl (by kernel_rfl) (Fnc.mono (eC hb hp) ?_);rintro _ rfl;dsimp only)|(refine au rfl rfl rfl (by kernel_rfl) (Fnc.mono (iX hb hp) ?_);rintro _ rfl;dsimp only)))
 refine bC rfl rfl rfl rfl (fun h1=>?_) (fun h1=>?_)
 ·(repeat(first|refine an ?_|refine ae ?_|refine ac ?_|refine ay rfl ?_|(apply ai;exact rfl;exact rfl;exact rfl)|(apply ah;exact rfl;exact rfl;exact rfl)|(apply bp;exact rfl;exact rfl;exact rfl;exact rfl)|(apply dF;exact rfl)))
  ((apply aP Try.func43 (congrArg Array.toList Try.results43));(focus(repeat(first|exact ResIs.nil|apply ResIs.tmp rfl))))
  refine⟨?_,th _,fun m _=>rfl⟩
  unfold bP
  rw [decide_eq_false (by omega)]
  rfl
 (repeat(apply ai;exact rfl;exact rfl;exact rfl))
 refine cp rfl rfl rfl rfl (fun h2=>?_) (fun h2=>?_)
 ·(repeat(first|refine an ?_|refine ae ?_|refine ac ?_|refine ay rfl ?_|(apply ah;exact rfl;exact rfl;exact rfl)|(apply aQ;exact rfl;exact rfl;exact rfl;exact rfl)))
  ((apply aP Try.func43 (congrArg Array.toList Try.results43));(focus(repeat(first|exact ResIs.nil|apply ResIs.tmp rfl))))
  refine⟨?_,th _,fun m _=>rfl⟩
  unfold bP
  rw [decide_eq_false (by omega)]
  rfl
 have hrp:bP p=cF p (aE p) 0 [] true:=by
  unfold bP
  rw [decide_eq_true (by omega),Bool.true_and]
 rw [hrp]
 (repeat(first|refine an ?_|refine ae ?_|refine ac ?_|refine bf ?_|refine aD ?_|refine pK ?_|refine ax rfl ?_|(apply ai;exact rfl;exact rfl;exact rfl)|(apply ah;exact rfl;exact rfl;exact rfl)|(apply aQ;exact rfl;exact rfl;exact rfl;exact rfl)|(refine au rfl rfl rfl (by kernel_rfl) (Fnc.mono (fY) ?_);rintro _ rfl;dsimp only)|(refine aZ rfl rfl zTak ?_)))
 refine db (α:=Nat×List (Nat×Nat)×Bool) (fun x=> [(0,.ptr b 0),(3,.sc (.int .i64 (aE p:Int))),(4,.sc (.int .i64 (aS p:Int))),(5,qY nx),(6,.ptr (nx+1) 0),(7,.sc (.bool x.2.2)),(27,.sc (.int .i64 (aE p:Int))),(28,.sc (.int .i64 (x.1:Int)))])
  (fun x H1 n1=>n1=nx+1+1∧x.1≤aE p∧cF p (aE p-x.1) x.1 x.2.1 x.2.2=cF p (aE p) 0 [] true∧H1.at' nx=some (pA b)∧H1.at' (nx+1)=some (qV (bR x.2.1))∧ ∀ m,m<nx→H1.at' m=H.at' m) (fun x=>aE p-x.1) (0,[],true)
  ⟨rfl,ti _,rfl,by(focus((repeat(first|exact Tr.ab _ _ _|refine(Tr.aa _ _ (by omega)).trans ?_));done)),Tr.ab _ _ _,fun m hm=>(Tr.aa _ _ (by omega)).trans (Tr.aa _ _ (by omega))⟩ (SlIn.sub (by repeat(first|exact trivial|refine⟨rfl,?_⟩))) ?_
 rintro⟨n,seen,fine⟩ H1 n1 ⟨rfl,h3,h4,h5,h6,h7⟩ ih
 dsimp only at h3 h4 h5 h6 h7 ih ⊢
 have hb1:=(h7 b hlt).trans hb
 have ha0:aX p n<65536:=eF p _
 have hz0:a9 p n<65536:=eF p _
 (repeat(first|refine an ?_|refine ae ?_))
 refine bC rfl rfl rfl rfl (fun h8=>?_) (fun h8=>?_)
 ·have hn:n<aE p:=by omega
  have hgo:cF p (aE p-n) n seen fine=if aX p n=0∧a9 p n=0 then cF p (aE p-(n+1)) (n+1) seen (decide (n+1<aE p))
   else if a9 p n<1∨1000<a9 p n∨aX p n<aS p∨1024<aX p n+a9 p n then false
   else if lZ seen (aX p n) (a9 p n) then false else cF p (aE p-(n+1)) (n+1) ((aX p n,a9 p n) :: seen) true:=by
   rw [show aE p-n=(aE p-(n+1))+1 by omega]
   rfl
  (repeat(first|refine an ?_|refine ae ?_|refine ac ?_|refine bf ?_|refine aD ?_|refine ay rfl ?_|(apply ai;exact rfl;exact rfl;exact rfl)|(apply ah;exact rfl;exact rfl;exact rfl)))
  refine gj rfl rfl rfl rfl (by kernel_rfl) (Fnc.mono (im h5 hb1 hp (n:=n) (by omega)) ?_)
  rintro _ rfl
  dsimp only
  (repeat(first|refine an ?_|refine ae ?_|refine ac ?_|(apply ai;exact rfl;exact rfl;exact rfl)|(apply ah;exact rfl;exact rfl;exact rfl)|(apply aH;exact rfl;exact rfl;exact rfl;exact rfl)))
  by_cases hE:aX p n=0∧a9 p n=0
  ·refine cI rfl rfl rfl rfl (fun _=>?_) (fun hq=>absurd (by omega) hq)
   (repeat(apply ai;exact rfl;exact rfl;exact rfl))
   refine cI rfl rfl rfl rfl (fun _=>?_) (fun hq=>absurd (by omega) hq)
   (repeat(first|refine an ?_|refine ae ?_|refine ac ?_|refine bZ rfl ?_|refine ay rfl ?_|(apply ai;exact rfl;exact rfl;exact rfl)|(apply ah;exact rfl;exact rfl;exact rfl)|(apply bp;exact rfl;exact rfl;exact rfl;exact rfl)|(apply cn;exact rfl;exact rfl;exact rfl;exact rfl;(focus(omega));(focus(omega)))|(apply jd;exact rfl;exact rfl;exact rfl;exact rfl;(focus(omega));(focus(omega)))|(apply rI;exact rfl;exact rfl;exact rfl;exact rfl)))
   refine ih _ _ _ (n+1,seen,decide (n+1<aE p)) ⟨rfl,hn,?_,h5,h6,h7⟩ (by omega) ?_
   ·rw [← h4,hgo,if_pos hE]
   ·rw [show decide ((n:Int)<(aE p:Int)-1)=decide (n+1<aE p)from decide_eq_decide.2 (by omega)]
    exact SlIn.sub (by repeat(first|exact trivial|refine⟨rfl,?_⟩))
  ·have hgo2:=hgo
   rw [if_neg hE] at hgo2
   refine cI rfl rfl rfl rfl (fun e1=>?_) (fun e1=>?_)
   ·(repeat(apply ai;exact rfl;exact rfl;exact rfl))
    refine cI rfl rfl rfl rfl (fun hq=>absurd hq (by omega)) (fun _=>?_)
    (repeat(first|refine an ?_|refine ae ?_|refine ac ?_|refine aD ?_|refine ax rfl ?_|(apply ai;exact rfl;exact rfl;exact rfl)|(apply bp;exact rfl;exact rfl;exact rfl;exact rfl)))
    refine bC rfl rfl rfl rfl (fun c1=>?_) (fun c1=>?_)
    ·(repeat(first|refine an ?_|refine ae ?_|refine ac ?_|refine bZ rfl ?_|refine ay rfl ?_|(apply ai;exact rfl;exact rfl;exact rfl)|(apply ah;exact rfl;exact rfl;exact rfl)|(apply bp;exact rfl;exact rfl;exact rfl;exact rfl)|(apply dF;exact rfl)));((apply aP Try.func43 (congrArg Array.toList Try.results43));(focus(repeat(first|exact ResIs.nil|apply ResIs.tmp rfl))));exact⟨by rw [← h4,hgo2,if_pos (by omega)];rfl,by dsimp only;omega,h7⟩
    (repeat(apply ai;exact rfl;exact rfl;exact rfl))
    refine cp rfl rfl rfl rfl (fun c2=>?_) (fun c2=>?_)
    ·(repeat(first|refine an ?_|refine ae ?_|refine ac ?_|refine bZ rfl ?_|refine ay rfl ?_|(apply ai;exact rfl;exact rfl;exact rfl)|(apply ah;exact rfl;exact rfl;exact rfl)|(apply bp;exact rfl;exact rfl;exact rfl;exact rfl)|(apply aQ;exact rfl;exact rfl;exact rfl;exact rfl)|(apply dF;exact rfl)));((apply aP Try.func43 (congrArg Array.toList Try.results43));(focus(repeat(first|exact ResIs.nil|apply ResIs.tmp rfl))));exact⟨by rw [← h4,hgo2,if_pos (by omega)];rfl,by dsimp only;omega,h7⟩
    (repeat(first|(apply ai;exact rfl;exact rfl;exact rfl)|(apply aQ;exact rfl;exact rfl;exact rfl;exact rfl)))
    refine bC rfl rfl rfl rfl (fun c3=>?_) (fun c3=>?_)
    ·(repeat(first|refine an ?_|refine ae ?_|refine ac ?_|refine bZ rfl ?_|refine ay rfl ?_|(apply ai;exact rfl;exact rfl;exact rfl)|(apply ah;exact rfl;exact rfl;exact rfl)|(apply bp;exact rfl;exact rfl;exact rfl;exact rfl)|(apply aQ;exact rfl;exact rfl;exact rfl;exact rfl)|(apply dF;exact rfl)));((apply aP Try.func43 (congrArg Array.toList Try.results43));(focus(repeat(first|exact ResIs.nil|apply ResIs.tmp rfl))));exact⟨by rw [← h4,hgo2,if_pos (by omega)];rfl,by dsimp only;omega,h7⟩
    (repeat(first|(apply ai;exact rfl;exact rfl;exact rfl)|(apply aQ;exact rfl;exact rfl;exact rfl;exact rfl)|(apply cn;exact rfl;exact rfl;exact rfl;exact rfl;(focus(omega));(focus(omega)))))
    refine cp rfl rfl rfl rfl (fun c4=>?_) (fun c4=>?_)
    ·(repeat(first|refine an ?_|refine ae ?_|refine ac ?_|refine bZ rfl ?_|refine ay rfl ?_|(apply ai;exact rfl;exact rfl;exact rfl)|(apply ah;exact rfl;exact rfl;exact rfl)|(apply aQ;exact rfl;exact rfl;exact rfl;exact rfl)));((apply aP Try.func43 (congrArg Array.toList Try.results43));(focus(repeat(first|exact ResIs.nil|apply ResIs.tmp rfl))));exact⟨by rw [← h4,hgo2,if_pos (by omega)];rfl,by dsimp only;omega,h7⟩
    rw [if_neg (by omega)] at hgo2
    (repeat(first|refine an ?_|refine ae ?_|refine ac ?_|refine bf ?_|refine aD ?_|refine ax rfl ?_|(apply ai;exact rfl;exact rfl;exact rfl)|(apply ah;exact rfl;exact rfl;exact rfl)|(apply aQ;exact rfl;exact rfl;exact rfl;exact rfl)))
    refine db (α:=Nat) (fun i=> [(0,.ptr b 0),(3,.sc (.int .i64 (aE p:Int))),(4,.sc (.int .i64 (aS p:Int))),(5,qY nx),(6,.ptr (nx+1) 0),(8,.sc (.int .i64 (n:Int))),(9,.sc (.int .i64 (aX p n:Int))),(10,.sc (.int .i64 (a9 p n:Int))),(11,.sc (.int .i64 (i:Int))),(27,.sc (.int .i64 (aE p:Int))),(28,.sc (.int .i64 (n:Int)))])
     (fun i H2 n2=>n2=nx+1+1∧aX p n≤i∧i≤aX p n+a9 p n∧(∀ j,aX p n≤j→j<i→bR seen j=false)∧H2.at' nx=some (pA b)∧H2.at' (nx+1)=some (qV (bR ((aX p n,i-aX p n) :: seen)))∧ ∀ m,m<nx→H2.at' m=H.at' m) (fun i=>aX p n+a9 p n-i) (aX p n)
     ⟨rfl,th _,by omega,fun j g1 g2=>absurd g1 (by omega),h5,by rw [Nat.sub_self];exact h6.trans (congrArg (fun f=>some (qV f)) (lp _ _).symm),h7⟩ (SlIn.sub (by repeat(first|exact trivial|refine⟨rfl,?_⟩))) ?_
    rintro i H2 n2 ⟨rfl,g1,g2,g3,g4,g5,g6⟩ ih2
    (repeat(first|refine an ?_|refine ae ?_|(apply ai;exact rfl;exact rfl;exact rfl)|(apply cn;exact rfl;exact rfl;exact rfl;exact rfl;(focus(omega));(focus(omega)))))
    refine bC rfl rfl rfl rfl (fun c5=>?_) (fun c5=>?_)
    ·have hi:i<1024:=by omega
     have hc:=kL (bR ((aX p n,i-aX p n) :: seen)) hi
     rw [pB seen g1] at hc
     cases hci:bR seen i with
     | true=>
       rw [hci] at hc
       (repeat(first|refine an ?_|refine ae ?_|refine ac ?_|refine bf ?_|refine aD ?_|refine bZ rfl ?_|refine ay rfl ?_|(apply ai;exact rfl;exact rfl;exact rfl)|(apply ah;exact rfl;exact rfl;exact rfl)|(apply gf (q:=i);exact rfl;exact rfl;exact rfl;exact rfl;exact(F.un _ rfl);exact(F.sz _ rfl);(focus(omega));(focus(omega)))|(refine fG rfl rfl rfl (F.ag _ rfl) g5 (by rw [Nat.zero_add,Nat.mul_one];exact hc) ?_)))
       ((apply aP Try.func43 (congrArg Array.toList Try.results43));(focus(repeat(first|exact ResIs.nil|apply ResIs.tmp rfl))))
       exact⟨by rw [← h4,hgo2,if_pos (ju (by omega) (by omega) hci)];rfl,by dsimp only;omega,g6⟩
     | false=>
       rw [hci] at hc
       (repeat(first|refine an ?_|refine ae ?_|refine ac ?_|refine bf ?_|refine aD ?_|refine ay rfl ?_|refine ax rfl ?_|(apply ai;exact rfl;exact rfl;exact rfl)|(apply gf (q:=i);exact rfl;exact rfl;exact rfl;exact rfl;exact(F.un _ rfl);exact(F.sz _ rfl);(focus(omega));(focus(omega)))|(refine fG rfl rfl rfl (F.ag _ rfl) g5 (by rw [Nat.zero_add,Nat.mul_one];exact hc) ?_)))
       refine dR (v:= .sc (.bool true)) (cs:=qU (bR ((aX p n,i-aX p n) :: seen))) rfl rfl rfl (F.sz _ rfl) g5 rfl (by rw [Nat.zero_add,Nat.mul_one];exact s5 (by rw [List.length_map,List.length_range];exact hi)) ?_
       rw [Nat.zero_add,Nat.mul_one,mr g1]
       (repeat(first|refine ae ?_|refine ac ?_|refine bw ?_|(apply ai;exact rfl;exact rfl;exact rfl)|(apply ah;exact rfl;exact rfl;exact rfl)|(apply cn;exact rfl;exact rfl;exact rfl;exact rfl;(focus(omega));(focus(omega)))))
       refine ih2 _ _ _ (i+1) ⟨rfl,by omega,by omega,fun j k1 k2=>?_,(Tr.aa _ _ (by omega)).trans g4,Tr.ab _ _ _,fun m hm=>(Tr.aa _ _ (by omega)).trans (g6 m hm)⟩ (by omega) (SlIn.sub (by repeat(first|exact trivial|refine⟨rfl,?_⟩)))
       rcases Nat.lt_or_ge j i with k3|k3
       ·exact g3 j k1 k3
       ·obtain rfl:j=i:=by omega
        exact hci
    ·obtain rfl:i=aX p n+a9 p n:=by omega
     rw [Nat.add_sub_cancel_left] at g5
     rw [if_neg (by rw [kZ g3];decide)] at hgo2
     (repeat(first|refine ae ?_|refine ac ?_|refine bw ?_|refine bZ rfl ?_|refine ax rfl ?_|(apply ai;exact rfl;exact rfl;exact rfl)|(apply ah;exact rfl;exact rfl;exact rfl)|(apply cn;exact rfl;exact rfl;exact rfl;exact rfl;(focus(omega));(focus(omega)))))
     exact ih _ _ _ (n+1,(aX p n,a9 p n) :: seen,true) ⟨rfl,hn,by rw [← h4,hgo2],g4,g5,g6⟩ (by omega) (SlIn.sub (by repeat(first|exact trivial|refine⟨rfl,?_⟩)))
   ·(repeat(first|refine an ?_|refine ae ?_|refine ac ?_|refine aD ?_|refine ax rfl ?_|(apply ai;exact rfl;exact rfl;exact rfl)|(apply aQ;exact rfl;exact rfl;exact rfl;exact rfl)|(apply dF;exact rfl)))
    refine bC rfl rfl rfl rfl (fun c1=>?_) (fun c1=>?_)
    ·(repeat(first|refine an ?_|refine ae ?_|refine ac ?_|refine bZ rfl ?_|refine ay rfl ?_|(apply ai;exact rfl;exact rfl;exact rfl)|(apply ah;exact rfl;exact rfl;exact rfl)|(apply bp;exact rfl;exact rfl;exact rfl;exact rfl)|(apply dF;exact rfl)));((apply aP Try.func43 (congrArg Array.toList Try.results43));(focus(repeat(first|exact ResIs.nil|apply ResIs.tmp rfl))));exact⟨by rw [← h4,hgo2,if_pos (by omega)];rfl,by dsimp only;omega,h7⟩
    (repeat(apply ai;exact rfl;exact rfl;exact rfl))
    refine cp rfl rfl rfl rfl (fun c2=>?_) (fun c2=>?_)
    ·(repeat(first|refine an ?_|refine ae ?_|refine ac ?_|refine bZ rfl ?_|refine ay rfl ?_|(apply ai;exact rfl;exact rfl;exact rfl)|(apply ah;exact rfl;exact rfl;exact rfl)|(apply bp;exact rfl;exact rfl;exact rfl;exact rfl)|(apply aQ;exact rfl;exact rfl;exact rfl;exact rfl)|(apply dF;exact rfl)));((apply aP Try.func43 (congrArg Array.toList Try.results43));(focus(repeat(first|exact ResIs.nil|apply ResIs.tmp rfl))));exact⟨by rw [← h4,hgo2,if_pos (by omega)];rfl,by dsimp only;omega,h7⟩
    (repeat(first|(apply ai;exact rfl;exact rfl;exact rfl)|(apply aQ;exact rfl;exact rfl;exact rfl;exact rfl)))
    refine bC rfl rfl rfl rfl (fun c3=>?_) (fun c3=>?_)
    ·(repeat(first|refine an ?_|refine ae ?_|refine ac ?_|refine bZ rfl ?_|refine ay rfl ?_|(apply ai;exact rfl;exact rfl;exact rfl)|(apply ah;exact rfl;exact rfl;exact rfl)|(apply bp;exact rfl;exact rfl;exact rfl;exact rfl)|(apply aQ;exact rfl;exact rfl;exact rfl;exact rfl)|(apply dF;exact rfl)));((apply aP Try.func43 (congrArg Array.toList Try.results43));(focus(repeat(first|exact ResIs.nil|apply ResIs.tmp rfl))));exact⟨by rw [← h4,hgo2,if_pos (by omega)];rfl,by dsimp only;omega,h7⟩
    (repeat(first|(apply ai;exact rfl;exact rfl;exact rfl)|(apply aQ;exact rfl;exact rfl;exact rfl;exact rfl)|(apply cn;exact rfl;exact rfl;exact rfl;exact rfl;(focus(omega));(focus(omega)))))
    refine cp rfl rfl rfl rfl (fun c4=>?_) (fun c4=>?_)
    ·(repeat(first|refine an ?_|refine ae ?_|refine ac ?_|refine bZ rfl ?_|refine ay rfl ?_|(apply ai;exact rfl;exact rfl;exact rfl)|(apply ah;exact rfl;exact rfl;exact rfl)|(apply aQ;exact rfl;exact rfl;exact rfl;exact rfl)));((apply aP Try.func43 (congrArg Array.toList Try.results43));(focus(repeat(first|exact ResIs.nil|apply ResIs.tmp rfl))));exact⟨by rw [← h4,hgo2,if_pos (by omega)];rfl,by dsimp only;omega,h7⟩
    rw [if_neg (by omega)] at hgo2
    (repeat(first|refine an ?_|refine ae ?_|refine ac ?_|refine bf ?_|refine aD ?_|refine ax rfl ?_|(apply ai;exact rfl;exact rfl;exact rfl)|(apply ah;exact rfl;exact rfl;exact rfl)|(apply aQ;exact rfl;exact rfl;exact rfl;exact rfl)))
    refine db (α:=Nat) (fun i=> [(0,.ptr b 0),(3,.sc (.int .i64 (aE p:Int))),(4,.sc (.int .i64 (aS p:Int))),(5,qY nx),(6,.ptr (nx+1) 0),(8,.sc (.int .i64 (n:Int))),(9,.sc (.int .i64 (aX p n:Int))),(10,.sc (.int .i64 (a9 p n:Int))),(11,.sc (.int .i64 (i:Int))),(27,.sc (.int .i64 (aE p:Int))),(28,.sc (.int .i64 (n:Int)))])
     (fun i H2 n2=>n2=nx+1+1∧aX p n≤i∧i≤aX p n+a9 p n∧(∀ j,aX p n≤j→j<i→bR seen j=false)∧H2.at' nx=some (pA b)∧H2.at' (nx+1)=some (qV (bR ((aX p n,i-aX p n) :: seen)))∧ ∀ m,m<nx→H2.at' m=H.at' m) (fun i=>aX p n+a9 p n-i) (aX p n)
     ⟨rfl,th _,by omega,fun j g1 g2=>absurd g1 (by omega),h5,by rw [Nat.sub_self];exact h6.trans (congrArg (fun f=>some (qV f)) (lp _ _).symm),h7⟩ (SlIn.sub (by repeat(first|exact trivial|refine⟨rfl,?_⟩))) ?_
    rintro i H2 n2 ⟨rfl,g1,g2,g3,g4,g5,g6⟩ ih2
    (repeat(first|refine an ?_|refine ae ?_|(apply ai;exact rfl;exact rfl;exact rfl)|(apply cn;exact rfl;exact rfl;exact rfl;exact rfl;(focus(omega));(focus(omega)))))
    refine bC rfl rfl rfl rfl (fun c5=>?_) (fun c5=>?_)
    ·have hi:i<1024:=by omega
     have hc:=kL (bR ((aX p n,i-aX p n) :: seen)) hi
     rw [pB seen g1] at hc
     cases hci:bR seen i with
     | true=>
       rw [hci] at hc
       (repeat(first|refine an ?_|refine ae ?_|refine ac ?_|refine bf ?_|refine aD ?_|refine bZ rfl ?_|refine ay rfl ?_|(apply ai;exact rfl;exact rfl;exact rfl)|(apply ah;exact rfl;exact rfl;exact rfl)|(apply gf (q:=i);exact rfl;exact rfl;exact rfl;exact rfl;exact(F.un _ rfl);exact(F.sz _ rfl);(focus(omega));(focus(omega)))|(refine fG rfl rfl rfl (F.ag _ rfl) g5 (by rw [Nat.zero_add,Nat.mul_one];exact hc) ?_)))
       ((apply aP Try.func43 (congrArg Array.toList Try.results43));(focus(repeat(first|exact ResIs.nil|apply ResIs.tmp rfl))))
       exact⟨by rw [← h4,hgo2,if_pos (ju (by omega) (by omega) hci)];rfl,by dsimp only;omega,g6⟩
     | false=>
       rw [hci] at hc
       (repeat(first|refine an ?_|refine ae ?_|refine ac ?_|refine bf ?_|refine aD ?_|refine ay rfl ?_|refine ax rfl ?_|(apply ai;exact rfl;exact rfl;exact rfl)|(apply gf (q:=i);exact rfl;exact rfl;exact rfl;exact rfl;exact(F.un _ rfl);exact(F.sz _ rfl);(focus(omega));(focus(omega)))|(refine fG rfl rfl rfl (F.ag _ rfl) g5 (by rw [Nat.zero_add,Nat.mul_one];exact hc) ?_)))
       refine dR (v:= .sc (.bool true)) (cs:=qU (bR ((aX p n,i-aX p n) :: seen))) rfl rfl rfl (F.sz _ rfl) g5 rfl (by rw [Nat.zero_add,Nat.mul_one];exact s5 (by rw [List.length_map,List.length_range];exact hi)) ?_
       rw [Nat.zero_add,Nat.mul_one,mr g1]
       (repeat(first|refine ae ?_|refine ac ?_|refine bw ?_|(apply ai;exact rfl;exact rfl;exact rfl)|(apply ah;exact rfl;exact rfl;exact rfl)|(apply cn;exact rfl;exact rfl;exact rfl;exact rfl;(focus(omega));(focus(omega)))))
       refine ih2 _ _ _ (i+1) ⟨rfl,by omega,by omega,fun j k1 k2=>?_,(Tr.aa _ _ (by omega)).trans g4,Tr.ab _ _ _,fun m hm=>(Tr.aa _ _ (by omega)).trans (g6 m hm)⟩ (by omega) (SlIn.sub (by repeat(first|exact trivial|refine⟨rfl,?_⟩)))
       rcases Nat.lt_or_ge j i with k3|k3
       ·exact g3 j k1 k3
       ·obtain rfl:j=i:=by omega
        exact hci
    ·obtain rfl:i=aX p n+a9 p n:=by omega
     rw [Nat.add_sub_cancel_left] at g5
     rw [if_neg (by rw [kZ g3];decide)] at hgo2
     (repeat(first|refine ae ?_|refine ac ?_|refine bw ?_|refine bZ rfl ?_|refine ax rfl ?_|(apply ai;exact rfl;exact rfl;exact rfl)|(apply ah;exact rfl;exact rfl;exact rfl)|(apply cn;exact rfl;exact rfl;exact rfl;exact rfl;(focus(omega));(focus(omega)))))
     exact ih _ _ _ (n+1,(aX p n,a9 p n) :: seen,true) ⟨rfl,hn,by rw [← h4,hgo2],g4,g5,g6⟩ (by omega) (SlIn.sub (by repeat(first|exact trivial|refine⟨rfl,?_⟩)))
 ·obtain rfl:n=aE p:=by omega
  rw [Nat.sub_self] at h4
  have h4:fine=cF p (aE p) 0 [] true:=h4
  (repeat(first|refine an ?_|refine ae ?_|refine ac ?_|refine bZ rfl ?_|refine ax rfl ?_|(apply ai;exact rfl;exact rfl;exact rfl)|(apply ah;exact rfl;exact rfl;exact rfl)))
  ((apply aP Try.func43 (congrArg Array.toList Try.results43));(focus(repeat(first|exact ResIs.nil|apply ResIs.tmp rfl))))
  exact⟨by rw [← h4];rfl,by dsimp only;omega,h7⟩
theorem fm{H:ar}{nx b:Nat}{p:List UInt8}(hb:H.at' b=some (pgO p))(hp:p.length=1024):Fnc Try.prog 43 [.ptr b 0] H nx (fun q=>q=(.sc (.bool (bP p)),H,nx)):=Fnc.bT (fun _ _ _ h=>h) (p7 hb hp)
def eJ(p:List UInt8):Nat→Nat→Nat
 | 0,n=>n
 | k+1,n=>if a9 p n=0 then n else eJ p k (n+1)
def bx(p:List UInt8):Nat:=eJ p (aE p) 0
theorem hN(p:List UInt8): ∀ k n,eJ p k n≤n+k
 | 0,n=>th _
 | k+1,n=>by
   unfold eJ
   split
   ·omega
   ·have:=hN p k (n+1);omega
theorem jK(p:List UInt8):bx p≤aE p:=by have:=hN p (aE p) 0;unfold bx;omega
def l7(p:List UInt8):Prop:=p.length=1024∧18+4*aE p≤aS p∧aS p≤1024
theorem dZ{p:List UInt8}(hp:p.length=1024)(h:bP p=true):l7 p:=by
 unfold bP at h
 rw [tg,decide_eq_true_eq] at h
 exact⟨hp,h.1⟩
theorem qI{H:ar}{nx b:Nat}{p:List UInt8}(hb:H.at' b=some (pgO p))(hp:l7 p):Fnc Try.prog 49 [.ptr b 0] H nx (fun q=>q.1 = .sc (.int .i64 (bx p:Int))∧nx≤q.2.2∧ ∀ m,m<nx→q.2.1.at' m=H.at' m):=by
 obtain⟨hp,hp1,hp2⟩:=hp
 have hs:aE p<65536:=eF p 14
 refine Fnc.start Try.func49 rfl rfl ?_
 refine bv fun hund=>?_
 have hlt:=hund _ _ hb
 have hb0: ∀ {vo:VO},(H.set nx vo).at' b=some (pgO p):=fun {vo}=>(Tr.aa _ _ (by omega)).trans hb
 (repeat(first|refine an ?_|refine ae ?_|refine ac ?_|refine bf ?_|(apply ai;exact rfl;exact rfl;exact rfl)|(apply ah;exact rfl;exact rfl;exact rfl)|(refine au rfl rfl rfl (by kernel_rfl) (Fnc.mono (fY) ?_);rintro _ rfl;dsimp only)|(refine au rfl rfl rfl (by kernel_rfl) (Fnc.mono (eC hb0 hp) ?_);rintro _ rfl;dsimp only)))
 refine db (α:=Nat) (fun n=> [(0,.ptr b 0),(3,qY nx),(10,.sc (.int .i64 (aE p:Int))),(11,.sc (.int .i64 (n:Int)))])
  (fun n H1 n1=>n1=nx+1∧n≤aE p∧eJ p (aE p-n) n=bx p∧H1=H.set nx (pA b)) (fun n=>aE p-n) 0
  ⟨rfl,ti _,rfl,rfl⟩ (SlIn.sub (by repeat(first|exact trivial|refine⟨rfl,?_⟩))) ?_
 rintro n H1 n1 ⟨rfl,h3,h4,rfl⟩ ih
 (repeat(first|refine an ?_|refine ae ?_))
 refine bC rfl rfl rfl rfl (fun h8=>?_) (fun h8=>?_)
 ·have hgo:eJ p (aE p-n) n=if a9 p n=0 then n else eJ p (aE p-(n+1)) (n+1):=by
   rw [show aE p-n=(aE p-(n+1))+1 by omega]
   rfl
  (repeat(first|refine an ?_|refine ae ?_|refine ac ?_|refine bf ?_|refine aD ?_|refine ay rfl ?_|(apply ai;exact rfl;exact rfl;exact rfl)|(apply ah;exact rfl;exact rfl;exact rfl)))
  refine gj rfl rfl rfl rfl (by kernel_rfl) (Fnc.mono (im (Tr.ab _ _ _) hb0 hp (n:=n) (by omega)) ?_)
  rintro _ rfl
  dsimp only
  (repeat(first|refine an ?_|refine ae ?_|refine ac ?_|(apply ai;exact rfl;exact rfl;exact rfl)|(apply ah;exact rfl;exact rfl;exact rfl)|(apply aH;exact rfl;exact rfl;exact rfl;exact rfl)))
  refine cI rfl rfl rfl rfl (fun e1=>?_) (fun e1=>?_)
  ·(repeat(first|refine an ?_|refine ae ?_|refine ac ?_|refine ay rfl ?_|(apply ai;exact rfl;exact rfl;exact rfl)|(apply ah;exact rfl;exact rfl;exact rfl)))
   ((apply aP Try.func49 (congrArg Array.toList Try.results49));(focus(repeat(first|exact ResIs.nil|apply ResIs.tmp rfl))))
   refine⟨?_,tz _,fun m hm=>Tr.aa _ _ (by omega)⟩
   rw [← h4,hgo,if_pos (by omega)]
   rfl
  ·(repeat(first|refine ae ?_|refine ac ?_|refine bw ?_|refine aD ?_|refine ax rfl ?_|(apply ai;exact rfl;exact rfl;exact rfl)|(apply cn;exact rfl;exact rfl;exact rfl;exact rfl;(focus(omega));(focus(omega)))))
   exact ih _ _ _ (n+1) ⟨rfl,by omega,by rw [← h4,hgo,if_neg (by omega)],rfl⟩ (by omega) (SlIn.sub (by repeat(first|exact trivial|refine⟨rfl,?_⟩)))
 ·obtain rfl:n=aE p:=by omega
  rw [Nat.sub_self] at h4
  have h4:aE p=bx p:=h4
  (repeat(first|refine an ?_|refine ae ?_|refine ac ?_|refine bZ rfl ?_|refine ax rfl ?_|(apply ai;exact rfl;exact rfl;exact rfl)|(apply ah;exact rfl;exact rfl;exact rfl)|(refine au rfl rfl rfl (by kernel_rfl) (Fnc.mono (eC hb0 hp) ?_);rintro _ rfl;dsimp only)))
  ((apply aP Try.func49 (congrArg Array.toList Try.results49));(focus(repeat(first|exact ResIs.nil|apply ResIs.tmp rfl))))
  refine⟨?_,tz _,fun m hm=>Tr.aa _ _ (by omega)⟩
  rw [← h4]
  rfl
theorem nC{H:ar}{nx b:Nat}{p:List UInt8}(hb:H.at' b=some (pgO p))(hp:l7 p):Fnc Try.prog 49 [.ptr b 0] H nx (fun q=>q=(.sc (.int .i64 (bx p:Int)),H,nx)):=Fnc.bT (fun _ _ _ h=>h) (qI hb hp)
def iw(p:List UInt8):Nat:=aS p-18-4*aE p-(if bx p=aE p then 4 else 0)
theorem pn{H:ar}{nx b:Nat}{p:List UInt8}(hb:H.at' b=some (pgO p))(hp:l7 p):Fnc Try.prog 44 [.ptr b 0] H nx (fun q=>q=(.sc (.int .i64 (iw p:Int)),H,nx)):=by
 have hp0:=hp
 obtain⟨hp,hp1,hp2⟩:=hp
 have hs:aE p<65536:=eF p 14
 have he:=jK p
 refine Fnc.start Try.func44 rfl rfl ?_
 (repeat(first|refine an ?_|refine ae ?_|refine ac ?_|(apply ai;exact rfl;exact rfl;exact rfl)|(apply ah;exact rfl;exact rfl;exact rfl)|(apply jd;exact rfl;exact rfl;exact rfl;exact rfl;(focus(omega));(focus(omega)))|(apply je;exact rfl;exact rfl;exact rfl;exact rfl;(focus(omega));(focus(omega)))|(refine au rfl rfl rfl (by kernel_rfl) (Fnc.mono (eC hb hp) ?_);rintro _ rfl;dsimp only)|(refine au rfl rfl rfl (by kernel_rfl) (Fnc.mono (iX hb hp) ?_);rintro _ rfl;dsimp only)|(refine au rfl rfl rfl (by kernel_rfl) (Fnc.mono (nC hb hp0) ?_);rintro _ rfl;dsimp only)))
 refine cI rfl rfl rfl rfl (fun e1=>?_) (fun e1=>?_)
 ·(repeat(first|refine an ?_|refine ae ?_|refine ac ?_|refine ay rfl ?_|(apply ai;exact rfl;exact rfl;exact rfl)|(apply ah;exact rfl;exact rfl;exact rfl)|(apply jd;exact rfl;exact rfl;exact rfl;exact rfl;(focus(omega));(focus(omega)))|((apply pk (c:=(iw p:Int));exact rfl;exact rfl;exact rfl;exact rfl;(focus(unfold iw;rw [if_pos (by omega)];omega))))))
  ((apply aP Try.func44 (congrArg Array.toList Try.results44));(focus(repeat(first|exact ResIs.nil|apply ResIs.tmp rfl))))
  rfl
 ·(repeat(first|refine an ?_|refine ae ?_|refine ac ?_|refine aD ?_|refine ax rfl ?_|(apply ai;exact rfl;exact rfl;exact rfl)|(apply ah;exact rfl;exact rfl;exact rfl)|((apply pk (c:=(iw p:Int));exact rfl;exact rfl;exact rfl;exact rfl;(focus(unfold iw;rw [if_neg (by omega)];omega))))))
  ((apply aP Try.func44 (congrArg Array.toList Try.results44));(focus(repeat(first|exact ResIs.nil|apply ResIs.tmp rfl))))
  rfl
theorem mS{p:List UInt8}{o:Nat}{l:List UInt8}(h:o+l.length≤p.length)(i:Nat):(eZ p o l)[i]? =if o≤i∧i<o+l.length then l[i-o]? else p[i]? :=by
 have ho:(p.take o).length=o:=by rw [List.length_take];omega
 unfold eZ
 rcases Nat.lt_or_ge i o with h1|h1
 ·rw [if_neg (by omega),List.append_assoc,te (by omega),List.getElem?_take_of_lt h1]
 ·rcases Nat.lt_or_ge i (o+l.length)with h2|h2
  ·rw [if_pos ⟨h1,h2⟩,te (by rw [tp];omega),List.getElem?_append_right (by omega),ho]
  ·rw [if_neg (by omega),List.getElem?_append_right (by rw [tp];omega),tp,ho,List.getElem?_drop]
   congr 1
   omega
theorem qp{p q:List UInt8}{o:Nat}(h: ∀ i,o≤i→i<o+2→p[i]? =q[i]?):jZ p o=jZ q o:=by
 unfold jZ
 congr 1
 refine List.ext_getElem? fun i=>?_
 rcases Nat.lt_or_ge i 2 with hi|hi
 ·rw [List.getElem?_take_of_lt hi,List.getElem?_take_of_lt hi,List.getElem?_drop,List.getElem?_drop]
  exact h _ (by omega) (by omega)
 ·rw [List.getElem?_eq_none (by rw [List.length_take];omega),List.getElem?_eq_none (by rw [List.length_take];omega)]
theorem oH{p:List UInt8}{o o':Nat}{l:List UInt8}(h:o+l.length≤p.length)(h2:o'+2≤o∨o+l.length≤o'):jZ (eZ p o l) o'=jZ p o':=
 qp fun i h3 h4=>by rw [mS h,if_neg (by omega)]
theorem lS{p:List UInt8}{o o' n:Nat}(h:o+2≤p.length)(h2:o'+2≤o∨o+2≤o'):jZ (ja p o n) o'=jZ p o':=
 oH (by rw [cc];exact h) (by rw [cc];exact h2)
theorem ge:gM Try.prog 47 []=some (.agg (pgS zeroP)):=by kernel_rfl
def jt(p:List UInt8):List UInt8:=if bx p=aE p then ja p 14 (bx p+1) else p
def px(p it:List UInt8):List UInt8:=eZ (ja (ew (jt p) (bx p) (aS (jt p)-it.length) it.length) 16 (aS (jt p)-it.length)) (aS (jt p)-it.length) it
def jB(p it:List UInt8):List UInt8×Nat×Nat:=
 if bP p=false then(zeroP,0,4) else if ¬ (1≤it.length∧it.length≤1000) then(zeroP,0,2) else if iw p<it.length then(zeroP,0,5) else(px p it,bx p,0)
abbrev insS(r:List UInt8×Nat×Nat):SV:= .tup [.agg (pgS r.1),.sc (.int .i64 (r.2.1:Int)),.sc (.int .i64 (r.2.2:Int))]
theorem oO{H:ar}{nx:Nat}{p it:List UInt8}{s:SV}(hp:p.length=1024)(hB:BsIs H s (byV it))(hit:it.length≤4611686018427387904):Fnc Try.prog 18 [.agg (pgS p),s] H nx (fun q=>q.1=insS (jB p it)∧nx≤q.2.2∧ ∀ m,m<nx→q.2.1.at' m=H.at' m):=by
 have hlen:(byV it).length=it.length:=by simp
 refine Fnc.start Try.func18 rfl rfl ?_
 refine bv fun hund=>?_
 (repeat(first|refine an ?_|refine ae ?_|refine ac ?_|(apply ah;exact rfl;exact rfl;exact rfl)|(apply ce;exact rfl;exact rfl;exact rfl)|(refine aZ rfl rfl ik ?_)))
 have hb1:((H.set nx (pgO p)).set (nx+1) (pgO zeroP)).at' nx=some (pgO p):=by(focus((repeat(first|exact Tr.ab _ _ _|refine(Tr.aa _ _ (by omega)).trans ?_));done))
 have hz1:((H.set nx (pgO p)).set (nx+1) (pgO zeroP)).at' (nx+1)=some (pgO zeroP):=by(focus((repeat(exact Tr.ab _ _ _));done))
 have ho1: ∀ m,m<nx→((H.set nx (pgO p)).set (nx+1) (pgO zeroP)).at' m=H.at' m:=fun m hm=>by(focus((repeat(refine(Tr.aa _ _ (by omega)).trans ?_));exact rfl))
 have hB2: ∀ H':ar,(∀ m,m<nx→H'.at' m=H.at' m)→BsIs H' s (byV it):=fun H' h=>hB.frame fun b vo hb=>(h b (hund b vo hb)).trans hb
 have hB1:=hB2 _ ho1
 generalize (H.set nx (pgO p)).set (nx+1) (pgO zeroP)=H1 at hb1 hz1 ho1 hB1 ⊢
 cases hr:bP p with
 | false=>
   have hv:jB p it=(zeroP,0,4):=by unfold jB;rw [if_pos hr]
   have hrs:=fun nx=>fm (nx:=nx) hb1 hp
   rw [hr] at hrs
   (repeat(first|refine an ?_|refine ae ?_|refine ac ?_|refine ay rfl ?_|(apply ah;exact rfl;exact rfl;exact rfl)|refine aI rfl rfl rfl rfl (F.sz _ rfl) (by assumption) rfl (by exact s3 rfl) rfl ?_|(apply cG;exact rfl;exact rfl;exact rfl)|(refine au rfl rfl rfl (by kernel_rfl) (Fnc.mono (hrs _) ?_);rintro _ rfl;dsimp only)|(refine dq rfl rfl ge ?_)))
   rw [cy _ _ aw aw]
   ((apply aP Try.func18 (congrArg Array.toList Try.results18));(focus((apply ResIs.cell rfl (LoadIs.many (F.ag _ rfl) (by(repeat(exact Tr.ab _ _ _));done) (cq aw)));(repeat(first|exact ResIs.nil|apply ResIs.tmp rfl)))))
   exact⟨by rw [hv];rfl,by dsimp only;omega,fun m hm=>(Tr.aa _ _ (by omega)).trans (ho1 m hm)⟩
 | true=>
   have hf:=dZ hp hr
   have hrs:=fun nx=>fm (nx:=nx) hb1 hp
   rw [hr] at hrs
   have hmi:=fun(H:ar) nx=>ni (H:=H) (nx:=nx) (n:=it.length)
   have hlB:=hlen
   by_cases hm:1≤it.length∧it.length≤1000
   ·have hmt:decide (1≤it.length∧it.length≤1000)=true:=decide_eq_true hm
    rw [hmt] at hmi
    (repeat(first|refine an ?_|refine ae ?_|refine ac ?_|refine aD ?_|refine ax rfl ?_|(apply ai;exact rfl;exact rfl;exact rfl)|(apply cG;exact rfl;exact rfl;exact rfl)|(refine au rfl rfl rfl (by kernel_rfl) (Fnc.mono (hrs _) ?_);rintro _ rfl;dsimp only)|(refine cH rfl rfl (F.un _ rfl) rfl hB1 ?_;rw [hlen])|(refine au rfl rfl rfl (by kernel_rfl) (Fnc.mono (hmi _ _) ?_);rintro _ rfl;dsimp only)|(refine au rfl rfl rfl (by kernel_rfl) (Fnc.mono (pn hb1 hf) ?_);rintro _ rfl;dsimp only)))
    refine cp rfl rfl rfl rfl (fun h1=>?_) (fun h1=>?_)
    ·have hv:jB p it=(zeroP,0,5):=by unfold jB;rw [if_neg (by rw [hr];decide),if_neg (fun hq=>hq hm),if_pos (by omega)]
     (repeat(first|refine an ?_|refine ae ?_|refine ac ?_|refine ay rfl ?_|(apply ah;exact rfl;exact rfl;exact rfl)|refine aI rfl rfl rfl rfl (F.sz _ rfl) (by assumption) rfl (by exact s3 rfl) rfl ?_|(refine dq rfl rfl ge ?_)))
     rw [cy _ _ aw aw]
     ((apply aP Try.func18 (congrArg Array.toList Try.results18));(focus((apply ResIs.cell rfl (LoadIs.many (F.ag _ rfl) (by(repeat(exact Tr.ab _ _ _));done) (cq aw)));(repeat(first|exact ResIs.nil|apply ResIs.tmp rfl)))))
     exact⟨by rw [hv];rfl,by dsimp only;omega,fun m hm=>(Tr.aa _ _ (by omega)).trans (ho1 m hm)⟩
    ·have hv:jB p it=(px p it,bx p,0):=by unfold jB;rw [if_neg (by rw [hr];decide),if_neg (fun hq=>hq hm),if_neg (by omega)]
     have hel:=jK p
     have hf1:=hf.2.1
     have hf2:=hf.2.2
     have hro:it.length+18+4*aE p+(if bx p=aE p then 4 else 0)≤aS p:=by
      have:iw p=aS p-18-4*aE p-(if bx p=aE p then 4 else 0):=rfl
      omega
     (repeat(first|refine an ?_|refine ae ?_|refine ac ?_|refine aD ?_|refine ax rfl ?_|(apply ai;exact rfl;exact rfl;exact rfl)|(apply ah;exact rfl;exact rfl;exact rfl)|(refine au rfl rfl rfl (by kernel_rfl) (Fnc.mono (nC hb1 hf) ?_);rintro _ rfl;dsimp only)|(refine au rfl rfl rfl (by kernel_rfl) (Fnc.mono (eC hb1 hp) ?_);rintro _ rfl;dsimp only)))
     refine cI rfl rfl rfl rfl (fun e1=>?_) (fun e1=>?_)
     ·have en:bx p=aE p:=by omega
      rw [if_pos en] at hro
      have hmo:ja p 14 (bx p+1)=jt p:=by unfold jt;rw [if_pos en]
      (repeat(first|refine ae ?_|refine ac ?_|refine ay rfl ?_|(apply ai;exact rfl;exact rfl;exact rfl)|(apply cn;exact rfl;exact rfl;exact rfl;exact rfl;(focus(omega));(focus(omega)))))
      rw [show((bx p:Nat):Int)+1=((bx p+1:Nat):Int) by omega]
      refine au rfl rfl rfl (by kernel_rfl) (Fnc.mono (lM hb1 hp (o:=14) (n:=bx p+1) (by decide) (by omega)) ?_)
      rintro⟨_,H2,n2⟩ ⟨rfl,hb2,hn2,g4⟩
      dsimp only at hb2 hn2 g4 ⊢
      have hp1:(ja p 14 (bx p+1)).length=1024:=by rw [c7 (by omega)];exact hp
      have hbe:aS (ja p 14 (bx p+1))=aS p:=lS (by omega) (by omega)
      have k2: ∀ m,m<nx→H2.at' m=H.at' m:=fun m hm=>(g4 m (by omega) (by omega)).trans (ho1 m hm)
      have hz2:H2.at' (nx+1)=some (pgO zeroP):=(g4 _ (by omega) (by omega)).trans hz1
      generalize ja p 14 (bx p+1)=p1 at hmo hb2 hp1 hbe
      (repeat(first|refine an ?_|refine ae ?_|refine ac ?_|(apply ai;exact rfl;exact rfl;exact rfl)|(apply ah;exact rfl;exact rfl;exact rfl)|(apply jd;exact rfl;exact rfl;exact rfl;exact rfl;(focus(omega));(focus(omega)))|(refine au rfl rfl rfl (by kernel_rfl) (Fnc.mono (iX hb2 hp1) ?_);rintro _ rfl;dsimp only)|((apply cH;exact rfl;exact rfl;exact(F.un _ rfl);exact rfl;exact(hB2 _ k2));rw [hlen])))
      rw [show((aS p1:Nat):Int)-(it.length:Int)=((aS p1-it.length:Nat):Int) by omega]
      refine au rfl rfl rfl (by kernel_rfl) (Fnc.mono (mU hb2 hp1 (n:=bx p) (a:=aS p1-it.length) (s:=it.length) (by omega) (by omega) (by omega)) ?_)
      rintro⟨_,H3,n3⟩ ⟨rfl,q2,q3,q4⟩
      dsimp only at q2 q3 q4 ⊢
      have hp2:(ew p1 (bx p) (aS p1-it.length) it.length).length=1024:=by rw [g9 (by omega)];exact hp1
      (repeat(first|refine an ?_|refine ae ?_|refine ac ?_|(apply ai;exact rfl;exact rfl;exact rfl)))
      refine au rfl rfl rfl (by kernel_rfl) (Fnc.mono (lM q2 hp2 (o:=16) (n:=aS p1-it.length) (by decide) (by omega)) ?_)
      rintro⟨_,H4,n4⟩ ⟨rfl,r2,r3,r4⟩
      dsimp only at r2 r3 r4 ⊢
      have hp3:(ja (ew p1 (bx p) (aS p1-it.length) it.length) 16 (aS p1-it.length)).length=1024:=by rw [c7 (by omega)];exact hp2
      have k4: ∀ m,m<nx→H4.at' m=H.at' m:=fun m hm=>(r4 m (by omega) (by omega)).trans ((q4 m (by omega) (by omega)).trans (k2 m hm))
      have hz4:H4.at' (nx+1)=some (pgO zeroP):=(r4 _ (by omega) (by omega)).trans ((q4 _ (by omega) (by omega)).trans hz2)
      (repeat(first|refine an ?_|refine ae ?_|refine ac ?_|(apply ai;exact rfl;exact rfl;exact rfl)|((apply gh (lw:=aS p1-it.length) (hg:=1024) (m:=1024-(aS p1-it.length));exact rfl;exact rfl;exact rfl;exact(F.un _ rfl);exact(F.sz _ rfl);exact rfl;exact rfl;(focus(omega));(focus(omega));(focus(omega));exact rfl;exact rfl;exact(Nat.zero_add _)))))
      refine j9 rfl rfl rfl rfl (F.un _ rfl) (F.sz _ rfl) r2 (hB2 _ k4) (by omega) (by rw [aG hp3];omega) ?_
      rw [kf rfl]
      have hlay:eZ (ja (ew p1 (bx p) (aS p1-it.length) it.length) 16 (aS p1-it.length)) (aS p1-it.length) it=px p it:=by rw [hmo];rfl
      have hp4:(px p it).length=1024:=by rw [← hlay,eY (by omega)];exact hp3
      rw [hlay]
      clear hlay
      generalize px p it=pL at hv hp4 ⊢
      (repeat(first|(apply bj;(exact rfl);(exact rfl);(exact rfl);(exact F.ag _ rfl);(focus((focus((repeat(exact Tr.ab _ _ _));done))));(exact aG hp4))|(apply bF;(exact rfl);(exact rfl);(exact rfl);(exact F.sz _ rfl);(focus((focus((repeat(first|assumption|refine(Tr.aa _ _ (by omega)).trans ?_));done))));(exact aG hp4);(rw [aG aw];exact th _);(exact da _);(exact cy _ _ aw hp4))|refine an ?_|refine ae ?_|refine ac ?_|(apply ai;exact rfl;exact rfl;exact rfl)|(apply ah;exact rfl;exact rfl;exact rfl)))
      ((apply aP Try.func18 (congrArg Array.toList Try.results18));(focus((apply ResIs.cell rfl (LoadIs.many (F.ag _ rfl) (by(repeat(exact Tr.ab _ _ _));done) (cq hp4)));(repeat(first|exact ResIs.nil|apply ResIs.tmp rfl)))))
      exact⟨by rw [hv];rfl,tw (tw (tz _) (tz _)) (tw hn2 (tw q3 r3)),fun m hm=>(Tr.aa _ _ (by omega)).trans ((Tr.aa _ _ (by omega)).trans (k4 m hm))⟩
     ·have en: ¬ bx p=aE p:=by omega
      rw [if_neg en] at hro
      obtain⟨p1,hmo,hb2,hp1,hbe⟩: ∃ p1,p1=jt p∧H1.at' nx=some (pgO p1)∧p1.length=1024∧aS p1=aS p:=⟨p,by unfold jt;rw [if_neg en],hb1,hp,rfl⟩
      have hz2:=hz1
      have k2:=ho1
      have hn2:nx+1+1≤nx+1+1:=th _
      (repeat(first|refine an ?_|refine ae ?_|refine ac ?_|refine aD ?_|refine ax rfl ?_|(apply ai;exact rfl;exact rfl;exact rfl)|(apply ah;exact rfl;exact rfl;exact rfl)|(apply jd;exact rfl;exact rfl;exact rfl;exact rfl;(focus(omega));(focus(omega)))|(refine au rfl rfl rfl (by kernel_rfl) (Fnc.mono (iX hb2 hp1) ?_);rintro _ rfl;dsimp only)|((apply cH;exact rfl;exact rfl;exact(F.un _ rfl);exact rfl;exact(hB2 _ k2));rw [hlen])))
      rw [show((aS p1:Nat):Int)-(it.length:Int)=((aS p1-it.length:Nat):Int) by omega]
      refine au rfl rfl rfl (by kernel_rfl) (Fnc.mono (mU hb2 hp1 (n:=bx p) (a:=aS p1-it.length) (s:=it.length) (by omega) (by omega) (by omega)) ?_)
      rintro⟨_,H3,n3⟩ ⟨rfl,q2,q3,q4⟩
      dsimp only at q2 q3 q4 ⊢
      have hp2:(ew p1 (bx p) (aS p1-it.length) it.length).length=1024:=by rw [g9 (by omega)];exact hp1
      (repeat(first|refine an ?_|refine ae ?_|refine ac ?_|(apply ai;exact rfl;exact rfl;exact rfl)))
      refine au rfl rfl rfl (by kernel_rfl) (Fnc.mono (lM q2 hp2 (o:=16) (n:=aS p1-it.length) (by decide) (by omega)) ?_)
      rintro⟨_,H4,n4⟩ ⟨rfl,r2,r3,r4⟩
      dsimp only at r2 r3 r4 ⊢
      have hp3:(ja (ew p1 (bx p) (aS p1-it.length) it.length) 16 (aS p1-it.length)).length=1024:=by rw [c7 (by omega)];exact hp2
      have k4: ∀ m,m<nx→H4.at' m=H.at' m:=fun m hm=>(r4 m (by omega) (by omega)).trans ((q4 m (by omega) (by omega)).trans (k2 m hm))
      have hz4:H4.at' (nx+1)=some (pgO zeroP):=(r4 _ (by omega) (by omega)).trans ((q4 _ (by omega) (by omega)).trans hz2)
      (repeat(first|refine an ?_|refine ae ?_|refine ac ?_|(apply ai;exact rfl;exact rfl;exact rfl)|((apply gh (lw:=aS p1-it.length) (hg:=1024) (m:=1024-(aS p1-it.length));exact rfl;exact rfl;exact rfl;exact(F.un _ rfl);exact(F.sz _ rfl);exact rfl;exact rfl;(focus(omega));(focus(omega));(focus(omega));exact rfl;exact rfl;exact(Nat.zero_add _)))))
      refine j9 rfl rfl rfl rfl (F.un _ rfl) (F.sz _ rfl) r2 (hB2 _ k4) (by omega) (by rw [aG hp3];omega) ?_
      rw [kf rfl]
      have hlay:eZ (ja (ew p1 (bx p) (aS p1-it.length) it.length) 16 (aS p1-it.length)) (aS p1-it.length) it=px p it:=by rw [hmo];rfl
      have hp4:(px p it).length=1024:=by rw [← hlay,eY (by omega)];exact hp3
      rw [hlay]
      clear hlay
      generalize px p it=pL at hv hp4 ⊢
      (repeat(first|(apply bj;(exact rfl);(exact rfl);(exact rfl);(exact F.ag _ rfl);(focus((focus((repeat(exact Tr.ab _ _ _));done))));(exact aG hp4))|(apply bF;(exact rfl);(exact rfl);(exact rfl);(exact F.sz _ rfl);(focus((focus((repeat(first|assumption|refine(Tr.aa _ _ (by omega)).trans ?_));done))));(exact aG hp4);(rw [aG aw];exact th _);(exact da _);(exact cy _ _ aw hp4))|refine an ?_|refine ae ?_|refine ac ?_|(apply ai;exact rfl;exact rfl;exact rfl)|(apply ah;exact rfl;exact rfl;exact rfl)))
      ((apply aP Try.func18 (congrArg Array.toList Try.results18));(focus((apply ResIs.cell rfl (LoadIs.many (F.ag _ rfl) (by(repeat(exact Tr.ab _ _ _));done) (cq hp4)));(repeat(first|exact ResIs.nil|apply ResIs.tmp rfl)))))
      exact⟨by rw [hv];rfl,tw (tw (tz _) (tz _)) (tw hn2 (tw q3 r3)),fun m hm=>(Tr.aa _ _ (by omega)).trans ((Tr.aa _ _ (by omega)).trans (k4 m hm))⟩
   ·have hmt:decide (1≤it.length∧it.length≤1000)=false:=decide_eq_false hm
    rw [hmt] at hmi
    have hv:jB p it=(zeroP,0,2):=by unfold jB;rw [if_neg (by rw [hr];decide),if_pos hm]
    (repeat(first|refine an ?_|refine ae ?_|refine ac ?_|refine aD ?_|refine ay rfl ?_|refine ax rfl ?_|(apply ai;exact rfl;exact rfl;exact rfl)|(apply ah;exact rfl;exact rfl;exact rfl)|refine aI rfl rfl rfl rfl (F.sz _ rfl) (by assumption) rfl (by exact s3 rfl) rfl ?_|(apply cG;exact rfl;exact rfl;exact rfl)|(refine au rfl rfl rfl (by kernel_rfl) (Fnc.mono (hrs _) ?_);rintro _ rfl;dsimp only)|(refine cH rfl rfl (F.un _ rfl) rfl hB1 ?_;rw [hlen])|(refine au rfl rfl rfl (by kernel_rfl) (Fnc.mono (hmi _ _) ?_);rintro _ rfl;dsimp only)|(refine dq rfl rfl ge ?_)))
    rw [cy _ _ aw aw]
    ((apply aP Try.func18 (congrArg Array.toList Try.results18));(focus((apply ResIs.cell rfl (LoadIs.many (F.ag _ rfl) (by(repeat(exact Tr.ab _ _ _));done) (cq aw)));(repeat(first|exact ResIs.nil|apply ResIs.tmp rfl)))))
    exact⟨by rw [hv];rfl,by dsimp only;omega,fun m hm=>(Tr.aa _ _ (by omega)).trans (ho1 m hm)⟩
theorem Free.pF{a b c:SV}(ha:Free a)(hb:Free b)(hc:Free c):Free (.tup [a,b,c]):=fun e e' u h=>by
 simp only [SV.conc,SV.aq] at h ⊢
 cases h1:a.conc e with
 | none=>rw [h1] at h;simp at h
 | some x=>
   cases h2:b.conc e with
   | none=>rw [h1,h2] at h;simp at h
   | some y=>
     cases h3:c.conc e with
     | none=>rw [h1,h2,h3] at h;simp at h
     | some z=>
       rw [h1,h2,h3] at h
       rw [ha e e' x h1,hb e e' y h2,hc e e' z h3]
       exact h
theorem no(r:List UInt8×Nat×Nat):Free (insS r):=Free.pF (Free.agg _) (Free.sc _) (Free.sc _)
theorem oN{H:ar}{nx:Nat}{p it:List UInt8}{s:SV}(hp:p.length=1024)(hB:BsIs H s (byV it))(hit:it.length≤4611686018427387904):Fnc Try.prog 18 [.agg (pgS p),s] H nx (fun q=>q=(insS (jB p it),H,nx)):=Fnc.bT (no _) (oO hp hB hit)
def ko(p:List UInt8)(n:Nat):Nat×Nat×Nat:=if aE p≤n then(0,0,6) else if a9 p n=0 then(0,0,6) else(aX p n,a9 p n,0)
abbrev sK(r:Nat×Nat×Nat):SV:= .tup [.sc (.int .i64 (r.1:Int)),.sc (.int .i64 (r.2.1:Int)),.sc (.int .i64 (r.2.2:Int))]
theorem sJ{H:ar}{nx b n:Nat}{p:List UInt8}(hb:H.at' b=some (pgO p))(hp:l7 p):Fnc Try.prog 55 [.ptr b 0,.sc (.int .i64 (n:Int))] H nx (fun q=>q.1=sK (ko p n)∧nx≤q.2.2∧ ∀ m,m<nx→q.2.1.at' m=H.at' m):=by
 obtain⟨hp,hp1,hp2⟩:=hp
 refine Fnc.start Try.func55 rfl rfl ?_
 refine bv fun hund=>?_
 have hlt:=hund _ _ hb
 have hb0: ∀ {vo:VO},(H.set nx vo).at' b=some (pgO p):=fun {vo}=>(Tr.aa _ _ (by omega)).trans hb
 (repeat(first|refine an ?_|refine ae ?_|refine ac ?_|(apply ai;exact rfl;exact rfl;exact rfl)|(apply ah;exact rfl;exact rfl;exact rfl)|(refine au rfl rfl rfl (by kernel_rfl) (Fnc.mono (eC hb hp) ?_);rintro _ rfl;dsimp only)))
 refine kJ rfl rfl rfl rfl (fun h1=>?_) (fun h1=>?_)
 ·(repeat(first|refine an ?_|refine ae ?_|refine ac ?_|refine ay rfl ?_|(apply ah;exact rfl;exact rfl;exact rfl)))
  ((apply aP Try.func55 (congrArg Array.toList Try.results55));(focus(repeat(first|exact ResIs.nil|apply ResIs.tmp rfl))))
  refine⟨?_,th _,fun m hm=>rfl⟩
  unfold ko
  rw [if_pos (by omega)]
  rfl
 ·(repeat(first|refine an ?_|refine ae ?_|refine ac ?_|refine aD ?_|refine ax rfl ?_|(apply ai;exact rfl;exact rfl;exact rfl)|(refine au rfl rfl rfl (by kernel_rfl) (Fnc.mono (fY) ?_);rintro _ rfl;dsimp only)))
  refine gj rfl rfl rfl rfl (by kernel_rfl) (Fnc.mono (im (Tr.ab _ _ _) hb0 hp (n:=n) (by omega)) ?_)
  rintro _ rfl
  dsimp only
  (repeat(first|refine an ?_|refine ae ?_|refine ac ?_|(apply ai;exact rfl;exact rfl;exact rfl)|(apply ah;exact rfl;exact rfl;exact rfl)|(apply aH;exact rfl;exact rfl;exact rfl;exact rfl)))
  refine cI rfl rfl rfl rfl (fun h2=>?_) (fun h2=>?_)
  ·(repeat(first|refine an ?_|refine ae ?_|refine ac ?_|refine ay rfl ?_|(apply ah;exact rfl;exact rfl;exact rfl)))
   ((apply aP Try.func55 (congrArg Array.toList Try.results55));(focus(repeat(first|exact ResIs.nil|apply ResIs.tmp rfl))))
   refine⟨?_,tz _,fun m hm=>Tr.aa _ _ (by omega)⟩
   unfold ko
   rw [if_neg (by omega),if_pos (by omega)]
   rfl
  ·(repeat(first|refine an ?_|refine ae ?_|refine ac ?_|refine aD ?_|refine ax rfl ?_|(apply ai;exact rfl;exact rfl;exact rfl)|(apply ah;exact rfl;exact rfl;exact rfl)))
   ((apply aP Try.func55 (congrArg Array.toList Try.results55));(focus(repeat(first|exact ResIs.nil|apply ResIs.tmp rfl))))
   refine⟨?_,tz _,fun m hm=>Tr.aa _ _ (by omega)⟩
   unfold ko
   rw [if_neg (by omega),if_neg (by omega)]
   rfl
theorem sI{H:ar}{nx b n:Nat}{p:List UInt8}(hb:H.at' b=some (pgO p))(hp:l7 p):Fnc Try.prog 55 [.ptr b 0,.sc (.int .i64 (n:Int))] H nx (fun q=>q=(sK (ko p n),H,nx)):=Fnc.bT (Free.pF (Free.sc _) (Free.sc _) (Free.sc _)) (sJ hb hp)
abbrev pgE(r:List UInt8×Nat):SV:= .tup [.agg (pgS r.1),.sc (.int .i64 (r.2:Int))]
theorem kU(r:List UInt8×Nat):Free (pgE r):=Free.two (Free.agg _) (Free.sc _)
theorem qS{H:ar}{nx:Nat}{p:List UInt8}(hp:p.length=1024):Fnc Try.prog 53 [.agg (pgS p)] H nx (fun q=>q.1 = .sc (.bool (bP p))∧nx≤q.2.2∧ ∀ m,m<nx→q.2.1.at' m=H.at' m):=by
 refine Fnc.start Try.func53 rfl rfl ?_
 have hb1:(H.set nx (pgO p)).at' nx=some (pgO p):=Tr.ab _ _ _
 (repeat(first|refine an ?_|refine ae ?_|refine ac ?_|(apply ah;exact rfl;exact rfl;exact rfl)|(apply ce;exact rfl;exact rfl;exact rfl)|(refine au rfl rfl rfl (by kernel_rfl) (Fnc.mono (fm hb1 hp) ?_);rintro _ rfl;dsimp only)))
 ((apply aP Try.func53 (congrArg Array.toList Try.results53));(focus(repeat(first|exact ResIs.nil|apply ResIs.tmp rfl))))
 exact⟨rfl,tz _,fun m hm=>Tr.aa _ _ (by omega)⟩
theorem qR{H:ar}{nx:Nat}{p:List UInt8}(hp:p.length=1024):Fnc Try.prog 53 [.agg (pgS p)] H nx (fun q=>q=(.sc (.bool (bP p)),H,nx)):=Fnc.bT (fun _ _ _ h=>h) (qS hp)
abbrev sA(f q:Nat):SV:= .fn (.func 60) [] [.ptr f 0,.ptr q 0]
theorem qA{H:ar}{nx:Nat}{p:List UInt8}(hp:p.length=1024):Fnc Try.prog 26 [.agg (pgS p)] H nx (fun q=>q=(sA (nx+1) nx,(H.set nx (pgO p)).set (nx+1) (am 4 [.sc (.bool (bP p))]),nx+1+1)):=by
 refine Fnc.start Try.func26 rfl rfl ?_
 have hb1:(H.set nx (pgO p)).at' nx=some (pgO p):=Tr.ab _ _ _
 (repeat(first|refine an ?_|refine ae ?_|refine ac ?_|(apply ah;exact rfl;exact rfl;exact rfl)|(apply bH;exact rfl;exact rfl;exact rfl;exact rfl)|refine aI rfl rfl rfl rfl (F.sz _ rfl) (by(repeat(first|assumption|exact Tr.ab _ _ _));done) rfl (by exact s3 rfl) rfl ?_|(apply aZ;exact rfl;exact rfl;exact(F.zl _ rfl))|(apply ce;exact rfl;exact rfl;exact rfl)|(refine au rfl rfl rfl (by kernel_rfl) (Fnc.mono (fm hb1 hp) ?_);rintro _ rfl;dsimp only)))
 ((apply aP Try.func26 (congrArg Array.toList Try.results26));(focus(repeat(first|exact ResIs.nil|apply ResIs.tmp rfl))))
 refine Prod.ext rfl (Prod.ext ?_ rfl)
 funext n
 by_cases hn:n=nx+1
 ·subst hn
  exact(Tr.ab _ _ _).trans (Tr.ab _ _ _).symm
 ·exact(Tr.aa _ _ hn).trans ((Tr.aa _ _ hn).trans (Tr.aa _ _ hn).symm)
def LsIs(H:ar)(ls:List SV)(bs:List (List Value)):Prop:=ls.length=bs.length∧ ∀ (j:Nat) s vs,ls[j]? =some s→bs[j]? =some vs→BsIs H s vs
abbrev bsR(ro:Bool)(ls:List SV):VO:=rZ ro ls.length 1 27 ls
abbrev u8R(ro:Bool)(vs:List Value):VO:=dat ro vs.length 1 5 vs
abbrev u8Z:Value:= .int .u8 0
theorem LsIs.at{H:ar}{ls:List SV}{bs:List (List Value)}(h:LsIs H ls bs){j:Nat}(hj:j<ls.length): ∃ s vs,ls[j]? =some s∧bs[j]? =some vs∧BsIs H s vs:=by
 obtain⟨h1,h2⟩:=h
 exact⟨ls[j],bs[j]'(by omega),by simp [hj],by rw [sY],h2 j _ _ (by simp [hj]) (by rw [sY])⟩
theorem e8{bs:List (List Value)}{j:Nat}{vs:List Value}(h:bs[j]? =some vs):(bs.take (j+1)).flatten=(bs.take j).flatten ++ vs:=by
 rw [List.take_add_one,h]
 simp
theorem kn(bs:List (List Value))(j:Nat):(bs.take j).flatten.length≤bs.flatten.length:=by
 conv=>rhs;rw [← List.take_append_drop j bs,List.flatten_append,tp]
 omega
theorem sy{H:ar}{nx r:Nat}{ro:Bool}{ls:List SV}{bs:List (List Value)}(hr:H.at' r=some (bsR ro ls))(hb:LsIs H ls bs)(hsz:bs.flatten.length≤140737488355328)(hl:ls.length≤4611686018427387904):Fnc Try.prog 42 [.slu r 0 ls.length] H nx
 (fun q=> ∃ r',q.1 = .slu r' 0 bs.flatten.length∧q.2.1.at' r'=some (u8R false bs.flatten)∧nx≤r'∧r'<q.2.2∧nx≤q.2.2∧ ∀ n,n<nx→q.2.1.at' n=H.at' n):=by
 refine Fnc.start Try.func42 rfl rfl ?_
 refine bv fun hund=>?_
 have hlt:=hund _ _ hr
 (repeat(first|refine an ?_|refine ae ?_|refine ac ?_|refine bf ?_|(apply ai;exact rfl;exact rfl;exact rfl)|(apply ah;exact rfl;exact rfl;exact rfl)|(apply ip;exact rfl;exact rfl;exact rfl;exact(F.un _ rfl))))
 refine db (α:=Nat) (fun j=> [(0,.slu r 0 ls.length),(2,.sc (.slice none 0 0)),(3,.sc (.int .i64 ((bs.take j).flatten.length:Nat))),(9,.slu r 0 ls.length),(10,.sc (.int .i64 (ls.length:Int))),(11,.sc (.int .i64 (j:Int)))]) (fun j H1 n1=>H1=H∧n1=nx∧j≤ls.length) (fun j=>ls.length-j) 0
  ⟨rfl,rfl,ti _⟩ (SlIn.sub (by repeat(first|exact trivial|refine⟨rfl,?_⟩))) ?_
 rintro j H1 n1 ⟨rfl,rfl,h1⟩ ih
 (repeat(first|refine an ?_|refine ae ?_))
 (apply bC;exact rfl;exact rfl;exact rfl;exact rfl)
 all_goals intro h6
 ·obtain⟨s,vs,g1,g2,g3⟩:=hb.at (j:=j) (by omega)
  have hle:=kn bs (j+1)
  have hft:=e8 g2
  rw [hft,tp] at hle
  have hcell:(bsR ro ls).cell (j*1)=some s:=gK (by rw [Nat.mul_one];exact g1) (by omega)
  (repeat(first|refine an ?_|refine ae ?_|refine ac ?_|refine bf ?_|refine bw ?_|refine aD ?_|refine ay rfl ?_|(apply ai;exact rfl;exact rfl;exact rfl)|(apply ah;exact rfl;exact rfl;exact rfl)|(apply cn;exact rfl;exact rfl;exact rfl;exact rfl;(focus(omega));(focus(omega)))|refine kI (q:=j) rfl rfl rfl rfl (F.un _ rfl) (F.sz _ rfl) (by assumption) (by omega) (by(omega)) (th _) ?_|(refine fG rfl rfl rfl (F.ag _ rfl) hr hcell ?_)|(refine cH rfl rfl (F.un _ rfl) rfl g3 ?_)))
  refine ih _ _ _ (j+1) ⟨rfl,rfl,by omega⟩ (by omega) ?_
  rw [hft,tp]
  exact SlIn.sub (by repeat(first|exact trivial|refine⟨rfl,?_⟩))
 ·obtain rfl:j=ls.length:=by omega
  have hall:bs.take ls.length=bs:=s9 (by have:=hb.1;omega)
  rw [hall]
  (repeat(first|refine an ?_|refine ae ?_|refine ac ?_|refine bf ?_|refine bZ rfl ?_|refine ax rfl ?_|(apply ai;exact rfl;exact rfl;exact rfl)|(apply ah;exact rfl;exact rfl;exact rfl)|(apply ip;exact rfl;exact rfl;exact rfl;exact(F.un _ rfl))|((apply io (z:=u8Z) (bb:=1) (n:=0) (m:=bs.flatten.length);exact rfl;exact rfl;exact(F.un _ rfl);exact(F.sz _ rfl);exact(F.ze _ rfl);(focus(kernel_rfl));exact rfl;exact rfl;exact rfl;exact(ti _);(focus(omega));(focus(omega))))))
  have hrep: ∀ n,lR (List.replicate n u8Z):=fun n v hv=>by rw [(List.mem_replicate.1 hv).2];rfl
  refine db (α:=Nat) (fun j=> [(0,.slu r 0 ls.length),(6,.slu n1 0 (bs.take j).flatten.length),(22,.slu r 0 ls.length),(23,.sc (.int .i64 (ls.length:Int))),(24,.sc (.int .i64 (j:Int)))]) (fun j H2 n2=>n2=n1+1∧j≤ls.length∧H2.at' n1=some (dat false bs.flatten.length 1 5 ((bs.take j).flatten ++ List.replicate (bs.flatten.length-(bs.take j).flatten.length) u8Z))∧ ∀ n,n<n1→H2.at' n=H1.at' n) (fun j=>ls.length-j) 0
   ⟨rfl,ti _,by rw [Tr.ab];simp,fun n hn=>Tr.aa _ _ (by omega)⟩ (SlIn.sub (by repeat(first|exact trivial|refine⟨rfl,?_⟩))) ?_
  clear ih
  rintro j H2 n2 ⟨rfl,h2,h3,h4⟩ ih
  have hr2:H2.at' r=some (bsR ro ls):=(h4 r hlt).trans hr
  (repeat(first|refine an ?_|refine ae ?_))
  (apply bC;exact rfl;exact rfl;exact rfl;exact rfl)
  all_goals intro h7
  ·obtain⟨s,vs,g1,g2,g3⟩:=hb.at (j:=j) (by omega)
   have g4:BsIs H2 s vs:=g3.frame fun b vo hbv=>(h4 b (hund b vo hbv)).trans hbv
   have hle:=kn bs (j+1)
   have hle0:=kn bs j
   have hft:=e8 g2
   rw [hft,tp] at hle
   have hcell:(bsR ro ls).cell (j*1)=some s:=gK (by rw [Nat.mul_one];exact g1) (by omega)
   (repeat(first|refine an ?_|refine ae ?_|refine ac ?_|refine bf ?_|refine aD ?_|refine ay rfl ?_|(apply ai;exact rfl;exact rfl;exact rfl)|(apply ah;exact rfl;exact rfl;exact rfl)|refine kI (q:=j) rfl rfl rfl rfl (F.un _ rfl) (F.sz _ rfl) (by assumption) (by omega) (by(omega)) (th _) ?_|(refine fG rfl rfl rfl (F.ag _ rfl) hr2 hcell ?_)))
   rcases Nat.eq_zero_or_pos vs.length with h0|h0
   ·have:vs= []:=td h0
    subst this
    refine mq (vs:= []) rfl rfl rfl rfl (F.un _ rfl) (.inl ⟨_,F.un _ rfl⟩) (F.sz _ rfl) (by decide) h3 (by omega) (BsIs.rdv g4) g4.1 ?_
    (repeat(first|refine ae ?_|refine ac ?_|refine bw ?_|(apply ai;exact rfl;exact rfl;exact rfl)|(apply ah;exact rfl;exact rfl;exact rfl)|(apply cn;exact rfl;exact rfl;exact rfl;exact rfl;(focus(omega));(focus(omega)))))
    refine ih _ _ _ (j+1) ⟨rfl,by omega,by rw [hft,List.append_nil];exact h3,h4⟩ (by omega) ?_
    rw [hft,List.append_nil]
    exact SlIn.sub (by repeat(first|exact trivial|refine⟨rfl,?_⟩))
   ·refine lI (vs:=vs) (ws:=(bs.take (j+1)).flatten ++ List.replicate (bs.flatten.length-(bs.take (j+1)).flatten.length) u8Z) rfl rfl rfl rfl (F.un _ rfl) (.inl ⟨_,F.un _ rfl⟩) (F.sz _ rfl) h3 (BsIs.rdv g4) g4.1 (by omega) (by omega) (by omega) (by rw [tp,List.length_replicate];omega) ?_ ?_
    ·rw [hft,tp,Nat.zero_add,Nat.mul_one,Nat.mul_one,List.take_left' rfl,←List.drop_drop,List.drop_left' rfl,List.drop_replicate,Nat.sub_sub]
    ·(repeat(first|refine ae ?_|refine ac ?_|refine bw ?_|(apply ai;exact rfl;exact rfl;exact rfl)|(apply ah;exact rfl;exact rfl;exact rfl)|(apply cn;exact rfl;exact rfl;exact rfl;exact rfl;(focus(omega));(focus(omega)))))
     refine ih _ _ _ (j+1) ⟨rfl,by omega,Tr.ab _ _ _,fun n hn=>(Tr.aa _ _ (by omega)).trans (h4 n hn)⟩ (by omega) ?_
     rw [hft,tp]
     exact SlIn.sub (by repeat(first|exact trivial|refine⟨rfl,?_⟩))
  ·obtain rfl:j=ls.length:=by omega
   rw [hall] at h3 ⊢
   (repeat(first|refine an ?_|refine ae ?_|refine ac ?_|refine bZ rfl ?_|refine ax rfl ?_|(apply ai;exact rfl;exact rfl;exact rfl)|(apply ah;exact rfl;exact rfl;exact rfl)))
   ((apply aP Try.func42 (congrArg Array.toList Try.results42));(focus(repeat(first|exact ResIs.nil|apply ResIs.tmp rfl))))
   refine⟨n1,rfl,?_,th _,Nat.lt_succ_self _,tz _,h4⟩
   rw [Nat.sub_self,List.replicate_zero,List.append_nil] at h3
   exact h3
theorem jy{H:ar}{nx r:Nat}{ro:Bool}{ls:List SV}{bs:List (List Value)}(hr:H.at' r=some (bsR ro ls))(hb:LsIs H ls bs)(hsz:bs.flatten.length≤140737488355328)(hl:ls.length≤4611686018427387904):Fnc Try.prog 42 [.slu r 0 ls.length] H nx
 (fun q=>q=(.slu nx 0 bs.flatten.length,H.set nx (u8R false bs.flatten),nx+1)):=Fnc.next (sy hr hb hsz hl)
abbrev gQ:=List UInt8×List UInt8×Nat×Nat
def pq(v:gQ):Bool:=decide ((1≤v.1.length∧v.1.length≤32)∧v.2.1.length≤128∧(1≤v.2.2.1∧v.2.2.1≤4000)∧v.2.2.2≤4000)
def eh(l:List UInt8):List UInt8:=beB l.length 2 ++ l
def cJ(v:gQ):List UInt8:=beB v.2.2.1 8 ++ (beB v.2.2.2 8 ++ (eh v.1 ++ eh v.2.1))
theorem hY(v:gQ):(cJ v).length=20+v.1.length+v.2.1.length:=by
 unfold cJ eh
 simp only [tp,cc]
 omega
def b7:Option (List UInt8)→Nat→List UInt8×Option (List UInt8)
 | none,_=>([],none)
 | some l,n=>if n≤l.length then(l.take n,some (l.drop n)) else([],none)
theorem kN{l:List UInt8}{n:Nat}(h:n≤l.length):b7 (some l) n=(l.take n,some (l.drop n)):=if_pos h
theorem iu{l:List UInt8}{n:Nat}(h:l.length<n):b7 (some l) n=([],none):=if_neg (by omega)
def gN(st:Option (List UInt8)):List UInt8×Option (List UInt8):=b7 (b7 st 2).2 (beN (b7 st 2).1)
def jr(l:List UInt8):gQ×Option (List UInt8):=
 let a:=b7 (some l) 8
 let b:=b7 a.2 8
 let k:=gN b.2
 let v:=gN k.2
 ((k.1,v.1,beN a.1,beN b.1),v.2)
def sL(st:Option (List UInt8))(v:gQ):Option gQ:=if st=some []∧pq v=true then some v else none
theorem qE{st:Option (List UInt8)}{v:gQ}(h:st≠some []):sL st v=none:=if_neg fun h'=>h h'.1
def ofV(l:List UInt8):Option gQ:=if 180<l.length then none else sL (jr l).2 (jr l).1
theorem lx(n size:Nat):beB n (size+1)=UInt8.ofNat (n / 256 ^ size) :: beB n size:=by
 unfold beB
 rw [List.range_succ_eq_map,tj,List.map_map]
 congr 1
 refine List.map_congr_left fun i _=>?_
 simp only [Function.comp]
 rw [show size+1-1-(i+1)=size-1-i by omega]
end Go.Proofs.Ytnhmbonmlfeifaa
end
section
namespace Go.Sy.Nq
open Go Go.Sy Go.Sl Go.RowKit
def ReadQ(P:Program)(rn:Rn)(T:Tr SV)(H:ar)(nx:Nat)(o:Oper)(v:SV):Prop:=ReadDoes P T H o v∨dh P rn T H nx o (v,H,nx)
def lD(P:Program)(rn:Rn)(nt:Nat)(ops:Array Oper)(i:Nat)(o:Oper)(s s':DS):Prop:=
 (ak (aO s.T (aM ops.toList o)) ops o=some false∧s' = {s with T:=eg nt s.T o.dst cf,recs:=⟨i,o,aO s.T (aM ops.toList o),s.stg,false,false,cf⟩ :: s.recs}) ∨
 (ak (aO s.T (aM ops.toList o)) ops o=some true∧(∀ c,o.op ≠ .defer c)∧ ∃ v,ReadQ P rn (aO s.T (aM ops.toList o)) s.H s.nx o v∧s' = {s with T:=eg nt s.T o.dst v,recs:=⟨i,o,aO s.T (aM ops.toList o),s.stg,false,true,v⟩ :: s.recs}) ∨
 (ak (aO s.T (aM ops.toList o)) ops o=some true∧ ∃ v H nx,dh P rn (aO s.T (aM ops.toList o)) s.H s.nx o (v,H,nx)∧s'=⟨eg nt s.T o.dst v,H,nx,⟨i,o,aO s.T (aM ops.toList o),s.stg,true,true,v⟩ :: s.recs,(H,nx) :: s.Hs,s.stg+1⟩)
inductive DrawRunQ (P:Program) (rn:Rn) (nt:Nat) (ops:Array Oper):Nat→List Oper→DS→DS→Prop
 | nil (i:Nat) (s:DS):DrawRunQ P rn nt ops i [] s s
 | cons {i:Nat} {o:Oper} {l:List Oper} {s s1 s':DS}:lD P rn nt ops i o s s1→DrawRunQ P rn nt ops (i+1) l s1 s'→DrawRunQ P rn nt ops i (o :: l) s s'
section
variable (P:Program) (rn:Rn) (nt:Nat) (ops:Array Oper) (T0:Tr SV)
def Src(R:List Rec)(i:Nat)(t:Nat)(s:SV):Prop:=
 (∃ (k:Nat) (r:Rec),k<i∧R[k]? =some r∧r.o.dst=some t∧r.val=s)∨((∀ (k:Nat) (r:Rec),k<i→R[k]? =some r→r.o.dst≠some t)∧T0.at' t=some s)
structure RecOK (R:List Rec) (Q:List (ar×Nat)) (C:List Nat) (i:Nat) (r:Rec):Prop where
 idx:r.i=i
 op:ops[i]? =some r.o
 slots: ∀ t s,r.T.at' t=some s→Operand.tmp t∈aM ops.toList r.o∧Src T0 R i t s
 want:ak r.T ops r.o=some r.wanted
 skip:r.wanted=false→r.val=cf∧r.chain=false
 float:r.wanted=true→r.chain=false→(∀ c,r.o.op ≠ .defer c)∧ ∃ H n,Q[r.stg]? =some (H,n)∧ReadQ P rn r.T H n r.o r.val
 eff:r.chain=true→r.wanted=true∧C[r.stg]? =some i∧ ∃ H n H' n',Q[r.stg]? =some (H,n)∧Q[r.stg+1]? =some (H',n')∧dh P rn r.T H n r.o (r.val,H',n')
structure DSOK (i:Nat) (s:DS):Prop where
 len:s.recs.length=i
 hs:s.Hs.length=s.stg+1
 last:s.Hs.reverse[s.stg]? =some (s.H,s.nx)
 cnt:((s.recs.reverse.filter (·.chain)).map (·.i)).length=s.stg
 recs: ∀ (k:Nat) r,s.recs.reverse[k]? =some r→RecOK P rn ops T0 s.recs.reverse s.Hs.reverse ((s.recs.reverse.filter (·.chain)).map (·.i)) k r
 slots: ∀ t v,s.T.at' t=some v→Src T0 s.recs.reverse i t v
end
section
variable {P:Program} {rn:Rn} {nt:Nat} {ops:Array Oper} {T0:Tr SV}
theorem Src.mono{R R':List Rec}{i:Nat}{t:Nat}{s:SV}(h:Src T0 R i t s)(hR: ∀ k,k<i→R'[k]? =R[k]?):Src T0 R' i t s:=by
 rcases h with ⟨k,r,h1,h2,h3,h4⟩|⟨h1,h2⟩
 ·exact .inl ⟨k,r,h1,by rw [hR k h1];exact h2,h3,h4⟩
 ·exact .inr ⟨fun k r hk hr=>h1 k r hk (by rw [← hR k hk];exact hr),h2⟩
theorem RecOK.mono{R R':List Rec}{Q Q':List (ar×Nat)}{C C':List Nat}{i:Nat}{r:Rec}(h:RecOK P rn ops T0 R Q C i r)(hR: ∀ k,k<i→R'[k]? =R[k]?)(hQ: ∀ (j:Nat) x,Q[j]? =some x→Q'[j]? =some x)(hC: ∀ (j:Nat) x,C[j]? =some x→C'[j]? =some x) :
 RecOK P rn ops T0 R' Q' C' i r:=
 ⟨h.idx,h.op,fun t s hs=>let ⟨a,b⟩:=h.slots t s hs;⟨a,b.mono hR⟩,h.want,h.skip,fun a b=>let ⟨x,H,n,c,d⟩:=h.float a b;⟨x,H,n,hQ _ _ c,d⟩,
   fun a=>let ⟨b,c,H,n,H',n',d,e,f⟩:=h.eff a;⟨b,hC _ _ c,H,n,H',n',hQ _ _ d,hQ _ _ e,f⟩⟩
theorem fX{A:Type}{l:List A}{x y:A}{j:Nat}(h:l[j]? =some y):(l ++ [x])[j]? =some y:=by
 rw [te (sZ.1 h).1];exact h
theorem dv{A:Type}(l:List A)(x:A):(l ++ [x])[l.length]? =some x:=by simp
theorem DSOK.snoc{i:Nat}{s:DS}(h:DSOK P rn ops T0 i s)(hdst: ∀ (j:Nat) o d,ops.toList[j]? =some o→o.dst=some d→d<nt){r:Rec}{H:ar}{nx:Nat}{Hs:List (ar×Nat)}{stg:Nat}(ho:ops[i]? =some r.o)
 (hlen:Hs.length=stg+1) (hlast:Hs.reverse[stg]? =some (H,nx)) (hQ: ∀ (j:Nat) x,s.Hs.reverse[j]? =some x→Hs.reverse[j]? =some x) (hcnt:(if r.chain then s.stg+1 else s.stg)=stg)
 (hrec:RecOK P rn ops T0 (s.recs.reverse ++ [r]) Hs.reverse (((s.recs.reverse ++ [r]).filter (·.chain)).map (·.i)) i r):DSOK P rn ops T0 (i+1) ⟨eg nt s.T r.o.dst r.val,H,nx,r :: s.recs,Hs,stg⟩:=by
 have hR: ∀ k,k<i→(s.recs.reverse ++ [r])[k]? =s.recs.reverse[k]? :=fun k hk=>te (by simp [h.len];exact hk)
 have hri:(s.recs.reverse ++ [r])[i]? =some r:=by have:=dv s.recs.reverse r;rw [List.length_reverse,h.len] at this;exact this
 refine⟨by simp [h.len],hlen,hlast,?_,fun k r' hr'=>?_,fun t v hv=>?_⟩
 ·simp only [List.reverse_cons,List.filter_append,tq,tp,h.cnt]
  rw [← hcnt]
  cases hc:r.chain <;> simp [List.filter_cons,hc]
 ·simp only [List.reverse_cons] at hr' ⊢
  rcases Nat.lt_or_ge k i with hk|hk
  ·rw [hR k hk] at hr'
   refine(h.recs k r' hr').mono (fun k' hk'=>hR k' (by omega)) hQ (fun j x hj=>?_)
   rw [List.filter_append,tq]
   rw [te (sZ.1 hj).1]
   exact hj
  ·have:k=i:=by
    have:=(sZ.1 hr').1
    simp [h.len] at this
    omega
   subst this
   rw [hri] at hr'
   simp only [sW] at hr'
   subst hr'
   exact hrec
 ·simp only [List.reverse_cons] at hv ⊢
  have old:s.T.at' t=some v→r.o.dst≠some t→Src T0 (s.recs.reverse ++ [r]) (i+1) t v:=by
   intro hv hne
   rcases h.slots t v hv with ⟨k,r',h1,h2,h3,h4⟩|⟨h1,h2⟩
   ·exact .inl ⟨k,r',by omega,by rw [hR k h1];exact h2,h3,h4⟩
   ·refine .inr ⟨fun k r' hk hr'=>?_,h2⟩
    rcases Nat.lt_or_ge k i with hk'|hk'
    ·rw [hR k hk'] at hr'
     exact h1 k r' hk' hr'
    ·have:k=i:=by omega
     subst this
     rw [hri] at hr'
     simp only [sW] at hr'
     subst hr'
     exact hne
  cases hd:r.o.dst with
  | none=>rw [hd] at hv old;exact old hv (by simp)
  | some d=>
    rw [hd] at hv
    have hlt:=hdst i r.o d (by simpa using ho) hd
    simp only [eg,show Nat.blt d nt=true from s5 hlt,cond_true] at hv
    rcases Tr.aT hv with ⟨rfl,rfl⟩|⟨hne,hv⟩
    ·exact .inl ⟨i,r,by omega,hri,hd,rfl⟩
    ·exact old hv (by rw [hd];simp;exact fun hc=>hne hc.symm)
theorem fx{i:Nat}{o:Oper}{s s':DS}(h:DSOK P rn ops T0 i s)(hdst: ∀ (j:Nat) o d,ops.toList[j]? =some o→o.dst=some d→d<nt)(ho:ops[i]? =some o)(hd:lD P rn nt ops i o s s'):DSOK P rn ops T0 (i+1) s':=by
 have hslots: ∀ (R:List Rec),(∀ k,k<i→R[k]? =s.recs.reverse[k]?)→ ∀ t v,(aO s.T (aM ops.toList o)).at' t=some v→Operand.tmp t∈aM ops.toList o∧Src T0 R i t v:=by
  intro R hR t v hv
  obtain⟨h1,h2⟩:=e5 _ t v hv
  exact⟨h1,(h.slots t v h2).mono hR⟩
 have hR: ∀ (r:Rec) k,k<i→(s.recs.reverse ++ [r])[k]? =s.recs.reverse[k]? :=fun r k hk=>te (by simp [h.len];exact hk)
 rcases hd with ⟨hw,rfl⟩|⟨hw,hnd,v,hf,rfl⟩|⟨hw,v,H,nx,he,rfl⟩
 ·exact h.snoc (r:=⟨i,o,_,s.stg,false,false,cf⟩) hdst ho h.hs h.last (fun _ _ hj=>hj) rfl
   ⟨rfl,ho,hslots _ (hR _),hw,fun _=>⟨rfl,rfl⟩,fun hc _=>(by cases hc),fun hc=>(by cases hc)⟩
 ·exact h.snoc (r:=⟨i,o,_,s.stg,false,true,v⟩) hdst ho h.hs h.last (fun _ _ hj=>hj) rfl
   ⟨rfl,ho,hslots _ (hR _),hw,fun hc=>(by cases hc),fun _ _=>⟨hnd,s.H,s.nx,h.last,hf⟩,fun hc=>(by cases hc)⟩
 ·have hl:=h.hs
  have hq: ∀ (j:Nat) x,s.Hs.reverse[j]? =some x→((H,nx) :: s.Hs).reverse[j]? =some x:=fun j x hj=>by rw [List.reverse_cons];exact fX hj
  have hlast:((H,nx) :: s.Hs).reverse[s.stg+1]? =some (H,nx):=by
   rw [List.reverse_cons]
   have:=dv s.Hs.reverse (H,nx)
   rw [List.length_reverse,hl] at this
   exact this
  refine h.snoc (r:=⟨i,o,_,s.stg,true,true,v⟩) hdst ho (by simp [hl]) hlast hq rfl
   ⟨rfl,ho,hslots _ (hR _),hw,fun hc=>(by cases hc),fun _ hc=>(by cases hc),fun _=>⟨rfl,?_,s.H,s.nx,H,nx,hq _ _ h.last,hlast,he⟩⟩
  simp only [List.filter_append,tq,List.filter_cons,if_true,List.filter_nil,tj,List.map_nil]
  have:=dv ((s.recs.reverse.filter (·.chain)).map (·.i)) i
  rw [h.cnt] at this
  exact this
theorem d9(hdst: ∀ (j:Nat) o d,ops.toList[j]? =some o→o.dst=some d→d<nt): ∀ (l:List Oper) (i:Nat) (s s':DS),DSOK P rn ops T0 i s→l=ops.toList.drop i→DrawRunQ P rn nt ops i l s s'→DSOK P rn ops T0 ops.size s'
 | [],i,s,s',h,hl,hd=>by
   cases hd
   have h1:=congrArg List.length hl
   simp at h1
   have h2:i≤ops.size:=by
    rcases Nat.lt_or_ge ops.size i with hc|hc
    ·exfalso
     have hlen:=h.len
     have hr:=h.recs (i-1) (s.recs.reverse[i-1]'(by simp;omega)) (sY (by simp;omega))
     have:=(s8.1 hr.op).1
     omega
    ·exact hc
   have:i=ops.size:=by omega
   subst this
   exact h
 | o :: l,i,s,s',h,hl,hd=>by
   have ho:ops[i]? =some o:=by
    have:ops.toList[i]? =some o:=by
     have:=congrArg List.head? hl
     simpa using this.symm
    simpa using this
   have hl':l=ops.toList.drop (i+1):=by
    have:=congrArg List.tail hl
    simpa using this
   cases hd with
   | cons hone hd=>exact d9 hdst l (i+1) _ s' (fx h hdst ho hone) hl' hd
end
section
variable {P:Program} {K:Zone} {w0 w:World} {e:Env} {H:ar} {nx:Nat} {rn:Rn}
structure RegOK (P:Program) (rn:Rn) (nt:Nat) (ops:Array Oper) (T0:Tr SV) (R:List Rec) (Q:List (ar×Nat)) (C:List Nat):Prop where
 len:R.length=ops.size
 recs: ∀ (k:Nat) r,R[k]? =some r→RecOK P rn ops T0 R Q C k r
 stages:Q.length=C.length+1
 chainR:C=(R.filter (·.chain)).map (·.i)
 chain:dQ (bn [] ops.toList) C=true
 floats: ∀ r∈R,r.chain=false→r.wanted=true→(∀ c,r.o.op ≠ .defer c)∧ ∀ s,cX ((bn [] ops.toList).getD r.i 0) C≤s→s≤bQ (bn [] ops.toList) r.i C→ ∀ H n,Q[s]? =some (H,n)→ReadQ P rn r.T H n r.o r.val
 small: ∀ (i:Nat) o d,ops.toList[i]? =some o→o.dst=some d→d<nt
 dist: ∀ (i j:Nat) oi oj d,ops.toList[i]? =some oi→ops.toList[j]? =some oj→oi.dst=some d→oj.dst=some d→i=j
 edges: ∀ (i:Nat) o,ops.toList[i]? =some o→cV i o.after.toList=true
 opnds: ∀ (i:Nat) o,ops.toList[i]? =some o→bI ops.toList (bn [] ops.toList) i ((bn [] ops.toList).getD i 0) (aM ops.toList o)=true
def nS(T0:Tr SV)(R:List Rec)(L:Nat→Prop)(t:Nat)(s:SV):Prop:=
 (∃ (k:Nat) (r:Rec),L k∧R[k]? =some r∧r.o.dst=some t∧r.val=s)∨((∀ (k:Nat) (r:Rec),L k→R[k]? =some r→r.o.dst≠some t)∧T0.at' t=some s)
structure PInv (K:Zone) (w0:World) (nt:Nat) (ops:Array Oper) (T0:Tr SV) (R:List Rec) (Q:List (ar×Nat)) (C:List Nat) (L:Nat→Prop) (s:Nat) (e:Env) (w:World) (tr:Array Value):Prop where
 st: ∃ H n,Q[s]? =some (H,n)∧St K w0 e H n w
 size:tr.size=nt
 good: ∀ t sv,nS T0 R L t sv→ ∃ v,sv.conc e=some v∧tr.getD t undef=v
 chain: ∀ (j c:Nat),C[j]? =some c→(L c↔j<s)
 closed: ∀ (i:Nat) o,L i→ops.toList[i]? =some o→ ∀ ed∈o.after.toList,Region.binds .any ed=true→L ed.on
variable {nt:Nat} {ops:Array Oper} {T0:Tr SV} {R:List Rec} {Q:List (ar×Nat)} {C:List Nat}
theorem PInv.step(hrn:dD P K w0 rn)(hR:RegOK P rn nt ops T0 R Q C){L:Nat→Prop}{s:Nat}{tr:Array Value}(h:PInv K w0 nt ops T0 R Q C L s e w tr){i:Nat}{o:Oper}(ho:ops[i]? =some o)(hni: ¬ L i)
 (hed: ∀ ed∈o.after.toList,Region.binds .any ed=true→L ed.on) (fn:FuncId) (rest:List Nat) (k:List Item) (ds:List Deferred) (kd:CallKind) (rof:Option Nat) (cs:List Frame) :
 ∃ e' w' tr' s',e.le e'∧PInv K w0 nt ops T0 R Q C (fun j=>L j∨j=i) s' e' w' tr' ∧
  Steps P (lone (fr0 fn tr (.inRegion ops (i :: rest) :: k) ds kd rof) cs w) (lone (fr0 fn tr' (.inRegion ops rest :: k) ds kd rof) cs w'):=by
 have hoL:ops.toList[i]? =some o:=by simpa using ho
 have hilt:i<ops.size:=(s8.1 ho).1
 obtain⟨r,hr⟩: ∃ r,R[i]? =some r:=⟨_,sY (by rw [hR.len];exact hilt)⟩
 have hrec:=hR.recs i r hr
 have hro:r.o=o:=by
  have:=hrec.op
  rw [ho] at this
  simpa using this.symm
 have hanc:=aV L hR.edges (fun i o hi ho'=>h.closed i o hi ho') i o hoL hed
 have hT:TRel e nt r.T tr:=by
  refine⟨h.size,fun t sv ht=>?_⟩
  obtain⟨hneed,hsrc⟩:=hrec.slots t sv ht
  rw [hro] at hneed
  have hwr: ∀ (k':Nat) o',ops.toList[k']? =some o'→o'.dst=some t→(L k'∧k'<i)∨(¬ L k'∧i<k'):=fun k' o' ho' hd'=>by
   rcases ci hR.dist (hR.opnds i o hoL) t hneed k' o' ho' hd' with hb|hb
   ·exact .inl (hanc k' hb)
   ·refine .inr ⟨fun hL=>?_,?_⟩
    ·exact hni (aV L hR.edges (fun i o hi ho'=>h.closed i o hi ho') k' o' ho' (h.closed k' o' hL ho') i hb).1
    ·exact(aV (fun _=>True) hR.edges (fun _ _ _ _ _ _ _=>trivial) k' o' ho' (fun _ _ _=>trivial) i hb).2
  refine h.good t sv ?_
  rcases hsrc with ⟨k',r',h1,h2,h3,h4⟩|⟨h1,h2⟩
  ·have hop:=(hR.recs k' r' h2).op
   rcases hwr k' r'.o (by simpa using hop) h3 with g|g
   ·exact .inl ⟨k',r',g.1,h2,h3,h4⟩
   ·omega
  ·refine .inr ⟨fun k' r' hLk hr' hd'=>?_,h2⟩
   have hop:=(hR.recs k' r' hr').op
   rcases hwr k' r'.o (by simpa using hop) hd' with g|g
   ·exact h1 k' r' g.2 hr' hd'
   ·exact g.1 hLk
 have hwant:=cP hrec.want hT
 rw [hro] at hwant
 have build: ∀ (e':Env) (w':World) (u:Value) (s':Nat),e.le e'→(∃ H n,Q[s']? =some (H,n)∧St K w0 e' H n w')→r.val.conc e'=some u→(∀ (j c:Nat),C[j]? =some c→((L c∨c=i)↔j<s')) →
  PInv K w0 nt ops T0 R Q C (fun j=>L j∨j=i) s' e' w' (er tr o.dst u):=by
  intro e' w' u s' hle hst hu hch
  refine⟨hst,?_,fun t sv hg=>?_,hch,fun j oj hj hoj ed hed' hb=>?_⟩
  ·unfold er
   cases o.dst with
   | none=>exact h.size
   | some d=>simpa using h.size
  ·have old:(∀ d,o.dst=some d→d≠t)→ ∃ v,sv.conc e'=some v∧(er tr o.dst u).getD t undef=v:=by
    intro hne
    have hg':nS T0 R L t sv:=by
     rcases hg with ⟨k',r',hk',h2,h3,h4⟩|hg
     ·refine .inl ⟨k',r',?_,h2,h3,h4⟩
      rcases hk' with hk'|rfl
      ·exact hk'
      ·exfalso
       rw [hr] at h2
       simp only [sW] at h2
       subst h2
       rw [hro] at h3
       exact hne t h3 rfl
     ·exact .inr ⟨fun k' r' hLk=>hg.1 k' r' (.inl hLk),hg.2⟩
    obtain⟨v,hv,hgv⟩:=h.good t sv hg'
    refine⟨v,SV.bi hle _ _ hv,?_⟩
    cases hd:o.dst with
    | none=>exact hgv
    | some d=>
      have:=hne d hd
      simp only [er]
      rw [s4,Array.getElem?_setIfInBounds_ne this,←s4]
      exact hgv
   cases hd:o.dst with
   | none=>rw [hd] at old;exact old (fun d hd'=>by cases hd')
   | some d=>
     by_cases hdt:d=t
     ·subst hdt
      have hval:sv=r.val:=by
       rcases hg with ⟨k',r',hk',h2,h3,h4⟩|⟨h1,_⟩
       ·have hop:=(hR.recs k' r' h2).op
        have:=hR.dist k' i r'.o o d (by simpa using hop) hoL h3 hd
        subst this
        rw [hr] at h2
        simp only [sW] at h2
        subst h2
        exact h4.symm
       ·exact absurd (by rw [hro];exact hd) (h1 i r (.inr rfl) hr)
      subst hval
      refine⟨u,hu,?_⟩
      have hlt:=hR.small i o d hoL hd
      simp only [er]
      rw [s4,Array.getElem?_setIfInBounds_self_of_lt (by rw [h.size];exact hlt)]
      rfl
     ·rw [hd] at old
      exact old (fun d' hd'=>by simp only [sW] at hd';subst hd';exact hdt)
  ·rcases hj with hj|rfl
   ·exact .inl (h.closed j oj hj hoj ed hed' hb)
   ·rw [hoL] at hoj
    simp only [sW] at hoj
    subst hoj
    exact .inl (hed ed hed' hb)
 have notChain:r.chain=false→ ∀ (j c:Nat),C[j]? =some c→((L c∨c=i)↔j<s):=by
  intro hc j c hj
  have hne:c≠i:=by
   rintro rfl
   rw [hR.chainR] at hj
   rw [List.getElem?_map,s7] at hj
   obtain⟨r',hr',hi'⟩:=hj
   have hmem:=tb hr'
   rw [List.mem_filter] at hmem
   obtain⟨k',hk'⟩:=List.mem_iff_getElem?.1 hmem.1
   have:=(hR.recs k' r' hk').idx
   rw [hi'] at this
   subst this
   rw [hr] at hk'
   simp only [sW] at hk'
   subst hk'
   rw [hc] at hmem
   simp at hmem
  rw [← h.chain j c hj]
  simp [hne]
 obtain⟨H,n,hQ,hS⟩:=h.st
 cases hwd:r.wanted with
 | false=>
   rw [hwd] at hwant
   obtain⟨h1,h2⟩:=hrec.skip hwd
   exact⟨e,w,_,s,Env.le_refl e,build e w undef s (Env.le_refl e) ⟨H,n,hQ,hS⟩ (by rw [h1];rfl) (notChain h2),.one (c6 ho hwant)⟩
 | true=>
   rw [hwd] at hwant
   cases hc:r.chain with
   | false=>
     have hri:=hrec.idx
     have hlo:cX ((bn [] ops.toList).getD r.i 0) C≤s:=by
      rcases Nat.lt_or_ge s (cX ((bn [] ops.toList).getD r.i 0) C)with hlt|hge
      ·exfalso
       obtain⟨c,h1,h2⟩:=fW s hlt
       rw [hri] at h2
       have:=(h.chain s c h1).1 (hanc c h2).1
       omega
      ·exact hge
     have hhi:s≤bQ (bn [] ops.toList) r.i C:=by
      rcases Nat.lt_or_ge (bQ (bn [] ops.toList) r.i C) s with hlt|hge
      ·exfalso
       have hsC:s≤C.length:=by
        have:=(sZ.1 hQ).1
        have:=hR.stages
        omega
       obtain⟨c,h1,h2⟩:=e7 (ancs:=bn [] ops.toList) (i:=r.i) (l:=C) (by omega)
       have hLc:=(h.chain _ c h1).2 hlt
       have hcl:c<ops.size:=by
        have hcm:=tb h1
        rw [hR.chainR,List.mem_map] at hcm
        obtain⟨r',hr',rfl⟩:=hcm
        rw [List.mem_filter] at hr'
        obtain⟨k',hk'⟩:=List.mem_iff_getElem?.1 hr'.1
        have hx:=hR.recs k' r' hk'
        rw [hx.idx]
        exact(s8.1 hx.op).1
       have hoc:ops.toList[c]? =some (ops.toList[c]'(by simpa using hcl)):=sY (by simpa using hcl)
       have:=aV L hR.edges (fun i o hi ho'=>h.closed i o hi ho') c _ hoc (h.closed c _ hLc hoc) r.i h2
       rw [hri] at this
       exact hni this.1
      ·exact hge
     have hf:=(hR.floats r (tb hr) hc hwd).2 s hlo hhi H n hQ
     have hnd:=(hR.floats r (tb hr) hc hwd).1
     rw [hro] at hf hnd
     rcases hf with hf|hf
     ·obtain⟨u,hu,hst⟩:=eI (P:=P) (fn:=fn) (rest:=rest) (k:=k) (ds:=ds) (kd:=kd) (rof:=rof) (cs:=cs) hS hT ho hwant hnd hf
      exact⟨e,w,_,s,Env.le_refl e,build e w u s (Env.le_refl e) ⟨H,n,hQ,hS⟩ hu (notChain hc),hst⟩
     ·obtain⟨e',w',u,hle,hS',hu,hst⟩:=dl (P:=P) hrn (fn:=fn) (rest:=rest) (k:=k) (ds:=ds) (kd:=kd) (rof:=rof) (cs:=cs) hS hT ho hwant hf
      exact⟨e',w',_,s,hle,build e' w' u s hle ⟨H,n,hQ,hS'⟩ hu (notChain hc),hst⟩
   | true=>
     obtain⟨_,hC,H1,n1,H2,n2,hQ1,hQ2,heff⟩:=hrec.eff hc
     have hss:r.stg=s:=by
      have h1: ¬ r.stg<s:=fun hlt=>hni ((h.chain r.stg i hC).2 hlt)
      rcases Nat.eq_zero_or_pos r.stg with h0|hp
      ·omega
      ·have hlt:r.stg-1<C.length:=by
        have:=(sZ.1 hC).1
        omega
       have hprev:C[r.stg-1]? =some C[r.stg-1]:=sY hlt
       have hbit:=fA hR.chain (r.stg-1) C[r.stg-1] i hprev (by rw [show r.stg-1+1=r.stg by omega];exact hC)
       have:=(h.chain _ _ hprev).1 (hanc _ hbit).1
       omega
     rw [hss] at hQ1 hQ2 hC
     rw [hQ] at hQ1
     simp only [sW,s6] at hQ1
     obtain⟨rfl,rfl⟩:=hQ1
     rw [hro] at heff
     obtain⟨e',w',u,hle,hS',hu,hst⟩:=dl (P:=P) hrn (fn:=fn) (rest:=rest) (k:=k) (ds:=ds) (kd:=kd) (rof:=rof) (cs:=cs) hS hT ho hwant heff
     refine⟨e',w',_,s+1,hle,build e' w' u (s+1) hle ⟨H2,n2,hQ2,hS'⟩ hu (fun j c hj=>?_),hst⟩
     constructor
     ·rintro(hL|rfl)
      ·have:=(h.chain j c hj).1 hL;omega
      ·rcases Nat.lt_or_ge j (s+1)with hlt|hge
       ·exact hlt
       ·exfalso
        have hi1:=chain_inj hR hC hj
        omega
     ·intro hlt
      rcases Nat.lt_or_ge j s with hj'|hj'
      ·exact .inl ((h.chain j c hj).2 hj')
      ·have:j=s:=by omega
       subst this
       rw [hC] at hj
       simp only [sW] at hj
       exact .inr hj.symm
where
 chain_inj {P:Program} {rn:Rn} {nt:Nat} {ops:Array Oper} {T0:Tr SV} {R:List Rec} {Q:List (ar×Nat)} {C:List Nat} (hR:RegOK P rn nt ops T0 R Q C) {s j c:Nat} (h1:C[s]? =some c) (h2:C[j]? =some c):s=j:=by
  have hnd:C.Nodup:=by
   rw [hR.chainR]
   have hall:((R.filter (·.chain)).map (·.i)).Sublist (R.map (·.i)):=(List.filter_sublist).map _
   refine hall.nodup ?_
   have:R.map (·.i)=List.range R.length:=by
    apply List.ext_getElem?
    intro k
    rw [List.getElem?_map]
    cases hk:R[k]? with
    | none=>
      rw [List.getElem?_eq_none_iff] at hk
      simp [hk]
    | some r=>
      have hlt:=(sZ.1 hk).1
      rw [tu,(hR.recs k r hk).idx,List.getElem?_range hlt]
   rw [this]
   exact List.nodup_range
  have a:=sZ.1 h1
  have b:=sZ.1 h2
  obtain⟨a1,a2⟩:=a
  obtain⟨b1,b2⟩:=b
  exact(List.getElem_inj hnd).1 (a2.trans b2.symm)
end
section
variable {P:Program} {K:Zone} {w0 w:World} {e:Env} {rn:Rn} {nt:Nat} {ops:Array Oper} {T0:Tr SV} {R:List Rec} {Q:List (ar×Nat)} {C:List Nat}
def aB(listed:Array Bool)(j:Nat):Prop:=listed[j]? =some true
theorem eW{listed:Array Bool}(hsz:listed.size=ops.size){i:Nat}(h:i∈Region.ready .any ops listed): ∃ o,ops[i]? =some o∧ ¬ aB listed i∧ ∀ ed∈o.after.toList,Region.binds .any ed=true→aB listed ed.on:=by
 unfold Region.ready at h
 rw [List.mem_filter,List.mem_range,tg] at h
 obtain⟨h1,h2,h3⟩:=h
 have ho:ops[i]? =some ops[i]:=ta h1
 refine⟨ops[i],ho,?_,fun ed hed hb=>?_⟩
 ·intro hl
  unfold aB at hl
  rw [s4,hl] at h2
  simp at h2
 ·rw [ho] at h3
  simp only [tu,Option.getD_some] at h3
  rw [Array.all_eq_true_iff_forall_mem] at h3
  have:=h3 ed (by simpa using hed)
  rw [hb] at this
  simp only [Bool.not_true,Bool.false_or] at this
  unfold aB
  rw [s4] at this
  cases hx:listed[ed.on]? with
  | none=>rw [hx] at this;simp at this
  | some b=>rw [hx] at this;simp only [Option.getD_some] at this;rw [this]
theorem fT{listed:Array Bool}(hsz:listed.size=ops.size)(hE: ∀ (i:Nat) o,ops.toList[i]? =some o→cV i o.after.toList=true){i:Nat}(hi:i<ops.size)(hn: ¬ aB listed i): ∃ j,j∈Region.ready .any ops listed:=by
 induction i using Nat.strongRecOn with
 | _ i ih=>
   have ho:ops[i]? =some ops[i]:=ta hi
   by_cases hall: ∀ ed∈ops[i].after.toList,Region.binds .any ed=true→aB listed ed.on
   ·refine⟨i,?_⟩
    unfold Region.ready
    rw [List.mem_filter,List.mem_range,tg]
    refine⟨hi,?_,?_⟩
    ·unfold aB at hn
     rw [s4]
     have hlt:i<listed.size:=by omega
     rw [ta hlt] at hn ⊢
     simp only [sW,Bool.not_eq_true] at hn
     simp [hn]
    ·rw [ho]
     simp only [tu,Option.getD_some]
     rw [Array.all_eq_true_iff_forall_mem]
     intro ed hed
     cases hb:Region.binds .any ed with
     | false=>rfl
     | true=>
       have:=hall ed (by simpa only [Array.mem_toList_iff] using hed) hb
       unfold aB at this
       rw [s4,this]
       rfl
   ·have: ∃ ed,ed∈ops[i].after.toList∧Region.binds .any ed=true∧ ¬ aB listed ed.on:=by
     apply Classical.byContradiction
     intro hc
     apply hall
     intro ed h1 h2
     apply Classical.byContradiction
     intro h3
     exact hc ⟨ed,h1,h2,h3⟩
    obtain⟨ed,h1,h2,h3⟩:=this
    have hlt:=d8 (hE i ops[i] (by simp)) ed h1 h2
    exact ih ed.on hlt (by omega) h3
def bD(listed:Array Bool):Nat:=listed.toList.count false
theorem dm: ∀ (l:List Bool) (i:Nat),l[i]? =some false→(l.set i true).count false+1=l.count false
 | [],i,h=>by simp at h
 | b :: l,0,h=>by
   simp only [tf,sW] at h
   subst h
   simp [List.count_cons]
 | b :: l,i+1,h=>by
   have:=dm l i (by simpa using h)
   simp only [List.set_cons_succ,List.count_cons]
   omega
theorem iC(hrn:dD P K w0 rn)(hR:RegOK P rn nt ops T0 R Q C)(fn:FuncId)(k:List Item)(ds:List Deferred)(kd:CallKind)(rof:Option Nat)(cs:List Frame): ∀ (fuel t:Nat) (listed:Array Bool) (s:Nat) (e:Env) (w:World) (tr:Array Value),
 listed.size=ops.size→bD listed≤fuel→PInv K w0 nt ops T0 R Q C (aB listed) s e w tr →
 ∃ e' w' tr' s' listed',e.le e'∧listed'.size=ops.size∧(∀ j,j<ops.size→aB listed' j)∧PInv K w0 nt ops T0 R Q C (aB listed') s' e' w' tr' ∧
  Steps P (lone (fr0 fn tr (.inRegion ops (Region.linearise.go .any ops fuel t listed []) :: k) ds kd rof) cs w) (lone (fr0 fn tr' (.inRegion ops [] :: k) ds kd rof) cs w'):=by
 have allOf: ∀ (listed:Array Bool),listed.size=ops.size→(∀ j,j∉Region.ready .any ops listed)→ ∀ j,j<ops.size→aB listed j:=by
  intro listed hsz hno j hj
  apply Classical.byContradiction
  intro hn
  obtain⟨i,hi⟩:=fT hsz hR.edges hj hn
  exact hno i hi
 intro fuel
 induction fuel with
 | zero=>
   intro t listed s e w tr hsz hun hI
   refine⟨e,w,tr,s,listed,Env.le_refl e,hsz,fun j hj=>?_,hI,by simp only [Region.linearise.go,List.reverse_nil];exact .refl P _⟩
   unfold aB
   have hlt:j<listed.size:=by omega
   rw [ta hlt]
   cases hb:listed[j] with
   | true=>rfl
   | false=>
     exfalso
     have:0<listed.toList.count false:=List.count_pos_iff.2 (by rw [← hb];simp)
     unfold bD at hun
     omega
 | succ fuel ih=>
   intro t listed s e w tr hsz hun hI
   simp only [Region.linearise.go]
   change ∃ e' w' tr' s' listed',_∧_∧_∧_∧Steps P (lone (fr0 fn tr (.inRegion ops (match (Region.ready .any ops listed)[t % (Region.ready .any ops listed).length]? with
    | some i=>Region.linearise.go .any ops fuel (t / (Region.ready .any ops listed).length) (listed.setIfInBounds i true) [i]
    | none=> [].reverse) :: k) ds kd rof) cs w) _
   cases hpick:(Region.ready .any ops listed)[t % (Region.ready .any ops listed).length]? with
   | none=>
     have hnil:Region.ready .any ops listed= []:=by
      cases hx:Region.ready .any ops listed with
      | nil=>rfl
      | cons x xs=>
        rw [hx] at hpick
        have hlt:t % (x :: xs).length<(x :: xs).length:=Nat.mod_lt _ (by simp)
        rw [sY hlt] at hpick
        cases hpick
     exact⟨e,w,tr,s,listed,Env.le_refl e,hsz,allOf listed hsz (by rw [hnil];simp),hI,.refl P _⟩
   | some i=>
     simp only
     have hmem:=tb hpick
     obtain⟨o,ho,hni,hed⟩:=eW hsz hmem
     rw [linearise_go_acc,List.reverse_singleton,List.singleton_append]
     obtain⟨e1,w1,tr1,s1,hle1,hI1,hst1⟩:=hI.step hrn hR ho hni hed fn (Region.linearise.go .any ops fuel (t / (Region.ready .any ops listed).length) (listed.setIfInBounds i true) []) k ds kd rof cs
     have hilt:i<ops.size:=(s8.1 ho).1
     have hfalse:listed.toList[i]? =some false:=by
      have hlt:i<listed.size:=by omega
      unfold aB at hni
      rw [ta hlt] at hni
      rw [Array.getElem?_toList,ta hlt]
      simpa using hni
     have hcnt:bD (listed.setIfInBounds i true)+1=bD listed:=by
      unfold bD
      rw [Array.toList_setIfInBounds]
      exact dm _ _ hfalse
     have hLeq: ∀ j,aB (listed.setIfInBounds i true) j↔(aB listed j∨j=i):=by
      intro j
      unfold aB
      by_cases hji:j=i
      ·subst hji
       rw [Array.getElem?_setIfInBounds_self_of_lt (by omega)]
       simp
      ·rw [Array.getElem?_setIfInBounds_ne (Ne.symm hji)]
       simp [hji]
     have hI2:PInv K w0 nt ops T0 R Q C (aB (listed.setIfInBounds i true)) s1 e1 w1 tr1:=by
      have:aB (listed.setIfInBounds i true)=fun j=>aB listed j∨j=i:=funext fun j=>propext (hLeq j)
      rw [this]
      exact hI1
     obtain⟨e2,w2,tr2,s2,l2,hle2,hs2,ha2,hI3,hst2⟩:=ih _ _ s1 e1 w1 tr1 (by simpa using hsz) (by omega) hI2
     exact⟨e2,w2,tr2,s2,l2,Env.le_trans hle1 hle2,hs2,ha2,hI3,hst1.trans hst2⟩
end
end Go.Sy.Nq
end
section
namespace Go.Sy
open Go Go.Sl Go.RowKit
structure DrawKQ (P:Program) (nt:Nat) (ops:Array Oper) (i:Nat) (l:List Oper) (s:DS) (K:DS→Prop):Prop where
 ex: ∃ s',Nq.DrawRunQ P (wpr P) nt ops i l s s'∧K s'
section
variable {P:Program} {ro:Option Nat} {fn nt nx:Nat} {T:Tr SV} {k:List AIt} {dfs:List ADf} {H:ar} {Q:Pst} {ops:Array Oper} {i:Nat} {l:List Oper} {K:DS→Prop} {s:DS}
def AllHQ(Q:List (ar×Nat))(p:ar→Nat→Prop):Prop:=match Q with
 | []=>True
 | q :: l=>p q.1 q.2∧AllHQ l p
theorem AllHQ.get{p:ar→Nat→Prop}: ∀ {Q:List (ar×Nat)},AllHQ Q p→ ∀ {i:Nat} {H:ar} {n:Nat},Q[i]? =some (H,n)→p H n
 | [],_,i,H,n,h=>by simp at h
 | q :: l,hh,i,H,n,h=>by
   cases i with
   | zero=>simp only [tf,sW] at h;subst h;exact hh.1
   | succ i=>exact AllHQ.get hh.2 (by simpa using h)
def FlOkQ(P:Program)(ancs chain:List Nat)(Q:List (ar×Nat)):List Rec→Prop
 | []=>True
 | r :: l=>((r.chain || !r.wanted || (Nat.beq (cX (ancs.getD r.i 0) chain) r.stg && Nat.beq (bQ ancs r.i chain) r.stg))=true∨(AllH Q (fun H=>ReadDoes P r.T H r.o r.val)∨AllHQ Q (fun H n=>dh P (wpr P) r.T H n r.o (r.val,H,n))))∧FlOkQ P ancs chain Q l
theorem FlOkQ.ok{P:Program}{ancs chain:List Nat}{Q:List (ar×Nat)}: ∀ {l:List Rec},FlOkQ P ancs chain Q l→ ∀ r∈l,r.chain=false→r.wanted=true→ ∀ st,cX (ancs.getD r.i 0) chain≤st→st≤bQ ancs r.i chain→st≠r.stg→ ∀ H n,Q.reverse[st]? =some (H,n)→Nq.ReadQ P (wpr P) r.T H n r.o r.val
 | [],_,r,hm,_,_,_,_,_,_,_,_,_=>by cases hm
 | r0 :: l,hh,r,hm,hc,hw,st,h1,h2,h3,H,n,hq=>by
   rcases List.mem_cons.1 hm with rfl|hm
   ·rcases hh.1 with h|h
    ·rw [hc,hw] at h
     simp only [Bool.not_true,Bool.or_false,Bool.false_or,tg] at h
     have q1:=aC h.1
     have q2:=aC h.2
     omega
    ·have hlt:=(sZ.1 hq).1
     rw [List.getElem?_reverse (by simpa using hlt)] at hq
     rcases h with h|h
     ·exact .inl (h.get hq)
     ·exact .inr (h.get hq)
   ·exact FlOkQ.ok hh.2 r hm hc hw st h1 h2 h3 H n hq
end
theorem fc{e e':Env}(h:e.le e'){s:SV}{v v':Value}(h0:s.conc e=some v)(h1:s.conc e'=some v'):s.conc e=some v':=by
 have:=SV.bi h s v h0
 rw [h1] at this
 rw [h0,←Option.some.inj this]
theorem MRel.down{e e':Env}(h:e.le e'): ∀ {l:List (Value×SV×Nat)} {m m':List MapEntry},MRel e l m→MRel e' l m'→MRel e l m'
 | [],[],[],_,_=>trivial
 | (_,_,_) :: _,_ :: _,_ :: _,hd,hd'=>⟨hd'.1,hd'.2.1,fc h hd.2.2.1 hd'.2.2.1,MRel.down h hd.2.2.2 hd'.2.2.2⟩
 | [],_ :: _,_,hd,_=>hd.elim
 | [],[],_ :: _,_,hd=>hd.elim
 | _ :: _,[],_,hd,_=>by simp [MRel] at hd
 | _ :: _,_ :: _,[],_,hd=>by simp [MRel] at hd
theorem DRel.down{e e':Env}(h:e.le e'){a:ADf}{d d':Deferred}(hd:DRel e a d)(hd':DRel e' a d'):DRel e a d':=by
 cases a with
 | call f args=>
   obtain⟨x,cap,rfl,hl⟩:=hd
   obtain⟨x',cap',rfl,hl'⟩:=hd'
   refine⟨x',cap',rfl,?_⟩
   have:=SV.aU h _ _ hl
   rw [hl'] at this
   rw [hl,←Option.some.inj this]
 | taken r=>
   obtain⟨x,hx,rfl⟩:=hd
   obtain⟨x',hx',rfl⟩:=hd'
   have:=h _ _ hx
   rw [hx'] at this
   rw [Option.some.inj this]
   exact⟨x,hx,rfl⟩
theorem DsRel.down{e e':Env}(h:e.le e'): ∀ {l:List ADf} {m m':List Deferred},DsRel e l m→DsRel e' l m'→DsRel e l m'
 | [],[],[],_,_=>trivial
 | _ :: _,_ :: _,_ :: _,hd,hd'=>⟨hd.1.down h hd'.1,DsRel.down h hd.2 hd'.2⟩
 | [],_ :: _,_,hd,_=>hd.elim
 | [],[],_ :: _,_,hd=>hd.elim
 | _ :: _,[],_,hd,_=>hd.elim
 | _ :: _,_ :: _,[],_,hd=>hd.elim
theorem TRel.down{e e':Env}(h:e.le e'){nt:Nat}{T:Tr SV}{tr tr':Array Value}(hd:TRel e nt T tr)(hd':TRel e' nt T tr'):TRel e nt T tr':=
 ⟨hd'.1,fun t s hs=>let ⟨_,h0,_⟩:=hd.2 t s hs;let ⟨v,h1,h2⟩:=hd'.2 t s hs;⟨v,fc h h0 h1,h2⟩⟩
theorem ORel.down{e e':Env}(h:e.le e'){vo:VO}{x:Ent}{o o':Obj}(ho:ORel e vo x o)(ho':ORel e' vo x o'):ORel e vo x o':=by
 cases vo with
 | cells n t c=>
   obtain⟨_,cs0,_,_,_,_,h4⟩:=ho
   obtain⟨q0,cs,fz,q1,q2,q3,q4⟩:=ho'
   exact⟨q0,cs,fz,q1,q2,q3,fun i hi s hs=>let ⟨_,a,_⟩:=h4 i hi s hs;let ⟨v,b,g⟩:=q4 i hi s hs;⟨v,fc h a b,g⟩⟩
 | row ro ne sz t c=>
   obtain⟨_,cs0,_,_,_,_,_,_,_,_,h7⟩:=ho
   obtain⟨q0,cs,fz,tt,q1,q2,q3,q4,q5,q6,q7⟩:=ho'
   exact⟨q0,cs,fz,tt,q1,q2,q3,q4,q5,q6,fun i hi s hs=>let ⟨_,a,_⟩:=h7 i hi s hs;let ⟨v,b,g⟩:=q7 i hi s hs;⟨v,fc h a b,g⟩⟩
 | map l clock=>
   obtain⟨_,_,h2⟩:=ho
   obtain⟨es,q1,q2⟩:=ho'
   exact⟨es,q1,h2.down h q2⟩
 | iter m since seen stepped=>
   cases m with
   | none=>exact ho'
   | some m=>
     obtain⟨_,y,h1,_⟩:=ho
     obtain⟨q0,y',q1,q2⟩:=ho'
     have:=h _ _ h1
     rw [q1] at this
     cases Option.some.inj this
     exact⟨q0,y,h1,q2⟩
 | siter s pos=>exact ho'
 | loop st pend fn nt T params assign body dr=>
   obtain⟨_,y,h1,h2,_⟩:=ho
   obtain⟨tmps,y',q1,q2,q3⟩:=ho'
   have:=h _ _ h1
   rw [q1] at this
   cases Option.some.inj this
   exact⟨tmps,y,h1,h2.down h q2,q3⟩
 | dfd l=>
   cases l with
   | none=>exact ho'
   | some l=>
     obtain⟨_,_,h2⟩:=ho
     obtain⟨ds,q1,q2⟩:=ho'
     exact⟨ds,q1,h2.down h q2⟩
theorem Lies.down{K:Zone}{w w':World}{e e':Env}(h:e.le e'){vo:VO}{x:Ent}(hl:Lies K w e vo x)(hl':Lies K w' e' vo x):Lies K w' e vo x:=by
 rcases hl' with ⟨h0,o,h1,h2,h3⟩|h1
 ·rcases hl with ⟨_,o',_,_,g⟩|⟨g,_⟩
  ·exact .inl ⟨h0,o,h1,h2,g.down h h3⟩
  ·rw [h0] at g;cases g
 ·exact .inr h1
theorem St.down{K:Zone}{w0 w w':World}{e e':Env}{H H':ar}{nx nx':Nat}(hS:St K w0 e H nx w)(h:e.le e')(hS':St K w0 e' H' nx' w')(hH: ∀ id vo,H.at' id=some vo→H'.at' id=some vo):St K w0 e H nx w':=by
 refine⟨hS'.below,fun id vo hid=>?_,hS.inj,hS.fresh⟩
 obtain⟨x,hx,hl⟩:=hS.rel id vo hid
 obtain⟨x',hx',hl'⟩:=hS'.rel id vo (hH id vo hid)
 have:=h _ _ hx
 rw [hx'] at this
 cases Option.some.inj this
 exact⟨x,hx,hl.down h hl'⟩
def swp(n:Nat):Nat→Nat:=fun i=>if i=n then n+1 else if i=n+1 then n else i
theorem n8(n:Nat):swp n n=n+1:=by simp [swp]
theorem nZ(n:Nat):swp n (n+1)=n:=by simp [swp]
theorem mu{n i:Nat}(h:i≠n)(h':i≠n+1):swp n i=i:=by simp [swp,h,h']
theorem mt(n i:Nat):swp n (swp n i)=i:=by
 by_cases h:i=n
 ·subst h;rw [n8,nZ]
 ·by_cases h':i=n+1
  ·subst h';rw [nZ,n8]
  ·rw [mu h h',mu h h']
theorem pU{K:Zone}{w0 w:World}{e0 e:Env}{H0:ar}{n:Nat}{a f:VO}(h0:St K w0 e0 H0 n w)(hle:e0.le e)(h:St K w0 e ((H0.set n f).set (n+1) a) (n+2) w)(ha: ∀ ρ,a.ren ρ=a)(hf: ∀ ρ,f.ren ρ=f) :
 e0.le (pull e (swp n))∧St K w0 (pull e (swp n)) ((H0.set n a).set (n+1) f) (n+2) w:=by
 have hn0:=h0.fresh n (th _)
 have hn1:=h0.fresh (n+1) (by omega)
 have hlow: ∀ {id:Nat} {vo:VO},H0.at' id=some vo→id≠n∧id≠n+1:=fun {id vo} hid=>by
  obtain⟨x,hx,_⟩:=h0.rel id vo hid
  exact⟨fun e=>(by rw [e,hn0] at hx;cases hx),fun e=>(by rw [e,hn1] at hx;cases hx)⟩
 have hle':e0.le (pull e (swp n)):=fun i x hx=>by
  have h1:i≠n:=fun e=>by rw [e,hn0] at hx;cases hx
  have h2:i≠n+1:=fun e=>by rw [e,hn1] at hx;cases hx
  show e (swp n i)=some x
  rw [mu h1 h2]
  exact hle i x hx
 have back: ∀ {id:Nat} {vo:VO},((H0.set n a).set (n+1) f).at' id=some vo→((H0.set n f).set (n+1) a).at' (swp n id)=some vo∧(id=n∨id=n+1∨H0.at' id=some vo):=fun {id vo} hid=>by
  by_cases h1:id=n
  ·subst h1
   rw [Tr.aa _ _ (by omega),Tr.ab] at hid
   rw [n8,Tr.ab]
   exact⟨hid,.inl rfl⟩
  ·by_cases h2:id=n+1
   ·subst h2
    rw [Tr.ab] at hid
    rw [nZ,Tr.aa _ _ (by omega),Tr.ab]
    exact⟨hid,.inr (.inl rfl)⟩
   ·rw [Tr.aa _ _ h2,Tr.aa _ _ h1] at hid
    rw [mu h1 h2,Tr.aa _ _ h2,Tr.aa _ _ h1]
    exact⟨hid,.inr (.inr hid)⟩
 refine⟨hle',h.below,fun id vo hid=>?_,fun i j vo vo' x x' hi hj hx hx' hne=>?_,fun i hi=>?_⟩
 ·obtain⟨g1,g2⟩:=back hid
  rcases g2 with rfl|rfl|g2
  ·obtain⟨x,hx,hl⟩:=h.rel _ _ g1
   have hv:vo=a:=by
    rw [Tr.aa _ _ (by omega),Tr.ab] at hid
    exact(Option.some.inj hid).symm
   subst hv
   exact⟨x,hx,ec.1 (by rw [ha];exact hl)⟩
  ·obtain⟨x,hx,hl⟩:=h.rel _ _ g1
   have hv:vo=f:=by
    rw [Tr.ab] at hid
    exact(Option.some.inj hid).symm
   subst hv
   exact⟨x,hx,ec.1 (by rw [hf];exact hl)⟩
  ·obtain⟨x,hx,hl⟩:=h0.rel id vo g2
   exact⟨x,hle' _ _ hx,hl.mono hle'⟩
 ·exact h.inj _ _ _ _ x x' (back hi).1 (back hj).1 hx hx' (fun e=>hne (by rw [← mt n i,e,mt]))
 ·show e (swp n i)=none
  rw [mu (by omega) (by omega)]
  exact h.fresh i hi
namespace Np
section
variable {P:Program} {K:Zone} {w0 w:World} {e:Env} {H:ar} {nx:Nat} {rn:Rn}
structure RegOK (P:Program) (rn:Rn) (nt:Nat) (ops:Array Oper) (T0:Tr SV) (R:List Rec) (Q:List (ar×Nat)) (C:List Nat):Prop where
 len:R.length=ops.size
 recs: ∀ (k:Nat) r,R[k]? =some r→RecOK P rn ops T0 R Q C k r
 stages:Q.length=C.length+1
 chainR:C=(R.filter (·.chain)).map (·.i)
 floats: ∀ r∈R,r.chain=false→r.wanted=true→(∀ c,r.o.op ≠ .defer c)∧ ∀ s,cX ((bn [] ops.toList).getD r.i 0) C≤s→s≤bQ (bn [] ops.toList) r.i C→ ∀ H n,Q[s]? =some (H,n)→ReadDoes P r.T H r.o r.val
 small: ∀ (i:Nat) o d,ops.toList[i]? =some o→o.dst=some d→d<nt
 dist: ∀ (i j:Nat) oi oj d,ops.toList[i]? =some oi→ops.toList[j]? =some oj→oi.dst=some d→oj.dst=some d→i=j
 edges: ∀ (i:Nat) o,ops.toList[i]? =some o→cV i o.after.toList=true
 opnds: ∀ (i:Nat) o,ops.toList[i]? =some o→bI ops.toList (bn [] ops.toList) i ((bn [] ops.toList).getD i 0) (aM ops.toList o)=true
def nS(T0:Tr SV)(R:List Rec)(L:Nat→Prop)(t:Nat)(s:SV):Prop:=
 (∃ (k:Nat) (r:Rec),L k∧R[k]? =some r∧r.o.dst=some t∧r.val=s)∨((∀ (k:Nat) (r:Rec),L k→R[k]? =some r→r.o.dst≠some t)∧T0.at' t=some s)
structure PInv (K:Zone) (w0:World) (nt:Nat) (ops:Array Oper) (T0:Tr SV) (R:List Rec) (Q:List (ar×Nat)) (C:List Nat) (L:Nat→Prop) (s:Nat) (e:Env) (w:World) (tr:Array Value):Prop where
 st: ∃ H n,Q[s]? =some (H,n)∧St K w0 e H n w
 size:tr.size=nt
 good: ∀ t sv,nS T0 R L t sv→ ∃ v,sv.conc e=some v∧tr.getD t undef=v
 chain: ∀ (j c:Nat),C[j]? =some c→(L c↔j<s)
 closed: ∀ (i:Nat) o,L i→ops.toList[i]? =some o→ ∀ ed∈o.after.toList,Region.binds .any ed=true→L ed.on
variable {nt:Nat} {ops:Array Oper} {T0:Tr SV} {R:List Rec} {Q:List (ar×Nat)} {C:List Nat}
theorem PInv.need(hR:RegOK P rn nt ops T0 R Q C){L:Nat→Prop}{s:Nat}{tr:Array Value}(h:PInv K w0 nt ops T0 R Q C L s e w tr){i:Nat}{o:Oper}(ho:ops[i]? =some o)(hni: ¬ L i)
 (hed: ∀ ed∈o.after.toList,Region.binds .any ed=true→L ed.on) {r:Rec} (hr:R[i]? =some r):TRel e nt r.T tr∧Region.wanted o (yielded ops tr)=r.wanted:=by
 have hoL:ops.toList[i]? =some o:=by simpa using ho
 have hilt:i<ops.size:=(s8.1 ho).1
 have hrec:=hR.recs i r hr
 have hro:r.o=o:=by
  have:=hrec.op
  rw [ho] at this
  simpa using this.symm
 have hanc:=aV L hR.edges (fun i o hi ho'=>h.closed i o hi ho') i o hoL hed
 have hT:TRel e nt r.T tr:=by
  refine⟨h.size,fun t sv ht=>?_⟩
  obtain⟨hneed,hsrc⟩:=hrec.slots t sv ht
  rw [hro] at hneed
  have hwr: ∀ (k':Nat) o',ops.toList[k']? =some o'→o'.dst=some t→(L k'∧k'<i)∨(¬ L k'∧i<k'):=fun k' o' ho' hd'=>by
   rcases ci hR.dist (hR.opnds i o hoL) t hneed k' o' ho' hd' with hb|hb
   ·exact .inl (hanc k' hb)
   ·refine .inr ⟨fun hL=>?_,?_⟩
    ·exact hni (aV L hR.edges (fun i o hi ho'=>h.closed i o hi ho') k' o' ho' (h.closed k' o' hL ho') i hb).1
    ·exact(aV (fun _=>True) hR.edges (fun _ _ _ _ _ _ _=>trivial) k' o' ho' (fun _ _ _=>trivial) i hb).2
  refine h.good t sv ?_
  rcases hsrc with ⟨k',r',h1,h2,h3,h4⟩|⟨h1,h2⟩
  ·have hop:=(hR.recs k' r' h2).op
   rcases hwr k' r'.o (by simpa using hop) h3 with g|g
   ·exact .inl ⟨k',r',g.1,h2,h3,h4⟩
   ·omega
  ·refine .inr ⟨fun k' r' hLk hr' hd'=>?_,h2⟩
   have hop:=(hR.recs k' r' hr').op
   rcases hwr k' r'.o (by simpa using hop) hd' with g|g
   ·exact h1 k' r' g.2 hr' hd'
   ·exact g.1 hLk
 have hwant:=cP hrec.want hT
 rw [hro] at hwant
 exact⟨hT,hwant⟩
theorem PInv.step(hrn:dD P K w0 rn)(hR:RegOK P rn nt ops T0 R Q C){L:Nat→Prop}{s:Nat}{tr:Array Value}(h:PInv K w0 nt ops T0 R Q C L s e w tr){i:Nat}{o:Oper}(ho:ops[i]? =some o)(hni: ¬ L i)
 (hed: ∀ ed∈o.after.toList,Region.binds .any ed=true→L ed.on) (fn:FuncId) (rest:List Nat) (k:List Item) (ds:List Deferred) (kd:CallKind) (rof:Option Nat) (cs:List Frame) (hord: ∀ (j c:Nat),C[j+1]? =some i→C[j]? =some c→L c) :
 ∃ e' w' tr' s',e.le e'∧PInv K w0 nt ops T0 R Q C (fun j=>L j∨j=i) s' e' w' tr' ∧
  Steps P (lone (fr0 fn tr (.inRegion ops (i :: rest) :: k) ds kd rof) cs w) (lone (fr0 fn tr' (.inRegion ops rest :: k) ds kd rof) cs w')∧(∃ u,tr'=er tr o.dst u)∧((∀ r,R[i]? =some r→r.chain=false)→e'=e∧w'=w∧s'=s):=by
 have hoL:ops.toList[i]? =some o:=by simpa using ho
 have hilt:i<ops.size:=(s8.1 ho).1
 obtain⟨r,hr⟩: ∃ r,R[i]? =some r:=⟨_,sY (by rw [hR.len];exact hilt)⟩
 have hrec:=hR.recs i r hr
 have hro:r.o=o:=by
  have:=hrec.op
  rw [ho] at this
  simpa using this.symm
 have hanc:=aV L hR.edges (fun i o hi ho'=>h.closed i o hi ho') i o hoL hed
 have hT:TRel e nt r.T tr:=by
  refine⟨h.size,fun t sv ht=>?_⟩
  obtain⟨hneed,hsrc⟩:=hrec.slots t sv ht
  rw [hro] at hneed
  have hwr: ∀ (k':Nat) o',ops.toList[k']? =some o'→o'.dst=some t→(L k'∧k'<i)∨(¬ L k'∧i<k'):=fun k' o' ho' hd'=>by
   rcases ci hR.dist (hR.opnds i o hoL) t hneed k' o' ho' hd' with hb|hb
   ·exact .inl (hanc k' hb)
   ·refine .inr ⟨fun hL=>?_,?_⟩
    ·exact hni (aV L hR.edges (fun i o hi ho'=>h.closed i o hi ho') k' o' ho' (h.closed k' o' hL ho') i hb).1
    ·exact(aV (fun _=>True) hR.edges (fun _ _ _ _ _ _ _=>trivial) k' o' ho' (fun _ _ _=>trivial) i hb).2
  refine h.good t sv ?_
  rcases hsrc with ⟨k',r',h1,h2,h3,h4⟩|⟨h1,h2⟩
  ·have hop:=(hR.recs k' r' h2).op
   rcases hwr k' r'.o (by simpa using hop) h3 with g|g
   ·exact .inl ⟨k',r',g.1,h2,h3,h4⟩
   ·omega
  ·refine .inr ⟨fun k' r' hLk hr' hd'=>?_,h2⟩
   have hop:=(hR.recs k' r' hr').op
   rcases hwr k' r'.o (by simpa using hop) hd' with g|g
   ·exact h1 k' r' g.2 hr' hd'
   ·exact g.1 hLk
 have hwant:=cP hrec.want hT
 rw [hro] at hwant
 have build: ∀ (e':Env) (w':World) (u:Value) (s':Nat),e.le e'→(∃ H n,Q[s']? =some (H,n)∧St K w0 e' H n w')→r.val.conc e'=some u→(∀ (j c:Nat),C[j]? =some c→((L c∨c=i)↔j<s')) →
  PInv K w0 nt ops T0 R Q C (fun j=>L j∨j=i) s' e' w' (er tr o.dst u):=by
  intro e' w' u s' hle hst hu hch
  refine⟨hst,?_,fun t sv hg=>?_,hch,fun j oj hj hoj ed hed' hb=>?_⟩
  ·unfold er
   cases o.dst with
   | none=>exact h.size
   | some d=>simpa using h.size
  ·have old:(∀ d,o.dst=some d→d≠t)→ ∃ v,sv.conc e'=some v∧(er tr o.dst u).getD t undef=v:=by
    intro hne
    have hg':nS T0 R L t sv:=by
     rcases hg with ⟨k',r',hk',h2,h3,h4⟩|hg
     ·refine .inl ⟨k',r',?_,h2,h3,h4⟩
      rcases hk' with hk'|rfl
      ·exact hk'
      ·exfalso
       rw [hr] at h2
       simp only [sW] at h2
       subst h2
       rw [hro] at h3
       exact hne t h3 rfl
     ·exact .inr ⟨fun k' r' hLk=>hg.1 k' r' (.inl hLk),hg.2⟩
    obtain⟨v,hv,hgv⟩:=h.good t sv hg'
    refine⟨v,SV.bi hle _ _ hv,?_⟩
    cases hd:o.dst with
    | none=>exact hgv
    | some d=>
      have:=hne d hd
      simp only [er]
      rw [s4,Array.getElem?_setIfInBounds_ne this,←s4]
      exact hgv
   cases hd:o.dst with
   | none=>rw [hd] at old;exact old (fun d hd'=>by cases hd')
   | some d=>
     by_cases hdt:d=t
     ·subst hdt
      have hval:sv=r.val:=by
       rcases hg with ⟨k',r',hk',h2,h3,h4⟩|⟨h1,_⟩
       ·have hop:=(hR.recs k' r' h2).op
        have:=hR.dist k' i r'.o o d (by simpa using hop) hoL h3 hd
        subst this
        rw [hr] at h2
        simp only [sW] at h2
        subst h2
        exact h4.symm
       ·exact absurd (by rw [hro];exact hd) (h1 i r (.inr rfl) hr)
      subst hval
      refine⟨u,hu,?_⟩
      have hlt:=hR.small i o d hoL hd
      simp only [er]
      rw [s4,Array.getElem?_setIfInBounds_self_of_lt (by rw [h.size];exact hlt)]
      rfl
     ·rw [hd] at old
      exact old (fun d' hd'=>by simp only [sW] at hd';subst hd';exact hdt)
  ·rcases hj with hj|rfl
   ·exact .inl (h.closed j oj hj hoj ed hed' hb)
   ·rw [hoL] at hoj
    simp only [sW] at hoj
    subst hoj
    exact .inl (hed ed hed' hb)
 have notChain:r.chain=false→ ∀ (j c:Nat),C[j]? =some c→((L c∨c=i)↔j<s):=by
  intro hc j c hj
  have hne:c≠i:=by
   rintro rfl
   rw [hR.chainR] at hj
   rw [List.getElem?_map,s7] at hj
   obtain⟨r',hr',hi'⟩:=hj
   have hmem:=tb hr'
   rw [List.mem_filter] at hmem
   obtain⟨k',hk'⟩:=List.mem_iff_getElem?.1 hmem.1
   have:=(hR.recs k' r' hk').idx
   rw [hi'] at this
   subst this
   rw [hr] at hk'
   simp only [sW] at hk'
   subst hk'
   rw [hc] at hmem
   simp at hmem
  rw [← h.chain j c hj]
  simp [hne]
 obtain⟨H,n,hQ,hS⟩:=h.st
 cases hwd:r.wanted with
 | false=>
   rw [hwd] at hwant
   obtain⟨h1,h2⟩:=hrec.skip hwd
   exact⟨e,w,_,s,Env.le_refl e,build e w undef s (Env.le_refl e) ⟨H,n,hQ,hS⟩ (by rw [h1];rfl) (notChain h2),.one (c6 ho hwant),⟨_,rfl⟩,fun _=>⟨rfl,rfl,rfl⟩⟩
 | true=>
   rw [hwd] at hwant
   cases hc:r.chain with
   | false=>
     have hri:=hrec.idx
     have hlo:cX ((bn [] ops.toList).getD r.i 0) C≤s:=by
      rcases Nat.lt_or_ge s (cX ((bn [] ops.toList).getD r.i 0) C)with hlt|hge
      ·exfalso
       obtain⟨c,h1,h2⟩:=fW s hlt
       rw [hri] at h2
       have:=(h.chain s c h1).1 (hanc c h2).1
       omega
      ·exact hge
     have hhi:s≤bQ (bn [] ops.toList) r.i C:=by
      rcases Nat.lt_or_ge (bQ (bn [] ops.toList) r.i C) s with hlt|hge
      ·exfalso
       have hsC:s≤C.length:=by
        have:=(sZ.1 hQ).1
        have:=hR.stages
        omega
       obtain⟨c,h1,h2⟩:=e7 (ancs:=bn [] ops.toList) (i:=r.i) (l:=C) (by omega)
       have hLc:=(h.chain _ c h1).2 hlt
       have hcl:c<ops.size:=by
        have hcm:=tb h1
        rw [hR.chainR,List.mem_map] at hcm
        obtain⟨r',hr',rfl⟩:=hcm
        rw [List.mem_filter] at hr'
        obtain⟨k',hk'⟩:=List.mem_iff_getElem?.1 hr'.1
        have hx:=hR.recs k' r' hk'
        rw [hx.idx]
        exact(s8.1 hx.op).1
       have hoc:ops.toList[c]? =some (ops.toList[c]'(by simpa using hcl)):=sY (by simpa using hcl)
       have:=aV L hR.edges (fun i o hi ho'=>h.closed i o hi ho') c _ hoc (h.closed c _ hLc hoc) r.i h2
       rw [hri] at this
       exact hni this.1
      ·exact hge
     have hf:=(hR.floats r (tb hr) hc hwd).2 s hlo hhi H n hQ
     have hnd:=(hR.floats r (tb hr) hc hwd).1
     rw [hro] at hf hnd
     obtain⟨u,hu,hst⟩:=eI (P:=P) (fn:=fn) (rest:=rest) (k:=k) (ds:=ds) (kd:=kd) (rof:=rof) (cs:=cs) hS hT ho hwant hnd hf
     exact⟨e,w,_,s,Env.le_refl e,build e w u s (Env.le_refl e) ⟨H,n,hQ,hS⟩ hu (notChain hc),hst,⟨_,rfl⟩,fun _=>⟨rfl,rfl,rfl⟩⟩
   | true=>
     obtain⟨_,hC,H1,n1,H2,n2,hQ1,hQ2,heff⟩:=hrec.eff hc
     have hss:r.stg=s:=by
      have h1: ¬ r.stg<s:=fun hlt=>hni ((h.chain r.stg i hC).2 hlt)
      rcases Nat.eq_zero_or_pos r.stg with h0|hp
      ·omega
      ·have hlt:r.stg-1<C.length:=by
        have:=(sZ.1 hC).1
        omega
       have hprev:C[r.stg-1]? =some C[r.stg-1]:=sY hlt
       have:=(h.chain _ _ hprev).1 (hord (r.stg-1) C[r.stg-1] (by rw [show r.stg-1+1=r.stg by omega];exact hC) hprev)
       omega
     rw [hss] at hQ1 hQ2 hC
     rw [hQ] at hQ1
     simp only [sW,s6] at hQ1
     obtain⟨rfl,rfl⟩:=hQ1
     rw [hro] at heff
     obtain⟨e',w',u,hle,hS',hu,hst⟩:=dl (P:=P) hrn (fn:=fn) (rest:=rest) (k:=k) (ds:=ds) (kd:=kd) (rof:=rof) (cs:=cs) hS hT ho hwant heff
     refine⟨e',w',_,s+1,hle,build e' w' u (s+1) hle ⟨H2,n2,hQ2,hS'⟩ hu (fun j c hj=>?_),hst,⟨_,rfl⟩,fun hx=>by have:=hx r hr;rw [hc] at this;cases this⟩
     constructor
     ·rintro(hL|rfl)
      ·have:=(h.chain j c hj).1 hL;omega
      ·rcases Nat.lt_or_ge j (s+1)with hlt|hge
       ·exact hlt
       ·exfalso
        have hi1:=chain_inj hR hC hj
        omega
     ·intro hlt
      rcases Nat.lt_or_ge j s with hj'|hj'
      ·exact .inl ((h.chain j c hj).2 hj')
      ·have:j=s:=by omega
       subst this
       rw [hC] at hj
       simp only [sW] at hj
       exact .inr hj.symm
where
 chain_inj {P:Program} {rn:Rn} {nt:Nat} {ops:Array Oper} {T0:Tr SV} {R:List Rec} {Q:List (ar×Nat)} {C:List Nat} (hR:RegOK P rn nt ops T0 R Q C) {s j c:Nat} (h1:C[s]? =some c) (h2:C[j]? =some c):s=j:=by
  have hnd:C.Nodup:=by
   rw [hR.chainR]
   have hall:((R.filter (·.chain)).map (·.i)).Sublist (R.map (·.i)):=(List.filter_sublist).map _
   refine hall.nodup ?_
   have:R.map (·.i)=List.range R.length:=by
    apply List.ext_getElem?
    intro k
    rw [List.getElem?_map]
    cases hk:R[k]? with
    | none=>
      rw [List.getElem?_eq_none_iff] at hk
      simp [hk]
    | some r=>
      have hlt:=(sZ.1 hk).1
      rw [tu,(hR.recs k r hk).idx,List.getElem?_range hlt]
   rw [this]
   exact List.nodup_range
  have a:=sZ.1 h1
  have b:=sZ.1 h2
  obtain⟨a1,a2⟩:=a
  obtain⟨b1,b2⟩:=b
  exact(List.getElem_inj hnd).1 (a2.trans b2.symm)
end
section
variable {P:Program} {K:Zone} {w0:World} {rn:Rn} {nt:Nat} {ops:Array Oper} {T0:Tr SV} {R:List Rec} {Q:List (ar×Nat)} {C:List Nat} {a f:Nat}
def lg(ancs:List Nat)(a f:Nat):List Oper→Nat→Bool
 | [],_=>true
 | o :: l,i=>(o.after.toList.all fun ed=> !(Region.binds .any ed && Nat.beq ed.on f) || (ancs.getD i 0).testBit a) && lg ancs a f l (i+1)
theorem jF{ancs:List Nat}: ∀ {l:List Oper} {i0:Nat},lg ancs a f l i0=true→ ∀ (i:Nat) o,l[i]? =some o→ ∀ ed∈o.after.toList,Region.binds .any ed=true→ed.on=f→(ancs.getD (i0+i) 0).testBit a=true
 | [],_,_,i,o,h,_,_,_,_=>by simp at h
 | o0 :: l,i0,h,i,o,ho,ed,hed,hb,hf=>by
   simp only [lg,tg] at h
   cases i with
   | zero=>
     simp only [tf,sW] at ho
     subst ho
     have:=List.all_eq_true.1 h.1 ed hed
     rw [hb,hf] at this
     simpa using this
   | succ i=>
     have:=jF h.2 i o (by simpa using ho) ed hed hb hf
     rw [show i0+(i+1)=i0+1+i by omega]
     exact this
structure Swap (P:Program) (rn:Rn) (T0:Tr SV) (R:List Rec) (Q:List (ar×Nat)) (C:List Nat) (a f:Nat) (ra rf:Rec) (H0:ar) (n0 la lf:Nat) (va vf:VO) (df:Nat):Prop where
 iA:R[a]? =some ra
 iF:R[f]? =some rf
 c0:C[0]? =some a
 c1:C[1]? =some f
 q0:Q[0]? =some (H0,n0)
 q2:Q[2]? =some ((H0.set n0 va).set (n0+1) vf,n0+2)
 xa:ra.val = .slu n0 0 la
 xf:rf.val = .slu (n0+1) 0 lf
 oF:rf.o.dst=some df
 t0:T0.at' df=none
 na: ∀ ρ,va.ren ρ=va
 nf: ∀ ρ,vf.ren ρ=vf
 ef:dh P rn rf.T H0 n0 rf.o (.slu n0 0 lf,H0.set n0 vf,n0+1)
 ea:dh P rn ra.T (H0.set n0 vf) (n0+1) ra.o (.slu (n0+1) 0 la,(H0.set n0 vf).set (n0+1) va,n0+2)
variable {ra rf:Rec} {H0:ar} {n0 la lf:Nat} {va vf:VO} {df:Nat}
structure Dev (K:Zone) (w0:World) (nt:Nat) (ops:Array Oper) (T0:Tr SV) (R:List Rec) (Q:List (ar×Nat)) (C:List Nat) (a f:Nat) (H0:ar) (n0 lf:Nat) (vf:VO) (df:Nat) (L:Nat→Prop) (e:Env) (w:World) (tr:Array Value):Prop where
 inv:PInv K w0 nt ops T0 R Q C (fun j=>L j∧j≠f) 0 e w tr
 hf:L f
 ha: ¬ L a
 closed: ∀ (i:Nat) o,L i→ops.toList[i]? =some o→ ∀ ed∈o.after.toList,Region.binds .any ed=true→L ed.on
 ex: ∃ eB u,e.le eB∧St K w0 eB (H0.set n0 vf) (n0+1) w∧(SV.slu n0 0 lf).conc eB=some u∧tr.getD df undef=u
theorem dW{tr:Array Value}{d:Option Tmp}{u:Value}{t:Nat}(h:d≠some t):(er tr d u).getD t undef=tr.getD t undef:=by
 cases d with
 | none=>rfl
 | some d=>
   have:d≠t:=fun e=>h (by rw [e])
   simp only [er]
   rw [s4,Array.getElem?_setIfInBounds_ne this,←s4]
theorem jp{tr:Array Value}{t:Nat}{u:Value}(h:t<tr.size):(er tr (some t) u).getD t undef=u:=by
 simp only [er]
 rw [s4,Array.getElem?_setIfInBounds_self_of_lt h]
 rfl
theorem jn{tr:Array Value}{d:Option Tmp}{u:Value}:(er tr d u).size=tr.size:=by
 cases d with
 | none=>rfl
 | some d=>simp [er]
theorem nF(hrn:dD P K w0 rn)(hR:RegOK P rn nt ops T0 R Q C)(hs:Swap P rn T0 R Q C a f ra rf H0 n0 la lf va vf df){L:Nat→Prop}{e:Env}{w:World}{tr:Array Value}(h:PInv K w0 nt ops T0 R Q C L 0 e w tr){o:Oper}(ho:ops[f]? =some o)(hni: ¬ L f)
 (hed: ∀ ed∈o.after.toList,Region.binds .any ed=true→L ed.on) (fn:FuncId) (rest:List Nat) (k:List Item) (ds:List Deferred) (kd:CallKind) (rof:Option Nat) (cs:List Frame) :
 ∃ w' tr',Dev K w0 nt ops T0 R Q C a f H0 n0 lf vf df (fun j=>L j∨j=f) e w' tr' ∧
  Steps P (lone (fr0 fn tr (.inRegion ops (f :: rest) :: k) ds kd rof) cs w) (lone (fr0 fn tr' (.inRegion ops rest :: k) ds kd rof) cs w'):=by
 have hoL:ops.toList[f]? =some o:=by simpa using ho
 obtain⟨hT,hw⟩:=h.need hR ho hni hed hs.iF
 have hrec:=hR.recs f rf hs.iF
 have hro:rf.o=o:=by
  have:=hrec.op
  rw [ho] at this
  simpa using this.symm
 obtain⟨hwd,_⟩:rf.wanted=true∧True:=by
  refine⟨?_,trivial⟩
  cases hc:rf.chain with
  | true=>exact(hrec.eff hc).1
  | false=>
    exfalso
    have:=tb hs.c1
    rw [hR.chainR,List.mem_map] at this
    obtain⟨r',hr',hi'⟩:=this
    rw [List.mem_filter] at hr'
    obtain⟨k',hk'⟩:=List.mem_iff_getElem?.1 hr'.1
    have:=(hR.recs k' r' hk').idx
    rw [hi'] at this
    subst this
    rw [hs.iF] at hk'
    cases hk'
    rw [hc] at hr'
    simp at hr'
 rw [hwd] at hw
 obtain⟨H,n,hQ,hS⟩:=h.st
 rw [hs.q0] at hQ
 simp only [sW,s6] at hQ
 obtain⟨rfl,rfl⟩:=hQ
 have hef:=hs.ef
 rw [hro] at hef
 obtain⟨eB,w',u,hle,hSB,hu,hst⟩:=dl (P:=P) hrn (fn:=fn) (rest:=rest) (k:=k) (ds:=ds) (kd:=kd) (rof:=rof) (cs:=cs) hS hT ho hw hef
 have hn0:=hS.fresh n0 (th _)
 have hS':St K w0 e H0 n0 w':=hS.down hle hSB fun id vo hid=>by
  obtain⟨x,hx,_⟩:=hS.rel id vo hid
  have:id≠n0:=fun e'=>by rw [e',hn0] at hx;cases hx
  rw [Tr.aa _ _ this]
  exact hid
 have hdf:o.dst=some df:=hro ▸ hs.oF
 have hlt:=hR.small f o df hoL hdf
 rw [hdf] at hst
 have hfe: ∀ j,((L j∨j=f)∧j≠f)↔L j:=fun j=>⟨fun h=>h.1.resolve_right h.2,fun h=>⟨.inl h,fun e'=>hni (e' ▸ h)⟩⟩
 refine⟨w',_,⟨⟨⟨H0,n0,hs.q0,hS'⟩,by rw [jn];exact h.size,fun t sv hg=>?_,fun j c hj=>(hfe c).trans (h.chain j c hj),fun i oi hi hoi ed he hb=>(hfe _).2 (h.closed i oi ((hfe i).1 hi) hoi ed he hb)⟩,.inr rfl,fun hc=>?_,fun i oi hi hoi ed he hb=>?_,⟨eB,u,hle,hSB,hu,jp (by rw [h.size];exact hlt)⟩⟩,hst⟩
 ·have hg':nS T0 R L t sv:=by
   rcases hg with ⟨k',r',hk',g⟩|⟨g1,g2⟩
   ·exact .inl ⟨k',r',(hfe k').1 hk',g⟩
   ·exact .inr ⟨fun k' r' hL=>g1 k' r' ((hfe k').2 hL),g2⟩
  obtain⟨v,hv,hgv⟩:=h.good t sv hg'
  refine⟨v,hv,?_⟩
  rw [dW]
  ·exact hgv
  ·intro e'
   cases e'
   rcases hg' with ⟨k',r',hk',h2,h3,_⟩|⟨_,g2⟩
   ·have hop:=(hR.recs k' r' h2).op
    have:=hR.dist k' f r'.o o df (by simpa using hop) hoL h3 hdf
    exact hni (this ▸ hk')
   ·rw [hs.t0] at g2;cases g2
 ·have hne:a≠f:=by
   intro e'
   have q1:=hs.c0
   have q2:=hs.c1
   rw [e'] at q1
   have:=PInv.step.chain_inj hR q1 q2
   omega
  have hLa:L a:=hc.resolve_right hne
  have:=(h.chain 0 a hs.c0).1 hLa
  omega
 ·rcases hi with hi|rfl
  ·exact .inl (h.closed i oi hi hoi ed he hb)
  ·rw [hoL] at hoi
   cases hoi
   exact .inl (hed ed he hb)
theorem qM(hrn:dD P K w0 rn)(hR:RegOK P rn nt ops T0 R Q C)(hs:Swap P rn T0 R Q C a f ra rf H0 n0 la lf va vf df){L:Nat→Prop}{e:Env}{w:World}{tr:Array Value}(h:Dev K w0 nt ops T0 R Q C a f H0 n0 lf vf df L e w tr){o:Oper}(ho:ops[a]? =some o)
 (hed: ∀ ed∈o.after.toList,Region.binds .any ed=true→L ed.on∧ed.on≠f) (fn:FuncId) (rest:List Nat) (k:List Item) (ds:List Deferred) (kd:CallKind) (rof:Option Nat) (cs:List Frame) :
 ∃ e' w' tr',e.le e'∧PInv K w0 nt ops T0 R Q C (fun j=>L j∨j=a) 2 e' w' tr' ∧
  Steps P (lone (fr0 fn tr (.inRegion ops (a :: rest) :: k) ds kd rof) cs w) (lone (fr0 fn tr' (.inRegion ops rest :: k) ds kd rof) cs w'):=by
 have hoL:ops.toList[a]? =some o:=by simpa using ho
 obtain⟨hT,hw⟩:=h.inv.need hR ho (fun hc=>h.ha hc.1) hed hs.iA
 have hrec:=hR.recs a ra hs.iA
 have hro:ra.o=o:=by
  have:=hrec.op
  rw [ho] at this
  simpa using this.symm
 have hwd:ra.wanted=true:=by
  cases hc:ra.chain with
  | true=>exact(hrec.eff hc).1
  | false=>
    exfalso
    have:=tb hs.c0
    rw [hR.chainR,List.mem_map] at this
    obtain⟨r',hr',hi'⟩:=this
    rw [List.mem_filter] at hr'
    obtain⟨k',hk'⟩:=List.mem_iff_getElem?.1 hr'.1
    have:=(hR.recs k' r' hk').idx
    rw [hi'] at this
    subst this
    rw [hs.iA] at hk'
    cases hk'
    rw [hc] at hr'
    simp at hr'
 rw [hwd] at hw
 obtain⟨H,n,hQ,hS⟩:=h.inv.st
 rw [hs.q0] at hQ
 simp only [sW,s6] at hQ
 obtain⟨rfl,rfl⟩:=hQ
 obtain⟨eB,uf,hleB,hSB,huf,htf⟩:=h.ex
 have hea:=hs.ea
 rw [hro] at hea
 obtain⟨e2,w',u,hle2,hS2,hu,hst⟩:=dl (P:=P) hrn (fn:=fn) (rest:=rest) (k:=k) (ds:=ds) (kd:=kd) (rof:=rof) (cs:=cs) hSB (hT.mono hleB) ho hw hea
 have hn0:=hS.fresh n0 (th _)
 have hn1:=hS.fresh (n0+1) (by omega)
 have hS':St K w0 e H0 n0 w':=hS.down (Env.le_trans hleB hle2) hS2 fun id vo hid=>by
  obtain⟨x,hx,_⟩:=hS.rel id vo hid
  have h1:id≠n0:=fun e'=>by rw [e',hn0] at hx;cases hx
  have h2:id≠n0+1:=fun e'=>by rw [e',hn1] at hx;cases hx
  rw [Tr.aa _ _ h2,Tr.aa _ _ h1]
  exact hid
 obtain⟨hle',hSF⟩:=pU hS' (Env.le_trans hleB hle2) hS2 hs.na hs.nf
 have hne:a≠f:=fun e'=>h.ha (e' ▸ h.hf)
 refine⟨_,w',_,hle',⟨⟨_,_,hs.q2,hSF⟩,by rw [jn];exact h.inv.size,fun t sv hg=>?_,fun j c hj=>?_,fun i oi hi hoi ed he hb=>?_⟩,hst⟩
 ·
  have main: ∀ (hd:o.dst≠some t),t≠df→ ∃ v,sv.conc (pull e2 (swp n0))=some v∧(er tr o.dst u).getD t undef=v:=fun hd htd=>by
   have hg':nS T0 R (fun j=>L j∧j≠f) t sv:=by
    rcases hg with ⟨k',r',hk',h2,h3,h4⟩|⟨g1,g2⟩
    ·have hop:=(hR.recs k' r' h2).op
     refine .inl ⟨k',r',⟨hk'.resolve_right fun e'=>?_,fun e'=>?_⟩,h2,h3,h4⟩
     ·subst e'
      rw [hs.iA] at h2
      cases h2
      exact hd (hro ▸ h3)
     ·subst e'
      rw [hs.iF] at h2
      cases h2
      rw [hs.oF] at h3
      exact htd (Option.some.inj h3).symm
    ·exact .inr ⟨fun k' r' hL=>g1 k' r' (.inl hL.1),g2⟩
   obtain⟨v,hv,hgv⟩:=h.inv.good t sv hg'
   exact⟨v,SV.bi hle' _ _ hv,by rw [dW hd];exact hgv⟩
  by_cases hd:o.dst=some t
  ·have hval:sv=ra.val:=by
    rcases hg with ⟨k',r',hk',h2,h3,h4⟩|⟨h1,_⟩
    ·have hop:=(hR.recs k' r' h2).op
     have:=hR.dist k' a r'.o o t (by simpa using hop) hoL h3 hd
     subst this
     rw [hs.iA] at h2
     cases h2
     exact h4.symm
    ·exact absurd (by rw [hro];exact hd) (h1 a ra (.inr rfl) hs.iA)
   rw [hval,hs.xa]
   refine⟨u,?_,?_⟩
   ·rw [← bS]
    show(SV.slu (swp n0 n0) 0 la).conc e2=some u
    rw [n8]
    exact hu
   ·rw [hd]
    exact jp (by rw [h.inv.size];exact hR.small a o t hoL hd)
  ·by_cases htd:t=df
   ·subst htd
    have hof:=(hR.recs f rf hs.iF).op
    have hval:sv=rf.val:=by
     rcases hg with ⟨k',r',hk',h2,h3,h4⟩|⟨h1,_⟩
     ·have hop:=(hR.recs k' r' h2).op
      have:=hR.dist k' f r'.o rf.o t (by simpa using hop) (by simpa using hof) h3 hs.oF
      subst this
      rw [hs.iF] at h2
      cases h2
      exact h4.symm
     ·exact absurd hs.oF (h1 f rf (.inl h.hf) hs.iF)
    rw [hval,hs.xf]
    refine⟨uf,?_,by rw [dW hd];exact htf⟩
    rw [← bS]
    show(SV.slu (swp n0 (n0+1)) 0 lf).conc e2=some uf
    rw [nZ]
    exact SV.bi hle2 _ _ huf
   ·exact main hd htd
 ·constructor
  ·rintro(hL|rfl)
   ·by_cases e':c=f
    ·subst e'
     have:=PInv.step.chain_inj hR hj hs.c1
     omega
    ·have:=(h.inv.chain j c hj).1 ⟨hL,e'⟩
     omega
   ·have:=PInv.step.chain_inj hR hj hs.c0
    omega
  ·intro hlt
   have:j=0∨j=1:=by omega
   rcases this with rfl|rfl
   ·rw [hs.c0] at hj
    exact .inr (Option.some.inj hj).symm
   ·rw [hs.c1] at hj
    exact .inl (Option.some.inj hj ▸ h.hf)
 ·rcases hi with hi|rfl
  ·exact .inl (h.closed i oi hi hoi ed he hb)
  ·rw [hoL] at hoi
   cases hoi
   exact .inl (hed ed he hb).1
theorem iC(hrn:dD P K w0 rn)(hR:RegOK P rn nt ops T0 R Q C)(hs:Swap P rn T0 R Q C a f ra rf H0 n0 la lf va vf df)(hch: ∀ (j c d:Nat),C[j]? =some c→C[j+1]? =some d→d≠f→((bn [] ops.toList).getD d 0).testBit c=true)
 (hfr:lg (bn [] ops.toList) a f ops.toList 0=true) (fn:FuncId) (k:List Item) (ds:List Deferred) (kd:CallKind) (rof:Option Nat) (cs:List Frame): ∀ (fuel t:Nat) (listed:Array Bool) (s:Nat) (e:Env) (w:World) (tr:Array Value),
 listed.size=ops.size→bD listed≤fuel→(PInv K w0 nt ops T0 R Q C (aB listed) s e w tr∨Dev K w0 nt ops T0 R Q C a f H0 n0 lf vf df (aB listed) e w tr) →
 ∃ e' w' tr' s' listed',e.le e'∧listed'.size=ops.size∧(∀ j,j<ops.size→aB listed' j)∧PInv K w0 nt ops T0 R Q C (aB listed') s' e' w' tr' ∧
  Steps P (lone (fr0 fn tr (.inRegion ops (Region.linearise.go .any ops fuel t listed []) :: k) ds kd rof) cs w) (lone (fr0 fn tr' (.inRegion ops [] :: k) ds kd rof) cs w'):=by
 have haS:a<ops.size:=(s8.1 (hR.recs a ra hs.iA).op).1
 have hne:a≠f:=by
  intro e'
  have q1:=hs.c0
  have q2:=hs.c1
  rw [e'] at q1
  have:=PInv.step.chain_inj hR q1 q2
  omega
 have allOf: ∀ (listed:Array Bool),listed.size=ops.size→(∀ j,j∉Region.ready .any ops listed)→ ∀ j,j<ops.size→aB listed j:=by
  intro listed hsz hno j hj
  apply Classical.byContradiction
  intro hn
  obtain⟨i,hi⟩:=fT hsz hR.edges hj hn
  exact hno i hi
 have fin: ∀ {listed:Array Bool} {s:Nat} {e:Env} {w:World} {tr:Array Value},(∀ j,j<ops.size→aB listed j)→(PInv K w0 nt ops T0 R Q C (aB listed) s e w tr∨Dev K w0 nt ops T0 R Q C a f H0 n0 lf vf df (aB listed) e w tr)→PInv K w0 nt ops T0 R Q C (aB listed) s e w tr:=fun hall hI=>by
  rcases hI with hI|hI
  ·exact hI
  ·exact absurd (hall a haS) hI.ha
 intro fuel
 induction fuel with
 | zero=>
   intro t listed s e w tr hsz hun hI
   have hall: ∀ j,j<ops.size→aB listed j:=fun j hj=>by
    unfold aB
    have hlt:j<listed.size:=by omega
    rw [ta hlt]
    cases hb:listed[j] with
    | true=>rfl
    | false=>
      exfalso
      have:0<listed.toList.count false:=List.count_pos_iff.2 (by rw [← hb];simp)
      unfold bD at hun
      omega
   exact⟨e,w,tr,s,listed,Env.le_refl e,hsz,hall,fin hall hI,by simp only [Region.linearise.go,List.reverse_nil];exact .refl P _⟩
 | succ fuel ih=>
   intro t listed s e w tr hsz hun hI
   simp only [Region.linearise.go]
   change ∃ e' w' tr' s' listed',_∧_∧_∧_∧Steps P (lone (fr0 fn tr (.inRegion ops (match (Region.ready .any ops listed)[t % (Region.ready .any ops listed).length]? with
    | some i=>Region.linearise.go .any ops fuel (t / (Region.ready .any ops listed).length) (listed.setIfInBounds i true) [i]
    | none=> [].reverse) :: k) ds kd rof) cs w) _
   cases hpick:(Region.ready .any ops listed)[t % (Region.ready .any ops listed).length]? with
   | none=>
     have hnil:Region.ready .any ops listed= []:=by
      cases hx:Region.ready .any ops listed with
      | nil=>rfl
      | cons x xs=>
        rw [hx] at hpick
        have hlt:t % (x :: xs).length<(x :: xs).length:=Nat.mod_lt _ (by simp)
        rw [sY hlt] at hpick
        cases hpick
     have hall:=allOf listed hsz (by rw [hnil];simp)
     exact⟨e,w,tr,s,listed,Env.le_refl e,hsz,hall,fin hall hI,.refl P _⟩
   | some i=>
     simp only
     have hmem:=tb hpick
     obtain⟨o,ho,hni,hed⟩:=eW hsz hmem
     rw [linearise_go_acc,List.reverse_singleton,List.singleton_append]
     have hoL:ops.toList[i]? =some o:=by simpa using ho
     have hLeq: ∀ j,aB (listed.setIfInBounds i true) j↔(aB listed j∨j=i):=by
      intro j
      unfold aB
      by_cases hji:j=i
      ·subst hji
       rw [Array.getElem?_setIfInBounds_self_of_lt (by have:=(s8.1 ho).1;omega)]
       simp
      ·rw [Array.getElem?_setIfInBounds_ne (Ne.symm hji)]
       simp [hji]
     have hL2:aB (listed.setIfInBounds i true)=fun j=>aB listed j∨j=i:=funext fun j=>propext (hLeq j)
     have one: ∃ e1 w1 tr1 s1,e.le e1∧(PInv K w0 nt ops T0 R Q C (fun j=>aB listed j∨j=i) s1 e1 w1 tr1∨Dev K w0 nt ops T0 R Q C a f H0 n0 lf vf df (fun j=>aB listed j∨j=i) e1 w1 tr1) ∧
      Steps P (lone (fr0 fn tr (.inRegion ops (i :: Region.linearise.go .any ops fuel (t / (Region.ready .any ops listed).length) (listed.setIfInBounds i true) []) :: k) ds kd rof) cs w)
       (lone (fr0 fn tr1 (.inRegion ops (Region.linearise.go .any ops fuel (t / (Region.ready .any ops listed).length) (listed.setIfInBounds i true) []) :: k) ds kd rof) cs w1):=by
      rcases hI with hI|hI
      ·have hanc:=aV (aB listed) hR.edges (fun i o hi ho'=>hI.closed i o hi ho') i o hoL hed
       by_cases hif:i=f∧s=0
       ·obtain⟨rfl,rfl⟩:=hif
        obtain⟨w1,tr1,hD,hst⟩:=nF hrn hR hs hI ho hni hed fn _ k ds kd rof cs
        exact⟨e,w1,tr1,0,Env.le_refl e,.inr hD,hst⟩
       ·obtain⟨e1,w1,tr1,s1,hle,hP,hst,_⟩:=hI.step hrn hR ho hni hed fn (Region.linearise.go .any ops fuel (t / (Region.ready .any ops listed).length) (listed.setIfInBounds i true) []) k ds kd rof cs (fun j c hj1 hj=>by
         by_cases hf:i=f
         ·have hs0:s≠0:=fun h0=>hif ⟨hf,h0⟩
          rw [hf] at hj1
          have:=PInv.step.chain_inj hR hj1 hs.c1
          have:j=0:=by omega
          subst this
          exact(hI.chain 0 c hj).2 (by omega)
         ·exact(hanc c (hch j c i hj hj1 hf)).1)
        exact⟨e1,w1,tr1,s1,hle,.inl hP,hst⟩
      ·have hanc:=aV (aB listed) hR.edges (fun i o hi ho'=>hI.closed i o hi ho') i o hoL hed
       have hnf: ∀ ed∈o.after.toList,Region.binds .any ed=true→ed.on≠f:=fun ed he hb e'=>by
        have:=jF hfr i o hoL ed he hb e'
        rw [Nat.zero_add] at this
        exact hI.ha (hanc a this).1
       have hif:i≠f:=fun e'=>hni (e' ▸ hI.hf)
       by_cases hia:i=a
       ·subst hia
        obtain⟨e1,w1,tr1,hle,hP,hst⟩:=qM hrn hR hs hI ho (fun ed he hb=>⟨hed ed he hb,hnf ed he hb⟩) fn (Region.linearise.go .any ops fuel (t / (Region.ready .any ops listed).length) (listed.setIfInBounds i true) []) k ds kd rof cs
        exact⟨e1,w1,tr1,2,hle,.inl hP,hst⟩
       ·have hed0: ∀ ed∈o.after.toList,Region.binds .any ed=true→aB listed ed.on∧ed.on≠f:=fun ed he hb=>⟨hed ed he hb,hnf ed he hb⟩
        have hanc0:=aV (fun j=>aB listed j∧j≠f) hR.edges (fun i o hi ho'=>hI.inv.closed i o hi ho') i o hoL hed0
        have hnc: ∀ (j c:Nat),C[j+1]? =some i→C[j]? =some c→False:=fun j c hj1 hj=>by
         have:=(hI.inv.chain j c hj).1 (hanc0 c (hch j c i hj hj1 hif)).1
         omega
        obtain⟨e1,w1,tr1,s1,hle,hP,hst,⟨u,htr⟩,hsame⟩:=hI.inv.step hrn hR ho (fun hc=>hni hc.1) hed0 fn (Region.linearise.go .any ops fuel (t / (Region.ready .any ops listed).length) (listed.setIfInBounds i true) []) k ds kd rof cs (fun j c hj1 hj=>(hnc j c hj1 hj).elim)
        have hquiet: ∀ r,R[i]? =some r→r.chain=false:=fun r hr=>by
         cases hc:r.chain with
         | false=>rfl
         | true=>
           exfalso
           obtain⟨_,hC,_⟩:=(hR.recs i r hr).eff hc
           rcases Nat.eq_zero_or_pos r.stg with h0|hp
           ·rw [h0,hs.c0] at hC
            exact hia (Option.some.inj hC).symm
           ·have hlt:r.stg-1<C.length:=by
             have:=(sZ.1 hC).1
             omega
            exact hnc (r.stg-1) C[r.stg-1] (by rw [show r.stg-1+1=r.stg by omega];exact hC) (sY hlt)
        obtain⟨rfl,rfl,rfl⟩:=hsame hquiet
        obtain⟨eB,uf,g1,g2,g3,g4⟩:=hI.ex
        have hof:=(hR.recs f rf hs.iF).op
        have hdst:o.dst≠some df:=fun e'=>hif (hR.dist i f o rf.o df hoL (by simpa using hof) e' hs.oF)
        refine⟨_,_,tr1,0,Env.le_refl _,.inr ⟨?_,.inl hI.hf,fun hc=>hc.elim hI.ha fun e'=>hia e'.symm,fun i' oi hi hoi ed he hb=>?_,⟨eB,uf,g1,g2,g3,by rw [htr,dW hdst];exact g4⟩⟩,hst⟩
        ·have:(fun j=>(aB listed j∨j=i)∧j≠f)=fun j=>(aB listed j∧j≠f)∨j=i:=by
          funext j
          apply propext
          constructor
          ·rintro⟨h1|h1,h2⟩
           ·exact .inl ⟨h1,h2⟩
           ·exact .inr h1
          ·rintro(⟨h1,h2⟩|h1)
           ·exact⟨.inl h1,h2⟩
           ·exact⟨.inr h1,fun e'=>hif (h1 ▸ e')⟩
         rw [this]
         exact hP
        ·rcases hi with hi|rfl
         ·exact .inl (hI.closed i' oi hi hoi ed he hb)
         ·rw [hoL] at hoi
          cases hoi
          exact .inl (hed ed he hb)
     obtain⟨e1,w1,tr1,s1,hle1,hI1,hst1⟩:=one
     have hilt:i<ops.size:=(s8.1 ho).1
     have hfalse:listed.toList[i]? =some false:=by
      have hlt:i<listed.size:=by omega
      unfold aB at hni
      rw [ta hlt] at hni
      rw [Array.getElem?_toList,ta hlt]
      simpa using hni
     have hcnt:bD (listed.setIfInBounds i true)+1=bD listed:=by
      unfold bD
      rw [Array.toList_setIfInBounds]
      exact dm _ _ hfalse
     rw [← hL2] at hI1
     obtain⟨e2,w2,tr2,s2,l2,hle2,hs2,ha2,hI3,hst2⟩:=ih _ _ s1 e1 w1 tr1 (by simpa using hsz) (by omega) hI1
     exact⟨e2,w2,tr2,s2,l2,Env.le_trans hle1 hle2,hs2,ha2,hI3,hst1.trans hst2⟩
end
end Np
theorem St.retell{K:Zone}{w0 w:World}{e:Env}{H:ar}{nx t:Nat}{vo vo':VO}(hS:St K w0 e H nx w)(hb:H.at' t=some vo)(hro:vo'.ro=vo.ro)(hl: ∀ x,e t=some x→Lies K w e vo x→Lies K w e vo' x):St K w0 e (H.set t vo') nx w:=by
 have back: ∀ {id:Nat} {v:VO},(H.set t vo').at' id=some v→ ∃ v0,H.at' id=some v0∧v.ro=v0.ro:=fun {id v} hid=>by
  rcases Tr.aT hid with ⟨rfl,rfl⟩|⟨_,h⟩
  ·exact⟨vo,hb,hro⟩
  ·exact⟨v,h,rfl⟩
 refine⟨hS.below,fun id v hid=>?_,fun i j v v' x x' hi hj hx hx' hne h0 h0' hr hr'=>?_,hS.fresh⟩
 ·rcases Tr.aT hid with ⟨rfl,rfl⟩|⟨_,h⟩
  ·obtain⟨x,hx,hlx⟩:=hS.rel _ _ hb
   exact⟨x,hx,hl x hx hlx⟩
  ·exact hS.rel _ _ h
 ·obtain⟨v0,g1,g2⟩:=back hi
  obtain⟨v1,g3,g4⟩:=back hj
  exact hS.inj i j v0 v1 x x' g1 g3 hx hx' hne h0 h0' (g2 ▸ hr) (g4 ▸ hr')
theorem lG{P:Program}{ro:Option Nat}{fn nt:Nat}{T:Tr SV}{k:List AIt}{dfs:List ADf}{H:ar}{nx:Nat}{Q:Pst}{t r eo n ne sz:Nat}{tt rt:TypeId}{rr:Bool}{c:Tr SV}(pre post:List SV)(hb:H.at' t=some (am tt (pre ++ .slu r eo n :: post)))(hr:H.at' r=some (.row rr ne sz rt c))(h0:0<ne)(hn:eo+n≤ne)
 (h: ∀ C,n≤C→Wp P ro ⟨fn,nt,T,k,dfs,H.set t (am tt (pre ++ .sl r (eo*sz) n C :: post)),nx⟩ Q):Wp P ro ⟨fn,nt,T,k,dfs,H,nx⟩ Q:=by
 refine⟨fun K w0 e w tmps todo ds kd rof cs hS hTr htd hds hc2=>?_⟩
 obtain⟨z,hz,hlz⟩:=hS.rel _ _ hr
 obtain⟨g1,g2,g3,g4⟩:=Lies.row hlz
 have hnil:=g3 h0
 have hcc:(SV.sl r (eo*sz) n (z.cap-eo)).conc e=(SV.slu r eo n).conc e:=by
  simp [SV.conc,hz,Ent.at,hnil,g1]
 refine(h (z.cap-eo) (by omega)).run K w0 e w tmps todo ds kd rof cs (hS.retell hb rfl fun x hx hlx=>?_) hTr htd hds hc2
 rcases hlx with ⟨q0,o,q1,q2,q3⟩|⟨_,_,ro',sz',c',hq,_⟩
 ·refine .inl ⟨q0,o,q1,q2,?_⟩
  obtain⟨f0,cs,fz,f1,f2,f3,f4⟩:=q3
  refine⟨f0,cs,fz,f1,by rw [f2];simp,by simpa using f3,fun i hi s hs=>?_⟩
  have hi':i<(pre ++ SV.slu r eo n :: post).length:=by simpa using hi
  have hs':(pre ++ SV.sl r (eo*sz) n (z.cap-eo) :: post)[i]? =some s:=hs
  rcases Nat.lt_trichotomy i pre.length with hlt|rfl|hgt
  ·refine f4 i hi' s ?_
   show(pre ++ SV.slu r eo n :: post)[i]? =some s
   rw [te hlt] at hs' ⊢
   exact hs'
  ·rw [List.getElem?_append_right (th _),Nat.sub_self,tf,sW] at hs'
   subst hs'
   obtain⟨v,hv,hg⟩:=f4 pre.length hi' (.slu r eo n) (by
    show(pre ++ SV.slu r eo n :: post)[pre.length]? =some (SV.slu r eo n)
    rw [List.getElem?_append_right (th _),Nat.sub_self,tf])
   exact⟨v,by rw [hcc];exact hv,hg⟩
  ·refine f4 i hi' s ?_
   show(pre ++ SV.slu r eo n :: post)[i]? =some s
   obtain⟨j,hj⟩: ∃ j,i-pre.length=j+1:=⟨i-pre.length-1,by omega⟩
   rw [List.getElem?_append_right (by omega),hj,List.getElem?_cons_succ] at hs' ⊢
   exact hs'
 ·cases hq
theorem bd_n{T:Tr SV}{dflt n:Nat}{o:Operand}{k:IntKind}{j:Int}(h:aj T o=some (.sc (.int k j)))(hj:j=(n:Int)):iZ T dflt (some o) n:=by
 subst hj
 exact qQ h (by omega)
def FlOkD(P:Program)(ancs chain:List Nat)(Q:List (ar×Nat)):List Rec→Prop
 | []=>True
 | r :: l=>((r.chain || !r.wanted || (Nat.beq (cX (ancs.getD r.i 0) chain) r.stg && Nat.beq (bQ ancs r.i chain) r.stg))=true∨ ∃ d,Nat.ble (bQ ancs r.i chain+(d+1)) Q.length=true∧(AllH (Q.drop d) (fun H=>ReadDoes P r.T H r.o r.val)∨AllHQ (Q.drop d) (fun H n=>dh P (wpr P) r.T H n r.o (r.val,H,n))))∧FlOkD P ancs chain Q l
theorem FlOkD.ok{P:Program}{ancs chain:List Nat}{Q:List (ar×Nat)}: ∀ {l:List Rec},FlOkD P ancs chain Q l→ ∀ r∈l,r.chain=false→r.wanted=true→ ∀ st,cX (ancs.getD r.i 0) chain≤st→st≤bQ ancs r.i chain→st≠r.stg→ ∀ H n,Q.reverse[st]? =some (H,n)→Nq.ReadQ P (wpr P) r.T H n r.o r.val
 | [],_,r,hm,_,_,_,_,_,_,_,_,_=>by cases hm
 | r0 :: l,hh,r,hm,hc,hw,st,h1,h2,h3,H,n,hq=>by
   rcases List.mem_cons.1 hm with rfl|hm
   ·rcases hh.1 with h|⟨d,hd,h⟩
    ·rw [hc,hw] at h
     simp only [Bool.not_true,Bool.or_false,Bool.false_or,tg] at h
     have q1:=aC h.1
     have q2:=aC h.2
     omega
    ·have hlt:=(sZ.1 hq).1
     rw [List.length_reverse] at hlt
     have hd':=s3 hd
     rw [List.getElem?_reverse hlt] at hq
     have hq':(Q.drop d)[Q.length-1-st-d]? =some (H,n):=by
      rw [List.getElem?_drop,show d+(Q.length-1-st-d)=Q.length-1-st by omega]
      exact hq
     rcases h with h|h
     ·exact .inl (h.get hq')
     ·exact .inr (h.get hq')
   ·exact FlOkD.ok hh.2 r hm hc hw st h1 h2 h3 H n hq
def FlOkE(P:Program)(ancs chain:List Nat)(Q:List (ar×Nat)):List Rec→Prop
 | []=>True
 | r :: l=>((r.chain || !r.wanted || (Nat.beq (cX (ancs.getD r.i 0) chain) r.stg && Nat.beq (bQ ancs r.i chain) r.stg))=true∨ ∃ d,Nat.ble (bQ ancs r.i chain+(d+1)) Q.length=true∧AllH (Q.drop d) (fun H=>ReadDoes P r.T H r.o r.val))∧FlOkE P ancs chain Q l
theorem FlOkE.ok{P:Program}{ancs chain:List Nat}{Q:List (ar×Nat)}: ∀ {l:List Rec},FlOkE P ancs chain Q l→ ∀ r∈l,r.chain=false→r.wanted=true→ ∀ st,cX (ancs.getD r.i 0) chain≤st→st≤bQ ancs r.i chain→st≠r.stg→ ∀ H n,Q.reverse[st]? =some (H,n)→ReadDoes P r.T H r.o r.val
 | [],_,r,hm,_,_,_,_,_,_,_,_,_=>by cases hm
 | r0 :: l,hh,r,hm,hc,hw,st,h1,h2,h3,H,n,hq=>by
   rcases List.mem_cons.1 hm with rfl|hm
   ·rcases hh.1 with h|⟨d,hd,h⟩
    ·rw [hc,hw] at h
     simp only [Bool.not_true,Bool.or_false,Bool.false_or,tg] at h
     have q1:=aC h.1
     have q2:=aC h.2
     omega
    ·have hlt:=(sZ.1 hq).1
     rw [List.length_reverse] at hlt
     have hd':=s3 hd
     rw [List.getElem?_reverse hlt] at hq
     have hq':(Q.drop d)[Q.length-1-st-d]? =some (H,n):=by
      rw [List.getElem?_drop,show d+(Q.length-1-st-d)=Q.length-1-st by omega]
      exact hq
     exact h.get hq'
   ·exact FlOkE.ok hh.2 r hm hc hw st h1 h2 h3 H n hq
theorem AllH.all{p:ar→Prop}(h: ∀ H,p H): ∀ (Q:List (ar×Nat)),AllH Q p
 | []=>trivial
 | q :: l=>⟨h q.1,AllH.all h l⟩
theorem gJ{r:Rec}{b:Bool}(h:r.chain=true):(r.chain || !r.wanted || b)=true:=by rw [h];rfl
section
variable {P:Program} {ro:Option Nat} {fn nt nx:Nat} {T:Tr SV} {k:List AIt} {dfs:List ADf} {H:ar} {Q:Pst}
theorem j8{id:Nat}{ops:List Oper}(hm:P.follows .mixedOrders=true)(hr:fS nt ops=true)
 (h:DrawK P nt ops.toArray 0 ops ⟨T,H,nx,[],[(H,nx)],0⟩ (fun s=>dQ (bn [] ops) (eL s)=true∧FlOkE P (bn [] ops) (eL s) s.Hs s.recs∧Wp P ro ⟨fn,nt,s.T,k,dfs,s.H,s.nx⟩ Q)) :
 Wp P ro ⟨fn,nt,T,.code (.region id ops.toArray true) :: k,dfs,H,nx⟩ Q:=by
 obtain⟨s,hs,h1,h2,h3⟩:=h.ex
 exact .step ⟨hm,s,⟨hr,hs,h1,fun r hr=>FlOkE.ok h2 r hr⟩,h3⟩
end
section
variable {P:Program} {T:Tr SV} {H:ar} {nx:Nat} {d:Option Tmp} {ty:TypeId} {pos:String} {af:Array Edge} {gd:Option (Nat×Bool)}
theorem hM{t:TypeId}{m:Array (String×TypeId)}(hu:P.underlying t=some (.interface m))(w:World):(Op.equal t .nilIface .nilIface).run P w = .ok true w:=by
 have: ∀ n,(Op.equalIn (n+1) t .nilIface .nilIface).run P w = .ok true w:=fun n=>by simp [Op.equalIn,run_underlying hu]
 exact this 9999
theorem mI{t yt:TypeId}{m:Array (String×TypeId)}{x:Operand}(hx:aj T x=some (.sc .nilIface))(hu:P.underlying t=some (.interface m)):ReadDoes P T H ⟨d,.binOp .neq t x (.const .nilIface) yt,ty,pos,af,gd⟩ (.sc (.bool false)):=by
 refine cu fun ev w he=>?_
 have e1:=he x _ hx _ rfl
 have e2:=he (.const .nilIface) _ rfl _ rfl
 have hg:(eqGuard .neq t x (.const .nilIface) .nilIface .nilIface).run P w = .ok () w:=by cases x <;> rfl
 have hq:(Op.equal t .nilIface .nilIface).run P w = .ok true w:=hM hu w
 have hb:(binOp .neq t .nilIface .nilIface).run P w = .ok (.bool false) w:=by
  simp only [binOp,Sem.run_bind,hq,Result.andThen_ok,Sem.run_pure,Bool.not_true]
 simp only [execOp,e1,e2,Sem.run_bind,hg,hb,Result.andThen_ok,Sem.run_pure]
theorem m7{t el:TypeId}{b o n C:Nat}{bt:TypeId}{cs:List SV}{x:Operand}{z:Value}(hu:P.underlying t=some (.slice el))(hz:bU P el=some z)(hx:aj T x=some (.sl b o (n+1) C))(hb:H.at' b=some (am bt cs))(zs:List SV)(hzs:cY z (n+1)=zs)(h1:bz zs=true)(ho:o+zs.length≤cs.length) :
 OpDoes P T H nx ⟨d,.call {callee:= .builtin .clear,args:= #[x],argTypes:= #[t]},ty,pos,af,gd⟩ (.val (.sc (.tuple #[])),H.set b (am bt (cs.take o ++ zs ++ cs.drop (o+zs.length))),nx):=by
 subst hzs
 have hst:(am bt cs).setCells o (cY z (n+1))=some (am bt (cs.take o ++ cY z (n+1) ++ cs.drop (o+(cY z (n+1)).length))):=c8 (t:=bt) (cY z (n+1)) cs o ho h1
 have hcp:fe P H nx t (.sl b o (n+1) C)=some (.val (.sc (.tuple #[])),H.set b (am bt (cs.take o ++ cY z (n+1) ++ cs.drop (o+(cY z (n+1)).length))),nx):=by
  simp only [fe,hu,hz,cg,hb,hst]
 refine iQ ?_
 simp only [dN,cD,hx,tv,dz,hcp]
theorem nc{fz:Nat×Nat}{n:Nat}(h:q9 fz n):q9 (if(fz.1 == fz.2)=true then(n,n+1) else(min fz.1 n,max fz.2 (n+1))) n:=by
 obtain⟨h1,h2⟩:=h
 split
 ·exact⟨tz _,fun i hi=>by simp;omega⟩
 ·rename_i hne
  simp only [beq_iff_eq] at hne
  have hn:n≤fz.1:=by
   rcases Nat.lt_or_ge fz.1 n with hlt|hge
   ·have:=h2 fz.1 hlt
    simp at this
    omega
   ·exact hge
  refine⟨by simp;omega,fun i hi=>?_⟩
  simp only [Bool.and_eq_false_iff,decide_eq_false_iff_not]
  left
  omega
theorem ql{s el rt:TypeId}{x:Operand}{b eo n ne:Nat}{c:Tr SV}(hu:P.underlying s=some (.slice el))(he:P.underlying el=some (.int .u8))(hx:aj T x=some (.slu b eo n))(hb:H.at' b=some (.row false ne 1 rt c))(h0:0<ne) :
 OpDoes P T H nx ⟨d,.convert s s x,ty,pos,af,gd⟩ (.val (.slu b eo n),H.set b (.row false ne 1 rt c),nx):=by
 intro K w0 e w ev hS hE
 obtain⟨y,hy,hl⟩:=hS.rel _ _ hb
 obtain⟨g1,g2,g3,g4⟩:=Lies.row hl
 have hnil:=g3 h0
 rcases hl with ⟨q0,o,q1,q2,q3⟩|⟨q,_⟩
 ·obtain⟨f0,cs,fz,tt,rfl,f2,f3,f4,f5,f6,f7⟩:=q3
  obtain⟨lo,hi⟩:=fz
  have hv:(SV.slu b eo n).conc e=some (.slice (some ⟨y.blk,y.base+eo*y.sz,none⟩) n (y.cap-eo)):=by simp [SV.conc,hy,Ent.at,hnil]
  have e1:=hE x _ hx
  rw [hv] at e1
  simp only [sW] at e1
  have hsh:w.shape? y.blk=some (tt,cs.size):=by
   unfold World.shape?
   rw [q2]
  have hfz:(w.freeze ⟨y.blk,cs.size,none⟩ 1).heap[y.blk]? =some (.cells cs tt (if(lo == hi)=true then(cs.size,cs.size+1) else(min lo cs.size,max hi (cs.size+1)))):=by
   unfold World.freeze
   rw [if_neg (by decide)]
   simp [Array.getElem?_modify,q2]
  have ht:Turned w (w.freeze ⟨y.blk,cs.size,none⟩ 1) y.blk:=by
   unfold World.freeze
   rw [if_neg (by decide)]
   refine⟨rfl,rfl,rfl,by simp,fun j _ hj=>?_⟩
   simp [Array.getElem?_modify,Ne.symm hj]
  have hrun:(Go.convert s s (.slice (some ⟨y.blk,y.base+eo*y.sz,none⟩) n (y.cap-eo))).run P w = .ok (.slice (some ⟨y.blk,y.base+eo*y.sz,none⟩) n (y.cap-eo)) (w.freeze ⟨y.blk,cs.size,none⟩ 1):=by
   simp [Go.convert,run_underlying hu,run_underlying he,markStringish,hsh]
  refine⟨e,w.freeze ⟨y.blk,cs.size,none⟩ 1,Env.le_refl e,hS.upd hb hy hnil rfl rfl ht hfz ⟨f0,cs,_,tt,rfl,f2,f3,f4,fun _=>nc (fz:=(lo,hi)) (f5 rfl),f6,f7⟩,_,hv,?_⟩
  simp only [execOp,←e1]
  simp [hrun]
 ·rw [hnil] at q
  cases q
end
section
variable {P:Program} {ro:Option Nat} {fn nt nx i:Nat} {T:Tr SV} {k:List AIt} {dfs:List ADf} {H:ar} {Q:Pst} {ops:Array Oper} {l:List Oper} {ty:TypeId} {pos:String} {af:Array Edge} {gd:Option (Nat×Bool)}
theorem dG{x:Operand}{as1:List Operand}{ats:Array TypeId}{g:FuncId}{fa fb args:List SV}(hw:ak T ops ⟨none,.defer {callee:= .value x,args:=as1.toArray,argTypes:=ats},ty,pos,af,gd⟩=some true)(hx:aj T x=some (.fn (.func g) fa fb))(ha:cD T as1=some args)(hm:bu P g=true)
 (h:Wp P none ⟨fn,nt,T,.inReg ops (i+1) l :: k,.call g (fa ++ args ++ fb) :: dfs,H,nx⟩ Q):Wp P none ⟨fn,nt,T,.inReg ops i (⟨none,.defer {callee:= .value x,args:=as1.toArray,argTypes:=ats},ty,pos,af,gd⟩ :: l) :: k,dfs,H,nx⟩ Q:=by
 refine .step (.inr ⟨hw,.inl rfl,OpDoes.any (out:=(.dfr (.call g (fa ++ args ++ fb)),H,nx)) ?_ ⟨rfl,h⟩⟩)
 intro K w0 e w ev hS hE
 refine e9 hS hE ?_
 unfold dN
 simp only [bh,ha,hx,bY,hm,cond_true]
theorem cx{dd:Nat}(hw:ak T ops ⟨some dd,.call {callee:= .builtin .recover,args:= #[],argTypes:= #[]},ty,pos,af,gd⟩=some true)(hd:Nat.blt dd nt=true)
 (h:Wp P none ⟨fn,nt,T.set dd (.sc .nilIface),.inReg ops (i+1) l :: k,dfs,H,nx⟩ Q):Wp P none ⟨fn,nt,T,.inReg ops i (⟨some dd,.call {callee:= .builtin .recover,args:= #[],argTypes:= #[]},ty,pos,af,gd⟩ :: l) :: k,dfs,H,nx⟩ Q:=by
 refine .step (.inr ⟨hw,.inl rfl,OpDoes.any (out:=(.recover,H,nx)) ?_ ⟨rfl,?_⟩⟩)
 ·intro K w0 e w ev hS hE
  refine e9 hS hE ?_
  unfold dN
  simp only [cD,tv,dz]
 ·rw [ap hd]
  exact h
theorem cZ{t yt:TypeId}{m:Array (String×TypeId)}{x:Operand}{dd:Nat}(hw:ak T ops ⟨some dd,.binOp .neq t x (.const .nilIface) yt,ty,pos,af,gd⟩=some true)(hd:Nat.blt dd nt=true)(hx:aj T x=some (.sc .nilIface))(hu:P.underlying t=some (.interface m))
 (h:Wp P ro ⟨fn,nt,T.set dd (.sc (.bool false)),.inReg ops (i+1) l :: k,dfs,H,nx⟩ Q):Wp P ro ⟨fn,nt,T,.inReg ops i (⟨some dd,.binOp .neq t x (.const .nilIface) yt,ty,pos,af,gd⟩ :: l) :: k,dfs,H,nx⟩ Q:=
 be hw (.inr (fun _ h=>by cases h)) ((mI hx hu).does) (by rw [ap hd];exact h)
theorem kH{x:Operand}{name:String}{as1:List Operand}{ats:Array TypeId}{t:TypeId}{v:SV}{args:List SV}{dd:Nat}(g:FuncId)(hw:ak T ops ⟨some dd,.call {callee:= .invoke x name,args:=as1.toArray,argTypes:=ats},ty,pos,af,gd⟩=some true)(hd:Nat.blt dd nt=true)(hx:aj T x=some (.ifc t v))(ha:cD T as1=some args)(hm:gA P t name=some g)
 (h:Fnc P g (v :: args) H nx (fun r=>Wp P ro ⟨fn,nt,T.set dd r.1,.inReg ops (i+1) l :: k,dfs,r.2.1,r.2.2⟩ Q)) :
 Wp P ro ⟨fn,nt,T,.inReg ops i (⟨some dd,.call {callee:= .invoke x name,args:=as1.toArray,argTypes:=ats},ty,pos,af,gd⟩ :: l) :: k,dfs,H,nx⟩ Q:=by
 refine ml hw (args:=v :: args) ?_ (by simp only [ap hd];exact h)
 simp only [bh,ha,hx,hm]
theorem nX{t el:TypeId}{b o n C:Nat}{bt:TypeId}{cs:List SV}{x:Operand}{z:Value}{dd:Option Nat}(zs:List SV)(hw:ak T ops ⟨dd,.call {callee:= .builtin .clear,args:= #[x],argTypes:= #[t]},ty,pos,af,gd⟩=some true)(hx:aj T x=some (.sl b o (n+1) C))(hu:P.underlying t=some (.slice el))(hz:bU P el=some z)(hb:H.at' b=some (am bt cs))(hzs:cY z (n+1)=zs)(h1:bz zs=true)(ho:o+zs.length≤cs.length)
 (h:Wp P ro ⟨fn,nt,eg nt T dd (.sc (.tuple #[])),.inReg ops (i+1) l :: k,dfs,H.set b (am bt (cs.take o ++ zs ++ cs.drop (o+zs.length))),nx⟩ Q):Wp P ro ⟨fn,nt,T,.inReg ops i (⟨dd,.call {callee:= .builtin .clear,args:= #[x],argTypes:= #[t]},ty,pos,af,gd⟩ :: l) :: k,dfs,H,nx⟩ Q:=
 be hw (.inr (fun _ h=>by cases h)) (m7 hu hz hx hb zs hzs h1 ho) h
theorem rH{s el rt:TypeId}{x:Operand}{b eo n ne dd:Nat}{c:Tr SV}(hw:ak T ops ⟨some dd,.convert s s x,ty,pos,af,gd⟩=some true)(hd:Nat.blt dd nt=true)(hu:P.underlying s=some (.slice el))(he:P.underlying el=some (.int .u8))(hx:aj T x=some (.slu b eo n))(hb:H.at' b=some (.row false ne 1 rt c))(h0:0<ne)
 (h:Wp P ro ⟨fn,nt,T.set dd (.slu b eo n),.inReg ops (i+1) l :: k,dfs,H.set b (.row false ne 1 rt c),nx⟩ Q):Wp P ro ⟨fn,nt,T,.inReg ops i (⟨some dd,.convert s s x,ty,pos,af,gd⟩ :: l) :: k,dfs,H,nx⟩ Q:=
 be hw (.inr (fun _ h=>by cases h)) (ql hu he hx hb h0) (by rw [ap hd];exact h)
theorem fF{rl:List ResultVar}{F:Func}{g:FuncId}{args:List SV}(hf:P.funcs[fn]? =some F)(hl:F.results.toList=rl)(hg:bu P g=true)(h:Fnc P g args H nx (fun r=> ∃ vs,ResIs P r.2.1 T rl vs∧Q (dc vs,r.2.1,r.2.2))):Wp P none ⟨fn,nt,T,.code .ret :: k,[.call g args],H,nx⟩ Q:=by
 refine ph (qv hg (Fnc.mono h ?_))
 rintro⟨v,H',n'⟩ ⟨vs,h1,h2⟩
 exact pt (by simp only [ch,hf,hl]) h1.res h2
end
end Go.Sy
end
section
namespace Go.Proofs.Ytnhmbonmlfeifaa
open Go Go.Sy Go.Sl Go.RowKit
abbrev ft:SV:= .sc (.slice none 0 0)
abbrev rdO(s:SV)(w:Bool):VO:=am 118 [s,.sc (.bool w)]
theorem pC(H:ar):BsIs H ft (byV []):=⟨fun v hv=>by simp at hv,.inl ⟨rfl,_,_,rfl⟩⟩
theorem m8(l:List UInt8):lR (byV l):=fun v hv=>by obtain⟨c,_,rfl⟩:=List.mem_map.1 hv;rfl
theorem bM(l:List UInt8):(byV l).length=l.length:=List.length_map _
def BlkAt(H:ar)(r o:Nat)(l:List UInt8):Prop:= ∃ vo,H.at' r=some vo∧vo.cellsFrom o l.length=some ((byV l).map .sc)
theorem BlkAt.bs{H:ar}{r o C:Nat}{l:List UInt8}(h:BlkAt H r o l):BsIs H (.sl r o l.length C) (byV l):=by
 obtain⟨vo,h1,h2⟩:=h
 exact⟨m8 l,.inr (.inr ⟨r,o,C,vo,by rw [bM],h1,by rw [bM];exact h2⟩)⟩
theorem eA{vo:VO}: ∀ (n m o:Nat) (l:List SV),vo.cellsFrom o (n+m)=some l→vo.cellsFrom o n=some (l.take n)∧vo.cellsFrom (o+n) m=some (l.drop n)
 | 0,m,o,l,h=>by
   rw [Nat.zero_add] at h
   exact⟨by simp [VO.cellsFrom],by simpa using h⟩
 | n+1,m,o,l,h=>by
   rw [show n+1+m=(n+m)+1 by omega] at h
   simp only [VO.cellsFrom] at h ⊢
   cases h1:vo.cell o with
   | none=>rw [h1] at h;cases h
   | some s=>
     rw [h1] at h
     simp only at h ⊢
     cases h2:vo.cellsFrom (o+1) (n+m)with
     | none=>rw [h2] at h;cases h
     | some l'=>
       rw [h2] at h
       simp only [sW] at h
       subst h
       obtain⟨g1,g2⟩:=eA n m (o+1) l' h2
       rw [g1,show o+(n+1)=o+1+n by omega]
       exact⟨by simp,by simpa using g2⟩
theorem BlkAt.part{H:ar}{r o:Nat}{l:List UInt8}(h:BlkAt H r o l){n:Nat}(hn:n≤l.length):BlkAt H r o (l.take n)∧BlkAt H r (o+n) (l.drop n):=by
 obtain⟨vo,h1,h2⟩:=h
 rw [show l.length=n+(l.length-n) by omega] at h2
 obtain⟨g1,g2⟩:=eA n (l.length-n) o _ h2
 refine⟨⟨vo,h1,?_⟩,⟨vo,h1,?_⟩⟩
 ·rw [List.length_take,Nat.min_eq_left hn,g1]
  simp [List.map_take]
 ·rw [List.length_drop,g2]
  simp [List.map_drop]
theorem BlkAt.frame{H H':ar}{r o:Nat}{l:List UInt8}(h:BlkAt H r o l)(hf:H'.at' r=H.at' r):BlkAt H' r o l:=by
 obtain⟨vo,h1,h2⟩:=h
 exact⟨vo,hf.trans h1,h2⟩
theorem BlkAt.none(H:ar){r:Nat}{vo:VO}(h:H.at' r=some vo)(o:Nat):BlkAt H r o []:=⟨vo,h,rfl⟩
def RdSt(H:ar)(b r:Nat):Option (List UInt8)→Prop
 | some l=> ∃ o C,H.at' b=some (rdO (.sl r o l.length C) true)∧l.length≤C∧BlkAt H r o l
 | none=> ∃ s,H.at' b=some (rdO s false)
def BlkS(H:ar)(s:SV)(r:Nat)(l:List UInt8):Prop:=(s=ft∧l= [])∨ ∃ o C,s = .sl r o l.length C∧BlkAt H r o l
theorem BlkS.bs{H:ar}{s:SV}{r:Nat}{l:List UInt8}(h:BlkS H s r l):BsIs H s (byV l):=by
 rcases h with ⟨rfl,rfl⟩|⟨o,C,rfl,h⟩
 ·exact pC _
 ·exact h.bs
theorem BlkS.frame{H H':ar}{s:SV}{r:Nat}{l:List UInt8}(h:BlkS H s r l)(hf:H'.at' r=H.at' r):BlkS H' s r l:=by
 rcases h with h|⟨o,C,h1,h2⟩
 ·exact .inl h
 ·exact .inr ⟨o,C,h1,h2.frame hf⟩
theorem d7{H:ar}{nx b:Nat}{s:SV}{w:Bool}(hb:H.at' b=some (rdO s w)):Fnc Try.prog 70 [.ptr b 0] H nx (fun q=>q=(.sc (.bool (!w)),H,nx)):=by
 refine Fnc.start Try.func70 rfl rfl ?_
 (repeat(first|refine an ?_|refine ae ?_|refine ac ?_|(apply ai;exact rfl;exact rfl;exact rfl)|(apply ah;exact rfl;exact rfl;exact rfl)|(apply aQ;exact rfl;exact rfl;exact rfl;exact rfl)|(apply bG;exact rfl;exact rfl;exact rfl)|(apply aF;exact rfl;exact rfl;exact rfl;exact(F.fo _ _ rfl rfl))|(apply fl;exact rfl;exact rfl;exact rfl;exact rfl;exact(F.un _ rfl);exact rfl)|refine bg rfl rfl rfl (F.ag _ rfl) (by assumption) (by exact rfl) ?_|(apply cG;exact rfl;exact rfl;exact rfl)))
 ((apply aP Try.func70 (congrArg Array.toList Try.results70));(focus(repeat(first|exact ResIs.nil|apply ResIs.tmp rfl))))
 rfl
theorem kM{H:ar}{nx b:Nat}{s:SV}{l:List UInt8}{n:Int}(hb:H.at' b=some (rdO s true))(hs:BsIs H s (byV l))(hn:n<0∨(l.length:Int)<n):Fnc Try.prog 69 [.ptr b 0,.sc (.int .i64 n)] H nx (fun q=> ∃ H',q=(ft,H',nx)∧H'.at' b=some (rdO ft false)∧ ∀ m,m≠b→H'.at' m=H.at' m):=by
 refine Fnc.start Try.func69 rfl rfl ?_
 (repeat' (first|refine an ?_|refine ae ?_|refine ac ?_|refine aD ?_|refine ay rfl ?_|refine ax rfl ?_|(apply ai;exact rfl;exact rfl;exact rfl)|(apply ah;exact rfl;exact rfl;exact rfl)|(apply bp;exact rfl;exact rfl;exact rfl;exact rfl)|(apply aQ;exact rfl;exact rfl;exact rfl;exact rfl)|(apply bG;exact rfl;exact rfl;exact rfl)|(apply aF;exact rfl;exact rfl;exact rfl;exact(F.fo _ _ rfl rfl))|(apply dF;exact rfl)|refine aI rfl rfl rfl rfl (F.sz _ rfl) (by(repeat(first|assumption|exact Tr.ab _ _ _));done) rfl (by exact s3 rfl) rfl ?_|refine bg rfl rfl rfl (F.ag _ rfl) (by assumption) (by exact rfl) ?_|(refine au rfl rfl rfl (by kernel_rfl) (Fnc.mono (d7 hb) ?_);rintro _ rfl;dsimp only)|(refine bC rfl rfl rfl rfl ?_ ?_ <;> intro hq1)|(refine cH rfl rfl (F.un _ rfl) rfl hs ?_;rw [bM])|(refine cp rfl rfl rfl rfl ?_ ?_ <;> intro hq2)|(exfalso;omega)))
 all_goals((apply aP Try.func69 (congrArg Array.toList Try.results69));(focus(repeat(first|exact ResIs.nil|apply ResIs.tmp rfl))))
 all_goals exact⟨_,rfl,Tr.ab _ _ _,fun m hm=>(Tr.aa _ _ hm).trans (Tr.aa _ _ hm)⟩
theorem my{H:ar}{nx b:Nat}{s:SV}{n:Int}(hb:H.at' b=some (rdO s false)):Fnc Try.prog 69 [.ptr b 0,.sc (.int .i64 n)] H nx (fun q=>q=(ft,H,nx)):=by
 refine Fnc.start Try.func69 rfl rfl ?_
 (repeat(first|refine an ?_|refine ae ?_|refine ac ?_|refine ay rfl ?_|(apply ai;exact rfl;exact rfl;exact rfl)|(apply ah;exact rfl;exact rfl;exact rfl)|(refine au rfl rfl rfl (by kernel_rfl) (Fnc.mono (d7 hb) ?_);rintro _ rfl;dsimp only)))
 ((apply aP Try.func69 (congrArg Array.toList Try.results69));(focus(repeat(first|exact ResIs.nil|apply ResIs.tmp rfl))))
 rfl
theorem pV{H:ar}{nx b r o C n:Nat}{l:List UInt8}(hb:H.at' b=some (rdO (.sl r o l.length C) true))(hC:l.length≤C)(hn:n≤l.length):Fnc Try.prog 69 [.ptr b 0,.sc (.int .i64 (n:Int))] H nx (fun q=> ∃ H',q=(.sl r o n n,H',nx)∧H'.at' b=some (rdO (.sl r (if C=n then o else o+n) (l.length-n) (C-n)) true)∧ ∀ m,m≠b→H'.at' m=H.at' m):=by
 have ho:(bif Nat.beq n 0 then o else o+0*1)=o:=by cases Nat.beq n 0 <;> simp
 refine Fnc.start Try.func69 rfl rfl ?_
 (repeat(first|refine an ?_|refine ae ?_|refine ac ?_|refine aD ?_|refine ax rfl ?_|(apply ai;exact rfl;exact rfl;exact rfl)|(apply ah;exact rfl;exact rfl;exact rfl)|(apply aQ;exact rfl;exact rfl;exact rfl;exact rfl)|(apply bG;exact rfl;exact rfl;exact rfl)|(apply aF;exact rfl;exact rfl;exact rfl;exact(F.fo _ _ rfl rfl))|refine bg rfl rfl rfl (F.ag _ rfl) (by assumption) (by exact rfl) ?_|(refine au rfl rfl rfl (by kernel_rfl) (Fnc.mono (d7 hb) ?_);rintro _ rfl;dsimp only)|(refine bC rfl rfl rfl rfl (fun hq=>absurd hq (by omega)) (fun _=>?_))|((apply rJ;exact rfl;exact rfl;exact rfl;exact(F.un _ rfl)))|(refine cp rfl rfl rfl rfl (fun hq=>absurd hq (by omega)) (fun _=>?_))))
 (apply rO (lw:=0) (hg:=n) (m:=n);exact rfl;exact rfl;exact rfl;exact(F.un _ rfl);exact(F.sz _ rfl);exact rfl;exact(bd_n rfl rfl);exact(bd_n rfl rfl);exact(ti _);exact(th _);(focus(omega)))
 rw [ho]
 (repeat(first|refine an ?_|refine ae ?_|refine ac ?_|(apply ai;exact rfl;exact rfl;exact rfl)|(apply ah;exact rfl;exact rfl;exact rfl)|(apply bG;exact rfl;exact rfl;exact rfl)|(apply aF;exact rfl;exact rfl;exact rfl;exact(F.fo _ _ rfl rfl))|refine bg rfl rfl rfl (F.ag _ rfl) (by assumption) (by exact rfl) ?_))
 (apply rN (lw:=n) (hg:=l.length);exact rfl;exact rfl;exact rfl;exact(F.un _ rfl);exact(F.sz _ rfl);exact(bd_n rfl rfl);exact rfl;(focus(omega));(focus(omega));exact rfl)
 (repeat(first|refine an ?_|refine ae ?_|refine ac ?_|(apply ai;exact rfl;exact rfl;exact rfl)|(apply ah;exact rfl;exact rfl;exact rfl)|(apply bG;exact rfl;exact rfl;exact rfl)|(apply aF;exact rfl;exact rfl;exact rfl;exact(F.fo _ _ rfl rfl))|refine aI rfl rfl rfl rfl (F.sz _ rfl) (by assumption) rfl (by exact s3 rfl) rfl ?_))
 ((apply aP Try.func69 (congrArg Array.toList Try.results69));(focus(repeat(first|exact ResIs.nil|apply ResIs.tmp rfl))))
 exact⟨_,rfl,Tr.ab _ _ _,fun m hm=>Tr.aa _ _ hm⟩
theorem mw{H:ar}{nx b r n:Nat}{st:Option (List UInt8)}(h:RdSt H b r st)(hne:r≠b):Fnc Try.prog 69 [.ptr b 0,.sc (.int .i64 (n:Int))] H nx (fun q=> ∃ s H',q=(s,H',nx)∧BlkS H' s r (b7 st n).1∧RdSt H' b r (b7 st n).2∧ ∀ m,m≠b→H'.at' m=H.at' m):=by
 cases st with
 | none=>
   obtain⟨s,hs⟩:=h
   refine Fnc.mono (my hs) ?_
   rintro _ rfl
   exact⟨_,_,rfl,.inl ⟨rfl,rfl⟩,⟨s,hs⟩,fun m _=>rfl⟩
 | some l=>
   obtain⟨o,C,h1,h2,h4⟩:=h
   by_cases hn:n≤l.length
   ·rw [kN hn]
    refine Fnc.mono (pV h1 h2 hn) ?_
    rintro _ ⟨H',rfl,g1,g2⟩
    obtain⟨k1,k2⟩:=(h4.frame (g2 r hne)).part hn
    have hlt:(l.take n).length=n:=by rw [List.length_take];omega
    refine⟨_,_,rfl,.inr ⟨o,n,by rw [hlt],k1⟩,?_,g2⟩
    have hld:(l.drop n).length=l.length-n:=List.length_drop
    refine⟨if C=n then o else o+n,C-n,by rw [hld];exact g1,by omega,?_⟩
    by_cases hc:C=n
    ·have:l.drop n= []:=List.drop_of_length_le (by omega)
     rw [this]
     obtain⟨vo,hv,_⟩:=k2
     exact BlkAt.none _ hv _
    ·rw [if_neg hc]
     exact k2
   ·rw [iu (by omega)]
    refine Fnc.mono (kM h1 (h4.bs) (.inr (by omega))) ?_
    rintro _ ⟨H',rfl,g1,g2⟩
    exact⟨_,_,rfl,.inl ⟨rfl,rfl⟩,⟨_,g1⟩,g2⟩
theorem nv{H:ar}{nx:Nat}{s:SV}(hb:BsIs H s (byV [])):Fnc Try.prog 68 [s] H nx (fun q=>q=(.tup [.sc (.int .u64 0),.sc (.int .i64 2)],H,nx)):=by
 refine Fnc.start Try.func68 rfl rfl ?_
 (repeat(first|refine an ?_|refine ae ?_|refine ac ?_|(apply ai;exact rfl;exact rfl;exact rfl)|(apply ah;exact rfl;exact rfl;exact rfl)|(refine cH rfl rfl (F.un _ rfl) rfl hb ?_)))
 refine bC rfl rfl rfl rfl (fun _=>?_) (fun hq=>absurd hq (by decide))
 (repeat(first|refine an ?_|refine ae ?_|refine ac ?_|refine ay rfl ?_|(apply ai;exact rfl;exact rfl;exact rfl)|(apply ah;exact rfl;exact rfl;exact rfl)|(apply bp;exact rfl;exact rfl;exact rfl;exact rfl)|(apply dF;exact rfl)))
 ((apply aP Try.func68 (congrArg Array.toList Try.results68));(focus(repeat(first|exact ResIs.nil|apply ResIs.tmp rfl))))
 rfl
theorem pz{H:ar}{nx:Nat}{s:SV}{bs:List UInt8}(hb:BsIs H s (byV bs))(h2:bs.length≤8):Fnc Try.prog 68 [s] H nx (fun q=> ∃ e:Int,q=(.tup [.sc (.int .u64 (beN bs:Int)),.sc (.int .i64 e)],H,nx)):=by
 cases bs with
 | nil=>
   refine Fnc.mono (nv hb) ?_
   rintro _ rfl
   exact⟨2,rfl⟩
 | cons c bs=>
   refine Fnc.mono (sF hb (Nat.succ_le_succ (ti _)) h2) ?_
   rintro _ rfl
   exact⟨0,rfl⟩
theorem mz(st:Option (List UInt8))(n:Nat):(b7 st n).1= []∨(b7 st n).1.length=n:=by
 cases st with
 | none=>exact .inl rfl
 | some l=>
   by_cases h:n≤l.length
   ·rw [kN h,List.length_take]
    exact .inr (by omega)
   ·rw [iu (by omega)]
    exact .inl rfl
theorem iv(st:Option (List UInt8))(n:Nat):(b7 st n).1.length≤n:=by
 rcases mz st n with h|h
 ·rw [h];exact ti _
 ·exact Nat.le_of_eq h
theorem sk{H:ar}{nx b r n:Nat}{st:Option (List UInt8)}(h:RdSt H b r st)(hne:r≠b)(h1:1≤n)(h2:n≤8):Fnc Try.prog 57 [.ptr b 0,.sc (.int .i64 (n:Int))] H nx (fun q=> ∃ H',q=(.sc (.int .u64 (beN (b7 st n).1:Int)),H',nx)∧RdSt H' b r (b7 st n).2∧ ∀ m,m≠b→H'.at' m=H.at' m):=by
 refine Fnc.start Try.func57 rfl rfl ?_
 (repeat(first|refine an ?_|refine ae ?_|refine ac ?_|refine aD ?_|refine ax rfl ?_|(apply ai;exact rfl;exact rfl;exact rfl)|(apply ah;exact rfl;exact rfl;exact rfl)|(apply aQ;exact rfl;exact rfl;exact rfl;exact rfl)|(refine bC rfl rfl rfl rfl (fun hq=>absurd hq (by omega)) (fun _=>?_))|(refine cp rfl rfl rfl rfl (fun hq=>absurd hq (by omega)) (fun _=>?_))))
 refine au rfl rfl rfl (by kernel_rfl) (Fnc.mono (mw (n:=n) h hne) ?_)
 rintro _ ⟨s,H',rfl,g1,g2,g3⟩
 dsimp only
 refine au rfl rfl rfl (by kernel_rfl) (Fnc.mono (pz g1.bs (tw (iv _ _) h2)) ?_)
 rintro _ ⟨e,rfl⟩
 dsimp only
 (repeat(first|refine an ?_|refine ae ?_|refine ac ?_|(apply ai;exact rfl;exact rfl;exact rfl)|(apply ah;exact rfl;exact rfl;exact rfl)|(apply aH;exact rfl;exact rfl;exact rfl;exact rfl)))
 ((apply aP Try.func57 (congrArg Array.toList Try.results57));(focus(repeat(first|exact ResIs.nil|apply ResIs.tmp rfl))))
 exact⟨_,rfl,g2,g3⟩
theorem nb{H:ar}{nx b r n:Nat}{l:List UInt8}(hb:H.at' b=some (rdO (.slu r 0 l.length) true))(hr:H.at' r=some (dat false l.length 1 5 (byV l)))(hbk:BlkAt H r 0 l)(hne:r≠b)(h1:1≤n)(h2:n≤8):Fnc Try.prog 57 [.ptr b 0,.sc (.int .i64 (n:Int))] H nx (fun q=> ∃ H',q=(.sc (.int .u64 (beN (b7 (some l) n).1:Int)),H',nx)∧RdSt H' b r (b7 (some l) n).2∧ ∀ m,m≠b→H'.at' m=H.at' m):=by
 refine Fnc.start Try.func57 rfl rfl ?_
 by_cases hl:l.length=0
 ·have hs0:b7 (some l) n=([],none):=iu (by omega)
  rw [hs0]
  (repeat(first|refine an ?_|refine ae ?_|refine ac ?_|refine aD ?_|refine ax rfl ?_|(apply ai;exact rfl;exact rfl;exact rfl)|(apply ah;exact rfl;exact rfl;exact rfl)|(apply aQ;exact rfl;exact rfl;exact rfl;exact rfl)|(refine bC rfl rfl rfl rfl (fun hq=>absurd hq (by omega)) (fun _=>?_))|(refine cp rfl rfl rfl rfl (fun hq=>absurd hq (by omega)) (fun _=>?_))))
  refine au rfl rfl rfl (by kernel_rfl) (Fnc.mono (kM (n:=(n:Int)) (l:=l) hb (ib hr (by rfl)) (.inr (by omega))) ?_)
  rintro _ ⟨H',rfl,g1,g2⟩
  dsimp only
  refine au rfl rfl rfl (by kernel_rfl) (Fnc.mono (nv (pC _)) ?_)
  rintro _ rfl
  dsimp only
  (repeat(first|refine an ?_|refine ae ?_|refine ac ?_|(apply ai;exact rfl;exact rfl;exact rfl)|(apply ah;exact rfl;exact rfl;exact rfl)|(apply aH;exact rfl;exact rfl;exact rfl;exact rfl)))
  ((apply aP Try.func57 (congrArg Array.toList Try.results57));(focus(repeat(first|exact ResIs.nil|apply ResIs.tmp rfl))))
  exact⟨_,rfl,⟨_,g1⟩,g2⟩
 ·refine lG [] [.sc (.bool true)] hb hr (by omega) (by omega) ?_
  intro C hC
  have hst:RdSt (H.set b (am 118 ([] ++ .sl r (0*1) l.length C :: [.sc (.bool true)]))) b r (some l):=⟨0,C,Tr.ab _ _ _,hC,hbk.frame (Tr.aa _ _ hne)⟩
  have hfr: ∀ m,m≠b→(H.set b (am 118 ([] ++ .sl r (0*1) l.length C :: [.sc (.bool true)]))).at' m=H.at' m:=fun m hm=>Tr.aa _ _ hm
  generalize H.set b (am 118 ([] ++ .sl r (0*1) l.length C :: [.sc (.bool true)]))=H0 at hst hfr ⊢
  (repeat(first|refine an ?_|refine ae ?_|refine ac ?_|refine aD ?_|refine ax rfl ?_|(apply ai;exact rfl;exact rfl;exact rfl)|(apply ah;exact rfl;exact rfl;exact rfl)|(apply aQ;exact rfl;exact rfl;exact rfl;exact rfl)|(refine bC rfl rfl rfl rfl (fun hq=>absurd hq (by omega)) (fun _=>?_))|(refine cp rfl rfl rfl rfl (fun hq=>absurd hq (by omega)) (fun _=>?_))))
  refine au rfl rfl rfl (by kernel_rfl) (Fnc.mono (mw (n:=n) hst hne) ?_)
  rintro _ ⟨s,H',rfl,g1,g2,g3⟩
  dsimp only
  refine au rfl rfl rfl (by kernel_rfl) (Fnc.mono (pz g1.bs (tw (iv _ _) h2)) ?_)
  rintro _ ⟨e,rfl⟩
  dsimp only
  (repeat(first|refine an ?_|refine ae ?_|refine ac ?_|(apply ai;exact rfl;exact rfl;exact rfl)|(apply ah;exact rfl;exact rfl;exact rfl)|(apply aH;exact rfl;exact rfl;exact rfl;exact rfl)))
  ((apply aP Try.func57 (congrArg Array.toList Try.results57));(focus(repeat(first|exact ResIs.nil|apply ResIs.tmp rfl))))
  exact⟨_,rfl,g2,fun m hm=>(g3 m hm).trans (hfr m hm)⟩
theorem nM{H:ar}{nx b r:Nat}{st:Option (List UInt8)}(h:RdSt H b r st)(hne:r≠b):Fnc Try.prog 58 [.ptr b 0] H nx (fun q=> ∃ s H',q=(s,H',nx)∧BlkS H' s r (gN st).1∧RdSt H' b r (gN st).2∧ ∀ m,m≠b→H'.at' m=H.at' m):=by
 have hlt:=nN (b7 st 2).1
 have hp:256 ^ (b7 st 2).1.length≤256 ^ 2:=Nat.pow_le_pow_right (by decide) (iv _ _)
 refine Fnc.start Try.func58 rfl rfl ?_
 (repeat(first|refine an ?_|refine ae ?_|refine ac ?_|(apply ai;exact rfl;exact rfl;exact rfl)|(apply ah;exact rfl;exact rfl;exact rfl)))
 refine au rfl rfl rfl (by kernel_rfl) (Fnc.mono (sk (n:=2) h hne (by decide) (by decide)) ?_)
 rintro _ ⟨H1,rfl,g1,g2⟩
 dsimp only
 (repeat(apply gi;exact rfl;exact rfl;exact rfl;exact(F.un _ rfl);exact(F.un _ rfl);exact(show _=((beN (b7 st 2).1:Nat):Int)from sX _ ⟨by omega,by omega⟩)))
 refine au rfl rfl rfl (by kernel_rfl) (Fnc.mono (mw (n:=beN (b7 st 2).1) g1 hne) ?_)
 rintro _ ⟨s,H2,rfl,k1,k2,k3⟩
 dsimp only
 (repeat(first|refine ac ?_|(apply ah;exact rfl;exact rfl;exact rfl)))
 ((apply aP Try.func58 (congrArg Array.toList Try.results58));(focus(repeat(first|exact ResIs.nil|apply ResIs.tmp rfl))))
 exact⟨_,_,rfl,k1,k2,fun m hm=>(k3 m hm).trans (g2 m hm)⟩
def endR:Option (List UInt8)→Nat
 | some []=>0
 | _=>4
theorem sr{H:ar}{nx b:Nat}{s:SV}{l:List UInt8}(hb:H.at' b=some (rdO s true))(hs:BsIs H s (byV l)):Fnc Try.prog 71 [.ptr b 0] H nx (fun q=>q=(.sc (.int .i64 (l.length:Int)),H,nx)):=by
 refine Fnc.start Try.func71 rfl rfl ?_
 (repeat(first|refine an ?_|refine ae ?_|refine ac ?_|refine aD ?_|refine ax rfl ?_|(apply ai;exact rfl;exact rfl;exact rfl)|(apply ah;exact rfl;exact rfl;exact rfl)|(apply bG;exact rfl;exact rfl;exact rfl)|(apply aF;exact rfl;exact rfl;exact rfl;exact(F.fo _ _ rfl rfl))|refine bg rfl rfl rfl (F.ag _ rfl) (by assumption) (by exact rfl) ?_|(refine au rfl rfl rfl (by kernel_rfl) (Fnc.mono (d7 hb) ?_);rintro _ rfl;dsimp only)|(refine cH rfl rfl (F.un _ rfl) rfl hs ?_;rw [bM])))
 ((apply aP Try.func71 (congrArg Array.toList Try.results71));(focus(repeat(first|exact ResIs.nil|apply ResIs.tmp rfl))))
 rfl
theorem end_s{H:ar}{nx b r:Nat}{st:Option (List UInt8)}(h:RdSt H b r st):Fnc Try.prog 59 [.ptr b 0] H nx (fun q=>q=(.sc (.int .i64 (endR st:Int)),H,nx)):=by
 refine Fnc.start Try.func59 rfl rfl ?_
 cases st with
 | none=>
   obtain⟨s,hs⟩:=h
   (repeat(first|refine an ?_|refine ae ?_|refine ac ?_|refine bf ?_|refine ay rfl ?_|refine ax rfl ?_|(apply ai;exact rfl;exact rfl;exact rfl)|(apply ah;exact rfl;exact rfl;exact rfl)|(apply bp;exact rfl;exact rfl;exact rfl;exact rfl)|(apply dF;exact rfl)|(apply fl;exact rfl;exact rfl;exact rfl;exact rfl;exact(F.un _ rfl);exact rfl)|(refine au rfl rfl rfl (by kernel_rfl) (Fnc.mono (d7 hs) ?_);rintro _ rfl;dsimp only)))
   ((apply aP Try.func59 (congrArg Array.toList Try.results59));(focus(repeat(first|exact ResIs.nil|apply ResIs.tmp rfl))))
   rfl
 | some l=>
   obtain⟨o,C,h1,h2,h4⟩:=h
   have hb4:=h4.bs (C:=C)
   (repeat(first|refine an ?_|refine ae ?_|refine ac ?_|refine bf ?_|refine ax rfl ?_|(apply ai;exact rfl;exact rfl;exact rfl)|(apply ah;exact rfl;exact rfl;exact rfl)|(apply fl;exact rfl;exact rfl;exact rfl;exact rfl;exact(F.un _ rfl);exact rfl)|(refine au rfl rfl rfl (by kernel_rfl) (Fnc.mono (d7 h1) ?_);rintro _ rfl;dsimp only)|(refine au rfl rfl rfl (by kernel_rfl) (Fnc.mono (sr h1 hb4) ?_);rintro _ rfl;dsimp only)))
   refine cp rfl rfl rfl rfl (fun hq=>?_) (fun hq=>?_)
   all_goals(repeat(first|refine an ?_|refine ae ?_|refine ac ?_|refine bw ?_|refine aD ?_|refine ay rfl ?_|refine ax rfl ?_|(apply ah;exact rfl;exact rfl;exact rfl)|(apply aQ;exact rfl;exact rfl;exact rfl;exact rfl)))
   all_goals((apply aP Try.func59 (congrArg Array.toList Try.results59));(focus(repeat(first|exact ResIs.nil|apply ResIs.tmp rfl))))
   all_goals(cases l with|nil=>_|cons c l=>_)
   all_goals first|rfl|(exfalso;simp at hq;done)|(exfalso;simp only [tn,List.length_nil] at hq;omega)
abbrev rR(k w:SV)(x y:Nat):SV:= .agg [k,w,.sc (.int .u64 (x:Int)),.sc (.int .u64 (y:Int))]
def VerIs(H:ar)(s:SV)(v:gQ):Prop:= ∃ k w,s=rR k w v.2.2.1 v.2.2.2∧BsIs H k (byV v.1)∧BsIs H w (byV v.2.1)
theorem VerIs.frame{H H':ar}{s:SV}{v:gQ}(h:VerIs H s v)(hf: ∀ b vo,H.at' b=some vo→H'.at' b=some vo):VerIs H' s v:=by
 obtain⟨k,w,h1,h2,h3⟩:=h
 exact⟨k,w,h1,h2.frame hf,h3.frame hf⟩
abbrev rE:gQ:=([],[],0,0)
theorem so{H:ar}{nx:Nat}{s:SV}{v:gQ}(hv:VerIs H s v):Fnc Try.prog 40 [s] H nx (fun q=>q=(.sc (.bool (pq v)),H,nx)):=by
 refine Fnc.bT (Free.sc _) ?_
 obtain⟨k,w,rfl,hk,hw⟩:=hv
 refine Fnc.start Try.func40 rfl rfl ?_
 refine bv fun hund=>?_
 have hf: ∀ {vo:VO} (b:Nat) (vo':VO),H.at' b=some vo'→(H.set nx vo).at' b=some vo':=fun b vo' hb=>(Tr.aa _ _ (by have:=hund b vo' hb;omega)).trans hb
 have hk2: ∀ {vo:VO},BsIs (H.set nx vo) k (byV v.1):=fun {vo}=>hk.frame hf
 have hw2: ∀ {vo:VO},BsIs (H.set nx vo) w (byV v.2.1):=fun {vo}=>hw.frame hf
 have hm:pq v=decide ((1≤v.1.length∧v.1.length≤32)∧v.2.1.length≤128∧(1≤v.2.2.1∧v.2.2.1≤4000)∧v.2.2.2≤4000):=rfl
 have hl1:=bM v.1
 have hl2:=bM v.2.1
 (repeat' (first|refine an ?_|refine ae ?_|refine ac ?_|(apply ai;exact rfl;exact rfl;exact rfl)|(apply ah;exact rfl;exact rfl;exact rfl)|(apply bp;exact rfl;exact rfl;exact rfl;exact rfl)|(apply aQ;exact rfl;exact rfl;exact rfl;exact rfl)|(apply aF;exact rfl;exact rfl;exact rfl;exact(F.fo _ _ rfl rfl))|(apply dF;exact rfl)|(apply ce;exact rfl;exact rfl;exact rfl)|refine bg rfl rfl rfl (F.ag _ rfl) (by(repeat(exact Tr.ab _ _ _));done) (by exact rfl) ?_|(refine cH rfl rfl (F.un _ rfl) rfl hk2 ?_;rw [bM])|(refine cH rfl rfl (F.un _ rfl) rfl hw2 ?_;rw [bM])|(refine kJ rfl rfl rfl rfl ?_ ?_ <;> intro hq)|(refine pm rfl rfl rfl rfl ?_ ?_ <;> intro hq2)))
 all_goals((apply aP Try.func40 (congrArg Array.toList Try.results40));(focus(repeat(first|exact ResIs.nil|apply ResIs.tmp rfl))))
 all_goals(refine⟨?_,tz _,fun m hm=>Tr.aa _ _ (by omega)⟩)
 all_goals(rw [hm];first|(rw [decide_eq_true (by omega)];rfl)|(rw [decide_eq_false (by omega)];rfl))
theorem LsIs.nil(H:ar):LsIs H [] []:=⟨rfl,fun j s vs h=>by simp at h⟩
theorem LsIs.cons{H:ar}{s:SV}{vs:List Value}{ls:List SV}{bs:List (List Value)}(h:BsIs H s vs)(t:LsIs H ls bs):LsIs H (s :: ls) (vs :: bs):=by
 refine⟨by simp [t.1],fun j s' vs' h1 h2=>?_⟩
 cases j with
 | zero=>
   simp only [tf,sW] at h1 h2
   subst h1 h2
   exact h
 | succ j=>exact t.2 j s' vs' (by simpa using h1) (by simpa using h2)
theorem ia(a b:List UInt8):byV (a ++ b)=byV a ++ byV b:=tq
theorem shr8(n:Nat):((n:Nat):Int).fdiv (2 ^ (min (8:Int).toNat IntKind.i64.bits))=((n / 256:Nat):Int):=by
 rw [show min (8:Int).toNat IntKind.i64.bits=8 from rfl,Int.fdiv_eq_ediv_of_nonneg _ (by decide)]
 omega
theorem qP(n:Nat):byV (beB n 2)= [.int .u8 ((UInt8.ofNat (n / 256)).toNat:Int),.int .u8 ((UInt8.ofNat n).toNat:Int)]:=by
 rw [lx,lx]
 simp [beB]
theorem pD{H:ar}{nx:Nat}{s:SV}{l:List UInt8}(hs:BsIs H s (byV l))(hl:l.length≤65535):Fnc Try.prog 41 [s] H nx (fun q=> ∃ r,q.1 = .tup [.slu r 0 (eh l).length,.sc (.int .i64 0)]∧q.2.1.at' r=some (u8R false (byV (eh l)))∧nx≤r∧r<q.2.2∧ ∀ m,m<nx→q.2.1.at' m=H.at' m):=by
 refine Fnc.start Try.func41 rfl rfl ?_
 refine bv fun hund=>?_
 have hbl:(byV (eh l))= [.int .u8 ((UInt8.ofNat (l.length / 256)).toNat:Int),.int .u8 ((UInt8.ofNat l.length).toNat:Int)] ++ (byV l ++ []):=by
  unfold eh
  rw [ia,qP,List.append_nil]
 have hf: ∀ (vo vo':VO) (b:Nat) (w:VO),H.at' b=some w→((H.set nx vo).set (nx+1) vo').at' b=some w:=fun vo vo' b w hb=>by
  have:=hund b w hb
  exact(Tr.aa _ _ (by omega)).trans ((Tr.aa _ _ (by omega)).trans hb)
 have hs0:=hs
 (repeat(first|refine an ?_|refine ae ?_|refine ac ?_|(apply ai;exact rfl;exact rfl;exact rfl)|(apply ah;exact rfl;exact rfl;exact rfl)|(refine cH rfl rfl (F.un _ rfl) rfl hs ?_;rw [bM])))
 refine cp rfl rfl rfl rfl (fun hq=>absurd hq (by omega)) (fun _=>?_)
 (repeat(first|refine an ?_|refine ae ?_|refine ac ?_|refine aD ?_|refine ax rfl ?_|(apply ai;exact rfl;exact rfl;exact rfl)|(refine cH rfl rfl (F.un _ rfl) rfl hs ?_;rw [bM])|((apply kG;exact rfl;exact rfl;exact rfl;exact rfl;(focus(decide));exact(shr8 _)))|(apply gi;exact rfl;exact rfl;exact rfl;exact(F.un _ rfl);exact(F.un _ rfl);exact(pP _))))
 obtain⟨_,⟨_,_,_,rfl⟩|⟨r0,eo,ne,ro0,t0,us,rfl,hb0,hn0,hu0⟩|⟨b0,o0,C0,vo0,rfl,hb0,hc0⟩⟩:=hs0
 all_goals(repeat(first|(apply cd;exact rfl;exact rfl;exact(F.un _ rfl);exact(F.sz _ rfl);exact rfl;exact(F.ze _ rfl);exact rfl;exact rfl;exact rfl;exact rfl;exact rfl)|(apply ai;exact rfl;exact rfl;exact rfl)))
 all_goals
  refine au rfl rfl rfl (by kernel_rfl) (Fnc.mono (jy (bs:= [[.int .u8 ((UInt8.ofNat (l.length / 256)).toNat:Int),.int .u8 ((UInt8.ofNat l.length).toNat:Int)],byV l]) (ls:= [_,_]) (Tr.ab _ _ _) (LsIs.cons (BsIs.row (ne:=2) (fun v hv=>by rcases List.mem_cons.1 hv with rfl|hv;rfl;rw [List.mem_singleton.1 hv];rfl) ((Tr.aa _ _ (by omega)).trans ((Tr.ab _ _ _).trans (congrArg some (ln _ _ _ _ [.int .u8 ((UInt8.ofNat (l.length / 256)).toNat:Int),.int .u8 ((UInt8.ofNat l.length).toNat:Int)])))) rfl) (LsIs.cons (hs.frame (hf _ _)) (LsIs.nil _))) (by simp;omega) (s3 rfl)) ?_)
  rintro _ rfl
  dsimp only
  (repeat(first|refine ac ?_|(apply ah;exact rfl;exact rfl;exact rfl)))
  ((apply aP Try.func41 (congrArg Array.toList Try.results41));(focus(repeat(first|exact ResIs.nil|apply ResIs.tmp rfl))))
 all_goals
  refine⟨nx+1+1,?_,?_,by omega,Nat.lt_succ_self _,fun m hm=>by(focus((repeat(refine(Tr.aa _ _ (by omega)).trans ?_));exact rfl))⟩
  ·rw [show(eh l).length=(byV (eh l)).length from(bM _).symm,hbl]
   rfl
  ·refine(Tr.ab _ _ _).trans ?_
   rw [hbl]
   rfl
theorem jk{H:ar}{r:Nat}{ro:Bool}{l:List UInt8}(h:H.at' r=some (u8R ro (byV l))):BsIs H (.slu r 0 l.length) (byV l):=by
 have:=BsIs.row (m8 l) h rfl
 rwa [bM] at this
theorem qN{H:ar}{nx:Nat}{s:SV}{v:gQ}(hv:VerIs H s v)(hm:pq v=true):Fnc Try.prog 13 [s] H nx (fun q=> ∃ r,q.1 = .tup [.slu r 0 (cJ v).length,.sc (.int .i64 0)]∧q.2.1.at' r=some (u8R false (byV (cJ v)))∧nx≤r∧r<q.2.2∧ ∀ m,m<nx→q.2.1.at' m=H.at' m):=by
 have hv0:=hv
 have hb:=of_decide_eq_true hm
 obtain⟨k,w,rfl,hk,hw⟩:=hv
 refine Fnc.start Try.func13 rfl rfl ?_
 refine bv fun hund=>?_
 (repeat(first|refine an ?_|refine ae ?_|refine ac ?_|(apply ah;exact rfl;exact rfl;exact rfl)|(apply ce;exact rfl;exact rfl;exact rfl)|refine bj rfl rfl rfl (F.ag _ rfl) (by(repeat(exact Tr.ab _ _ _));done) (by exact rfl) ?_))
 have hm1:=so (H:=H.set nx (am 30 [k,w,.sc (.int .u64 (v.2.2.1:Int)),.sc (.int .u64 (v.2.2.2:Int))])) (nx:=nx+1) (hv0.frame fun b vo hb=>(Tr.aa _ _ (by have:=hund b vo hb;omega)).trans hb)
 rw [hm] at hm1
 (repeat(first|refine an ?_|refine ae ?_|refine ac ?_|refine aD ?_|refine ax rfl ?_|(apply aF;exact rfl;exact rfl;exact rfl;exact(F.fo _ _ rfl rfl))|refine bg rfl rfl rfl (F.ag _ rfl) (by(repeat(exact Tr.ab _ _ _));done) (by exact rfl) ?_|(apply cG;exact rfl;exact rfl;exact rfl)|(refine au rfl rfl rfl (by kernel_rfl) (Fnc.mono (hm1) ?_);rintro _ rfl;dsimp only)))
 refine au rfl rfl rfl (by kernel_rfl) (Fnc.mono (qg (n:=v.2.2.1) (size:=8) (by omega) (by decide) (by decide) (by omega)) ?_)
 rintro⟨_,H2,n2⟩ ⟨rfl,a2,rfl,a4⟩
 dsimp only at a2 a4 ⊢
 have hbox2:H2.at' nx=some (am 30 [k,w,.sc (.int .u64 (v.2.2.1:Int)),.sc (.int .u64 (v.2.2.2:Int))]):=(a4 nx (by omega)).trans (Tr.ab _ _ _)
 (repeat(first|refine an ?_|refine ae ?_|refine ac ?_|(apply ai;exact rfl;exact rfl;exact rfl)|(apply ah;exact rfl;exact rfl;exact rfl)|(apply aH;exact rfl;exact rfl;exact rfl;exact rfl)|(apply aF;exact rfl;exact rfl;exact rfl;exact(F.fo _ _ rfl rfl))|refine bg rfl rfl rfl (F.ag _ rfl) (by assumption) (by exact rfl) ?_))
 refine au rfl rfl rfl (by kernel_rfl) (Fnc.mono (qg (n:=v.2.2.2) (size:=8) (by omega) (by decide) (by decide) (by omega)) ?_)
 rintro⟨_,H3,n3⟩ ⟨rfl,b2,rfl,b4⟩
 dsimp only at b2 b4 ⊢
 have hbox3:=(b4 nx (by omega)).trans hbox2
 have h3: ∀ m,m<nx→H3.at' m=H.at' m:=fun m hm=>(b4 m (by omega)).trans ((a4 m (by omega)).trans (Tr.aa _ _ (by omega)))
 (repeat(first|refine an ?_|refine ae ?_|refine ac ?_|(apply ai;exact rfl;exact rfl;exact rfl)|(apply ah;exact rfl;exact rfl;exact rfl)|(apply aH;exact rfl;exact rfl;exact rfl;exact rfl)|(apply aF;exact rfl;exact rfl;exact rfl;exact(F.fo _ _ rfl rfl))|refine bg rfl rfl rfl (F.ag _ rfl) (by assumption) (by exact rfl) ?_))
 refine au rfl rfl rfl (by kernel_rfl) (Fnc.mono (pD (hk.frame fun b vo hb=>(h3 b (hund b vo hb)).trans hb) (by omega)) ?_)
 rintro⟨_,H4,n4⟩ ⟨r4,rfl,c2,c3,c4,c5⟩
 dsimp only at c2 c3 c4 c5 ⊢
 have hbox4:=(c5 nx (by omega)).trans hbox3
 have h4: ∀ m,m<nx→H4.at' m=H.at' m:=fun m hm=>(c5 m (by omega)).trans (h3 m hm)
 (repeat(first|refine an ?_|refine ae ?_|refine ac ?_|(apply ai;exact rfl;exact rfl;exact rfl)|(apply ah;exact rfl;exact rfl;exact rfl)|(apply aH;exact rfl;exact rfl;exact rfl;exact rfl)|(apply aF;exact rfl;exact rfl;exact rfl;exact(F.fo _ _ rfl rfl))|refine bg rfl rfl rfl (F.ag _ rfl) (by assumption) (by exact rfl) ?_))
 refine au rfl rfl rfl (by kernel_rfl) (Fnc.mono (pD (hw.frame fun b vo hb=>(h4 b (hund b vo hb)).trans hb) (by omega)) ?_)
 rintro⟨_,H5,n5⟩ ⟨r5,rfl,d2,d3,d4,d5⟩
 dsimp only at d2 d3 d4 d5 ⊢
 have h5: ∀ m,m<nx→H5.at' m=H.at' m:=fun m hm=>(d5 m (by omega)).trans (h4 m hm)
 have e1:H5.at' (nx+1)=some (dat false 8 1 5 (byV (beB v.2.2.1 8))):=(d5 _ (by omega)).trans ((c5 _ (by omega)).trans ((b4 _ (by omega)).trans a2))
 have e2:H5.at' (nx+1+1)=some (dat false 8 1 5 (byV (beB v.2.2.2 8))):=(d5 _ (by omega)).trans ((c5 _ (by omega)).trans b2)
 have e3:H5.at' r4=some (u8R false (byV (eh v.1))):=(d5 _ (by omega)).trans c2
 clear a2 a4 b2 b4 c2 c5
 refine bv fun hund5=>?_
 (repeat(first|(apply cd;exact rfl;exact rfl;exact(F.un _ rfl);exact(F.sz _ rfl);exact rfl;exact(F.ze _ rfl);exact rfl;exact rfl;exact rfl;exact rfl;exact rfl)|refine an ?_|refine ae ?_|refine ac ?_|(apply ai;exact rfl;exact rfl;exact rfl)|(apply ah;exact rfl;exact rfl;exact rfl)|(apply aH;exact rfl;exact rfl;exact rfl;exact rfl)))
 have hfr: ∀ (vo:VO) (b:Nat) (x:VO),H5.at' b=some x→(H5.set n5 vo).at' b=some x:=fun vo b x hx=>(Tr.aa _ _ (by have:=hund5 b x hx;omega)).trans hx
 have hfl:byV (cJ v)=byV (beB v.2.2.1 8) ++ (byV (beB v.2.2.2 8) ++ (byV (eh v.1) ++ (byV (eh v.2.1) ++ []))):=by
  unfold cJ
  rw [ia,ia,ia,List.append_nil]
 have hvl:=hY v
 refine au rfl rfl rfl (by kernel_rfl) (Fnc.mono (jy (bs:= [byV (beB v.2.2.1 8),byV (beB v.2.2.2 8),byV (eh v.1),byV (eh v.2.1)]) (ls:= [_,_,_,_]) (Tr.ab _ _ _) (LsIs.cons ((ib e1 (cc _ _)).frame (hfr _)) (LsIs.cons ((ib e2 (cc _ _)).frame (hfr _)) (LsIs.cons ((jk e3).frame (hfr _)) (LsIs.cons ((jk d2).frame (hfr _)) (LsIs.nil _))))) (by show(byV (beB v.2.2.1 8) ++ (byV (beB v.2.2.2 8) ++ (byV (eh v.1) ++ (byV (eh v.2.1) ++ [])))).length≤_;rw [← hfl,bM,hvl];omega) (s3 rfl)) ?_)
 rintro _ rfl
 dsimp only
 (repeat(first|refine ac ?_|(apply ah;exact rfl;exact rfl;exact rfl)))
 ((apply aP Try.func13 (congrArg Array.toList Try.results13));(focus(repeat(first|exact ResIs.nil|apply ResIs.tmp rfl))))
 refine⟨n5+1,?_,?_,by omega,Nat.lt_succ_self _,fun m hm=>(Tr.aa _ _ (by omega)).trans ((Tr.aa _ _ (by omega)).trans (h5 m hm))⟩
 ·rw [show(cJ v).length=(byV (cJ v)).length from(bM _).symm,hfl]
  rfl
 ·refine(Tr.ab _ _ _).trans ?_
  rw [hfl]
  rfl
theorem rS(ro:Bool)(l:List UInt8):u8R ro (byV l)=dat ro l.length 1 5 (byV l):=by
 show dat ro (byV l).length 1 _ _=_
 rw [bM]
theorem nL{H:ar}{r:Nat}{ro:Bool}{l:List UInt8}(h:H.at' r=some (dat ro l.length 1 5 (byV l))):BlkAt H r 0 l:=by
 refine⟨_,h,?_⟩
 exact dy l.length 0 (by rw [List.drop_zero];exact s9 (by rw [bM];exact th _)) (bM l) (by omega)
theorem r9{H:ar}{nx:Nat}{s:SV}{l:List UInt8}(hs:BsIs H s (byV l))(hl:l.length≤140737488355328):Fnc Try.prog 56 [s] H nx (fun q=> ∃ r b,q.1 = .ptr b 0∧q.2.1.at' b=some (rdO (.slu r 0 l.length) true)∧q.2.1.at' r=some (dat false l.length 1 5 (byV l))∧r≠b∧nx≤r∧nx≤b∧r<q.2.2∧b<q.2.2∧ ∀ m,m<nx→q.2.1.at' m=H.at' m):=by
 refine Fnc.start Try.func56 rfl rfl ?_
 refine bv fun hund=>?_
 have hfr: ∀ (vo:VO) (b:Nat) (x:VO),H.at' b=some x→(H.set nx vo).at' b=some x:=fun vo b x hx=>(Tr.aa _ _ (by have:=hund b x hx;omega)).trans hx
 have hs0:=hs
 obtain⟨_,⟨_,_,_,rfl⟩|⟨r0,eo,ne,ro0,t0,us,rfl,hb0,hn0,hu0⟩|⟨b0,o0,C0,vo0,rfl,hb0,hc0⟩⟩:=hs0
 all_goals(repeat(first|(apply cd;exact rfl;exact rfl;exact(F.un _ rfl);exact(F.sz _ rfl);exact rfl;exact(F.ze _ rfl);exact rfl;exact rfl;exact rfl;exact rfl;exact rfl)|refine an ?_|refine ae ?_|refine ac ?_|(apply ai;exact rfl;exact rfl;exact rfl)|(apply ah;exact rfl;exact rfl;exact rfl)))
 all_goals
  refine au rfl rfl rfl (by kernel_rfl) (Fnc.mono (jy (bs:= [byV l]) (ls:= [_]) (Tr.ab _ _ _) (LsIs.cons (hs.frame (hfr _)) (LsIs.nil _)) (by show(byV l ++ []).length≤_;rw [List.append_nil,bM];exact hl) (s3 rfl)) ?_)
  rintro _ rfl
  dsimp only
  have hfl: [byV l].flatten=byV l:=List.append_nil _
  rw [hfl,bM]
  (repeat(first|refine ac ?_|(apply ah;exact rfl;exact rfl;exact rfl)|(apply ce;exact rfl;exact rfl;exact rfl)|(apply cT;exact rfl;exact rfl;exact rfl;exact(F.ze _ rfl);exact(F.pl _ rfl);exact rfl)))
  ((apply aP Try.func56 (congrArg Array.toList Try.results56));(focus(repeat(first|exact ResIs.nil|apply ResIs.tmp rfl))))
  refine⟨nx+1,nx+1+1,rfl,Tr.ab _ _ _,((Tr.aa _ _ (by omega)).trans (Tr.ab _ _ _)).trans (congrArg some (rS _ _)),by omega,by omega,by omega,by dsimp only;omega,by dsimp only;omega,fun m hm=>by(focus((repeat(refine(Tr.aa _ _ (by omega)).trans ?_));exact rfl))⟩
def ck(p:List UInt8)(j:Nat):List UInt8:=(p.drop (aX p j)).take (a9 p j)
theorem du(p:List UInt8): ∀ (k n:Nat) (seen:List (Nat×Nat)) (fine:Bool),cF p k n seen fine=true→ ∀ j,n≤j→j<n+k→(aX p j=0∧a9 p j=0)∨(1≤a9 p j∧a9 p j≤1000∧aS p≤aX p j∧aX p j+a9 p j≤1024)
 | 0,n,seen,fine,_,j,h1,h2=>absurd h1 (by omega)
 | k+1,n,seen,fine,h,j,h1,h2=>by
   unfold cF at h
   split at h
   ·rename_i h3
    rcases Nat.lt_or_ge n j with h4|h4
    ·exact du p k (n+1) _ _ h j (by omega) (by omega)
    ·obtain rfl:n=j:=by omega
     exact .inl h3
   ·split at h
    ·cases h
    ·split at h
     ·cases h
     ·rename_i h5 _
      rcases Nat.lt_or_ge n j with h4|h4
      ·exact du p k (n+1) _ _ h j (by omega) (by omega)
      ·obtain rfl:n=j:=by omega
       exact .inr (by omega)
theorem gq{p:List UInt8}(h:bP p=true){j:Nat}(hj:j<aE p)(hs:a9 p j≠0):1≤a9 p j∧a9 p j≤1000∧aS p≤aX p j∧aX p j+a9 p j≤1024:=by
 unfold bP at h
 rw [tg] at h
 rcases du p _ _ _ _ h.2 j (ti _) (by omega)with h1|h1
 ·exact absurd h1.2 hs
 ·exact h1
theorem jz{p:List UInt8}(hp:p.length=1024){j:Nat}(h:aX p j+a9 p j≤1024):(ck p j).length=a9 p j:=by
 unfold ck
 rw [List.length_take,List.length_drop]
 omega
theorem qz{H:ar}{nx l f q:Nat}{p:List UInt8}(hp:p.length=1024)(hr:bP p=true){f2 nt2:Nat}{T2:Tr SV}{ps:Array Tmp}{ca cb:Code}{dr:Nat}(hps:ps.size=2)(I:Nat→ar→Nat→Prop)(J:ar→Nat→Prop)
 (hI: ∀ j H nx,I j H nx→H.at' l=some (.loop .ready none f2 nt2 T2 ps ca cb dr)∧H.at' f=some (am 4 [.sc (.bool true)])∧H.at' q=some (pgO p)∧l<nx∧f<nx∧q<nx)
 (hgrow: ∀ j H nx H' nx',I j H nx→nx≤nx'→(∀ m,m<nx→H'.at' m=H.at' m)→I j H' nx')
 (hskip: ∀ j H nx,I j H nx→a9 p j=0→I (j+1) H nx)
 (hround: ∀ j H1 n1 r,I j H1 n1→nx≤r→r<n1→j<aE p→a9 p j≠0→H1.at' r=some (u8R false (byV (ck p j))) →
   Wp Try.prog (some l) ⟨f2,nt2,(ps.toList.zip [.sc (.int .i64 (j:Int)),.slu r 0 (ck p j).length]).foldl (fun T x=>eg nt2 T (some x.1) x.2) T2,[.code ca,.beginRound,.code cb],[],H1,n1⟩ (fun x=>(x.1 = .sc (.bool true)∧I (j+1) x.2.1 x.2.2∧n1≤x.2.2∧x.2.1.at' nx=H1.at' nx)∨(x.1 = .sc (.bool false)∧J x.2.1 x.2.2)))
 (h0:I 0 H nx):Fnc Try.prog 60 [.yld l,.ptr f 0,.ptr q 0] H nx (fun r=>I (aE p) r.2.1 r.2.2∨J r.2.1 r.2.2):=by
 have hf:=dZ hp hr
 obtain⟨_,hp1,hp2⟩:=hf
 have hJ0:Nat.beq ps.size 2=true:=by rw [hps];rfl
 refine Fnc.start Try.func60 rfl rfl ?_
 obtain⟨i1,i2,i3,i4,i5,i6⟩:=hI _ _ _ h0
 have hg1:I 0 (H.set nx (pA q)) (nx+1):=hgrow _ _ _ _ _ h0 (tz _) fun m hm=>Tr.aa _ _ (by omega)
 have hq1: ∀ {vo:VO},(H.set nx vo).at' q=some (pgO p):=fun {vo}=>(Tr.aa _ _ (by omega)).trans i3
 (repeat(first|refine an ?_|refine ae ?_|refine ac ?_|refine bf ?_|refine aD ?_|refine ax rfl ?_|(apply ai;exact rfl;exact rfl;exact rfl)|(apply ah;exact rfl;exact rfl;exact rfl)|refine bg rfl rfl rfl (F.ag _ rfl) (by assumption) (by exact rfl) ?_|(apply cG;exact rfl;exact rfl;exact rfl)|(refine au rfl rfl rfl (by kernel_rfl) (Fnc.mono (fY) ?_);rintro _ rfl;dsimp only)|(refine au rfl rfl rfl (by kernel_rfl) (Fnc.mono (eC hq1 hp) ?_);rintro _ rfl;dsimp only)))
 refine db (α:=Nat) (fun j=> [(0,.yld l),(2,.ptr q 0),(4,qY nx),(11,.sc (.int .i64 (aE p:Int))),(12,.sc (.int .i64 (j:Int)))])
  (fun j H1 n1=>j≤aE p∧I j H1 n1∧nx+1≤n1∧H1.at' nx=some (pA q)) (fun j=>aE p-j) 0
  ⟨ti _,hg1,th _,Tr.ab _ _ _⟩ (SlIn.sub (by repeat(first|exact trivial|refine⟨rfl,?_⟩))) ?_
 clear hg1 h0 hq1 i1 i2 i3
 rintro j H1 n1 ⟨h1,h2,h3,h4⟩ ih
 obtain⟨k1,k2,k3,k4,k5,k6⟩:=hI _ _ _ h2
 (repeat(first|refine an ?_|refine ae ?_))
 refine bC rfl rfl rfl rfl (fun h5=>?_) (fun h5=>?_)
 ·(repeat(first|refine an ?_|refine ae ?_|refine ac ?_|refine bf ?_|refine aD ?_|refine ay rfl ?_|(apply ai;exact rfl;exact rfl;exact rfl)|(apply ah;exact rfl;exact rfl;exact rfl)))
  refine gj rfl rfl rfl rfl (by kernel_rfl) (Fnc.mono (im h4 k3 hp (n:=j) (by omega)) ?_)
  rintro _ rfl
  dsimp only
  (repeat(first|refine an ?_|refine ae ?_|refine ac ?_|(apply ai;exact rfl;exact rfl;exact rfl)|(apply ah;exact rfl;exact rfl;exact rfl)|(apply aH;exact rfl;exact rfl;exact rfl;exact rfl)))
  refine cI rfl rfl rfl rfl (fun e1=>?_) (fun e1=>?_)
  ·(repeat(first|refine ae ?_|refine ac ?_|refine bZ rfl ?_|refine ay rfl ?_|(apply ai;exact rfl;exact rfl;exact rfl)|(apply cn;exact rfl;exact rfl;exact rfl;exact rfl;(focus(omega));(focus(omega)))))
   exact ih _ _ _ (j+1) ⟨by omega,hskip _ _ _ h2 (by omega),h3,h4⟩ (by omega) (SlIn.sub (by repeat(first|exact trivial|refine⟨rfl,?_⟩)))
  ·have hs:=gq hr (j:=j) (by omega) (by omega)
   have hil:=jz hp hs.2.2.2
   have hbl:=bM (ck p j)
   (repeat(first|refine an ?_|refine ae ?_|refine ac ?_|refine aD ?_|refine ax rfl ?_|(apply ai;exact rfl;exact rfl;exact rfl)|(apply cn;exact rfl;exact rfl;exact rfl;exact rfl;(focus(omega));(focus(omega)))|((apply gh (lw:=aX p j) (hg:=aX p j+a9 p j);exact rfl;exact rfl;exact rfl;exact(F.un _ rfl);exact(F.sz _ rfl);exact rfl;exact rfl;(focus(omega));(focus(omega));(focus(omega));exact(show aX p j+a9 p j-aX p j=a9 p j by omega);exact rfl;exact(Nat.zero_add _)))|(refine fl rfl rfl rfl rfl Try.underlying106 rfl ?_)|(apply cd;exact rfl;exact rfl;exact(F.un _ rfl);exact(F.sz _ rfl);exact rfl;exact(F.ze _ rfl);exact rfl;exact rfl;exact rfl;exact rfl;exact rfl)))
   refine au rfl rfl rfl (by kernel_rfl) (Fnc.mono (jy (bs:= [byV (ck p j)]) (ls:= [_]) (Tr.ab _ _ _) (LsIs.cons (kB ((Tr.aa _ _ (by omega)).trans k3) (by omega)) (LsIs.nil _)) (by show(byV (ck p j) ++ []).length≤_;rw [List.append_nil];omega) (s3 rfl)) ?_)
   rintro _ rfl
   dsimp only
   have hfl: [byV (ck p j)].flatten=byV (ck p j):=List.append_nil _
   rw [hfl,bM]
   have hg:I j ((H1.set n1 (bsR false [.sl q (aX p j) (a9 p j) (1024-aX p j)])).set (n1+1) (u8R false (byV (ck p j)))) (n1+1+1):=hgrow _ _ _ _ _ h2 (by omega) fun m hm=>(Tr.aa _ _ (by omega)).trans (Tr.aa _ _ (by omega))
   have hl2:=(hI _ _ _ hg).1
   refine pR (n:=l) rfl rfl rfl rfl hl2 hJ0 ?_
   refine Wp.mono (hround j _ _ (n1+1) hg (by omega) (by omega) (by omega) (by omega) (Tr.ab _ _ _)) ?_
   rintro⟨v,H2,n2⟩ (⟨rfl,g2,g3,g4⟩|⟨rfl,g2⟩)
   ·dsimp only at g2 g3 g4 ⊢
    (repeat(first|refine ae ?_|refine ac ?_|refine bw ?_|refine aD ?_|refine ax rfl ?_|(apply ai;exact rfl;exact rfl;exact rfl)|(apply aQ;exact rfl;exact rfl;exact rfl;exact rfl)|(apply cn;exact rfl;exact rfl;exact rfl;exact rfl;(focus(omega));(focus(omega)))|(apply cG;exact rfl;exact rfl;exact rfl)))
    exact ih _ _ _ (j+1) ⟨by omega,g2,by omega,g4.trans ((Tr.aa _ _ (by omega)).trans ((Tr.aa _ _ (by omega)).trans h4))⟩ (by omega) (SlIn.sub (by repeat(first|exact trivial|refine⟨rfl,?_⟩)))
   ·dsimp only at g2 ⊢
    (repeat(first|refine ac ?_|refine ay rfl ?_|(apply aQ;exact rfl;exact rfl;exact rfl;exact rfl)|(apply cG;exact rfl;exact rfl;exact rfl)))
    ((apply aP Try.func60 (congrArg Array.toList Try.results60));(focus(repeat(exact ResIs.nil))))
    exact .inr g2
 ·obtain rfl:j=aE p:=by omega
  (repeat(first|refine an ?_|refine ac ?_|refine bZ rfl ?_|refine ax rfl ?_))
  ((apply gg Try.func60 (congrArg Array.toList Try.results60));(focus(repeat(exact ResIs.nil))))
  exact .inl h2
end Go.Proofs.Ytnhmbonmlfeifaa
end
