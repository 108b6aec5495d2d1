import Derived.Laws.StructEq
import Derived.Sort.AssemblyPlain
import Derived.Sort.LotD5
import Derived.Test.YtjjgjjlgchidlaaGreatE4
set_option linter.unusedVariables false
set_option linter.unusedSimpArgs false
set_option maxRecDepth 100000
set_option maxHeartbeats 0
section
namespace Go.Proofs.YtjjgjjlgchidlaaGreat
open Go Go.Sy Go.Sl Go.RowKit
theorem lb{p:List UInt8}{o:Nat}{l:List UInt8}(h:o+l.length≤p.length)(i:Nat):(is p o l)[i]? =if o≤i∧i<o+l.length then l[i-o]? else p[i]? :=by
 have ho:(p.take o).length=o:=by rw [List.length_take];omega
 unfold is
 rcases Nat.lt_or_ge i o with h1|h1
 ·rw [if_neg (by omega),List.append_assoc,zA (by omega),List.getElem?_take_of_lt h1]
 ·rcases Nat.lt_or_ge i (o+l.length)with h2|h2
  ·rw [if_pos ⟨h1,h2⟩,zA (by rw [zH];omega),List.getElem?_append_right (by omega),ho]
  ·rw [if_neg (by omega),List.getElem?_append_right (by rw [zH];omega),zH,ho,List.getElem?_drop]
   congr 1
   omega
theorem tp{p q:List UInt8}{o:Nat}(h: ∀ i,o≤i→i<o+2→p[i]? =q[i]?):j6 p o=j6 q o:=by
 unfold j6
 congr 1
 refine List.ext_getElem? fun i=>?_
 rcases Nat.lt_or_ge i 2 with hi|hi
 ·rw [List.getElem?_take_of_lt hi,List.getElem?_take_of_lt hi,List.getElem?_drop,List.getElem?_drop]
  exact h _ (by omega) (by omega)
 ·rw [List.getElem?_eq_none (by rw [List.length_take];omega),List.getElem?_eq_none (by rw [List.length_take];omega)]
theorem qj{p:List UInt8}{o o':Nat}{l:List UInt8}(h:o+l.length≤p.length)(h2:o'+2≤o∨o+l.length≤o'):j6 (is p o l) o'=j6 p o':=
 tp fun i h3 h4=>by rw [lb h,if_neg (by omega)]
theorem hY{p:List UInt8}{o o' n:Nat}(h:o+2≤p.length)(h2:o'+2≤o∨o+2≤o'):j6 (kj p o n) o'=j6 p o':=
 qj (by rw [ee];exact h) (by rw [ee];exact h2)
theorem xW{n:Nat}(h:n<65536):beN (beB n 2)=n:=by
 show 256*(256*0+(UInt8.ofNat (n / 256 ^ 1)).toNat)+(UInt8.ofNat (n / 256 ^ 0)).toNat=n
 have t: ∀ k,(UInt8.ofNat k).toNat=k % 256:=fun k=>by simp
 rw [t,t]
 omega
theorem jo{p:List UInt8}{o n:Nat}(h:o+2≤p.length)(hn:n<65536):j6 (kj p o n) o=n:=by
 have:((kj p o n).drop o).take 2=beB n 2:=by
  unfold kj is
  rw [List.append_assoc,List.drop_left' (by rw [List.length_take];omega),List.take_left' (ee n 2)]
 unfold j6
 rw [this,xW hn]
theorem iw:ke Tryz.prog 48 []=some (.agg (pgS zeroP)):=by kernel_rfl
def fx(p:List UInt8):List UInt8:=if bB p=aT p then kj p 14 (bB p+1) else p
def mV(p it:List UInt8):List UInt8:=is (kj (dV (fx p) (bB p) (bi (fx p)-it.length) it.length) 16 (bi (fx p)-it.length)) (bi (fx p)-it.length) it
def oY(p it:List UInt8):List UInt8×Nat×Nat:=
 if dQ p=false then(zeroP,0,4) else if ¬ (1≤it.length∧it.length≤1000) then(zeroP,0,2) else if kZ p<it.length then(zeroP,0,5) else(mV p it,bB p,0)
abbrev insS(r:List UInt8×Nat×Nat):SV:= .tup [.agg (pgS r.1),.sc (.int .i64 (r.2.1:Int)),.sc (.int .i64 (r.2.2:Int))]
theorem vI{H:aJ}{nx:Nat}{p it:List UInt8}{s:SV}(hp:p.length=1024)(hB:BsIs H s (byV it))(hit:it.length≤4611686018427387904):Fnc Tryz.prog 58 [.agg (pgS p),s] H nx (fun q=>q.1=insS (oY p it)∧nx≤q.2.2∧ ∀ m,m<nx→q.2.1.at' m=H.at' m):=by
 have hlen:(byV it).length=it.length:=by simp
 refine Fnc.start Tryz.func58 rfl rfl ?_
 refine cn fun hund=>?_
 (repeat(first|refine aq ?_|refine ae ?_|refine ac ?_|refine aI ?_|refine aB ?_|refine aH ?_|refine bv ?_|refine bu ?_|refine a8 ?_|refine a9 rfl ?_|refine ax rfl ?_|refine au rfl ?_|refine ce rfl ?_|(apply aj;exact rfl;exact rfl;exact rfl)|(apply ai;exact rfl;exact rfl;exact rfl)|(apply aX;exact rfl;exact rfl;exact rfl;exact rfl)|(apply aO;exact rfl;exact rfl;exact rfl;exact rfl)|(apply aD;exact rfl;exact rfl;exact rfl;exact rfl)|(apply aU;exact rfl;exact rfl;exact rfl)|(apply aS;exact rfl;exact rfl;exact rfl)|(apply aR;exact rfl;exact rfl;exact rfl)|(apply ap;exact rfl;exact rfl;exact rfl;exact(F.fo _ _ rfl rfl))|(apply aN;exact rfl;exact rfl;exact rfl;exact rfl)|(apply bT;exact rfl)|(apply bS;exact rfl;exact rfl;exact rfl;exact rfl)|(apply ck;exact rfl;exact rfl)|(apply cw;exact rfl;exact rfl;exact rfl;exact rfl;exact(F.un _ rfl);exact rfl)|(apply da;exact rfl;exact rfl;exact rfl;exact rfl;exact(F.un _ rfl);exact rfl)|(apply db;exact rfl;exact rfl;exact rfl;exact rfl;exact rfl;exact(F.un _ rfl);exact rfl)|(apply c9;exact rfl;exact rfl;exact rfl;exact rfl;exact rfl;exact(F.un _ rfl);exact rfl)|refine aM rfl rfl rfl rfl (F.sz _ rfl) (by first|exact rfl|(focus((repeat(first|assumption|exact Tr.ab _ _ _|refine(Tr.aa _ _ (by omega)).trans ?_|refine(Tr.ah _ (by omega)).trans ?_));done))) rfl (by exact zn rfl) rfl ?_|(apply an;exact rfl;exact rfl;exact rfl;exact(F.ag _ rfl);exact rfl;exact rfl)|(apply ay;exact rfl;exact rfl;exact rfl;exact(F.ag _ rfl);exact rfl;exact rfl)|(apply aP;exact rfl;exact rfl;exact(F.zl _ rfl))|(apply bj;exact rfl;exact rfl;exact rfl)|(apply cJ;exact rfl;exact rfl;exact rfl;exact rfl)|(apply aK;exact rfl;exact rfl;exact rfl;exact(F.sz _ rfl);exact rfl;exact rfl;exact rfl)|(apply aE;exact rfl;exact rfl;exact rfl;exact(F.sz _ rfl);exact rfl;exact rfl;(focus(decide));exact rfl;exact rfl)|refine an rfl rfl rfl (F.ag _ rfl) (by(repeat(first|assumption|exact Tr.ab _ _ _|refine(Tr.aa _ _ (by omega)).trans ?_|refine(Tr.ah _ (by omega)).trans ?_));done) (by exact rfl) ?_|refine ay rfl rfl rfl (F.ag _ rfl) (by(repeat(first|assumption|exact Tr.ab _ _ _|refine(Tr.aa _ _ (by omega)).trans ?_|refine(Tr.ah _ (by omega)).trans ?_));done) (by exact rfl) ?_|refine aK rfl rfl rfl (F.sz _ rfl) (by(repeat(first|assumption|exact Tr.ab _ _ _|refine(Tr.aa _ _ (by omega)).trans ?_|refine(Tr.ah _ (by omega)).trans ?_));done) (by exact rfl) (by exact rfl) ?_|refine aE rfl rfl rfl (F.sz _ rfl) (by(repeat(first|assumption|exact Tr.ab _ _ _|refine(Tr.aa _ _ (by omega)).trans ?_|refine(Tr.ah _ (by omega)).trans ?_));done) rfl (by exact zn rfl) rfl (by exact rfl) ?_|(apply a6;exact rfl;exact rfl;exact rfl;exact(F.un _ rfl))|(apply be;exact rfl;exact rfl;exact rfl;exact(F.un _ rfl))|(apply bn;exact rfl;exact rfl;exact rfl;exact rfl;(focus(omega));(focus(omega)))|(apply cv;exact rfl;exact rfl;exact rfl;exact rfl;(focus(omega));(focus(omega)))|(apply cF;exact rfl;exact rfl;exact rfl;exact rfl;(focus(omega));(focus(omega)))|(apply bh;exact rfl;exact rfl;exact rfl)|(apply cV;exact rfl;exact rfl;exact rfl;exact rfl;(focus(omega));(focus(omega));(focus(omega)))|(apply bc;exact rfl;exact rfl;exact rfl;exact(F.ze _ rfl);exact(F.pl _ rfl);exact rfl)|fail|(refine aP rfl rfl iI ?_)|fail))
 have hb1:((H.set nx (pgO p)).set (nx+1) (pgO zeroP)).at' nx=some (pgO p):=by(focus((repeat(first|assumption|exact Tr.ab _ _ _|refine(Tr.aa _ _ (by omega)).trans ?_|refine(Tr.ah _ (by omega)).trans ?_));done))
 have hz1:((H.set nx (pgO p)).set (nx+1) (pgO zeroP)).at' (nx+1)=some (pgO zeroP):=by(focus((repeat(first|assumption|exact Tr.ab _ _ _|refine(Tr.aa _ _ (by omega)).trans ?_|refine(Tr.ah _ (by omega)).trans ?_));done))
 have ho1: ∀ m,m<nx→((H.set nx (pgO p)).set (nx+1) (pgO zeroP)).at' m=H.at' m:=fun m hm=>by(focus((repeat(first|refine(Tr.aa _ _ (by omega)).trans ?_|refine(Tr.ah _ (by omega)).trans ?_));exact rfl))
 have hB2: ∀ H':aJ,(∀ m,m<nx→H'.at' m=H.at' m)→BsIs H' s (byV it):=fun H' h=>hB.frame fun b vo hb=>(h b (hund b vo hb)).trans hb
 have hB1:=hB2 _ ho1
 generalize (H.set nx (pgO p)).set (nx+1) (pgO zeroP)=H1 at hb1 hz1 ho1 hB1 ⊢
 cases hr:dQ p with
 | false=>
   have hv:oY p it=(zeroP,0,4):=by unfold oY;rw [if_pos hr]
   have hrs:=fun nx=>mG (nx:=nx) hb1 hp
   rw [hr] at hrs
   (repeat(first|refine aq ?_|refine ae ?_|refine ac ?_|refine aI ?_|refine aB ?_|refine aH ?_|refine bv ?_|refine bu ?_|refine a8 ?_|refine a9 rfl ?_|refine ax rfl ?_|refine au rfl ?_|refine ce rfl ?_|(apply aj;exact rfl;exact rfl;exact rfl)|(apply ai;exact rfl;exact rfl;exact rfl)|(apply aX;exact rfl;exact rfl;exact rfl;exact rfl)|(apply aO;exact rfl;exact rfl;exact rfl;exact rfl)|(apply aD;exact rfl;exact rfl;exact rfl;exact rfl)|(apply aU;exact rfl;exact rfl;exact rfl)|(apply aS;exact rfl;exact rfl;exact rfl)|(apply aR;exact rfl;exact rfl;exact rfl)|(apply ap;exact rfl;exact rfl;exact rfl;exact(F.fo _ _ rfl rfl))|(apply aN;exact rfl;exact rfl;exact rfl;exact rfl)|(apply bT;exact rfl)|(apply bS;exact rfl;exact rfl;exact rfl;exact rfl)|(apply ck;exact rfl;exact rfl)|(apply cw;exact rfl;exact rfl;exact rfl;exact rfl;exact(F.un _ rfl);exact rfl)|(apply da;exact rfl;exact rfl;exact rfl;exact rfl;exact(F.un _ rfl);exact rfl)|(apply db;exact rfl;exact rfl;exact rfl;exact rfl;exact rfl;exact(F.un _ rfl);exact rfl)|(apply c9;exact rfl;exact rfl;exact rfl;exact rfl;exact rfl;exact(F.un _ rfl);exact rfl)|refine aM rfl rfl rfl rfl (F.sz _ rfl) (by first|exact rfl|(focus((repeat(first|assumption|exact Tr.ab _ _ _|refine(Tr.aa _ _ (by omega)).trans ?_|refine(Tr.ah _ (by omega)).trans ?_));done))) rfl (by exact zn rfl) rfl ?_|(apply an;exact rfl;exact rfl;exact rfl;exact(F.ag _ rfl);exact rfl;exact rfl)|(apply ay;exact rfl;exact rfl;exact rfl;exact(F.ag _ rfl);exact rfl;exact rfl)|(apply aP;exact rfl;exact rfl;exact(F.zl _ rfl))|(apply bj;exact rfl;exact rfl;exact rfl)|(apply cJ;exact rfl;exact rfl;exact rfl;exact rfl)|(apply aK;exact rfl;exact rfl;exact rfl;exact(F.sz _ rfl);exact rfl;exact rfl;exact rfl)|(apply aE;exact rfl;exact rfl;exact rfl;exact(F.sz _ rfl);exact rfl;exact rfl;(focus(decide));exact rfl;exact rfl)|refine an rfl rfl rfl (F.ag _ rfl) (by(repeat(first|assumption|exact Tr.ab _ _ _|refine(Tr.aa _ _ (by omega)).trans ?_|refine(Tr.ah _ (by omega)).trans ?_));done) (by exact rfl) ?_|refine ay rfl rfl rfl (F.ag _ rfl) (by(repeat(first|assumption|exact Tr.ab _ _ _|refine(Tr.aa _ _ (by omega)).trans ?_|refine(Tr.ah _ (by omega)).trans ?_));done) (by exact rfl) ?_|refine aK rfl rfl rfl (F.sz _ rfl) (by(repeat(first|assumption|exact Tr.ab _ _ _|refine(Tr.aa _ _ (by omega)).trans ?_|refine(Tr.ah _ (by omega)).trans ?_));done) (by exact rfl) (by exact rfl) ?_|refine aE rfl rfl rfl (F.sz _ rfl) (by(repeat(first|assumption|exact Tr.ab _ _ _|refine(Tr.aa _ _ (by omega)).trans ?_|refine(Tr.ah _ (by omega)).trans ?_));done) rfl (by exact zn rfl) rfl (by exact rfl) ?_|(apply a6;exact rfl;exact rfl;exact rfl;exact(F.un _ rfl))|(apply be;exact rfl;exact rfl;exact rfl;exact(F.un _ rfl))|(apply bn;exact rfl;exact rfl;exact rfl;exact rfl;(focus(omega));(focus(omega)))|(apply cv;exact rfl;exact rfl;exact rfl;exact rfl;(focus(omega));(focus(omega)))|(apply cF;exact rfl;exact rfl;exact rfl;exact rfl;(focus(omega));(focus(omega)))|(apply bh;exact rfl;exact rfl;exact rfl)|(apply cV;exact rfl;exact rfl;exact rfl;exact rfl;(focus(omega));(focus(omega));(focus(omega)))|(apply bc;exact rfl;exact rfl;exact rfl;exact(F.ze _ rfl);exact(F.pl _ rfl);exact rfl)|fail|(refine aL rfl rfl rfl (by kernel_rfl) (Fnc.mono (hrs _) ?_);rintro _ rfl;dsimp only)|(refine dh rfl rfl iw ?_)|fail))
   rw [dt _ _ ak ak]
   ((first|apply fT Tryz.func58 (congrArg Array.toList Tryz.results58)|apply bf Tryz.func58 (congrArg Array.toList Tryz.results58));(focus((apply ResIs.cell rfl (LoadIs.many (F.ag _ rfl) (by(repeat(first|assumption|exact Tr.ab _ _ _|refine(Tr.aa _ _ (by omega)).trans ?_|refine(Tr.ah _ (by omega)).trans ?_));done) (dg ak)));(repeat(first|exact ResIs.nil|apply ResIs.tmp rfl)))))
   exact⟨by rw [hv];rfl,by dsimp only;omega,fun m hm=>(Tr.aa _ _ (by omega)).trans (ho1 m hm)⟩
 | true=>
   have hf:=ig hp hr
   have hrs:=fun nx=>mG (nx:=nx) hb1 hp
   rw [hr] at hrs
   have hmi:=fun(H:aJ) nx=>tF (H:=H) (nx:=nx) (n:=it.length)
   have hlB:=hlen
   by_cases hm:1≤it.length∧it.length≤1000
   ·have hmt:decide (1≤it.length∧it.length≤1000)=true:=decide_eq_true hm
    rw [hmt] at hmi
    (repeat(first|refine aq ?_|refine ae ?_|refine ac ?_|refine aI ?_|refine aB ?_|refine aH ?_|refine bv ?_|refine bu ?_|refine a8 ?_|refine a9 rfl ?_|refine ax rfl ?_|refine au rfl ?_|refine ce rfl ?_|(apply aj;exact rfl;exact rfl;exact rfl)|(apply ai;exact rfl;exact rfl;exact rfl)|(apply aX;exact rfl;exact rfl;exact rfl;exact rfl)|(apply aO;exact rfl;exact rfl;exact rfl;exact rfl)|(apply aD;exact rfl;exact rfl;exact rfl;exact rfl)|(apply aU;exact rfl;exact rfl;exact rfl)|(apply aS;exact rfl;exact rfl;exact rfl)|(apply aR;exact rfl;exact rfl;exact rfl)|(apply ap;exact rfl;exact rfl;exact rfl;exact(F.fo _ _ rfl rfl))|(apply aN;exact rfl;exact rfl;exact rfl;exact rfl)|(apply bT;exact rfl)|(apply bS;exact rfl;exact rfl;exact rfl;exact rfl)|(apply ck;exact rfl;exact rfl)|(apply cw;exact rfl;exact rfl;exact rfl;exact rfl;exact(F.un _ rfl);exact rfl)|(apply da;exact rfl;exact rfl;exact rfl;exact rfl;exact(F.un _ rfl);exact rfl)|(apply db;exact rfl;exact rfl;exact rfl;exact rfl;exact rfl;exact(F.un _ rfl);exact rfl)|(apply c9;exact rfl;exact rfl;exact rfl;exact rfl;exact rfl;exact(F.un _ rfl);exact rfl)|refine aM rfl rfl rfl rfl (F.sz _ rfl) (by first|exact rfl|(focus((repeat(first|assumption|exact Tr.ab _ _ _|refine(Tr.aa _ _ (by omega)).trans ?_|refine(Tr.ah _ (by omega)).trans ?_));done))) rfl (by exact zn rfl) rfl ?_|(apply an;exact rfl;exact rfl;exact rfl;exact(F.ag _ rfl);exact rfl;exact rfl)|(apply ay;exact rfl;exact rfl;exact rfl;exact(F.ag _ rfl);exact rfl;exact rfl)|(apply aP;exact rfl;exact rfl;exact(F.zl _ rfl))|(apply bj;exact rfl;exact rfl;exact rfl)|(apply cJ;exact rfl;exact rfl;exact rfl;exact rfl)|(apply aK;exact rfl;exact rfl;exact rfl;exact(F.sz _ rfl);exact rfl;exact rfl;exact rfl)|(apply aE;exact rfl;exact rfl;exact rfl;exact(F.sz _ rfl);exact rfl;exact rfl;(focus(decide));exact rfl;exact rfl)|refine an rfl rfl rfl (F.ag _ rfl) (by(repeat(first|assumption|exact Tr.ab _ _ _|refine(Tr.aa _ _ (by omega)).trans ?_|refine(Tr.ah _ (by omega)).trans ?_));done) (by exact rfl) ?_|refine ay rfl rfl rfl (F.ag _ rfl) (by(repeat(first|assumption|exact Tr.ab _ _ _|refine(Tr.aa _ _ (by omega)).trans ?_|refine(Tr.ah _ (by omega)).trans ?_));done) (by exact rfl) ?_|refine aK rfl rfl rfl (F.sz _ rfl) (by(repeat(first|assumption|exact Tr.ab _ _ _|refine(Tr.aa _ _ (by omega)).trans ?_|refine(Tr.ah _ (by omega)).trans ?_));done) (by exact rfl) (by exact rfl) ?_|refine aE rfl rfl rfl (F.sz _ rfl) (by(repeat(first|assumption|exact Tr.ab _ _ _|refine(Tr.aa _ _ (by omega)).trans ?_|refine(Tr.ah _ (by omega)).trans ?_));done) rfl (by exact zn rfl) rfl (by exact rfl) ?_|(apply a6;exact rfl;exact rfl;exact rfl;exact(F.un _ rfl))|(apply be;exact rfl;exact rfl;exact rfl;exact(F.un _ rfl))|(apply bn;exact rfl;exact rfl;exact rfl;exact rfl;(focus(omega));(focus(omega)))|(apply cv;exact rfl;exact rfl;exact rfl;exact rfl;(focus(omega));(focus(omega)))|(apply cF;exact rfl;exact rfl;exact rfl;exact rfl;(focus(omega));(focus(omega)))|(apply bh;exact rfl;exact rfl;exact rfl)|(apply cV;exact rfl;exact rfl;exact rfl;exact rfl;(focus(omega));(focus(omega));(focus(omega)))|(apply bc;exact rfl;exact rfl;exact rfl;exact(F.ze _ rfl);exact(F.pl _ rfl);exact rfl)|fail|(refine aL rfl rfl rfl (by kernel_rfl) (Fnc.mono (hrs _) ?_);rintro _ rfl;dsimp only)|(refine ix rfl rfl (F.un _ rfl) rfl hB1 ?_;rw [hlen])|(refine aL rfl rfl rfl (by kernel_rfl) (Fnc.mono (hmi _ _) ?_);rintro _ rfl;dsimp only)|(refine aL rfl rfl rfl (by kernel_rfl) (Fnc.mono (yD hb1 hf) ?_);rintro _ rfl;dsimp only)|fail))
    refine e9 rfl rfl rfl rfl (fun h1=>?_) (fun h1=>?_)
    ·have hv:oY p it=(zeroP,0,5):=by unfold oY;rw [if_neg (by rw [hr];decide),if_neg (fun hq=>hq hm),if_pos (by omega)]
     (repeat(first|refine aq ?_|refine ae ?_|refine ac ?_|refine aI ?_|refine aB ?_|refine aH ?_|refine bv ?_|refine bu ?_|refine a8 ?_|refine a9 rfl ?_|refine ax rfl ?_|refine au rfl ?_|refine ce rfl ?_|(apply aj;exact rfl;exact rfl;exact rfl)|(apply ai;exact rfl;exact rfl;exact rfl)|(apply aX;exact rfl;exact rfl;exact rfl;exact rfl)|(apply aO;exact rfl;exact rfl;exact rfl;exact rfl)|(apply aD;exact rfl;exact rfl;exact rfl;exact rfl)|(apply aU;exact rfl;exact rfl;exact rfl)|(apply aS;exact rfl;exact rfl;exact rfl)|(apply aR;exact rfl;exact rfl;exact rfl)|(apply ap;exact rfl;exact rfl;exact rfl;exact(F.fo _ _ rfl rfl))|(apply aN;exact rfl;exact rfl;exact rfl;exact rfl)|(apply bT;exact rfl)|(apply bS;exact rfl;exact rfl;exact rfl;exact rfl)|(apply ck;exact rfl;exact rfl)|(apply cw;exact rfl;exact rfl;exact rfl;exact rfl;exact(F.un _ rfl);exact rfl)|(apply da;exact rfl;exact rfl;exact rfl;exact rfl;exact(F.un _ rfl);exact rfl)|(apply db;exact rfl;exact rfl;exact rfl;exact rfl;exact rfl;exact(F.un _ rfl);exact rfl)|(apply c9;exact rfl;exact rfl;exact rfl;exact rfl;exact rfl;exact(F.un _ rfl);exact rfl)|refine aM rfl rfl rfl rfl (F.sz _ rfl) (by first|exact rfl|(focus((repeat(first|assumption|exact Tr.ab _ _ _|refine(Tr.aa _ _ (by omega)).trans ?_|refine(Tr.ah _ (by omega)).trans ?_));done))) rfl (by exact zn rfl) rfl ?_|(apply an;exact rfl;exact rfl;exact rfl;exact(F.ag _ rfl);exact rfl;exact rfl)|(apply ay;exact rfl;exact rfl;exact rfl;exact(F.ag _ rfl);exact rfl;exact rfl)|(apply aP;exact rfl;exact rfl;exact(F.zl _ rfl))|(apply bj;exact rfl;exact rfl;exact rfl)|(apply cJ;exact rfl;exact rfl;exact rfl;exact rfl)|(apply aK;exact rfl;exact rfl;exact rfl;exact(F.sz _ rfl);exact rfl;exact rfl;exact rfl)|(apply aE;exact rfl;exact rfl;exact rfl;exact(F.sz _ rfl);exact rfl;exact rfl;(focus(decide));exact rfl;exact rfl)|refine an rfl rfl rfl (F.ag _ rfl) (by(repeat(first|assumption|exact Tr.ab _ _ _|refine(Tr.aa _ _ (by omega)).trans ?_|refine(Tr.ah _ (by omega)).trans ?_));done) (by exact rfl) ?_|refine ay rfl rfl rfl (F.ag _ rfl) (by(repeat(first|assumption|exact Tr.ab _ _ _|refine(Tr.aa _ _ (by omega)).trans ?_|refine(Tr.ah _ (by omega)).trans ?_));done) (by exact rfl) ?_|refine aK rfl rfl rfl (F.sz _ rfl) (by(repeat(first|assumption|exact Tr.ab _ _ _|refine(Tr.aa _ _ (by omega)).trans ?_|refine(Tr.ah _ (by omega)).trans ?_));done) (by exact rfl) (by exact rfl) ?_|refine aE rfl rfl rfl (F.sz _ rfl) (by(repeat(first|assumption|exact Tr.ab _ _ _|refine(Tr.aa _ _ (by omega)).trans ?_|refine(Tr.ah _ (by omega)).trans ?_));done) rfl (by exact zn rfl) rfl (by exact rfl) ?_|(apply a6;exact rfl;exact rfl;exact rfl;exact(F.un _ rfl))|(apply be;exact rfl;exact rfl;exact rfl;exact(F.un _ rfl))|(apply bn;exact rfl;exact rfl;exact rfl;exact rfl;(focus(omega));(focus(omega)))|(apply cv;exact rfl;exact rfl;exact rfl;exact rfl;(focus(omega));(focus(omega)))|(apply cF;exact rfl;exact rfl;exact rfl;exact rfl;(focus(omega));(focus(omega)))|(apply bh;exact rfl;exact rfl;exact rfl)|(apply cV;exact rfl;exact rfl;exact rfl;exact rfl;(focus(omega));(focus(omega));(focus(omega)))|(apply bc;exact rfl;exact rfl;exact rfl;exact(F.ze _ rfl);exact(F.pl _ rfl);exact rfl)|fail|(refine dh rfl rfl iw ?_)|fail))
     rw [dt _ _ ak ak]
     ((first|apply fT Tryz.func58 (congrArg Array.toList Tryz.results58)|apply bf Tryz.func58 (congrArg Array.toList Tryz.results58));(focus((apply ResIs.cell rfl (LoadIs.many (F.ag _ rfl) (by(repeat(first|assumption|exact Tr.ab _ _ _|refine(Tr.aa _ _ (by omega)).trans ?_|refine(Tr.ah _ (by omega)).trans ?_));done) (dg ak)));(repeat(first|exact ResIs.nil|apply ResIs.tmp rfl)))))
     exact⟨by rw [hv];rfl,by dsimp only;omega,fun m hm=>(Tr.aa _ _ (by omega)).trans (ho1 m hm)⟩
    ·have hv:oY p it=(mV p it,bB p,0):=by unfold oY;rw [if_neg (by rw [hr];decide),if_neg (fun hq=>hq hm),if_neg (by omega)]
     have hel:=oD p
     have hf1:=hf.2.1
     have hf2:=hf.2.2
     have hro:it.length+18+4*aT p+(if bB p=aT p then 4 else 0)≤bi p:=by
      have:kZ p=bi p-18-4*aT p-(if bB p=aT p then 4 else 0):=rfl
      omega
     (repeat(first|refine aq ?_|refine ae ?_|refine ac ?_|refine aI ?_|refine aB ?_|refine aH ?_|refine bv ?_|refine bu ?_|refine a8 ?_|refine a9 rfl ?_|refine ax rfl ?_|refine au rfl ?_|refine ce rfl ?_|(apply aj;exact rfl;exact rfl;exact rfl)|(apply ai;exact rfl;exact rfl;exact rfl)|(apply aX;exact rfl;exact rfl;exact rfl;exact rfl)|(apply aO;exact rfl;exact rfl;exact rfl;exact rfl)|(apply aD;exact rfl;exact rfl;exact rfl;exact rfl)|(apply aU;exact rfl;exact rfl;exact rfl)|(apply aS;exact rfl;exact rfl;exact rfl)|(apply aR;exact rfl;exact rfl;exact rfl)|(apply ap;exact rfl;exact rfl;exact rfl;exact(F.fo _ _ rfl rfl))|(apply aN;exact rfl;exact rfl;exact rfl;exact rfl)|(apply bT;exact rfl)|(apply bS;exact rfl;exact rfl;exact rfl;exact rfl)|(apply ck;exact rfl;exact rfl)|(apply cw;exact rfl;exact rfl;exact rfl;exact rfl;exact(F.un _ rfl);exact rfl)|(apply da;exact rfl;exact rfl;exact rfl;exact rfl;exact(F.un _ rfl);exact rfl)|(apply db;exact rfl;exact rfl;exact rfl;exact rfl;exact rfl;exact(F.un _ rfl);exact rfl)|(apply c9;exact rfl;exact rfl;exact rfl;exact rfl;exact rfl;exact(F.un _ rfl);exact rfl)|refine aM rfl rfl rfl rfl (F.sz _ rfl) (by first|exact rfl|(focus((repeat(first|assumption|exact Tr.ab _ _ _|refine(Tr.aa _ _ (by omega)).trans ?_|refine(Tr.ah _ (by omega)).trans ?_));done))) rfl (by exact zn rfl) rfl ?_|(apply an;exact rfl;exact rfl;exact rfl;exact(F.ag _ rfl);exact rfl;exact rfl)|(apply ay;exact rfl;exact rfl;exact rfl;exact(F.ag _ rfl);exact rfl;exact rfl)|(apply aP;exact rfl;exact rfl;exact(F.zl _ rfl))|(apply bj;exact rfl;exact rfl;exact rfl)|(apply cJ;exact rfl;exact rfl;exact rfl;exact rfl)|(apply aK;exact rfl;exact rfl;exact rfl;exact(F.sz _ rfl);exact rfl;exact rfl;exact rfl)|(apply aE;exact rfl;exact rfl;exact rfl;exact(F.sz _ rfl);exact rfl;exact rfl;(focus(decide));exact rfl;exact rfl)|refine an rfl rfl rfl (F.ag _ rfl) (by(repeat(first|assumption|exact Tr.ab _ _ _|refine(Tr.aa _ _ (by omega)).trans ?_|refine(Tr.ah _ (by omega)).trans ?_));done) (by exact rfl) ?_|refine ay rfl rfl rfl (F.ag _ rfl) (by(repeat(first|assumption|exact Tr.ab _ _ _|refine(Tr.aa _ _ (by omega)).trans ?_|refine(Tr.ah _ (by omega)).trans ?_));done) (by exact rfl) ?_|refine aK rfl rfl rfl (F.sz _ rfl) (by(repeat(first|assumption|exact Tr.ab _ _ _|refine(Tr.aa _ _ (by omega)).trans ?_|refine(Tr.ah _ (by omega)).trans ?_));done) (by exact rfl) (by exact rfl) ?_|refine aE rfl rfl rfl (F.sz _ rfl) (by(repeat(first|assumption|exact Tr.ab _ _ _|refine(Tr.aa _ _ (by omega)).trans ?_|refine(Tr.ah _ (by omega)).trans ?_));done) rfl (by exact zn rfl) rfl (by exact rfl) ?_|(apply a6;exact rfl;exact rfl;exact rfl;exact(F.un _ rfl))|(apply be;exact rfl;exact rfl;exact rfl;exact(F.un _ rfl))|(apply bn;exact rfl;exact rfl;exact rfl;exact rfl;(focus(omega));(focus(omega)))|(apply cv;exact rfl;exact rfl;exact rfl;exact rfl;(focus(omega));(focus(omega)))|(apply cF;exact rfl;exact rfl;exact rfl;exact rfl;(focus(omega));(focus(omega)))|(apply bh;exact rfl;exact rfl;exact rfl)|(apply cV;exact rfl;exact rfl;exact rfl;exact rfl;(focus(omega));(focus(omega));(focus(omega)))|(apply bc;exact rfl;exact rfl;exact rfl;exact(F.ze _ rfl);exact(F.pl _ rfl);exact rfl)|fail|(refine aL rfl rfl rfl (by kernel_rfl) (Fnc.mono (t6 hb1 hf) ?_);rintro _ rfl;dsimp only)|(refine aL rfl rfl rfl (by kernel_rfl) (Fnc.mono (jH hb1 hp) ?_);rintro _ rfl;dsimp only)|fail))
     refine eQ rfl rfl rfl rfl (fun e1=>?_) (fun e1=>?_)
     ·have en:bB p=aT p:=by omega
      rw [if_pos en] at hro
      have hmo:kj p 14 (bB p+1)=fx p:=by unfold fx;rw [if_pos en]
      (repeat(first|refine aq ?_|refine ae ?_|refine ac ?_|refine aI ?_|refine aB ?_|refine aH ?_|refine bv ?_|refine bu ?_|refine a8 ?_|refine a9 rfl ?_|refine ax rfl ?_|refine au rfl ?_|refine ce rfl ?_|(apply aj;exact rfl;exact rfl;exact rfl)|(apply ai;exact rfl;exact rfl;exact rfl)|(apply aX;exact rfl;exact rfl;exact rfl;exact rfl)|(apply aO;exact rfl;exact rfl;exact rfl;exact rfl)|(apply aD;exact rfl;exact rfl;exact rfl;exact rfl)|(apply aU;exact rfl;exact rfl;exact rfl)|(apply aS;exact rfl;exact rfl;exact rfl)|(apply aR;exact rfl;exact rfl;exact rfl)|(apply ap;exact rfl;exact rfl;exact rfl;exact(F.fo _ _ rfl rfl))|(apply aN;exact rfl;exact rfl;exact rfl;exact rfl)|(apply bT;exact rfl)|(apply bS;exact rfl;exact rfl;exact rfl;exact rfl)|(apply ck;exact rfl;exact rfl)|(apply cw;exact rfl;exact rfl;exact rfl;exact rfl;exact(F.un _ rfl);exact rfl)|(apply da;exact rfl;exact rfl;exact rfl;exact rfl;exact(F.un _ rfl);exact rfl)|(apply db;exact rfl;exact rfl;exact rfl;exact rfl;exact rfl;exact(F.un _ rfl);exact rfl)|(apply c9;exact rfl;exact rfl;exact rfl;exact rfl;exact rfl;exact(F.un _ rfl);exact rfl)|refine aM rfl rfl rfl rfl (F.sz _ rfl) (by first|exact rfl|(focus((repeat(first|assumption|exact Tr.ab _ _ _|refine(Tr.aa _ _ (by omega)).trans ?_|refine(Tr.ah _ (by omega)).trans ?_));done))) rfl (by exact zn rfl) rfl ?_|(apply an;exact rfl;exact rfl;exact rfl;exact(F.ag _ rfl);exact rfl;exact rfl)|(apply ay;exact rfl;exact rfl;exact rfl;exact(F.ag _ rfl);exact rfl;exact rfl)|(apply aP;exact rfl;exact rfl;exact(F.zl _ rfl))|(apply bj;exact rfl;exact rfl;exact rfl)|(apply cJ;exact rfl;exact rfl;exact rfl;exact rfl)|(apply aK;exact rfl;exact rfl;exact rfl;exact(F.sz _ rfl);exact rfl;exact rfl;exact rfl)|(apply aE;exact rfl;exact rfl;exact rfl;exact(F.sz _ rfl);exact rfl;exact rfl;(focus(decide));exact rfl;exact rfl)|refine an rfl rfl rfl (F.ag _ rfl) (by(repeat(first|assumption|exact Tr.ab _ _ _|refine(Tr.aa _ _ (by omega)).trans ?_|refine(Tr.ah _ (by omega)).trans ?_));done) (by exact rfl) ?_|refine ay rfl rfl rfl (F.ag _ rfl) (by(repeat(first|assumption|exact Tr.ab _ _ _|refine(Tr.aa _ _ (by omega)).trans ?_|refine(Tr.ah _ (by omega)).trans ?_));done) (by exact rfl) ?_|refine aK rfl rfl rfl (F.sz _ rfl) (by(repeat(first|assumption|exact Tr.ab _ _ _|refine(Tr.aa _ _ (by omega)).trans ?_|refine(Tr.ah _ (by omega)).trans ?_));done) (by exact rfl) (by exact rfl) ?_|refine aE rfl rfl rfl (F.sz _ rfl) (by(repeat(first|assumption|exact Tr.ab _ _ _|refine(Tr.aa _ _ (by omega)).trans ?_|refine(Tr.ah _ (by omega)).trans ?_));done) rfl (by exact zn rfl) rfl (by exact rfl) ?_|(apply a6;exact rfl;exact rfl;exact rfl;exact(F.un _ rfl))|(apply be;exact rfl;exact rfl;exact rfl;exact(F.un _ rfl))|(apply bn;exact rfl;exact rfl;exact rfl;exact rfl;(focus(omega));(focus(omega)))|(apply cv;exact rfl;exact rfl;exact rfl;exact rfl;(focus(omega));(focus(omega)))|(apply cF;exact rfl;exact rfl;exact rfl;exact rfl;(focus(omega));(focus(omega)))|(apply bh;exact rfl;exact rfl;exact rfl)|(apply cV;exact rfl;exact rfl;exact rfl;exact rfl;(focus(omega));(focus(omega));(focus(omega)))|(apply bc;exact rfl;exact rfl;exact rfl;exact(F.ze _ rfl);exact(F.pl _ rfl);exact rfl)|fail|fail))
      rw [show((bB p:Nat):Int)+1=((bB p+1:Nat):Int) by omega]
      refine aL rfl rfl rfl (by kernel_rfl) (Fnc.mono (ri hb1 hp (o:=14) (n:=bB p+1) (by decide) (by omega)) ?_)
      rintro⟨_,H2,n2⟩ ⟨rfl,hb2,hn2,g4⟩
      dsimp only at hb2 hn2 g4 ⊢
      have hp1:(kj p 14 (bB p+1)).length=1024:=by rw [dN (by omega)];exact hp
      have hbe:bi (kj p 14 (bB p+1))=bi p:=hY (by omega) (by omega)
      have k2: ∀ m,m<nx→H2.at' m=H.at' m:=fun m hm=>(g4 m (by omega) (by omega)).trans (ho1 m hm)
      have hz2:H2.at' (nx+1)=some (pgO zeroP):=(g4 _ (by omega) (by omega)).trans hz1
      generalize kj p 14 (bB p+1)=p1 at hmo hb2 hp1 hbe
      (repeat(first|refine aq ?_|refine ae ?_|refine ac ?_|refine aI ?_|refine aB ?_|refine aH ?_|refine bv ?_|refine bu ?_|refine a8 ?_|refine a9 rfl ?_|refine ax rfl ?_|refine au rfl ?_|refine ce rfl ?_|(apply aj;exact rfl;exact rfl;exact rfl)|(apply ai;exact rfl;exact rfl;exact rfl)|(apply aX;exact rfl;exact rfl;exact rfl;exact rfl)|(apply aO;exact rfl;exact rfl;exact rfl;exact rfl)|(apply aD;exact rfl;exact rfl;exact rfl;exact rfl)|(apply aU;exact rfl;exact rfl;exact rfl)|(apply aS;exact rfl;exact rfl;exact rfl)|(apply aR;exact rfl;exact rfl;exact rfl)|(apply ap;exact rfl;exact rfl;exact rfl;exact(F.fo _ _ rfl rfl))|(apply aN;exact rfl;exact rfl;exact rfl;exact rfl)|(apply bT;exact rfl)|(apply bS;exact rfl;exact rfl;exact rfl;exact rfl)|(apply ck;exact rfl;exact rfl)|(apply cw;exact rfl;exact rfl;exact rfl;exact rfl;exact(F.un _ rfl);exact rfl)|(apply da;exact rfl;exact rfl;exact rfl;exact rfl;exact(F.un _ rfl);exact rfl)|(apply db;exact rfl;exact rfl;exact rfl;exact rfl;exact rfl;exact(F.un _ rfl);exact rfl)|(apply c9;exact rfl;exact rfl;exact rfl;exact rfl;exact rfl;exact(F.un _ rfl);exact rfl)|refine aM rfl rfl rfl rfl (F.sz _ rfl) (by first|exact rfl|(focus((repeat(first|assumption|exact Tr.ab _ _ _|refine(Tr.aa _ _ (by omega)).trans ?_|refine(Tr.ah _ (by omega)).trans ?_));done))) rfl (by exact zn rfl) rfl ?_|(apply an;exact rfl;exact rfl;exact rfl;exact(F.ag _ rfl);exact rfl;exact rfl)|(apply ay;exact rfl;exact rfl;exact rfl;exact(F.ag _ rfl);exact rfl;exact rfl)|(apply aP;exact rfl;exact rfl;exact(F.zl _ rfl))|(apply bj;exact rfl;exact rfl;exact rfl)|(apply cJ;exact rfl;exact rfl;exact rfl;exact rfl)|(apply aK;exact rfl;exact rfl;exact rfl;exact(F.sz _ rfl);exact rfl;exact rfl;exact rfl)|(apply aE;exact rfl;exact rfl;exact rfl;exact(F.sz _ rfl);exact rfl;exact rfl;(focus(decide));exact rfl;exact rfl)|refine an rfl rfl rfl (F.ag _ rfl) (by(repeat(first|assumption|exact Tr.ab _ _ _|refine(Tr.aa _ _ (by omega)).trans ?_|refine(Tr.ah _ (by omega)).trans ?_));done) (by exact rfl) ?_|refine ay rfl rfl rfl (F.ag _ rfl) (by(repeat(first|assumption|exact Tr.ab _ _ _|refine(Tr.aa _ _ (by omega)).trans ?_|refine(Tr.ah _ (by omega)).trans ?_));done) (by exact rfl) ?_|refine aK rfl rfl rfl (F.sz _ rfl) (by(repeat(first|assumption|exact Tr.ab _ _ _|refine(Tr.aa _ _ (by omega)).trans ?_|refine(Tr.ah _ (by omega)).trans ?_));done) (by exact rfl) (by exact rfl) ?_|refine aE rfl rfl rfl (F.sz _ rfl) (by(repeat(first|assumption|exact Tr.ab _ _ _|refine(Tr.aa _ _ (by omega)).trans ?_|refine(Tr.ah _ (by omega)).trans ?_));done) rfl (by exact zn rfl) rfl (by exact rfl) ?_|(apply a6;exact rfl;exact rfl;exact rfl;exact(F.un _ rfl))|(apply be;exact rfl;exact rfl;exact rfl;exact(F.un _ rfl))|(apply bn;exact rfl;exact rfl;exact rfl;exact rfl;(focus(omega));(focus(omega)))|(apply cv;exact rfl;exact rfl;exact rfl;exact rfl;(focus(omega));(focus(omega)))|(apply cF;exact rfl;exact rfl;exact rfl;exact rfl;(focus(omega));(focus(omega)))|(apply bh;exact rfl;exact rfl;exact rfl)|(apply cV;exact rfl;exact rfl;exact rfl;exact rfl;(focus(omega));(focus(omega));(focus(omega)))|(apply bc;exact rfl;exact rfl;exact rfl;exact(F.ze _ rfl);exact(F.pl _ rfl);exact rfl)|fail|(refine aL rfl rfl rfl (by kernel_rfl) (Fnc.mono (nr hb2 hp1) ?_);rintro _ rfl;dsimp only)|((apply ix;exact rfl;exact rfl;exact(F.un _ rfl);exact rfl;exact(hB2 _ k2));rw [hlen])|fail))
      rw [show((bi p1:Nat):Int)-(it.length:Int)=((bi p1-it.length:Nat):Int) by omega]
      (repeat(first|refine aq ?_|refine ae ?_|refine ac ?_|refine aI ?_|refine aB ?_|refine aH ?_|refine bv ?_|refine bu ?_|refine a8 ?_|refine a9 rfl ?_|refine ax rfl ?_|refine au rfl ?_|refine ce rfl ?_|(apply aj;exact rfl;exact rfl;exact rfl)|(apply ai;exact rfl;exact rfl;exact rfl)|(apply aX;exact rfl;exact rfl;exact rfl;exact rfl)|(apply aO;exact rfl;exact rfl;exact rfl;exact rfl)|(apply aD;exact rfl;exact rfl;exact rfl;exact rfl)|(apply aU;exact rfl;exact rfl;exact rfl)|(apply aS;exact rfl;exact rfl;exact rfl)|(apply aR;exact rfl;exact rfl;exact rfl)|(apply ap;exact rfl;exact rfl;exact rfl;exact(F.fo _ _ rfl rfl))|(apply aN;exact rfl;exact rfl;exact rfl;exact rfl)|(apply bT;exact rfl)|(apply bS;exact rfl;exact rfl;exact rfl;exact rfl)|(apply ck;exact rfl;exact rfl)|(apply cw;exact rfl;exact rfl;exact rfl;exact rfl;exact(F.un _ rfl);exact rfl)|(apply da;exact rfl;exact rfl;exact rfl;exact rfl;exact(F.un _ rfl);exact rfl)|(apply db;exact rfl;exact rfl;exact rfl;exact rfl;exact rfl;exact(F.un _ rfl);exact rfl)|(apply c9;exact rfl;exact rfl;exact rfl;exact rfl;exact rfl;exact(F.un _ rfl);exact rfl)|refine aM rfl rfl rfl rfl (F.sz _ rfl) (by first|exact rfl|(focus((repeat(first|assumption|exact Tr.ab _ _ _|refine(Tr.aa _ _ (by omega)).trans ?_|refine(Tr.ah _ (by omega)).trans ?_));done))) rfl (by exact zn rfl) rfl ?_|(apply an;exact rfl;exact rfl;exact rfl;exact(F.ag _ rfl);exact rfl;exact rfl)|(apply ay;exact rfl;exact rfl;exact rfl;exact(F.ag _ rfl);exact rfl;exact rfl)|(apply aP;exact rfl;exact rfl;exact(F.zl _ rfl))|(apply bj;exact rfl;exact rfl;exact rfl)|(apply cJ;exact rfl;exact rfl;exact rfl;exact rfl)|(apply aK;exact rfl;exact rfl;exact rfl;exact(F.sz _ rfl);exact rfl;exact rfl;exact rfl)|(apply aE;exact rfl;exact rfl;exact rfl;exact(F.sz _ rfl);exact rfl;exact rfl;(focus(decide));exact rfl;exact rfl)|refine an rfl rfl rfl (F.ag _ rfl) (by(repeat(first|assumption|exact Tr.ab _ _ _|refine(Tr.aa _ _ (by omega)).trans ?_|refine(Tr.ah _ (by omega)).trans ?_));done) (by exact rfl) ?_|refine ay rfl rfl rfl (F.ag _ rfl) (by(repeat(first|assumption|exact Tr.ab _ _ _|refine(Tr.aa _ _ (by omega)).trans ?_|refine(Tr.ah _ (by omega)).trans ?_));done) (by exact rfl) ?_|refine aK rfl rfl rfl (F.sz _ rfl) (by(repeat(first|assumption|exact Tr.ab _ _ _|refine(Tr.aa _ _ (by omega)).trans ?_|refine(Tr.ah _ (by omega)).trans ?_));done) (by exact rfl) (by exact rfl) ?_|refine aE rfl rfl rfl (F.sz _ rfl) (by(repeat(first|assumption|exact Tr.ab _ _ _|refine(Tr.aa _ _ (by omega)).trans ?_|refine(Tr.ah _ (by omega)).trans ?_));done) rfl (by exact zn rfl) rfl (by exact rfl) ?_|(apply a6;exact rfl;exact rfl;exact rfl;exact(F.un _ rfl))|(apply be;exact rfl;exact rfl;exact rfl;exact(F.un _ rfl))|(apply bn;exact rfl;exact rfl;exact rfl;exact rfl;(focus(omega));(focus(omega)))|(apply cv;exact rfl;exact rfl;exact rfl;exact rfl;(focus(omega));(focus(omega)))|(apply cF;exact rfl;exact rfl;exact rfl;exact rfl;(focus(omega));(focus(omega)))|(apply bh;exact rfl;exact rfl;exact rfl)|(apply cV;exact rfl;exact rfl;exact rfl;exact rfl;(focus(omega));(focus(omega));(focus(omega)))|(apply bc;exact rfl;exact rfl;exact rfl;exact(F.ze _ rfl);exact(F.pl _ rfl);exact rfl)|fail|((apply ix;exact rfl;exact rfl;exact(F.un _ rfl);exact rfl;exact(hB2 _ k2));rw [hlen])|fail))
      refine aL rfl rfl rfl (by kernel_rfl) (Fnc.mono (sZ hb2 hp1 (n:=bB p) (a:=bi p1-it.length) (s:=it.length) (by omega) (by omega) (by omega)) ?_)
      rintro⟨_,H3,n3⟩ ⟨rfl,q2,q3,q4⟩
      dsimp only at q2 q3 q4 ⊢
      have hp2:(dV p1 (bB p) (bi p1-it.length) it.length).length=1024:=by rw [jL (by omega)];exact hp1
      (repeat(first|refine aq ?_|refine ae ?_|refine ac ?_|refine aI ?_|refine aB ?_|refine aH ?_|refine bv ?_|refine bu ?_|refine a8 ?_|refine a9 rfl ?_|refine ax rfl ?_|refine au rfl ?_|refine ce rfl ?_|(apply aj;exact rfl;exact rfl;exact rfl)|(apply ai;exact rfl;exact rfl;exact rfl)|(apply aX;exact rfl;exact rfl;exact rfl;exact rfl)|(apply aO;exact rfl;exact rfl;exact rfl;exact rfl)|(apply aD;exact rfl;exact rfl;exact rfl;exact rfl)|(apply aU;exact rfl;exact rfl;exact rfl)|(apply aS;exact rfl;exact rfl;exact rfl)|(apply aR;exact rfl;exact rfl;exact rfl)|(apply ap;exact rfl;exact rfl;exact rfl;exact(F.fo _ _ rfl rfl))|(apply aN;exact rfl;exact rfl;exact rfl;exact rfl)|(apply bT;exact rfl)|(apply bS;exact rfl;exact rfl;exact rfl;exact rfl)|(apply ck;exact rfl;exact rfl)|(apply cw;exact rfl;exact rfl;exact rfl;exact rfl;exact(F.un _ rfl);exact rfl)|(apply da;exact rfl;exact rfl;exact rfl;exact rfl;exact(F.un _ rfl);exact rfl)|(apply db;exact rfl;exact rfl;exact rfl;exact rfl;exact rfl;exact(F.un _ rfl);exact rfl)|(apply c9;exact rfl;exact rfl;exact rfl;exact rfl;exact rfl;exact(F.un _ rfl);exact rfl)|refine aM rfl rfl rfl rfl (F.sz _ rfl) (by first|exact rfl|(focus((repeat(first|assumption|exact Tr.ab _ _ _|refine(Tr.aa _ _ (by omega)).trans ?_|refine(Tr.ah _ (by omega)).trans ?_));done))) rfl (by exact zn rfl) rfl ?_|(apply an;exact rfl;exact rfl;exact rfl;exact(F.ag _ rfl);exact rfl;exact rfl)|(apply ay;exact rfl;exact rfl;exact rfl;exact(F.ag _ rfl);exact rfl;exact rfl)|(apply aP;exact rfl;exact rfl;exact(F.zl _ rfl))|(apply bj;exact rfl;exact rfl;exact rfl)|(apply cJ;exact rfl;exact rfl;exact rfl;exact rfl)|(apply aK;exact rfl;exact rfl;exact rfl;exact(F.sz _ rfl);exact rfl;exact rfl;exact rfl)|(apply aE;exact rfl;exact rfl;exact rfl;exact(F.sz _ rfl);exact rfl;exact rfl;(focus(decide));exact rfl;exact rfl)|refine an rfl rfl rfl (F.ag _ rfl) (by(repeat(first|assumption|exact Tr.ab _ _ _|refine(Tr.aa _ _ (by omega)).trans ?_|refine(Tr.ah _ (by omega)).trans ?_));done) (by exact rfl) ?_|refine ay rfl rfl rfl (F.ag _ rfl) (by(repeat(first|assumption|exact Tr.ab _ _ _|refine(Tr.aa _ _ (by omega)).trans ?_|refine(Tr.ah _ (by omega)).trans ?_));done) (by exact rfl) ?_|refine aK rfl rfl rfl (F.sz _ rfl) (by(repeat(first|assumption|exact Tr.ab _ _ _|refine(Tr.aa _ _ (by omega)).trans ?_|refine(Tr.ah _ (by omega)).trans ?_));done) (by exact rfl) (by exact rfl) ?_|refine aE rfl rfl rfl (F.sz _ rfl) (by(repeat(first|assumption|exact Tr.ab _ _ _|refine(Tr.aa _ _ (by omega)).trans ?_|refine(Tr.ah _ (by omega)).trans ?_));done) rfl (by exact zn rfl) rfl (by exact rfl) ?_|(apply a6;exact rfl;exact rfl;exact rfl;exact(F.un _ rfl))|(apply be;exact rfl;exact rfl;exact rfl;exact(F.un _ rfl))|(apply bn;exact rfl;exact rfl;exact rfl;exact rfl;(focus(omega));(focus(omega)))|(apply cv;exact rfl;exact rfl;exact rfl;exact rfl;(focus(omega));(focus(omega)))|(apply cF;exact rfl;exact rfl;exact rfl;exact rfl;(focus(omega));(focus(omega)))|(apply bh;exact rfl;exact rfl;exact rfl)|(apply cV;exact rfl;exact rfl;exact rfl;exact rfl;(focus(omega));(focus(omega));(focus(omega)))|(apply bc;exact rfl;exact rfl;exact rfl;exact(F.ze _ rfl);exact(F.pl _ rfl);exact rfl)|fail|fail))
      refine aL rfl rfl rfl (by kernel_rfl) (Fnc.mono (ri q2 hp2 (o:=16) (n:=bi p1-it.length) (by decide) (by omega)) ?_)
      rintro⟨_,H4,n4⟩ ⟨rfl,r2,r3,r4⟩
      dsimp only at r2 r3 r4 ⊢
      have hp3:(kj (dV p1 (bB p) (bi p1-it.length) it.length) 16 (bi p1-it.length)).length=1024:=by rw [dN (by omega)];exact hp2
      have k4: ∀ m,m<nx→H4.at' m=H.at' m:=fun m hm=>(r4 m (by omega) (by omega)).trans ((q4 m (by omega) (by omega)).trans (k2 m hm))
      have hz4:H4.at' (nx+1)=some (pgO zeroP):=(r4 _ (by omega) (by omega)).trans ((q4 _ (by omega) (by omega)).trans hz2)
      (repeat(first|refine aq ?_|refine ae ?_|refine ac ?_|refine aI ?_|refine aB ?_|refine aH ?_|refine bv ?_|refine bu ?_|refine a8 ?_|refine a9 rfl ?_|refine ax rfl ?_|refine au rfl ?_|refine ce rfl ?_|(apply aj;exact rfl;exact rfl;exact rfl)|(apply ai;exact rfl;exact rfl;exact rfl)|(apply aX;exact rfl;exact rfl;exact rfl;exact rfl)|(apply aO;exact rfl;exact rfl;exact rfl;exact rfl)|(apply aD;exact rfl;exact rfl;exact rfl;exact rfl)|(apply aU;exact rfl;exact rfl;exact rfl)|(apply aS;exact rfl;exact rfl;exact rfl)|(apply aR;exact rfl;exact rfl;exact rfl)|(apply ap;exact rfl;exact rfl;exact rfl;exact(F.fo _ _ rfl rfl))|(apply aN;exact rfl;exact rfl;exact rfl;exact rfl)|(apply bT;exact rfl)|(apply bS;exact rfl;exact rfl;exact rfl;exact rfl)|(apply ck;exact rfl;exact rfl)|(apply cw;exact rfl;exact rfl;exact rfl;exact rfl;exact(F.un _ rfl);exact rfl)|(apply da;exact rfl;exact rfl;exact rfl;exact rfl;exact(F.un _ rfl);exact rfl)|(apply db;exact rfl;exact rfl;exact rfl;exact rfl;exact rfl;exact(F.un _ rfl);exact rfl)|(apply c9;exact rfl;exact rfl;exact rfl;exact rfl;exact rfl;exact(F.un _ rfl);exact rfl)|refine aM rfl rfl rfl rfl (F.sz _ rfl) (by first|exact rfl|(focus((repeat(first|assumption|exact Tr.ab _ _ _|refine(Tr.aa _ _ (by omega)).trans ?_|refine(Tr.ah _ (by omega)).trans ?_));done))) rfl (by exact zn rfl) rfl ?_|(apply an;exact rfl;exact rfl;exact rfl;exact(F.ag _ rfl);exact rfl;exact rfl)|(apply ay;exact rfl;exact rfl;exact rfl;exact(F.ag _ rfl);exact rfl;exact rfl)|(apply aP;exact rfl;exact rfl;exact(F.zl _ rfl))|(apply bj;exact rfl;exact rfl;exact rfl)|(apply cJ;exact rfl;exact rfl;exact rfl;exact rfl)|(apply aK;exact rfl;exact rfl;exact rfl;exact(F.sz _ rfl);exact rfl;exact rfl;exact rfl)|(apply aE;exact rfl;exact rfl;exact rfl;exact(F.sz _ rfl);exact rfl;exact rfl;(focus(decide));exact rfl;exact rfl)|refine an rfl rfl rfl (F.ag _ rfl) (by(repeat(first|assumption|exact Tr.ab _ _ _|refine(Tr.aa _ _ (by omega)).trans ?_|refine(Tr.ah _ (by omega)).trans ?_));done) (by exact rfl) ?_|refine ay rfl rfl rfl (F.ag _ rfl) (by(repeat(first|assumption|exact Tr.ab _ _ _|refine(Tr.aa _ _ (by omega)).trans ?_|refine(Tr.ah _ (by omega)).trans ?_));done) (by exact rfl) ?_|refine aK rfl rfl rfl (F.sz _ rfl) (by(repeat(first|assumption|exact Tr.ab _ _ _|refine(Tr.aa _ _ (by omega)).trans ?_|refine(Tr.ah _ (by omega)).trans ?_));done) (by exact rfl) (by exact rfl) ?_|refine aE rfl rfl rfl (F.sz _ rfl) (by(repeat(first|assumption|exact Tr.ab _ _ _|refine(Tr.aa _ _ (by omega)).trans ?_|refine(Tr.ah _ (by omega)).trans ?_));done) rfl (by exact zn rfl) rfl (by exact rfl) ?_|(apply a6;exact rfl;exact rfl;exact rfl;exact(F.un _ rfl))|(apply be;exact rfl;exact rfl;exact rfl;exact(F.un _ rfl))|(apply bn;exact rfl;exact rfl;exact rfl;exact rfl;(focus(omega));(focus(omega)))|(apply cv;exact rfl;exact rfl;exact rfl;exact rfl;(focus(omega));(focus(omega)))|(apply cF;exact rfl;exact rfl;exact rfl;exact rfl;(focus(omega));(focus(omega)))|(apply bh;exact rfl;exact rfl;exact rfl)|(apply cV;exact rfl;exact rfl;exact rfl;exact rfl;(focus(omega));(focus(omega));(focus(omega)))|(apply bc;exact rfl;exact rfl;exact rfl;exact(F.ze _ rfl);exact(F.pl _ rfl);exact rfl)|fail|((apply nE (lw:=bi p1-it.length) (hg:=1024) (m:=1024-(bi p1-it.length));exact rfl;exact rfl;exact rfl;exact(F.un _ rfl);exact(F.sz _ rfl);exact rfl;exact rfl;(focus(omega));(focus(omega));(focus(omega));exact rfl;exact rfl;exact(Nat.zero_add _)))|fail))
      refine pi rfl rfl rfl rfl (F.un _ rfl) (F.sz _ rfl) r2 (hB2 _ k4) (by omega) (by rw [aY hp3];omega) ?_
      rw [pu rfl]
      have hlay:is (kj (dV p1 (bB p) (bi p1-it.length) it.length) 16 (bi p1-it.length)) (bi p1-it.length) it=mV p it:=by rw [hmo];rfl
      have hp4:(mV p it).length=1024:=by rw [← hlay,gJ (by omega)];exact hp3
      rw [hlay]
      clear hlay
      generalize mV p it=pL at hv hp4 ⊢
      (repeat(first|(apply ay;(exact rfl);(exact rfl);(exact rfl);(exact F.ag _ rfl);(focus((focus((repeat(first|assumption|exact Tr.ab _ _ _|refine(Tr.aa _ _ (by omega)).trans ?_|refine(Tr.ah _ (by omega)).trans ?_));done))));(exact aY hp4))|(apply aE;(exact rfl);(exact rfl);(exact rfl);(exact F.sz _ rfl);(focus((focus((repeat(first|assumption|exact Tr.ab _ _ _|refine(Tr.aa _ _ (by omega)).trans ?_|refine(Tr.ah _ (by omega)).trans ?_));done))));(exact aY hp4);(rw [aY ak];exact zD _);(exact dv _);(exact dt _ _ ak hp4))|refine aq ?_|refine ae ?_|refine ac ?_|refine aI ?_|refine aB ?_|refine aH ?_|refine bv ?_|refine bu ?_|refine a8 ?_|refine a9 rfl ?_|refine ax rfl ?_|refine au rfl ?_|refine ce rfl ?_|(apply aj;exact rfl;exact rfl;exact rfl)|(apply ai;exact rfl;exact rfl;exact rfl)|(apply aX;exact rfl;exact rfl;exact rfl;exact rfl)|(apply aO;exact rfl;exact rfl;exact rfl;exact rfl)|(apply aD;exact rfl;exact rfl;exact rfl;exact rfl)|(apply aU;exact rfl;exact rfl;exact rfl)|(apply aS;exact rfl;exact rfl;exact rfl)|(apply aR;exact rfl;exact rfl;exact rfl)|(apply ap;exact rfl;exact rfl;exact rfl;exact(F.fo _ _ rfl rfl))|(apply aN;exact rfl;exact rfl;exact rfl;exact rfl)|(apply bT;exact rfl)|(apply bS;exact rfl;exact rfl;exact rfl;exact rfl)|(apply ck;exact rfl;exact rfl)|(apply cw;exact rfl;exact rfl;exact rfl;exact rfl;exact(F.un _ rfl);exact rfl)|(apply da;exact rfl;exact rfl;exact rfl;exact rfl;exact(F.un _ rfl);exact rfl)|(apply db;exact rfl;exact rfl;exact rfl;exact rfl;exact rfl;exact(F.un _ rfl);exact rfl)|(apply c9;exact rfl;exact rfl;exact rfl;exact rfl;exact rfl;exact(F.un _ rfl);exact rfl)|refine aM rfl rfl rfl rfl (F.sz _ rfl) (by first|exact rfl|(focus((repeat(first|assumption|exact Tr.ab _ _ _|refine(Tr.aa _ _ (by omega)).trans ?_|refine(Tr.ah _ (by omega)).trans ?_));done))) rfl (by exact zn rfl) rfl ?_|(apply an;exact rfl;exact rfl;exact rfl;exact(F.ag _ rfl);exact rfl;exact rfl)|(apply ay;exact rfl;exact rfl;exact rfl;exact(F.ag _ rfl);exact rfl;exact rfl)|(apply aP;exact rfl;exact rfl;exact(F.zl _ rfl))|(apply bj;exact rfl;exact rfl;exact rfl)|(apply cJ;exact rfl;exact rfl;exact rfl;exact rfl)|(apply aK;exact rfl;exact rfl;exact rfl;exact(F.sz _ rfl);exact rfl;exact rfl;exact rfl)|(apply aE;exact rfl;exact rfl;exact rfl;exact(F.sz _ rfl);exact rfl;exact rfl;(focus(decide));exact rfl;exact rfl)|refine an rfl rfl rfl (F.ag _ rfl) (by(repeat(first|assumption|exact Tr.ab _ _ _|refine(Tr.aa _ _ (by omega)).trans ?_|refine(Tr.ah _ (by omega)).trans ?_));done) (by exact rfl) ?_|refine ay rfl rfl rfl (F.ag _ rfl) (by(repeat(first|assumption|exact Tr.ab _ _ _|refine(Tr.aa _ _ (by omega)).trans ?_|refine(Tr.ah _ (by omega)).trans ?_));done) (by exact rfl) ?_|refine aK rfl rfl rfl (F.sz _ rfl) (by(repeat(first|assumption|exact Tr.ab _ _ _|refine(Tr.aa _ _ (by omega)).trans ?_|refine(Tr.ah _ (by omega)).trans ?_));done) (by exact rfl) (by exact rfl) ?_|refine aE rfl rfl rfl (F.sz _ rfl) (by(repeat(first|assumption|exact Tr.ab _ _ _|refine(Tr.aa _ _ (by omega)).trans ?_|refine(Tr.ah _ (by omega)).trans ?_));done) rfl (by exact zn rfl) rfl (by exact rfl) ?_|(apply a6;exact rfl;exact rfl;exact rfl;exact(F.un _ rfl))|(apply be;exact rfl;exact rfl;exact rfl;exact(F.un _ rfl))|(apply bn;exact rfl;exact rfl;exact rfl;exact rfl;(focus(omega));(focus(omega)))|(apply cv;exact rfl;exact rfl;exact rfl;exact rfl;(focus(omega));(focus(omega)))|(apply cF;exact rfl;exact rfl;exact rfl;exact rfl;(focus(omega));(focus(omega)))|(apply bh;exact rfl;exact rfl;exact rfl)|(apply cV;exact rfl;exact rfl;exact rfl;exact rfl;(focus(omega));(focus(omega));(focus(omega)))|(apply bc;exact rfl;exact rfl;exact rfl;exact(F.ze _ rfl);exact(F.pl _ rfl);exact rfl)|fail|fail))
      ((first|apply fT Tryz.func58 (congrArg Array.toList Tryz.results58)|apply bf Tryz.func58 (congrArg Array.toList Tryz.results58));(focus((apply ResIs.cell rfl (LoadIs.many (F.ag _ rfl) (by(repeat(first|assumption|exact Tr.ab _ _ _|refine(Tr.aa _ _ (by omega)).trans ?_|refine(Tr.ah _ (by omega)).trans ?_));done) (dg hp4)));(repeat(first|exact ResIs.nil|apply ResIs.tmp rfl)))))
      exact⟨by rw [hv];rfl,zL (zL (zM _) (zM _)) (zL hn2 (zL q3 r3)),fun m hm=>(Tr.aa _ _ (by omega)).trans ((Tr.aa _ _ (by omega)).trans (k4 m hm))⟩
     ·have en: ¬ bB p=aT p:=by omega
      rw [if_neg en] at hro
      obtain⟨p1,hmo,hb2,hp1,hbe⟩: ∃ p1,p1=fx p∧H1.at' nx=some (pgO p1)∧p1.length=1024∧bi p1=bi p:=⟨p,by unfold fx;rw [if_neg en],hb1,hp,rfl⟩
      have hz2:=hz1
      have k2:=ho1
      have hn2:nx+1+1≤nx+1+1:=zD _
      (repeat(first|refine aq ?_|refine ae ?_|refine ac ?_|refine aI ?_|refine aB ?_|refine aH ?_|refine bv ?_|refine bu ?_|refine a8 ?_|refine a9 rfl ?_|refine ax rfl ?_|refine au rfl ?_|refine ce rfl ?_|(apply aj;exact rfl;exact rfl;exact rfl)|(apply ai;exact rfl;exact rfl;exact rfl)|(apply aX;exact rfl;exact rfl;exact rfl;exact rfl)|(apply aO;exact rfl;exact rfl;exact rfl;exact rfl)|(apply aD;exact rfl;exact rfl;exact rfl;exact rfl)|(apply aU;exact rfl;exact rfl;exact rfl)|(apply aS;exact rfl;exact rfl;exact rfl)|(apply aR;exact rfl;exact rfl;exact rfl)|(apply ap;exact rfl;exact rfl;exact rfl;exact(F.fo _ _ rfl rfl))|(apply aN;exact rfl;exact rfl;exact rfl;exact rfl)|(apply bT;exact rfl)|(apply bS;exact rfl;exact rfl;exact rfl;exact rfl)|(apply ck;exact rfl;exact rfl)|(apply cw;exact rfl;exact rfl;exact rfl;exact rfl;exact(F.un _ rfl);exact rfl)|(apply da;exact rfl;exact rfl;exact rfl;exact rfl;exact(F.un _ rfl);exact rfl)|(apply db;exact rfl;exact rfl;exact rfl;exact rfl;exact rfl;exact(F.un _ rfl);exact rfl)|(apply c9;exact rfl;exact rfl;exact rfl;exact rfl;exact rfl;exact(F.un _ rfl);exact rfl)|refine aM rfl rfl rfl rfl (F.sz _ rfl) (by first|exact rfl|(focus((repeat(first|assumption|exact Tr.ab _ _ _|refine(Tr.aa _ _ (by omega)).trans ?_|refine(Tr.ah _ (by omega)).trans ?_));done))) rfl (by exact zn rfl) rfl ?_|(apply an;exact rfl;exact rfl;exact rfl;exact(F.ag _ rfl);exact rfl;exact rfl)|(apply ay;exact rfl;exact rfl;exact rfl;exact(F.ag _ rfl);exact rfl;exact rfl)|(apply aP;exact rfl;exact rfl;exact(F.zl _ rfl))|(apply bj;exact rfl;exact rfl;exact rfl)|(apply cJ;exact rfl;exact rfl;exact rfl;exact rfl)|(apply aK;exact rfl;exact rfl;exact rfl;exact(F.sz _ rfl);exact rfl;exact rfl;exact rfl)|(apply aE;exact rfl;exact rfl;exact rfl;exact(F.sz _ rfl);exact rfl;exact rfl;(focus(decide));exact rfl;exact rfl)|refine an rfl rfl rfl (F.ag _ rfl) (by(repeat(first|assumption|exact Tr.ab _ _ _|refine(Tr.aa _ _ (by omega)).trans ?_|refine(Tr.ah _ (by omega)).trans ?_));done) (by exact rfl) ?_|refine ay rfl rfl rfl (F.ag _ rfl) (by(repeat(first|assumption|exact Tr.ab _ _ _|refine(Tr.aa _ _ (by omega)).trans ?_|refine(Tr.ah _ (by omega)).trans ?_));done) (by exact rfl) ?_|refine aK rfl rfl rfl (F.sz _ rfl) (by(repeat(first|assumption|exact Tr.ab _ _ _|refine(Tr.aa _ _ (by omega)).trans ?_|refine(Tr.ah _ (by omega)).trans ?_));done) (by exact rfl) (by exact rfl) ?_|refine aE rfl rfl rfl (F.sz _ rfl) (by(repeat(first|assumption|exact Tr.ab _ _ _|refine(Tr.aa _ _ (by omega)).trans ?_|refine(Tr.ah _ (by omega)).trans ?_));done) rfl (by exact zn rfl) rfl (by exact rfl) ?_|(apply a6;exact rfl;exact rfl;exact rfl;exact(F.un _ rfl))|(apply be;exact rfl;exact rfl;exact rfl;exact(F.un _ rfl))|(apply bn;exact rfl;exact rfl;exact rfl;exact rfl;(focus(omega));(focus(omega)))|(apply cv;exact rfl;exact rfl;exact rfl;exact rfl;(focus(omega));(focus(omega)))|(apply cF;exact rfl;exact rfl;exact rfl;exact rfl;(focus(omega));(focus(omega)))|(apply bh;exact rfl;exact rfl;exact rfl)|(apply cV;exact rfl;exact rfl;exact rfl;exact rfl;(focus(omega));(focus(omega));(focus(omega)))|(apply bc;exact rfl;exact rfl;exact rfl;exact(F.ze _ rfl);exact(F.pl _ rfl);exact rfl)|fail|(refine aL rfl rfl rfl (by kernel_rfl) (Fnc.mono (nr hb2 hp1) ?_);rintro _ rfl;dsimp only)|((apply ix;exact rfl;exact rfl;exact(F.un _ rfl);exact rfl;exact(hB2 _ k2));rw [hlen])|fail))
      rw [show((bi p1:Nat):Int)-(it.length:Int)=((bi p1-it.length:Nat):Int) by omega]
      (repeat(first|refine aq ?_|refine ae ?_|refine ac ?_|refine aI ?_|refine aB ?_|refine aH ?_|refine bv ?_|refine bu ?_|refine a8 ?_|refine a9 rfl ?_|refine ax rfl ?_|refine au rfl ?_|refine ce rfl ?_|(apply aj;exact rfl;exact rfl;exact rfl)|(apply ai;exact rfl;exact rfl;exact rfl)|(apply aX;exact rfl;exact rfl;exact rfl;exact rfl)|(apply aO;exact rfl;exact rfl;exact rfl;exact rfl)|(apply aD;exact rfl;exact rfl;exact rfl;exact rfl)|(apply aU;exact rfl;exact rfl;exact rfl)|(apply aS;exact rfl;exact rfl;exact rfl)|(apply aR;exact rfl;exact rfl;exact rfl)|(apply ap;exact rfl;exact rfl;exact rfl;exact(F.fo _ _ rfl rfl))|(apply aN;exact rfl;exact rfl;exact rfl;exact rfl)|(apply bT;exact rfl)|(apply bS;exact rfl;exact rfl;exact rfl;exact rfl)|(apply ck;exact rfl;exact rfl)|(apply cw;exact rfl;exact rfl;exact rfl;exact rfl;exact(F.un _ rfl);exact rfl)|(apply da;exact rfl;exact rfl;exact rfl;exact rfl;exact(F.un _ rfl);exact rfl)|(apply db;exact rfl;exact rfl;exact rfl;exact rfl;exact rfl;exact(F.un _ rfl);exact rfl)|(apply c9;exact rfl;exact rfl;exact rfl;exact rfl;exact rfl;exact(F.un _ rfl);exact rfl)|refine aM rfl rfl rfl rfl (F.sz _ rfl) (by first|exact rfl|(focus((repeat(first|assumption|exact Tr.ab _ _ _|refine(Tr.aa _ _ (by omega)).trans ?_|refine(Tr.ah _ (by omega)).trans ?_));done))) rfl (by exact zn rfl) rfl ?_|(apply an;exact rfl;exact rfl;exact rfl;exact(F.ag _ rfl);exact rfl;exact rfl)|(apply ay;exact rfl;exact rfl;exact rfl;exact(F.ag _ rfl);exact rfl;exact rfl)|(apply aP;exact rfl;exact rfl;exact(F.zl _ rfl))|(apply bj;exact rfl;exact rfl;exact rfl)|(apply cJ;exact rfl;exact rfl;exact rfl;exact rfl)|(apply aK;exact rfl;exact rfl;exact rfl;exact(F.sz _ rfl);exact rfl;exact rfl;exact rfl)|(apply aE;exact rfl;exact rfl;exact rfl;exact(F.sz _ rfl);exact rfl;exact rfl;(focus(decide));exact rfl;exact rfl)|refine an rfl rfl rfl (F.ag _ rfl) (by(repeat(first|assumption|exact Tr.ab _ _ _|refine(Tr.aa _ _ (by omega)).trans ?_|refine(Tr.ah _ (by omega)).trans ?_));done) (by exact rfl) ?_|refine ay rfl rfl rfl (F.ag _ rfl) (by(repeat(first|assumption|exact Tr.ab _ _ _|refine(Tr.aa _ _ (by omega)).trans ?_|refine(Tr.ah _ (by omega)).trans ?_));done) (by exact rfl) ?_|refine aK rfl rfl rfl (F.sz _ rfl) (by(repeat(first|assumption|exact Tr.ab _ _ _|refine(Tr.aa _ _ (by omega)).trans ?_|refine(Tr.ah _ (by omega)).trans ?_));done) (by exact rfl) (by exact rfl) ?_|refine aE rfl rfl rfl (F.sz _ rfl) (by(repeat(first|assumption|exact Tr.ab _ _ _|refine(Tr.aa _ _ (by omega)).trans ?_|refine(Tr.ah _ (by omega)).trans ?_));done) rfl (by exact zn rfl) rfl (by exact rfl) ?_|(apply a6;exact rfl;exact rfl;exact rfl;exact(F.un _ rfl))|(apply be;exact rfl;exact rfl;exact rfl;exact(F.un _ rfl))|(apply bn;exact rfl;exact rfl;exact rfl;exact rfl;(focus(omega));(focus(omega)))|(apply cv;exact rfl;exact rfl;exact rfl;exact rfl;(focus(omega));(focus(omega)))|(apply cF;exact rfl;exact rfl;exact rfl;exact rfl;(focus(omega));(focus(omega)))|(apply bh;exact rfl;exact rfl;exact rfl)|(apply cV;exact rfl;exact rfl;exact rfl;exact rfl;(focus(omega));(focus(omega));(focus(omega)))|(apply bc;exact rfl;exact rfl;exact rfl;exact(F.ze _ rfl);exact(F.pl _ rfl);exact rfl)|fail|((apply ix;exact rfl;exact rfl;exact(F.un _ rfl);exact rfl;exact(hB2 _ k2));rw [hlen])|fail))
      refine aL rfl rfl rfl (by kernel_rfl) (Fnc.mono (sZ hb2 hp1 (n:=bB p) (a:=bi p1-it.length) (s:=it.length) (by omega) (by omega) (by omega)) ?_)
      rintro⟨_,H3,n3⟩ ⟨rfl,q2,q3,q4⟩
      dsimp only at q2 q3 q4 ⊢
      have hp2:(dV p1 (bB p) (bi p1-it.length) it.length).length=1024:=by rw [jL (by omega)];exact hp1
      (repeat(first|refine aq ?_|refine ae ?_|refine ac ?_|refine aI ?_|refine aB ?_|refine aH ?_|refine bv ?_|refine bu ?_|refine a8 ?_|refine a9 rfl ?_|refine ax rfl ?_|refine au rfl ?_|refine ce rfl ?_|(apply aj;exact rfl;exact rfl;exact rfl)|(apply ai;exact rfl;exact rfl;exact rfl)|(apply aX;exact rfl;exact rfl;exact rfl;exact rfl)|(apply aO;exact rfl;exact rfl;exact rfl;exact rfl)|(apply aD;exact rfl;exact rfl;exact rfl;exact rfl)|(apply aU;exact rfl;exact rfl;exact rfl)|(apply aS;exact rfl;exact rfl;exact rfl)|(apply aR;exact rfl;exact rfl;exact rfl)|(apply ap;exact rfl;exact rfl;exact rfl;exact(F.fo _ _ rfl rfl))|(apply aN;exact rfl;exact rfl;exact rfl;exact rfl)|(apply bT;exact rfl)|(apply bS;exact rfl;exact rfl;exact rfl;exact rfl)|(apply ck;exact rfl;exact rfl)|(apply cw;exact rfl;exact rfl;exact rfl;exact rfl;exact(F.un _ rfl);exact rfl)|(apply da;exact rfl;exact rfl;exact rfl;exact rfl;exact(F.un _ rfl);exact rfl)|(apply db;exact rfl;exact rfl;exact rfl;exact rfl;exact rfl;exact(F.un _ rfl);exact rfl)|(apply c9;exact rfl;exact rfl;exact rfl;exact rfl;exact rfl;exact(F.un _ rfl);exact rfl)|refine aM rfl rfl rfl rfl (F.sz _ rfl) (by first|exact rfl|(focus((repeat(first|assumption|exact Tr.ab _ _ _|refine(Tr.aa _ _ (by omega)).trans ?_|refine(Tr.ah _ (by omega)).trans ?_));done))) rfl (by exact zn rfl) rfl ?_|(apply an;exact rfl;exact rfl;exact rfl;exact(F.ag _ rfl);exact rfl;exact rfl)|(apply ay;exact rfl;exact rfl;exact rfl;exact(F.ag _ rfl);exact rfl;exact rfl)|(apply aP;exact rfl;exact rfl;exact(F.zl _ rfl))|(apply bj;exact rfl;exact rfl;exact rfl)|(apply cJ;exact rfl;exact rfl;exact rfl;exact rfl)|(apply aK;exact rfl;exact rfl;exact rfl;exact(F.sz _ rfl);exact rfl;exact rfl;exact rfl)|(apply aE;exact rfl;exact rfl;exact rfl;exact(F.sz _ rfl);exact rfl;exact rfl;(focus(decide));exact rfl;exact rfl)|refine an rfl rfl rfl (F.ag _ rfl) (by(repeat(first|assumption|exact Tr.ab _ _ _|refine(Tr.aa _ _ (by omega)).trans ?_|refine(Tr.ah _ (by omega)).trans ?_));done) (by exact rfl) ?_|refine ay rfl rfl rfl (F.ag _ rfl) (by(repeat(first|assumption|exact Tr.ab _ _ _|refine(Tr.aa _ _ (by omega)).trans ?_|refine(Tr.ah _ (by omega)).trans ?_));done) (by exact rfl) ?_|refine aK rfl rfl rfl (F.sz _ rfl) (by(repeat(first|assumption|exact Tr.ab _ _ _|refine(Tr.aa _ _ (by omega)).trans ?_|refine(Tr.ah _ (by omega)).trans ?_));done) (by exact rfl) (by exact rfl) ?_|refine aE rfl rfl rfl (F.sz _ rfl) (by(repeat(first|assumption|exact Tr.ab _ _ _|refine(Tr.aa _ _ (by omega)).trans ?_|refine(Tr.ah _ (by omega)).trans ?_));done) rfl (by exact zn rfl) rfl (by exact rfl) ?_|(apply a6;exact rfl;exact rfl;exact rfl;exact(F.un _ rfl))|(apply be;exact rfl;exact rfl;exact rfl;exact(F.un _ rfl))|(apply bn;exact rfl;exact rfl;exact rfl;exact rfl;(focus(omega));(focus(omega)))|(apply cv;exact rfl;exact rfl;exact rfl;exact rfl;(focus(omega));(focus(omega)))|(apply cF;exact rfl;exact rfl;exact rfl;exact rfl;(focus(omega));(focus(omega)))|(apply bh;exact rfl;exact rfl;exact rfl)|(apply cV;exact rfl;exact rfl;exact rfl;exact rfl;(focus(omega));(focus(omega));(focus(omega)))|(apply bc;exact rfl;exact rfl;exact rfl;exact(F.ze _ rfl);exact(F.pl _ rfl);exact rfl)|fail|fail))
      refine aL rfl rfl rfl (by kernel_rfl) (Fnc.mono (ri q2 hp2 (o:=16) (n:=bi p1-it.length) (by decide) (by omega)) ?_)
      rintro⟨_,H4,n4⟩ ⟨rfl,r2,r3,r4⟩
      dsimp only at r2 r3 r4 ⊢
      have hp3:(kj (dV p1 (bB p) (bi p1-it.length) it.length) 16 (bi p1-it.length)).length=1024:=by rw [dN (by omega)];exact hp2
      have k4: ∀ m,m<nx→H4.at' m=H.at' m:=fun m hm=>(r4 m (by omega) (by omega)).trans ((q4 m (by omega) (by omega)).trans (k2 m hm))
      have hz4:H4.at' (nx+1)=some (pgO zeroP):=(r4 _ (by omega) (by omega)).trans ((q4 _ (by omega) (by omega)).trans hz2)
      (repeat(first|refine aq ?_|refine ae ?_|refine ac ?_|refine aI ?_|refine aB ?_|refine aH ?_|refine bv ?_|refine bu ?_|refine a8 ?_|refine a9 rfl ?_|refine ax rfl ?_|refine au rfl ?_|refine ce rfl ?_|(apply aj;exact rfl;exact rfl;exact rfl)|(apply ai;exact rfl;exact rfl;exact rfl)|(apply aX;exact rfl;exact rfl;exact rfl;exact rfl)|(apply aO;exact rfl;exact rfl;exact rfl;exact rfl)|(apply aD;exact rfl;exact rfl;exact rfl;exact rfl)|(apply aU;exact rfl;exact rfl;exact rfl)|(apply aS;exact rfl;exact rfl;exact rfl)|(apply aR;exact rfl;exact rfl;exact rfl)|(apply ap;exact rfl;exact rfl;exact rfl;exact(F.fo _ _ rfl rfl))|(apply aN;exact rfl;exact rfl;exact rfl;exact rfl)|(apply bT;exact rfl)|(apply bS;exact rfl;exact rfl;exact rfl;exact rfl)|(apply ck;exact rfl;exact rfl)|(apply cw;exact rfl;exact rfl;exact rfl;exact rfl;exact(F.un _ rfl);exact rfl)|(apply da;exact rfl;exact rfl;exact rfl;exact rfl;exact(F.un _ rfl);exact rfl)|(apply db;exact rfl;exact rfl;exact rfl;exact rfl;exact rfl;exact(F.un _ rfl);exact rfl)|(apply c9;exact rfl;exact rfl;exact rfl;exact rfl;exact rfl;exact(F.un _ rfl);exact rfl)|refine aM rfl rfl rfl rfl (F.sz _ rfl) (by first|exact rfl|(focus((repeat(first|assumption|exact Tr.ab _ _ _|refine(Tr.aa _ _ (by omega)).trans ?_|refine(Tr.ah _ (by omega)).trans ?_));done))) rfl (by exact zn rfl) rfl ?_|(apply an;exact rfl;exact rfl;exact rfl;exact(F.ag _ rfl);exact rfl;exact rfl)|(apply ay;exact rfl;exact rfl;exact rfl;exact(F.ag _ rfl);exact rfl;exact rfl)|(apply aP;exact rfl;exact rfl;exact(F.zl _ rfl))|(apply bj;exact rfl;exact rfl;exact rfl)|(apply cJ;exact rfl;exact rfl;exact rfl;exact rfl)|(apply aK;exact rfl;exact rfl;exact rfl;exact(F.sz _ rfl);exact rfl;exact rfl;exact rfl)|(apply aE;exact rfl;exact rfl;exact rfl;exact(F.sz _ rfl);exact rfl;exact rfl;(focus(decide));exact rfl;exact rfl)|refine an rfl rfl rfl (F.ag _ rfl) (by(repeat(first|assumption|exact Tr.ab _ _ _|refine(Tr.aa _ _ (by omega)).trans ?_|refine(Tr.ah _ (by omega)).trans ?_));done) (by exact rfl) ?_|refine ay rfl rfl rfl (F.ag _ rfl) (by(repeat(first|assumption|exact Tr.ab _ _ _|refine(Tr.aa _ _ (by omega)).trans ?_|refine(Tr.ah _ (by omega)).trans ?_));done) (by exact rfl) ?_|refine aK rfl rfl rfl (F.sz _ rfl) (by(repeat(first|assumption|exact Tr.ab _ _ _|refine(Tr.aa _ _ (by omega)).trans ?_|refine(Tr.ah _ (by omega)).trans ?_));done) (by exact rfl) (by exact rfl) ?_|refine aE rfl rfl rfl (F.sz _ rfl) (by(repeat(first|assumption|exact Tr.ab _ _ _|refine(Tr.aa _ _ (by omega)).trans ?_|refine(Tr.ah _ (by omega)).trans ?_));done) rfl (by exact zn rfl) rfl (by exact rfl) ?_|(apply a6;exact rfl;exact rfl;exact rfl;exact(F.un _ rfl))|(apply be;exact rfl;exact rfl;exact rfl;exact(F.un _ rfl))|(apply bn;exact rfl;exact rfl;exact rfl;exact rfl;(focus(omega));(focus(omega)))|(apply cv;exact rfl;exact rfl;exact rfl;exact rfl;(focus(omega));(focus(omega)))|(apply cF;exact rfl;exact rfl;exact rfl;exact rfl;(focus(omega));(focus(omega)))|(apply bh;exact rfl;exact rfl;exact rfl)|(apply cV;exact rfl;exact rfl;exact rfl;exact rfl;(focus(omega));(focus(omega));(focus(omega)))|(apply bc;exact rfl;exact rfl;exact rfl;exact(F.ze _ rfl);exact(F.pl _ rfl);exact rfl)|fail|((apply nE (lw:=bi p1-it.length) (hg:=1024) (m:=1024-(bi p1-it.length));exact rfl;exact rfl;exact rfl;exact(F.un _ rfl);exact(F.sz _ rfl);exact rfl;exact rfl;(focus(omega));(focus(omega));(focus(omega));exact rfl;exact rfl;exact(Nat.zero_add _)))|fail))
      refine pi rfl rfl rfl rfl (F.un _ rfl) (F.sz _ rfl) r2 (hB2 _ k4) (by omega) (by rw [aY hp3];omega) ?_
      rw [pu rfl]
      have hlay:is (kj (dV p1 (bB p) (bi p1-it.length) it.length) 16 (bi p1-it.length)) (bi p1-it.length) it=mV p it:=by rw [hmo];rfl
      have hp4:(mV p it).length=1024:=by rw [← hlay,gJ (by omega)];exact hp3
      rw [hlay]
      clear hlay
      generalize mV p it=pL at hv hp4 ⊢
      (repeat(first|(apply ay;(exact rfl);(exact rfl);(exact rfl);(exact F.ag _ rfl);(focus((focus((repeat(first|assumption|exact Tr.ab _ _ _|refine(Tr.aa _ _ (by omega)).trans ?_|refine(Tr.ah _ (by omega)).trans ?_));done))));(exact aY hp4))|(apply aE;(exact rfl);(exact rfl);(exact rfl);(exact F.sz _ rfl);(focus((focus((repeat(first|assumption|exact Tr.ab _ _ _|refine(Tr.aa _ _ (by omega)).trans ?_|refine(Tr.ah _ (by omega)).trans ?_));done))));(exact aY hp4);(rw [aY ak];exact zD _);(exact dv _);(exact dt _ _ ak hp4))|refine aq ?_|refine ae ?_|refine ac ?_|refine aI ?_|refine aB ?_|refine aH ?_|refine bv ?_|refine bu ?_|refine a8 ?_|refine a9 rfl ?_|refine ax rfl ?_|refine au rfl ?_|refine ce rfl ?_|(apply aj;exact rfl;exact rfl;exact rfl)|(apply ai;exact rfl;exact rfl;exact rfl)|(apply aX;exact rfl;exact rfl;exact rfl;exact rfl)|(apply aO;exact rfl;exact rfl;exact rfl;exact rfl)|(apply aD;exact rfl;exact rfl;exact rfl;exact rfl)|(apply aU;exact rfl;exact rfl;exact rfl)|(apply aS;exact rfl;exact rfl;exact rfl)|(apply aR;exact rfl;exact rfl;exact rfl)|(apply ap;exact rfl;exact rfl;exact rfl;exact(F.fo _ _ rfl rfl))|(apply aN;exact rfl;exact rfl;exact rfl;exact rfl)|(apply bT;exact rfl)|(apply bS;exact rfl;exact rfl;exact rfl;exact rfl)|(apply ck;exact rfl;exact rfl)|(apply cw;exact rfl;exact rfl;exact rfl;exact rfl;exact(F.un _ rfl);exact rfl)|(apply da;exact rfl;exact rfl;exact rfl;exact rfl;exact(F.un _ rfl);exact rfl)|(apply db;exact rfl;exact rfl;exact rfl;exact rfl;exact rfl;exact(F.un _ rfl);exact rfl)|(apply c9;exact rfl;exact rfl;exact rfl;exact rfl;exact rfl;exact(F.un _ rfl);exact rfl)|refine aM rfl rfl rfl rfl (F.sz _ rfl) (by first|exact rfl|(focus((repeat(first|assumption|exact Tr.ab _ _ _|refine(Tr.aa _ _ (by omega)).trans ?_|refine(Tr.ah _ (by omega)).trans ?_));done))) rfl (by exact zn rfl) rfl ?_|(apply an;exact rfl;exact rfl;exact rfl;exact(F.ag _ rfl);exact rfl;exact rfl)|(apply ay;exact rfl;exact rfl;exact rfl;exact(F.ag _ rfl);exact rfl;exact rfl)|(apply aP;exact rfl;exact rfl;exact(F.zl _ rfl))|(apply bj;exact rfl;exact rfl;exact rfl)|(apply cJ;exact rfl;exact rfl;exact rfl;exact rfl)|(apply aK;exact rfl;exact rfl;exact rfl;exact(F.sz _ rfl);exact rfl;exact rfl;exact rfl)|(apply aE;exact rfl;exact rfl;exact rfl;exact(F.sz _ rfl);exact rfl;exact rfl;(focus(decide));exact rfl;exact rfl)|refine an rfl rfl rfl (F.ag _ rfl) (by(repeat(first|assumption|exact Tr.ab _ _ _|refine(Tr.aa _ _ (by omega)).trans ?_|refine(Tr.ah _ (by omega)).trans ?_));done) (by exact rfl) ?_|refine ay rfl rfl rfl (F.ag _ rfl) (by(repeat(first|assumption|exact Tr.ab _ _ _|refine(Tr.aa _ _ (by omega)).trans ?_|refine(Tr.ah _ (by omega)).trans ?_));done) (by exact rfl) ?_|refine aK rfl rfl rfl (F.sz _ rfl) (by(repeat(first|assumption|exact Tr.ab _ _ _|refine(Tr.aa _ _ (by omega)).trans ?_|refine(Tr.ah _ (by omega)).trans ?_));done) (by exact rfl) (by exact rfl) ?_|refine aE rfl rfl rfl (F.sz _ rfl) (by(repeat(first|assumption|exact Tr.ab _ _ _|refine(Tr.aa _ _ (by omega)).trans ?_|refine(Tr.ah _ (by omega)).trans ?_));done) rfl (by exact zn rfl) rfl (by exact rfl) ?_|(apply a6;exact rfl;exact rfl;exact rfl;exact(F.un _ rfl))|(apply be;exact rfl;exact rfl;exact rfl;exact(F.un _ rfl))|(apply bn;exact rfl;exact rfl;exact rfl;exact rfl;(focus(omega));(focus(omega)))|(apply cv;exact rfl;exact rfl;exact rfl;exact rfl;(focus(omega));(focus(omega)))|(apply cF;exact rfl;exact rfl;exact rfl;exact rfl;(focus(omega));(focus(omega)))|(apply bh;exact rfl;exact rfl;exact rfl)|(apply cV;exact rfl;exact rfl;exact rfl;exact rfl;(focus(omega));(focus(omega));(focus(omega)))|(apply bc;exact rfl;exact rfl;exact rfl;exact(F.ze _ rfl);exact(F.pl _ rfl);exact rfl)|fail|fail))
      ((first|apply fT Tryz.func58 (congrArg Array.toList Tryz.results58)|apply bf Tryz.func58 (congrArg Array.toList Tryz.results58));(focus((apply ResIs.cell rfl (LoadIs.many (F.ag _ rfl) (by(repeat(first|assumption|exact Tr.ab _ _ _|refine(Tr.aa _ _ (by omega)).trans ?_|refine(Tr.ah _ (by omega)).trans ?_));done) (dg hp4)));(repeat(first|exact ResIs.nil|apply ResIs.tmp rfl)))))
      exact⟨by rw [hv];rfl,zL (zL (zM _) (zM _)) (zL hn2 (zL q3 r3)),fun m hm=>(Tr.aa _ _ (by omega)).trans ((Tr.aa _ _ (by omega)).trans (k4 m hm))⟩
   ·have hmt:decide (1≤it.length∧it.length≤1000)=false:=decide_eq_false hm
    rw [hmt] at hmi
    have hv:oY p it=(zeroP,0,2):=by unfold oY;rw [if_neg (by rw [hr];decide),if_pos hm]
    (repeat(first|refine aq ?_|refine ae ?_|refine ac ?_|refine aI ?_|refine aB ?_|refine aH ?_|refine bv ?_|refine bu ?_|refine a8 ?_|refine a9 rfl ?_|refine ax rfl ?_|refine au rfl ?_|refine ce rfl ?_|(apply aj;exact rfl;exact rfl;exact rfl)|(apply ai;exact rfl;exact rfl;exact rfl)|(apply aX;exact rfl;exact rfl;exact rfl;exact rfl)|(apply aO;exact rfl;exact rfl;exact rfl;exact rfl)|(apply aD;exact rfl;exact rfl;exact rfl;exact rfl)|(apply aU;exact rfl;exact rfl;exact rfl)|(apply aS;exact rfl;exact rfl;exact rfl)|(apply aR;exact rfl;exact rfl;exact rfl)|(apply ap;exact rfl;exact rfl;exact rfl;exact(F.fo _ _ rfl rfl))|(apply aN;exact rfl;exact rfl;exact rfl;exact rfl)|(apply bT;exact rfl)|(apply bS;exact rfl;exact rfl;exact rfl;exact rfl)|(apply ck;exact rfl;exact rfl)|(apply cw;exact rfl;exact rfl;exact rfl;exact rfl;exact(F.un _ rfl);exact rfl)|(apply da;exact rfl;exact rfl;exact rfl;exact rfl;exact(F.un _ rfl);exact rfl)|(apply db;exact rfl;exact rfl;exact rfl;exact rfl;exact rfl;exact(F.un _ rfl);exact rfl)|(apply c9;exact rfl;exact rfl;exact rfl;exact rfl;exact rfl;exact(F.un _ rfl);exact rfl)|refine aM rfl rfl rfl rfl (F.sz _ rfl) (by first|exact rfl|(focus((repeat(first|assumption|exact Tr.ab _ _ _|refine(Tr.aa _ _ (by omega)).trans ?_|refine(Tr.ah _ (by omega)).trans ?_));done))) rfl (by exact zn rfl) rfl ?_|(apply an;exact rfl;exact rfl;exact rfl;exact(F.ag _ rfl);exact rfl;exact rfl)|(apply ay;exact rfl;exact rfl;exact rfl;exact(F.ag _ rfl);exact rfl;exact rfl)|(apply aP;exact rfl;exact rfl;exact(F.zl _ rfl))|(apply bj;exact rfl;exact rfl;exact rfl)|(apply cJ;exact rfl;exact rfl;exact rfl;exact rfl)|(apply aK;exact rfl;exact rfl;exact rfl;exact(F.sz _ rfl);exact rfl;exact rfl;exact rfl)|(apply aE;exact rfl;exact rfl;exact rfl;exact(F.sz _ rfl);exact rfl;exact rfl;(focus(decide));exact rfl;exact rfl)|refine an rfl rfl rfl (F.ag _ rfl) (by(repeat(first|assumption|exact Tr.ab _ _ _|refine(Tr.aa _ _ (by omega)).trans ?_|refine(Tr.ah _ (by omega)).trans ?_));done) (by exact rfl) ?_|refine ay rfl rfl rfl (F.ag _ rfl) (by(repeat(first|assumption|exact Tr.ab _ _ _|refine(Tr.aa _ _ (by omega)).trans ?_|refine(Tr.ah _ (by omega)).trans ?_));done) (by exact rfl) ?_|refine aK rfl rfl rfl (F.sz _ rfl) (by(repeat(first|assumption|exact Tr.ab _ _ _|refine(Tr.aa _ _ (by omega)).trans ?_|refine(Tr.ah _ (by omega)).trans ?_));done) (by exact rfl) (by exact rfl) ?_|refine aE rfl rfl rfl (F.sz _ rfl) (by(repeat(first|assumption|exact Tr.ab _ _ _|refine(Tr.aa _ _ (by omega)).trans ?_|refine(Tr.ah _ (by omega)).trans ?_));done) rfl (by exact zn rfl) rfl (by exact rfl) ?_|(apply a6;exact rfl;exact rfl;exact rfl;exact(F.un _ rfl))|(apply be;exact rfl;exact rfl;exact rfl;exact(F.un _ rfl))|(apply bn;exact rfl;exact rfl;exact rfl;exact rfl;(focus(omega));(focus(omega)))|(apply cv;exact rfl;exact rfl;exact rfl;exact rfl;(focus(omega));(focus(omega)))|(apply cF;exact rfl;exact rfl;exact rfl;exact rfl;(focus(omega));(focus(omega)))|(apply bh;exact rfl;exact rfl;exact rfl)|(apply cV;exact rfl;exact rfl;exact rfl;exact rfl;(focus(omega));(focus(omega));(focus(omega)))|(apply bc;exact rfl;exact rfl;exact rfl;exact(F.ze _ rfl);exact(F.pl _ rfl);exact rfl)|fail|(refine aL rfl rfl rfl (by kernel_rfl) (Fnc.mono (hrs _) ?_);rintro _ rfl;dsimp only)|(refine ix rfl rfl (F.un _ rfl) rfl hB1 ?_;rw [hlen])|(refine aL rfl rfl rfl (by kernel_rfl) (Fnc.mono (hmi _ _) ?_);rintro _ rfl;dsimp only)|(refine dh rfl rfl iw ?_)|fail))
    rw [dt _ _ ak ak]
    ((first|apply fT Tryz.func58 (congrArg Array.toList Tryz.results58)|apply bf Tryz.func58 (congrArg Array.toList Tryz.results58));(focus((apply ResIs.cell rfl (LoadIs.many (F.ag _ rfl) (by(repeat(first|assumption|exact Tr.ab _ _ _|refine(Tr.aa _ _ (by omega)).trans ?_|refine(Tr.ah _ (by omega)).trans ?_));done) (dg ak)));(repeat(first|exact ResIs.nil|apply ResIs.tmp rfl)))))
    exact⟨by rw [hv];rfl,by dsimp only;omega,fun m hm=>(Tr.aa _ _ (by omega)).trans (ho1 m hm)⟩
theorem Free.zf{a b c:SV}(ha:Free a)(hb:Free b)(hc:Free c):Free (.tup [a,b,c]):=fun e e' u h=>by
 simp only [SV.conc,SV.aQ] at h ⊢
 cases h1:a.conc e with
 | none=>rw [h1] at h;simp at h
 | some x=>
   cases h2:b.conc e with
   | none=>rw [h1,h2] at h;simp at h
   | some y=>
     cases h3:c.conc e with
     | none=>rw [h1,h2,h3] at h;simp at h
     | some z=>
       rw [h1,h2,h3] at h
       rw [ha e e' x h1,hb e e' y h2,hc e e' z h3]
       exact h
theorem tQ(r:List UInt8×Nat×Nat):Free (insS r):=Free.zf (Free.agg _) (Free.sc _) (Free.sc _)
theorem qv{H:aJ}{nx:Nat}{p it:List UInt8}{s:SV}(hp:p.length=1024)(hB:BsIs H s (byV it))(hit:it.length≤4611686018427387904):Fnc Tryz.prog 58 [.agg (pgS p),s] H nx (fun q=>q=(insS (oY p it),H,nx)):=Fnc.dp (tQ _) (vI hp hB hit)
abbrev pgE(r:List UInt8×Nat):SV:= .tup [.agg (pgS r.1),.sc (.int .i64 (r.2:Int))]
theorem vu(r:List UInt8×Nat):Free (pgE r):=Free.two (Free.agg _) (Free.sc _)
theorem xY{H:aJ}{nx:Nat}{p:List UInt8}(hp:p.length=1024):Fnc Tryz.prog 63 [.agg (pgS p)] H nx (fun q=>q.1 = .sc (.bool (dQ p))∧nx≤q.2.2∧ ∀ m,m<nx→q.2.1.at' m=H.at' m):=by
 refine Fnc.start Tryz.func63 rfl rfl ?_
 have hb1:(H.set nx (pgO p)).at' nx=some (pgO p):=Tr.ab _ _ _
 (repeat(first|refine aq ?_|refine ae ?_|refine ac ?_|(apply ai;exact rfl;exact rfl;exact rfl)|(apply bj;exact rfl;exact rfl;exact rfl)|(refine aL rfl rfl rfl (by kernel_rfl) (Fnc.mono (mG hb1 hp) ?_);rintro _ rfl;dsimp only)))
 ((apply bf Tryz.func63 (congrArg Array.toList Tryz.results63));(focus(repeat(first|exact ResIs.nil|apply ResIs.tmp rfl))))
 exact⟨rfl,zM _,fun m hm=>Tr.aa _ _ (by omega)⟩
theorem uu{H:aJ}{nx:Nat}{p:List UInt8}(hp:p.length=1024):Fnc Tryz.prog 63 [.agg (pgS p)] H nx (fun q=>q=(.sc (.bool (dQ p)),H,nx)):=Fnc.dp (fun _ _ _ h=>h) (xY hp)
abbrev yX(f q:Nat):SV:= .fn (.func 92) [] [.ptr f 0,.ptr q 0]
theorem tO{H:aJ}{nx:Nat}{p:List UInt8}(hp:p.length=1024):Fnc Tryz.prog 65 [.agg (pgS p)] H nx (fun q=>q=(yX (nx+1) nx,(H.set nx (pgO p)).set (nx+1) (az 4 [.sc (.bool (dQ p))]),nx+1+1)):=by
 refine Fnc.start Tryz.func65 rfl rfl ?_
 have hb1:(H.set nx (pgO p)).at' nx=some (pgO p):=Tr.ab _ _ _
 (repeat(first|refine aq ?_|refine ae ?_|refine ac ?_|(apply ai;exact rfl;exact rfl;exact rfl)|(apply aN;exact rfl;exact rfl;exact rfl;exact rfl)|refine aM rfl rfl rfl rfl (F.sz _ rfl) (by(repeat(first|assumption|exact Tr.ab _ _ _));done) rfl (by exact zn rfl) rfl ?_|(apply aP;exact rfl;exact rfl;exact(F.zl _ rfl))|(apply bj;exact rfl;exact rfl;exact rfl)|(refine aL rfl rfl rfl (by kernel_rfl) (Fnc.mono (mG hb1 hp) ?_);rintro _ rfl;dsimp only)))
 ((apply bf Tryz.func65 (congrArg Array.toList Tryz.results65));(focus(repeat(first|exact ResIs.nil|apply ResIs.tmp rfl))))
 refine Prod.ext rfl (Prod.ext ?_ rfl)
 funext n
 by_cases hn:n=nx+1
 ·subst hn
  exact(Tr.ab _ _ _).trans (Tr.ab _ _ _).symm
 ·exact(Tr.aa _ _ hn).trans ((Tr.aa _ _ hn).trans (Tr.aa _ _ hn).symm)
theorem ti(l:List UInt8):nV (byV l):=fun v hv=>by obtain⟨c,_,rfl⟩:=List.mem_map.1 hv;rfl
theorem fk(l:List UInt8):(byV l).length=l.length:=List.length_map _
theorem LsIs.nil(H:aJ):LsIs H [] []:=⟨rfl,fun j s vs h=>by simp at h⟩
theorem LsIs.cons{H:aJ}{s:SV}{vs:List Value}{ls:List SV}{bs:List (List Value)}(h:BsIs H s vs)(t:LsIs H ls bs):LsIs H (s :: ls) (vs :: bs):=by
 refine⟨by simp [t.1],fun j s' vs' h1 h2=>?_⟩
 cases j with
 | zero=>
   simp only [zB,zh] at h1 h2
   subst h1 h2
   exact h
 | succ j=>exact t.2 j s' vs' (by simpa using h1) (by simpa using h2)
theorem jl{H:aJ}{r:Nat}{ro:Bool}{l:List UInt8}(h:H.at' r=some (u8R ro (byV l))):BsIs H (.slu r 0 l.length) (byV l):=by
 have:=BsIs.row (ti l) h rfl
 rwa [fk] at this
def dJ(p:List UInt8)(j:Nat):List UInt8:=(p.drop (bL p j)).take (bq p j)
theorem fV(p:List UInt8): ∀ (k n:Nat) (seen:List (Nat×Nat)) (fine:Bool),eK p k n seen fine=true→ ∀ j,n≤j→j<n+k→(bL p j=0∧bq p j=0)∨(1≤bq p j∧bq p j≤1000∧bi p≤bL p j∧bL p j+bq p j≤1024)
 | 0,n,seen,fine,_,j,h1,h2=>absurd h1 (by omega)
 | k+1,n,seen,fine,h,j,h1,h2=>by
   unfold eK at h
   split at h
   ·rename_i h3
    rcases Nat.lt_or_ge n j with h4|h4
    ·exact fV p k (n+1) _ _ h j (by omega) (by omega)
    ·obtain rfl:n=j:=by omega
     exact .inl h3
   ·split at h
    ·cases h
    ·split at h
     ·cases h
     ·rename_i h5 _
      rcases Nat.lt_or_ge n j with h4|h4
      ·exact fV p k (n+1) _ _ h j (by omega) (by omega)
      ·obtain rfl:n=j:=by omega
       exact .inr (by omega)
theorem k8{p:List UInt8}(h:dQ p=true){j:Nat}(hj:j<aT p)(hs:bq p j≠0):1≤bq p j∧bq p j≤1000∧bi p≤bL p j∧bL p j+bq p j≤1024:=by
 unfold dQ at h
 rw [zC] at h
 rcases fV p _ _ _ _ h.2 j (zE _) (by omega)with h1|h1
 ·exact absurd h1.2 hs
 ·exact h1
theorem oh{p:List UInt8}(hp:p.length=1024){j:Nat}(h:bL p j+bq p j≤1024):(dJ p j).length=bq p j:=by
 unfold dJ
 rw [List.length_take,List.length_drop]
 omega
theorem tN{H:aJ}{nx l f q:Nat}{p:List UInt8}(hp:p.length=1024)(hr:dQ p=true){f2 nt2:Nat}{T2:Tr SV}{ps:Array Tmp}{ca cb:Code}{dr:Nat}(hps:ps.size=2)(I:Nat→aJ→Nat→Prop)(J:aJ→Nat→Prop)
 (hI: ∀ j H nx,I j H nx→H.at' l=some (.loop .ready none f2 nt2 T2 ps ca cb dr)∧H.at' f=some (az 4 [.sc (.bool true)])∧H.at' q=some (pgO p)∧l<nx∧f<nx∧q<nx)
 (hgrow: ∀ j H nx H' nx',I j H nx→nx≤nx'→(∀ m,m<nx→H'.at' m=H.at' m)→I j H' nx')
 (hskip: ∀ j H nx,I j H nx→bq p j=0→I (j+1) H nx)
 (hround: ∀ j H1 n1 r,I j H1 n1→nx≤r→r<n1→j<aT p→bq p j≠0→H1.at' r=some (u8R false (byV (dJ p j))) →
   Wp Tryz.prog (some l) ⟨f2,nt2,(ps.toList.zip [.sc (.int .i64 (j:Int)),.slu r 0 (dJ p j).length]).foldl (fun T x=>gv nt2 T (some x.1) x.2) T2,[.code ca,.beginRound,.code cb],[],H1,n1⟩ (fun x=>(x.1 = .sc (.bool true)∧I (j+1) x.2.1 x.2.2∧n1≤x.2.2∧x.2.1.at' nx=H1.at' nx)∨(x.1 = .sc (.bool false)∧J x.2.1 x.2.2)))
 (h0:I 0 H nx):Fnc Tryz.prog 92 [.yld l,.ptr f 0,.ptr q 0] H nx (fun r=>I (aT p) r.2.1 r.2.2∨J r.2.1 r.2.2):=by
 have hf:=ig hp hr
 obtain⟨_,hp1,hp2⟩:=hf
 have hJ0:Nat.beq ps.size 2=true:=by rw [hps];rfl
 refine Fnc.start Tryz.func92 rfl rfl ?_
 obtain⟨i1,i2,i3,i4,i5,i6⟩:=hI _ _ _ h0
 have hg1:I 0 (H.set nx (wx q)) (nx+1):=hgrow _ _ _ _ _ h0 (zM _) fun m hm=>Tr.aa _ _ (by omega)
 have hq1: ∀ {vo:VO},(H.set nx vo).at' q=some (pgO p):=fun {vo}=>(Tr.aa _ _ (by omega)).trans i3
 (repeat(first|refine aq ?_|refine ae ?_|refine ac ?_|refine aI ?_|refine aH ?_|refine au rfl ?_|(apply aj;exact rfl;exact rfl;exact rfl)|(apply ai;exact rfl;exact rfl;exact rfl)|refine an rfl rfl rfl (F.ag _ rfl) (by assumption) (by exact rfl) ?_|(apply bh;exact rfl;exact rfl;exact rfl)|(refine aL rfl rfl rfl (by kernel_rfl) (Fnc.mono (mZ) ?_);rintro _ rfl;dsimp only)|(refine aL rfl rfl rfl (by kernel_rfl) (Fnc.mono (jH hq1 hp) ?_);rintro _ rfl;dsimp only)))
 refine co (α:=Nat) (fun j=> [(0,.yld l),(2,.ptr q 0),(4,x9 nx),(11,.sc (.int .i64 (aT p:Int))),(12,.sc (.int .i64 (j:Int)))])
  (fun j H1 n1=>j≤aT p∧I j H1 n1∧nx+1≤n1∧H1.at' nx=some (wx q)) (fun j=>aT p-j) 0
  ⟨zE _,hg1,zD _,Tr.ab _ _ _⟩ (SlIn.sub (by repeat(first|exact trivial|refine⟨rfl,?_⟩))) ?_
 clear hg1 h0 hq1 i1 i2 i3
 rintro j H1 n1 ⟨h1,h2,h3,h4⟩ ih
 obtain⟨k1,k2,k3,k4,k5,k6⟩:=hI _ _ _ h2
 (repeat(first|refine aq ?_|refine ae ?_))
 refine bR rfl rfl rfl rfl (fun h5=>?_) (fun h5=>?_)
 ·(repeat(first|refine aq ?_|refine ae ?_|refine ac ?_|refine aI ?_|refine aH ?_|refine ax rfl ?_|(apply aj;exact rfl;exact rfl;exact rfl)|(apply ai;exact rfl;exact rfl;exact rfl)))
  refine kV rfl rfl rfl rfl (by kernel_rfl) (Fnc.mono (pd h4 k3 hp (n:=j) (by omega)) ?_)
  rintro _ rfl
  dsimp only
  (repeat(first|refine aq ?_|refine ae ?_|refine ac ?_|(apply aj;exact rfl;exact rfl;exact rfl)|(apply ai;exact rfl;exact rfl;exact rfl)|(apply aD;exact rfl;exact rfl;exact rfl;exact rfl)))
  refine eQ rfl rfl rfl rfl (fun e1=>?_) (fun e1=>?_)
  ·(repeat(first|refine ae ?_|refine ac ?_|refine a9 rfl ?_|refine ax rfl ?_|(apply aj;exact rfl;exact rfl;exact rfl)|(apply bn;exact rfl;exact rfl;exact rfl;exact rfl;(focus(omega));(focus(omega)))))
   exact ih _ _ _ (j+1) ⟨by omega,hskip _ _ _ h2 (by omega),h3,h4⟩ (by omega) (SlIn.sub (by repeat(first|exact trivial|refine⟨rfl,?_⟩)))
  ·have hs:=k8 hr (j:=j) (by omega) (by omega)
   have hil:=oh hp hs.2.2.2
   have hbl:=fk (dJ p j)
   (repeat(first|refine aq ?_|refine ae ?_|refine ac ?_|refine aH ?_|refine au rfl ?_|(apply aj;exact rfl;exact rfl;exact rfl)|(apply bn;exact rfl;exact rfl;exact rfl;exact rfl;(focus(omega));(focus(omega)))|((apply nE (lw:=bL p j) (hg:=bL p j+bq p j);exact rfl;exact rfl;exact rfl;exact(F.un _ rfl);exact(F.sz _ rfl);exact rfl;exact rfl;(focus(omega));(focus(omega));(focus(omega));exact(show bL p j+bq p j-bL p j=bq p j by omega);exact rfl;exact(Nat.zero_add _)))|(refine cw rfl rfl rfl rfl Tryz.underlying150 rfl ?_)|(apply bE;exact rfl;exact rfl;exact(F.un _ rfl);exact(F.sz _ rfl);exact rfl;exact(F.ze _ rfl);exact rfl;exact rfl;exact rfl;exact rfl;exact rfl)))
   refine aL rfl rfl rfl (by kernel_rfl) (Fnc.mono (wt (bs:= [byV (dJ p j)]) (ls:= [_]) (Tr.ab _ _ _) (LsIs.cons (um ((Tr.aa _ _ (by omega)).trans k3) (by omega)) (LsIs.nil _)) (by show(byV (dJ p j) ++ []).length≤_;rw [List.append_nil];omega) (zn rfl)) ?_)
   rintro _ rfl
   dsimp only
   have hfl: [byV (dJ p j)].flatten=byV (dJ p j):=List.append_nil _
   rw [hfl,fk]
   have hg:I j ((H1.set n1 (bsR false [.sl q (bL p j) (bq p j) (1024-bL p j)])).set (n1+1) (u8R false (byV (dJ p j)))) (n1+1+1):=hgrow _ _ _ _ _ h2 (by omega) fun m hm=>(Tr.aa _ _ (by omega)).trans (Tr.aa _ _ (by omega))
   have hl2:=(hI _ _ _ hg).1
   refine wQ (n:=l) rfl rfl rfl rfl hl2 hJ0 ?_
   refine Wp.mono (hround j _ _ (n1+1) hg (by omega) (by omega) (by omega) (by omega) (Tr.ab _ _ _)) ?_
   rintro⟨v,H2,n2⟩ (⟨rfl,g2,g3,g4⟩|⟨rfl,g2⟩)
   ·dsimp only at g2 g3 g4 ⊢
    (repeat(first|refine ae ?_|refine ac ?_|refine aB ?_|refine aH ?_|refine au rfl ?_|(apply aj;exact rfl;exact rfl;exact rfl)|(apply aO;exact rfl;exact rfl;exact rfl;exact rfl)|(apply bn;exact rfl;exact rfl;exact rfl;exact rfl;(focus(omega));(focus(omega)))|(apply bh;exact rfl;exact rfl;exact rfl)))
    exact ih _ _ _ (j+1) ⟨by omega,g2,by omega,g4.trans ((Tr.aa _ _ (by omega)).trans ((Tr.aa _ _ (by omega)).trans h4))⟩ (by omega) (SlIn.sub (by repeat(first|exact trivial|refine⟨rfl,?_⟩)))
   ·dsimp only at g2 ⊢
    (repeat(first|refine ac ?_|refine ax rfl ?_|(apply aO;exact rfl;exact rfl;exact rfl;exact rfl)|(apply bh;exact rfl;exact rfl;exact rfl)))
    ((apply bf Tryz.func92 (congrArg Array.toList Tryz.results92));(focus(repeat(exact ResIs.nil))))
    exact .inr g2
 ·obtain rfl:j=aT p:=by omega
  (repeat(first|refine aq ?_|refine ac ?_|refine a9 rfl ?_|refine au rfl ?_))
  ((apply fT Tryz.func92 (congrArg Array.toList Tryz.results92));(focus(repeat(exact ResIs.nil))))
  exact .inl h2
theorem lB(e:cO):Free (eO e):=Free.agg [.string e.1,.int .i64 e.2.1,.int .i64 e.2.2]
theorem rz(l:List UInt8)(no:Int):Free (rA l no):=Free.two (lB _) (Free.sc _)
theorem nZ(e:cO){H:aJ}{nx:Nat}:Fnc Tryz.prog 11 [eO e] H nx (fun q=>q=(.sc (.bool (kF e)),H,nx)):=Ctr.callV (vD e) [] rfl (ExtOk.of rfl) rfl trivial rfl
theorem wp(a b:cO){H:aJ}{nx:Nat}:Fnc Tryz.prog 13 [eO a,eO b] H nx (fun q=>q=(.sc (.bool (eI a b)),H,nx)):=Ctr.callV (tH a b) [] rfl (ExtOk.of rfl) rfl trivial rfl
theorem nq{H:aJ}{r eo:Nat}{ro:Bool}{w:List UInt8}{l:List UInt8}(hr:H.at' r=some (u8R ro (byV w)))(he:eo+l.length=w.length)(hl:w.drop eo=l):BsIs H (.slu r eo l.length) (byV l):=
 ⟨ti l,.inr (.inl ⟨r,eo,w.length,ro,_,byV w,by rw [fk],by rw [hr];unfold u8R;rw [fk],by rw [fk];omega,by rw [fk];show((byV w).drop eo).take l.length=byV l;rw [← List.map_drop,hl];exact zu (by simp)⟩)⟩
theorem of_u{H:aJ}{nx r eo:Nat}{ro:Bool}{w l:List UInt8}(hr:H.at' r=some (u8R ro (byV w)))(he:eo+l.length=w.length)(hl:w.drop eo=l)(h9:l.length≤9000):Fnc Tryz.prog 9 [.slu r eo l.length] H nx (fun q=>q=(rA l 13,H,nx)):=by
 refine Fnc.dp (rz _ _) ?_
 refine Fnc.start Tryz.func9 rfl rfl ?_
 refine cn fun hund=>?_
 have hlt:=hund _ _ hr
 (repeat(first|refine aq ?_|refine ae ?_|refine ac ?_|(apply aj;exact rfl;exact rfl;exact rfl)|(apply ai;exact rfl;exact rfl;exact rfl)|(apply aP;exact rfl;exact rfl;exact(F.zl _ rfl))|(apply a6;exact rfl;exact rfl;exact rfl;exact(F.un _ rfl))))
 refine bR rfl rfl rfl rfl (fun h1=>?_) (fun h1=>?_)
 ·(repeat(first|refine aq ?_|refine ae ?_|refine ac ?_|refine ax rfl ?_|(apply aj;exact rfl;exact rfl;exact rfl)|(apply ai;exact rfl;exact rfl;exact rfl)|(apply aX;exact rfl;exact rfl;exact rfl;exact rfl)|(apply bT;exact rfl)|refine aM rfl rfl rfl rfl (F.sz _ rfl) (by(repeat(exact Tr.ab _ _ _));done) rfl (by exact zn rfl) rfl ?_|(apply bc;exact rfl;exact rfl;exact rfl;exact(F.ze _ rfl);exact(F.pl _ rfl);exact rfl)))
  ((apply bf Tryz.func9 (congrArg Array.toList Tryz.results9));(focus(repeat(first|exact ResIs.nil|apply ResIs.tmp rfl|apply ResIs.cell rfl (LoadIs.many (F.ag _ rfl) (by(repeat(exact Tr.ab _ _ _));done) (aw _ 0 rfl rfl))))))
  exact⟨(eZ (nW (by omega))).symm,zM _,fun m hm=>by(focus((repeat(refine(Tr.aa _ _ (by omega)).trans ?_));exact rfl))⟩
 (repeat(first|(apply aj;exact rfl;exact rfl;exact rfl)|(apply a6;exact rfl;exact rfl;exact rfl;exact(F.un _ rfl))))
 refine e9 rfl rfl rfl rfl (fun h2=>?_) (fun h2=>?_)
 ·have hno:ofL l=none:=by
   rcases l with _|⟨b0,_|⟨b1,_|⟨b2,rr⟩⟩⟩
   ·rfl
   ·rfl
   ·rfl
   ·exact to (xD (by simp only [zG] at h2;omega))
  (repeat(first|refine aq ?_|refine ae ?_|refine ac ?_|refine ax rfl ?_|(apply ai;exact rfl;exact rfl;exact rfl)|(apply aO;exact rfl;exact rfl;exact rfl;exact rfl)|refine aM rfl rfl rfl rfl (F.sz _ rfl) (by(repeat(exact Tr.ab _ _ _));done) rfl (by exact zn rfl) rfl ?_|(apply bc;exact rfl;exact rfl;exact rfl;exact(F.ze _ rfl);exact(F.pl _ rfl);exact rfl)))
  ((apply bf Tryz.func9 (congrArg Array.toList Tryz.results9));(focus(repeat(first|exact ResIs.nil|apply ResIs.tmp rfl|apply ResIs.cell rfl (LoadIs.many (F.ag _ rfl) (by(repeat(exact Tr.ab _ _ _));done) (aw _ 0 rfl rfl))))))
  exact⟨(eZ hno).symm,zM _,fun m hm=>by(focus((repeat(refine(Tr.aa _ _ (by omega)).trans ?_));exact rfl))⟩
 rcases l with _|⟨b0,_|⟨b1,_|⟨b2,rr⟩⟩⟩
 ·simp at h1
 ·simp at h1
 ·simp at h1
 have hll:(b0 :: b1 :: b2 :: rr).length=rr.length+3:=rfl
 rw [hll] at he h1 h2 ⊢
 have hr1: ∀ vo,(H.set nx vo).at' r=some (u8R ro (byV w)):=fun vo=>(Tr.aa _ _ (by omega)).trans hr
 have hwl:(byV w).length=rr.length+3+eo:=by rw [fk];omega
 have hw0:w[eo]? =some b0:=by rw [← Nat.add_zero eo,←List.getElem?_drop,hl];rfl
 have hw1:w[eo+1]? =some b1:=by rw [← List.getElem?_drop,hl];rfl
 have hv0:(byV w)[eo]? =some (.int .u8 (b0.toNat:Int)):=by rw [List.getElem?_map,hw0];rfl
 have hv1:(byV w)[eo+1]? =some (.int .u8 (b1.toNat:Int)):=by rw [List.getElem?_map,hw1];rfl
 have hd2:w.drop (eo+2)=b2 :: rr:=by rw [← List.drop_drop,hl];rfl
 have hbs: ∀ vo,BsIs (H.set nx vo) (.slu r (eo+2) (rr.length+3-2)) (u8L ⟨(b2 :: rr).toArray⟩):=fun vo=>by
  have:=nq (l:=b2 :: rr) (eo:=eo+2) (hr1 vo) (by simp only [zG];omega) hd2
  exact this
 (repeat(first|refine aq ?_|refine ac ?_|refine aH ?_|refine au rfl ?_|(apply aO;exact rfl;exact rfl;exact rfl;exact rfl)))
 (apply cY;(focus(kernel_rfl));(focus(kernel_rfl)))
 (repeat(first|((apply bl;exact rfl;exact rfl;exact(fun _ h=>by cases h);exact(eU (F.un _ rfl) (F.sz _ rfl) rfl rfl (hr1 _) (by omega) (by omega) (by omega))))|((apply ju (v:= .int .u8 (b0.toNat:Int));exact rfl;exact rfl;exact rfl;exact(F.ag _ rfl);exact(hr1 _);(focus(rw [show(eo+(0:Int).toNat)*1=eo by simp];exact hv0));(focus(rw [hwl];simp))))|((apply ju (v:= .int .u8 (b1.toNat:Int));exact rfl;exact rfl;exact rfl;exact(F.ag _ rfl);exact(hr1 _);(focus(rw [show(eo+(1:Int).toNat)*1=eo+1 by simp];exact hv1));(focus(rw [hwl];simp;omega))))|(apply ua;exact rfl;exact rfl;exact rfl;exact(F.un _ rfl);exact(F.un _ rfl);exact(kX _))|(apply bl;exact rfl;exact rfl;exact(fun _ h=>by cases h);exact(fY (l:=2) (h:=rr.length+3) (F.un _ rfl) (F.sz _ rfl) rfl (hr1 _) rfl rfl (by omega) (by omega) (by omega)))|((apply ij;exact rfl;exact rfl;exact rfl;exact(F.un _ rfl);exact(F.un _ rfl);exact(F.un _ rfl);exact(hbs _)))|(apply bD;exact rfl;exact rfl;exact rfl)|(apply dF;exact rfl;exact rfl;exact(F.zl _ rfl))|(apply cQ;exact rfl;exact rfl;exact rfl;exact(F.ze _ rfl);exact(F.pl _ rfl);exact rfl)|refine oE rfl rfl rfl rfl (F.sz _ rfl) (by(repeat(exact Tr.ab _ _ _));done) rfl (by exact zn rfl) rfl ?_))
 have hbsG: ∀ H':aJ,H'.at' r=H.at' r→BsIs H' (.slu r (eo+2) (rr.length+3-2)) (u8L ⟨(b2 :: rr).toArray⟩):=fun H' h=>nq (l:=b2 :: rr) (eo:=eo+2) (h.trans hr) (by simp only [zG];omega) hd2
 (refine bZ ?_);(refine⟨by kernel_rfl,?_,?_⟩);(focus(repeat(first|exact trivial|refine⟨.inl (bJ rfl),?_⟩|refine⟨.inr ⟨0,by kernel_rfl,AllH.all (fun _=>(by first|exact bC rfl|exact d5 rfl (F.ze _ rfl) (F.pl _ rfl) rfl)) _⟩,?_⟩|refine⟨.inr ⟨0,by kernel_rfl,(by(refine⟨(by first|exact fY (l:=2) (h:=rr.length+3) (F.un _ rfl) (F.sz _ rfl) rfl (by(repeat(refine(Tr.aa _ _ (by omega)).trans ?_));exact hr) rfl rfl (by omega) (by omega) (by omega)|exact eT (F.un _ rfl) (F.un _ rfl) (F.un _ rfl) rfl (hbsG _ (by(repeat(refine(Tr.aa _ _ (by omega)).trans ?_));exact rfl))|exact eU (F.un _ rfl) (F.sz _ rfl) rfl rfl (by(repeat(refine(Tr.aa _ _ (by omega)).trans ?_));exact hr) (by omega) (by omega) (by omega)|exact aZ (v:= .sc (.int .u8 (b0.toNat:Int))) (F.ag _ rfl) rfl (by(repeat(refine(Tr.aa _ _ (by omega)).trans ?_));exact hr) (d8 (by rw [hwl];simp) (by first|exact hv0|(rw [show(eo+(0:Int).toNat)*1=eo by simp];exact hv0)))|exact aZ (v:= .sc (.int .u8 (b1.toNat:Int))) (F.ag _ rfl) rfl (by(repeat(refine(Tr.aa _ _ (by omega)).trans ?_));exact hr) (d8 (by rw [hwl];simp;omega) (by(rw [show(eo+(1:Int).toNat)*1=eo+1 by simp];exact hv1)))|exact jK (F.un _ rfl) (F.un _ rfl) rfl (kX _)),?_⟩;(repeat(refine⟨(by first|exact fY (l:=2) (h:=rr.length+3) (F.un _ rfl) (F.sz _ rfl) rfl (by(repeat(refine(Tr.aa _ _ (by omega)).trans ?_));exact hr) rfl rfl (by omega) (by omega) (by omega)|exact eT (F.un _ rfl) (F.un _ rfl) (F.un _ rfl) rfl (hbsG _ (by(repeat(refine(Tr.aa _ _ (by omega)).trans ?_));exact rfl))|exact eU (F.un _ rfl) (F.sz _ rfl) rfl rfl (by(repeat(refine(Tr.aa _ _ (by omega)).trans ?_));exact hr) (by omega) (by omega) (by omega)|exact aZ (v:= .sc (.int .u8 (b0.toNat:Int))) (F.ag _ rfl) rfl (by(repeat(refine(Tr.aa _ _ (by omega)).trans ?_));exact hr) (d8 (by rw [hwl];simp) (by first|exact hv0|(rw [show(eo+(0:Int).toNat)*1=eo by simp];exact hv0)))|exact aZ (v:= .sc (.int .u8 (b1.toNat:Int))) (F.ag _ rfl) rfl (by(repeat(refine(Tr.aa _ _ (by omega)).trans ?_));exact hr) (d8 (by rw [hwl];simp;omega) (by(rw [show(eo+(1:Int).toNat)*1=eo+1 by simp];exact hv1)))|exact jK (F.un _ rfl) (F.un _ rfl) rfl (kX _)),?_⟩));exact trivial))⟩,?_⟩)))
 cases hm2:kF (ux b0 b1 b2 rr)with
 | false=>
   (repeat(first|refine aq ?_|refine ae ?_|refine ac ?_|refine ax rfl ?_|(apply ai;exact rfl;exact rfl;exact rfl)|refine aM rfl rfl rfl rfl (F.sz _ rfl) (by(repeat(first|exact Tr.ab _ _ _|refine(Tr.aa _ _ (by omega)).trans ?_));done) rfl (by exact zn rfl) rfl ?_|refine ay rfl rfl rfl (F.ag _ rfl) (by(repeat(exact Tr.ab _ _ _));done) (by exact rfl) ?_|(apply bh;exact rfl;exact rfl;exact rfl)|(apply bc;exact rfl;exact rfl;exact rfl;exact(F.ze _ rfl);exact(F.pl _ rfl);exact rfl)|(refine aL rfl rfl rfl (by kernel_rfl) (Fnc.mono (nZ (ux b0 b1 b2 rr)) ?_);rintro _ rfl;dsimp only;rw [hm2])))
   ((apply bf Tryz.func9 (congrArg Array.toList Tryz.results9));(focus(repeat(first|exact ResIs.nil|apply ResIs.tmp rfl|apply ResIs.cell rfl (LoadIs.many (F.ag _ rfl) (by(repeat(exact Tr.ab _ _ _));done) (aw _ 0 rfl rfl))))))
   exact⟨(eZ (to hm2)).symm,by dsimp only;omega,fun m hm=>by(focus((repeat(refine(Tr.aa _ _ (by omega)).trans ?_));exact rfl))⟩
 | true=>
   (repeat(first|refine aq ?_|refine ae ?_|refine ac ?_|refine aH ?_|refine au rfl ?_|(apply ai;exact rfl;exact rfl;exact rfl)|refine aM rfl rfl rfl rfl (F.sz _ rfl) (by(repeat(first|exact Tr.ab _ _ _|refine(Tr.aa _ _ (by omega)).trans ?_));done) rfl (by exact zn rfl) rfl ?_|refine ay rfl rfl rfl (F.ag _ rfl) (by(repeat(exact Tr.ab _ _ _));done) (by exact rfl) ?_|(apply bh;exact rfl;exact rfl;exact rfl)|(refine aL rfl rfl rfl (by kernel_rfl) (Fnc.mono (nZ (ux b0 b1 b2 rr)) ?_);rintro _ rfl;dsimp only;rw [hm2])))
   ((apply bf Tryz.func9 (congrArg Array.toList Tryz.results9));(focus(repeat(first|exact ResIs.nil|apply ResIs.tmp rfl|apply ResIs.cell rfl (LoadIs.many (F.ag _ rfl) (by(repeat(exact Tr.ab _ _ _));done) (aw _ 0 rfl rfl))))))
   exact⟨(hJ (tn hm2)).symm,by dsimp only;omega,fun m hm=>by(focus((repeat(refine(Tr.aa _ _ (by omega)).trans ?_));exact rfl))⟩
def gu(a b:cO):Bool:=decide (a=b)
theorem uTd:Tryz.prog.underlying 23=some (.struct (Tryz.prog.fieldsOf 23)):=by kernel_rfl
theorem uEn:Tryz.prog.underlying 25=some (.struct (Tryz.prog.fieldsOf 25)):=by kernel_rfl
def fdsTd:List (Bool×TypeId×Nat):= [(true,3,0),(true,3,1)]
def fdsEn:List (Bool×TypeId×Nat):= [(true,9,0),(true,23,1)]
theorem fTd:(Tryz.prog.fieldsOf 23).toList.map (fun f=>(f.name != "_",f.type,f.offset))=fdsTd:=by kernel_rfl
theorem fEn:(Tryz.prog.fieldsOf 25).toList.map (fun f=>(f.name != "_",f.type,f.offset))=fdsEn:=by kernel_rfl
theorem lZ{l:List Field}{a b:TypeId}{o p:Nat}(h:l.map (fun f=>(f.name != "_",f.type,f.offset))= [(true,a,o),(true,b,p)]): ∃ f g:Field,l= [f,g]∧f.name ≠ "_" ∧f.type=a∧f.offset=o∧g.name ≠ "_" ∧g.type=b∧g.offset=p:=by
 have hl:l.length=2:=by simpa using congrArg List.length h
 rcases l with _|⟨f,_|⟨g,_|⟨x,l⟩⟩⟩
 ·simp at hl
 ·simp at hl
 ·simp only [zF,List.map_nil,List.cons.injEq,zq,and_true,bne_iff_ne] at h
  exact⟨f,g,rfl,h.1.1,h.1.2.1,h.1.2.2,h.2.1,h.2.2.1,h.2.2.2⟩
 ·simp at hl
theorem jk{P:Program}{t:TypeId}{cs:Array Value}{off:Nat}{v:Value}{k:IntKind}(hu:P.underlying t=some (.int k))(hv:cs[off]? =some v)(w:World):(part t cs off).run P w = .ok v w:=by
 simp [part,isAgg,run_underlying hu,hv]
theorem nI{P:Program}{t:TypeId}{cs:Array Value}{off:Nat}{v:Value}(hu:P.underlying t=some .string)(hv:cs[off]? =some v)(w:World):(part t cs off).run P w = .ok v w:=by
 simp [part,isAgg,run_underlying hu,hv]
theorem sM(s x y:Value)(w:World):(part 23 #[s,x,y] 1).run Tryz.prog w = .ok (.agg #[x,y]) w:=by
 obtain⟨i,hi⟩: ∃ i,Tryz.prog.info? 23=some i:=by
  have:(Tryz.prog.info? 23).isSome=true:=by kernel_rfl
  exact Option.isSome_iff_exists.1 this
 have hc:Tryz.prog.cellsOf 23=2:=by kernel_rfl
 simp [part,isAgg,run_underlying uTd,run_sizeOf w hi,hc]
theorem qa(d:Nat)(a b:Int×Int)(w:World):(Op.equalIn (d+2) 23 (.agg #[.int .i64 a.1,.int .i64 a.2]) (.agg #[.int .i64 b.1,.int .i64 b.2])).run Tryz.prog w = .ok (decide (a=b)) w:=by
 obtain⟨f,g,hl,f1,f2,f3,g1,g2,g3⟩:=lZ fTd
 have hu:Tryz.prog.underlying 3=some (.int .i64):=by kernel_rfl
 have he: ∀ (a b:Int) (w:World),(Op.equalIn (d+1) 3 (.int .i64 a) (.int .i64 b)).run Tryz.prog w = .ok (a == b) w:=fun a b w=>run_equalIn_int w d _ .i64 .i64 a b hu
 rw [show d+2=(d+1)+1 from rfl,run_equalIn_struct w (d+1) _ _ _ uTd (by kernel_rfl),hl]
 simp only [Op.eqFields,if_pos f1,if_pos g1,f2,f3,g2,g3,Sem.run_bind,jk hu (cs:= #[.int .i64 a.1,.int .i64 a.2]) (off:=0) (v:= .int .i64 a.1) rfl,jk hu (cs:= #[.int .i64 b.1,.int .i64 b.2]) (off:=0) (v:= .int .i64 b.1) rfl,Result.andThen_ok]
 rw [he]
 simp only [Result.andThen_ok]
 obtain⟨a1,a2⟩:=a
 obtain⟨b1,b2⟩:=b
 simp only
 by_cases h1:a1=b1
 ·rw [show(a1 == b1)=true by simpa using h1]
  simp only [Bool.not_true,Bool.false_eq_true,if_false,Sem.run_bind,jk hu (cs:= #[.int .i64 a1,.int .i64 a2]) (off:=1) (v:= .int .i64 a2) rfl,jk hu (cs:= #[.int .i64 b1,.int .i64 b2]) (off:=1) (v:= .int .i64 b2) rfl,Result.andThen_ok]
  rw [he]
  simp only [Result.andThen_ok]
  by_cases h2:a2=b2
  ·rw [show(a2 == b2)=true by simpa using h2]
   simp [h1,h2]
  ·rw [show(a2 == b2)=false by simpa using h2]
   simp [h1,h2]
 ·rw [show(a1 == b1)=false by simpa using h1]
  simp [h1]
theorem qb(a b:cO)(w:World):(Op.equalIn 10000 25 (.agg #[.string a.1,.int .i64 a.2.1,.int .i64 a.2.2]) (.agg #[.string b.1,.int .i64 b.2.1,.int .i64 b.2.2])).run Tryz.prog w = .ok (gu a b) w:=by
 obtain⟨f,g,hl,f1,f2,f3,g1,g2,g3⟩:=lZ fEn
 have hu:Tryz.prog.underlying 9=some .string:=by kernel_rfl
 rw [show(10000:Nat)=9999+1 from rfl,run_equalIn_struct w 9999 _ _ _ uEn (by kernel_rfl),hl]
 simp only [Op.eqFields,if_pos f1,if_pos g1,f2,f3,g2,g3,Sem.run_bind,nI hu (cs:= #[.string a.1,.int .i64 a.2.1,.int .i64 a.2.2]) (off:=0) (v:= .string a.1) rfl,nI hu (cs:= #[.string b.1,.int .i64 b.2.1,.int .i64 b.2.2]) (off:=0) (v:= .string b.1) rfl,Result.andThen_ok]
 rw [show(9999:Nat)=9998+1 from rfl,run_equalIn_string (w:=w) 9998 _ _ _ hu,oP]
 simp only [Result.andThen_ok]
 obtain⟨a1,a2⟩:=a
 obtain⟨b1,b2⟩:=b
 simp only
 by_cases h1:a1=b1
 ·rw [decide_eq_true h1]
  simp only [Bool.not_true,Bool.false_eq_true,if_false,Sem.run_bind,sM,Result.andThen_ok]
  rw [show(9998+1:Nat)=9997+2 from rfl,qa 9997 a2 b2]
  simp only [Result.andThen_ok]
  by_cases h2:a2=b2 <;> simp [h1,h2,gu]
 ·rw [decide_eq_false h1]
  simp [h1,gu]
section
variable {H:aJ} {T:Tr SV} {nx:Nat}
variable {d:Option Tmp} {ty:TypeId} {pos:String} {af:Array Edge} {gd:Option (Nat×Bool)}
theorem nl{e:Env}{a:cO}{v:Value}(h:(eO a).conc e=some v):v = .agg #[.string a.1,.int .i64 a.2.1,.int .i64 a.2.2]:=by
 simpa [eO,SV.conc,SV.aQ] using h.symm
theorem mJ{x y:Operand}{yt:TypeId}{a b:cO}{r:Bool}(hr:gu a b=r)(hx:am T x=some (eO a))(hy:am T y=some (eO b)):ReadDoes Tryz.prog T H ⟨d,.binOp .eql 25 x y yt,ty,pos,af,gd⟩ (.sc (.bool r)):=by
 subst hr
 intro K w0 e nx w ev hS hE
 refine⟨_,rfl,?_⟩
 have e1:=nl (hE x _ hx)
 have e2:=nl (hE y _ hy)
 simp [execOp,e1,e2,run_eqGuard_agg (P:=Tryz.prog) w .eql 25 x y _ _ (by kernel_rfl),run_eql_struct,qb]
theorem di{x y:Operand}{yt:TypeId}{a b:cO}{r:Bool}(hr:gu a b=r)(hx:am T x=some (eO a))(hy:am T y=some (eO b)):ReadDoes Tryz.prog T H ⟨d,.binOp .neq 25 x y yt,ty,pos,af,gd⟩ (.sc (.bool (!r))):=by
 subst hr
 intro K w0 e nx w ev hS hE
 refine⟨_,rfl,?_⟩
 have e1:=nl (hE x _ hx)
 have e2:=nl (hE y _ hy)
 simp [execOp,e1,e2,run_eqGuard_agg (P:=Tryz.prog) w .neq 25 x y _ _ (by kernel_rfl),run_neq_struct,qb]
end
section
variable {ro:Option Nat} {fn nt nx i:Nat} {T:Tr SV} {k:List AIt} {dfs:List ADf} {H:aJ} {Q:Pst} {ops:Array Oper} {l:List Oper} {ty:TypeId} {pos:String} {af:Array Edge} {gd:Option (Nat×Bool)}
theorem sw{x y:Operand}{yt:TypeId}{a b:cO}{r:Bool}{dd:Nat}(hw:ar T ops ⟨some dd,.binOp .eql 25 x y yt,ty,pos,af,gd⟩=some true)(hd:Nat.blt dd nt=true)(hr:gu a b=r)(hx:am T x=some (eO a))(hy:am T y=some (eO b))
 (h:Wp Tryz.prog ro ⟨fn,nt,T.set dd (.sc (.bool r)),.inReg ops (i+1) l :: k,dfs,H,nx⟩ Q):Wp Tryz.prog ro ⟨fn,nt,T,.inReg ops i (⟨some dd,.binOp .eql 25 x y yt,ty,pos,af,gd⟩ :: l) :: k,dfs,H,nx⟩ Q:=
 bK hw (.inr (fun _ h=>by cases h)) ((mJ hr hx hy).does) (by rw [aC hd];exact h)
theorem sk{x y:Operand}{yt:TypeId}{a b:cO}{r:Bool}{dd:Nat}(hw:ar T ops ⟨some dd,.binOp .neq 25 x y yt,ty,pos,af,gd⟩=some true)(hd:Nat.blt dd nt=true)(hr:gu a b=r)(hx:am T x=some (eO a))(hy:am T y=some (eO b))
 (h:Wp Tryz.prog ro ⟨fn,nt,T.set dd (.sc (.bool (!r))),.inReg ops (i+1) l :: k,dfs,H,nx⟩ Q):Wp Tryz.prog ro ⟨fn,nt,T,.inReg ops i (⟨some dd,.binOp .neq 25 x y yt,ty,pos,af,gd⟩ :: l) :: k,dfs,H,nx⟩ Q:=
 bK hw (.inr (fun _ h=>by cases h)) ((di hr hx hy).does) (by rw [aC hd];exact h)
end
end Go.Proofs.YtjjgjjlgchidlaaGreat
end
section
namespace Go.Proofs.YtjjgjjlgchidlaaGreat
namespace Bn
open Go Go.Sy
abbrev El:=Int×cO
abbrev elV(x:El):List Value:= [.int .i64 x.1,.string x.2.1,.int .i64 x.2.2.1,.int .i64 x.2.2.2]
abbrev elS(x:El):SV:= .agg ((elV x).map .sc)
abbrev rowP(n:Nat)(d:Array El):VO:=arr false n 4 98 elV d
theorem recP:RecOf elV 4:=⟨fun _=>rfl,fun a v hv=>by
 simp only [elV,List.mem_cons,List.not_mem_nil,or_false] at hv
 rcases hv with rfl|rfl|rfl|rfl <;> rfl⟩
def ordP(y x:El):Int:=x7 x.2 y.2
def ltP(x y:El):Bool:=decide (ordP y x<0)
abbrev cmpF:SV:= .fn (.func 66) [] []
theorem c8{A:Type} [Inhabited A](d:Array A)(i j:Nat):(Sort.swp d i j).size=d.size:=by simp [Sort.swp]
theorem cmp_spec(a b:El):Ctr Tryz.prog 66 [elS a,elS b] [] (fun c=>c=⟨.sc (.int .i64 (ordP b a)),[]⟩):=by
 refine Ctr.at 0 rfl ?_
 refine Fnc.start Tryz.func66 rfl rfl ?_
 (repeat(first|refine aq ?_|refine ae ?_|refine ac ?_|refine aI ?_|refine aB ?_|refine aH ?_|refine bv ?_|refine bu ?_|refine a8 ?_|refine a9 rfl ?_|refine ax rfl ?_|refine au rfl ?_|refine ce rfl ?_|refine aj rfl rfl rfl ?_|refine ai rfl rfl rfl ?_|refine aX rfl rfl rfl rfl ?_|refine aO rfl rfl rfl rfl ?_|refine aD rfl rfl rfl rfl ?_|refine aU rfl rfl rfl ?_|refine aS rfl rfl rfl ?_|refine aR rfl rfl rfl ?_|refine ap rfl rfl rfl (F.fo _ _ rfl rfl) ?_|refine aN rfl rfl rfl rfl ?_|refine bT rfl ?_|refine bS rfl rfl rfl rfl ?_|refine ck rfl rfl ?_|refine cw rfl rfl rfl rfl (F.un _ rfl) rfl ?_|refine da rfl rfl rfl rfl (F.un _ rfl) rfl ?_|refine db rfl rfl rfl rfl rfl (F.un _ rfl) rfl ?_|refine c9 rfl rfl rfl rfl rfl (F.un _ rfl) rfl ?_|refine aM rfl rfl rfl rfl (F.sz _ rfl) (by first|exact rfl|(focus((repeat(first|assumption|exact Tr.ab _ _ _|refine(Tr.aa _ _ (by omega)).trans ?_|refine(Tr.ah _ (by omega)).trans ?_));done))) rfl (by exact zn rfl) rfl ?_|refine an rfl rfl rfl (F.ag _ rfl) rfl rfl ?_|refine ay rfl rfl rfl (F.ag _ rfl) rfl rfl ?_|refine aP rfl rfl (F.zl _ rfl) ?_|refine bj rfl rfl rfl ?_|refine cJ rfl rfl rfl rfl ?_|refine aK rfl rfl rfl (F.sz _ rfl) rfl rfl rfl ?_|refine aE rfl rfl rfl (F.sz _ rfl) rfl rfl (by decide) rfl rfl ?_|refine an rfl rfl rfl (F.ag _ rfl) (by(repeat(first|assumption|exact Tr.ab _ _ _|refine(Tr.aa _ _ (by omega)).trans ?_|refine(Tr.ah _ (by omega)).trans ?_));done) (by exact rfl) ?_|refine ay rfl rfl rfl (F.ag _ rfl) (by(repeat(first|assumption|exact Tr.ab _ _ _|refine(Tr.aa _ _ (by omega)).trans ?_|refine(Tr.ah _ (by omega)).trans ?_));done) (by exact rfl) ?_|refine aK rfl rfl rfl (F.sz _ rfl) (by(repeat(first|assumption|exact Tr.ab _ _ _|refine(Tr.aa _ _ (by omega)).trans ?_|refine(Tr.ah _ (by omega)).trans ?_));done) (by exact rfl) (by exact rfl) ?_|refine aE rfl rfl rfl (F.sz _ rfl) (by(repeat(first|assumption|exact Tr.ab _ _ _|refine(Tr.aa _ _ (by omega)).trans ?_|refine(Tr.ah _ (by omega)).trans ?_));done) rfl (by exact zn rfl) rfl (by exact rfl) ?_|refine a6 rfl rfl rfl (F.un _ rfl) ?_|refine be rfl rfl rfl (F.un _ rfl) ?_|refine bn rfl rfl rfl rfl (by omega) (by omega) ?_|refine cv rfl rfl rfl rfl (by omega) (by omega) ?_|refine cF rfl rfl rfl rfl (by omega) (by omega) ?_|refine bh rfl rfl rfl ?_|refine cV rfl rfl rfl rfl (by omega) (by omega) (by omega) ?_|refine bc rfl rfl rfl (F.ze _ rfl) (F.pl _ rfl) rfl ?_|fail|(refine fv rfl rfl rfl (F.ag _ rfl) rfl (aw 3 1 rfl rfl) ?_)|refine fc (jN a.2 b.2) [] rfl rfl rfl (by kernel_rfl) rfl (ExtOk.of rfl) rfl trivial ?_|fail))
 (apply bf Tryz.func66 (congrArg Array.toList Tryz.results66);(focus(repeat(first|exact ResIs.nil|apply ResIs.tmp rfl|apply ResIs.cell rfl (LoadIs.one (F.ag _ rfl) rfl (aW rfl))|apply ResIs.cell rfl (LoadIs.many (F.ag _ rfl) rfl (aw _ 0 rfl rfl))))))
 (refine⟨_,rfl,Ends.val (ExtOk.of rfl) rfl ?_ ?_⟩)
 ·rfl
 ·trivial
theorem mW(n a b:Nat)(d:Array El)(hn:n<4611686018427387904)(hd:d.size=n)(hab:a≤b)(hb:b≤n) :
 Ctr Tryz.prog 103 [.slu 0 0 n,.sc (.int .i64 (a:Int)),.sc (.int .i64 (b:Int)),cmpF] [rowP n d] (fun c=>c=⟨.tup [],[some (rowP n (Sort.insertionSort ltP d a b))]⟩):=by
 refine Fnc.start Tryz.func103 rfl rfl ?_
 (repeat(first|refine aq ?_|refine ae ?_|refine ac ?_|refine aI ?_|refine aB ?_|refine aH ?_|refine bv ?_|refine bu ?_|refine a8 ?_|refine a9 rfl ?_|refine ax rfl ?_|refine au rfl ?_|refine ce rfl ?_|refine aj rfl rfl rfl ?_|refine ai rfl rfl rfl ?_|refine aX rfl rfl rfl rfl ?_|refine aO rfl rfl rfl rfl ?_|refine aD rfl rfl rfl rfl ?_|refine aU rfl rfl rfl ?_|refine aS rfl rfl rfl ?_|refine aR rfl rfl rfl ?_|refine ap rfl rfl rfl (F.fo _ _ rfl rfl) ?_|refine aN rfl rfl rfl rfl ?_|refine bT rfl ?_|refine an rfl rfl rfl (F.ag _ rfl) rfl rfl ?_|refine ay rfl rfl rfl (F.ag _ rfl) rfl rfl ?_|refine aP rfl rfl (F.zl _ rfl) ?_|refine bj rfl rfl rfl ?_|refine cJ rfl rfl rfl rfl ?_|refine aK rfl rfl rfl (F.sz _ rfl) rfl rfl rfl ?_|refine aE rfl rfl rfl (F.sz _ rfl) rfl rfl (by decide) rfl rfl ?_|refine a6 rfl rfl rfl (F.un _ rfl) ?_|refine be rfl rfl rfl (F.un _ rfl) ?_|refine bn rfl rfl rfl rfl (by omega) (by omega) ?_|refine cv rfl rfl rfl rfl (by omega) (by omega) ?_|refine cF rfl rfl rfl rfl (by omega) (by omega) ?_|refine bh rfl rfl rfl ?_|refine cV rfl rfl rfl rfl (by omega) (by omega) (by omega) ?_|refine bc rfl rfl rfl (F.ze _ rfl) (F.pl _ rfl) rfl ?_))
 refine mz 1 (fun s:Nat×Array El=> [(0,.slu 0 0 n),(1,.sc (.int .i64 (a:Int))),(2,.sc (.int .i64 (b:Int))),(3,cmpF),(8,.sc (.int .i64 (s.1:Int)))]) (fun s=> [some (rowP n s.2)]) (fun s=>s.1≤n+1∧a<s.1∧s.2.size=n∧Sort.insOuter ltP a b s.1 s.2=Sort.insertionSort ltP d a b) (fun s=>n+1-s.1) (a+1,d) []
  (fun _=>rfl) ⟨by omega,by omega,hd,rfl⟩ ?_ (fun _=>rfl) (fun _=>rfl) ?_
 ·(refine⟨(ExtOk.of rfl),rfl,(by repeat(first|exact trivial|refine⟨rfl,?_⟩|refine⟨lP (by first|omega|(simp only;omega)),?_⟩|fail)),(by repeat(first|exact trivial|refine⟨rfl,?_⟩|refine⟨c7 rfl,?_⟩|refine⟨gt rfl,?_⟩))⟩)
 rintro⟨i,d1⟩ ⟨hi,hai,hd1,ho⟩ ih
 simp only at hi hai hd1 ho ih ⊢
 (repeat(first|refine aq ?_|refine ae ?_|refine ac ?_|refine aI ?_|refine aB ?_|refine aH ?_|refine bv ?_|refine bu ?_|refine a8 ?_|refine a9 rfl ?_|refine ax rfl ?_|refine au rfl ?_|refine ce rfl ?_|refine aj rfl rfl rfl ?_|refine ai rfl rfl rfl ?_|refine aX rfl rfl rfl rfl ?_|refine aO rfl rfl rfl rfl ?_|refine aD rfl rfl rfl rfl ?_|refine aU rfl rfl rfl ?_|refine aS rfl rfl rfl ?_|refine aR rfl rfl rfl ?_|refine ap rfl rfl rfl (F.fo _ _ rfl rfl) ?_|refine aN rfl rfl rfl rfl ?_|refine bT rfl ?_|refine an rfl rfl rfl (F.ag _ rfl) rfl rfl ?_|refine ay rfl rfl rfl (F.ag _ rfl) rfl rfl ?_|refine aP rfl rfl (F.zl _ rfl) ?_|refine bj rfl rfl rfl ?_|refine cJ rfl rfl rfl rfl ?_|refine aK rfl rfl rfl (F.sz _ rfl) rfl rfl rfl ?_|refine aE rfl rfl rfl (F.sz _ rfl) rfl rfl (by decide) rfl rfl ?_|refine a6 rfl rfl rfl (F.un _ rfl) ?_|refine be rfl rfl rfl (F.un _ rfl) ?_|refine bn rfl rfl rfl rfl (by omega) (by omega) ?_|refine cv rfl rfl rfl rfl (by omega) (by omega) ?_|refine cF rfl rfl rfl rfl (by omega) (by omega) ?_|refine bh rfl rfl rfl ?_|refine cV rfl rfl rfl rfl (by omega) (by omega) (by omega) ?_|refine bc rfl rfl rfl (F.ze _ rfl) (F.pl _ rfl) rfl ?_))
 refine bR rfl rfl rfl rfl ?_ ?_
 all_goals intro h1
 ·(repeat(first|refine aq ?_|refine ae ?_|refine ac ?_|refine aI ?_|refine aB ?_|refine aH ?_|refine bv ?_|refine bu ?_|refine a8 ?_|refine a9 rfl ?_|refine ax rfl ?_|refine au rfl ?_|refine ce rfl ?_|refine aj rfl rfl rfl ?_|refine ai rfl rfl rfl ?_|refine aX rfl rfl rfl rfl ?_|refine aO rfl rfl rfl rfl ?_|refine aD rfl rfl rfl rfl ?_|refine aU rfl rfl rfl ?_|refine aS rfl rfl rfl ?_|refine aR rfl rfl rfl ?_|refine ap rfl rfl rfl (F.fo _ _ rfl rfl) ?_|refine aN rfl rfl rfl rfl ?_|refine bT rfl ?_|refine an rfl rfl rfl (F.ag _ rfl) rfl rfl ?_|refine ay rfl rfl rfl (F.ag _ rfl) rfl rfl ?_|refine aP rfl rfl (F.zl _ rfl) ?_|refine bj rfl rfl rfl ?_|refine cJ rfl rfl rfl rfl ?_|refine aK rfl rfl rfl (F.sz _ rfl) rfl rfl rfl ?_|refine aE rfl rfl rfl (F.sz _ rfl) rfl rfl (by decide) rfl rfl ?_|refine a6 rfl rfl rfl (F.un _ rfl) ?_|refine be rfl rfl rfl (F.un _ rfl) ?_|refine bn rfl rfl rfl rfl (by omega) (by omega) ?_|refine cv rfl rfl rfl rfl (by omega) (by omega) ?_|refine cF rfl rfl rfl rfl (by omega) (by omega) ?_|refine bh rfl rfl rfl ?_|refine cV rfl rfl rfl rfl (by omega) (by omega) (by omega) ?_|refine bc rfl rfl rfl (F.ze _ rfl) (F.pl _ rfl) rfl ?_))
  have ho2:Sort.insOuter ltP a b (i+1) (Sort.insInner ltP a i d1)=Sort.insertionSort ltP d a b:=by
   rw [← ho]
   conv=>rhs;rw [Sort.insOuter,if_pos (by omega)]
  refine mz 1 (fun s:Nat×Array El=> [(0,.slu 0 0 n),(1,.sc (.int .i64 (a:Int))),(2,.sc (.int .i64 (b:Int))),(3,cmpF),(8,.sc (.int .i64 (i:Int))),(9,.sc (.int .i64 (s.1:Int)))]) (fun s=> [some (rowP n s.2)]) (fun s=>s.1≤i∧s.2.size=n∧Sort.insInner ltP a s.1 s.2=Sort.insInner ltP a i d1) (fun s=>s.1) (i,d1) []
   (fun _=>rfl) ⟨by omega,hd1,rfl⟩ ?_ (fun _=>rfl) (fun _=>rfl) ?_
  ·(refine⟨(ExtOk.of rfl),rfl,(by repeat(first|exact trivial|refine⟨rfl,?_⟩|refine⟨lP (by first|omega|(simp only;omega)),?_⟩|fail)),(by repeat(first|exact trivial|refine⟨rfl,?_⟩|refine⟨c7 rfl,?_⟩|refine⟨gt rfl,?_⟩))⟩)
  rintro⟨j,d2⟩ ⟨hj,hd2,hin⟩ ihj
  simp only at hj hd2 hin ihj ⊢
  (repeat(first|refine aq ?_|refine ae ?_|refine ac ?_|refine aI ?_|refine aB ?_|refine aH ?_|refine bv ?_|refine bu ?_|refine a8 ?_|refine a9 rfl ?_|refine ax rfl ?_|refine au rfl ?_|refine ce rfl ?_|refine aj rfl rfl rfl ?_|refine ai rfl rfl rfl ?_|refine aX rfl rfl rfl rfl ?_|refine aO rfl rfl rfl rfl ?_|refine aD rfl rfl rfl rfl ?_|refine aU rfl rfl rfl ?_|refine aS rfl rfl rfl ?_|refine aR rfl rfl rfl ?_|refine ap rfl rfl rfl (F.fo _ _ rfl rfl) ?_|refine aN rfl rfl rfl rfl ?_|refine bT rfl ?_|refine an rfl rfl rfl (F.ag _ rfl) rfl rfl ?_|refine ay rfl rfl rfl (F.ag _ rfl) rfl rfl ?_|refine aP rfl rfl (F.zl _ rfl) ?_|refine bj rfl rfl rfl ?_|refine cJ rfl rfl rfl rfl ?_|refine aK rfl rfl rfl (F.sz _ rfl) rfl rfl rfl ?_|refine aE rfl rfl rfl (F.sz _ rfl) rfl rfl (by decide) rfl rfl ?_|refine a6 rfl rfl rfl (F.un _ rfl) ?_|refine be rfl rfl rfl (F.un _ rfl) ?_|refine bn rfl rfl rfl rfl (by omega) (by omega) ?_|refine cv rfl rfl rfl rfl (by omega) (by omega) ?_|refine cF rfl rfl rfl rfl (by omega) (by omega) ?_|refine bh rfl rfl rfl ?_|refine cV rfl rfl rfl rfl (by omega) (by omega) (by omega) ?_|refine bc rfl rfl rfl (F.ze _ rfl) (F.pl _ rfl) rfl ?_))
  refine lY (by kernel_rfl) (by kernel_rfl) ?_
  (repeat(first|refine bD rfl rfl rfl ?_|refine bY rfl rfl rfl ?_|refine bP rfl rfl rfl rfl ?_|refine cp rfl rfl rfl rfl ?_|refine cU rfl rfl rfl rfl ?_|refine bX rfl rfl rfl ?_|refine cu rfl rfl rfl ?_|refine ct rfl rfl rfl ?_|refine bm rfl rfl rfl (F.fo _ _ rfl rfl) ?_|refine cx rfl rfl rfl rfl ?_|refine bx rfl rfl rfl (F.ag _ rfl) rfl rfl ?_|refine bI rfl rfl rfl (F.ag _ rfl) rfl rfl ?_|refine dF rfl rfl (F.zl _ rfl) ?_|refine eP rfl rfl rfl ?_|refine gr rfl rfl rfl rfl ?_|refine bO rfl rfl rfl (F.sz _ rfl) rfl rfl rfl ?_|refine cW rfl rfl rfl (F.sz _ rfl) rfl rfl (by decide) rfl rfl ?_|refine d7 rfl rfl rfl (F.un _ rfl) ?_|refine dx rfl rfl rfl (F.un _ rfl) ?_|refine fJ rfl rfl rfl rfl (by omega) (by omega) ?_|refine eS rfl rfl rfl rfl (by omega) (by omega) ?_|refine gq rfl rfl rfl rfl (by omega) (by omega) ?_|refine dS rfl rfl rfl ?_|refine gp rfl rfl rfl rfl (by omega) (by omega) (by omega) ?_|refine cQ rfl rfl rfl (F.ze _ rfl) (F.pl _ rfl) rfl ?_|refine cZ rfl rfl ?_))
  refine lD rfl rfl rfl rfl ?_ ?_
  all_goals intro h2
  ·obtain⟨j,rfl⟩: ∃ j',j=j'+1:=⟨j-1,by omega⟩
   (repeat(first|refine bD rfl rfl rfl ?_|refine bY rfl rfl rfl ?_|refine bP rfl rfl rfl rfl ?_|refine cp rfl rfl rfl rfl ?_|refine cU rfl rfl rfl rfl ?_|refine bX rfl rfl rfl ?_|refine cu rfl rfl rfl ?_|refine ct rfl rfl rfl ?_|refine bm rfl rfl rfl (F.fo _ _ rfl rfl) ?_|refine cx rfl rfl rfl rfl ?_|refine bx rfl rfl rfl (F.ag _ rfl) rfl rfl ?_|refine bI rfl rfl rfl (F.ag _ rfl) rfl rfl ?_|refine dF rfl rfl (F.zl _ rfl) ?_|refine eP rfl rfl rfl ?_|refine gr rfl rfl rfl rfl ?_|refine bO rfl rfl rfl (F.sz _ rfl) rfl rfl rfl ?_|refine cW rfl rfl rfl (F.sz _ rfl) rfl rfl (by decide) rfl rfl ?_|refine d7 rfl rfl rfl (F.un _ rfl) ?_|refine dx rfl rfl rfl (F.un _ rfl) ?_|refine fJ rfl rfl rfl rfl (by omega) (by omega) ?_|refine eS rfl rfl rfl rfl (by omega) (by omega) ?_|refine gq rfl rfl rfl rfl (by omega) (by omega) ?_|refine dS rfl rfl rfl ?_|refine gp rfl rfl rfl rfl (by omega) (by omega) (by omega) ?_|refine cQ rfl rfl rfl (F.ze _ rfl) (F.pl _ rfl) rfl ?_|refine cZ rfl rfl ?_|refine dK (q:=j+1) rfl rfl rfl rfl (F.un _ rfl) (F.sz _ rfl) rfl (by omega) (by omega) (by omega) ?_|refine dK (q:=j) rfl rfl rfl rfl (F.un _ rfl) (F.sz _ rfl) rfl (by omega) (by omega) (by omega) ?_|refine oG rfl rfl rfl (F.ag _ rfl) (recP) rfl (by first|omega|(simp only [zj,c8];omega)) (by first|omega|(simp only [zj,c8];omega)) ?_|refine ng rfl rfl rfl rfl (by kernel_rfl) rfl (Ctr.callV (cmp_spec d2[j+1]! d2[j]!) [] rfl (ExtOk.of rfl) rfl trivial rfl) ?_))
   refine t9 rfl rfl rfl rfl ?_ ?_
   all_goals intro h3
   ·(repeat(first|refine bD rfl rfl rfl ?_|refine bY rfl rfl rfl ?_|refine bP rfl rfl rfl rfl ?_|refine cp rfl rfl rfl rfl ?_|refine cU rfl rfl rfl rfl ?_|refine bX rfl rfl rfl ?_|refine cu rfl rfl rfl ?_|refine ct rfl rfl rfl ?_|refine bm rfl rfl rfl (F.fo _ _ rfl rfl) ?_|refine cx rfl rfl rfl rfl ?_|refine bx rfl rfl rfl (F.ag _ rfl) rfl rfl ?_|refine bI rfl rfl rfl (F.ag _ rfl) rfl rfl ?_|refine dF rfl rfl (F.zl _ rfl) ?_|refine eP rfl rfl rfl ?_|refine gr rfl rfl rfl rfl ?_|refine bO rfl rfl rfl (F.sz _ rfl) rfl rfl rfl ?_|refine cW rfl rfl rfl (F.sz _ rfl) rfl rfl (by decide) rfl rfl ?_|refine d7 rfl rfl rfl (F.un _ rfl) ?_|refine dx rfl rfl rfl (F.un _ rfl) ?_|refine fJ rfl rfl rfl rfl (by omega) (by omega) ?_|refine eS rfl rfl rfl rfl (by omega) (by omega) ?_|refine gq rfl rfl rfl rfl (by omega) (by omega) ?_|refine dS rfl rfl rfl ?_|refine gp rfl rfl rfl rfl (by omega) (by omega) (by omega) ?_|refine cQ rfl rfl rfl (F.ze _ rfl) (F.pl _ rfl) rfl ?_|refine cZ rfl rfl ?_))
    (refine bZ ?_);(refine⟨by kernel_rfl,?_,?_⟩);(focus(repeat(first|exact trivial|refine⟨.inl rfl,?_⟩|refine⟨.inr (by(repeat(refine⟨(by first|exact fq rfl|exact cH rfl rfl (.inr (.inr (.inr (.inr (.inl ⟨rfl,rfl⟩)))))|exact eL (F.un _ rfl) (F.sz _ rfl) rfl rfl rfl (by omega) (by omega) (by omega)|exact bU rfl rfl (.inl ⟨rfl,(zi _ ⟨by omega,by omega⟩).symm⟩)|exact bU rfl rfl (.inr (.inl ⟨rfl,(zi _ ⟨by omega,by omega⟩).symm⟩))|exact bw (F.fo _ _ rfl rfl) rfl|exact bC rfl|exact ch rfl|exact aZ (F.ag _ rfl) rfl rfl (aW rfl)|exact bg (F.ag _ rfl) rfl rfl (aw _ 0 rfl rfl)|exact dz rfl rfl|exact ek (F.un _ rfl) rfl|exact dU (F.un _ rfl) rfl|exact cj rfl|exact ci rfl rfl|exact cC rfl rfl),?_⟩));exact trivial),?_⟩|refine⟨.inl (by kernel_rfl),?_⟩)))
    (repeat(first|refine aq ?_|refine ae ?_|refine ac ?_|refine aI ?_|refine aB ?_|refine aH ?_|refine bv ?_|refine bu ?_|refine a8 ?_|refine a9 rfl ?_|refine ax rfl ?_|refine au rfl ?_|refine ce rfl ?_|refine aj rfl rfl rfl ?_|refine ai rfl rfl rfl ?_|refine aX rfl rfl rfl rfl ?_|refine aO rfl rfl rfl rfl ?_|refine aD rfl rfl rfl rfl ?_|refine aU rfl rfl rfl ?_|refine aS rfl rfl rfl ?_|refine aR rfl rfl rfl ?_|refine ap rfl rfl rfl (F.fo _ _ rfl rfl) ?_|refine aN rfl rfl rfl rfl ?_|refine bT rfl ?_|refine an rfl rfl rfl (F.ag _ rfl) rfl rfl ?_|refine ay rfl rfl rfl (F.ag _ rfl) rfl rfl ?_|refine aP rfl rfl (F.zl _ rfl) ?_|refine bj rfl rfl rfl ?_|refine cJ rfl rfl rfl rfl ?_|refine aK rfl rfl rfl (F.sz _ rfl) rfl rfl rfl ?_|refine aE rfl rfl rfl (F.sz _ rfl) rfl rfl (by decide) rfl rfl ?_|refine a6 rfl rfl rfl (F.un _ rfl) ?_|refine be rfl rfl rfl (F.un _ rfl) ?_|refine bn rfl rfl rfl rfl (by omega) (by omega) ?_|refine cv rfl rfl rfl rfl (by omega) (by omega) ?_|refine cF rfl rfl rfl rfl (by omega) (by omega) ?_|refine bh rfl rfl rfl ?_|refine cV rfl rfl rfl rfl (by omega) (by omega) (by omega) ?_|refine bc rfl rfl rfl (F.ze _ rfl) (F.pl _ rfl) rfl ?_))
    refine lY (by kernel_rfl) (by kernel_rfl) ?_
    (repeat(first|refine bD rfl rfl rfl ?_|refine bY rfl rfl rfl ?_|refine bP rfl rfl rfl rfl ?_|refine cp rfl rfl rfl rfl ?_|refine cU rfl rfl rfl rfl ?_|refine bX rfl rfl rfl ?_|refine cu rfl rfl rfl ?_|refine ct rfl rfl rfl ?_|refine bm rfl rfl rfl (F.fo _ _ rfl rfl) ?_|refine cx rfl rfl rfl rfl ?_|refine bx rfl rfl rfl (F.ag _ rfl) rfl rfl ?_|refine bI rfl rfl rfl (F.ag _ rfl) rfl rfl ?_|refine dF rfl rfl (F.zl _ rfl) ?_|refine eP rfl rfl rfl ?_|refine gr rfl rfl rfl rfl ?_|refine bO rfl rfl rfl (F.sz _ rfl) rfl rfl rfl ?_|refine cW rfl rfl rfl (F.sz _ rfl) rfl rfl (by decide) rfl rfl ?_|refine d7 rfl rfl rfl (F.un _ rfl) ?_|refine dx rfl rfl rfl (F.un _ rfl) ?_|refine fJ rfl rfl rfl rfl (by omega) (by omega) ?_|refine eS rfl rfl rfl rfl (by omega) (by omega) ?_|refine gq rfl rfl rfl rfl (by omega) (by omega) ?_|refine dS rfl rfl rfl ?_|refine gp rfl rfl rfl rfl (by omega) (by omega) (by omega) ?_|refine cQ rfl rfl rfl (F.ze _ rfl) (F.pl _ rfl) rfl ?_|refine cZ rfl rfl ?_|refine dK (q:=j+1) rfl rfl rfl rfl (F.un _ rfl) (F.sz _ rfl) rfl (by omega) (by omega) (by omega) ?_|refine dK (q:=j) rfl rfl rfl rfl (F.un _ rfl) (F.sz _ rfl) rfl (by omega) (by omega) (by omega) ?_|refine oG rfl rfl rfl (F.ag _ rfl) (recP) rfl (by first|omega|(simp only [zj,c8];omega)) (by first|omega|(simp only [zj,c8];omega)) ?_|refine wy rfl rfl rfl (recP) (F.sz _ rfl) rfl (by first|omega|(simp only [zj,c8];omega)) (by first|omega|(simp only [zj,c8];omega)) ?_))
    (refine bZ ?_);(refine⟨by kernel_rfl,?_,?_⟩);(focus(repeat(first|exact trivial|refine⟨.inl rfl,?_⟩|refine⟨.inr (by(repeat(refine⟨(by first|exact fq rfl|exact cH rfl rfl (.inr (.inr (.inr (.inr (.inl ⟨rfl,rfl⟩)))))|exact eL (F.un _ rfl) (F.sz _ rfl) rfl rfl rfl (by omega) (by omega) (by omega)|exact bU rfl rfl (.inl ⟨rfl,(zi _ ⟨by omega,by omega⟩).symm⟩)|exact bU rfl rfl (.inr (.inl ⟨rfl,(zi _ ⟨by omega,by omega⟩).symm⟩))|exact bw (F.fo _ _ rfl rfl) rfl|exact bC rfl|exact ch rfl|exact aZ (F.ag _ rfl) rfl rfl (aW rfl)|exact bg (F.ag _ rfl) rfl rfl (aw _ 0 rfl rfl)|exact dz rfl rfl|exact ek (F.un _ rfl) rfl|exact dU (F.un _ rfl) rfl|exact cj rfl|exact ci rfl rfl|exact cC rfl rfl),?_⟩));exact trivial),?_⟩|refine⟨.inl (by kernel_rfl),?_⟩)))
    (repeat(first|refine aq ?_|refine ae ?_|refine ac ?_|refine aI ?_|refine aB ?_|refine aH ?_|refine bv ?_|refine bu ?_|refine a8 ?_|refine a9 rfl ?_|refine ax rfl ?_|refine au rfl ?_|refine ce rfl ?_|refine aj rfl rfl rfl ?_|refine ai rfl rfl rfl ?_|refine aX rfl rfl rfl rfl ?_|refine aO rfl rfl rfl rfl ?_|refine aD rfl rfl rfl rfl ?_|refine aU rfl rfl rfl ?_|refine aS rfl rfl rfl ?_|refine aR rfl rfl rfl ?_|refine ap rfl rfl rfl (F.fo _ _ rfl rfl) ?_|refine aN rfl rfl rfl rfl ?_|refine bT rfl ?_|refine an rfl rfl rfl (F.ag _ rfl) rfl rfl ?_|refine ay rfl rfl rfl (F.ag _ rfl) rfl rfl ?_|refine aP rfl rfl (F.zl _ rfl) ?_|refine bj rfl rfl rfl ?_|refine cJ rfl rfl rfl rfl ?_|refine aK rfl rfl rfl (F.sz _ rfl) rfl rfl rfl ?_|refine aE rfl rfl rfl (F.sz _ rfl) rfl rfl (by decide) rfl rfl ?_|refine a6 rfl rfl rfl (F.un _ rfl) ?_|refine be rfl rfl rfl (F.un _ rfl) ?_|refine bn rfl rfl rfl rfl (by omega) (by omega) ?_|refine cv rfl rfl rfl rfl (by omega) (by omega) ?_|refine cF rfl rfl rfl rfl (by omega) (by omega) ?_|refine bh rfl rfl rfl ?_|refine cV rfl rfl rfl rfl (by omega) (by omega) (by omega) ?_|refine bc rfl rfl rfl (F.ze _ rfl) (F.pl _ rfl) rfl ?_))
    refine ihj _ _ _ (j,Sort.swp d2 (j+1) j) [] ⟨by omega,by rw [c8];exact hd2,?_⟩ (by simp only;omega) ?_
    ·rw [← hin]
     conv=>rhs;rw [Sort.insInner,if_pos (by simp only [ltP,zC,decide_eq_true_eq];exact⟨by omega,h3⟩)]
    ·(refine⟨(ExtOk.of rfl),rfl,(by repeat(first|exact trivial|refine⟨rfl,?_⟩|refine⟨lP (by first|omega|(simp only;omega)),?_⟩|fail)),(by repeat(first|exact trivial|refine⟨rfl,?_⟩|refine⟨c7 rfl,?_⟩|refine⟨gt rfl,?_⟩))⟩)
   ·(repeat(first|refine bD rfl rfl rfl ?_|refine bY rfl rfl rfl ?_|refine bP rfl rfl rfl rfl ?_|refine cp rfl rfl rfl rfl ?_|refine cU rfl rfl rfl rfl ?_|refine bX rfl rfl rfl ?_|refine cu rfl rfl rfl ?_|refine ct rfl rfl rfl ?_|refine bm rfl rfl rfl (F.fo _ _ rfl rfl) ?_|refine cx rfl rfl rfl rfl ?_|refine bx rfl rfl rfl (F.ag _ rfl) rfl rfl ?_|refine bI rfl rfl rfl (F.ag _ rfl) rfl rfl ?_|refine dF rfl rfl (F.zl _ rfl) ?_|refine eP rfl rfl rfl ?_|refine gr rfl rfl rfl rfl ?_|refine bO rfl rfl rfl (F.sz _ rfl) rfl rfl rfl ?_|refine cW rfl rfl rfl (F.sz _ rfl) rfl rfl (by decide) rfl rfl ?_|refine d7 rfl rfl rfl (F.un _ rfl) ?_|refine dx rfl rfl rfl (F.un _ rfl) ?_|refine fJ rfl rfl rfl rfl (by omega) (by omega) ?_|refine eS rfl rfl rfl rfl (by omega) (by omega) ?_|refine gq rfl rfl rfl rfl (by omega) (by omega) ?_|refine dS rfl rfl rfl ?_|refine gp rfl rfl rfl rfl (by omega) (by omega) (by omega) ?_|refine cQ rfl rfl rfl (F.ze _ rfl) (F.pl _ rfl) rfl ?_|refine cZ rfl rfl ?_))
    (refine bZ ?_);(refine⟨by kernel_rfl,?_,?_⟩);(focus(repeat(first|exact trivial|refine⟨.inl rfl,?_⟩|refine⟨.inr (by(repeat(refine⟨(by first|exact fq rfl|exact cH rfl rfl (.inr (.inr (.inr (.inr (.inl ⟨rfl,rfl⟩)))))|exact eL (F.un _ rfl) (F.sz _ rfl) rfl rfl rfl (by omega) (by omega) (by omega)|exact bU rfl rfl (.inl ⟨rfl,(zi _ ⟨by omega,by omega⟩).symm⟩)|exact bU rfl rfl (.inr (.inl ⟨rfl,(zi _ ⟨by omega,by omega⟩).symm⟩))|exact bw (F.fo _ _ rfl rfl) rfl|exact bC rfl|exact ch rfl|exact aZ (F.ag _ rfl) rfl rfl (aW rfl)|exact bg (F.ag _ rfl) rfl rfl (aw _ 0 rfl rfl)|exact dz rfl rfl|exact ek (F.un _ rfl) rfl|exact dU (F.un _ rfl) rfl|exact cj rfl|exact ci rfl rfl|exact cC rfl rfl),?_⟩));exact trivial),?_⟩|refine⟨.inl (by kernel_rfl),?_⟩)))
    (repeat(first|refine aq ?_|refine ae ?_|refine ac ?_|refine aI ?_|refine aB ?_|refine aH ?_|refine bv ?_|refine bu ?_|refine a8 ?_|refine a9 rfl ?_|refine ax rfl ?_|refine au rfl ?_|refine ce rfl ?_|refine aj rfl rfl rfl ?_|refine ai rfl rfl rfl ?_|refine aX rfl rfl rfl rfl ?_|refine aO rfl rfl rfl rfl ?_|refine aD rfl rfl rfl rfl ?_|refine aU rfl rfl rfl ?_|refine aS rfl rfl rfl ?_|refine aR rfl rfl rfl ?_|refine ap rfl rfl rfl (F.fo _ _ rfl rfl) ?_|refine aN rfl rfl rfl rfl ?_|refine bT rfl ?_|refine an rfl rfl rfl (F.ag _ rfl) rfl rfl ?_|refine ay rfl rfl rfl (F.ag _ rfl) rfl rfl ?_|refine aP rfl rfl (F.zl _ rfl) ?_|refine bj rfl rfl rfl ?_|refine cJ rfl rfl rfl rfl ?_|refine aK rfl rfl rfl (F.sz _ rfl) rfl rfl rfl ?_|refine aE rfl rfl rfl (F.sz _ rfl) rfl rfl (by decide) rfl rfl ?_|refine a6 rfl rfl rfl (F.un _ rfl) ?_|refine be rfl rfl rfl (F.un _ rfl) ?_|refine bn rfl rfl rfl rfl (by omega) (by omega) ?_|refine cv rfl rfl rfl rfl (by omega) (by omega) ?_|refine cF rfl rfl rfl rfl (by omega) (by omega) ?_|refine bh rfl rfl rfl ?_|refine cV rfl rfl rfl rfl (by omega) (by omega) (by omega) ?_|refine bc rfl rfl rfl (F.ze _ rfl) (F.pl _ rfl) rfl ?_))
    have hin2:Sort.insInner ltP a i d1=d2:=by
     rw [← hin,Sort.insInner,if_neg (by simp only [ltP,zC,decide_eq_true_eq];omega)]
    refine ih _ _ _ (i+1,d2) [] ⟨by omega,by omega,hd2,by rw [← hin2];exact ho2⟩ (by simp only;omega) ?_
    (refine⟨(ExtOk.of rfl),rfl,(by repeat(first|exact trivial|refine⟨rfl,?_⟩|refine⟨lP (by first|omega|(simp only;omega)),?_⟩|fail)),(by repeat(first|exact trivial|refine⟨rfl,?_⟩|refine⟨c7 rfl,?_⟩|refine⟨gt rfl,?_⟩))⟩)
  ·(repeat(first|refine bD rfl rfl rfl ?_|refine bY rfl rfl rfl ?_|refine bP rfl rfl rfl rfl ?_|refine cp rfl rfl rfl rfl ?_|refine cU rfl rfl rfl rfl ?_|refine bX rfl rfl rfl ?_|refine cu rfl rfl rfl ?_|refine ct rfl rfl rfl ?_|refine bm rfl rfl rfl (F.fo _ _ rfl rfl) ?_|refine cx rfl rfl rfl rfl ?_|refine bx rfl rfl rfl (F.ag _ rfl) rfl rfl ?_|refine bI rfl rfl rfl (F.ag _ rfl) rfl rfl ?_|refine dF rfl rfl (F.zl _ rfl) ?_|refine eP rfl rfl rfl ?_|refine gr rfl rfl rfl rfl ?_|refine bO rfl rfl rfl (F.sz _ rfl) rfl rfl rfl ?_|refine cW rfl rfl rfl (F.sz _ rfl) rfl rfl (by decide) rfl rfl ?_|refine d7 rfl rfl rfl (F.un _ rfl) ?_|refine dx rfl rfl rfl (F.un _ rfl) ?_|refine fJ rfl rfl rfl rfl (by omega) (by omega) ?_|refine eS rfl rfl rfl rfl (by omega) (by omega) ?_|refine gq rfl rfl rfl rfl (by omega) (by omega) ?_|refine dS rfl rfl rfl ?_|refine gp rfl rfl rfl rfl (by omega) (by omega) (by omega) ?_|refine cQ rfl rfl rfl (F.ze _ rfl) (F.pl _ rfl) rfl ?_|refine cZ rfl rfl ?_))
   (refine bZ ?_);(refine⟨by kernel_rfl,?_,?_⟩);(focus(repeat(first|exact trivial|refine⟨.inl rfl,?_⟩|refine⟨.inr (by(repeat(refine⟨(by first|exact fq rfl|exact cH rfl rfl (.inr (.inr (.inr (.inr (.inl ⟨rfl,rfl⟩)))))|exact eL (F.un _ rfl) (F.sz _ rfl) rfl rfl rfl (by omega) (by omega) (by omega)|exact bU rfl rfl (.inl ⟨rfl,(zi _ ⟨by omega,by omega⟩).symm⟩)|exact bU rfl rfl (.inr (.inl ⟨rfl,(zi _ ⟨by omega,by omega⟩).symm⟩))|exact bw (F.fo _ _ rfl rfl) rfl|exact bC rfl|exact ch rfl|exact aZ (F.ag _ rfl) rfl rfl (aW rfl)|exact bg (F.ag _ rfl) rfl rfl (aw _ 0 rfl rfl)|exact dz rfl rfl|exact ek (F.un _ rfl) rfl|exact dU (F.un _ rfl) rfl|exact cj rfl|exact ci rfl rfl|exact cC rfl rfl),?_⟩));exact trivial),?_⟩|refine⟨.inl (by kernel_rfl),?_⟩)))
   (repeat(first|refine aq ?_|refine ae ?_|refine ac ?_|refine aI ?_|refine aB ?_|refine aH ?_|refine bv ?_|refine bu ?_|refine a8 ?_|refine a9 rfl ?_|refine ax rfl ?_|refine au rfl ?_|refine ce rfl ?_|refine aj rfl rfl rfl ?_|refine ai rfl rfl rfl ?_|refine aX rfl rfl rfl rfl ?_|refine aO rfl rfl rfl rfl ?_|refine aD rfl rfl rfl rfl ?_|refine aU rfl rfl rfl ?_|refine aS rfl rfl rfl ?_|refine aR rfl rfl rfl ?_|refine ap rfl rfl rfl (F.fo _ _ rfl rfl) ?_|refine aN rfl rfl rfl rfl ?_|refine bT rfl ?_|refine an rfl rfl rfl (F.ag _ rfl) rfl rfl ?_|refine ay rfl rfl rfl (F.ag _ rfl) rfl rfl ?_|refine aP rfl rfl (F.zl _ rfl) ?_|refine bj rfl rfl rfl ?_|refine cJ rfl rfl rfl rfl ?_|refine aK rfl rfl rfl (F.sz _ rfl) rfl rfl rfl ?_|refine aE rfl rfl rfl (F.sz _ rfl) rfl rfl (by decide) rfl rfl ?_|refine a6 rfl rfl rfl (F.un _ rfl) ?_|refine be rfl rfl rfl (F.un _ rfl) ?_|refine bn rfl rfl rfl rfl (by omega) (by omega) ?_|refine cv rfl rfl rfl rfl (by omega) (by omega) ?_|refine cF rfl rfl rfl rfl (by omega) (by omega) ?_|refine bh rfl rfl rfl ?_|refine cV rfl rfl rfl rfl (by omega) (by omega) (by omega) ?_|refine bc rfl rfl rfl (F.ze _ rfl) (F.pl _ rfl) rfl ?_))
   have hin2:Sort.insInner ltP a i d1=d2:=by
    rw [← hin]
    cases j with
    | zero=>rfl
    | succ j=>rw [Sort.insInner,if_neg (by simp only [zC,decide_eq_true_eq];omega)]
   refine ih _ _ _ (i+1,d2) [] ⟨by omega,by omega,hd2,by rw [← hin2];exact ho2⟩ (by simp only;omega) ?_
   (refine⟨(ExtOk.of rfl),rfl,(by repeat(first|exact trivial|refine⟨rfl,?_⟩|refine⟨lP (by first|omega|(simp only;omega)),?_⟩|fail)),(by repeat(first|exact trivial|refine⟨rfl,?_⟩|refine⟨c7 rfl,?_⟩|refine⟨gt rfl,?_⟩))⟩)
 ·(repeat(first|refine aq ?_|refine ae ?_|refine ac ?_|refine aI ?_|refine aB ?_|refine aH ?_|refine bv ?_|refine bu ?_|refine a8 ?_|refine a9 rfl ?_|refine ax rfl ?_|refine au rfl ?_|refine ce rfl ?_|refine aj rfl rfl rfl ?_|refine ai rfl rfl rfl ?_|refine aX rfl rfl rfl rfl ?_|refine aO rfl rfl rfl rfl ?_|refine aD rfl rfl rfl rfl ?_|refine aU rfl rfl rfl ?_|refine aS rfl rfl rfl ?_|refine aR rfl rfl rfl ?_|refine ap rfl rfl rfl (F.fo _ _ rfl rfl) ?_|refine aN rfl rfl rfl rfl ?_|refine bT rfl ?_|refine an rfl rfl rfl (F.ag _ rfl) rfl rfl ?_|refine ay rfl rfl rfl (F.ag _ rfl) rfl rfl ?_|refine aP rfl rfl (F.zl _ rfl) ?_|refine bj rfl rfl rfl ?_|refine cJ rfl rfl rfl rfl ?_|refine aK rfl rfl rfl (F.sz _ rfl) rfl rfl rfl ?_|refine aE rfl rfl rfl (F.sz _ rfl) rfl rfl (by decide) rfl rfl ?_|refine a6 rfl rfl rfl (F.un _ rfl) ?_|refine be rfl rfl rfl (F.un _ rfl) ?_|refine bn rfl rfl rfl rfl (by omega) (by omega) ?_|refine cv rfl rfl rfl rfl (by omega) (by omega) ?_|refine cF rfl rfl rfl rfl (by omega) (by omega) ?_|refine bh rfl rfl rfl ?_|refine cV rfl rfl rfl rfl (by omega) (by omega) (by omega) ?_|refine bc rfl rfl rfl (F.ze _ rfl) (F.pl _ rfl) rfl ?_))
  have ho2:d1=Sort.insertionSort ltP d a b:=by rw [← ho,Sort.insOuter,if_neg (by omega)]
  apply fT Tryz.func103 (congrArg Array.toList Tryz.results103)
  (focus(repeat(first|exact ResIs.nil|apply ResIs.tmp rfl|apply ResIs.cell rfl (LoadIs.one (F.ag _ rfl) rfl (aW rfl))|apply ResIs.cell rfl (LoadIs.many (F.ag _ rfl) rfl (aw _ 0 rfl rfl)))))
  refine⟨_,rfl,Ends.mk [] (ExtOk.of rfl) rfl rfl ?_⟩
  rw [← ho2]
  exact(by repeat(first|exact trivial|refine⟨rfl,?_⟩|refine⟨c7 rfl,?_⟩|refine⟨gt rfl,?_⟩))
end Bn
end Go.Proofs.YtjjgjjlgchidlaaGreat
end
section
namespace Go.Proofs.YtjjgjjlgchidlaaGreat
open Go Go.Sy Go.Sl Go.RowKit
section
variable {P:Program} {H:aJ} {T:Tr SV} {nx:Nat}
variable {d:Option Tmp} {ty:TypeId} {pos:String} {af:Array Edge} {gd:Option (Nat×Bool)}
theorem uZ{t:TypeId}{x y:Operand}{s:ByteArray}{k:IntKind}{i:Nat}{v:UInt8}(hx:am T x=some (.sc (.string s)))(hy:am T y=some (.sc (.int k (i:Int))))(hu:P.underlying t=some .string)(hv:s[i]? =some v) :
 ReadDoes P T H ⟨d,.index t x y,ty,pos,af,gd⟩ (.sc (.int .u8 v.toNat)):=by
 refine cS fun ev w he=>?_
 have e1:=he x _ hx _ rfl
 have e2:=he y _ hy _ rfl
 simp [execOp,e1,e2,Instr.index,asIntOf,run_underlying hu,hv]
end
section
variable {ro:Option Nat} {fn nt nx i:Nat} {T:Tr SV} {k:List AIt} {dfs:List ADf} {H:aJ} {Q:Pst} {ops:Array Oper} {l:List Oper} {ty:TypeId} {pos:String} {af:Array Edge} {gd:Option (Nat×Bool)} {P:Program}
theorem sj{t:TypeId}{x y:Operand}{s:ByteArray}{kd:IntKind}{j:Nat}{v:UInt8}{dd:Nat}(hw:ar T ops ⟨some dd,.index t x y,ty,pos,af,gd⟩=some true)(hd:Nat.blt dd nt=true)(hx:am T x=some (.sc (.string s)))(hy:am T y=some (.sc (.int kd (j:Int))))(hu:P.underlying t=some .string)(hv:s[j]? =some v)
 (h:Wp P ro ⟨fn,nt,T.set dd (.sc (.int .u8 v.toNat)),.inReg ops (i+1) l :: k,dfs,H,nx⟩ Q):Wp P ro ⟨fn,nt,T,.inReg ops i (⟨some dd,.index t x y,ty,pos,af,gd⟩ :: l) :: k,dfs,H,nx⟩ Q:=
 bK hw (.inr (fun _ h=>by cases h)) ((uZ hx hy hu hv).does) (by rw [aC hd];exact h)
end
theorem c8{A:Type} [Inhabited A](d:Array A)(i j:Nat):(Sort.swp d i j).size=d.size:=by simp [Sort.swp]
theorem sh8(x:Nat):Int.fdiv (x:Int) (2 ^ (min (Int.toNat 8) IntKind.u64.bits))=((x / 256:Nat):Int):=by
 have:(2:Int) ^ (min (Int.toNat 8) IntKind.u64.bits)=256:=by decide
 rw [this,Int.fdiv_eq_ediv_of_nonneg _ (by decide)]
 omega
def yp(s:ByteArray):Bool:=(List.range 256).all fun i=>match s[i]? with
 | some v=>v.toNat == Sort.bitsLen i
 | none=>false
theorem wi{s:ByteArray}(h:yp s=true){i:Nat}(hi:i<256):s[i]? =some (UInt8.ofNat (Sort.bitsLen i)):=by
 unfold yp at h
 rw [List.all_eq_true] at h
 have:=h i (List.mem_range.2 hi)
 split at this
 ·rename_i v hv
  rw [hv,←(beq_iff_eq.1 this),UInt8.ofNat_toNat]
 ·cases this
theorem vW(x:Nat)(h:256≤x):Sort.bitsLen x=8+Sort.bitsLen (x / 256):=by
 have key: ∀ k,Sort.bitsLen (x / 256)≤k↔Sort.bitsLen x≤k+8:=fun k=>by
  rw [Sort.bitsLen_le_iff,Sort.bitsLen_le_iff,Nat.pow_add,Nat.div_lt_iff_lt_mul (by decide)]
 have h8: ¬ Sort.bitsLen x≤7:=by
  rw [Sort.bitsLen_le_iff]
  omega
 have h1:=(key (Sort.bitsLen (x / 256))).1 (zD _)
 have h2:=(key (Sort.bitsLen x-8)).2 (by omega)
 omega
theorem oO{x:Nat}(h:x<65536):Sort.bitsLen x≤16:=(Sort.bitsLen_le_iff x 16).2 h
theorem ym{x:Nat}(h:x<65536):IntKind.i64.wrap (((UInt8.ofNat (Sort.bitsLen x)).toNat:Nat):Int)=(Sort.bitsLen x:Int):=by
 have:=oO h
 rw [UInt8.toNat_ofNat',Nat.mod_eq_of_lt (by omega),zi _ ⟨by omega,by omega⟩]
theorem rL(x:Nat)(hx:x<65536):Ctr Tryz.prog 112 [.sc (.int .u64 (x:Int))] [] (fun c=>c=⟨.sc (.int .i64 (Sort.bitsLen x:Int)),[]⟩):=by
 have h16:=oO hx
 refine Fnc.start Tryz.func112 rfl rfl ?_
 (repeat(first|refine aq ?_|refine ae ?_|refine ac ?_|refine aI ?_|refine aB ?_|refine aH ?_|refine bv ?_|refine bu ?_|refine a8 ?_|refine a9 rfl ?_|refine ax rfl ?_|refine au rfl ?_|refine ce rfl ?_|refine aj rfl rfl rfl ?_|refine ai rfl rfl rfl ?_|refine aX rfl rfl rfl rfl ?_|refine aO rfl rfl rfl rfl ?_|refine aD rfl rfl rfl rfl ?_|refine aU rfl rfl rfl ?_|refine aS rfl rfl rfl ?_|refine aR rfl rfl rfl ?_|refine ap rfl rfl rfl (F.fo _ _ rfl rfl) ?_|refine aN rfl rfl rfl rfl ?_|refine bT rfl ?_|refine an rfl rfl rfl (F.ag _ rfl) rfl rfl ?_|refine ay rfl rfl rfl (F.ag _ rfl) rfl rfl ?_|refine aP rfl rfl (F.zl _ rfl) ?_|refine bj rfl rfl rfl ?_|refine cJ rfl rfl rfl rfl ?_|refine aK rfl rfl rfl (F.sz _ rfl) rfl rfl rfl ?_|refine aE rfl rfl rfl (F.sz _ rfl) rfl rfl (by decide) rfl rfl ?_|refine a6 rfl rfl rfl (F.un _ rfl) ?_|refine be rfl rfl rfl (F.un _ rfl) ?_|refine bn rfl rfl rfl rfl (by omega) (by omega) ?_|refine cv rfl rfl rfl rfl (by omega) (by omega) ?_|refine cF rfl rfl rfl rfl (by omega) (by omega) ?_|refine bh rfl rfl rfl ?_|refine cV rfl rfl rfl rfl (by omega) (by omega) (by omega) ?_|refine bc rfl rfl rfl (F.ze _ rfl) (F.pl _ rfl) rfl ?_))
 refine gB rfl rfl rfl rfl ?_ ?_
 all_goals intro h1
 ·exact absurd h1 (by omega)
 (repeat(first|refine aq ?_|refine ae ?_|refine ac ?_|refine aI ?_|refine aB ?_|refine aH ?_|refine bv ?_|refine bu ?_|refine a8 ?_|refine a9 rfl ?_|refine ax rfl ?_|refine au rfl ?_|refine ce rfl ?_|refine aj rfl rfl rfl ?_|refine ai rfl rfl rfl ?_|refine aX rfl rfl rfl rfl ?_|refine aO rfl rfl rfl rfl ?_|refine aD rfl rfl rfl rfl ?_|refine aU rfl rfl rfl ?_|refine aS rfl rfl rfl ?_|refine aR rfl rfl rfl ?_|refine ap rfl rfl rfl (F.fo _ _ rfl rfl) ?_|refine aN rfl rfl rfl rfl ?_|refine bT rfl ?_|refine an rfl rfl rfl (F.ag _ rfl) rfl rfl ?_|refine ay rfl rfl rfl (F.ag _ rfl) rfl rfl ?_|refine aP rfl rfl (F.zl _ rfl) ?_|refine bj rfl rfl rfl ?_|refine cJ rfl rfl rfl rfl ?_|refine aK rfl rfl rfl (F.sz _ rfl) rfl rfl rfl ?_|refine aE rfl rfl rfl (F.sz _ rfl) rfl rfl (by decide) rfl rfl ?_|refine a6 rfl rfl rfl (F.un _ rfl) ?_|refine be rfl rfl rfl (F.un _ rfl) ?_|refine bn rfl rfl rfl rfl (by omega) (by omega) ?_|refine cv rfl rfl rfl rfl (by omega) (by omega) ?_|refine cF rfl rfl rfl rfl (by omega) (by omega) ?_|refine bh rfl rfl rfl ?_|refine cV rfl rfl rfl rfl (by omega) (by omega) (by omega) ?_|refine bc rfl rfl rfl (F.ze _ rfl) (F.pl _ rfl) rfl ?_))
 refine gB rfl rfl rfl rfl ?_ ?_
 all_goals intro h2
 ·exact absurd h2 (by omega)
 (repeat(first|refine aq ?_|refine ae ?_|refine ac ?_|refine aI ?_|refine aB ?_|refine aH ?_|refine bv ?_|refine bu ?_|refine a8 ?_|refine a9 rfl ?_|refine ax rfl ?_|refine au rfl ?_|refine ce rfl ?_|refine aj rfl rfl rfl ?_|refine ai rfl rfl rfl ?_|refine aX rfl rfl rfl rfl ?_|refine aO rfl rfl rfl rfl ?_|refine aD rfl rfl rfl rfl ?_|refine aU rfl rfl rfl ?_|refine aS rfl rfl rfl ?_|refine aR rfl rfl rfl ?_|refine ap rfl rfl rfl (F.fo _ _ rfl rfl) ?_|refine aN rfl rfl rfl rfl ?_|refine bT rfl ?_|refine an rfl rfl rfl (F.ag _ rfl) rfl rfl ?_|refine ay rfl rfl rfl (F.ag _ rfl) rfl rfl ?_|refine aP rfl rfl (F.zl _ rfl) ?_|refine bj rfl rfl rfl ?_|refine cJ rfl rfl rfl rfl ?_|refine aK rfl rfl rfl (F.sz _ rfl) rfl rfl rfl ?_|refine aE rfl rfl rfl (F.sz _ rfl) rfl rfl (by decide) rfl rfl ?_|refine a6 rfl rfl rfl (F.un _ rfl) ?_|refine be rfl rfl rfl (F.un _ rfl) ?_|refine bn rfl rfl rfl rfl (by omega) (by omega) ?_|refine cv rfl rfl rfl rfl (by omega) (by omega) ?_|refine cF rfl rfl rfl rfl (by omega) (by omega) ?_|refine bh rfl rfl rfl ?_|refine cV rfl rfl rfl rfl (by omega) (by omega) (by omega) ?_|refine bc rfl rfl rfl (F.ze _ rfl) (F.pl _ rfl) rfl ?_))
 refine gB rfl rfl rfl rfl ?_ ?_
 all_goals intro h3
 ·have h17:=oO (x:=x / 256) (by omega)
  (repeat(first|refine aq ?_|refine ae ?_|refine ac ?_|refine aI ?_|refine aB ?_|refine aH ?_|refine bv ?_|refine bu ?_|refine a8 ?_|refine a9 rfl ?_|refine ax rfl ?_|refine au rfl ?_|refine ce rfl ?_|refine aj rfl rfl rfl ?_|refine ai rfl rfl rfl ?_|refine aX rfl rfl rfl rfl ?_|refine aO rfl rfl rfl rfl ?_|refine aD rfl rfl rfl rfl ?_|refine aU rfl rfl rfl ?_|refine aS rfl rfl rfl ?_|refine aR rfl rfl rfl ?_|refine ap rfl rfl rfl (F.fo _ _ rfl rfl) ?_|refine aN rfl rfl rfl rfl ?_|refine bT rfl ?_|refine an rfl rfl rfl (F.ag _ rfl) rfl rfl ?_|refine ay rfl rfl rfl (F.ag _ rfl) rfl rfl ?_|refine aP rfl rfl (F.zl _ rfl) ?_|refine bj rfl rfl rfl ?_|refine cJ rfl rfl rfl rfl ?_|refine aK rfl rfl rfl (F.sz _ rfl) rfl rfl rfl ?_|refine aE rfl rfl rfl (F.sz _ rfl) rfl rfl (by decide) rfl rfl ?_|refine a6 rfl rfl rfl (F.un _ rfl) ?_|refine be rfl rfl rfl (F.un _ rfl) ?_|refine bn rfl rfl rfl rfl (by omega) (by omega) ?_|refine cv rfl rfl rfl rfl (by omega) (by omega) ?_|refine cF rfl rfl rfl rfl (by omega) (by omega) ?_|refine bh rfl rfl rfl ?_|refine cV rfl rfl rfl rfl (by omega) (by omega) (by omega) ?_|refine bc rfl rfl rfl (F.ze _ rfl) (F.pl _ rfl) rfl ?_|(refine pX rfl rfl rfl rfl (by decide) (sh8 x) ?_)|refine eR rfl rfl rfl (F.un _ rfl) (F.un _ rfl) (show _=((x / 256:Nat):Int)from Go.IntWalk.u8_in _ ⟨by omega,by omega⟩) ?_|(refine sj rfl rfl rfl rfl (F.un _ rfl) (wi (by kernel_rfl) (show x / 256<256 by omega)) ?_)|refine eR rfl rfl rfl (F.un _ rfl) (F.un _ rfl) (ym (x:=x / 256) (by omega)) ?_))
  rw [vW x (by omega)]
  (apply bf Tryz.func112 (congrArg Array.toList Tryz.results112);(focus(repeat(first|exact ResIs.nil|apply ResIs.tmp rfl|apply ResIs.cell rfl (LoadIs.one (F.ag _ rfl) rfl (aW rfl))|apply ResIs.cell rfl (LoadIs.many (F.ag _ rfl) rfl (aw _ 0 rfl rfl))))))
  (refine⟨_,rfl,Ends.val (ExtOk.of rfl) rfl ?_ ?_⟩)
  ·simp
  ·trivial
 ·(repeat(first|refine aq ?_|refine ae ?_|refine ac ?_|refine aI ?_|refine aB ?_|refine aH ?_|refine bv ?_|refine bu ?_|refine a8 ?_|refine a9 rfl ?_|refine ax rfl ?_|refine au rfl ?_|refine ce rfl ?_|refine aj rfl rfl rfl ?_|refine ai rfl rfl rfl ?_|refine aX rfl rfl rfl rfl ?_|refine aO rfl rfl rfl rfl ?_|refine aD rfl rfl rfl rfl ?_|refine aU rfl rfl rfl ?_|refine aS rfl rfl rfl ?_|refine aR rfl rfl rfl ?_|refine ap rfl rfl rfl (F.fo _ _ rfl rfl) ?_|refine aN rfl rfl rfl rfl ?_|refine bT rfl ?_|refine an rfl rfl rfl (F.ag _ rfl) rfl rfl ?_|refine ay rfl rfl rfl (F.ag _ rfl) rfl rfl ?_|refine aP rfl rfl (F.zl _ rfl) ?_|refine bj rfl rfl rfl ?_|refine cJ rfl rfl rfl rfl ?_|refine aK rfl rfl rfl (F.sz _ rfl) rfl rfl rfl ?_|refine aE rfl rfl rfl (F.sz _ rfl) rfl rfl (by decide) rfl rfl ?_|refine a6 rfl rfl rfl (F.un _ rfl) ?_|refine be rfl rfl rfl (F.un _ rfl) ?_|refine bn rfl rfl rfl rfl (by omega) (by omega) ?_|refine cv rfl rfl rfl rfl (by omega) (by omega) ?_|refine cF rfl rfl rfl rfl (by omega) (by omega) ?_|refine bh rfl rfl rfl ?_|refine cV rfl rfl rfl rfl (by omega) (by omega) (by omega) ?_|refine bc rfl rfl rfl (F.ze _ rfl) (F.pl _ rfl) rfl ?_|refine eR rfl rfl rfl (F.un _ rfl) (F.un _ rfl) (show _=(x:Int)from Go.IntWalk.u8_in _ ⟨by omega,by omega⟩) ?_|(refine sj rfl rfl rfl rfl (F.un _ rfl) (wi (by kernel_rfl) (show x<256 by omega)) ?_)|refine eR rfl rfl rfl (F.un _ rfl) (F.un _ rfl) (ym (x:=x) (by omega)) ?_))
  (apply bf Tryz.func112 (congrArg Array.toList Tryz.results112);(focus(repeat(first|exact ResIs.nil|apply ResIs.tmp rfl|apply ResIs.cell rfl (LoadIs.one (F.ag _ rfl) rfl (aW rfl))|apply ResIs.cell rfl (LoadIs.many (F.ag _ rfl) rfl (aw _ 0 rfl rfl))))))
  (refine⟨_,rfl,Ends.val (ExtOk.of rfl) rfl ?_ ?_⟩)
  ·simp
  ·trivial
theorem qq(x:Nat)(hx:x<65536):Ctr Tryz.prog 94 [.sc (.int .u64 (x:Int))] [] (fun c=>c=⟨.sc (.int .i64 (Sort.bitsLen x:Int)),[]⟩):=by
 refine Fnc.start Tryz.func94 rfl rfl ?_
 (repeat(first|refine aq ?_|refine ae ?_|refine ac ?_|refine aI ?_|refine aB ?_|refine aH ?_|refine bv ?_|refine bu ?_|refine a8 ?_|refine a9 rfl ?_|refine ax rfl ?_|refine au rfl ?_|refine ce rfl ?_|refine aj rfl rfl rfl ?_|refine ai rfl rfl rfl ?_|refine aX rfl rfl rfl rfl ?_|refine aO rfl rfl rfl rfl ?_|refine aD rfl rfl rfl rfl ?_|refine aU rfl rfl rfl ?_|refine aS rfl rfl rfl ?_|refine aR rfl rfl rfl ?_|refine ap rfl rfl rfl (F.fo _ _ rfl rfl) ?_|refine aN rfl rfl rfl rfl ?_|refine bT rfl ?_|refine an rfl rfl rfl (F.ag _ rfl) rfl rfl ?_|refine ay rfl rfl rfl (F.ag _ rfl) rfl rfl ?_|refine aP rfl rfl (F.zl _ rfl) ?_|refine bj rfl rfl rfl ?_|refine cJ rfl rfl rfl rfl ?_|refine aK rfl rfl rfl (F.sz _ rfl) rfl rfl rfl ?_|refine aE rfl rfl rfl (F.sz _ rfl) rfl rfl (by decide) rfl rfl ?_|refine a6 rfl rfl rfl (F.un _ rfl) ?_|refine be rfl rfl rfl (F.un _ rfl) ?_|refine bn rfl rfl rfl rfl (by omega) (by omega) ?_|refine cv rfl rfl rfl rfl (by omega) (by omega) ?_|refine cF rfl rfl rfl rfl (by omega) (by omega) ?_|refine bh rfl rfl rfl ?_|refine cV rfl rfl rfl rfl (by omega) (by omega) (by omega) ?_|refine bc rfl rfl rfl (F.ze _ rfl) (F.pl _ rfl) rfl ?_|refine fc (rL x hx) [] rfl rfl rfl (by kernel_rfl) rfl (ExtOk.of rfl) rfl trivial ?_))
 (apply bf Tryz.func94 (congrArg Array.toList Tryz.results94);(focus(repeat(first|exact ResIs.nil|apply ResIs.tmp rfl|apply ResIs.cell rfl (LoadIs.one (F.ag _ rfl) rfl (aW rfl))|apply ResIs.cell rfl (LoadIs.many (F.ag _ rfl) rfl (aw _ 0 rfl rfl))))))
 (refine⟨_,rfl,Ends.val (ExtOk.of rfl) rfl ?_ ?_⟩)
 ·rfl
 ·trivial
end Go.Proofs.YtjjgjjlgchidlaaGreat
end
section
namespace Go.Proofs.YtjjgjjlgchidlaaGreat
namespace Bn
open Go Go.Sy
abbrev zb:SV:= .sc (.func (.func 66) #[] #[])
abbrev ArP:=Array El
theorem lh(n limit:Nat)(d:ArP)(hn:n≤12)(hd:d.size=n)(hl:limit<4611686018427387904) :
 Ctr Tryz.prog 93 [.slu 0 0 n,.sc (.int .i64 0),.sc (.int .i64 (n:Int)),.sc (.int .i64 (limit:Int)),cmpF] [rowP n d] (fun c=>c=⟨.tup [],[some (rowP n (Sort.insertionSort ltP d 0 n))]⟩):=by
 have hi:=mW n 0 n d (by omega) hd (by omega) (by omega)
 refine Fnc.start Tryz.func93 rfl rfl ?_
 (repeat(first|refine aq ?_|refine ae ?_|refine ac ?_|refine aI ?_|refine aj rfl rfl rfl ?_|refine ai rfl rfl rfl ?_|refine cv rfl rfl rfl rfl (by omega) (by omega) ?_|refine jd ?_))
 refine lX rfl rfl rfl rfl ?_ ?_
 all_goals intro h1
 ·(repeat(first|refine aq ?_|refine ae ?_|refine ac ?_|refine ax rfl ?_|refine aj rfl rfl rfl ?_|refine ku rfl rfl rfl (by kernel_rfl) (Ctr.qT (hi) [0] rfl (ExtOk.of rfl) rfl (by repeat(first|exact trivial|refine⟨c7 rfl,?_⟩)) rfl (by repeat(first|exact trivial|refine⟨im,?_⟩)) (fun _=>rfl) rfl rfl) ?_))
  ((apply bf Tryz.func93 (congrArg Array.toList Tryz.results93));(focus(repeat(exact ResIs.nil)));refine⟨_,rfl,Ends.mk [] (ExtOk.of rfl) rfl rfl ?_⟩)
  exact(by repeat(first|exact trivial|refine⟨c7 rfl,?_⟩))
 ·exact absurd h1 (by omega)
theorem sort_spec(n:Nat)(d:ArP)(hn:n≤12)(hd:d.size=n) :
 Ctr Tryz.prog 67 [.slu 0 0 n,zb] [rowP n d] (fun c=>c=⟨.tup [],[some (rowP n (Sort.sort ltP d))]⟩):=by
 have h16:=oO (x:=n) (by omega)
 refine Fnc.start Tryz.func67 rfl rfl ?_
 refine se (d:=1) (s:=zb) (s':=cmpF) rfl (fun e v h=>by simpa [SV.conc,SV.aQ] using h) ?_
 have hp:=lh n (Sort.bitsLen n) d hn hd (by omega)
 have hs:Sort.insertionSort ltP d 0 n=Sort.sort ltP d:=by unfold Sort.sort;rw [hd,Sort.pdq,if_pos (by omega)]
 rw [hs] at hp
 (repeat(first|refine aq ?_|refine ae ?_|refine ac ?_|refine aj rfl rfl rfl ?_|refine ai rfl rfl rfl ?_|refine a6 rfl rfl rfl (F.un _ rfl) ?_|refine eR rfl rfl rfl (F.un _ rfl) (F.un _ rfl) (show _=(n:Int)from Go.IntWalk.u64_in _ ⟨by omega,by omega⟩) ?_|refine fc (qq n (by omega)) [] rfl rfl rfl (by kernel_rfl) rfl (ExtOk.of rfl) rfl trivial ?_|refine ku rfl rfl rfl (by kernel_rfl) (Ctr.qT (hp) [0] rfl (ExtOk.of rfl) rfl (by repeat(first|exact trivial|refine⟨c7 rfl,?_⟩)) rfl (by repeat(first|exact trivial|refine⟨im,?_⟩)) (fun _=>rfl) rfl rfl) ?_))
 ((apply fT Tryz.func67 (congrArg Array.toList Tryz.results67));(focus(repeat(exact ResIs.nil)));refine⟨_,rfl,Ends.mk [] (ExtOk.of rfl) rfl rfl ?_⟩)
 exact(by repeat(first|exact trivial|refine⟨c7 rfl,?_⟩))
theorem ft: ∀ l:List (El),(l.flatMap elV).length=l.length*4
 | []=>rfl
 | a :: l=>by
   rw [List.flatMap_cons,zH,ft l]
   show 4+l.length*4=(l.length+1)*4
   omega
end Bn
end Go.Proofs.YtjjgjjlgchidlaaGreat
end
section
namespace Go.Sy
open Go Go.Sl Go.RowKit
section
variable {P:Program} {T:Tr SV} {H:aJ} {nx:Nat} {d:Option Tmp} {ty:TypeId} {pos:String} {af:Array Edge} {gd:Option (Nat×Bool)}
theorem rQ{t:TypeId}{m:Array (String×TypeId)}(hu:P.underlying t=some (.interface m))(w:World):(Op.equal t .nilIface .nilIface).run P w = .ok true w:=by
 have: ∀ n,(Op.equalIn (n+1) t .nilIface .nilIface).run P w = .ok true w:=fun n=>by simp [Op.equalIn,run_underlying hu]
 exact this 9999
theorem sR{t yt:TypeId}{m:Array (String×TypeId)}{x:Operand}(hx:am T x=some (.sc .nilIface))(hu:P.underlying t=some (.interface m)):ReadDoes P T H ⟨d,.binOp .neq t x (.const .nilIface) yt,ty,pos,af,gd⟩ (.sc (.bool false)):=by
 refine cS fun ev w he=>?_
 have e1:=he x _ hx _ rfl
 have e2:=he (.const .nilIface) _ rfl _ rfl
 have hg:(eqGuard .neq t x (.const .nilIface) .nilIface .nilIface).run P w = .ok () w:=by cases x <;> rfl
 have hq:(Op.equal t .nilIface .nilIface).run P w = .ok true w:=rQ hu w
 have hb:(binOp .neq t .nilIface .nilIface).run P w = .ok (.bool false) w:=by
  simp only [binOp,Sem.run_bind,hq,Result.andThen_ok,Sem.run_pure,Bool.not_true]
 simp only [execOp,e1,e2,Sem.run_bind,hg,hb,Result.andThen_ok,Sem.run_pure]
end
section
variable {P:Program} {ro:Option Nat} {fn nt nx i:Nat} {T:Tr SV} {k:List AIt} {dfs:List ADf} {H:aJ} {Q:Pst} {ops:Array Oper} {l:List Oper} {ty:TypeId} {pos:String} {af:Array Edge} {gd:Option (Nat×Bool)}
theorem jG{x:Operand}{as1:List Operand}{ats:Array TypeId}{g:FuncId}{fa fb args:List SV}(hw:ar T ops ⟨none,.defer {callee:= .value x,args:=as1.toArray,argTypes:=ats},ty,pos,af,gd⟩=some true)(hx:am T x=some (.fn (.func g) fa fb))(ha:dw T as1=some args)(hm:cf P g=true)
 (h:Wp P none ⟨fn,nt,T,.inReg ops (i+1) l :: k,.call g (fa ++ args ++ fb) :: dfs,H,nx⟩ Q):Wp P none ⟨fn,nt,T,.inReg ops i (⟨none,.defer {callee:= .value x,args:=as1.toArray,argTypes:=ats},ty,pos,af,gd⟩ :: l) :: k,dfs,H,nx⟩ Q:=by
 refine .step (.inr ⟨hw,.inl rfl,OpDoes.any (out:=(.dfr (.call g (fa ++ args ++ fb)),H,nx)) ?_ ⟨rfl,h⟩⟩)
 intro K w0 e w ev hS hE
 refine jt hS hE ?_
 unfold fl
 simp only [cc,ha,hx,dE,hm,cond_true]
theorem gz{dd:Nat}(hw:ar T ops ⟨some dd,.call {callee:= .builtin .recover,args:= #[],argTypes:= #[]},ty,pos,af,gd⟩=some true)(hd:Nat.blt dd nt=true)
 (h:Wp P none ⟨fn,nt,T.set dd (.sc .nilIface),.inReg ops (i+1) l :: k,dfs,H,nx⟩ Q):Wp P none ⟨fn,nt,T,.inReg ops i (⟨some dd,.call {callee:= .builtin .recover,args:= #[],argTypes:= #[]},ty,pos,af,gd⟩ :: l) :: k,dfs,H,nx⟩ Q:=by
 refine .step (.inr ⟨hw,.inl rfl,OpDoes.any (out:=(.recover,H,nx)) ?_ ⟨rfl,?_⟩⟩)
 ·intro K w0 e w ev hS hE
  refine jt hS hE ?_
  unfold fl
  simp only [dw,zK,eF]
 ·rw [aC hd]
  exact h
theorem je{t yt:TypeId}{m:Array (String×TypeId)}{x:Operand}{dd:Nat}(hw:ar T ops ⟨some dd,.binOp .neq t x (.const .nilIface) yt,ty,pos,af,gd⟩=some true)(hd:Nat.blt dd nt=true)(hx:am T x=some (.sc .nilIface))(hu:P.underlying t=some (.interface m))
 (h:Wp P ro ⟨fn,nt,T.set dd (.sc (.bool false)),.inReg ops (i+1) l :: k,dfs,H,nx⟩ Q):Wp P ro ⟨fn,nt,T,.inReg ops i (⟨some dd,.binOp .neq t x (.const .nilIface) yt,ty,pos,af,gd⟩ :: l) :: k,dfs,H,nx⟩ Q:=
 bK hw (.inr (fun _ h=>by cases h)) ((sR hx hu).does) (by rw [aC hd];exact h)
theorem ks{x:Operand}{name:String}{as1:List Operand}{ats:Array TypeId}{t:TypeId}{v:SV}{args:List SV}{dd:Nat}(g:FuncId)(hw:ar T ops ⟨some dd,.call {callee:= .invoke x name,args:=as1.toArray,argTypes:=ats},ty,pos,af,gd⟩=some true)(hd:Nat.blt dd nt=true)(hx:am T x=some (.ifc t v))(ha:dw T as1=some args)(hm:iP P t name=some g)
 (h:Fnc P g (v :: args) H nx (fun r=>Wp P ro ⟨fn,nt,T.set dd r.1,.inReg ops (i+1) l :: k,dfs,r.2.1,r.2.2⟩ Q)) :
 Wp P ro ⟨fn,nt,T,.inReg ops i (⟨some dd,.call {callee:= .invoke x name,args:=as1.toArray,argTypes:=ats},ty,pos,af,gd⟩ :: l) :: k,dfs,H,nx⟩ Q:=by
 refine sg hw (args:=v :: args) ?_ (by simp only [aC hd];exact h)
 simp only [cc,ha,hx,hm]
theorem jX{rl:List ResultVar}{F:Func}{g:FuncId}{args:List SV}(hf:P.funcs[fn]? =some F)(hl:F.results.toList=rl)(hg:cf P g=true)(h:Fnc P g args H nx (fun r=> ∃ vs,ResIs P r.2.1 T rl vs∧Q (fw vs,r.2.1,r.2.2))):Wp P none ⟨fn,nt,T,.code .ret :: k,[.call g args],H,nx⟩ Q:=by
 refine we (xC hg (Fnc.mono h ?_))
 rintro⟨v,H',n'⟩ ⟨vs,h1,h2⟩
 exact wo (by simp only [ej,hf,hl]) h1.res h2
end
end Go.Sy
end
section
namespace Go.Proofs.YtjjgjjlgchidlaaGreat
open Go Go.Sy Go.Sl Go.RowKit
abbrev dl:SV:= .sc (.slice none 0 0)
abbrev nS(mem:List UInt8)(s:SV)(left:Int)(odd:Bool):List SV:=(byV mem).map .sc ++ [s,.sc (.int .i64 left),.sc (.bool odd)]
abbrev qg(mem:List UInt8)(s:SV)(left:Int)(odd:Bool):VO:=az 53 (nS mem s left odd)
def cP(mem:List UInt8)(n:Nat):List UInt8:=(mem.drop (1024*n)).take 1024
theorem du{mem:List UInt8}(hm:mem.length=28672){n:Nat}(hn:n<28):(cP mem n).length=1024:=by
 unfold cP
 rw [List.length_take,List.length_drop]
 omega
theorem s9{mem:List UInt8}(hm:mem.length=28672){n:Nat}(hn:n<28)(s:SV)(left:Int)(odd:Bool):(qg mem s left odd).cellsFrom (0+n*1024) 1024=some (pgS (cP mem n)):=by
 refine aw _ _ ?_ (by rw [aY (du hm hn)])
 have hl:((byV mem).map SV.sc).length=28672:=by simpa using hm
 rw [List.drop_append_of_le_length (by omega),List.take_append_of_le_length (by rw [List.length_drop];omega)]
 unfold cP
 rw [Nat.zero_add,Nat.mul_comm]
 simp [List.map_take,List.map_drop]
theorem wm{H:aJ}{nx b n:Nat}{mem:List UInt8}{s:SV}{left:Int}{odd:Bool}(hb:H.at' b=some (qg mem s left odd))(hm:mem.length=28672)(hn:n<28):Fnc Tryz.prog 148 [.ptr b 0,.sc (.int .i64 ((4+n:Nat):Int))] H nx (fun q=>q=(pgE (cP mem n,0),H,nx)):=by
 refine Fnc.dp (vu _) ?_
 refine Fnc.start Tryz.func148 rfl rfl ?_
 refine cn fun hund=>?_
 have hlt:=hund _ _ hb
 have hl:=du hm hn
 (repeat(first|(refine aP rfl rfl iI ?_)|refine aq ?_|refine ae ?_|refine ac ?_|refine aH ?_|refine au rfl ?_|(apply aj;exact rfl;exact rfl;exact rfl)|(apply ai;exact rfl;exact rfl;exact rfl)|(apply aO;exact rfl;exact rfl;exact rfl;exact rfl)|(apply aU;exact rfl;exact rfl;exact rfl)|(apply ap;exact rfl;exact rfl;exact rfl;exact(F.fo _ _ rfl rfl))|(apply cv;exact rfl;exact rfl;exact rfl;exact rfl;(focus(omega));(focus(omega)))|(refine bR rfl rfl rfl rfl (fun hq=>absurd hq (by omega)) (fun _=>?_))|(refine gB rfl rfl rfl rfl (fun hq=>absurd hq (by omega)) (fun _=>?_))|(apply iy (q:=n);exact rfl;exact rfl;exact rfl;exact rfl;exact(F.un _ rfl);exact(F.sz _ rfl);(focus(omega));(focus(omega)))))
 refine fv rfl rfl rfl (F.ag _ rfl) (by(repeat(first|assumption|refine(Tr.aa _ _ (by omega)).trans ?_));done) (s9 hm hn _ _ _) ?_
 (repeat(first|(apply aE;(exact rfl);(exact rfl);(exact rfl);(exact F.sz _ rfl);(focus((focus((repeat(exact Tr.ab _ _ _));done))));(exact aY hl);(rw [aY ak];exact zD _);(exact dv _);(exact dt _ _ ak hl))|refine ac ?_|(apply ai;exact rfl;exact rfl;exact rfl)))
 ((apply bf Tryz.func148 (congrArg Array.toList Tryz.results148));(focus((apply ResIs.cell rfl (LoadIs.many (F.ag _ rfl) (by(repeat(exact Tr.ab _ _ _));done) (dg hl)));(repeat(first|exact ResIs.nil|apply ResIs.tmp rfl)))))
 exact⟨rfl,zM _,fun m hm=>(Tr.aa _ _ (by omega)).trans (Tr.aa _ _ (by omega))⟩
theorem wB(a b:List UInt8):byV (a ++ b)=byV a ++ byV b:=zI
theorem gT{mem:List UInt8}(hm:mem.length=28672):((byV mem).map SV.sc).length=28672:=by simpa using hm
theorem jM{mem:List UInt8}(hm:mem.length=28672)(s:SV)(l:Int)(o:Bool):(nS mem s l o).length=28675:=by simp [hm]
theorem lg{mem:List UInt8}(hm:mem.length=28672)(s:SV)(l:Int)(o:Bool)(j:Nat):(nS mem s l o)[28672+j]? = [s,.sc (.int .i64 l),.sc (.bool o)][j]? :=by
 rw [List.getElem?_append_right (by rw [gT hm];omega),gT hm,Nat.add_sub_cancel_left]
theorem mK{mem:List UInt8}(hm:mem.length=28672)(s s':SV)(l:Int)(o:Bool):(nS mem s l o).set 28672 s'=nS mem s' l o:=by
 rw [List.set_append_right _ _ (by rw [gT hm];exact zD _),gT hm]
 rfl
theorem vr{mem:List UInt8}(hm:mem.length=28672)(s:SV)(l l':Int)(o:Bool):(nS mem s l o).set 28673 (.sc (.int .i64 l'))=nS mem s l' o:=by
 rw [List.set_append_right _ _ (by rw [gT hm];decide),gT hm]
 rfl
def lN(mem:List UInt8)(n:Nat)(x:List UInt8):List UInt8:=is mem (1024*n) x
theorem kC{mem x:List UInt8}(hm:mem.length=28672){n:Nat}(hn:n<28)(hx:x.length=1024):(lN mem n x).length=28672:=by
 unfold lN
 rw [gJ (by omega),hm]
theorem xi{mem x:List UInt8}(hm:mem.length=28672){n:Nat}(hn:n<28)(hx:x.length=1024)(s:SV)(l:Int)(o:Bool):(nS mem s l o).take (0+n*1024) ++ pgS x ++ (nS mem s l o).drop (0+n*1024+1024)=nS (lN mem n x) s l o:=by
 have hl:=gT hm
 rw [List.take_append_of_le_length (by omega),List.drop_append_of_le_length (by omega)]
 unfold lN is
 rw [hx,Nat.zero_add,Nat.mul_comm n]
 show _=(byV (mem.take (1024*n) ++ x ++ mem.drop (1024*n+1024))).map SV.sc ++ _
 rw [wB,wB,zI,zI]
 simp only [byV,List.map_take,List.map_drop,List.append_assoc]
def LIs(H:aJ)(s:SV)(c:Nat):Prop:=(c=0∧s=dl)∨ ∃ r ws,0<c∧s = .slu r 0 c∧H.at' r=some (fQ false c 1025 209 ws)∧ws.length=c*1025
theorem LIs.frame{H H':aJ}{s:SV}{c:Nat}(h:LIs H s c)(hf: ∀ r ws,H.at' r=some (fQ false c 1025 209 ws)→H'.at' r=H.at' r):LIs H' s c:=by
 rcases h with h|⟨r,ws,h0,h1,h2,h3⟩
 ·exact .inl h
 ·exact .inr ⟨r,ws,h0,h1,(hf r ws h2).trans h2,h3⟩
def PgAt(H:aJ)(b:Nat)(mem:List UInt8)(left:Int)(c:Nat):Prop:= ∃ s,H.at' b=some (qg mem s left false)∧LIs H s c
theorem PgAt.frame{H H':aJ}{b:Nat}{mem:List UInt8}{left:Int}{c nx:Nat}(h:PgAt H b mem left c)(hund: ∀ r vo,H.at' r=some vo→r<nx)(hf: ∀ m,m<nx→H'.at' m=H.at' m):PgAt H' b mem left c:=by
 obtain⟨s,h1,h2⟩:=h
 exact⟨s,(hf b (hund _ _ h1)).trans h1,h2.frame fun r ws hr=>hf r (hund _ _ hr)⟩
theorem LIs.one{H:aJ}{s:SV}{c:Nat}(h:LIs H s c):s.one=true:=by
 rcases h with ⟨_,rfl⟩|⟨_,_,_,rfl,_⟩ <;> rfl
abbrev nv(n:Int)(x:List UInt8):List SV:= .sc (.int .i64 n) :: pgS x
theorem qf(n:Int){x:List UInt8}(h:x.length=1024):(nv n x).length=1*1025:=by simp [h]
theorem mM(n:Int)(x:List UInt8):cG (nv n x)=true:=dv x
theorem pR:dq Tryz.prog 209=some (.agg (Value.int .i64 0 :: List.replicate 1024 (Value.int .u8 0)).toArray):=by kernel_rfl
theorem ko:vq Tryz.prog 209=some [(0,1),(1,1024)]:=by kernel_rfl
theorem kJ{place:Nat→Option (Nat×Nat)}{cells vc:List SV}{i off size:Nat}{v:SV}(hp:place i=some (off,size))(hv:v.cells=vc)(hl:vc.length=size)(ho:off+size≤cells.length):fh place cells [(i,v)]=some (cells.take off ++ vc ++ cells.drop (off+size)):=by
 subst hv
 have hb:(Nat.beq v.cells.length size && Nat.ble (off+size) cells.length)=true:=by
  rw [zC]
  exact⟨by rw [hl];exact Nat.beq_refl _,zp ho⟩
 simp only [fh,hp,hb,cond_true]
theorem d6{zs:List SV}(hz:zs.length=1025){n:Int}{p:List UInt8}(hp:p.length=1024):fh (fun i=> [(0,1),(1,1024)][i]?) zs [(0,.sc (.int .i64 n)),(1,.agg (pgS p))]=some (nv n p):=by
 have h1:(pgS p).length=1024:=aY hp
 have h2:(zs.take 0 ++ (SV.sc (.int .i64 n)).cells ++ zs.drop (0+1)).length=1025:=by
  rw [zH,zH,List.length_drop,hz]
  rfl
 have hb:(Nat.beq (SV.sc (.int .i64 n)).cells.length 1 && Nat.ble (0+1) zs.length)=true:=by rw [hz];rfl
 show(bif (Nat.beq (SV.sc (.int .i64 n)).cells.length 1 && Nat.ble (0+1) zs.length) then fh (fun i=> [(0,1),(1,1024)][i]?) (zs.take 0 ++ (SV.sc (.int .i64 n)).cells ++ zs.drop (0+1)) [(1,.agg (pgS p))] else none)=_
 rw [hb,cond_true,kJ (off:=1) (size:=1024) (vc:=pgS p) rfl rfl h1 (by omega)]
 rw [List.drop_of_length_le (show(zs.take 0 ++ (SV.sc (.int .i64 n)).cells ++ zs.drop (0+1)).length≤1+1024 by omega),List.append_nil]
 rfl
theorem ou{zs:List SV}(hz:zs.length=1025){n:Int}{p:List UInt8}(hp:p.length=1024):fh (fun i=>some (i*1025,1025)) zs [(0,.agg (nv n p))]=some (nv n p):=by
 have hl:(nv n p).length=1025:=qf n hp
 rw [kJ (off:=0) (size:=1025) (vc:=nv n p) rfl rfl hl (by omega)]
 rw [List.take_zero,List.nil_append,List.drop_of_length_le (by omega),List.append_nil]
theorem uo{n:Int}{x:List UInt8}(hx:x.length=1024):(az 209 (nv n x)).cellsFrom (0+1) 1024=some (pgS x):=
 aw _ _ (by show(pgS x).take 1024=pgS x;exact zu (by rw [aY hx];exact zD _)) (aY hx)
theorem yU{H:aJ}{nx b n:Nat}{mem x:List UInt8}{s:SV}{left:Int}{odd:Bool}(hb:H.at' b=some (qg mem s left odd))(hm:mem.length=28672)(hn:n<28)(hx:x.length=1024):Fnc Tryz.prog 151 [.ptr b 0,.agg (nv ((4+n:Nat):Int) x)] H nx
 (fun q=>q=(.tup [],(H.set nx (az 209 (nv ((4+n:Nat):Int) x))).set b (qg (lN mem n x) s left odd),nx+1)):=by
 refine Fnc.start Tryz.func151 rfl rfl ?_
 refine cn fun hund=>?_
 have hlt:=hund _ _ hb
 have hpl:(nv ((4+n:Nat):Int) x).length=1025:=by simp [hx]
 (repeat(first|refine aq ?_|refine ae ?_|refine ac ?_|(apply ap;exact rfl;exact rfl;exact rfl;exact(F.fo _ _ rfl rfl))|(apply bj;exact rfl;exact rfl;exact rfl)|refine an rfl rfl rfl (F.ag _ rfl) (by(repeat(first|assumption|exact Tr.ab _ _ _));done) (by exact rfl) ?_))
 have k1:(H.set nx (az 209 (nv ((4+n:Nat):Int) x))).at' nx=some (az 209 (nv ((4+n:Nat):Int) x)):=Tr.ab _ _ _
 have k2:(H.set nx (az 209 (nv ((4+n:Nat):Int) x))).at' b=some (qg mem s left odd):=(Tr.aa _ _ (by omega)).trans hb
 obtain⟨H1,hH1⟩: ∃ H1,H1=H.set nx (az 209 (nv ((4+n:Nat):Int) x)):=⟨_,rfl⟩
 rw [← hH1] at k1 k2 ⊢
 (repeat(first|(refine an rfl rfl rfl (F.ag _ rfl) k1 rfl ?_)|(refine gB rfl rfl rfl rfl (fun _=>?_) (fun hq=>absurd hq (by omega)))|(refine bR rfl rfl rfl rfl (fun _=>?_) (fun hq=>absurd hq (by omega)))|refine ac ?_|refine ax rfl ?_|(apply aj;exact rfl;exact rfl;exact rfl)|(apply aX;exact rfl;exact rfl;exact rfl;exact rfl)|(apply ap;exact rfl;exact rfl;exact rfl;exact(F.fo _ _ rfl rfl))))
 (apply cY;(focus(kernel_rfl));(focus(kernel_rfl)))
 (repeat(first|(refine bx rfl rfl rfl (F.ag _ rfl) k1 rfl ?_)|((apply bl;exact rfl;exact rfl;exact(fun _ h=>by cases h);exact(bg (F.ag _ rfl) rfl k1 (uo hx))))|(refine cW rfl rfl rfl (F.sz _ rfl) k2 (aY hx) (by rw [jM hm];omega) (dv _) (xi hm hn hx _ _ _) ?_)|(apply xQ (q:=n);exact rfl;exact rfl;exact rfl;exact rfl;exact(F.un _ rfl);exact(F.sz _ rfl);(focus(omega));(focus(omega)))|(apply bD;exact rfl;exact rfl;exact rfl)|(apply bX;exact rfl;exact rfl;exact rfl)|(apply bm;exact rfl;exact rfl;exact rfl;exact(F.fo _ _ rfl rfl))|(apply eS;exact rfl;exact rfl;exact rfl;exact rfl;(focus(omega));(focus(omega)))))
 (refine bZ ?_);(refine⟨by kernel_rfl,?_,?_⟩);(focus(repeat(first|exact trivial|refine⟨.inl (bJ rfl),?_⟩|refine⟨.inr ⟨0,by kernel_rfl,AllH.all (fun _=>(by first|exact bC rfl|exact cj rfl|exact bw (F.fo _ _ rfl rfl) rfl|exact bU rfl rfl (.inr (.inl ⟨rfl,(zi _ ⟨by omega,by omega⟩).symm⟩)))) _⟩,?_⟩|refine⟨.inr ⟨0,by kernel_rfl,(by(refine⟨(by first|exact aZ (F.ag _ rfl) rfl (by(repeat(first|assumption|refine(Tr.aa _ _ (by omega)).trans ?_));done) (aW rfl)|exact mI (q:=n) rfl rfl (F.un _ rfl) (F.sz _ rfl) (by omega) (by omega)),?_⟩;(repeat(refine⟨(by first|exact aZ (F.ag _ rfl) rfl (by assumption) (aW rfl)|exact mI (q:=n) rfl rfl (F.un _ rfl) (F.sz _ rfl) (by omega) (by omega)),?_⟩));exact trivial))⟩,?_⟩|refine⟨.inr ⟨1,by kernel_rfl,(by(refine⟨(by(exact bg (F.ag _ rfl) rfl k1 (uo hx))),?_⟩;(repeat(refine⟨(by skip),?_⟩));exact trivial))⟩,?_⟩)))
 ((apply fT Tryz.func151 (congrArg Array.toList Tryz.results151));(focus(repeat(exact ResIs.nil))))
 rfl
theorem sX{H:aJ}{nx b n c:Nat}{mem x:List UInt8}{left:Int}(hb:PgAt H b mem left c)(hm:mem.length=28672)(hn:n<28)(hx:x.length=1024)(hl:left≠0)(hl2 : -1000000000≤left∧left≤9000000000000000000)(hc:c≤1000000):Fnc Tryz.prog 149 [.ptr b 0,.sc (.int .i64 ((4+n:Nat):Int)),.agg (pgS x)] H nx
 (fun q=>q.1 = .sc (.int .i64 0)∧PgAt q.2.1 b (lN mem n x) (left-1) (c+1)∧nx≤q.2.2∧ ∀ m,m<nx→m≠b→(∀ ws,H.at' m≠some (fQ false c 1025 209 ws))→q.2.1.at' m=H.at' m):=by
 obtain⟨s,hb,hL⟩:=hb
 refine Fnc.start Tryz.func149 rfl rfl ?_
 refine cn fun hund=>?_
 have hlt:=hund _ _ hb
 have hbox:(H.set nx (pgO x)).at' nx=some (pgO x):=Tr.ab _ _ _
 have hb1:(H.set nx (pgO x)).at' b=some (qg mem s left false):=(Tr.aa _ _ (by omega)).trans hb
 have hold: ∀ m,m<nx→(H.set nx (pgO x)).at' m=H.at' m:=fun m hm=>Tr.aa _ _ (by omega)
 have hone:=hL.one
 (repeat(first|refine aq ?_|refine ae ?_|refine ac ?_|(apply aj;exact rfl;exact rfl;exact rfl)|(apply ai;exact rfl;exact rfl;exact rfl)|(apply bj;exact rfl;exact rfl;exact rfl)))
 generalize H.set nx (pgO x)=H1 at hbox hb1 hold ⊢
 (repeat(first|(refine an rfl rfl rfl (F.ag _ rfl) hb1 (lg hm _ _ _ 1) ?_)|refine aq ?_|refine ae ?_|refine ac ?_|refine aH ?_|refine au rfl ?_|(apply aj;exact rfl;exact rfl;exact rfl)|(apply aO;exact rfl;exact rfl;exact rfl;exact rfl)|(apply aU;exact rfl;exact rfl;exact rfl)|(apply ap;exact rfl;exact rfl;exact rfl;exact(F.fo _ _ rfl rfl))|(apply cv;exact rfl;exact rfl;exact rfl;exact rfl;(focus(omega));(focus(omega)))|(refine bR rfl rfl rfl rfl (fun hq=>absurd hq (by omega)) (fun _=>?_))|(refine gB rfl rfl rfl rfl (fun hq=>absurd hq (by omega)) (fun _=>?_))|(refine eQ rfl rfl rfl rfl (fun hq=>absurd hq (by omega)) (fun _=>?_))))
 refine aK rfl rfl rfl (F.sz _ rfl) hb1 rfl (zp (by rw [jM hm];decide)) ?_
 rw [vr hm]
 have hb2:(H1.set b (qg mem s (left-1) false)).at' b=some (qg mem s (left-1) false):=Tr.ab _ _ _
 have hbox2:(H1.set b (qg mem s (left-1) false)).at' nx=some (pgO x):=(Tr.aa _ _ (by omega)).trans hbox
 have hold2: ∀ m,m<nx→m≠b→(H1.set b (qg mem s (left-1) false)).at' m=H.at' m:=fun m h1 h2=>(Tr.aa _ _ h2).trans (hold m h1)
 generalize H1.set b (qg mem s (left-1) false)=H2 at hb2 hbox2 hold2 ⊢
 clear hb1 hbox hold
 (repeat(first|refine aq ?_|refine ac ?_))
 have hsz:(nv ((4+n:Nat):Int) x).length=1*1025:=qf _ hx
 rcases hL with ⟨rfl,rfl⟩|⟨r,ws,h0,rfl,hr1,hwl⟩
 ·(apply cY;(focus(kernel_rfl));(focus(kernel_rfl)))
  (repeat(first|(refine bI rfl rfl rfl (F.ag _ rfl) hbox2 (aY hx) ?_)|(refine bx rfl rfl rfl (F.ag _ rfl) hb2 (lg hm _ _ _ 0) ?_)|(refine cQ rfl rfl rfl pR ko (d6 (by kernel_rfl) hx) ?_)|(refine jw (cs:=nv ((4+n:Nat):Int) x) rfl rfl (F.un _ rfl) (F.sz _ rfl) rfl pR rfl (ou (by simp) hx) (mM _ _) rfl hsz ?_)|refine lE rfl rfl (fun _ h=>by cases h) (l9 (b:=1032) (F.un _ rfl) (.inl ⟨_,F.un _ rfl⟩) (F.sz _ rfl) (by decide) (by kernel_rfl) (by kernel_rfl) rfl rfl (yz (by(repeat(exact Tr.ab _ _ _));done) hsz) (by exact mM _ _) (by omega) (by omega) (by omega)) ?_|(refine bO rfl rfl rfl (F.sz _ rfl) (by(repeat(refine(Tr.aa _ _ (by omega)).trans ?_));exact hb2) rfl (zp (by rw [jM hm];decide)) ?_)|(apply bD;exact rfl;exact rfl;exact rfl)|(apply bX;exact rfl;exact rfl;exact rfl)|(apply bm;exact rfl;exact rfl;exact rfl;exact(F.fo _ _ rfl rfl))))
  (refine bZ ?_);(refine⟨by kernel_rfl,?_,?_⟩);(focus(repeat(first|exact trivial|refine⟨.inl (bJ rfl),?_⟩|refine⟨.inr ⟨0,by kernel_rfl,AllH.all (fun _=>(by first|exact bC rfl|exact cj rfl|exact bw (F.fo _ _ rfl rfl) rfl)) _⟩,?_⟩|refine⟨.inr ⟨0,by kernel_rfl,(by(refine⟨(by first|exact bg (F.ag _ rfl) rfl (by(repeat(refine(Tr.aa _ _ (by omega)).trans ?_));exact hbox2) (dg hx)|exact d5 rfl pR ko (d6 (by kernel_rfl) hx)),?_⟩;(repeat(refine⟨(by first|exact bg (F.ag _ rfl) rfl hbox2 (dg hx)|exact bg (F.ag _ rfl) rfl (by(repeat(refine(Tr.aa _ _ (by omega)).trans ?_));exact hbox2) (dg hx)|exact d5 rfl pR ko (d6 (by kernel_rfl) hx)),?_⟩));exact trivial))⟩,?_⟩|refine⟨.inr ⟨1,by kernel_rfl,(by(refine⟨(by(exact aZ (F.ag _ rfl) rfl (by(repeat(refine(Tr.aa _ _ (by omega)).trans ?_));exact hb2) (aW (lg hm _ _ _ 0)))),?_⟩;(repeat(refine⟨(by(exact aZ (F.ag _ rfl) rfl (by(repeat(refine(Tr.aa _ _ (by omega)).trans ?_));exact hb2) (aW (lg hm _ _ _ 0)))),?_⟩));exact trivial))⟩,?_⟩)))
  rw [mK hm]
  refine ki (R:=fun H5 n5=>nx+1<n5∧H5.at' nx=some (pgO x)∧H5.at' b=some (qg mem (.slu (nx+1+1) 0 (0+1)) (left-1) false)∧LIs H5 (.slu (nx+1+1) 0 (0+1)) (0+1)∧nx+1+1<n5∧ ∀ m,m<nx→m≠b→(∀ ws,H.at' m≠some (fQ false 0 1025 209 ws))→H5.at' m=H.at' m) ⟨by dsimp only;omega,by(focus((repeat(refine(Tr.aa _ _ (by omega)).trans ?_));exact hbox2)),by(focus((repeat(exact Tr.ab _ _ _));done)),.inr ⟨nx+1+1,_,by omega,rfl,by(focus((repeat(first|exact Tr.ab _ _ _|refine(Tr.aa _ _ (by omega)).trans ?_));done)),hsz⟩,by dsimp only;omega,fun m h1 h2 h3=>by(focus((repeat(refine(Tr.aa _ _ (by omega)).trans ?_));exact hold2 m h1 h2))⟩ ?_
  rintro H5 n5 ⟨_,e1,e2,e3,e4,e5⟩
  (repeat(refine aq ?_))
  (apply cY;(focus(kernel_rfl));(focus(kernel_rfl)))
  (repeat(first|(refine bI rfl rfl rfl (F.ag _ rfl) e1 (aY hx) ?_)|(refine cQ rfl rfl rfl pR ko (d6 (by kernel_rfl) hx) ?_)|((apply b9;exact rfl;exact rfl;exact rfl;(focus(kernel_rfl));exact(yU e2 hm hn hx)))|(apply bD;exact rfl;exact rfl;exact rfl)|(apply bX;exact rfl;exact rfl;exact rfl)|(apply bm;exact rfl;exact rfl;exact rfl;exact(F.fo _ _ rfl rfl))))
  (refine bZ ?_);(refine⟨by kernel_rfl,?_,?_⟩);(focus(repeat(first|exact trivial|refine⟨.inl (bJ rfl),?_⟩|refine⟨.inr ⟨0,by kernel_rfl,AllH.all (fun _=>(by first|exact bC rfl|exact cj rfl|exact bw (F.fo _ _ rfl rfl) rfl)) _⟩,?_⟩|refine⟨.inr ⟨0,by kernel_rfl,(by(refine⟨(by(exact d5 rfl pR ko (d6 (by kernel_rfl) hx))),?_⟩;(repeat(refine⟨(by(exact d5 rfl pR ko (d6 (by kernel_rfl) hx))),?_⟩));exact trivial))⟩,?_⟩|refine⟨.inr ⟨1,by kernel_rfl,(by(refine⟨(by(exact bg (F.ag _ rfl) rfl e1 (dg hx))),?_⟩;(repeat(refine⟨(by skip),?_⟩));exact trivial))⟩,?_⟩)))
  (repeat(first|refine aq ?_|refine ae ?_|refine ac ?_|(apply ai;exact rfl;exact rfl;exact rfl)))
  ((apply bf Tryz.func149 (congrArg Array.toList Tryz.results149));(focus(repeat(first|exact ResIs.nil|apply ResIs.tmp rfl))))
  rcases e3 with ⟨h,_⟩|⟨r',ws',q0,q1,q2,q3⟩
  ·omega
  cases q1
  refine⟨rfl,⟨_,Tr.ab _ _ _,.inr ⟨_,ws',q0,rfl,(Tr.aa _ _ (by omega)).trans ((Tr.aa _ _ (by omega)).trans q2),q3⟩⟩,by dsimp only;omega,fun m h1 h2 h3=>?_⟩
  exact(Tr.aa _ _ h2).trans ((Tr.aa _ _ (by omega)).trans (e5 m h1 h2 h3))
 ·have hrl:=hund _ _ hr1
  have hrb:r≠b:=fun e=>by rw [e,hb] at hr1;cases hr1
  have hr2:=(hold2 r hrl hrb).trans hr1
  (apply cY;(focus(kernel_rfl));(focus(kernel_rfl)))
  (repeat(first|(refine bI rfl rfl rfl (F.ag _ rfl) hbox2 (aY hx) ?_)|(refine bx rfl rfl rfl (F.ag _ rfl) hb2 (lg hm _ _ _ 0) ?_)|(refine cQ rfl rfl rfl pR ko (d6 (by kernel_rfl) hx) ?_)|(refine jw (cs:=nv ((4+n:Nat):Int) x) rfl rfl (F.un _ rfl) (F.sz _ rfl) rfl pR rfl (ou (by simp) hx) (mM _ _) rfl hsz ?_)|refine lE rfl rfl (fun _ h=>by cases h) (xp (b:=1032) (F.un _ rfl) (.inl ⟨_,F.un _ rfl⟩) (F.sz _ rfl) (by decide) (by kernel_rfl) (by kernel_rfl) rfl rfl (by(repeat(refine(Tr.aa _ _ (by omega)).trans ?_));exact hr2) (hwl) (yz (by(repeat(exact Tr.ab _ _ _));done) hsz) (by exact mM _ _) (by omega) (by omega) (by omega)) ?_|(refine bO rfl rfl rfl (F.sz _ rfl) (by(repeat(first|refine(Tr.aa _ _ (by omega)).trans ?_|refine(Tr.ah _ (by omega)).trans ?_));exact hb2) rfl (zp (by rw [jM hm];decide)) ?_)|(apply bD;exact rfl;exact rfl;exact rfl)|(apply bX;exact rfl;exact rfl;exact rfl)|(apply bm;exact rfl;exact rfl;exact rfl;exact(F.fo _ _ rfl rfl))))
  (refine bZ ?_);(refine⟨by kernel_rfl,?_,?_⟩);(focus(repeat(first|exact trivial|refine⟨.inl (bJ rfl),?_⟩|refine⟨.inr ⟨0,by kernel_rfl,AllH.all (fun _=>(by first|exact bC rfl|exact cj rfl|exact bw (F.fo _ _ rfl rfl) rfl)) _⟩,?_⟩|refine⟨.inr ⟨0,by kernel_rfl,(by(refine⟨(by first|exact bg (F.ag _ rfl) rfl (by(repeat(first|refine(Tr.aa _ _ (by omega)).trans ?_|refine(Tr.ah _ (by omega)).trans ?_));exact hbox2) (dg hx)|exact d5 rfl pR ko (d6 (by kernel_rfl) hx)),?_⟩;(repeat(refine⟨(by first|exact bg (F.ag _ rfl) rfl hbox2 (dg hx)|exact bg (F.ag _ rfl) rfl (by(repeat(first|refine(Tr.aa _ _ (by omega)).trans ?_|refine(Tr.ah _ (by omega)).trans ?_));exact hbox2) (dg hx)|exact d5 rfl pR ko (d6 (by kernel_rfl) hx)),?_⟩));exact trivial))⟩,?_⟩|refine⟨.inr ⟨1,by kernel_rfl,(by(refine⟨(by(exact aZ (F.ag _ rfl) rfl (by(repeat(first|refine(Tr.aa _ _ (by omega)).trans ?_|refine(Tr.ah _ (by omega)).trans ?_));exact hb2) (aW (lg hm _ _ _ 0)))),?_⟩;(repeat(refine⟨(by(exact aZ (F.ag _ rfl) rfl (by(repeat(refine(Tr.aa _ _ (by omega)).trans ?_));exact hb2) (aW (lg hm _ _ _ 0)))),?_⟩));exact trivial))⟩,?_⟩)))
  rw [mK hm]
  refine ki (R:=fun H5 n5=>nx+1<n5∧H5.at' nx=some (pgO x)∧H5.at' b=some (qg mem (.slu (nx+1+1) 0 (c+1)) (left-1) false)∧LIs H5 (.slu (nx+1+1) 0 (c+1)) (c+1)∧nx+1+1<n5∧ ∀ m,m<nx→m≠b→(∀ ws,H.at' m≠some (fQ false c 1025 209 ws))→H5.at' m=H.at' m) ⟨by dsimp only;omega,by(focus((repeat(first|refine(Tr.aa _ _ (by omega)).trans ?_|refine(Tr.ah _ (by omega)).trans ?_));exact hbox2)),by(focus((repeat(exact Tr.ab _ _ _));done)),.inr ⟨nx+1+1,_,by omega,rfl,by(focus((repeat(first|exact Tr.ab _ _ _|refine(Tr.aa _ _ (by omega)).trans ?_));done)),by rw [zH,hwl,hsz];omega⟩,by dsimp only;omega,fun m h1 h2 h3=>(by have hmr:m≠r:=fun e=>h3 ws (e ▸ hr1);(focus((repeat(first|refine(Tr.aa _ _ (by omega)).trans ?_|refine(Tr.ah _ (by omega)).trans ?_));exact hold2 m h1 h2)))⟩ ?_
  rintro H5 n5 ⟨_,e1,e2,e3,e4,e5⟩
  (repeat(refine aq ?_))
  (apply cY;(focus(kernel_rfl));(focus(kernel_rfl)))
  (repeat(first|(refine bI rfl rfl rfl (F.ag _ rfl) e1 (aY hx) ?_)|(refine cQ rfl rfl rfl pR ko (d6 (by kernel_rfl) hx) ?_)|((apply b9;exact rfl;exact rfl;exact rfl;(focus(kernel_rfl));exact(yU e2 hm hn hx)))|(apply bD;exact rfl;exact rfl;exact rfl)|(apply bX;exact rfl;exact rfl;exact rfl)|(apply bm;exact rfl;exact rfl;exact rfl;exact(F.fo _ _ rfl rfl))))
  (refine bZ ?_);(refine⟨by kernel_rfl,?_,?_⟩);(focus(repeat(first|exact trivial|refine⟨.inl (bJ rfl),?_⟩|refine⟨.inr ⟨0,by kernel_rfl,AllH.all (fun _=>(by first|exact bC rfl|exact cj rfl|exact bw (F.fo _ _ rfl rfl) rfl)) _⟩,?_⟩|refine⟨.inr ⟨0,by kernel_rfl,(by(refine⟨(by(exact d5 rfl pR ko (d6 (by kernel_rfl) hx))),?_⟩;(repeat(refine⟨(by(exact d5 rfl pR ko (d6 (by kernel_rfl) hx))),?_⟩));exact trivial))⟩,?_⟩|refine⟨.inr ⟨1,by kernel_rfl,(by(refine⟨(by(exact bg (F.ag _ rfl) rfl e1 (dg hx))),?_⟩;(repeat(refine⟨(by skip),?_⟩));exact trivial))⟩,?_⟩)))
  (repeat(first|refine aq ?_|refine ae ?_|refine ac ?_|(apply ai;exact rfl;exact rfl;exact rfl)))
  ((apply bf Tryz.func149 (congrArg Array.toList Tryz.results149));(focus(repeat(first|exact ResIs.nil|apply ResIs.tmp rfl))))
  rcases e3 with ⟨h,_⟩|⟨r',ws',q0,q1,q2,q3⟩
  ·omega
  cases q1
  refine⟨rfl,⟨_,Tr.ab _ _ _,.inr ⟨_,ws',q0,rfl,(Tr.aa _ _ (by omega)).trans ((Tr.aa _ _ (by omega)).trans q2),q3⟩⟩,by dsimp only;omega,fun m h1 h2 h3=>?_⟩
  exact(Tr.aa _ _ h2).trans ((Tr.aa _ _ (by omega)).trans (e5 m h1 h2 h3))
def kP(p:List UInt8):UInt8:=p[12]?.getD 0
def kq(u:List Bool):List UInt8→Option (Nat×cO)
 | []=>none
 | c :: r=>if c.toNat<1∨28≤c.toNat∨u[c.toNat]? =some true then none else match r with
   | []=>some (c.toNat,ei)
   | b :: r=>(ofL (b :: r)).map fun e=>(c.toNat,e)
def cr(p:List UInt8):Nat→Option (List Bool×List Bn.El)
 | 0=>some (List.replicate 28 false,[])
 | j+1=>match cr p j with
   | none=>none
   | some (u,l)=>if bq p j=0 then some (u,l) else match kq u (dJ p j)with
     | none=>none
     | some (k,e)=>some (u.set k true,l ++ [((4:Int)+(k:Int),e)])
theorem fU{p:List UInt8}{j:Nat}(h:cr p j=none): ∀ {k:Nat},j≤k→cr p k=none:=by
 intro k hk
 induction k with
 | zero=>rw [Nat.le_zero.1 hk] at h;exact h
 | succ k ih=>
   rcases Nat.lt_or_ge k j with h1|h1
   ·rw [show k+1=j by omega];exact h
   ·show(match cr p k with|none=>none|some (u,l)=>_)=none
    rw [ih h1]
theorem qM{u:List Bool}{it:List UInt8}{k:Nat}{e:cO}(h:kq u it=some (k,e)):1≤k∧k<28∧u[k]? ≠some true:=by
 unfold kq at h
 split at h
 ·cases h
 ·split at h
  ·cases h
  ·rename_i c r hc
   split at h
   ·cases h;exact⟨by omega,by omega,fun h=>hc (.inr (.inr h))⟩
   ·obtain⟨x,_,hx⟩:=zr.1 h
    cases hx
    exact⟨by omega,by omega,fun h=>hc (.inr (.inr h))⟩
theorem ug: ∀ (l:List Bool) (i:Nat),l[i]? =some false→(l.set i true).count false+1=l.count false
 | [],i,h=>by simp at h
 | b :: l,0,h=>by
   simp only [zB,zh] at h
   subst h
   simp [List.count_cons]
 | b :: l,i+1,h=>by
   have:=ug l i (by simpa using h)
   simp only [List.set_cons_succ,List.count_cons]
   omega
theorem jJ{p:List UInt8}: ∀ {j:Nat} {u:List Bool} {l:List Bn.El},cr p j=some (u,l)→u.length=28∧l.length+u.count false=28
 | 0,u,l,h=>by
   unfold cr at h
   cases h
   exact⟨List.length_replicate,by simp⟩
 | j+1,u,l,h=>by
   unfold cr at h
   cases hr:cr p j with
   | none=>rw [hr] at h;cases h
   | some x=>
     obtain⟨u0,l0⟩:=x
     obtain⟨h1,h2⟩:=jJ hr
     rw [hr] at h
     simp only at h
     split at h
     ·cases h;exact⟨h1,h2⟩
     ·cases hb:kq u0 (dJ p j)with
      | none=>rw [hb] at h;cases h
      | some y=>
        obtain⟨k,e⟩:=y
        rw [hb] at h
        simp only [zh,zq] at h
        obtain⟨rfl,rfl⟩:=h
        obtain⟨k1,k2,k3⟩:=qM hb
        have hf:u0[k]? =some false:=by
         rw [zk (by omega)] at k3 ⊢
         cases hx:u0[k] with
         | true=>rw [hx] at k3;exact absurd rfl k3
         | false=>rfl
        have:=ug u0 k hf
        exact⟨by rw [List.length_set];exact h1,by rw [zH,List.length_singleton];omega⟩
theorem sO{p:List UInt8}{j:Nat}{u:List Bool}{l:List Bn.El}(h:cr p j=some (u,l)):l.length≤28:=by
 have:=(jJ h).2
 omega
def nG(l:List Bn.El):List Bn.El:=(Sort.sort Bn.ltP l.toArray).toList
def wz(s:List Bn.El):Nat→Bool
 | 0=>false
 | i+1=>wz s i || (decide (0<i) && decide (Bn.ordP (s.getD i (0,ei)) (s.getD (i-1) (0,ei))=0))
def vK:List Bn.El→Bool
 | []=>false
 | x :: _=>gu x.2 ei
def okB(s:List Bn.El):Bool:= !(wz s s.length) && vK s
def iK(p:List UInt8):Option (List Bn.El):=if dQ p=true∧kP p=2 then(match cr p (aT p)with
 | none=>none
 | some (_,l)=>if okB (nG l)=true then some (nG l) else none) else none
abbrev pM(l:List Bn.El):VO:=Bn.rowP l.length l.toArray
abbrev usO(u:List Bool):VO:=az 116 (u.map fun b=> .sc (.bool b))
abbrev lvO(s:SV):VO:=az 79 [s]
abbrev lO(b:Bool):VO:=az 4 [.sc (.bool b)]
abbrev md(e:Int):VO:=az 28 [.sc (.int .i64 e)]
def LvAt(H:aJ)(s:SV)(l:List Bn.El)(lo hi:Nat):Prop:=(l= []∧s=dl)∨ ∃ r,l≠ []∧s = .slu r 0 l.length∧lo≤r∧r<hi∧H.at' r=some (pM l)
theorem LvAt.frame{H H':aJ}{s:SV}{l:List Bn.El}{lo hi hi':Nat}(h:LvAt H s l lo hi)(hh:hi≤hi')(hf: ∀ m,lo≤m→m<hi→H'.at' m=H.at' m):LvAt H' s l lo hi':=by
 rcases h with h|⟨r,h1,h2,h3,h4,h5⟩
 ·exact .inl h
 ·exact .inr ⟨r,h1,h2,h3,by omega,(hf r h3 h4).trans h5⟩
theorem wD{H:aJ}{nx:Nat}{p:List UInt8}(hp:p.length=1024):Fnc Tryz.prog 64 [.agg (pgS p)] H nx (fun q=>q=(.sc (.int .u8 ((kP p).toNat:Int)),H,nx)):=by
 have h12:kP p=p[12]'(by omega):=by unfold kP;rw [zk (by omega)];rfl
 rw [h12]
 refine Fnc.dp (Free.sc _) ?_
 refine Fnc.start Tryz.func64 rfl rfl ?_
 have hc:=vt (p:=p) (i:=12) (by omega)
 (repeat(first|refine aq ?_|refine ae ?_|refine ac ?_|refine aI ?_|refine aB ?_|refine aH ?_|refine bv ?_|refine bu ?_|refine a8 ?_|refine a9 rfl ?_|refine ax rfl ?_|refine au rfl ?_|refine ce rfl ?_|(apply aj;exact rfl;exact rfl;exact rfl)|(apply ai;exact rfl;exact rfl;exact rfl)|(apply aX;exact rfl;exact rfl;exact rfl;exact rfl)|(apply aO;exact rfl;exact rfl;exact rfl;exact rfl)|(apply aD;exact rfl;exact rfl;exact rfl;exact rfl)|(apply aU;exact rfl;exact rfl;exact rfl)|(apply aS;exact rfl;exact rfl;exact rfl)|(apply aR;exact rfl;exact rfl;exact rfl)|(apply ap;exact rfl;exact rfl;exact rfl;exact(F.fo _ _ rfl rfl))|(apply aN;exact rfl;exact rfl;exact rfl;exact rfl)|(apply bT;exact rfl)|(apply bS;exact rfl;exact rfl;exact rfl;exact rfl)|(apply ck;exact rfl;exact rfl)|(apply cw;exact rfl;exact rfl;exact rfl;exact rfl;exact(F.un _ rfl);exact rfl)|(apply da;exact rfl;exact rfl;exact rfl;exact rfl;exact(F.un _ rfl);exact rfl)|(apply db;exact rfl;exact rfl;exact rfl;exact rfl;exact rfl;exact(F.un _ rfl);exact rfl)|(apply c9;exact rfl;exact rfl;exact rfl;exact rfl;exact rfl;exact(F.un _ rfl);exact rfl)|refine aM rfl rfl rfl rfl (F.sz _ rfl) (by first|exact rfl|(focus((repeat(first|assumption|exact Tr.ab _ _ _|refine(Tr.aa _ _ (by omega)).trans ?_|refine(Tr.ah _ (by omega)).trans ?_));done))) rfl (by exact zn rfl) rfl ?_|(apply an;exact rfl;exact rfl;exact rfl;exact(F.ag _ rfl);exact rfl;exact rfl)|(apply ay;exact rfl;exact rfl;exact rfl;exact(F.ag _ rfl);exact rfl;exact rfl)|(apply aP;exact rfl;exact rfl;exact(F.zl _ rfl))|(apply bj;exact rfl;exact rfl;exact rfl)|(apply cJ;exact rfl;exact rfl;exact rfl;exact rfl)|(apply aK;exact rfl;exact rfl;exact rfl;exact(F.sz _ rfl);exact rfl;exact rfl;exact rfl)|(apply aE;exact rfl;exact rfl;exact rfl;exact(F.sz _ rfl);exact rfl;exact rfl;(focus(decide));exact rfl;exact rfl)|refine an rfl rfl rfl (F.ag _ rfl) (by(repeat(first|assumption|exact Tr.ab _ _ _|refine(Tr.aa _ _ (by omega)).trans ?_|refine(Tr.ah _ (by omega)).trans ?_));done) (by exact rfl) ?_|refine ay rfl rfl rfl (F.ag _ rfl) (by(repeat(first|assumption|exact Tr.ab _ _ _|refine(Tr.aa _ _ (by omega)).trans ?_|refine(Tr.ah _ (by omega)).trans ?_));done) (by exact rfl) ?_|refine aK rfl rfl rfl (F.sz _ rfl) (by(repeat(first|assumption|exact Tr.ab _ _ _|refine(Tr.aa _ _ (by omega)).trans ?_|refine(Tr.ah _ (by omega)).trans ?_));done) (by exact rfl) (by exact rfl) ?_|refine aE rfl rfl rfl (F.sz _ rfl) (by(repeat(first|assumption|exact Tr.ab _ _ _|refine(Tr.aa _ _ (by omega)).trans ?_|refine(Tr.ah _ (by omega)).trans ?_));done) rfl (by exact zn rfl) rfl (by exact rfl) ?_|(apply a6;exact rfl;exact rfl;exact rfl;exact(F.un _ rfl))|(apply be;exact rfl;exact rfl;exact rfl;exact(F.un _ rfl))|(apply bn;exact rfl;exact rfl;exact rfl;exact rfl;(focus(omega));(focus(omega)))|(apply cv;exact rfl;exact rfl;exact rfl;exact rfl;(focus(omega));(focus(omega)))|(apply cF;exact rfl;exact rfl;exact rfl;exact rfl;(focus(omega));(focus(omega)))|(apply bh;exact rfl;exact rfl;exact rfl)|(apply cV;exact rfl;exact rfl;exact rfl;exact rfl;(focus(omega));(focus(omega));(focus(omega)))|(apply bc;exact rfl;exact rfl;exact rfl;exact(F.ze _ rfl);exact(F.pl _ rfl);exact rfl)|fail|(apply iy (q:=12);exact rfl;exact rfl;exact rfl;exact rfl;exact(F.un _ rfl);exact(F.sz _ rfl);(focus(omega));(focus(omega)))|(refine jg rfl rfl rfl (F.ag _ rfl) (by(repeat(first|assumption|exact Tr.ab _ _ _|refine(Tr.aa _ _ (by omega)).trans ?_|refine(Tr.ah _ (by omega)).trans ?_));done) hc ?_)|fail))
 ((first|apply fT Tryz.func64 (congrArg Array.toList Tryz.results64)|apply bf Tryz.func64 (congrArg Array.toList Tryz.results64));(focus(repeat(first|exact ResIs.nil|apply ResIs.tmp rfl|apply ResIs.cell rfl (LoadIs.one (F.ag _ rfl) rfl (aW rfl))|apply ResIs.cell rfl (LoadIs.many (F.ag _ rfl) rfl (aw _ 0 rfl rfl))))))
 exact⟨rfl,zM _,fun m hm=>Tr.aa _ _ (by omega)⟩
end Go.Proofs.YtjjgjjlgchidlaaGreat
end
