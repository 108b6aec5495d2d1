import Derived.Sort.AssemblyPlain
import Derived.Test.YtjjgjjlgchidlaaGreatE5
set_option linter.unusedVariables false
set_option linter.unusedSimpArgs false
set_option maxRecDepth 100000
set_option maxHeartbeats 0
section
namespace Go.Proofs.YtjjgjjlgchidlaaGreat
namespace Ow
open Go Go.Sy
abbrev El:=cO×Int
abbrev elV(x:El):List Value:= [.string x.1.1,.int .i64 x.1.2.1,.int .i64 x.1.2.2,.int .i64 x.2]
abbrev elS(x:El):SV:= .agg ((elV x).map .sc)
abbrev rowP(n:Nat)(d:Array El):VO:=arr false n 4 123 elV d
theorem recP:RecOf elV 4:=⟨fun _=>rfl,fun a v hv=>by
 simp only [elV,List.mem_cons,List.not_mem_nil,or_false] at hv
 rcases hv with rfl|rfl|rfl|rfl <;> rfl⟩
def ordP(y x:El):Int:=x7 x.1 y.1
def ltP(x y:El):Bool:=decide (ordP y x<0)
abbrev cmpF:SV:= .fn (.func 69) [] []
theorem c8{A:Type} [Inhabited A](d:Array A)(i j:Nat):(Sort.swp d i j).size=d.size:=by simp [Sort.swp]
theorem cmp_spec(a b:El):Ctr Tryz.prog 69 [elS a,elS b] [] (fun c=>c=⟨.sc (.int .i64 (ordP b a)),[]⟩):=by
 refine Ctr.at 0 rfl ?_
 refine Fnc.start Tryz.func69 rfl rfl ?_
 (repeat(first|refine aq ?_|refine ae ?_|refine ac ?_|refine aI ?_|refine aB ?_|refine aH ?_|refine bv ?_|refine bu ?_|refine a8 ?_|refine a9 rfl ?_|refine ax rfl ?_|refine au rfl ?_|refine ce rfl ?_|refine aj rfl rfl rfl ?_|refine ai rfl rfl rfl ?_|refine aX rfl rfl rfl rfl ?_|refine aO rfl rfl rfl rfl ?_|refine aD rfl rfl rfl rfl ?_|refine aU rfl rfl rfl ?_|refine aS rfl rfl rfl ?_|refine aR rfl rfl rfl ?_|refine ap rfl rfl rfl (F.fo _ _ rfl rfl) ?_|refine aN rfl rfl rfl rfl ?_|refine bT rfl ?_|refine bS rfl rfl rfl rfl ?_|refine ck rfl rfl ?_|refine cw rfl rfl rfl rfl (F.un _ rfl) rfl ?_|refine da rfl rfl rfl rfl (F.un _ rfl) rfl ?_|refine db rfl rfl rfl rfl rfl (F.un _ rfl) rfl ?_|refine c9 rfl rfl rfl rfl rfl (F.un _ rfl) rfl ?_|refine aM rfl rfl rfl rfl (F.sz _ rfl) (by first|exact rfl|(focus((repeat(first|assumption|exact Tr.ab _ _ _|refine(Tr.aa _ _ (by omega)).trans ?_|refine(Tr.ah _ (by omega)).trans ?_));done))) rfl (by exact zn rfl) rfl ?_|refine an rfl rfl rfl (F.ag _ rfl) rfl rfl ?_|refine ay rfl rfl rfl (F.ag _ rfl) rfl rfl ?_|refine aP rfl rfl (F.zl _ rfl) ?_|refine bj rfl rfl rfl ?_|refine cJ rfl rfl rfl rfl ?_|refine aK rfl rfl rfl (F.sz _ rfl) rfl rfl rfl ?_|refine aE rfl rfl rfl (F.sz _ rfl) rfl rfl (by decide) rfl rfl ?_|refine an rfl rfl rfl (F.ag _ rfl) (by(repeat(first|assumption|exact Tr.ab _ _ _|refine(Tr.aa _ _ (by omega)).trans ?_|refine(Tr.ah _ (by omega)).trans ?_));done) (by exact rfl) ?_|refine ay rfl rfl rfl (F.ag _ rfl) (by(repeat(first|assumption|exact Tr.ab _ _ _|refine(Tr.aa _ _ (by omega)).trans ?_|refine(Tr.ah _ (by omega)).trans ?_));done) (by exact rfl) ?_|refine aK rfl rfl rfl (F.sz _ rfl) (by(repeat(first|assumption|exact Tr.ab _ _ _|refine(Tr.aa _ _ (by omega)).trans ?_|refine(Tr.ah _ (by omega)).trans ?_));done) (by exact rfl) (by exact rfl) ?_|refine aE rfl rfl rfl (F.sz _ rfl) (by(repeat(first|assumption|exact Tr.ab _ _ _|refine(Tr.aa _ _ (by omega)).trans ?_|refine(Tr.ah _ (by omega)).trans ?_));done) rfl (by exact zn rfl) rfl (by exact rfl) ?_|refine a6 rfl rfl rfl (F.un _ rfl) ?_|refine be rfl rfl rfl (F.un _ rfl) ?_|refine bn rfl rfl rfl rfl (by omega) (by omega) ?_|refine cv rfl rfl rfl rfl (by omega) (by omega) ?_|refine cF rfl rfl rfl rfl (by omega) (by omega) ?_|refine bh rfl rfl rfl ?_|refine cV rfl rfl rfl rfl (by omega) (by omega) (by omega) ?_|refine bc rfl rfl rfl (F.ze _ rfl) (F.pl _ rfl) rfl ?_|fail|(refine fv rfl rfl rfl (F.ag _ rfl) rfl (aw 3 0 rfl rfl) ?_)|refine fc (jN a.1 b.1) [] rfl rfl rfl (by kernel_rfl) rfl (ExtOk.of rfl) rfl trivial ?_|fail))
 (apply bf Tryz.func69 (congrArg Array.toList Tryz.results69);(focus(repeat(first|exact ResIs.nil|apply ResIs.tmp rfl|apply ResIs.cell rfl (LoadIs.one (F.ag _ rfl) rfl (aW rfl))|apply ResIs.cell rfl (LoadIs.many (F.ag _ rfl) rfl (aw _ 0 rfl rfl))))))
 (refine⟨_,rfl,Ends.val (ExtOk.of rfl) rfl ?_ ?_⟩)
 ·rfl
 ·trivial
theorem mW(n a b:Nat)(d:Array El)(hn:n<4611686018427387904)(hd:d.size=n)(hab:a≤b)(hb:b≤n) :
 Ctr Tryz.prog 113 [.slu 0 0 n,.sc (.int .i64 (a:Int)),.sc (.int .i64 (b:Int)),cmpF] [rowP n d] (fun c=>c=⟨.tup [],[some (rowP n (Sort.insertionSort ltP d a b))]⟩):=by
 refine Fnc.start Tryz.func113 rfl rfl ?_
 (repeat(first|refine aq ?_|refine ae ?_|refine ac ?_|refine aI ?_|refine aB ?_|refine aH ?_|refine bv ?_|refine bu ?_|refine a8 ?_|refine a9 rfl ?_|refine ax rfl ?_|refine au rfl ?_|refine ce rfl ?_|refine aj rfl rfl rfl ?_|refine ai rfl rfl rfl ?_|refine aX rfl rfl rfl rfl ?_|refine aO rfl rfl rfl rfl ?_|refine aD rfl rfl rfl rfl ?_|refine aU rfl rfl rfl ?_|refine aS rfl rfl rfl ?_|refine aR rfl rfl rfl ?_|refine ap rfl rfl rfl (F.fo _ _ rfl rfl) ?_|refine aN rfl rfl rfl rfl ?_|refine bT rfl ?_|refine an rfl rfl rfl (F.ag _ rfl) rfl rfl ?_|refine ay rfl rfl rfl (F.ag _ rfl) rfl rfl ?_|refine aP rfl rfl (F.zl _ rfl) ?_|refine bj rfl rfl rfl ?_|refine cJ rfl rfl rfl rfl ?_|refine aK rfl rfl rfl (F.sz _ rfl) rfl rfl rfl ?_|refine aE rfl rfl rfl (F.sz _ rfl) rfl rfl (by decide) rfl rfl ?_|refine a6 rfl rfl rfl (F.un _ rfl) ?_|refine be rfl rfl rfl (F.un _ rfl) ?_|refine bn rfl rfl rfl rfl (by omega) (by omega) ?_|refine cv rfl rfl rfl rfl (by omega) (by omega) ?_|refine cF rfl rfl rfl rfl (by omega) (by omega) ?_|refine bh rfl rfl rfl ?_|refine cV rfl rfl rfl rfl (by omega) (by omega) (by omega) ?_|refine bc rfl rfl rfl (F.ze _ rfl) (F.pl _ rfl) rfl ?_))
 refine mz 1 (fun s:Nat×Array El=> [(0,.slu 0 0 n),(1,.sc (.int .i64 (a:Int))),(2,.sc (.int .i64 (b:Int))),(3,cmpF),(8,.sc (.int .i64 (s.1:Int)))]) (fun s=> [some (rowP n s.2)]) (fun s=>s.1≤n+1∧a<s.1∧s.2.size=n∧Sort.insOuter ltP a b s.1 s.2=Sort.insertionSort ltP d a b) (fun s=>n+1-s.1) (a+1,d) []
  (fun _=>rfl) ⟨by omega,by omega,hd,rfl⟩ ?_ (fun _=>rfl) (fun _=>rfl) ?_
 ·(refine⟨(ExtOk.of rfl),rfl,(by repeat(first|exact trivial|refine⟨rfl,?_⟩|refine⟨lP (by first|omega|(simp only;omega)),?_⟩|fail)),(by repeat(first|exact trivial|refine⟨rfl,?_⟩|refine⟨c7 rfl,?_⟩|refine⟨gt rfl,?_⟩))⟩)
 rintro⟨i,d1⟩ ⟨hi,hai,hd1,ho⟩ ih
 simp only at hi hai hd1 ho ih ⊢
 (repeat(first|refine aq ?_|refine ae ?_|refine ac ?_|refine aI ?_|refine aB ?_|refine aH ?_|refine bv ?_|refine bu ?_|refine a8 ?_|refine a9 rfl ?_|refine ax rfl ?_|refine au rfl ?_|refine ce rfl ?_|refine aj rfl rfl rfl ?_|refine ai rfl rfl rfl ?_|refine aX rfl rfl rfl rfl ?_|refine aO rfl rfl rfl rfl ?_|refine aD rfl rfl rfl rfl ?_|refine aU rfl rfl rfl ?_|refine aS rfl rfl rfl ?_|refine aR rfl rfl rfl ?_|refine ap rfl rfl rfl (F.fo _ _ rfl rfl) ?_|refine aN rfl rfl rfl rfl ?_|refine bT rfl ?_|refine an rfl rfl rfl (F.ag _ rfl) rfl rfl ?_|refine ay rfl rfl rfl (F.ag _ rfl) rfl rfl ?_|refine aP rfl rfl (F.zl _ rfl) ?_|refine bj rfl rfl rfl ?_|refine cJ rfl rfl rfl rfl ?_|refine aK rfl rfl rfl (F.sz _ rfl) rfl rfl rfl ?_|refine aE rfl rfl rfl (F.sz _ rfl) rfl rfl (by decide) rfl rfl ?_|refine a6 rfl rfl rfl (F.un _ rfl) ?_|refine be rfl rfl rfl (F.un _ rfl) ?_|refine bn rfl rfl rfl rfl (by omega) (by omega) ?_|refine cv rfl rfl rfl rfl (by omega) (by omega) ?_|refine cF rfl rfl rfl rfl (by omega) (by omega) ?_|refine bh rfl rfl rfl ?_|refine cV rfl rfl rfl rfl (by omega) (by omega) (by omega) ?_|refine bc rfl rfl rfl (F.ze _ rfl) (F.pl _ rfl) rfl ?_))
 refine bR rfl rfl rfl rfl ?_ ?_
 all_goals intro h1
 ·(repeat(first|refine aq ?_|refine ae ?_|refine ac ?_|refine aI ?_|refine aB ?_|refine aH ?_|refine bv ?_|refine bu ?_|refine a8 ?_|refine a9 rfl ?_|refine ax rfl ?_|refine au rfl ?_|refine ce rfl ?_|refine aj rfl rfl rfl ?_|refine ai rfl rfl rfl ?_|refine aX rfl rfl rfl rfl ?_|refine aO rfl rfl rfl rfl ?_|refine aD rfl rfl rfl rfl ?_|refine aU rfl rfl rfl ?_|refine aS rfl rfl rfl ?_|refine aR rfl rfl rfl ?_|refine ap rfl rfl rfl (F.fo _ _ rfl rfl) ?_|refine aN rfl rfl rfl rfl ?_|refine bT rfl ?_|refine an rfl rfl rfl (F.ag _ rfl) rfl rfl ?_|refine ay rfl rfl rfl (F.ag _ rfl) rfl rfl ?_|refine aP rfl rfl (F.zl _ rfl) ?_|refine bj rfl rfl rfl ?_|refine cJ rfl rfl rfl rfl ?_|refine aK rfl rfl rfl (F.sz _ rfl) rfl rfl rfl ?_|refine aE rfl rfl rfl (F.sz _ rfl) rfl rfl (by decide) rfl rfl ?_|refine a6 rfl rfl rfl (F.un _ rfl) ?_|refine be rfl rfl rfl (F.un _ rfl) ?_|refine bn rfl rfl rfl rfl (by omega) (by omega) ?_|refine cv rfl rfl rfl rfl (by omega) (by omega) ?_|refine cF rfl rfl rfl rfl (by omega) (by omega) ?_|refine bh rfl rfl rfl ?_|refine cV rfl rfl rfl rfl (by omega) (by omega) (by omega) ?_|refine bc rfl rfl rfl (F.ze _ rfl) (F.pl _ rfl) rfl ?_))
  have ho2:Sort.insOuter ltP a b (i+1) (Sort.insInner ltP a i d1)=Sort.insertionSort ltP d a b:=by
   rw [← ho]
   conv=>rhs;rw [Sort.insOuter,if_pos (by omega)]
  refine mz 1 (fun s:Nat×Array El=> [(0,.slu 0 0 n),(1,.sc (.int .i64 (a:Int))),(2,.sc (.int .i64 (b:Int))),(3,cmpF),(8,.sc (.int .i64 (i:Int))),(9,.sc (.int .i64 (s.1:Int)))]) (fun s=> [some (rowP n s.2)]) (fun s=>s.1≤i∧s.2.size=n∧Sort.insInner ltP a s.1 s.2=Sort.insInner ltP a i d1) (fun s=>s.1) (i,d1) []
   (fun _=>rfl) ⟨by omega,hd1,rfl⟩ ?_ (fun _=>rfl) (fun _=>rfl) ?_
  ·(refine⟨(ExtOk.of rfl),rfl,(by repeat(first|exact trivial|refine⟨rfl,?_⟩|refine⟨lP (by first|omega|(simp only;omega)),?_⟩|fail)),(by repeat(first|exact trivial|refine⟨rfl,?_⟩|refine⟨c7 rfl,?_⟩|refine⟨gt rfl,?_⟩))⟩)
  rintro⟨j,d2⟩ ⟨hj,hd2,hin⟩ ihj
  simp only at hj hd2 hin ihj ⊢
  (repeat(first|refine aq ?_|refine ae ?_|refine ac ?_|refine aI ?_|refine aB ?_|refine aH ?_|refine bv ?_|refine bu ?_|refine a8 ?_|refine a9 rfl ?_|refine ax rfl ?_|refine au rfl ?_|refine ce rfl ?_|refine aj rfl rfl rfl ?_|refine ai rfl rfl rfl ?_|refine aX rfl rfl rfl rfl ?_|refine aO rfl rfl rfl rfl ?_|refine aD rfl rfl rfl rfl ?_|refine aU rfl rfl rfl ?_|refine aS rfl rfl rfl ?_|refine aR rfl rfl rfl ?_|refine ap rfl rfl rfl (F.fo _ _ rfl rfl) ?_|refine aN rfl rfl rfl rfl ?_|refine bT rfl ?_|refine an rfl rfl rfl (F.ag _ rfl) rfl rfl ?_|refine ay rfl rfl rfl (F.ag _ rfl) rfl rfl ?_|refine aP rfl rfl (F.zl _ rfl) ?_|refine bj rfl rfl rfl ?_|refine cJ rfl rfl rfl rfl ?_|refine aK rfl rfl rfl (F.sz _ rfl) rfl rfl rfl ?_|refine aE rfl rfl rfl (F.sz _ rfl) rfl rfl (by decide) rfl rfl ?_|refine a6 rfl rfl rfl (F.un _ rfl) ?_|refine be rfl rfl rfl (F.un _ rfl) ?_|refine bn rfl rfl rfl rfl (by omega) (by omega) ?_|refine cv rfl rfl rfl rfl (by omega) (by omega) ?_|refine cF rfl rfl rfl rfl (by omega) (by omega) ?_|refine bh rfl rfl rfl ?_|refine cV rfl rfl rfl rfl (by omega) (by omega) (by omega) ?_|refine bc rfl rfl rfl (F.ze _ rfl) (F.pl _ rfl) rfl ?_))
  refine lY (by kernel_rfl) (by kernel_rfl) ?_
  (repeat(first|refine bD rfl rfl rfl ?_|refine bY rfl rfl rfl ?_|refine bP rfl rfl rfl rfl ?_|refine cp rfl rfl rfl rfl ?_|refine cU rfl rfl rfl rfl ?_|refine bX rfl rfl rfl ?_|refine cu rfl rfl rfl ?_|refine ct rfl rfl rfl ?_|refine bm rfl rfl rfl (F.fo _ _ rfl rfl) ?_|refine cx rfl rfl rfl rfl ?_|refine bx rfl rfl rfl (F.ag _ rfl) rfl rfl ?_|refine bI rfl rfl rfl (F.ag _ rfl) rfl rfl ?_|refine dF rfl rfl (F.zl _ rfl) ?_|refine eP rfl rfl rfl ?_|refine gr rfl rfl rfl rfl ?_|refine bO rfl rfl rfl (F.sz _ rfl) rfl rfl rfl ?_|refine cW rfl rfl rfl (F.sz _ rfl) rfl rfl (by decide) rfl rfl ?_|refine d7 rfl rfl rfl (F.un _ rfl) ?_|refine dx rfl rfl rfl (F.un _ rfl) ?_|refine fJ rfl rfl rfl rfl (by omega) (by omega) ?_|refine eS rfl rfl rfl rfl (by omega) (by omega) ?_|refine gq rfl rfl rfl rfl (by omega) (by omega) ?_|refine dS rfl rfl rfl ?_|refine gp rfl rfl rfl rfl (by omega) (by omega) (by omega) ?_|refine cQ rfl rfl rfl (F.ze _ rfl) (F.pl _ rfl) rfl ?_|refine cZ rfl rfl ?_))
  refine lD rfl rfl rfl rfl ?_ ?_
  all_goals intro h2
  ·obtain⟨j,rfl⟩: ∃ j',j=j'+1:=⟨j-1,by omega⟩
   (repeat(first|refine bD rfl rfl rfl ?_|refine bY rfl rfl rfl ?_|refine bP rfl rfl rfl rfl ?_|refine cp rfl rfl rfl rfl ?_|refine cU rfl rfl rfl rfl ?_|refine bX rfl rfl rfl ?_|refine cu rfl rfl rfl ?_|refine ct rfl rfl rfl ?_|refine bm rfl rfl rfl (F.fo _ _ rfl rfl) ?_|refine cx rfl rfl rfl rfl ?_|refine bx rfl rfl rfl (F.ag _ rfl) rfl rfl ?_|refine bI rfl rfl rfl (F.ag _ rfl) rfl rfl ?_|refine dF rfl rfl (F.zl _ rfl) ?_|refine eP rfl rfl rfl ?_|refine gr rfl rfl rfl rfl ?_|refine bO rfl rfl rfl (F.sz _ rfl) rfl rfl rfl ?_|refine cW rfl rfl rfl (F.sz _ rfl) rfl rfl (by decide) rfl rfl ?_|refine d7 rfl rfl rfl (F.un _ rfl) ?_|refine dx rfl rfl rfl (F.un _ rfl) ?_|refine fJ rfl rfl rfl rfl (by omega) (by omega) ?_|refine eS rfl rfl rfl rfl (by omega) (by omega) ?_|refine gq rfl rfl rfl rfl (by omega) (by omega) ?_|refine dS rfl rfl rfl ?_|refine gp rfl rfl rfl rfl (by omega) (by omega) (by omega) ?_|refine cQ rfl rfl rfl (F.ze _ rfl) (F.pl _ rfl) rfl ?_|refine cZ rfl rfl ?_|refine dK (q:=j+1) rfl rfl rfl rfl (F.un _ rfl) (F.sz _ rfl) rfl (by omega) (by omega) (by omega) ?_|refine dK (q:=j) rfl rfl rfl rfl (F.un _ rfl) (F.sz _ rfl) rfl (by omega) (by omega) (by omega) ?_|refine oG rfl rfl rfl (F.ag _ rfl) (recP) rfl (by first|omega|(simp only [zj,c8];omega)) (by first|omega|(simp only [zj,c8];omega)) ?_|refine ng rfl rfl rfl rfl (by kernel_rfl) rfl (Ctr.callV (cmp_spec d2[j+1]! d2[j]!) [] rfl (ExtOk.of rfl) rfl trivial rfl) ?_))
   refine t9 rfl rfl rfl rfl ?_ ?_
   all_goals intro h3
   ·(repeat(first|refine bD rfl rfl rfl ?_|refine bY rfl rfl rfl ?_|refine bP rfl rfl rfl rfl ?_|refine cp rfl rfl rfl rfl ?_|refine cU rfl rfl rfl rfl ?_|refine bX rfl rfl rfl ?_|refine cu rfl rfl rfl ?_|refine ct rfl rfl rfl ?_|refine bm rfl rfl rfl (F.fo _ _ rfl rfl) ?_|refine cx rfl rfl rfl rfl ?_|refine bx rfl rfl rfl (F.ag _ rfl) rfl rfl ?_|refine bI rfl rfl rfl (F.ag _ rfl) rfl rfl ?_|refine dF rfl rfl (F.zl _ rfl) ?_|refine eP rfl rfl rfl ?_|refine gr rfl rfl rfl rfl ?_|refine bO rfl rfl rfl (F.sz _ rfl) rfl rfl rfl ?_|refine cW rfl rfl rfl (F.sz _ rfl) rfl rfl (by decide) rfl rfl ?_|refine d7 rfl rfl rfl (F.un _ rfl) ?_|refine dx rfl rfl rfl (F.un _ rfl) ?_|refine fJ rfl rfl rfl rfl (by omega) (by omega) ?_|refine eS rfl rfl rfl rfl (by omega) (by omega) ?_|refine gq rfl rfl rfl rfl (by omega) (by omega) ?_|refine dS rfl rfl rfl ?_|refine gp rfl rfl rfl rfl (by omega) (by omega) (by omega) ?_|refine cQ rfl rfl rfl (F.ze _ rfl) (F.pl _ rfl) rfl ?_|refine cZ rfl rfl ?_))
    (refine bZ ?_);(refine⟨by kernel_rfl,?_,?_⟩);(focus(repeat(first|exact trivial|refine⟨.inl rfl,?_⟩|refine⟨.inr (by(repeat(refine⟨(by first|exact fq rfl|exact cH rfl rfl (.inr (.inr (.inr (.inr (.inl ⟨rfl,rfl⟩)))))|exact eL (F.un _ rfl) (F.sz _ rfl) rfl rfl rfl (by omega) (by omega) (by omega)|exact bU rfl rfl (.inl ⟨rfl,(zi _ ⟨by omega,by omega⟩).symm⟩)|exact bU rfl rfl (.inr (.inl ⟨rfl,(zi _ ⟨by omega,by omega⟩).symm⟩))|exact bw (F.fo _ _ rfl rfl) rfl|exact bC rfl|exact ch rfl|exact aZ (F.ag _ rfl) rfl rfl (aW rfl)|exact bg (F.ag _ rfl) rfl rfl (aw _ 0 rfl rfl)|exact dz rfl rfl|exact ek (F.un _ rfl) rfl|exact dU (F.un _ rfl) rfl|exact cj rfl|exact ci rfl rfl|exact cC rfl rfl),?_⟩));exact trivial),?_⟩|refine⟨.inl (by kernel_rfl),?_⟩)))
    (repeat(first|refine aq ?_|refine ae ?_|refine ac ?_|refine aI ?_|refine aB ?_|refine aH ?_|refine bv ?_|refine bu ?_|refine a8 ?_|refine a9 rfl ?_|refine ax rfl ?_|refine au rfl ?_|refine ce rfl ?_|refine aj rfl rfl rfl ?_|refine ai rfl rfl rfl ?_|refine aX rfl rfl rfl rfl ?_|refine aO rfl rfl rfl rfl ?_|refine aD rfl rfl rfl rfl ?_|refine aU rfl rfl rfl ?_|refine aS rfl rfl rfl ?_|refine aR rfl rfl rfl ?_|refine ap rfl rfl rfl (F.fo _ _ rfl rfl) ?_|refine aN rfl rfl rfl rfl ?_|refine bT rfl ?_|refine an rfl rfl rfl (F.ag _ rfl) rfl rfl ?_|refine ay rfl rfl rfl (F.ag _ rfl) rfl rfl ?_|refine aP rfl rfl (F.zl _ rfl) ?_|refine bj rfl rfl rfl ?_|refine cJ rfl rfl rfl rfl ?_|refine aK rfl rfl rfl (F.sz _ rfl) rfl rfl rfl ?_|refine aE rfl rfl rfl (F.sz _ rfl) rfl rfl (by decide) rfl rfl ?_|refine a6 rfl rfl rfl (F.un _ rfl) ?_|refine be rfl rfl rfl (F.un _ rfl) ?_|refine bn rfl rfl rfl rfl (by omega) (by omega) ?_|refine cv rfl rfl rfl rfl (by omega) (by omega) ?_|refine cF rfl rfl rfl rfl (by omega) (by omega) ?_|refine bh rfl rfl rfl ?_|refine cV rfl rfl rfl rfl (by omega) (by omega) (by omega) ?_|refine bc rfl rfl rfl (F.ze _ rfl) (F.pl _ rfl) rfl ?_))
    refine lY (by kernel_rfl) (by kernel_rfl) ?_
    (repeat(first|refine bD rfl rfl rfl ?_|refine bY rfl rfl rfl ?_|refine bP rfl rfl rfl rfl ?_|refine cp rfl rfl rfl rfl ?_|refine cU rfl rfl rfl rfl ?_|refine bX rfl rfl rfl ?_|refine cu rfl rfl rfl ?_|refine ct rfl rfl rfl ?_|refine bm rfl rfl rfl (F.fo _ _ rfl rfl) ?_|refine cx rfl rfl rfl rfl ?_|refine bx rfl rfl rfl (F.ag _ rfl) rfl rfl ?_|refine bI rfl rfl rfl (F.ag _ rfl) rfl rfl ?_|refine dF rfl rfl (F.zl _ rfl) ?_|refine eP rfl rfl rfl ?_|refine gr rfl rfl rfl rfl ?_|refine bO rfl rfl rfl (F.sz _ rfl) rfl rfl rfl ?_|refine cW rfl rfl rfl (F.sz _ rfl) rfl rfl (by decide) rfl rfl ?_|refine d7 rfl rfl rfl (F.un _ rfl) ?_|refine dx rfl rfl rfl (F.un _ rfl) ?_|refine fJ rfl rfl rfl rfl (by omega) (by omega) ?_|refine eS rfl rfl rfl rfl (by omega) (by omega) ?_|refine gq rfl rfl rfl rfl (by omega) (by omega) ?_|refine dS rfl rfl rfl ?_|refine gp rfl rfl rfl rfl (by omega) (by omega) (by omega) ?_|refine cQ rfl rfl rfl (F.ze _ rfl) (F.pl _ rfl) rfl ?_|refine cZ rfl rfl ?_|refine dK (q:=j+1) rfl rfl rfl rfl (F.un _ rfl) (F.sz _ rfl) rfl (by omega) (by omega) (by omega) ?_|refine dK (q:=j) rfl rfl rfl rfl (F.un _ rfl) (F.sz _ rfl) rfl (by omega) (by omega) (by omega) ?_|refine oG rfl rfl rfl (F.ag _ rfl) (recP) rfl (by first|omega|(simp only [zj,c8];omega)) (by first|omega|(simp only [zj,c8];omega)) ?_|refine wy rfl rfl rfl (recP) (F.sz _ rfl) rfl (by first|omega|(simp only [zj,c8];omega)) (by first|omega|(simp only [zj,c8];omega)) ?_))
    (refine bZ ?_);(refine⟨by kernel_rfl,?_,?_⟩);(focus(repeat(first|exact trivial|refine⟨.inl rfl,?_⟩|refine⟨.inr (by(repeat(refine⟨(by first|exact fq rfl|exact cH rfl rfl (.inr (.inr (.inr (.inr (.inl ⟨rfl,rfl⟩)))))|exact eL (F.un _ rfl) (F.sz _ rfl) rfl rfl rfl (by omega) (by omega) (by omega)|exact bU rfl rfl (.inl ⟨rfl,(zi _ ⟨by omega,by omega⟩).symm⟩)|exact bU rfl rfl (.inr (.inl ⟨rfl,(zi _ ⟨by omega,by omega⟩).symm⟩))|exact bw (F.fo _ _ rfl rfl) rfl|exact bC rfl|exact ch rfl|exact aZ (F.ag _ rfl) rfl rfl (aW rfl)|exact bg (F.ag _ rfl) rfl rfl (aw _ 0 rfl rfl)|exact dz rfl rfl|exact ek (F.un _ rfl) rfl|exact dU (F.un _ rfl) rfl|exact cj rfl|exact ci rfl rfl|exact cC rfl rfl),?_⟩));exact trivial),?_⟩|refine⟨.inl (by kernel_rfl),?_⟩)))
    (repeat(first|refine aq ?_|refine ae ?_|refine ac ?_|refine aI ?_|refine aB ?_|refine aH ?_|refine bv ?_|refine bu ?_|refine a8 ?_|refine a9 rfl ?_|refine ax rfl ?_|refine au rfl ?_|refine ce rfl ?_|refine aj rfl rfl rfl ?_|refine ai rfl rfl rfl ?_|refine aX rfl rfl rfl rfl ?_|refine aO rfl rfl rfl rfl ?_|refine aD rfl rfl rfl rfl ?_|refine aU rfl rfl rfl ?_|refine aS rfl rfl rfl ?_|refine aR rfl rfl rfl ?_|refine ap rfl rfl rfl (F.fo _ _ rfl rfl) ?_|refine aN rfl rfl rfl rfl ?_|refine bT rfl ?_|refine an rfl rfl rfl (F.ag _ rfl) rfl rfl ?_|refine ay rfl rfl rfl (F.ag _ rfl) rfl rfl ?_|refine aP rfl rfl (F.zl _ rfl) ?_|refine bj rfl rfl rfl ?_|refine cJ rfl rfl rfl rfl ?_|refine aK rfl rfl rfl (F.sz _ rfl) rfl rfl rfl ?_|refine aE rfl rfl rfl (F.sz _ rfl) rfl rfl (by decide) rfl rfl ?_|refine a6 rfl rfl rfl (F.un _ rfl) ?_|refine be rfl rfl rfl (F.un _ rfl) ?_|refine bn rfl rfl rfl rfl (by omega) (by omega) ?_|refine cv rfl rfl rfl rfl (by omega) (by omega) ?_|refine cF rfl rfl rfl rfl (by omega) (by omega) ?_|refine bh rfl rfl rfl ?_|refine cV rfl rfl rfl rfl (by omega) (by omega) (by omega) ?_|refine bc rfl rfl rfl (F.ze _ rfl) (F.pl _ rfl) rfl ?_))
    refine ihj _ _ _ (j,Sort.swp d2 (j+1) j) [] ⟨by omega,by rw [c8];exact hd2,?_⟩ (by simp only;omega) ?_
    ·rw [← hin]
     conv=>rhs;rw [Sort.insInner,if_pos (by simp only [ltP,zC,decide_eq_true_eq];exact⟨by omega,h3⟩)]
    ·(refine⟨(ExtOk.of rfl),rfl,(by repeat(first|exact trivial|refine⟨rfl,?_⟩|refine⟨lP (by first|omega|(simp only;omega)),?_⟩|fail)),(by repeat(first|exact trivial|refine⟨rfl,?_⟩|refine⟨c7 rfl,?_⟩|refine⟨gt rfl,?_⟩))⟩)
   ·(repeat(first|refine bD rfl rfl rfl ?_|refine bY rfl rfl rfl ?_|refine bP rfl rfl rfl rfl ?_|refine cp rfl rfl rfl rfl ?_|refine cU rfl rfl rfl rfl ?_|refine bX rfl rfl rfl ?_|refine cu rfl rfl rfl ?_|refine ct rfl rfl rfl ?_|refine bm rfl rfl rfl (F.fo _ _ rfl rfl) ?_|refine cx rfl rfl rfl rfl ?_|refine bx rfl rfl rfl (F.ag _ rfl) rfl rfl ?_|refine bI rfl rfl rfl (F.ag _ rfl) rfl rfl ?_|refine dF rfl rfl (F.zl _ rfl) ?_|refine eP rfl rfl rfl ?_|refine gr rfl rfl rfl rfl ?_|refine bO rfl rfl rfl (F.sz _ rfl) rfl rfl rfl ?_|refine cW rfl rfl rfl (F.sz _ rfl) rfl rfl (by decide) rfl rfl ?_|refine d7 rfl rfl rfl (F.un _ rfl) ?_|refine dx rfl rfl rfl (F.un _ rfl) ?_|refine fJ rfl rfl rfl rfl (by omega) (by omega) ?_|refine eS rfl rfl rfl rfl (by omega) (by omega) ?_|refine gq rfl rfl rfl rfl (by omega) (by omega) ?_|refine dS rfl rfl rfl ?_|refine gp rfl rfl rfl rfl (by omega) (by omega) (by omega) ?_|refine cQ rfl rfl rfl (F.ze _ rfl) (F.pl _ rfl) rfl ?_|refine cZ rfl rfl ?_))
    (refine bZ ?_);(refine⟨by kernel_rfl,?_,?_⟩);(focus(repeat(first|exact trivial|refine⟨.inl rfl,?_⟩|refine⟨.inr (by(repeat(refine⟨(by first|exact fq rfl|exact cH rfl rfl (.inr (.inr (.inr (.inr (.inl ⟨rfl,rfl⟩)))))|exact eL (F.un _ rfl) (F.sz _ rfl) rfl rfl rfl (by omega) (by omega) (by omega)|exact bU rfl rfl (.inl ⟨rfl,(zi _ ⟨by omega,by omega⟩).symm⟩)|exact bU rfl rfl (.inr (.inl ⟨rfl,(zi _ ⟨by omega,by omega⟩).symm⟩))|exact bw (F.fo _ _ rfl rfl) rfl|exact bC rfl|exact ch rfl|exact aZ (F.ag _ rfl) rfl rfl (aW rfl)|exact bg (F.ag _ rfl) rfl rfl (aw _ 0 rfl rfl)|exact dz rfl rfl|exact ek (F.un _ rfl) rfl|exact dU (F.un _ rfl) rfl|exact cj rfl|exact ci rfl rfl|exact cC rfl rfl),?_⟩));exact trivial),?_⟩|refine⟨.inl (by kernel_rfl),?_⟩)))
    (repeat(first|refine aq ?_|refine ae ?_|refine ac ?_|refine aI ?_|refine aB ?_|refine aH ?_|refine bv ?_|refine bu ?_|refine a8 ?_|refine a9 rfl ?_|refine ax rfl ?_|refine au rfl ?_|refine ce rfl ?_|refine aj rfl rfl rfl ?_|refine ai rfl rfl rfl ?_|refine aX rfl rfl rfl rfl ?_|refine aO rfl rfl rfl rfl ?_|refine aD rfl rfl rfl rfl ?_|refine aU rfl rfl rfl ?_|refine aS rfl rfl rfl ?_|refine aR rfl rfl rfl ?_|refine ap rfl rfl rfl (F.fo _ _ rfl rfl) ?_|refine aN rfl rfl rfl rfl ?_|refine bT rfl ?_|refine an rfl rfl rfl (F.ag _ rfl) rfl rfl ?_|refine ay rfl rfl rfl (F.ag _ rfl) rfl rfl ?_|refine aP rfl rfl (F.zl _ rfl) ?_|refine bj rfl rfl rfl ?_|refine cJ rfl rfl rfl rfl ?_|refine aK rfl rfl rfl (F.sz _ rfl) rfl rfl rfl ?_|refine aE rfl rfl rfl (F.sz _ rfl) rfl rfl (by decide) rfl rfl ?_|refine a6 rfl rfl rfl (F.un _ rfl) ?_|refine be rfl rfl rfl (F.un _ rfl) ?_|refine bn rfl rfl rfl rfl (by omega) (by omega) ?_|refine cv rfl rfl rfl rfl (by omega) (by omega) ?_|refine cF rfl rfl rfl rfl (by omega) (by omega) ?_|refine bh rfl rfl rfl ?_|refine cV rfl rfl rfl rfl (by omega) (by omega) (by omega) ?_|refine bc rfl rfl rfl (F.ze _ rfl) (F.pl _ rfl) rfl ?_))
    have hin2:Sort.insInner ltP a i d1=d2:=by
     rw [← hin,Sort.insInner,if_neg (by simp only [ltP,zC,decide_eq_true_eq];omega)]
    refine ih _ _ _ (i+1,d2) [] ⟨by omega,by omega,hd2,by rw [← hin2];exact ho2⟩ (by simp only;omega) ?_
    (refine⟨(ExtOk.of rfl),rfl,(by repeat(first|exact trivial|refine⟨rfl,?_⟩|refine⟨lP (by first|omega|(simp only;omega)),?_⟩|fail)),(by repeat(first|exact trivial|refine⟨rfl,?_⟩|refine⟨c7 rfl,?_⟩|refine⟨gt rfl,?_⟩))⟩)
  ·(repeat(first|refine bD rfl rfl rfl ?_|refine bY rfl rfl rfl ?_|refine bP rfl rfl rfl rfl ?_|refine cp rfl rfl rfl rfl ?_|refine cU rfl rfl rfl rfl ?_|refine bX rfl rfl rfl ?_|refine cu rfl rfl rfl ?_|refine ct rfl rfl rfl ?_|refine bm rfl rfl rfl (F.fo _ _ rfl rfl) ?_|refine cx rfl rfl rfl rfl ?_|refine bx rfl rfl rfl (F.ag _ rfl) rfl rfl ?_|refine bI rfl rfl rfl (F.ag _ rfl) rfl rfl ?_|refine dF rfl rfl (F.zl _ rfl) ?_|refine eP rfl rfl rfl ?_|refine gr rfl rfl rfl rfl ?_|refine bO rfl rfl rfl (F.sz _ rfl) rfl rfl rfl ?_|refine cW rfl rfl rfl (F.sz _ rfl) rfl rfl (by decide) rfl rfl ?_|refine d7 rfl rfl rfl (F.un _ rfl) ?_|refine dx rfl rfl rfl (F.un _ rfl) ?_|refine fJ rfl rfl rfl rfl (by omega) (by omega) ?_|refine eS rfl rfl rfl rfl (by omega) (by omega) ?_|refine gq rfl rfl rfl rfl (by omega) (by omega) ?_|refine dS rfl rfl rfl ?_|refine gp rfl rfl rfl rfl (by omega) (by omega) (by omega) ?_|refine cQ rfl rfl rfl (F.ze _ rfl) (F.pl _ rfl) rfl ?_|refine cZ rfl rfl ?_))
   (refine bZ ?_);(refine⟨by kernel_rfl,?_,?_⟩);(focus(repeat(first|exact trivial|refine⟨.inl rfl,?_⟩|refine⟨.inr (by(repeat(refine⟨(by first|exact fq rfl|exact cH rfl rfl (.inr (.inr (.inr (.inr (.inl ⟨rfl,rfl⟩)))))|exact eL (F.un _ rfl) (F.sz _ rfl) rfl rfl rfl (by omega) (by omega) (by omega)|exact bU rfl rfl (.inl ⟨rfl,(zi _ ⟨by omega,by omega⟩).symm⟩)|exact bU rfl rfl (.inr (.inl ⟨rfl,(zi _ ⟨by omega,by omega⟩).symm⟩))|exact bw (F.fo _ _ rfl rfl) rfl|exact bC rfl|exact ch rfl|exact aZ (F.ag _ rfl) rfl rfl (aW rfl)|exact bg (F.ag _ rfl) rfl rfl (aw _ 0 rfl rfl)|exact dz rfl rfl|exact ek (F.un _ rfl) rfl|exact dU (F.un _ rfl) rfl|exact cj rfl|exact ci rfl rfl|exact cC rfl rfl),?_⟩));exact trivial),?_⟩|refine⟨.inl (by kernel_rfl),?_⟩)))
   (repeat(first|refine aq ?_|refine ae ?_|refine ac ?_|refine aI ?_|refine aB ?_|refine aH ?_|refine bv ?_|refine bu ?_|refine a8 ?_|refine a9 rfl ?_|refine ax rfl ?_|refine au rfl ?_|refine ce rfl ?_|refine aj rfl rfl rfl ?_|refine ai rfl rfl rfl ?_|refine aX rfl rfl rfl rfl ?_|refine aO rfl rfl rfl rfl ?_|refine aD rfl rfl rfl rfl ?_|refine aU rfl rfl rfl ?_|refine aS rfl rfl rfl ?_|refine aR rfl rfl rfl ?_|refine ap rfl rfl rfl (F.fo _ _ rfl rfl) ?_|refine aN rfl rfl rfl rfl ?_|refine bT rfl ?_|refine an rfl rfl rfl (F.ag _ rfl) rfl rfl ?_|refine ay rfl rfl rfl (F.ag _ rfl) rfl rfl ?_|refine aP rfl rfl (F.zl _ rfl) ?_|refine bj rfl rfl rfl ?_|refine cJ rfl rfl rfl rfl ?_|refine aK rfl rfl rfl (F.sz _ rfl) rfl rfl rfl ?_|refine aE rfl rfl rfl (F.sz _ rfl) rfl rfl (by decide) rfl rfl ?_|refine a6 rfl rfl rfl (F.un _ rfl) ?_|refine be rfl rfl rfl (F.un _ rfl) ?_|refine bn rfl rfl rfl rfl (by omega) (by omega) ?_|refine cv rfl rfl rfl rfl (by omega) (by omega) ?_|refine cF rfl rfl rfl rfl (by omega) (by omega) ?_|refine bh rfl rfl rfl ?_|refine cV rfl rfl rfl rfl (by omega) (by omega) (by omega) ?_|refine bc rfl rfl rfl (F.ze _ rfl) (F.pl _ rfl) rfl ?_))
   have hin2:Sort.insInner ltP a i d1=d2:=by
    rw [← hin]
    cases j with
    | zero=>rfl
    | succ j=>rw [Sort.insInner,if_neg (by simp only [zC,decide_eq_true_eq];omega)]
   refine ih _ _ _ (i+1,d2) [] ⟨by omega,by omega,hd2,by rw [← hin2];exact ho2⟩ (by simp only;omega) ?_
   (refine⟨(ExtOk.of rfl),rfl,(by repeat(first|exact trivial|refine⟨rfl,?_⟩|refine⟨lP (by first|omega|(simp only;omega)),?_⟩|fail)),(by repeat(first|exact trivial|refine⟨rfl,?_⟩|refine⟨c7 rfl,?_⟩|refine⟨gt rfl,?_⟩))⟩)
 ·(repeat(first|refine aq ?_|refine ae ?_|refine ac ?_|refine aI ?_|refine aB ?_|refine aH ?_|refine bv ?_|refine bu ?_|refine a8 ?_|refine a9 rfl ?_|refine ax rfl ?_|refine au rfl ?_|refine ce rfl ?_|refine aj rfl rfl rfl ?_|refine ai rfl rfl rfl ?_|refine aX rfl rfl rfl rfl ?_|refine aO rfl rfl rfl rfl ?_|refine aD rfl rfl rfl rfl ?_|refine aU rfl rfl rfl ?_|refine aS rfl rfl rfl ?_|refine aR rfl rfl rfl ?_|refine ap rfl rfl rfl (F.fo _ _ rfl rfl) ?_|refine aN rfl rfl rfl rfl ?_|refine bT rfl ?_|refine an rfl rfl rfl (F.ag _ rfl) rfl rfl ?_|refine ay rfl rfl rfl (F.ag _ rfl) rfl rfl ?_|refine aP rfl rfl (F.zl _ rfl) ?_|refine bj rfl rfl rfl ?_|refine cJ rfl rfl rfl rfl ?_|refine aK rfl rfl rfl (F.sz _ rfl) rfl rfl rfl ?_|refine aE rfl rfl rfl (F.sz _ rfl) rfl rfl (by decide) rfl rfl ?_|refine a6 rfl rfl rfl (F.un _ rfl) ?_|refine be rfl rfl rfl (F.un _ rfl) ?_|refine bn rfl rfl rfl rfl (by omega) (by omega) ?_|refine cv rfl rfl rfl rfl (by omega) (by omega) ?_|refine cF rfl rfl rfl rfl (by omega) (by omega) ?_|refine bh rfl rfl rfl ?_|refine cV rfl rfl rfl rfl (by omega) (by omega) (by omega) ?_|refine bc rfl rfl rfl (F.ze _ rfl) (F.pl _ rfl) rfl ?_))
  have ho2:d1=Sort.insertionSort ltP d a b:=by rw [← ho,Sort.insOuter,if_neg (by omega)]
  apply fT Tryz.func113 (congrArg Array.toList Tryz.results113)
  (focus(repeat(first|exact ResIs.nil|apply ResIs.tmp rfl|apply ResIs.cell rfl (LoadIs.one (F.ag _ rfl) rfl (aW rfl))|apply ResIs.cell rfl (LoadIs.many (F.ag _ rfl) rfl (aw _ 0 rfl rfl)))))
  refine⟨_,rfl,Ends.mk [] (ExtOk.of rfl) rfl rfl ?_⟩
  rw [← ho2]
  exact(by repeat(first|exact trivial|refine⟨rfl,?_⟩|refine⟨c7 rfl,?_⟩|refine⟨gt rfl,?_⟩))
end Ow
end Go.Proofs.YtjjgjjlgchidlaaGreat
end
section
namespace Go.Proofs.YtjjgjjlgchidlaaGreat
namespace Ow
open Go Go.Sy
abbrev zb:SV:= .sc (.func (.func 69) #[] #[])
abbrev ArP:=Array El
theorem lh(n limit:Nat)(d:ArP)(hn:n≤12)(hd:d.size=n)(hl:limit<4611686018427387904) :
 Ctr Tryz.prog 95 [.slu 0 0 n,.sc (.int .i64 0),.sc (.int .i64 (n:Int)),.sc (.int .i64 (limit:Int)),cmpF] [rowP n d] (fun c=>c=⟨.tup [],[some (rowP n (Sort.insertionSort ltP d 0 n))]⟩):=by
 have hi:=mW n 0 n d (by omega) hd (by omega) (by omega)
 refine Fnc.start Tryz.func95 rfl rfl ?_
 (repeat(first|refine aq ?_|refine ae ?_|refine ac ?_|refine aI ?_|refine aj rfl rfl rfl ?_|refine ai rfl rfl rfl ?_|refine cv rfl rfl rfl rfl (by omega) (by omega) ?_|refine jd ?_))
 refine lX rfl rfl rfl rfl ?_ ?_
 all_goals intro h1
 ·(repeat(first|refine aq ?_|refine ae ?_|refine ac ?_|refine ax rfl ?_|refine aj rfl rfl rfl ?_|refine ku rfl rfl rfl (by kernel_rfl) (Ctr.qT (hi) [0] rfl (ExtOk.of rfl) rfl (by repeat(first|exact trivial|refine⟨c7 rfl,?_⟩)) rfl (by repeat(first|exact trivial|refine⟨im,?_⟩)) (fun _=>rfl) rfl rfl) ?_))
  ((apply bf Tryz.func95 (congrArg Array.toList Tryz.results95));(focus(repeat(exact ResIs.nil)));refine⟨_,rfl,Ends.mk [] (ExtOk.of rfl) rfl rfl ?_⟩)
  exact(by repeat(first|exact trivial|refine⟨c7 rfl,?_⟩))
 ·exact absurd h1 (by omega)
theorem sort_spec(n:Nat)(d:ArP)(hn:n≤12)(hd:d.size=n) :
 Ctr Tryz.prog 68 [.slu 0 0 n,zb] [rowP n d] (fun c=>c=⟨.tup [],[some (rowP n (Sort.sort ltP d))]⟩):=by
 have h16:=oO (x:=n) (by omega)
 refine Fnc.start Tryz.func68 rfl rfl ?_
 refine se (d:=1) (s:=zb) (s':=cmpF) rfl (fun e v h=>by simpa [SV.conc,SV.aQ] using h) ?_
 have hp:=lh n (Sort.bitsLen n) d hn hd (by omega)
 have hs:Sort.insertionSort ltP d 0 n=Sort.sort ltP d:=by unfold Sort.sort;rw [hd,Sort.pdq,if_pos (by omega)]
 rw [hs] at hp
 (repeat(first|refine aq ?_|refine ae ?_|refine ac ?_|refine aj rfl rfl rfl ?_|refine ai rfl rfl rfl ?_|refine a6 rfl rfl rfl (F.un _ rfl) ?_|refine eR rfl rfl rfl (F.un _ rfl) (F.un _ rfl) (show _=(n:Int)from Go.IntWalk.u64_in _ ⟨by omega,by omega⟩) ?_|refine fc (qq n (by omega)) [] rfl rfl rfl (by kernel_rfl) rfl (ExtOk.of rfl) rfl trivial ?_|refine ku rfl rfl rfl (by kernel_rfl) (Ctr.qT (hp) [0] rfl (ExtOk.of rfl) rfl (by repeat(first|exact trivial|refine⟨c7 rfl,?_⟩)) rfl (by repeat(first|exact trivial|refine⟨im,?_⟩)) (fun _=>rfl) rfl rfl) ?_))
 ((apply fT Tryz.func68 (congrArg Array.toList Tryz.results68));(focus(repeat(exact ResIs.nil)));refine⟨_,rfl,Ends.mk [] (ExtOk.of rfl) rfl rfl ?_⟩)
 exact(by repeat(first|exact trivial|refine⟨c7 rfl,?_⟩))
theorem ft: ∀ l:List (El),(l.flatMap elV).length=l.length*4
 | []=>rfl
 | a :: l=>by
   rw [List.flatMap_cons,zH,ft l]
   show 4+l.length*4=(l.length+1)*4
   omega
end Ow
end Go.Proofs.YtjjgjjlgchidlaaGreat
end
section
namespace Go.Proofs.YtjjgjjlgchidlaaGreat
open Go Go.Sy Go.Sl Go.RowKit
theorem lr(a b:cO):eI a b=true↔bLt a.1 b.1=true∨(a.1=b.1∧(a.2.1<b.2.1∨a.2.1=b.2.1∧a.2.2<b.2.2)):=by
 by_cases h:a.1=b.1
 ·rw [qp (by simp only [bne,(MapKept.bytes_beq a.1 b.1).2 h];rfl),decide_eq_true_eq]
  constructor
  ·intro h2;exact .inr ⟨h,h2⟩
  ·rintro(h2|⟨_,h2⟩)
   ·rw [h,fN] at h2;cases h2
   ·exact h2
 ·rw [qo (by cases hh:(a.1 == b.1)with|true=>exact absurd ((MapKept.bytes_beq a.1 b.1).1 hh) h|false=>simp only [bne,hh];rfl)]
  exact⟨.inl,fun h2=>h2.resolve_right fun h3=>h h3.1⟩
theorem oe(a:cO):eI a a=false:=by
 cases h:eI a a with
 | false=>rfl
 | true=>
   rcases(lr a a).1 h with h|⟨_,h⟩
   ·rw [fN] at h;cases h
   ·omega
theorem lq{a b c:cO}(h1:eI a b=true)(h2:eI b c=true):eI a c=true:=by
 rw [lr] at h1 h2 ⊢
 rcases h1 with h1|⟨e1,h1⟩
 ·rcases h2 with h2|⟨e2,h2⟩
  ·exact .inl (oQ h1 h2)
  ·exact .inl (e2 ▸ h1)
 ·rcases h2 with h2|⟨e2,h2⟩
  ·exact .inl (e1 ▸ h2)
  ·exact .inr ⟨e1.trans e2,by omega⟩
theorem tI{a b:cO}(h1:eI a b=false)(h2:eI b a=false):a=b:=by
 have n1: ¬ (eI a b=true):=by rw [h1];decide
 have n2: ¬ (eI b a=true):=by rw [h2];decide
 rw [lr] at n1 n2
 have e1:a.1=b.1:=by
  cases h:bLt a.1 b.1 with
  | true=>exact absurd (.inl h) n1
  | false=>
    cases h':bLt b.1 a.1 with
    | true=>exact absurd (.inl h') n2
    | false=>exact uq h h'
 have m1: ¬ (a.2.1<b.2.1∨a.2.1=b.2.1∧a.2.2<b.2.2):=fun h=>n1 (.inr ⟨e1,h⟩)
 have m2: ¬ (b.2.1<a.2.1∨b.2.1=a.2.1∧b.2.2<a.2.2):=fun h=>n2 (.inr ⟨e1.symm,h⟩)
 refine Prod.ext e1 (Prod.ext ?_ ?_) <;> omega
theorem swoE{A:Type}(f:A→cO):Sort.SWO (fun x y:A=>eI (f x) (f y)):=by
 refine⟨fun a=>oe _,fun a b c h1 h2=>lq h1 h2,fun a b c h1 h2=>?_⟩
 cases h:eI (f a) (f c)with
 | false=>rfl
 | true=>
   exfalso
   cases h3:eI (f b) (f a)with
   | true=>have:=lq h3 h;rw [h2] at this;cases this
   | false=>rw [tI h1 h3,h2] at h;cases h
theorem l4{A:Type} [Inhabited A]{lt:A→A→Bool}(h:Sort.SWO lt)(l:List A):(Sort.sort lt l.toArray).toList.Perm l∧(Sort.sort lt l.toArray).toList.Pairwise (fun x y=>lt y x=false):=by
 obtain⟨⟨h1,h2,h3⟩,h4⟩:=Sort.sort_sorts lt h l.toArray
 have hsz:(Sort.sort lt l.toArray).size=l.length:=by simpa using h1
 constructor
 ·have e1:((Sort.sort lt l.toArray).extract 0 l.toArray.size)=Sort.sort lt l.toArray:=by
   rw [show l.toArray.size=(Sort.sort lt l.toArray).size by simpa using h1.symm]
   exact Array.extract_size
  have e2:(l.toArray.extract 0 l.toArray.size)=l.toArray:=Array.extract_size
  rw [e1,e2] at h3
  exact h3
 ·rw [List.pairwise_iff_getElem]
  intro i j hi hj hij
  have hi':i<(Sort.sort lt l.toArray).size:=hi
  have hj':j<(Sort.sort lt l.toArray).size:=hj
  have:=h4 i j (zE _) hij (by simp;omega)
  rw [getElem!_pos _ i hi',getElem!_pos _ j hj'] at this
  simp only [Array.getElem_toList]
  exact this
theorem swoB:Sort.SWO Bn.ltP:=swoE (fun x:Bn.El=>x.2)
theorem swoO:Sort.SWO Ow.ltP:=swoE (fun x:Ow.El=>x.1)
theorem l3(l:List Bn.El):(nG l).Perm l∧(nG l).Pairwise (fun x y=>eI y.2 x.2=false):=l4 swoB l
theorem kw(l:List Bn.El):(nG l).length=l.length:=(l3 l).1.length_eq
theorem uW(l:List Bn.El):Bn.rowP l.length (Sort.sort Bn.ltP l.toArray)=pM (nG l):=by
 show dat false l.length 4 _ _=dat false (nG l).length 4 _ _
 rw [kw]
 rfl
end Go.Proofs.YtjjgjjlgchidlaaGreat
end
section
namespace Go.Sy
open Go Go.Sl Go.RowKit
section
variable {P:Program} {ro:Option Nat} {fn nt nx:Nat} {T:Tr SV} {k:List AIt} {dfs:List ADf} {H:aJ} {Q:Pst}
theorem e8{id n:Nat}{st:LoopState}{pend:Option Code}{f2 nt2:Nat}{T2:Tr SV}{ps:Array Tmp}{as1 bd:Code}{dr:Nat}(hx:lS id k=none)(hl:H.at' n=some (.loop st pend f2 nt2 T2 ps as1 bd dr))
 (h:Q (.sc (.bool false),H.set n (.loop .done (some (.exit id)) f2 nt2 T2 ps as1 bd dr),nx)):Wp P (some n) ⟨fn,nt,T,.code (.exit id) :: k,dfs,H,nx⟩ Q:=by
 refine .step ?_
 simp only [mD,pI,hx,j8,qr,hl]
 exact h
end
end Go.Sy
end
section
namespace Go.Proofs.YtjjgjjlgchidlaaGreat
open Go Go.Sy Go.Sl Go.RowKit
abbrev q9(b:Nat):SV:= .ifc 42 (.ptr b 0)
theorem ia{H:aJ}{nx b c:Nat}{mem:List UInt8}{left:Int}(hb:PgAt H b mem left c)(hm:mem.length=28672)(h12: ∀ j u l,j≤aT (cP mem 0)→cr (cP mem 0) j=some (u,l)→l.length≤12):Fnc Tryz.prog 34 [q9 b] H nx
 (fun q=>nx≤q.2.2∧(∀ m,m<nx→q.2.1.at' m=H.at' m)∧((iK (cP mem 0)=none∧q.1 = .tup [.agg (pgS zeroP),dl,.sc (.int .i64 13)])∨ ∃ bs r,iK (cP mem 0)=some bs∧q.1 = .tup [.agg (pgS (cP mem 0)),.slu r 0 bs.length,.sc (.int .i64 0)]∧nx≤r∧r<q.2.2∧q.2.1.at' r=some (pM bs))):=by
 obtain⟨s0,hb,hL⟩:=hb
 have hp:=du hm (n:=0) (by decide)
 refine Fnc.start Tryz.func34 rfl rfl ?_
 refine cn fun hund=>?_
 have hlt:=hund _ _ hb
 (repeat(first|(refine aP rfl rfl iI ?_)|refine aq ?_|refine ae ?_|refine ac ?_|refine bu ?_|(apply aj;exact rfl;exact rfl;exact rfl)|(apply ai;exact rfl;exact rfl;exact rfl)))
 refine ks 148 rfl rfl rfl rfl (by kernel_rfl) (Fnc.mono (wm (n:=0) ((Tr.aa _ _ (by omega)).trans hb) hm (by decide)) ?_)
 rintro _ rfl
 dsimp only
 generalize cP mem 0=p at hp h12 ⊢
 (repeat(first|(refine aP rfl rfl iI ?_)|(apply aE;(exact rfl);(exact rfl);(exact rfl);(exact F.sz _ rfl);(focus((focus((repeat(first|exact Tr.ab _ _ _|refine(Tr.aa _ _ (by omega)).trans ?_));done))));(exact aY hp);(rw [aY ak];exact zD _);(exact dv _);(exact dt _ _ ak hp))|refine aq ?_|refine ae ?_|refine ac ?_|refine aH ?_|refine au rfl ?_|(apply aj;exact rfl;exact rfl;exact rfl)|(apply aD;exact rfl;exact rfl;exact rfl;exact rfl)|refine aM rfl rfl rfl rfl (F.sz _ rfl) (by(repeat(first|assumption|exact Tr.ab _ _ _|refine(Tr.aa _ _ (by omega)).trans ?_));done) rfl (by exact zn rfl) rfl ?_|(apply aP;exact rfl;exact rfl;exact(F.zl _ rfl))|refine an rfl rfl rfl (F.ag _ rfl) (by(repeat(first|assumption|exact Tr.ab _ _ _|refine(Tr.aa _ _ (by omega)).trans ?_));done) (by exact rfl) ?_|(refine cD rfl rfl rfl rfl (fun hq=>absurd rfl hq) (fun _=>?_))))
 refine ki (R:=fun H1 n1=>n1=nx+1+1+1∧H1.at' nx=some (pgO zeroP)∧H1.at' (nx+1)=some (pgO p)∧H1.at' (nx+1+1)=some (md 0)∧ ∀ m,m<nx→H1.at' m=H.at' m) ⟨rfl,by(focus((repeat(first|exact Tr.ab _ _ _|refine(Tr.aa _ _ (by omega)).trans ?_));done)),by(focus((repeat(first|exact Tr.ab _ _ _|refine(Tr.aa _ _ (by omega)).trans ?_));done)),by(focus((repeat(exact Tr.ab _ _ _));done)),fun m hm=>by(focus((repeat(refine(Tr.aa _ _ (by omega)).trans ?_));exact rfl))⟩ ?_
 rintro H1 n1 ⟨rfl,a0,a1,a2,ao⟩
 have hri:=fun(H:aJ) nx=>uu (H:=H) (nx:=nx) hp
 have hki:=fun(H:aJ) nx=>wD (H:=H) (nx:=nx) hp
 by_cases hok: ¬ (dQ p=true∧kP p=2)
 ·have hno:iK p=none:=if_neg hok
  cases hr:dQ p with
  | false=>
    rw [hr] at hri
    (repeat(first|(apply ay;(exact rfl);(exact rfl);(exact rfl);(exact F.ag _ rfl);(focus(assumption));(exact aY hp))|(apply aE;(exact rfl);(exact rfl);(exact rfl);(exact F.sz _ rfl);(focus(assumption));(exact aY ak);(rw [aY ak];exact zD _);(exact dv _);(exact dt _ _ ak ak))|refine aq ?_|refine ae ?_|refine ac ?_|refine ax rfl ?_|(apply aj;exact rfl;exact rfl;exact rfl)|(apply ai;exact rfl;exact rfl;exact rfl)|(apply aX;exact rfl;exact rfl;exact rfl;exact rfl)|(apply bT;exact rfl)|(apply bh;exact rfl;exact rfl;exact rfl)|(refine aL rfl rfl rfl (by kernel_rfl) (Fnc.mono (hri _ _) ?_);rintro _ rfl;dsimp only)|(refine dh rfl rfl iw ?_)))
    ((apply bf Tryz.func34 (congrArg Array.toList Tryz.results34));(focus((apply ResIs.cell rfl (LoadIs.many (F.ag _ rfl) (by(repeat(exact Tr.ab _ _ _));done) (dg ak)));(repeat(first|exact ResIs.nil|apply ResIs.tmp rfl)))))
    exact⟨by dsimp only;omega,fun m hm=>by(focus((repeat(refine(Tr.aa _ _ (by omega)).trans ?_));exact ao m hm)),.inl ⟨hno,rfl⟩⟩
  | true=>
    rw [hr] at hri
    have hk:((kP p).toNat:Int)≠2:=fun h=>hok ⟨hr,UInt8.toNat_inj.1 (by show(kP p).toNat=2;omega)⟩
    (repeat(first|(apply ay;(exact rfl);(exact rfl);(exact rfl);(exact F.ag _ rfl);(focus(assumption));(exact aY hp))|(apply aE;(exact rfl);(exact rfl);(exact rfl);(exact F.sz _ rfl);(focus(assumption));(exact aY ak);(rw [aY ak];exact zD _);(exact dv _);(exact dt _ _ ak ak))|refine aq ?_|refine ae ?_|refine ac ?_|refine ax rfl ?_|(apply aj;exact rfl;exact rfl;exact rfl)|(apply ai;exact rfl;exact rfl;exact rfl)|(apply aO;exact rfl;exact rfl;exact rfl;exact rfl)|(apply bh;exact rfl;exact rfl;exact rfl)|(refine aL rfl rfl rfl (by kernel_rfl) (Fnc.mono (hri _ _) ?_);rintro _ rfl;dsimp only)|(refine aL rfl rfl rfl (by kernel_rfl) (Fnc.mono (hki _ _) ?_);rintro _ rfl;dsimp only)|(refine cD rfl rfl rfl rfl (fun _=>?_) (fun hq=>absurd hq hk))|(refine dh rfl rfl iw ?_)))
    ((apply bf Tryz.func34 (congrArg Array.toList Tryz.results34));(focus((apply ResIs.cell rfl (LoadIs.many (F.ag _ rfl) (by(repeat(exact Tr.ab _ _ _));done) (dg ak)));(repeat(first|exact ResIs.nil|apply ResIs.tmp rfl)))))
    exact⟨by dsimp only;omega,fun m hm=>by(focus((repeat(refine(Tr.aa _ _ (by omega)).trans ?_));exact ao m hm)),.inl ⟨hno,rfl⟩⟩
 have hok:=Classical.not_not.1 hok
 have hM:iK p=(match cr p (aT p)with
  | none=>none
  | some (_,l)=>if okB (nG l)=true then some (nG l) else none):=if_pos hok
 obtain⟨hr,hk⟩:=hok
 rw [hr] at hri
 rw [hk] at hki
 have hits:=fun(H:aJ) nx=>tO (H:=H) (nx:=nx) hp
 rw [hr] at hits
 (repeat(first|(apply ay;(exact rfl);(exact rfl);(exact rfl);(exact F.ag _ rfl);(focus((focus((repeat(first|assumption|refine(Tr.aa _ _ (by omega)).trans ?_));done))));(exact aY hp))|refine aq ?_|refine ae ?_|refine ac ?_|refine aI ?_|refine aH ?_|refine bv ?_|refine au rfl ?_|(apply aj;exact rfl;exact rfl;exact rfl)|(apply aO;exact rfl;exact rfl;exact rfl;exact rfl)|refine aM rfl rfl rfl rfl (F.sz _ rfl) (by(repeat(first|assumption|exact Tr.ab _ _ _|refine(Tr.aa _ _ (by omega)).trans ?_));done) rfl (by exact zn rfl) rfl ?_|(apply aP;exact rfl;exact rfl;exact(F.zl _ rfl))|(apply bh;exact rfl;exact rfl;exact rfl)|(refine aL rfl rfl rfl (by kernel_rfl) (Fnc.mono (hri _ _) ?_);rintro _ rfl;dsimp only)|(refine aL rfl rfl rfl (by kernel_rfl) (Fnc.mono (hki _ _) ?_);rintro _ rfl;dsimp only)|(refine cD rfl rfl rfl rfl (fun hq=>absurd rfl hq) (fun _=>?_))|(refine aL rfl rfl rfl (by kernel_rfl) (Fnc.mono (hits _ _) ?_);rintro _ rfl;dsimp only)))
 obtain⟨q0,hq0⟩: ∃ q0,q0=nx+1+1+1+1+1+1:=⟨_,rfl⟩
 rw [← hq0]
 refine ki (R:=fun H4 n4=>n4=q0+1+1∧H4.at' q0=some (pgO p)∧H4.at' (q0+1)=some (lO true)∧H4.at' nx=some (pgO zeroP)∧H4.at' (nx+1)=some (pgO p)∧H4.at' (nx+1+1)=some (md 0)∧H4.at' (nx+1+1+1)=some (lvO dl)∧H4.at' (nx+1+1+1+1)=some (lO false)∧H4.at' (nx+1+1+1+1+1)=some (usO (List.replicate 28 false))∧ ∀ m,m<nx→H4.at' m=H.at' m)
  ⟨rfl,by(focus((repeat(first|exact Tr.ab _ _ _|refine(Tr.aa _ _ (by omega)).trans ?_));done)),by(focus((repeat(exact Tr.ab _ _ _));done)),by(focus((repeat(first|assumption|refine(Tr.aa _ _ (by omega)).trans ?_));done)),by(focus((repeat(first|assumption|refine(Tr.aa _ _ (by omega)).trans ?_));done)),by(focus((repeat(first|assumption|refine(Tr.aa _ _ (by omega)).trans ?_));done)),by(focus((repeat(first|exact Tr.ab _ _ _|refine(Tr.aa _ _ (by omega)).trans ?_));done)),by(focus((repeat(first|exact Tr.ab _ _ _|refine(Tr.aa _ _ (by omega)).trans ?_));done)),by(focus((repeat(first|exact Tr.ab _ _ _|refine(Tr.aa _ _ (by omega)).trans ?_));done)),fun m hm=>by(focus((repeat(refine(Tr.aa _ _ (by omega)).trans ?_));exact ao m hm))⟩ ?_
 clear a0 a1 a2 ao
 rintro H4 n4 ⟨rfl,m0,m1,m2,m3,m4,m5,m6,m7,mo⟩
 refine kR [(2,.ptr nx 0),(5,.ptr (nx+1) 0),(6,.ptr (nx+1+1) 0),(7,.ptr (nx+1+1+1) 0),(8,.ptr (nx+1+1+1+1) 0),(9,.ptr (nx+1+1+1+1+1) 0)] rfl rfl (by kernel_rfl) (SlIn.sub (by repeat(first|exact trivial|refine⟨rfl,?_⟩))) ?_
 intro cA cB hcA hcB2
 refine Fnc.mono (tN (l:=q0+1+1+1) (f:=q0+1) (q:=q0) hp hr (f2:=34) (nt2:=124) (T2:=slT [(2,.ptr nx 0),(5,.ptr (nx+1) 0),(6,.ptr (nx+1+1) 0),(7,.ptr (nx+1+1+1) 0),(8,.ptr (nx+1+1+1+1) 0),(9,.ptr (nx+1+1+1+1+1) 0)]) (ps:= #[36,37]) (ca:=cA) (cb:=cB) (dr:=q0+1+1) rfl
  (fun j H5 n5=>H5.at' (q0+1+1+1)=some (.loop .ready none 34 124 (slT [(2,.ptr nx 0),(5,.ptr (nx+1) 0),(6,.ptr (nx+1+1) 0),(7,.ptr (nx+1+1+1) 0),(8,.ptr (nx+1+1+1+1) 0),(9,.ptr (nx+1+1+1+1+1) 0)]) #[36,37] cA cB (q0+1+1))∧H5.at' (q0+1)=some (lO true)∧H5.at' q0=some (pgO p)∧q0+1+1+1+1≤n5∧H5.at' nx=some (pgO zeroP)∧H5.at' (nx+1)=some (pgO p)∧H5.at' (nx+1+1)=some (md 0)∧H5.at' (nx+1+1+1+1)=some (lO false)∧H5.at' (q0+1+1)=some (.dfd (some []))∧(∃ u l s,cr p j=some (u,l)∧H5.at' (nx+1+1+1)=some (lvO s)∧H5.at' (nx+1+1+1+1+1)=some (usO u)∧LvAt H5 s l (q0+1+1+1+1+1) n5)∧ ∀ m,m<nx→H5.at' m=H.at' m)
  (fun H5 n5=>H5.at' (q0+1+1+1)=some (.loop .done (some (.exit 0)) 34 124 (slT [(2,.ptr nx 0),(5,.ptr (nx+1) 0),(6,.ptr (nx+1+1) 0),(7,.ptr (nx+1+1+1) 0),(8,.ptr (nx+1+1+1+1) 0),(9,.ptr (nx+1+1+1+1+1) 0)]) #[36,37] cA cB (q0+1+1))∧q0+1+1+1+1≤n5∧H5.at' nx=some (pgO zeroP)∧H5.at' (nx+1+1+1+1)=some (lO true)∧H5.at' (q0+1+1)=some (.dfd (some []))∧(∃ l s,l.length≤12∧H5.at' (nx+1+1+1)=some (lvO s)∧LvAt H5 s l (q0+1+1+1+1+1) n5)∧cr p (aT p)=none∧ ∀ m,m<nx→H5.at' m=H.at' m)
  ?_ ?_ ?_ ?_ ?_) ?_
 ·rintro j H5 n5 ⟨i1,i2,i3,i4,_⟩
  exact⟨i1,i2,i3,by omega,by omega,by omega⟩
 ·rintro j H5 n5 H6 n6 ⟨i1,i2,i3,i4,i5,i6,i7,i8,i9,⟨u,l,s,j1,j2,j3,j4⟩,i12⟩ hle hs
  exact⟨(hs _ (by omega)).trans i1,(hs _ (by omega)).trans i2,(hs _ (by omega)).trans i3,by omega,(hs _ (by omega)).trans i5,(hs _ (by omega)).trans i6,(hs _ (by omega)).trans i7,(hs _ (by omega)).trans i8,(hs _ (by omega)).trans i9,⟨u,l,s,j1,(hs _ (by omega)).trans j2,(hs _ (by omega)).trans j3,j4.frame hle fun m _ h=>hs m h⟩,fun m hm=>(hs _ (by omega)).trans (i12 m hm)⟩
 ·rintro j H5 n5 ⟨i1,i2,i3,i4,i5,i6,i7,i8,i9,⟨u,l,s,j1,j2⟩,i12⟩ hz
  have e1:cr p (j+1)=some (u,l):=by
   show(match cr p j with|none=>none|some (u,l)=>_)=_
   rw [j1]
   exact if_pos hz
  exact⟨i1,i2,i3,i4,i5,i6,i7,i8,i9,⟨u,l,s,e1,j2⟩,i12⟩
 ·rintro j H5 n5 r0 ⟨i1,i2,i3,i4,i5,i6,i7,i8,i9,⟨u,l,s,j1,j2,j3,j4⟩,i12⟩ hr1 hr2 hj hs hrow
  have hrow2:(H5.set (q0+1+1+1) (.loop .busy none 34 124 (slT [(2,.ptr nx 0),(5,.ptr (nx+1) 0),(6,.ptr (nx+1+1) 0),(7,.ptr (nx+1+1+1) 0),(8,.ptr (nx+1+1+1+1) 0),(9,.ptr (nx+1+1+1+1+1) 0)]) #[36,37] cA cB (q0+1+1))).at' r0=some (u8R false (byV (dJ p j))):=(Tr.aa _ _ (by omega)).trans hrow
  have hil:(dJ p j).length≤1024:=by unfold dJ;rw [List.length_take,List.length_drop];omega
  refine pU hcA ?_
  (repeat(first|refine ae ?_|refine ac ?_|(apply ai;exact rfl;exact rfl;exact rfl)))
  refine sh (by assumption) ?_
  refine pU hcB2 ?_
  (repeat(first|refine aq ?_|refine ae ?_|refine aI ?_|(apply aj;exact rfl;exact rfl;exact rfl)))
  have hsl:=k8 hr hj hs
  have hln:=oh hp hsl.2.2.2
  obtain⟨c0,rest,hit⟩: ∃ c0 rest,dJ p j=c0 :: rest:=by
   cases h:dJ p j with
   | nil=>rw [h] at hln;simp at hln;omega
   | cons a l=>exact⟨a,l,rfl⟩
  rw [hit] at hrow2 hil ⊢
  have hrow3:(H5.set (q0+1+1+1) (.loop .busy none 34 124 (slT [(2,.ptr nx 0),(5,.ptr (nx+1) 0),(6,.ptr (nx+1+1) 0),(7,.ptr (nx+1+1+1) 0),(8,.ptr (nx+1+1+1+1) 0),(9,.ptr (nx+1+1+1+1+1) 0)]) #[36,37] cA cB (q0+1+1))).at' r0=some (dat false (c0 :: rest).length 1 5 (byV (c0 :: rest))):=hrow2.trans (by unfold u8R;rw [fk])
  have hrl:(c0 :: rest).length=rest.length+1:=rfl
  rw [hrl] at hrow3 hil ⊢
  have hul:=(jJ j1).1
  have hkc:c0.toNat<256:=c0.toNat_lt
  (repeat(first|refine aq ?_|refine ae ?_|refine ac ?_|(apply aj;exact rfl;exact rfl;exact rfl)|(apply ai;exact rfl;exact rfl;exact rfl)|refine aM rfl rfl rfl rfl (F.sz _ rfl) (by(repeat(first|assumption|exact Tr.ab _ _ _));done) rfl (by exact zn rfl) rfl ?_|(apply aP;exact rfl;exact rfl;exact(F.zl _ rfl))|(apply bc;exact rfl;exact rfl;exact rfl;exact(F.ze _ rfl);exact(F.pl _ rfl);exact rfl)|(refine fm (q:=0) rfl rfl rfl rfl (F.un _ rfl) (F.sz _ rfl) hrow3 rfl (by omega) (zD _) ?_)|(refine jf (v:= .int .u8 (c0.toNat:Int)) rfl rfl rfl (F.ag _ rfl) hrow3 rfl (by omega) ?_)|(apply eR;exact rfl;exact rfl;exact rfl;exact(F.un _ rfl);exact(F.un _ rfl);exact(kX _))))
  refine bR rfl rfl rfl rfl (fun c1=>?_) (fun c1=>?_)
  ·have hbo:kq u (c0 :: rest)=none:=if_pos (.inl (by omega))
   have hbn:cr p (aT p)=none:=fU (j:=j+1) (by show(match cr p j with|none=>none|some (u,l)=>_)=none;rw [j1];exact(if_neg hs).trans (by rw [hit,hbo])) (by omega);(repeat(first|refine aq ?_|refine ae ?_|refine ac ?_|refine aH ?_|refine ax rfl ?_|refine au rfl ?_|(apply aj;exact rfl;exact rfl;exact rfl)|(apply aX;exact rfl;exact rfl;exact rfl;exact rfl)|(apply aO;exact rfl;exact rfl;exact rfl;exact rfl)|(apply bT;exact rfl)|refine aM rfl rfl rfl rfl (F.sz _ rfl) (by(repeat(first|assumption|refine(Tr.aa _ _ (by omega)).trans ?_));done) rfl (by exact zn rfl) rfl ?_|refine an rfl rfl rfl (F.ag _ rfl) (by(repeat(first|assumption|exact Tr.ab _ _ _));done) (by exact rfl) ?_|(apply bh;exact rfl;exact rfl;exact rfl)));refine e8 rfl (by(repeat(first|exact Tr.ab _ _ _|refine(Tr.aa _ _ (by omega)).trans ?_));done) (.inr ⟨rfl,Tr.ab _ _ _,by dsimp only;omega,by(focus((repeat(first|assumption|refine(Tr.aa _ _ (by omega)).trans ?_));done)),by(focus((repeat(first|exact Tr.ab _ _ _|refine(Tr.aa _ _ (by omega)).trans ?_));done)),by(focus((repeat(first|assumption|refine(Tr.aa _ _ (by omega)).trans ?_));done)),⟨l,s,h12 j u l (by omega) j1,by(focus((repeat(first|assumption|refine(Tr.aa _ _ (by omega)).trans ?_));done)),j4.frame (by dsimp only;omega) fun m _ _=>by(focus((repeat(refine(Tr.aa _ _ (by omega)).trans ?_));exact rfl))⟩,hbn,fun m hm=>by(focus((repeat(refine(Tr.aa _ _ (by omega)).trans ?_));exact i12 m hm))⟩)
  (repeat(apply aj;exact rfl;exact rfl;exact rfl))
  refine gB rfl rfl rfl rfl (fun c2=>?_) (fun c2=>?_)
  ·have hbo:kq u (c0 :: rest)=none:=if_pos (.inr (.inl (by omega)))
   have hbn:cr p (aT p)=none:=fU (j:=j+1) (by show(match cr p j with|none=>none|some (u,l)=>_)=none;rw [j1];exact(if_neg hs).trans (by rw [hit,hbo])) (by omega);(repeat(first|refine aq ?_|refine ae ?_|refine ac ?_|refine aH ?_|refine ax rfl ?_|refine au rfl ?_|(apply aj;exact rfl;exact rfl;exact rfl)|(apply aX;exact rfl;exact rfl;exact rfl;exact rfl)|(apply aO;exact rfl;exact rfl;exact rfl;exact rfl)|(apply bT;exact rfl)|refine aM rfl rfl rfl rfl (F.sz _ rfl) (by(repeat(first|assumption|refine(Tr.aa _ _ (by omega)).trans ?_));done) rfl (by exact zn rfl) rfl ?_|refine an rfl rfl rfl (F.ag _ rfl) (by(repeat(first|assumption|exact Tr.ab _ _ _));done) (by exact rfl) ?_|(apply bh;exact rfl;exact rfl;exact rfl)));refine e8 rfl (by(repeat(first|exact Tr.ab _ _ _|refine(Tr.aa _ _ (by omega)).trans ?_));done) (.inr ⟨rfl,Tr.ab _ _ _,by dsimp only;omega,by(focus((repeat(first|assumption|refine(Tr.aa _ _ (by omega)).trans ?_));done)),by(focus((repeat(first|exact Tr.ab _ _ _|refine(Tr.aa _ _ (by omega)).trans ?_));done)),by(focus((repeat(first|assumption|refine(Tr.aa _ _ (by omega)).trans ?_));done)),⟨l,s,h12 j u l (by omega) j1,by(focus((repeat(first|assumption|refine(Tr.aa _ _ (by omega)).trans ?_));done)),j4.frame (by dsimp only;omega) fun m _ _=>by(focus((repeat(refine(Tr.aa _ _ (by omega)).trans ?_));exact rfl))⟩,hbn,fun m hm=>by(focus((repeat(refine(Tr.aa _ _ (by omega)).trans ?_));exact i12 m hm))⟩)
  have hkl:c0.toNat<u.length:=by omega
  have hucell:(u.map fun b=>SV.sc (.bool b))[c0.toNat]? =some (.sc (.bool u[c0.toNat])):=by rw [List.getElem?_map,zk hkl];rfl
  (repeat(first|(apply aj;exact rfl;exact rfl;exact rfl)|(apply aO;exact rfl;exact rfl;exact rfl;exact rfl)|(apply iy (q:=c0.toNat);exact rfl;exact rfl;exact rfl;exact rfl;exact(F.un _ rfl);exact(F.sz _ rfl);(focus(omega));(focus(omega)))))
  rw [show 0+c0.toNat*1=c0.toNat by omega]
  refine an rfl rfl rfl (F.ag _ rfl) (by(repeat(first|assumption|refine(Tr.aa _ _ (by omega)).trans ?_));done) hucell ?_
  cases hu:u[c0.toNat] with
  | true=>
    have hbo:kq u (c0 :: rest)=none:=if_pos (.inr (.inr (by rw [zk hkl,hu])))
    rw [hu] at hucell
    have hbn:cr p (aT p)=none:=fU (j:=j+1) (by show(match cr p j with|none=>none|some (u,l)=>_)=none;rw [j1];exact(if_neg hs).trans (by rw [hit,hbo])) (by omega);(repeat(first|refine aq ?_|refine ae ?_|refine ac ?_|refine aH ?_|refine ax rfl ?_|refine au rfl ?_|(apply aj;exact rfl;exact rfl;exact rfl)|(apply aO;exact rfl;exact rfl;exact rfl;exact rfl)|(apply bT;exact rfl)|refine aM rfl rfl rfl rfl (F.sz _ rfl) (by(repeat(first|assumption|refine(Tr.aa _ _ (by omega)).trans ?_));done) rfl (by exact zn rfl) rfl ?_|refine an rfl rfl rfl (F.ag _ rfl) (by(repeat(first|assumption|exact Tr.ab _ _ _));done) (by exact rfl) ?_|(apply bh;exact rfl;exact rfl;exact rfl)));refine e8 rfl (by(repeat(first|exact Tr.ab _ _ _|refine(Tr.aa _ _ (by omega)).trans ?_));done) (.inr ⟨rfl,Tr.ab _ _ _,by dsimp only;omega,by(focus((repeat(first|assumption|refine(Tr.aa _ _ (by omega)).trans ?_));done)),by(focus((repeat(first|exact Tr.ab _ _ _|refine(Tr.aa _ _ (by omega)).trans ?_));done)),by(focus((repeat(first|assumption|refine(Tr.aa _ _ (by omega)).trans ?_));done)),⟨l,s,h12 j u l (by omega) j1,by(focus((repeat(first|assumption|refine(Tr.aa _ _ (by omega)).trans ?_));done)),j4.frame (by dsimp only;omega) fun m _ _=>by(focus((repeat(refine(Tr.aa _ _ (by omega)).trans ?_));exact rfl))⟩,hbn,fun m hm=>by(focus((repeat(refine(Tr.aa _ _ (by omega)).trans ?_));exact i12 m hm))⟩)
  | false=>
    (repeat(first|refine aq ?_|refine ae ?_|refine ac ?_|(apply aj;exact rfl;exact rfl;exact rfl)|(apply aO;exact rfl;exact rfl;exact rfl;exact rfl)|refine aM rfl rfl rfl rfl (F.sz _ rfl) (by(repeat(first|assumption|refine(Tr.aa _ _ (by omega)).trans ?_));done) rfl (by exact zn rfl) rfl ?_|refine an rfl rfl rfl (F.ag _ rfl) (by(repeat(first|assumption|exact Tr.ab _ _ _));done) (by exact rfl) ?_|(apply a6;exact rfl;exact rfl;exact rfl;exact(F.un _ rfl))|(apply bh;exact rfl;exact rfl;exact rfl)))
    rcases rest with _|⟨c1',rest⟩
    ·have hbo:kq u [c0]=some (c0.toNat,ei):=if_neg (by rw [zk hkl,hu];simp;omega)
     (repeat(first|refine aq ?_|refine ae ?_|refine ac ?_|refine aH ?_|refine au rfl ?_|(apply aj;exact rfl;exact rfl;exact rfl)|(apply aX;exact rfl;exact rfl;exact rfl;exact rfl)|refine an rfl rfl rfl (F.ag _ rfl) (by(repeat(first|assumption|exact Tr.ab _ _ _));done) (by exact rfl) ?_|(refine e9 rfl rfl rfl rfl (fun hq=>absurd hq (by decide)) (fun _=>?_))))
     have e1:cr p (j+1)=some (u.set c0.toNat true,l ++ [((4:Int)+(c0.toNat:Int),ei)]):=(by show(match cr p j with|none=>none|some (u,l)=>_)=_;rw [j1];exact(if_neg hs).trans (by rw [hit,hbo]));have hus:(u.map fun b=>SV.sc (.bool b)).set c0.toNat (.sc (.bool true))=(u.set c0.toNat true).map fun b=>SV.sc (.bool b):=(by rw [List.map_set]);have hle:=h12 j u l (by omega) j1;(repeat(apply iy (q:=c0.toNat);exact rfl;exact rfl;exact rfl;exact rfl;exact(F.un _ rfl);exact(F.sz _ rfl);(focus(omega));(focus(omega))));rw [show 0+c0.toNat*1=c0.toNat by omega];refine aK (cs:=u.map fun b=>SV.sc (.bool b)) rfl rfl rfl (F.sz _ rfl) (by(repeat(first|assumption|refine(Tr.aa _ _ (by omega)).trans ?_));done) rfl (zp (by rw [List.length_map];omega)) ?_;rw [hus]
     rcases j4 with ⟨rfl,rfl⟩|⟨r,k1,rfl,k2,k3,k4⟩
     ·(repeat(first|refine ae ?_|refine ac ?_|(apply aj;exact rfl;exact rfl;exact rfl)|refine an rfl rfl rfl (F.ag _ rfl) (by(repeat(first|assumption|exact Tr.ab _ _ _|refine(Tr.aa _ _ (by omega)).trans ?_));done) (by exact rfl) ?_|refine ay rfl rfl rfl (F.ag _ rfl) (by(repeat(first|assumption|exact Tr.ab _ _ _|refine(Tr.aa _ _ (by omega)).trans ?_));done) (by exact rfl) ?_|(apply bn;exact rfl;exact rfl;exact rfl;exact rfl;(focus(omega));(focus(omega)))|(apply bc;exact rfl;exact rfl;exact rfl;exact(F.ze _ rfl);exact(F.pl _ rfl);exact rfl)|(apply bE;exact rfl;exact rfl;exact(F.un _ rfl);exact(F.sz _ rfl);exact rfl;exact(F.ze _ rfl);exact rfl;exact rfl;exact rfl;exact rfl;exact rfl)));refine gY (b:=40) (n:=1) (cs:=(Bn.elV ((4:Int)+(c0.toNat:Int),ei)).map .sc) rfl rfl rfl rfl (F.un _ rfl) (.inl ⟨_,F.un _ rfl⟩) (F.sz _ rfl) rfl (by kernel_rfl) (by kernel_rfl) (SlOf.row (by(repeat(exact Tr.ab _ _ _));done) rfl) rfl (by decide) (by decide) ?_;rintro _ _ _ (⟨h,_⟩|⟨_,rfl,rfl,rfl⟩);exact absurd h (by decide);(repeat(first|refine ac ?_|refine aB ?_|refine aM rfl rfl rfl rfl (F.sz _ rfl) (by(repeat(first|assumption|refine(Tr.aa _ _ (by omega)).trans ?_));done) rfl (by exact zn rfl) rfl ?_));refine eg (by(repeat(first|exact Tr.ab _ _ _|refine(Tr.aa _ _ (by omega)).trans ?_));done) (.inl ⟨rfl,⟨Tr.ab _ _ _,by(focus((repeat(first|assumption|refine(Tr.aa _ _ (by omega)).trans ?_));done)),by(focus((repeat(first|assumption|refine(Tr.aa _ _ (by omega)).trans ?_));done)),by dsimp only;omega,by(focus((repeat(first|assumption|refine(Tr.aa _ _ (by omega)).trans ?_));done)),by(focus((repeat(first|assumption|refine(Tr.aa _ _ (by omega)).trans ?_));done)),by(focus((repeat(first|assumption|refine(Tr.aa _ _ (by omega)).trans ?_));done)),by(focus((repeat(first|exact Tr.ab _ _ _|refine(Tr.aa _ _ (by omega)).trans ?_));done)),by(focus((repeat(first|assumption|refine(Tr.aa _ _ (by omega)).trans ?_));done)),⟨_,_,_,e1,by(focus((repeat(first|exact Tr.ab _ _ _|refine(Tr.aa _ _ (by omega)).trans ?_));done)),by(focus((repeat(first|exact Tr.ab _ _ _|refine(Tr.aa _ _ (by omega)).trans ?_));done)),.inr ⟨n5+1+1,by simp,rfl,by first|omega|(dsimp only;omega),by first|omega|(dsimp only;omega),Eq.trans (b:=some (fQ false 1 4 98 ((Bn.elV ((4:Int)+(c0.toNat:Int),ei)).map .sc))) (by(repeat(first|exact Tr.ab _ _ _|refine(Tr.aa _ _ (by omega)).trans ?_));done) (congrArg some (cR _ _ _ _ _))⟩⟩,fun m hm=>by(focus((repeat(refine(Tr.aa _ _ (by omega)).trans ?_));exact i12 m hm))⟩,by dsimp only;omega,by(focus((repeat(refine(Tr.aa _ _ (by omega)).trans ?_));exact rfl))⟩)
     ·(repeat(first|refine ae ?_|refine ac ?_|refine aB ?_|(apply aj;exact rfl;exact rfl;exact rfl)|refine aM rfl rfl rfl rfl (F.sz _ rfl) (by(repeat(first|assumption|refine(Tr.aa _ _ (by omega)).trans ?_|refine(Tr.ah _ (by omega)).trans ?_));done) rfl (by exact zn rfl) rfl ?_|refine an rfl rfl rfl (F.ag _ rfl) (by(repeat(first|assumption|exact Tr.ab _ _ _|refine(Tr.aa _ _ (by omega)).trans ?_));done) (by exact rfl) ?_|refine ay rfl rfl rfl (F.ag _ rfl) (by(repeat(first|assumption|exact Tr.ab _ _ _|refine(Tr.aa _ _ (by omega)).trans ?_));done) (by exact rfl) ?_|(apply bn;exact rfl;exact rfl;exact rfl;exact rfl;(focus(omega));(focus(omega)))|(apply bc;exact rfl;exact rfl;exact rfl;exact(F.ze _ rfl);exact(F.pl _ rfl);exact rfl)|(apply bE;exact rfl;exact rfl;exact(F.un _ rfl);exact(F.sz _ rfl);exact rfl;exact(F.ze _ rfl);exact rfl;exact rfl;exact rfl;exact rfl;exact rfl)|refine lW (b:=40) (xs:=l) (a:=((4:Int)+(c0.toNat:Int),ei)) rfl rfl rfl rfl (F.un _ rfl) (.inl ⟨_,F.un _ rfl⟩) (F.sz _ rfl) rfl (by kernel_rfl) (by kernel_rfl) (by(repeat(first|assumption|refine(Tr.aa _ _ (by omega)).trans ?_));done) (by(repeat(exact Tr.ab _ _ _));done) (by exact rfl) (Bn.recP) (by omega) (by omega) ?_));refine eg (by(repeat(first|exact Tr.ab _ _ _|refine(Tr.aa _ _ (by omega)).trans ?_|refine(Tr.ah _ (by omega)).trans ?_));done) (.inl ⟨rfl,⟨Tr.ab _ _ _,by(focus((repeat(first|assumption|refine(Tr.aa _ _ (by omega)).trans ?_|refine(Tr.ah _ (by omega)).trans ?_));done)),by(focus((repeat(first|assumption|refine(Tr.aa _ _ (by omega)).trans ?_|refine(Tr.ah _ (by omega)).trans ?_));done)),by dsimp only;omega,by(focus((repeat(first|assumption|refine(Tr.aa _ _ (by omega)).trans ?_|refine(Tr.ah _ (by omega)).trans ?_));done)),by(focus((repeat(first|assumption|refine(Tr.aa _ _ (by omega)).trans ?_|refine(Tr.ah _ (by omega)).trans ?_));done)),by(focus((repeat(first|assumption|refine(Tr.aa _ _ (by omega)).trans ?_|refine(Tr.ah _ (by omega)).trans ?_));done)),by(focus((repeat(first|exact Tr.ab _ _ _|refine(Tr.aa _ _ (by omega)).trans ?_|refine(Tr.ah _ (by omega)).trans ?_));done)),by(focus((repeat(first|assumption|refine(Tr.aa _ _ (by omega)).trans ?_|refine(Tr.ah _ (by omega)).trans ?_));done)),⟨_,_,_,e1,by(focus((repeat(first|exact Tr.ab _ _ _|refine(Tr.aa _ _ (by omega)).trans ?_));done)),by(focus((repeat(first|exact Tr.ab _ _ _|refine(Tr.aa _ _ (by omega)).trans ?_|refine(Tr.ah _ (by omega)).trans ?_));done)),.inr ⟨n5+1+1,by simp,rfl,by first|omega|(dsimp only;omega),by first|omega|(dsimp only;omega),(by(repeat(first|exact Tr.ab _ _ _|refine(Tr.aa _ _ (by omega)).trans ?_));done)⟩⟩,fun m hm=>by(focus((repeat(first|refine(Tr.aa _ _ (by omega)).trans ?_|refine(Tr.ah _ (by omega)).trans ?_));exact i12 m hm))⟩,by dsimp only;omega,by(focus((repeat(first|refine(Tr.aa _ _ (by omega)).trans ?_|refine(Tr.ah _ (by omega)).trans ?_));exact rfl))⟩)
    ·have hrow5:H5.at' r0=some (u8R false (byV (c0 :: c1' :: rest))):=by rw [hrow,hit]
     have hrow6:H5.at' r0=some (dat false (rest.length+1+1) 1 5 (byV (c0 :: c1' :: rest))):=hrow5.trans (by unfold u8R;rw [fk];rfl)
     (repeat(first|refine aq ?_|refine ae ?_|refine ac ?_|refine ax rfl ?_|(apply aj;exact rfl;exact rfl;exact rfl)|(apply aX;exact rfl;exact rfl;exact rfl;exact rfl)|(refine e9 rfl rfl rfl rfl (fun _=>?_) (fun hq=>absurd hq (by simp only [zG];omega)))|(refine wP (lw:=1) (hg:=rest.length+1+1) rfl rfl rfl (F.un _ rfl) (F.sz _ rfl) (by(repeat(refine(Tr.aa _ _ (by omega)).trans ?_));exact hrow6) rfl rfl (by omega) (by omega) (by omega) ?_)))
     refine aL rfl rfl rfl (by kernel_rfl) (Fnc.mono (of_u (eo:=0+1) (w:=c0 :: c1' :: rest) (l:=c1' :: rest) (by(repeat(refine(Tr.aa _ _ (by omega)).trans ?_));exact hrow5) (by simp only [zG];omega) rfl (by simp only [zG] at hil ⊢;omega)) ?_)
     rintro _ rfl
     dsimp only
     cases hof:ofL (c1' :: rest)with
     | none=>
       rw [eZ hof]
       have hbo:kq u (c0 :: c1' :: rest)=none:=(if_neg (by rw [zk hkl,hu];simp;omega)).trans (by simp only [hof];rfl)
       (repeat(first|refine aq ?_|refine ae ?_|refine ac ?_|refine ax rfl ?_|(apply aj;exact rfl;exact rfl;exact rfl)|(apply aD;exact rfl;exact rfl;exact rfl;exact rfl)|refine aM rfl rfl rfl rfl (F.sz _ rfl) (by(repeat(first|assumption|exact Tr.ab _ _ _|refine(Tr.aa _ _ (by omega)).trans ?_));done) rfl (by exact zn rfl) rfl ?_|refine an rfl rfl rfl (F.ag _ rfl) (by(repeat(first|assumption|exact Tr.ab _ _ _));done) (by exact rfl) ?_|(refine cD rfl rfl rfl rfl (fun _=>?_) (fun hq=>absurd hq (by decide)))))
       have hbn:cr p (aT p)=none:=fU (j:=j+1) (by show(match cr p j with|none=>none|some (u,l)=>_)=none;rw [j1];exact(if_neg hs).trans (by rw [hit,hbo])) (by omega);skip;refine e8 rfl (by(repeat(first|exact Tr.ab _ _ _|refine(Tr.aa _ _ (by omega)).trans ?_));done) (.inr ⟨rfl,Tr.ab _ _ _,by dsimp only;omega,by(focus((repeat(first|assumption|refine(Tr.aa _ _ (by omega)).trans ?_));done)),by(focus((repeat(first|exact Tr.ab _ _ _|refine(Tr.aa _ _ (by omega)).trans ?_));done)),by(focus((repeat(first|assumption|refine(Tr.aa _ _ (by omega)).trans ?_));done)),⟨l,s,h12 j u l (by omega) j1,by(focus((repeat(first|assumption|refine(Tr.aa _ _ (by omega)).trans ?_));done)),j4.frame (by dsimp only;omega) fun m _ _=>by(focus((repeat(refine(Tr.aa _ _ (by omega)).trans ?_));exact rfl))⟩,hbn,fun m hm=>by(focus((repeat(refine(Tr.aa _ _ (by omega)).trans ?_));exact i12 m hm))⟩)
     | some e=>
       rw [hJ hof]
       have hbo:kq u (c0 :: c1' :: rest)=some (c0.toNat,e):=(if_neg (by rw [zk hkl,hu];simp;omega)).trans (by simp only [hof];rfl)
       (repeat(first|refine aq ?_|refine ae ?_|refine ac ?_|refine aH ?_|refine au rfl ?_|(apply aj;exact rfl;exact rfl;exact rfl)|(apply aD;exact rfl;exact rfl;exact rfl;exact rfl)|refine aM rfl rfl rfl rfl (F.sz _ rfl) (by(repeat(first|assumption|exact Tr.ab _ _ _|refine(Tr.aa _ _ (by omega)).trans ?_));done) rfl (by exact zn rfl) rfl ?_|refine an rfl rfl rfl (F.ag _ rfl) (by(repeat(first|assumption|exact Tr.ab _ _ _));done) (by exact rfl) ?_|(refine cD rfl rfl rfl rfl (fun hq=>absurd rfl hq) (fun _=>?_))))
       have e1:cr p (j+1)=some (u.set c0.toNat true,l ++ [((4:Int)+(c0.toNat:Int),e)]):=(by show(match cr p j with|none=>none|some (u,l)=>_)=_;rw [j1];exact(if_neg hs).trans (by rw [hit,hbo]));have hus:(u.map fun b=>SV.sc (.bool b)).set c0.toNat (.sc (.bool true))=(u.set c0.toNat true).map fun b=>SV.sc (.bool b):=(by rw [List.map_set]);have hle:=h12 j u l (by omega) j1;(repeat(apply iy (q:=c0.toNat);exact rfl;exact rfl;exact rfl;exact rfl;exact(F.un _ rfl);exact(F.sz _ rfl);(focus(omega));(focus(omega))));rw [show 0+c0.toNat*1=c0.toNat by omega];refine aK (cs:=u.map fun b=>SV.sc (.bool b)) rfl rfl rfl (F.sz _ rfl) (by(repeat(first|assumption|refine(Tr.aa _ _ (by omega)).trans ?_));done) rfl (zp (by rw [List.length_map];omega)) ?_;rw [hus]
       rcases j4 with ⟨rfl,rfl⟩|⟨r,k1,rfl,k2,k3,k4⟩
       ·(repeat(first|refine ae ?_|refine ac ?_|(apply aj;exact rfl;exact rfl;exact rfl)|refine an rfl rfl rfl (F.ag _ rfl) (by(repeat(first|assumption|exact Tr.ab _ _ _|refine(Tr.aa _ _ (by omega)).trans ?_));done) (by exact rfl) ?_|refine ay rfl rfl rfl (F.ag _ rfl) (by(repeat(first|assumption|exact Tr.ab _ _ _|refine(Tr.aa _ _ (by omega)).trans ?_));done) (by exact rfl) ?_|(apply bn;exact rfl;exact rfl;exact rfl;exact rfl;(focus(omega));(focus(omega)))|(apply bc;exact rfl;exact rfl;exact rfl;exact(F.ze _ rfl);exact(F.pl _ rfl);exact rfl)|(apply bE;exact rfl;exact rfl;exact(F.un _ rfl);exact(F.sz _ rfl);exact rfl;exact(F.ze _ rfl);exact rfl;exact rfl;exact rfl;exact rfl;exact rfl)));refine gY (b:=40) (n:=1) (cs:=(Bn.elV ((4:Int)+(c0.toNat:Int),e)).map .sc) rfl rfl rfl rfl (F.un _ rfl) (.inl ⟨_,F.un _ rfl⟩) (F.sz _ rfl) rfl (by kernel_rfl) (by kernel_rfl) (SlOf.row (by(repeat(exact Tr.ab _ _ _));done) rfl) rfl (by decide) (by decide) ?_;rintro _ _ _ (⟨h,_⟩|⟨_,rfl,rfl,rfl⟩);exact absurd h (by decide);(repeat(first|refine ac ?_|refine aB ?_|refine aM rfl rfl rfl rfl (F.sz _ rfl) (by(repeat(first|assumption|refine(Tr.aa _ _ (by omega)).trans ?_));done) rfl (by exact zn rfl) rfl ?_));refine eg (by(repeat(first|exact Tr.ab _ _ _|refine(Tr.aa _ _ (by omega)).trans ?_));done) (.inl ⟨rfl,⟨Tr.ab _ _ _,by(focus((repeat(first|assumption|refine(Tr.aa _ _ (by omega)).trans ?_));done)),by(focus((repeat(first|assumption|refine(Tr.aa _ _ (by omega)).trans ?_));done)),by dsimp only;omega,by(focus((repeat(first|assumption|refine(Tr.aa _ _ (by omega)).trans ?_));done)),by(focus((repeat(first|assumption|refine(Tr.aa _ _ (by omega)).trans ?_));done)),by(focus((repeat(first|exact Tr.ab _ _ _|refine(Tr.aa _ _ (by omega)).trans ?_));done)),by(focus((repeat(first|exact Tr.ab _ _ _|refine(Tr.aa _ _ (by omega)).trans ?_));done)),by(focus((repeat(first|assumption|refine(Tr.aa _ _ (by omega)).trans ?_));done)),⟨_,_,_,e1,by(focus((repeat(first|exact Tr.ab _ _ _|refine(Tr.aa _ _ (by omega)).trans ?_));done)),by(focus((repeat(first|exact Tr.ab _ _ _|refine(Tr.aa _ _ (by omega)).trans ?_));done)),.inr ⟨n5+1+1,by simp,rfl,by first|omega|(dsimp only;omega),by first|omega|(dsimp only;omega),Eq.trans (b:=some (fQ false 1 4 98 ((Bn.elV ((4:Int)+(c0.toNat:Int),e)).map .sc))) (by(repeat(first|exact Tr.ab _ _ _|refine(Tr.aa _ _ (by omega)).trans ?_));done) (congrArg some (cR _ _ _ _ _))⟩⟩,fun m hm=>by(focus((repeat(refine(Tr.aa _ _ (by omega)).trans ?_));exact i12 m hm))⟩,by dsimp only;omega,by(focus((repeat(refine(Tr.aa _ _ (by omega)).trans ?_));exact rfl))⟩)
       ·(repeat(first|refine ae ?_|refine ac ?_|refine aB ?_|(apply aj;exact rfl;exact rfl;exact rfl)|refine aM rfl rfl rfl rfl (F.sz _ rfl) (by(repeat(first|assumption|refine(Tr.aa _ _ (by omega)).trans ?_|refine(Tr.ah _ (by omega)).trans ?_));done) rfl (by exact zn rfl) rfl ?_|refine an rfl rfl rfl (F.ag _ rfl) (by(repeat(first|assumption|exact Tr.ab _ _ _|refine(Tr.aa _ _ (by omega)).trans ?_));done) (by exact rfl) ?_|refine ay rfl rfl rfl (F.ag _ rfl) (by(repeat(first|assumption|exact Tr.ab _ _ _|refine(Tr.aa _ _ (by omega)).trans ?_));done) (by exact rfl) ?_|(apply bn;exact rfl;exact rfl;exact rfl;exact rfl;(focus(omega));(focus(omega)))|(apply bc;exact rfl;exact rfl;exact rfl;exact(F.ze _ rfl);exact(F.pl _ rfl);exact rfl)|(apply bE;exact rfl;exact rfl;exact(F.un _ rfl);exact(F.sz _ rfl);exact rfl;exact(F.ze _ rfl);exact rfl;exact rfl;exact rfl;exact rfl;exact rfl)|refine lW (b:=40) (xs:=l) (a:=((4:Int)+(c0.toNat:Int),e)) rfl rfl rfl rfl (F.un _ rfl) (.inl ⟨_,F.un _ rfl⟩) (F.sz _ rfl) rfl (by kernel_rfl) (by kernel_rfl) (by(repeat(first|assumption|refine(Tr.aa _ _ (by omega)).trans ?_));done) (by(repeat(exact Tr.ab _ _ _));done) (by exact rfl) (Bn.recP) (by omega) (by omega) ?_));refine eg (by(repeat(first|exact Tr.ab _ _ _|refine(Tr.aa _ _ (by omega)).trans ?_|refine(Tr.ah _ (by omega)).trans ?_));done) (.inl ⟨rfl,⟨Tr.ab _ _ _,by(focus((repeat(first|assumption|refine(Tr.aa _ _ (by omega)).trans ?_|refine(Tr.ah _ (by omega)).trans ?_));done)),by(focus((repeat(first|assumption|refine(Tr.aa _ _ (by omega)).trans ?_|refine(Tr.ah _ (by omega)).trans ?_));done)),by dsimp only;omega,by(focus((repeat(first|assumption|refine(Tr.aa _ _ (by omega)).trans ?_|refine(Tr.ah _ (by omega)).trans ?_));done)),by(focus((repeat(first|assumption|refine(Tr.aa _ _ (by omega)).trans ?_|refine(Tr.ah _ (by omega)).trans ?_));done)),by(focus((repeat(first|exact Tr.ab _ _ _|refine(Tr.aa _ _ (by omega)).trans ?_|refine(Tr.ah _ (by omega)).trans ?_));done)),by(focus((repeat(first|exact Tr.ab _ _ _|refine(Tr.aa _ _ (by omega)).trans ?_|refine(Tr.ah _ (by omega)).trans ?_));done)),by(focus((repeat(first|assumption|refine(Tr.aa _ _ (by omega)).trans ?_|refine(Tr.ah _ (by omega)).trans ?_));done)),⟨_,_,_,e1,by(focus((repeat(first|exact Tr.ab _ _ _|refine(Tr.aa _ _ (by omega)).trans ?_));done)),by(focus((repeat(first|exact Tr.ab _ _ _|refine(Tr.aa _ _ (by omega)).trans ?_|refine(Tr.ah _ (by omega)).trans ?_));done)),.inr ⟨n5+1+1,by simp,rfl,by first|omega|(dsimp only;omega),by first|omega|(dsimp only;omega),(by(repeat(first|exact Tr.ab _ _ _|refine(Tr.aa _ _ (by omega)).trans ?_));done)⟩⟩,fun m hm=>by(focus((repeat(first|refine(Tr.aa _ _ (by omega)).trans ?_|refine(Tr.ah _ (by omega)).trans ?_));exact i12 m hm))⟩,by dsimp only;omega,by(focus((repeat(first|refine(Tr.aa _ _ (by omega)).trans ?_|refine(Tr.ah _ (by omega)).trans ?_));exact rfl))⟩)
 ·refine⟨Tr.ab _ _ _,by(focus((repeat(first|assumption|refine(Tr.aa _ _ (by omega)).trans ?_));done)),by(focus((repeat(first|assumption|refine(Tr.aa _ _ (by omega)).trans ?_));done)),zD _,by(focus((repeat(first|assumption|refine(Tr.aa _ _ (by omega)).trans ?_));done)),by(focus((repeat(first|assumption|refine(Tr.aa _ _ (by omega)).trans ?_));done)),by(focus((repeat(first|assumption|refine(Tr.aa _ _ (by omega)).trans ?_));done)),by(focus((repeat(first|assumption|refine(Tr.aa _ _ (by omega)).trans ?_));done)),by(focus((repeat(first|exact Tr.ab _ _ _|refine(Tr.aa _ _ (by omega)).trans ?_));done)),⟨_,[],dl,rfl,by(focus((repeat(first|assumption|refine(Tr.aa _ _ (by omega)).trans ?_));done)),by(focus((repeat(first|assumption|refine(Tr.aa _ _ (by omega)).trans ?_));done)),.inl ⟨rfl,rfl⟩⟩,fun m hm=>by(focus((repeat(refine(Tr.aa _ _ (by omega)).trans ?_));exact mo m hm))⟩
 ·rintro⟨v,H5,n5⟩ (⟨i1,i2,i3,i4,i5,i6,i7,i8,i9,⟨u,l,s,j1,j2,j3,j4⟩,i12⟩|⟨i1,i4,i5,i8,i9,⟨l,s,hl,j2,j4⟩,hno,i12⟩)
  ·dsimp only at i1 i2 i3 i4 i5 i6 i7 i8 i9 j2 j3 j4 i12 ⊢
   rw [j1] at hM
   have hl:=h12 _ _ _ (zD _) j1
   clear i2 i3 i7 j3 j1 h12
   refine gW i1 (fun h=>by cases h) ?_
   dsimp only [gX]
   (repeat(first|refine aq ?_|refine ae ?_|refine ac ?_|refine aB ?_|(apply aj;exact rfl;exact rfl;exact rfl)|(apply ai;exact rfl;exact rfl;exact rfl)|refine an rfl rfl rfl (F.ag _ rfl) (by(repeat(first|assumption|refine(Tr.aa _ _ (by omega)).trans ?_));done) (by exact rfl) ?_))
   rcases j4 with ⟨rfl,rfl⟩|⟨r,k1,rfl,k2,k3,k4⟩
   ·have hn:iK p=none:=by
     rw [hM]
     show(if okB (nG [])=true then some (nG []) else none)=none
     rw [show nG []= [] from zz (kw [])]
     rfl
    have hs0:=Bn.sort_spec 0 #[] (by decide) rfl
    refine kr 4 98 (d:=79) rfl rfl ?_
    (refine aL rfl rfl rfl (by kernel_rfl) (Ctr.kg (hs0) [n5] rfl ⟨by intro n hn;simp at hn;omega,by simp;try omega⟩ rfl (by repeat(first|exact trivial|refine⟨c7 (by(repeat(exact Tr.ab _ _ _));done),?_⟩)) ?_);rintro _ rfl;refine⟨_,0,[n5],[some _],rfl,(by repeat(first|exact trivial|refine⟨eb _ _ _ _ _ _,?_⟩)),rfl,rfl,?_⟩;dsimp only [wrL])
    (repeat(first|refine aq ?_|refine ae ?_|refine ac ?_|refine aI ?_|(apply aj;exact rfl;exact rfl;exact rfl)|refine an rfl rfl rfl (F.ag _ rfl) (by(repeat(first|assumption|refine(Tr.aa _ _ (by omega)).trans ?_));done) (by exact rfl) ?_|((apply dB;exact rfl;exact rfl;exact rfl;exact(F.un _ rfl)))))
    refine co (α:=Nat) (fun i=> [(2,.ptr nx 0),(7,.ptr (nx+1+1+1) 0),(8,.ptr (nx+1+1+1+1) 0),(83,.sc (.int .i64 0)),(84,.sc (.int .i64 0))])
     (fun i H7 n7=>H7.at' nx=some (pgO zeroP)∧H7.at' (nx+1+1+1)=some (lvO dl)∧H7.at' (nx+1+1+1+1)=some (lO false)∧H7.at' (q0+1+1)=some (.dfd (some []))∧nx≤n7∧ ∀ m,m<nx→H7.at' m=H.at' m) (fun i=>0) 0
     ⟨by(focus((repeat(first|assumption|refine(Tr.aa _ _ (by omega)).trans ?_));done)),by(focus((repeat(first|assumption|refine(Tr.aa _ _ (by omega)).trans ?_));done)),by(focus((repeat(first|assumption|refine(Tr.aa _ _ (by omega)).trans ?_));done)),by(focus((repeat(first|assumption|refine(Tr.aa _ _ (by omega)).trans ?_));done)),by first|omega|(dsimp only;omega),fun m hm=>by(focus((repeat(refine(Tr.aa _ _ (by omega)).trans ?_));exact i12 m hm))⟩ (SlIn.sub (by repeat(first|exact trivial|refine⟨rfl,?_⟩))) ?_
    rintro i H7 n7 ⟨o1,o2,o3,o4,o5,o6⟩ _
    (repeat(first|refine aq ?_|refine ae ?_|refine ac ?_|refine a9 rfl ?_|refine ax rfl ?_|refine au rfl ?_|(apply aj;exact rfl;exact rfl;exact rfl)|(apply aX;exact rfl;exact rfl;exact rfl;exact rfl)|(apply aO;exact rfl;exact rfl;exact rfl;exact rfl)|(apply bT;exact rfl)|refine an rfl rfl rfl (F.ag _ rfl) (by assumption) (by exact rfl) ?_|(refine bR rfl rfl rfl rfl (fun hq=>absurd hq (by decide)) (fun _=>?_))|((apply dB;exact rfl;exact rfl;exact rfl;exact(F.un _ rfl)))|(refine eQ rfl rfl rfl rfl (fun _=>?_) (fun hq=>absurd rfl hq))))
    (repeat(first|(apply aE;(exact rfl);(exact rfl);(exact rfl);(exact F.sz _ rfl);(focus(assumption));(exact aY ak);(rw [aY ak];exact zD _);(exact dv _);(exact dt _ _ ak ak))|(refine dh rfl rfl iw ?_)|refine ac ?_|(apply ai;exact rfl;exact rfl;exact rfl)));refine gy Tryz.func34 (congrArg Array.toList Tryz.results34) (rs:= [q0+1+1]) rfl (fun r hr=>by rw [List.mem_singleton.1 hr];(focus((repeat(first|assumption|refine(Tr.aa _ _ (by omega)).trans ?_));done))) (by simp) ?_;intro H8 hH8;have kz:H8.at' nx=some (pgO zeroP):=(hH8 _ (fun h=>absurd (List.mem_singleton.1 h) (by omega))).trans (by(repeat(exact Tr.ab _ _ _));done);refine⟨_,(by(apply ResIs.cell rfl (LoadIs.many (F.ag _ rfl) (by assumption) (dg ak)));(repeat(first|exact ResIs.nil|apply ResIs.tmp rfl))),?_⟩;exact⟨by dsimp only;omega,fun m hm=>(hH8 _ (fun h=>absurd (List.mem_singleton.1 h) (by omega))).trans (by(repeat(refine(Tr.aa _ _ (by omega)).trans ?_));exact o6 m hm),.inl ⟨hn,rfl⟩⟩
   ·have hs0:=Bn.sort_spec l.length l.toArray hl (by simp)
    have hn0:0<l.length:=List.length_pos_iff.2 k1
    refine ki (R:=fun H6 n6=>n5=n6∧H6.at' nx=some (pgO zeroP)∧H6.at' (nx+1)=some (pgO p)∧H6.at' (nx+1+1+1)=some (lvO (.slu r 0 l.length))∧H6.at' (nx+1+1+1+1)=some (lO false)∧H6.at' r=some (pM l)∧H6.at' (q0+1+1)=some (.dfd (some []))∧ ∀ m,m<nx→H6.at' m=H.at' m) ⟨rfl,by(focus((repeat(first|assumption|refine(Tr.aa _ _ (by omega)).trans ?_));done)),by(focus((repeat(first|assumption|refine(Tr.aa _ _ (by omega)).trans ?_));done)),by(focus((repeat(first|assumption|refine(Tr.aa _ _ (by omega)).trans ?_));done)),by(focus((repeat(first|assumption|refine(Tr.aa _ _ (by omega)).trans ?_));done)),by(focus((repeat(first|assumption|refine(Tr.aa _ _ (by omega)).trans ?_));done)),by(focus((repeat(first|assumption|refine(Tr.aa _ _ (by omega)).trans ?_));done)),fun m hm=>by(focus((repeat(refine(Tr.aa _ _ (by omega)).trans ?_));exact i12 m hm))⟩ ?_
    clear i1 i5 i6 i8 i9 i12 k4 j2
    rintro H6 n6 ⟨rfl,b1,b2,b3,b4,b5,b6,b7⟩
    (refine aL rfl rfl rfl (by kernel_rfl) (Ctr.kg (hs0) [r] rfl ⟨by intro n hn;simp at hn;omega,by simp;try omega⟩ rfl (by repeat(first|exact trivial|refine⟨c7 (by assumption),?_⟩)) ?_);rintro _ rfl;refine⟨_,0,[r],[some _],rfl,(by repeat(first|exact trivial|refine⟨eb _ _ _ _ _ _,?_⟩)),rfl,rfl,?_⟩;dsimp only [wrL])
    rw [show dat false l.length 4 98 ((Sort.sort Bn.ltP l.toArray).toList.flatMap Bn.elV)=pM (nG l)from uW l]
    replace hM:iK p=if okB (nG l)=true then some (nG l) else none:=hM
    have hsl:=kw l
    rw [← hsl] at hl hn0 b3 ⊢
    generalize nG l=sb at hM hl hn0 b3 ⊢
    clear hs0 hsl k1 b5
    (repeat(first|refine aq ?_|refine ae ?_|refine ac ?_|refine aI ?_|(apply aj;exact rfl;exact rfl;exact rfl)|refine an rfl rfl rfl (F.ag _ rfl) (by(repeat(first|assumption|refine(Tr.aa _ _ (by omega)).trans ?_));done) (by exact rfl) ?_|(apply a6;exact rfl;exact rfl;exact rfl;exact(F.un _ rfl))))
    refine se (d:=14) (s':=Bn.cmpF) rfl (fun e v h=>by simpa [SV.conc,SV.aQ] using h) ?_
    refine co (α:=Nat) (fun i=> [(2,.ptr nx 0),(5,.ptr (nx+1) 0),(7,.ptr (nx+1+1+1) 0),(8,.ptr (nx+1+1+1+1) 0),(14,Bn.cmpF),(83,.sc (.int .i64 (sb.length:Int))),(84,.sc (.int .i64 (i:Int)))])
     (fun i H7 n7=>i≤sb.length∧H7.at' nx=some (pgO zeroP)∧H7.at' (nx+1)=some (pgO p)∧H7.at' (nx+1+1+1)=some (lvO (.slu r 0 sb.length))∧H7.at' (nx+1+1+1+1)=some (lO (wz sb i))∧H7.at' r=some (pM sb)∧H7.at' (q0+1+1)=some (.dfd (some []))∧n5≤n7∧ ∀ m,m<nx→H7.at' m=H.at' m) (fun i=>sb.length-i) 0
     ⟨zE _,by(focus((repeat(first|assumption|refine(Tr.aa _ _ (by omega)).trans ?_));done)),by(focus((repeat(first|assumption|refine(Tr.aa _ _ (by omega)).trans ?_));done)),by(focus((repeat(first|assumption|refine(Tr.aa _ _ (by omega)).trans ?_));done)),by(focus((repeat(first|assumption|refine(Tr.aa _ _ (by omega)).trans ?_));done)),by(focus((repeat(exact Tr.ab _ _ _));done)),by(focus((repeat(first|assumption|refine(Tr.aa _ _ (by omega)).trans ?_));done)),by first|omega|(dsimp only;omega),fun m hm=>by(focus((repeat(refine(Tr.aa _ _ (by omega)).trans ?_));exact b7 m hm))⟩ (SlIn.sub (by repeat(first|exact trivial|refine⟨rfl,?_⟩))) ?_
    clear b1 b2 b3 b4 b6 b7
    rintro i H7 n7 ⟨o0,o1,o2,o3,o4,o5,o6,o7,o8⟩ ih
    (repeat(first|refine aq ?_|refine ae ?_))
    refine bR rfl rfl rfl rfl (fun c1=>?_) (fun c1=>?_)
    ·have hi:i<sb.length:=by omega
     (repeat(first|refine aq ?_|refine ae ?_|refine ac ?_|refine aI ?_|refine aH ?_|refine ax rfl ?_|(apply aj;exact rfl;exact rfl;exact rfl)|(apply ai;exact rfl;exact rfl;exact rfl)))
     have hdb:wz sb (i+1)=(wz sb i || (decide (0<i) && decide (Bn.ordP (sb.getD i (0,ei)) (sb.getD (i-1) (0,ei))=0))):=rfl
     cases hd:wz sb i with
     | true=>
       rw [hd] at o4 hdb
       (apply cY;(focus(kernel_rfl));(focus(kernel_rfl)))
       (repeat(first|refine bx rfl rfl rfl (F.ag _ rfl) (by assumption) (by exact rfl) ?_|refine bO rfl rfl rfl (F.sz _ rfl) (by assumption) (by exact rfl) (by exact rfl) ?_|(apply bD;exact rfl;exact rfl;exact rfl)|(apply bP;exact rfl;exact rfl;exact rfl;exact rfl)|(apply cZ;exact rfl;exact rfl)))
       (refine bZ ?_);(refine⟨by kernel_rfl,?_,?_⟩);(focus(repeat(first|exact trivial|refine⟨.inl (bJ rfl),?_⟩|refine⟨.inl (eX rfl),?_⟩|refine⟨.inr ⟨0,by kernel_rfl,AllH.all (fun _=>(by first|exact bC rfl|exact ci rfl rfl)) _⟩,?_⟩|refine⟨.inr ⟨0,by kernel_rfl,(by(refine⟨(by(exact aZ (F.ag _ rfl) rfl (by(repeat(exact Tr.ab _ _ _));done) (aW rfl))),?_⟩;(repeat(refine⟨(by(exact aZ (F.ag _ rfl) rfl (by assumption) (aW rfl))),?_⟩));exact trivial))⟩,?_⟩)))
       (repeat(first|refine ae ?_|refine ac ?_|refine aB ?_|(apply aj;exact rfl;exact rfl;exact rfl)|(apply bn;exact rfl;exact rfl;exact rfl;exact rfl;(focus(omega));(focus(omega)))))
       exact ih _ _ _ (i+1) ⟨hi,by(focus((repeat(first|assumption|refine(Tr.aa _ _ (by omega)).trans ?_));done)),by(focus((repeat(first|assumption|refine(Tr.aa _ _ (by omega)).trans ?_));done)),by(focus((repeat(first|assumption|refine(Tr.aa _ _ (by omega)).trans ?_));done)),by rw [hdb];(focus((repeat(exact Tr.ab _ _ _));done)),by(focus((repeat(first|assumption|refine(Tr.aa _ _ (by omega)).trans ?_));done)),by(focus((repeat(first|assumption|refine(Tr.aa _ _ (by omega)).trans ?_));done)),by first|omega|(dsimp only;omega),fun m hm=>by(focus((repeat(refine(Tr.aa _ _ (by omega)).trans ?_));exact o8 m hm))⟩ (by omega) (SlIn.sub (by repeat(first|exact trivial|refine⟨rfl,?_⟩)))
     | false=>
       rw [hd] at o4 hdb
       (apply cY;(focus(kernel_rfl));(focus(kernel_rfl)))
       (repeat(first|refine bx rfl rfl rfl (F.ag _ rfl) (by assumption) (by exact rfl) ?_|(apply bD;exact rfl;exact rfl;exact rfl)))
       refine lD rfl rfl rfl rfl (fun c2=>?_) (fun c2=>?_)
       ·have hg1:sb.getD i (0,ei)=sb.toArray[i]! :=by rw [zy,zk hi,getElem!_pos _ i (by simpa using hi)];simp
        have hg2:sb.getD (i-1) (0,ei)=sb.toArray[i-1]! :=by rw [zy,zk (by omega),getElem!_pos _ (i-1) (by simp;omega)];simp
        rw [hg1,hg2] at hdb
        (repeat(first|refine bx rfl rfl rfl (F.ag _ rfl) (by assumption) (by exact rfl) ?_|refine dK (q:=i-1) rfl rfl rfl rfl (F.un _ rfl) (F.sz _ rfl) (by assumption) (by omega) (by(omega)) (zD _) ?_|refine dK (q:=i) rfl rfl rfl rfl (F.un _ rfl) (F.sz _ rfl) (by assumption) (by omega) (by(omega)) (zD _) ?_|(refine oG rfl rfl rfl (F.ag _ rfl) Bn.recP o5 (by simp;omega) (by simp) ?_)|(apply ng;exact rfl;exact rfl;exact rfl;exact rfl;(focus(kernel_rfl));exact rfl;exact(Ctr.callV (Bn.cmp_spec sb.toArray[i-1]! sb.toArray[i]!) [] rfl (ExtOk.of rfl) rfl trivial rfl))|(apply bD;exact rfl;exact rfl;exact rfl)|(apply eS;exact rfl;exact rfl;exact rfl;exact rfl;(focus(omega));(focus(omega)))))
        refine gP rfl rfl rfl rfl (fun c3=>?_) (fun c3=>?_)
        ·rw [decide_eq_true (by omega:0<i),decide_eq_true c3] at hdb
         (repeat(first|refine bO rfl rfl rfl (F.sz _ rfl) (by assumption) (by exact rfl) (by exact rfl) ?_|(apply bP;exact rfl;exact rfl;exact rfl;exact rfl)|(apply cp;exact rfl;exact rfl;exact rfl;exact rfl)))
         (refine bZ ?_);(refine⟨by kernel_rfl,?_,?_⟩);(focus(repeat(first|exact trivial|refine⟨.inl (bJ rfl),?_⟩|refine⟨.inr ⟨0,by kernel_rfl,AllH.all (fun _=>(by first|exact bC rfl|exact ci rfl rfl|exact cC rfl rfl|exact bU rfl rfl (.inr (.inl ⟨rfl,(zi _ ⟨by omega,by omega⟩).symm⟩)))) _⟩,?_⟩|refine⟨.inr ⟨0,by kernel_rfl,(by(refine⟨(by(exact aZ (F.ag _ rfl) rfl (by(repeat(first|assumption|exact Tr.ab _ _ _|refine(Tr.aa _ _ (by omega)).trans ?_));done) (aW rfl))),?_⟩;(repeat(refine⟨(by(exact aZ (F.ag _ rfl) rfl (by assumption) (aW rfl))),?_⟩));exact trivial))⟩,?_⟩|refine⟨.inr ⟨1,by kernel_rfl,(by(refine⟨(by(exact aZ (F.ag _ rfl) rfl (by assumption) (aW rfl))),?_⟩;(repeat(refine⟨(by(exact aZ (F.ag _ rfl) rfl (by assumption) (aW rfl))),?_⟩));exact trivial))⟩,?_⟩|refine⟨.inl (by kernel_rfl),?_⟩)));(repeat(first|refine ae ?_|refine ac ?_|refine aB ?_|(apply aj;exact rfl;exact rfl;exact rfl)|(apply bn;exact rfl;exact rfl;exact rfl;exact rfl;(focus(omega));(focus(omega)))))
         exact ih _ _ _ (i+1) ⟨hi,by(focus((repeat(first|assumption|refine(Tr.aa _ _ (by omega)).trans ?_));done)),by(focus((repeat(first|assumption|refine(Tr.aa _ _ (by omega)).trans ?_));done)),by(focus((repeat(first|assumption|refine(Tr.aa _ _ (by omega)).trans ?_));done)),by rw [hdb];(focus((repeat(exact Tr.ab _ _ _));done)),by(focus((repeat(first|assumption|refine(Tr.aa _ _ (by omega)).trans ?_));done)),by(focus((repeat(first|assumption|refine(Tr.aa _ _ (by omega)).trans ?_));done)),by first|omega|(dsimp only;omega),fun m hm=>by(focus((repeat(refine(Tr.aa _ _ (by omega)).trans ?_));exact o8 m hm))⟩ (by omega) (SlIn.sub (by repeat(first|exact trivial|refine⟨rfl,?_⟩)))
        ·rw [decide_eq_true (by omega:0<i),decide_eq_false c3] at hdb
         (repeat(first|refine bO rfl rfl rfl (F.sz _ rfl) (by assumption) (by exact rfl) (by exact rfl) ?_|(apply bP;exact rfl;exact rfl;exact rfl;exact rfl)|(apply cp;exact rfl;exact rfl;exact rfl;exact rfl)))
         (refine bZ ?_);(refine⟨by kernel_rfl,?_,?_⟩);(focus(repeat(first|exact trivial|refine⟨.inl (bJ rfl),?_⟩|refine⟨.inr ⟨0,by kernel_rfl,AllH.all (fun _=>(by first|exact bC rfl|exact ci rfl rfl|exact cC rfl rfl|exact bU rfl rfl (.inr (.inl ⟨rfl,(zi _ ⟨by omega,by omega⟩).symm⟩)))) _⟩,?_⟩|refine⟨.inr ⟨0,by kernel_rfl,(by(refine⟨(by(exact aZ (F.ag _ rfl) rfl (by(repeat(first|assumption|exact Tr.ab _ _ _|refine(Tr.aa _ _ (by omega)).trans ?_));done) (aW rfl))),?_⟩;(repeat(refine⟨(by(exact aZ (F.ag _ rfl) rfl (by assumption) (aW rfl))),?_⟩));exact trivial))⟩,?_⟩|refine⟨.inl (by kernel_rfl),?_⟩)));(repeat(first|refine ae ?_|refine ac ?_|refine aB ?_|(apply aj;exact rfl;exact rfl;exact rfl)|(apply bn;exact rfl;exact rfl;exact rfl;exact rfl;(focus(omega));(focus(omega)))))
         exact ih _ _ _ (i+1) ⟨hi,by(focus((repeat(first|assumption|refine(Tr.aa _ _ (by omega)).trans ?_));done)),by(focus((repeat(first|assumption|refine(Tr.aa _ _ (by omega)).trans ?_));done)),by(focus((repeat(first|assumption|refine(Tr.aa _ _ (by omega)).trans ?_));done)),by rw [hdb];(focus((repeat(exact Tr.ab _ _ _));done)),by(focus((repeat(first|assumption|refine(Tr.aa _ _ (by omega)).trans ?_));done)),by(focus((repeat(first|assumption|refine(Tr.aa _ _ (by omega)).trans ?_));done)),by first|omega|(dsimp only;omega),fun m hm=>by(focus((repeat(refine(Tr.aa _ _ (by omega)).trans ?_));exact o8 m hm))⟩ (by omega) (SlIn.sub (by repeat(first|exact trivial|refine⟨rfl,?_⟩)))
       ·rw [decide_eq_false (by omega: ¬ 0<i)] at hdb
        (repeat(first|refine bO rfl rfl rfl (F.sz _ rfl) (by assumption) (by exact rfl) (by exact rfl) ?_|(apply bD;exact rfl;exact rfl;exact rfl)|(apply cp;exact rfl;exact rfl;exact rfl;exact rfl)|(apply cZ;exact rfl;exact rfl)))
        (refine bZ ?_);(refine⟨by kernel_rfl,?_,?_⟩);(focus(repeat(first|exact trivial|refine⟨.inl (bJ rfl),?_⟩|refine⟨.inl (eX rfl),?_⟩|refine⟨.inr ⟨0,by kernel_rfl,AllH.all (fun _=>(by first|exact bC rfl|exact cC rfl rfl)) _⟩,?_⟩|refine⟨.inr ⟨0,by kernel_rfl,(by(refine⟨(by(exact aZ (F.ag _ rfl) rfl (by(repeat(first|assumption|exact Tr.ab _ _ _));done) (aW rfl))),?_⟩;(repeat(refine⟨(by(exact aZ (F.ag _ rfl) rfl (by assumption) (aW rfl))),?_⟩));exact trivial))⟩,?_⟩|refine⟨.inl (by kernel_rfl),?_⟩)));(repeat(first|refine ae ?_|refine ac ?_|refine aB ?_|(apply aj;exact rfl;exact rfl;exact rfl)|(apply bn;exact rfl;exact rfl;exact rfl;exact rfl;(focus(omega));(focus(omega)))))
        exact ih _ _ _ (i+1) ⟨hi,by(focus((repeat(first|assumption|refine(Tr.aa _ _ (by omega)).trans ?_));done)),by(focus((repeat(first|assumption|refine(Tr.aa _ _ (by omega)).trans ?_));done)),by(focus((repeat(first|assumption|refine(Tr.aa _ _ (by omega)).trans ?_));done)),by rw [hdb];(focus((repeat(exact Tr.ab _ _ _));done)),by(focus((repeat(first|assumption|refine(Tr.aa _ _ (by omega)).trans ?_));done)),by(focus((repeat(first|assumption|refine(Tr.aa _ _ (by omega)).trans ?_));done)),by first|omega|(dsimp only;omega),fun m hm=>by(focus((repeat(refine(Tr.aa _ _ (by omega)).trans ?_));exact o8 m hm))⟩ (by omega) (SlIn.sub (by repeat(first|exact trivial|refine⟨rfl,?_⟩)))
    ·(repeat(first|refine aq ?_|refine ae ?_|refine ac ?_|refine a9 rfl ?_|refine au rfl ?_|(apply aj;exact rfl;exact rfl;exact rfl)|refine an rfl rfl rfl (F.ag _ rfl) (by assumption) (by exact rfl) ?_))
     have hin:i=sb.length:=by omega
     subst hin
     have hB:okB sb=(!(wz sb sb.length) && vK sb):=rfl
     cases hd:wz sb sb.length with
     | true=>
       rw [hd] at o4 hB
       have hn:iK p=none:=by rw [hM,hB];rfl
       (repeat(first|refine aq ?_|refine ae ?_|refine ac ?_|refine ax rfl ?_|(apply aj;exact rfl;exact rfl;exact rfl)|(apply aX;exact rfl;exact rfl;exact rfl;exact rfl)|(apply bT;exact rfl)))
       (repeat(first|(apply aE;(exact rfl);(exact rfl);(exact rfl);(exact F.sz _ rfl);(focus(assumption));(exact aY ak);(rw [aY ak];exact zD _);(exact dv _);(exact dt _ _ ak ak))|(refine dh rfl rfl iw ?_)|refine ac ?_|(apply ai;exact rfl;exact rfl;exact rfl)));refine gy Tryz.func34 (congrArg Array.toList Tryz.results34) (rs:= [q0+1+1]) rfl (fun r hr=>by rw [List.mem_singleton.1 hr];(focus((repeat(first|assumption|refine(Tr.aa _ _ (by omega)).trans ?_));done))) (by simp) ?_;intro H8 hH8;have kz:H8.at' nx=some (pgO zeroP):=(hH8 _ (fun h=>absurd (List.mem_singleton.1 h) (by omega))).trans (by(repeat(exact Tr.ab _ _ _));done);refine⟨_,(by(apply ResIs.cell rfl (LoadIs.many (F.ag _ rfl) (by assumption) (dg ak)));(repeat(first|exact ResIs.nil|apply ResIs.tmp rfl))),?_⟩;exact⟨by dsimp only;omega,fun m hm=>(hH8 _ (fun h=>absurd (List.mem_singleton.1 h) (by omega))).trans (by(repeat(refine(Tr.aa _ _ (by omega)).trans ?_));exact o8 m hm),.inl ⟨hn,rfl⟩⟩
     | false=>
       rw [hd] at o4 hB
       (repeat(first|(apply aj;exact rfl;exact rfl;exact rfl)|(apply aO;exact rfl;exact rfl;exact rfl;exact rfl)|refine an rfl rfl rfl (F.ag _ rfl) (by assumption) (by exact rfl) ?_|(apply a6;exact rfl;exact rfl;exact rfl;exact(F.un _ rfl))|(refine eQ rfl rfl rfl rfl (fun hq=>absurd hq (by omega)) (fun _=>?_))))
       obtain⟨x0,s0',rfl⟩: ∃ x l,sb=x :: l:=by cases sb with|nil=>simp at hn0|cons a l=>exact⟨a,l,rfl⟩
       (repeat(first|(refine fm (q:=0) rfl rfl rfl rfl (F.un _ rfl) (F.sz _ rfl) o5 rfl hn0 (zD _) ?_)|(refine fS (us:= [.string x0.2.1,.int .i64 x0.2.2.1,.int .i64 x0.2.2.2]) rfl rfl rfl (F.ag _ rfl) o5 rfl rfl (by simp;omega) ?_)|(apply ap;exact rfl;exact rfl;exact rfl;exact(F.fo _ _ rfl rfl))|(apply bc;exact rfl;exact rfl;exact rfl;exact(F.ze _ rfl);exact(F.pl _ rfl);exact rfl)))
       cases he:gu x0.2 ei with
       | false=>
         refine sk rfl rfl he rfl rfl ?_
         have hn:iK p=none:=by rw [hM,hB];simp only [vK,he];rfl
         (repeat(first|refine aq ?_|refine ae ?_|refine ac ?_|refine ax rfl ?_|(apply aO;exact rfl;exact rfl;exact rfl;exact rfl)))
         (repeat(first|(apply aE;(exact rfl);(exact rfl);(exact rfl);(exact F.sz _ rfl);(focus(assumption));(exact aY ak);(rw [aY ak];exact zD _);(exact dv _);(exact dt _ _ ak ak))|(refine dh rfl rfl iw ?_)|refine ac ?_|(apply ai;exact rfl;exact rfl;exact rfl)));refine gy Tryz.func34 (congrArg Array.toList Tryz.results34) (rs:= [q0+1+1]) rfl (fun r hr=>by rw [List.mem_singleton.1 hr];(focus((repeat(first|assumption|refine(Tr.aa _ _ (by omega)).trans ?_));done))) (by simp) ?_;intro H8 hH8;have kz:H8.at' nx=some (pgO zeroP):=(hH8 _ (fun h=>absurd (List.mem_singleton.1 h) (by omega))).trans (by(repeat(exact Tr.ab _ _ _));done);refine⟨_,(by(apply ResIs.cell rfl (LoadIs.many (F.ag _ rfl) (by assumption) (dg ak)));(repeat(first|exact ResIs.nil|apply ResIs.tmp rfl))),?_⟩;exact⟨by dsimp only;omega,fun m hm=>(hH8 _ (fun h=>absurd (List.mem_singleton.1 h) (by omega))).trans (by(repeat(refine(Tr.aa _ _ (by omega)).trans ?_));exact o8 m hm),.inl ⟨hn,rfl⟩⟩
       | true=>
         refine sk rfl rfl he rfl rfl ?_
         have hn:iK p=some (x0 :: s0'):=by rw [hM,hB];simp only [vK,he];rfl
         (repeat(first|refine aq ?_|refine ac ?_|refine aH ?_|refine au rfl ?_|(apply aO;exact rfl;exact rfl;exact rfl;exact rfl)))
         (apply cY;(focus(kernel_rfl));(focus(kernel_rfl)))
         (repeat(first|(refine bI rfl rfl rfl (F.ag _ rfl) o2 (aY hp) ?_)|(refine cW rfl rfl rfl (F.sz _ rfl) (by assumption) (aY hp) (by rw [aY ak];exact zD _) (dv _) (dt _ _ ak hp) ?_)|refine bx rfl rfl rfl (F.ag _ rfl) (by assumption) (by exact rfl) ?_|(apply bY;exact rfl;exact rfl;exact rfl)))
         (refine bZ ?_);(refine⟨by kernel_rfl,?_,?_⟩);(focus(repeat(first|exact trivial|refine⟨.inl (bJ rfl),?_⟩|refine⟨.inr ⟨0,by kernel_rfl,AllH.all (fun _=>(by(exact ch rfl))) _⟩,?_⟩|refine⟨.inr ⟨0,by kernel_rfl,(by(refine⟨(by first|exact aZ (F.ag _ rfl) rfl (by(repeat(first|assumption|refine(Tr.aa _ _ (by omega)).trans ?_));done) (aW rfl)|exact bg (F.ag _ rfl) rfl (by(repeat(refine(Tr.aa _ _ (by omega)).trans ?_));exact o2) (dg hp)),?_⟩;(repeat(refine⟨(by first|exact aZ (F.ag _ rfl) rfl (by assumption) (aW rfl)|exact bg (F.ag _ rfl) rfl o2 (dg hp)),?_⟩));exact trivial))⟩,?_⟩)))
         refine gy Tryz.func34 (congrArg Array.toList Tryz.results34) (rs:= [q0+1+1]) rfl (fun r hr=>by rw [List.mem_singleton.1 hr];(focus((repeat(first|assumption|refine(Tr.aa _ _ (by omega)).trans ?_));done))) (by simp) ?_
         intro H8 hH8
         have kz:H8.at' nx=some (pgO p):=(hH8 _ (fun h=>absurd (List.mem_singleton.1 h) (by omega))).trans (by(repeat(exact Tr.ab _ _ _));done)
         refine⟨_,(by(apply ResIs.cell rfl (LoadIs.many (F.ag _ rfl) (by assumption) (dg hp)));(repeat(first|exact ResIs.nil|apply ResIs.tmp rfl))),?_⟩
         exact⟨by dsimp only;omega,fun m hm=>(hH8 _ (fun h=>absurd (List.mem_singleton.1 h) (by omega))).trans (by(repeat(refine(Tr.aa _ _ (by omega)).trans ?_));exact o8 m hm),.inr ⟨x0 :: s0',r,hn,rfl,by omega,by dsimp only;omega,(hH8 _ (fun h=>absurd (List.mem_singleton.1 h) (by omega))).trans (by(repeat(refine(Tr.aa _ _ (by omega)).trans ?_));exact o5)⟩⟩
  ·dsimp only at i1 i4 i5 i8 i9 j2 j4 i12 ⊢
   have hn:iK p=none:=by rw [hM,hno]
   refine gW i1 (fun h=>by cases h) ?_
   dsimp only [gX]
   (repeat(first|refine aq ?_|refine ae ?_|refine ac ?_|refine a9 rfl ?_|(apply aj;exact rfl;exact rfl;exact rfl)|(apply ai;exact rfl;exact rfl;exact rfl)|refine an rfl rfl rfl (F.ag _ rfl) (by(repeat(first|assumption|refine(Tr.aa _ _ (by omega)).trans ?_));done) (by exact rfl) ?_))
   rcases j4 with ⟨rfl,rfl⟩|⟨r,k1,rfl,k2,k3,k4⟩
   ·have hs0:=Bn.sort_spec 0 #[] (by decide) rfl
    refine kr 4 98 (d:=79) rfl rfl ?_
    (refine aL rfl rfl rfl (by kernel_rfl) (Ctr.kg (hs0) [n5] rfl ⟨by intro n hn;simp at hn;omega,by simp;try omega⟩ rfl (by repeat(first|exact trivial|refine⟨c7 (by(repeat(exact Tr.ab _ _ _));done),?_⟩)) ?_);rintro _ rfl;refine⟨_,0,[n5],[some _],rfl,(by repeat(first|exact trivial|refine⟨eb _ _ _ _ _ _,?_⟩)),rfl,rfl,?_⟩;dsimp only [wrL])
    (repeat(first|refine aq ?_|refine ae ?_|refine ac ?_|refine aI ?_|(apply aj;exact rfl;exact rfl;exact rfl)|refine an rfl rfl rfl (F.ag _ rfl) (by(repeat(first|assumption|refine(Tr.aa _ _ (by omega)).trans ?_));done) (by exact rfl) ?_|((apply dB;exact rfl;exact rfl;exact rfl;exact(F.un _ rfl)))))
    refine co (α:=Nat) (fun i=> [(2,.ptr nx 0),(7,.ptr (nx+1+1+1) 0),(8,.ptr (nx+1+1+1+1) 0),(83,.sc (.int .i64 0)),(84,.sc (.int .i64 0))])
     (fun i H7 n7=>H7.at' nx=some (pgO zeroP)∧H7.at' (nx+1+1+1+1)=some (lO true)∧H7.at' (q0+1+1)=some (.dfd (some []))∧nx≤n7∧ ∀ m,m<nx→H7.at' m=H.at' m) (fun i=>0) 0
     ⟨by(focus((repeat(first|assumption|refine(Tr.aa _ _ (by omega)).trans ?_));done)),by(focus((repeat(first|assumption|refine(Tr.aa _ _ (by omega)).trans ?_));done)),by(focus((repeat(first|assumption|refine(Tr.aa _ _ (by omega)).trans ?_));done)),by first|omega|(dsimp only;omega),fun m hm=>by(focus((repeat(refine(Tr.aa _ _ (by omega)).trans ?_));exact i12 m hm))⟩ (SlIn.sub (by repeat(first|exact trivial|refine⟨rfl,?_⟩))) ?_
    rintro i H7 n7 ⟨o1,o3,o4,o5,o6⟩ _
    (repeat(first|refine aq ?_|refine ae ?_|refine ac ?_|refine a9 rfl ?_|refine ax rfl ?_|refine au rfl ?_|(apply aj;exact rfl;exact rfl;exact rfl)|(apply aX;exact rfl;exact rfl;exact rfl;exact rfl)|(apply bT;exact rfl)|refine an rfl rfl rfl (F.ag _ rfl) (by assumption) (by exact rfl) ?_|(refine bR rfl rfl rfl rfl (fun hq=>absurd hq (by decide)) (fun _=>?_))))
    (repeat(first|(apply aE;(exact rfl);(exact rfl);(exact rfl);(exact F.sz _ rfl);(focus(assumption));(exact aY ak);(rw [aY ak];exact zD _);(exact dv _);(exact dt _ _ ak ak))|(refine dh rfl rfl iw ?_)|refine ac ?_|(apply ai;exact rfl;exact rfl;exact rfl)));refine gy Tryz.func34 (congrArg Array.toList Tryz.results34) (rs:= [q0+1+1]) rfl (fun r hr=>by rw [List.mem_singleton.1 hr];(focus((repeat(first|assumption|refine(Tr.aa _ _ (by omega)).trans ?_));done))) (by simp) ?_;intro H8 hH8;have kz:H8.at' nx=some (pgO zeroP):=(hH8 _ (fun h=>absurd (List.mem_singleton.1 h) (by omega))).trans (by(repeat(exact Tr.ab _ _ _));done);refine⟨_,(by(apply ResIs.cell rfl (LoadIs.many (F.ag _ rfl) (by assumption) (dg ak)));(repeat(first|exact ResIs.nil|apply ResIs.tmp rfl))),?_⟩;exact⟨by dsimp only;omega,fun m hm=>(hH8 _ (fun h=>absurd (List.mem_singleton.1 h) (by omega))).trans (by(repeat(refine(Tr.aa _ _ (by omega)).trans ?_));exact o6 m hm),.inl ⟨hn,rfl⟩⟩
   ·have hs0:=Bn.sort_spec l.length l.toArray hl (by simp)
    refine ki (R:=fun H6 n6=>n5=n6∧H6.at' nx=some (pgO zeroP)∧H6.at' (nx+1+1+1)=some (lvO (.slu r 0 l.length))∧H6.at' (nx+1+1+1+1)=some (lO true)∧H6.at' r=some (pM l)∧H6.at' (q0+1+1)=some (.dfd (some []))∧ ∀ m,m<nx→H6.at' m=H.at' m) ⟨rfl,by(focus((repeat(first|assumption|refine(Tr.aa _ _ (by omega)).trans ?_));done)),by(focus((repeat(first|assumption|refine(Tr.aa _ _ (by omega)).trans ?_));done)),by(focus((repeat(first|assumption|refine(Tr.aa _ _ (by omega)).trans ?_));done)),by(focus((repeat(first|assumption|refine(Tr.aa _ _ (by omega)).trans ?_));done)),by(focus((repeat(first|assumption|refine(Tr.aa _ _ (by omega)).trans ?_));done)),fun m hm=>by(focus((repeat(refine(Tr.aa _ _ (by omega)).trans ?_));exact i12 m hm))⟩ ?_
    clear i1 i5 i8 i9 i12 k4 j2
    rintro H6 n6 ⟨rfl,b1,b3,b4,b5,b6,b7⟩
    (refine aL rfl rfl rfl (by kernel_rfl) (Ctr.kg (hs0) [r] rfl ⟨by intro n hn;simp at hn;omega,by simp;try omega⟩ rfl (by repeat(first|exact trivial|refine⟨c7 (by assumption),?_⟩)) ?_);rintro _ rfl;refine⟨_,0,[r],[some _],rfl,(by repeat(first|exact trivial|refine⟨eb _ _ _ _ _ _,?_⟩)),rfl,rfl,?_⟩;dsimp only [wrL])
    (repeat(first|refine aq ?_|refine ae ?_|refine ac ?_|refine aI ?_|(apply aj;exact rfl;exact rfl;exact rfl)|refine an rfl rfl rfl (F.ag _ rfl) (by(repeat(first|assumption|refine(Tr.aa _ _ (by omega)).trans ?_));done) (by exact rfl) ?_|(apply a6;exact rfl;exact rfl;exact rfl;exact(F.un _ rfl))))
    refine co (α:=Nat) (fun i=> [(2,.ptr nx 0),(7,.ptr (nx+1+1+1) 0),(8,.ptr (nx+1+1+1+1) 0),(83,.sc (.int .i64 (l.length:Int))),(84,.sc (.int .i64 (i:Int)))])
     (fun i H7 n7=>i≤l.length∧H7.at' nx=some (pgO zeroP)∧H7.at' (nx+1+1+1)=some (lvO (.slu r 0 l.length))∧H7.at' (nx+1+1+1+1)=some (lO true)∧H7.at' (q0+1+1)=some (.dfd (some []))∧nx≤n7∧ ∀ m,m<nx→H7.at' m=H.at' m) (fun i=>l.length-i) 0
     ⟨zE _,by(focus((repeat(first|assumption|refine(Tr.aa _ _ (by omega)).trans ?_));done)),by(focus((repeat(first|assumption|refine(Tr.aa _ _ (by omega)).trans ?_));done)),by(focus((repeat(first|assumption|refine(Tr.aa _ _ (by omega)).trans ?_));done)),by(focus((repeat(first|assumption|refine(Tr.aa _ _ (by omega)).trans ?_));done)),by first|omega|(dsimp only;omega),fun m hm=>by(focus((repeat(refine(Tr.aa _ _ (by omega)).trans ?_));exact b7 m hm))⟩ (SlIn.sub (by repeat(first|exact trivial|refine⟨rfl,?_⟩))) ?_
    clear b1 b3 b4 b6 b7
    rintro i H7 n7 ⟨o0,o1,o3,o4,o6,o7,o8⟩ ih
    (repeat(first|refine aq ?_|refine ae ?_))
    refine bR rfl rfl rfl rfl (fun c1=>?_) (fun c1=>?_)
    ·(repeat(first|refine aq ?_|refine ae ?_|refine ac ?_|refine aI ?_|refine aH ?_|refine ax rfl ?_|(apply aj;exact rfl;exact rfl;exact rfl)|(apply ai;exact rfl;exact rfl;exact rfl)))
     (apply cY;(focus(kernel_rfl));(focus(kernel_rfl)))
     (repeat(first|refine bx rfl rfl rfl (F.ag _ rfl) (by assumption) (by exact rfl) ?_|refine bO rfl rfl rfl (F.sz _ rfl) (by assumption) (by exact rfl) (by exact rfl) ?_|(apply bD;exact rfl;exact rfl;exact rfl)|(apply bP;exact rfl;exact rfl;exact rfl;exact rfl)|(apply cZ;exact rfl;exact rfl)))
     (refine bZ ?_);(refine⟨by kernel_rfl,?_,?_⟩);(focus(repeat(first|exact trivial|refine⟨.inl (bJ rfl),?_⟩|refine⟨.inl (eX rfl),?_⟩|refine⟨.inr ⟨0,by kernel_rfl,AllH.all (fun _=>(by first|exact bC rfl|exact ci rfl rfl)) _⟩,?_⟩|refine⟨.inr ⟨0,by kernel_rfl,(by(refine⟨(by(exact aZ (F.ag _ rfl) rfl (by(repeat(exact Tr.ab _ _ _));done) (aW rfl))),?_⟩;(repeat(refine⟨(by(exact aZ (F.ag _ rfl) rfl (by assumption) (aW rfl))),?_⟩));exact trivial))⟩,?_⟩)))
     (repeat(first|refine ae ?_|refine ac ?_|refine aB ?_|(apply aj;exact rfl;exact rfl;exact rfl)|(apply bn;exact rfl;exact rfl;exact rfl;exact rfl;(focus(omega));(focus(omega)))))
     exact ih _ _ _ (i+1) ⟨by omega,by(focus((repeat(first|assumption|refine(Tr.aa _ _ (by omega)).trans ?_));done)),by(focus((repeat(first|assumption|refine(Tr.aa _ _ (by omega)).trans ?_));done)),by(focus((repeat(exact Tr.ab _ _ _));done)),by(focus((repeat(first|assumption|refine(Tr.aa _ _ (by omega)).trans ?_));done)),by first|omega|(dsimp only;omega),fun m hm=>by(focus((repeat(refine(Tr.aa _ _ (by omega)).trans ?_));exact o8 m hm))⟩ (by omega) (SlIn.sub (by repeat(first|exact trivial|refine⟨rfl,?_⟩)))
    ·(repeat(first|(refine an rfl rfl rfl (F.ag _ rfl) o4 rfl ?_)|refine aq ?_|refine ae ?_|refine ac ?_|refine a9 rfl ?_|refine ax rfl ?_|refine au rfl ?_|(apply aj;exact rfl;exact rfl;exact rfl)|(apply aX;exact rfl;exact rfl;exact rfl;exact rfl)|(apply bT;exact rfl)))
     (repeat(first|(apply aE;(exact rfl);(exact rfl);(exact rfl);(exact F.sz _ rfl);(focus(assumption));(exact aY ak);(rw [aY ak];exact zD _);(exact dv _);(exact dt _ _ ak ak))|(refine dh rfl rfl iw ?_)|refine ac ?_|(apply ai;exact rfl;exact rfl;exact rfl)));refine gy Tryz.func34 (congrArg Array.toList Tryz.results34) (rs:= [q0+1+1]) rfl (fun r hr=>by rw [List.mem_singleton.1 hr];(focus((repeat(first|assumption|refine(Tr.aa _ _ (by omega)).trans ?_));done))) (by simp) ?_;intro H8 hH8;have kz:H8.at' nx=some (pgO zeroP):=(hH8 _ (fun h=>absurd (List.mem_singleton.1 h) (by omega))).trans (by(repeat(exact Tr.ab _ _ _));done);refine⟨_,(by(apply ResIs.cell rfl (LoadIs.many (F.ag _ rfl) (by assumption) (dg ak)));(repeat(first|exact ResIs.nil|apply ResIs.tmp rfl))),?_⟩;exact⟨by dsimp only;omega,fun m hm=>(hH8 _ (fun h=>absurd (List.mem_singleton.1 h) (by omega))).trans (by(repeat(refine(Tr.aa _ _ (by omega)).trans ?_));exact o8 m hm),.inl ⟨hn,rfl⟩⟩
abbrev iV(e:cO):List Value:= [.string e.1,.int .i64 e.2.1,.int .i64 e.2.2]
theorem fg{A:Type}{f:A→List Value}(hf: ∀ a,(f a).length=4): ∀ (l:List A) (i o n:Nat) (hi:i<l.length),o+n≤4→((l.flatMap f).drop (i*4+o)).take n=((f l[i]).drop o).take n
 | [],i,_,_,hi,_=>by simp at hi
 | a :: l,0,o,n,_,h=>by
   rw [List.flatMap_cons,Nat.zero_mul,Nat.zero_add,List.drop_append_of_le_length (by rw [hf];omega),List.take_append_of_le_length (by rw [List.length_drop,hf];omega)]
   rfl
 | a :: l,i+1,o,n,hi,h=>by
   rw [List.flatMap_cons,List.drop_append,List.drop_of_length_le (by rw [hf];omega),List.nil_append,hf,show(i+1)*4+o-4=i*4+o by omega]
   exact fg hf l i o n (by simpa using hi) h
def lu(bs:List Bn.El)(e:cO):Nat→Nat
 | 0=>0
 | i+1=>if eI e (bs.getD (i+1) (0,ei)).2=true then lu bs e i else i+1
def ep(bs:List Bn.El)(e:cO):Nat:=lu bs e (bs.length-1)
theorem og(bs:List Bn.El)(e:cO): ∀ i,lu bs e i≤i
 | 0=>zD _
 | i+1=>by
   unfold lu
   split
   ·exact Nat.le_succ_of_le (og bs e i)
   ·exact zD _
theorem rM{bs:List Bn.El}(e:cO)(h:0<bs.length):ep bs e<bs.length:=by
 have:=og bs e (bs.length-1)
 unfold ep
 omega
theorem kG{H:aJ}{nx r:Nat}{bs:List Bn.El}(e:cO)(hr:H.at' r=some (pM bs))(h0:0<bs.length)(hl:bs.length≤1000000):Fnc Tryz.prog 36 [.slu r 0 bs.length,eO e] H nx (fun q=>q=(.sc (.int .i64 (ep bs e:Int)),H,nx)):=by
 refine Fnc.dp (Free.sc _) ?_
 refine Fnc.start Tryz.func36 rfl rfl ?_
 refine cn fun hund=>?_
 have hlt:=hund _ _ hr
 (repeat(first|refine aq ?_|refine ae ?_|refine ac ?_|refine aI ?_|(apply aj;exact rfl;exact rfl;exact rfl)|(apply ai;exact rfl;exact rfl;exact rfl)|(apply bj;exact rfl;exact rfl;exact rfl)|(apply a6;exact rfl;exact rfl;exact rfl;exact(F.un _ rfl))|(apply cv;exact rfl;exact rfl;exact rfl;exact rfl;(focus(omega));(focus(omega)))))
 rw [show(bs.length:Int)-1=((bs.length-1:Nat):Int) by omega]
 refine co (α:=Nat) (fun i=> [(0,.slu r 0 bs.length),(3,.ptr nx 0),(5,.sc (.int .i64 (i:Int)))])
  (fun i H1 n1=>i<bs.length∧n1=nx+1∧H1.at' nx=some (az 25 ((iV e).map .sc))∧H1.at' r=some (pM bs)∧(∀ m,m<nx→H1.at' m=H.at' m)∧lu bs e i=ep bs e) (fun i=>i) (bs.length-1)
  ⟨by omega,rfl,by(focus((repeat(exact Tr.ab _ _ _));done)),by(focus((repeat(first|assumption|refine(Tr.aa _ _ (by omega)).trans ?_));done)),fun m hm=>by(focus((repeat(refine(Tr.aa _ _ (by omega)).trans ?_));exact rfl)),rfl⟩ (SlIn.sub (by repeat(first|exact trivial|refine⟨rfl,?_⟩))) ?_
 rintro i H1 n1 ⟨i0,rfl,i1,i2,i3,i4⟩ ih
 (repeat(refine aq ?_))
 (apply cY;(focus(kernel_rfl));(focus(kernel_rfl)))
 (repeat(apply bD;exact rfl;exact rfl;exact rfl))
 refine lD rfl rfl rfl rfl (fun c1=>?_) (fun c1=>?_)
 ·obtain⟨i,rfl⟩: ∃ i',i=i'+1:=⟨i-1,by omega⟩
  have hfp:=fg (f:=Bn.elV) (fun _=>rfl) bs (i+1) 1 3 i0 (by decide)
  have hle:=wp e (bs[i+1]).2 (H:=H1) (nx:=nx+1)
  have hgd:(bs.getD (i+1) (0,ei)).2=(bs[i+1]).2:=by rw [zy,zk i0];rfl
  have hgo:lu bs e (i+1)=if eI e (bs.getD (i+1) (0,ei)).2=true then lu bs e i else i+1:=rfl
  rw [hgd] at hgo
  (repeat(first|refine bI rfl rfl rfl (F.ag _ rfl) (by assumption) (by exact rfl) ?_|refine dK (q:=i+1) rfl rfl rfl rfl (F.un _ rfl) (F.sz _ rfl) (by assumption) (by omega) (by(omega)) (zD _) ?_|(refine fj (us:=iV (bs[i+1]).2) rfl rfl rfl (F.ag _ rfl) i2 hfp rfl (by omega) ?_)|(refine b9 rfl rfl rfl (by kernel_rfl) hle ?_)|(apply bD;exact rfl;exact rfl;exact rfl)|(apply bP;exact rfl;exact rfl;exact rfl;exact rfl)|(apply bm;exact rfl;exact rfl;exact rfl;exact(F.fo _ _ rfl rfl))))
  (refine bZ ?_);(refine⟨by kernel_rfl,?_,?_⟩);(focus(repeat(first|exact trivial|refine⟨.inl (bJ rfl),?_⟩|refine⟨.inr ⟨0,by kernel_rfl,AllH.all (fun _=>(by first|exact bC rfl|exact bw (F.fo _ _ rfl rfl) rfl|exact ci rfl rfl)) _⟩,?_⟩|refine⟨.inr ⟨0,by kernel_rfl,(by(refine⟨(by first|exact bg (F.ag _ rfl) rfl (by assumption) (aw _ 0 rfl rfl)|exact eL (i:=i+1) (F.un _ rfl) (F.sz _ rfl) rfl rfl i2 rfl (by omega) (zD _)|exact bg (F.ag _ rfl) rfl i2 (dm _ _ hfp rfl (by omega))|exact cH rfl rfl (.inr (.inr (.inr (.inr (.inl ⟨rfl,(decide_eq_true (by omega)).symm⟩)))))),?_⟩;(repeat(refine⟨(by first|exact bg (F.ag _ rfl) rfl (by assumption) (aw _ 0 rfl rfl)|exact eL (i:=i+1) (F.un _ rfl) (F.sz _ rfl) rfl rfl i2 rfl (by omega) (zD _)|exact bg (F.ag _ rfl) rfl i2 (dm _ _ hfp rfl (by omega))|exact cH rfl rfl (.inr (.inr (.inr (.inr (.inl ⟨rfl,(decide_eq_true (by omega)).symm⟩)))))),?_⟩));exact trivial))⟩,?_⟩)))
  cases hc:eI e (bs[i+1]).2 with
  | true=>
    rw [hc,if_pos rfl] at hgo
    (repeat(first|refine ae ?_|refine ac ?_|refine aI ?_|refine aB ?_|refine aH ?_|refine ax rfl ?_|(apply aj;exact rfl;exact rfl;exact rfl)|(apply ai;exact rfl;exact rfl;exact rfl)|(apply cv;exact rfl;exact rfl;exact rfl;exact rfl;(focus(omega));(focus(omega)))))
    rw [show((i+1:Nat):Int)-1=(i:Int) by omega]
    exact ih _ _ _ i ⟨by omega,rfl,i1,i2,i3,by rw [← hgo];exact i4⟩ (by omega) (SlIn.sub (by repeat(first|exact trivial|refine⟨rfl,?_⟩)))
  | false=>
    rw [hc,if_neg (by decide)] at hgo
    (repeat(first|refine aq ?_|refine ae ?_|refine ac ?_|refine a9 rfl ?_|refine au rfl ?_|(apply aj;exact rfl;exact rfl;exact rfl)|(apply ai;exact rfl;exact rfl;exact rfl)))
    ((apply bf Tryz.func36 (congrArg Array.toList Tryz.results36));(focus(repeat(first|exact ResIs.nil|apply ResIs.tmp rfl))))
    exact⟨by rw [← i4,hgo];rfl,zM _,i3⟩
 ·(repeat(first|(apply bD;exact rfl;exact rfl;exact rfl)|(apply cp;exact rfl;exact rfl;exact rfl;exact rfl)|(apply cZ;exact rfl;exact rfl)))
  (refine bZ ?_);(refine⟨by kernel_rfl,?_,?_⟩);(focus(repeat(first|exact trivial|refine⟨.inl (eX rfl),?_⟩|refine⟨.inr ⟨0,by kernel_rfl,AllH.all (fun _=>(by first|exact bC rfl|exact cC rfl rfl)) _⟩,?_⟩|refine⟨.inr ⟨0,by kernel_rfl,(by(refine⟨(by(exact cH rfl rfl (.inr (.inr (.inr (.inr (.inl ⟨rfl,(decide_eq_false (by omega)).symm⟩))))))),?_⟩;(repeat(refine⟨(by skip),?_⟩));exact trivial))⟩,?_⟩)))
  (repeat(first|refine aq ?_|refine ae ?_|refine ac ?_|refine a9 rfl ?_|refine au rfl ?_|(apply aj;exact rfl;exact rfl;exact rfl)|(apply ai;exact rfl;exact rfl;exact rfl)))
  ((apply bf Tryz.func36 (congrArg Array.toList Tryz.results36));(focus(repeat(first|exact ResIs.nil|apply ResIs.tmp rfl))))
  obtain rfl:i=0:=by omega
  exact⟨by rw [← i4];rfl,zM _,i3⟩
def dW(p:List UInt8)(bs:List Bn.El)(i:Nat):Nat→Option (List Ow.El×List Int)
 | 0=>some ([],[])
 | j+1=>match dW p bs i j with
   | none=>none
   | some (own,left)=>if bq p j=0 then some (own,left) else match ofL (dJ p j)with
     | none=>none
     | some e=>if ep bs e=i then some (own ++ [(e,(j:Int))],left) else some (own,left ++ [(j:Int)])
theorem pB{p:List UInt8}{bs:List Bn.El}{i j:Nat}(h:dW p bs i j=none): ∀ {k:Nat},j≤k→dW p bs i k=none:=by
 intro k hk
 induction k with
 | zero=>rw [Nat.le_zero.1 hk] at h;exact h
 | succ k ih=>
   rcases Nat.lt_or_ge k j with h1|h1
   ·rw [show k+1=j by omega];exact h
   ·show(match dW p bs i k with|none=>none|some (own,left)=>_)=none
    rw [ih h1]
theorem fF{p:List UInt8}{bs:List Bn.El}{i:Nat}: ∀ {j:Nat} {own:List Ow.El} {left:List Int},dW p bs i j=some (own,left)→own.length+left.length≤j
 | 0,own,left,h=>by
   unfold dW at h
   cases h
   exact zD _
 | j+1,own,left,h=>by
   unfold dW at h
   cases hr:dW p bs i j with
   | none=>rw [hr] at h;cases h
   | some x=>
     obtain⟨o,l⟩:=x
     have:=fF hr
     rw [hr] at h
     simp only at h
     split at h
     ·cases h;omega
     ·cases hb:ofL (dJ p j)with
      | none=>rw [hb] at h;cases h
      | some e=>
        rw [hb] at h
        simp only at h
        split at h
        ·cases h;rw [zH,List.length_singleton];omega
        ·cases h;rw [zH,List.length_singleton];omega
def mE(l:List Ow.El):List Ow.El:=(Sort.sort Ow.ltP l.toArray).toList
def vO(s:List Ow.El):Nat→Bool
 | 0=>false
 | i+1=>vO s i || (decide (0<i) && gu (s.getD (i-1) (ei,0)).1 (s.getD i (ei,0)).1)
def fy(p:List UInt8)(bs:List Bn.El)(i:Nat):Option (List Ow.El×List Int):=if dQ p=true∧kP p=3 then(match dW p bs i (aT p)with
 | none=>none
 | some (own,left)=>if vO (mE own) (mE own).length=true then none else some (mE own,left)) else none
abbrev qh(l:List Ow.El):VO:=Ow.rowP l.length l.toArray
abbrev vH(l:List Int):VO:=dat false l.length 1 3 (l.flatMap fun n=> [.int .i64 n])
theorem rg(l:List Ow.El):(mE l).Perm l∧(mE l).Pairwise (fun x y=>eI y.1 x.1=false):=l4 swoO l
theorem ji(l:List Ow.El):(mE l).length=l.length:=(rg l).1.length_eq
theorem p9(l:List Ow.El):dat false l.length 4 123 ((Sort.sort Ow.ltP l.toArray).toList.flatMap Ow.elV)=qh (mE l):=by
 show dat false l.length 4 _ _=dat false (mE l).length 4 _ _
 rw [ji]
 rfl
def OwnAt(H:aJ)(s:SV)(l:List Ow.El)(lo hi:Nat):Prop:=(l= []∧s=dl)∨ ∃ r,l≠ []∧s = .slu r 0 l.length∧lo≤r∧r<hi∧H.at' r=some (qh l)
def IntsAt(H:aJ)(s:SV)(l:List Int)(lo hi:Nat):Prop:=(l= []∧s=dl)∨ ∃ r,l≠ []∧s = .slu r 0 l.length∧lo≤r∧r<hi∧H.at' r=some (vH l)
theorem OwnAt.frame{H H':aJ}{s:SV}{l:List Ow.El}{lo hi hi':Nat}(h:OwnAt H s l lo hi)(hh:hi≤hi')(hf: ∀ m,lo≤m→m<hi→H.at' m=some (qh l)→H'.at' m=H.at' m):OwnAt H' s l lo hi':=by
 rcases h with h|⟨r,h1,h2,h3,h4,h5⟩
 ·exact .inl h
 ·exact .inr ⟨r,h1,h2,h3,by omega,(hf r h3 h4 h5).trans h5⟩
theorem IntsAt.frame{H H':aJ}{s:SV}{l:List Int}{lo hi hi':Nat}(h:IntsAt H s l lo hi)(hh:hi≤hi')(hf: ∀ m,lo≤m→m<hi→H.at' m=some (vH l)→H'.at' m=H.at' m):IntsAt H' s l lo hi':=by
 rcases h with h|⟨r,h1,h2,h3,h4,h5⟩
 ·exact .inl h
 ·exact .inr ⟨r,h1,h2,h3,by omega,(hf r h3 h4 h5).trans h5⟩
theorem OwnAt.one{H:aJ}{s:SV}{l:List Ow.El}{lo hi:Nat}(h:OwnAt H s l lo hi):s.one=true:=by
 rcases h with ⟨_,rfl⟩|⟨_,_,rfl,_⟩ <;> rfl
theorem IntsAt.one{H:aJ}{s:SV}{l:List Int}{lo hi:Nat}(h:IntsAt H s l lo hi):s.one=true:=by
 rcases h with ⟨_,rfl⟩|⟨_,_,rfl,_⟩ <;> rfl
abbrev dX(n:Int)(p:List UInt8)(so sl:SV):List SV:= .sc (.int .i64 n) :: (pgS p ++ [so,sl])
abbrev ey(n:Int)(p:List UInt8)(so sl:SV):VO:=az 84 (dX n p so sl)
theorem ba{n:Int}{p:List UInt8}(hp:p.length=1024)(so sl:SV):(dX n p so sl).length=1027:=by simp [hp]
theorem cM{n:Int}{p:List UInt8}(hp:p.length=1024)(so sl:SV)(j:Nat):(dX n p so sl)[1025+j]? = [so,sl][j]? :=by
 rw [show 1025+j=(1024+j)+1 by omega,List.getElem?_cons_succ,List.getElem?_append_right (by rw [aY hp];omega),aY hp,Nat.add_sub_cancel_left]
theorem mb{n:Int}{p:List UInt8}(hp:p.length=1024)(so sl so':SV):(dX n p so sl).set 1025 so'=dX n p so' sl:=by
 show _ :: (pgS p ++ [so,sl]).set 1024 so'=_
 rw [List.set_append_right _ _ (by rw [aY hp];exact zD _),aY hp]
 rfl
theorem mc{n:Int}{p:List UInt8}(hp:p.length=1024)(so sl sl':SV):(dX n p so sl).set 1026 sl'=dX n p so sl':=by
 show _ :: (pgS p ++ [so,sl]).set 1025 sl'=_
 rw [List.set_append_right _ _ (by rw [aY hp];decide),aY hp]
 rfl
theorem rN{n:Int}{p x:List UInt8}(hp:p.length=1024)(hx:x.length=1024)(so sl:SV):(dX n p so sl).take (0+1) ++ pgS x ++ (dX n p so sl).drop (0+1+1024)=dX n x so sl:=by
 show [.sc (.int .i64 n)] ++ pgS x ++ (pgS p ++ [so,sl]).drop 1024=_
 rw [List.drop_append_of_le_length (by rw [aY hp];exact zD _),List.drop_of_length_le (by rw [aY hp];exact zD _)]
 rfl
theorem tK{n:Int}{p:List UInt8}(hp:p.length=1024)(so sl:SV):(ey n p so sl).cellsFrom (0+1) 1024=some (pgS p):=
 aw _ _ (by show(pgS p ++ [so,sl]).take 1024=pgS p;rw [List.take_append_of_le_length (by rw [aY hp];exact zD _)];exact zu (by rw [aY hp];exact zD _)) (aY hp)
theorem ge{n:Int}{p:List UInt8}(hp:p.length=1024)(so sl:SV):(ey n p so sl).cellsFrom 0 1027=some (dX n p so sl):=
 aw _ _ (by rw [List.drop_zero];exact zu (by rw [ba hp];exact zD _)) (ba hp _ _)
abbrev pS:List SV:=dX 0 zeroP dl dl
theorem kQ:my Tryz.prog 84=some pS:=by kernel_rfl
theorem nz:ke Tryz.prog 84 []=some (.agg pS):=by kernel_rfl
theorem dD(n:Int)(p:List UInt8){so sl:SV}(h1:so.one=true)(h2:sl.one=true):cG (dX n p so sl)=true:=by
 show(true && cG (pgS p ++ [so,sl]))=true
 have h:=dv p
 generalize pgS p=l at h ⊢
 induction l with
 | nil=>simp [cG,h1,h2]
 | cons a l ih=>
   simp only [cG,zC,List.cons_append,Bool.true_and] at h ih ⊢
   exact⟨h.1,ih h.2⟩
theorem dC{n n':Int}{p p':List UInt8}{so sl so' sl':SV}(hp:p.length=1024)(hp':p'.length=1024):(dX n p so sl).take 0 ++ dX n' p' so' sl' ++ (dX n p so sl).drop (0+1027)=dX n' p' so' sl':=by
 rw [List.take_zero,List.nil_append,List.drop_of_length_le (by rw [ba hp];decide),List.append_nil]
theorem yf:dq Tryz.prog 84=some (.agg (Value.int .i64 0 :: (List.replicate 1024 (Value.int .u8 0) ++ [.slice none 0 0,.slice none 0 0])).toArray):=by kernel_rfl
theorem yI:vq Tryz.prog 84=some [(0,1),(1,1024),(1025,1),(1026,1)]:=by kernel_rfl
theorem tV{n:Int}:fh (fun i=>([(0,1),(1,1024),(1025,1),(1026,1)]:List (Nat×Nat))[i]?) ((Value.agg (Value.int .i64 0 :: (List.replicate 1024 (Value.int .u8 0) ++ [.slice none 0 0,.slice none 0 0])).toArray).cells.toList.map .sc) [(0,.sc (.int .i64 n))]=some (dX n zeroP dl dl):=by
 have e:(Value.agg (Value.int .i64 0 :: (List.replicate 1024 (Value.int .u8 0) ++ [.slice none 0 0,.slice none 0 0])).toArray).cells.toList.map SV.sc=pS:=by kernel_rfl
 rw [e,kJ (off:=0) (size:=1) (vc:= [.sc (.int .i64 n)]) rfl rfl rfl (by rw [ba ak];decide)]
 rfl
theorem IntsAt.low{H:aJ}{s:SV}{l:List Int}{lo lo' hi:Nat}(h:IntsAt H s l lo hi)(hl:lo'≤lo):IntsAt H s l lo' hi:=by
 rcases h with h|⟨r,h1,h2,h3,h4,h5⟩
 ·exact .inl h
 ·exact .inr ⟨r,h1,h2,by omega,h4,h5⟩
theorem kD{a:List Ow.El}{b:List Int}(h:some (qh a)=some (vH b)):False:=by
 have h:=Option.some.inj h
 unfold qh vH Ow.rowP arr dat at h
 injection h with _ _ h
 exact absurd h (by decide)
theorem ib{H:aJ}{nx b c r k i:Nat}{e0:cO}{mem:List UInt8}{left:Int}{bs:List Bn.El}(hb:PgAt H b mem left c)(hm:mem.length=28672)(hr:H.at' r=some (pM bs))(hi:i<bs.length)(hbi:bs[i]=(((4+k:Nat):Int),e0))(hk:k<28)(hl:bs.length≤1000)(h12: ∀ j own left,j≤aT (cP mem k)→dW (cP mem k) bs i j=some (own,left)→own.length≤12):Fnc Tryz.prog 35 [q9 b,.slu r 0 bs.length,.sc (.int .i64 (i:Int))] H nx
 (fun q=>nx≤q.2.2∧(∀ m,m<nx→q.2.1.at' m=H.at' m)∧((fy (cP mem k) bs i=none∧q.1 = .tup [.agg pS,.sc (.int .i64 13)])∨ ∃ own left so sl,fy (cP mem k) bs i=some (own,left)∧q.1 = .tup [.agg (dX ((4+k:Nat):Int) (cP mem k) so sl),.sc (.int .i64 0)]∧OwnAt q.2.1 so own nx q.2.2∧IntsAt q.2.1 sl left nx q.2.2)):=by
 obtain⟨s0,hb,hL⟩:=hb
 have hp:=du hm (n:=k) hk
 refine Fnc.start Tryz.func35 rfl rfl ?_
 refine cn fun hund=>?_
 have hlt:=hund _ _ hb
 have hltr:=hund _ _ hr
 have hc0:(bs.toArray.toList.flatMap Bn.elV)[i*4]? =some (.int .i64 ((4+k:Nat):Int)):=by
  have:=fg (f:=Bn.elV) (fun _=>rfl) bs i 0 1 hi (by decide)
  have h2:=congrArg (fun l:List Value=>l[0]?) this
  rw [hbi] at h2
  simp only [List.getElem?_take_of_lt (show 0<1 by decide),List.getElem?_drop] at h2
  exact h2
 (repeat(first|(refine aP rfl rfl kQ ?_)|(refine fm (q:=i) rfl rfl rfl rfl (F.un _ rfl) (F.sz _ rfl) (by(repeat(refine(Tr.aa _ _ (by omega)).trans ?_));exact hr) rfl hi (zD _) ?_)|(refine jf (v:= .int .i64 ((4+k:Nat):Int)) rfl rfl rfl (F.ag _ rfl) (by(repeat(refine(Tr.aa _ _ (by omega)).trans ?_));exact hr) hc0 (by omega) ?_)|(refine bc rfl rfl rfl yf yI tV ?_)|(refine aE rfl rfl rfl (F.sz _ rfl) (by(repeat(exact Tr.ab _ _ _));done) (ba ak _ _) (by rw [ba ak];exact zD _) (dD _ _ rfl rfl) (dC ak ak) ?_)|refine aq ?_|refine ae ?_|refine ac ?_|refine bu ?_|(apply aj;exact rfl;exact rfl;exact rfl)|(apply ai;exact rfl;exact rfl;exact rfl)|(apply ap;exact rfl;exact rfl;exact rfl;exact(F.fo _ _ rfl rfl))|(apply cJ;exact rfl;exact rfl;exact rfl;exact rfl)|refine an rfl rfl rfl (F.ag _ rfl) (by(repeat(first|assumption|exact Tr.ab _ _ _|refine(Tr.aa _ _ (by omega)).trans ?_));done) (by exact rfl) ?_))
 refine ks 148 rfl rfl rfl rfl (by kernel_rfl) (Fnc.mono (wm (n:=k) (by(repeat(refine(Tr.aa _ _ (by omega)).trans ?_));exact hb) hm hk) ?_)
 rintro _ rfl
 dsimp only
 generalize cP mem k=p at hp h12 ⊢
 (repeat(first|(refine aP rfl rfl iI ?_)|(apply aE;(exact rfl);(exact rfl);(exact rfl);(exact F.sz _ rfl);(focus((focus((repeat(exact Tr.ab _ _ _));done))));(exact aY hp);(rw [aY ak];exact zD _);(exact dv _);(exact dt _ _ ak hp))|refine aq ?_|refine ae ?_|refine ac ?_|refine aH ?_|refine au rfl ?_|(apply aj;exact rfl;exact rfl;exact rfl)|(apply ai;exact rfl;exact rfl;exact rfl)|(apply aD;exact rfl;exact rfl;exact rfl;exact rfl)|(refine cD rfl rfl rfl rfl (fun hq=>absurd rfl hq) (fun _=>?_))))
 refine ki (R:=fun H1 n1=>n1=nx+1+1+1+1+1∧H1.at' nx=some (az 79 [.slu r 0 bs.length])∧H1.at' (nx+1)=some (az 3 [.sc (.int .i64 (i:Int))])∧H1.at' (nx+1+1)=some (ey 0 zeroP dl dl)∧H1.at' (nx+1+1+1)=some (ey ((4+k:Nat):Int) zeroP dl dl)∧H1.at' (nx+1+1+1+1)=some (pgO p)∧ ∀ m,m<nx→H1.at' m=H.at' m) ⟨rfl,by(focus((repeat(first|exact Tr.ab _ _ _|refine(Tr.aa _ _ (by omega)).trans ?_));done)),by(focus((repeat(first|exact Tr.ab _ _ _|refine(Tr.aa _ _ (by omega)).trans ?_));done)),by(focus((repeat(first|exact Tr.ab _ _ _|refine(Tr.aa _ _ (by omega)).trans ?_));done)),by(focus((repeat(first|exact Tr.ab _ _ _|refine(Tr.aa _ _ (by omega)).trans ?_));done)),by(focus((repeat(exact Tr.ab _ _ _));done)),fun m hm=>by(focus((repeat(refine(Tr.aa _ _ (by omega)).trans ?_));exact rfl))⟩ ?_
 rintro H1 n1 ⟨rfl,a0,a1,a2,a3,a4,ao⟩
 have hri:=fun(H:aJ) nx=>uu (H:=H) (nx:=nx) hp
 have hki:=fun(H:aJ) nx=>wD (H:=H) (nx:=nx) hp
 by_cases hok: ¬ (dQ p=true∧kP p=3)
 ·have hno:fy p bs i=none:=if_neg hok
  cases hrp:dQ p with
  | false=>
    rw [hrp] at hri
    (repeat(first|(apply ay;(exact rfl);(exact rfl);(exact rfl);(exact F.ag _ rfl);(focus(assumption));(exact aY hp))|(refine aE rfl rfl rfl (F.sz _ rfl) (by assumption) (ba ak _ _) (by rw [ba ak];exact zD _) (dD _ _ rfl rfl) (dC ak ak) ?_)|refine aq ?_|refine ae ?_|refine ac ?_|refine ax rfl ?_|(apply aj;exact rfl;exact rfl;exact rfl)|(apply ai;exact rfl;exact rfl;exact rfl)|(apply aX;exact rfl;exact rfl;exact rfl;exact rfl)|(apply bT;exact rfl)|(apply bh;exact rfl;exact rfl;exact rfl)|(refine aL rfl rfl rfl (by kernel_rfl) (Fnc.mono (hri _ _) ?_);rintro _ rfl;dsimp only)|(refine dh rfl rfl nz ?_)))
    ((apply bf Tryz.func35 (congrArg Array.toList Tryz.results35));(focus((apply ResIs.cell rfl (LoadIs.many (F.ag _ rfl) (by(repeat(exact Tr.ab _ _ _));done) (ge ak _ _));(repeat(first|exact ResIs.nil|apply ResIs.tmp rfl))))))
    exact⟨by dsimp only;omega,fun m hm=>by(focus((repeat(refine(Tr.aa _ _ (by omega)).trans ?_));exact ao m hm)),.inl ⟨hno,rfl⟩⟩
  | true=>
    rw [hrp] at hri
    have hk3:((kP p).toNat:Int)≠3:=fun h=>hok ⟨hrp,UInt8.toNat_inj.1 (by show(kP p).toNat=3;omega)⟩
    (repeat(first|(apply ay;(exact rfl);(exact rfl);(exact rfl);(exact F.ag _ rfl);(focus(assumption));(exact aY hp))|(refine aE rfl rfl rfl (F.sz _ rfl) (by assumption) (ba ak _ _) (by rw [ba ak];exact zD _) (dD _ _ rfl rfl) (dC ak ak) ?_)|refine aq ?_|refine ae ?_|refine ac ?_|refine ax rfl ?_|(apply aj;exact rfl;exact rfl;exact rfl)|(apply ai;exact rfl;exact rfl;exact rfl)|(apply aO;exact rfl;exact rfl;exact rfl;exact rfl)|(apply bh;exact rfl;exact rfl;exact rfl)|(refine aL rfl rfl rfl (by kernel_rfl) (Fnc.mono (hri _ _) ?_);rintro _ rfl;dsimp only)|(refine aL rfl rfl rfl (by kernel_rfl) (Fnc.mono (hki _ _) ?_);rintro _ rfl;dsimp only)|(refine cD rfl rfl rfl rfl (fun _=>?_) (fun hq=>absurd hq hk3))|(refine dh rfl rfl nz ?_)))
    ((apply bf Tryz.func35 (congrArg Array.toList Tryz.results35));(focus((apply ResIs.cell rfl (LoadIs.many (F.ag _ rfl) (by(repeat(exact Tr.ab _ _ _));done) (ge ak _ _));(repeat(first|exact ResIs.nil|apply ResIs.tmp rfl))))))
    exact⟨by dsimp only;omega,fun m hm=>by(focus((repeat(refine(Tr.aa _ _ (by omega)).trans ?_));exact ao m hm)),.inl ⟨hno,rfl⟩⟩
 have hok:=Classical.not_not.1 hok
 have hM:fy p bs i=(match dW p bs i (aT p)with
  | none=>none
  | some (own,left)=>if vO (mE own) (mE own).length=true then none else some (mE own,left)):=if_pos hok
 obtain⟨hrp,hk3⟩:=hok
 rw [hrp] at hri
 rw [hk3] at hki
 have hits:=fun(H:aJ) nx=>tO (H:=H) (nx:=nx) hp
 rw [hrp] at hits
 (repeat(first|(apply ay;(exact rfl);(exact rfl);(exact rfl);(exact F.ag _ rfl);(focus((focus((repeat(first|assumption|refine(Tr.aa _ _ (by omega)).trans ?_));done))));(exact aY hp))|(refine aE rfl rfl rfl (F.sz _ rfl) (by assumption) (aY hp) (by rw [ba ak];decide) (dv _) (rN ak hp _ _) ?_)|refine aq ?_|refine ae ?_|refine ac ?_|refine aI ?_|refine aH ?_|refine bv ?_|refine au rfl ?_|(apply aj;exact rfl;exact rfl;exact rfl)|(apply aO;exact rfl;exact rfl;exact rfl;exact rfl)|(apply ap;exact rfl;exact rfl;exact rfl;exact(F.fo _ _ rfl rfl))|refine aM rfl rfl rfl rfl (F.sz _ rfl) (by(repeat(first|assumption|exact Tr.ab _ _ _));done) rfl (by exact zn rfl) rfl ?_|(apply aP;exact rfl;exact rfl;exact(F.zl _ rfl))|(apply bh;exact rfl;exact rfl;exact rfl)|(refine aL rfl rfl rfl (by kernel_rfl) (Fnc.mono (hri _ _) ?_);rintro _ rfl;dsimp only)|(refine aL rfl rfl rfl (by kernel_rfl) (Fnc.mono (hki _ _) ?_);rintro _ rfl;dsimp only)|(refine cD rfl rfl rfl rfl (fun hq=>absurd rfl hq) (fun _=>?_))|(refine aL rfl rfl rfl (by kernel_rfl) (Fnc.mono (hits _ _) ?_);rintro _ rfl;dsimp only)))
 obtain⟨q0,hq0⟩: ∃ q0,q0=nx+1+1+1+1+1+1:=⟨_,rfl⟩
 rw [← hq0]
 obtain⟨N,hN⟩: ∃ N:Int,N=((4+k:Nat):Int):=⟨_,rfl⟩
 rw [← hN] at a3 ⊢
 have hr1:H1.at' r=some (pM bs):=(ao r hltr).trans hr
 refine ki (R:=fun H4 n4=>n4=q0+1+1∧H4.at' q0=some (pgO p)∧H4.at' (q0+1)=some (lO true)∧H4.at' nx=some (az 79 [.slu r 0 bs.length])∧H4.at' (nx+1)=some (az 3 [.sc (.int .i64 (i:Int))])∧H4.at' (nx+1+1)=some (ey 0 zeroP dl dl)∧H4.at' (nx+1+1+1)=some (ey N p dl dl)∧H4.at' (nx+1+1+1+1+1)=some (lO false)∧ ∀ m,m<nx→H4.at' m=H.at' m)
  ⟨by first|rfl|omega,by(focus((repeat(first|exact Tr.ab _ _ _|refine(Tr.aa _ _ (by omega)).trans ?_));done)),by(focus((repeat(exact Tr.ab _ _ _));done)),by(focus((repeat(first|assumption|refine(Tr.aa _ _ (by omega)).trans ?_));done)),by(focus((repeat(first|assumption|refine(Tr.aa _ _ (by omega)).trans ?_));done)),by(focus((repeat(first|assumption|refine(Tr.aa _ _ (by omega)).trans ?_));done)),by(focus((repeat(first|exact Tr.ab _ _ _|refine(Tr.aa _ _ (by omega)).trans ?_));done)),by(focus((repeat(first|exact Tr.ab _ _ _|refine(Tr.aa _ _ (by omega)).trans ?_));done)),fun m hm=>by(focus((repeat(refine(Tr.aa _ _ (by omega)).trans ?_));exact ao m hm))⟩ ?_
 clear a0 a1 a2 a3 a4 ao hr1
 rintro H4 n4 ⟨rfl,m0,m1,m2,m3,m4,m5,m7,mo⟩
 refine kR [(4,.ptr nx 0),(5,.ptr (nx+1) 0),(6,.ptr (nx+1+1) 0),(8,.ptr (nx+1+1+1) 0),(11,.ptr (nx+1+1+1+1+1) 0)] rfl rfl (by kernel_rfl) (SlIn.sub (by repeat(first|exact trivial|refine⟨rfl,?_⟩))) ?_
 intro cA cB hcA hcB2
 refine Fnc.mono (tN (l:=q0+1+1+1) (f:=q0+1) (q:=q0) hp hrp (f2:=35) (nt2:=111) (T2:=slT [(4,.ptr nx 0),(5,.ptr (nx+1) 0),(6,.ptr (nx+1+1) 0),(8,.ptr (nx+1+1+1) 0),(11,.ptr (nx+1+1+1+1+1) 0)]) (ps:= #[47,48]) (ca:=cA) (cb:=cB) (dr:=q0+1+1) rfl
  (fun j H5 n5=>H5.at' (q0+1+1+1)=some (.loop .ready none 35 111 (slT [(4,.ptr nx 0),(5,.ptr (nx+1) 0),(6,.ptr (nx+1+1) 0),(8,.ptr (nx+1+1+1) 0),(11,.ptr (nx+1+1+1+1+1) 0)]) #[47,48] cA cB (q0+1+1))∧H5.at' (q0+1)=some (lO true)∧H5.at' q0=some (pgO p)∧q0+1+1+1+1≤n5∧H5.at' nx=some (az 79 [.slu r 0 bs.length])∧H5.at' (nx+1)=some (az 3 [.sc (.int .i64 (i:Int))])∧H5.at' (nx+1+1)=some (ey 0 zeroP dl dl)∧H5.at' (nx+1+1+1+1+1)=some (lO false)∧H5.at' (q0+1+1)=some (.dfd (some []))∧(∃ own left so sl,dW p bs i j=some (own,left)∧H5.at' (nx+1+1+1)=some (ey N p so sl)∧OwnAt H5 so own (q0+1+1+1+1+1) n5∧IntsAt H5 sl left (q0+1+1+1+1+1) n5)∧ ∀ m,m<nx→H5.at' m=H.at' m)
  (fun H5 n5=>H5.at' (q0+1+1+1)=some (.loop .done (some (.exit 0)) 35 111 (slT [(4,.ptr nx 0),(5,.ptr (nx+1) 0),(6,.ptr (nx+1+1) 0),(8,.ptr (nx+1+1+1) 0),(11,.ptr (nx+1+1+1+1+1) 0)]) #[47,48] cA cB (q0+1+1))∧q0+1+1+1+1≤n5∧H5.at' (nx+1+1)=some (ey 0 zeroP dl dl)∧H5.at' (nx+1+1+1+1+1)=some (lO true)∧H5.at' (q0+1+1)=some (.dfd (some []))∧(∃ own left so sl,own.length≤12∧H5.at' (nx+1+1+1)=some (ey N p so sl)∧OwnAt H5 so own (q0+1+1+1+1+1) n5∧IntsAt H5 sl left (q0+1+1+1+1+1) n5)∧dW p bs i (aT p)=none∧ ∀ m,m<nx→H5.at' m=H.at' m)
  ?_ ?_ ?_ ?_ ?_) ?_
 ·rintro j H5 n5 ⟨i1,i2,i3,i4,_⟩
  exact⟨i1,i2,i3,by omega,by omega,by omega⟩
 ·rintro j H5 n5 H6 n6 ⟨i1,i2,i3,i4,i5,i6,i7,i8,i9,⟨own,left,so,sl,j1,j2,j3,j4⟩,i12⟩ hle hs
  exact⟨(hs _ (by omega)).trans i1,(hs _ (by omega)).trans i2,(hs _ (by omega)).trans i3,by omega,(hs _ (by omega)).trans i5,(hs _ (by omega)).trans i6,(hs _ (by omega)).trans i7,(hs _ (by omega)).trans i8,(hs _ (by omega)).trans i9,⟨own,left,so,sl,j1,(hs _ (by omega)).trans j2,j3.frame hle fun m _ h _=>hs m h,j4.frame hle fun m _ h _=>hs m h⟩,fun m hm=>(hs _ (by omega)).trans (i12 m hm)⟩
 ·rintro j H5 n5 ⟨i1,i2,i3,i4,i5,i6,i7,i8,i9,⟨own,left,so,sl,j1,j2⟩,i12⟩ hz
  have e1:dW p bs i (j+1)=some (own,left):=by
   show(match dW p bs i j with|none=>none|some (own,left)=>_)=_
   rw [j1]
   exact if_pos hz
  exact⟨i1,i2,i3,i4,i5,i6,i7,i8,i9,⟨own,left,so,sl,e1,j2⟩,i12⟩
 ·rintro j H5 n5 r0 ⟨i1,i2,i3,i4,i5,i6,i7,i8,i9,⟨own,left,so,sl,j1,j2,j3,j4⟩,i12⟩ hr1 hr2 hj hs hrow
  have hrow2:(H5.set (q0+1+1+1) (.loop .busy none 35 111 (slT [(4,.ptr nx 0),(5,.ptr (nx+1) 0),(6,.ptr (nx+1+1) 0),(8,.ptr (nx+1+1+1) 0),(11,.ptr (nx+1+1+1+1+1) 0)]) #[47,48] cA cB (q0+1+1))).at' r0=some (u8R false (byV (dJ p j))):=(Tr.aa _ _ (by omega)).trans hrow
  have hil:(dJ p j).length≤1024:=by unfold dJ;rw [List.length_take,List.length_drop];omega
  have hrb:(H5.set (q0+1+1+1) (.loop .busy none 35 111 (slT [(4,.ptr nx 0),(5,.ptr (nx+1) 0),(6,.ptr (nx+1+1) 0),(8,.ptr (nx+1+1+1) 0),(11,.ptr (nx+1+1+1+1+1) 0)]) #[47,48] cA cB (q0+1+1))).at' r=some (pM bs):=(Tr.aa _ _ (by omega)).trans ((i12 r hltr).trans hr)
  refine pU hcA ?_
  (repeat(first|refine aq ?_|refine ae ?_|refine ac ?_|(apply ai;exact rfl;exact rfl;exact rfl)))
  refine sh (by assumption) ?_
  refine pU hcB2 ?_
  (repeat(first|refine aq ?_|refine ae ?_|refine aI ?_|(apply aj;exact rfl;exact rfl;exact rfl)))
  have hl1:=fF j1
  obtain⟨_,hsp,hsp2⟩:=ig hp hrp
  refine aL rfl rfl rfl (by kernel_rfl) (Fnc.mono (of_u (eo:=0) (w:=dJ p j) (l:=dJ p j) (by(repeat(refine(Tr.aa _ _ (by omega)).trans ?_));exact hrow) (Nat.zero_add _) rfl (by omega)) ?_)
  rintro _ rfl
  dsimp only
  cases hof:ofL (dJ p j)with
  | none=>
    rw [eZ hof]
    have hbn:dW p bs i (aT p)=none:=pB (j:=j+1) (by show(match dW p bs i j with|none=>none|some (own,left)=>_)=none;rw [j1];exact(if_neg hs).trans (by rw [hof])) (by omega)
    (repeat(first|refine aq ?_|refine ae ?_|refine ac ?_|refine aI ?_|refine ax rfl ?_|(apply aj;exact rfl;exact rfl;exact rfl)|(apply ai;exact rfl;exact rfl;exact rfl)|(apply aD;exact rfl;exact rfl;exact rfl;exact rfl)|refine aM rfl rfl rfl rfl (F.sz _ rfl) (by(repeat(first|assumption|exact Tr.ab _ _ _|refine(Tr.aa _ _ (by omega)).trans ?_));done) rfl (by exact zn rfl) rfl ?_|(apply aP;exact rfl;exact rfl;exact(F.zl _ rfl))|(refine cD rfl rfl rfl rfl (fun _=>?_) (fun hq=>absurd hq (by decide)))))
    refine e8 rfl (by(repeat(first|exact Tr.ab _ _ _|refine(Tr.aa _ _ (by omega)).trans ?_));done) (.inr ⟨rfl,Tr.ab _ _ _,by dsimp only;omega,by(focus((repeat(first|assumption|refine(Tr.aa _ _ (by omega)).trans ?_));done)),by(focus((repeat(first|exact Tr.ab _ _ _|refine(Tr.aa _ _ (by omega)).trans ?_));done)),by(focus((repeat(first|assumption|refine(Tr.aa _ _ (by omega)).trans ?_));done)),⟨own,left,so,sl,h12 j own left (by omega) j1,by(focus((repeat(first|assumption|refine(Tr.aa _ _ (by omega)).trans ?_));done)),j3.frame (by dsimp only;omega) fun m _ _ _=>by(focus((repeat(refine(Tr.aa _ _ (by omega)).trans ?_));exact rfl)),j4.frame (by dsimp only;omega) fun m _ _ _=>by(focus((repeat(refine(Tr.aa _ _ (by omega)).trans ?_));exact rfl))⟩,hbn,fun m hm=>by(focus((repeat(refine(Tr.aa _ _ (by omega)).trans ?_));exact i12 m hm))⟩)
  | some e=>
    rw [hJ hof]
    have e1:dW p bs i (j+1)=if ep bs e=i then some (own ++ [(e,(j:Int))],left) else some (own,left ++ [(j:Int)]):=by
     show(match dW p bs i j with|none=>none|some (own,left)=>_)=_
     rw [j1]
     exact(if_neg hs).trans (by rw [hof])
    (repeat(first|refine aq ?_|refine ae ?_|refine ac ?_|refine aI ?_|refine au rfl ?_|(apply aj;exact rfl;exact rfl;exact rfl)|(apply ai;exact rfl;exact rfl;exact rfl)|(apply aD;exact rfl;exact rfl;exact rfl;exact rfl)|refine aM rfl rfl rfl rfl (F.sz _ rfl) (by(repeat(first|assumption|exact Tr.ab _ _ _));done) rfl (by exact zn rfl) rfl ?_|(apply aP;exact rfl;exact rfl;exact(F.zl _ rfl))|(refine cD rfl rfl rfl rfl (fun hq=>absurd rfl hq) (fun _=>?_))))
    (apply cY;(focus(kernel_rfl));(focus(kernel_rfl)))
    (repeat(first|refine bx rfl rfl rfl (F.ag _ rfl) (by(repeat(first|assumption|exact Tr.ab _ _ _|refine(Tr.aa _ _ (by omega)).trans ?_));done) (by exact rfl) ?_|refine bI rfl rfl rfl (F.ag _ rfl) (by(repeat(first|assumption|exact Tr.ab _ _ _));done) (by exact rfl) ?_|(refine b9 rfl rfl rfl (by kernel_rfl) (kG e (by(repeat(refine(Tr.aa _ _ (by omega)).trans ?_));exact(i12 r hltr).trans hr) (by omega) (by omega)) ?_)))
    refine gP rfl rfl rfl rfl (fun c1=>?_) (fun c1=>?_)
    ·(repeat(apply bY;exact rfl;exact rfl;exact rfl))
     (refine bZ ?_);(refine⟨by kernel_rfl,?_,?_⟩);(focus(repeat(first|exact trivial|refine⟨.inl (bJ rfl),?_⟩|refine⟨.inr ⟨0,by kernel_rfl,AllH.all (fun _=>(by(exact ch rfl))) _⟩,?_⟩|refine⟨.inr ⟨0,by kernel_rfl,(by(refine⟨(by first|exact aZ (F.ag _ rfl) rfl (by(repeat(first|assumption|exact Tr.ab _ _ _|refine(Tr.aa _ _ (by omega)).trans ?_));done) (aW rfl)|exact bg (F.ag _ rfl) rfl (by(repeat(first|assumption|exact Tr.ab _ _ _));done) (aw _ 0 rfl rfl)),?_⟩;(repeat(refine⟨(by first|exact aZ (F.ag _ rfl) rfl (by(repeat(first|assumption|exact Tr.ab _ _ _|refine(Tr.aa _ _ (by omega)).trans ?_));done) (aW rfl)|exact bg (F.ag _ rfl) rfl (by(repeat(exact Tr.ab _ _ _));done) (aw _ 0 rfl rfl)),?_⟩));exact trivial))⟩,?_⟩|refine⟨.inl (by kernel_rfl),?_⟩)))
     dsimp only
     rw [if_pos (by omega)] at e1
     rcases j3 with ⟨rfl,rfl⟩|⟨rw,k1,rfl,k2,k3,k4⟩
     ·(repeat(first|(refine an rfl rfl rfl (F.ag _ rfl) (by(repeat(first|assumption|exact Tr.ab _ _ _|refine(Tr.aa _ _ (by omega)).trans ?_));done) (cM hp dl sl 0) ?_)|refine ae ?_|refine ax rfl ?_|(apply aj;exact rfl;exact rfl;exact rfl)|(apply ap;exact rfl;exact rfl;exact rfl;exact(F.fo _ _ rfl rfl))|refine ay rfl rfl rfl (F.ag _ rfl) (by(repeat(first|assumption|exact Tr.ab _ _ _));done) (by exact rfl) ?_|(apply bc;exact rfl;exact rfl;exact rfl;exact(F.ze _ rfl);exact(F.pl _ rfl);exact rfl)|(apply bE;exact rfl;exact rfl;exact(F.un _ rfl);exact(F.sz _ rfl);exact rfl;exact(F.ze _ rfl);exact rfl;exact rfl;exact rfl;exact rfl;exact rfl)))
      refine gY (b:=40) (n:=1) (cs:=(Ow.elV (e,(j:Int))).map .sc) rfl rfl rfl rfl (F.un _ rfl) (.inl ⟨_,F.un _ rfl⟩) (F.sz _ rfl) rfl (by kernel_rfl) (by kernel_rfl) (SlOf.row (by(repeat(exact Tr.ab _ _ _));done) rfl) rfl (by decide) (by decide) ?_
      rintro _ _ _ (⟨h,_⟩|⟨_,rfl,rfl,rfl⟩)
      ·exact absurd h (by decide)
      (repeat(apply ap;exact rfl;exact rfl;exact rfl;exact(F.fo _ _ rfl rfl)))
      refine aK (cs:=dX N p dl sl) rfl rfl rfl (F.sz _ rfl) (by(repeat(first|assumption|refine(Tr.aa _ _ (by omega)).trans ?_));done) rfl (zp (by rw [ba hp];decide)) ?_
      rw [show ∀ x,(dX N p dl sl).set (0+1025) x=dX N p x sl from fun x=>mb hp _ _ _]
      (repeat(first|refine ac ?_|refine aB ?_))
      refine eg (by(repeat(first|exact Tr.ab _ _ _|refine(Tr.aa _ _ (by omega)).trans ?_));done) (.inl ⟨rfl,⟨Tr.ab _ _ _,by(focus((repeat(first|assumption|refine(Tr.aa _ _ (by omega)).trans ?_));done)),by(focus((repeat(first|assumption|refine(Tr.aa _ _ (by omega)).trans ?_));done)),by dsimp only;omega,by(focus((repeat(first|assumption|refine(Tr.aa _ _ (by omega)).trans ?_));done)),by(focus((repeat(first|assumption|refine(Tr.aa _ _ (by omega)).trans ?_));done)),by(focus((repeat(first|assumption|refine(Tr.aa _ _ (by omega)).trans ?_));done)),by(focus((repeat(first|assumption|refine(Tr.aa _ _ (by omega)).trans ?_));done)),by(focus((repeat(first|assumption|refine(Tr.aa _ _ (by omega)).trans ?_));done)),⟨_,_,_,_,e1,by(focus((repeat(first|exact Tr.ab _ _ _|refine(Tr.aa _ _ (by omega)).trans ?_));done)),.inr ⟨n5+1+1,by simp,rfl,by first|omega|(dsimp only;omega),by first|omega|(dsimp only;omega),Eq.trans (b:=some (fQ false 1 4 123 ((Ow.elV (e,(j:Int))).map .sc))) (by(repeat(first|exact Tr.ab _ _ _|refine(Tr.aa _ _ (by omega)).trans ?_));done) (congrArg some (cR _ _ _ _ _))⟩,j4.frame (by(dsimp only;omega)) fun m _ _ _=>by(focus((repeat(refine(Tr.aa _ _ (by omega)).trans ?_));exact rfl))⟩,fun m hm=>by(focus((repeat(refine(Tr.aa _ _ (by omega)).trans ?_));exact i12 m hm))⟩,by dsimp only;omega,by(focus((repeat(refine(Tr.aa _ _ (by omega)).trans ?_));exact rfl))⟩)
     ·(repeat(first|(refine an rfl rfl rfl (F.ag _ rfl) (by(repeat(first|assumption|exact Tr.ab _ _ _|refine(Tr.aa _ _ (by omega)).trans ?_));done) (cM hp (.slu rw 0 own.length) sl 0) ?_)|refine ae ?_|refine ax rfl ?_|(apply aj;exact rfl;exact rfl;exact rfl)|(apply ap;exact rfl;exact rfl;exact rfl;exact(F.fo _ _ rfl rfl))|refine ay rfl rfl rfl (F.ag _ rfl) (by(repeat(first|assumption|exact Tr.ab _ _ _));done) (by exact rfl) ?_|(apply bc;exact rfl;exact rfl;exact rfl;exact(F.ze _ rfl);exact(F.pl _ rfl);exact rfl)|(apply bE;exact rfl;exact rfl;exact(F.un _ rfl);exact(F.sz _ rfl);exact rfl;exact(F.ze _ rfl);exact rfl;exact rfl;exact rfl;exact rfl;exact rfl)|refine lW (b:=40) (xs:=own) (a:=(e,(j:Int))) rfl rfl rfl rfl (F.un _ rfl) (.inl ⟨_,F.un _ rfl⟩) (F.sz _ rfl) rfl (by kernel_rfl) (by kernel_rfl) (by(repeat(first|assumption|refine(Tr.aa _ _ (by omega)).trans ?_));done) (by(repeat(exact Tr.ab _ _ _));done) (by exact rfl) (Ow.recP) (by omega) (by omega) ?_))
      refine aK (cs:=dX N p (.slu rw 0 own.length) sl) rfl rfl rfl (F.sz _ rfl) (by(repeat(first|assumption|refine(Tr.aa _ _ (by omega)).trans ?_|refine(Tr.ah _ (by omega)).trans ?_));done) rfl (zp (by rw [ba hp];decide)) ?_
      rw [show ∀ x,(dX N p (.slu rw 0 own.length) sl).set (0+1025) x=dX N p x sl from fun x=>mb hp _ _ _]
      (repeat(first|refine ac ?_|refine aB ?_))
      refine eg (by(repeat(first|exact Tr.ab _ _ _|refine(Tr.aa _ _ (by omega)).trans ?_|refine(Tr.ah _ (by omega)).trans ?_));done) (.inl ⟨rfl,⟨Tr.ab _ _ _,by(focus((repeat(first|assumption|refine(Tr.aa _ _ (by omega)).trans ?_|refine(Tr.ah _ (by omega)).trans ?_));done)),by(focus((repeat(first|assumption|refine(Tr.aa _ _ (by omega)).trans ?_|refine(Tr.ah _ (by omega)).trans ?_));done)),by dsimp only;omega,by(focus((repeat(first|assumption|refine(Tr.aa _ _ (by omega)).trans ?_|refine(Tr.ah _ (by omega)).trans ?_));done)),by(focus((repeat(first|assumption|refine(Tr.aa _ _ (by omega)).trans ?_|refine(Tr.ah _ (by omega)).trans ?_));done)),by(focus((repeat(first|assumption|refine(Tr.aa _ _ (by omega)).trans ?_|refine(Tr.ah _ (by omega)).trans ?_));done)),by(focus((repeat(first|assumption|refine(Tr.aa _ _ (by omega)).trans ?_|refine(Tr.ah _ (by omega)).trans ?_));done)),by(focus((repeat(first|assumption|refine(Tr.aa _ _ (by omega)).trans ?_|refine(Tr.ah _ (by omega)).trans ?_));done)),⟨_,_,_,_,e1,by(focus((repeat(first|exact Tr.ab _ _ _|refine(Tr.aa _ _ (by omega)).trans ?_));done)),.inr ⟨n5+1+1,by simp,rfl,by first|omega|(dsimp only;omega),by first|omega|(dsimp only;omega),(by(repeat(first|exact Tr.ab _ _ _|refine(Tr.aa _ _ (by omega)).trans ?_));done)⟩,j4.frame (by(dsimp only;omega)) fun m h1 h2 h3=>(by have hmr:m≠rw:=(by rintro rfl;exact kD (k4.symm.trans h3));(focus((repeat(first|refine(Tr.aa _ _ (by omega)).trans ?_|refine(Tr.ah _ (by omega)).trans ?_));exact rfl)))⟩,fun m hm=>by(focus((repeat(first|refine(Tr.aa _ _ (by omega)).trans ?_|refine(Tr.ah _ (by omega)).trans ?_));exact i12 m hm))⟩,by dsimp only;omega,by(focus((repeat(first|refine(Tr.aa _ _ (by omega)).trans ?_|refine(Tr.ah _ (by omega)).trans ?_));exact rfl))⟩)
    ·(repeat(apply bY;exact rfl;exact rfl;exact rfl))
     (refine bZ ?_);(refine⟨by kernel_rfl,?_,?_⟩);(focus(repeat(first|exact trivial|refine⟨.inl (bJ rfl),?_⟩|refine⟨.inr ⟨0,by kernel_rfl,AllH.all (fun _=>(by(exact ch rfl))) _⟩,?_⟩|refine⟨.inr ⟨0,by kernel_rfl,(by(refine⟨(by first|exact aZ (F.ag _ rfl) rfl (by(repeat(first|assumption|exact Tr.ab _ _ _|refine(Tr.aa _ _ (by omega)).trans ?_));done) (aW rfl)|exact bg (F.ag _ rfl) rfl (by(repeat(first|assumption|exact Tr.ab _ _ _));done) (aw _ 0 rfl rfl)),?_⟩;(repeat(refine⟨(by first|exact aZ (F.ag _ rfl) rfl (by(repeat(first|assumption|exact Tr.ab _ _ _|refine(Tr.aa _ _ (by omega)).trans ?_));done) (aW rfl)|exact bg (F.ag _ rfl) rfl (by(repeat(exact Tr.ab _ _ _));done) (aw _ 0 rfl rfl)),?_⟩));exact trivial))⟩,?_⟩|refine⟨.inl (by kernel_rfl),?_⟩)))
     dsimp only
     rw [if_neg (by omega)] at e1
     rcases j4 with ⟨rfl,rfl⟩|⟨rw,k1,rfl,k2,k3,k4⟩
     ·(repeat(first|(refine an rfl rfl rfl (F.ag _ rfl) (by(repeat(first|assumption|refine(Tr.aa _ _ (by omega)).trans ?_));done) (cM hp so dl 1) ?_)|refine ae ?_|refine au rfl ?_|(apply aj;exact rfl;exact rfl;exact rfl)|(apply ap;exact rfl;exact rfl;exact rfl;exact(F.fo _ _ rfl rfl))|(apply bE;exact rfl;exact rfl;exact(F.un _ rfl);exact(F.sz _ rfl);exact rfl;exact(F.ze _ rfl);exact rfl;exact rfl;exact rfl;exact rfl;exact rfl)))
      refine gY (b:=8) (n:=1) (cs:= [.sc (.int .i64 (j:Int))]) rfl rfl rfl rfl (F.un _ rfl) (.inl ⟨_,F.un _ rfl⟩) (F.sz _ rfl) rfl (by kernel_rfl) (by kernel_rfl) (SlOf.row (by(repeat(exact Tr.ab _ _ _));done) rfl) rfl (by decide) (by decide) ?_
      rintro _ _ _ (⟨h,_⟩|⟨_,rfl,rfl,rfl⟩)
      ·exact absurd h (by decide)
      (repeat(apply ap;exact rfl;exact rfl;exact rfl;exact(F.fo _ _ rfl rfl)))
      refine aK (cs:=dX N p so dl) rfl rfl rfl (F.sz _ rfl) (by(repeat(first|assumption|refine(Tr.aa _ _ (by omega)).trans ?_));done) rfl (zp (by rw [ba hp];decide)) ?_
      rw [show ∀ x,(dX N p so dl).set (0+1026) x=dX N p so x from fun x=>mc hp _ _ _]
      (repeat(first|refine ac ?_|refine aB ?_))
      refine eg (by(repeat(first|exact Tr.ab _ _ _|refine(Tr.aa _ _ (by omega)).trans ?_));done) (.inl ⟨rfl,⟨Tr.ab _ _ _,by(focus((repeat(first|assumption|refine(Tr.aa _ _ (by omega)).trans ?_));done)),by(focus((repeat(first|assumption|refine(Tr.aa _ _ (by omega)).trans ?_));done)),by dsimp only;omega,by(focus((repeat(first|assumption|refine(Tr.aa _ _ (by omega)).trans ?_));done)),by(focus((repeat(first|assumption|refine(Tr.aa _ _ (by omega)).trans ?_));done)),by(focus((repeat(first|assumption|refine(Tr.aa _ _ (by omega)).trans ?_));done)),by(focus((repeat(first|assumption|refine(Tr.aa _ _ (by omega)).trans ?_));done)),by(focus((repeat(first|assumption|refine(Tr.aa _ _ (by omega)).trans ?_));done)),⟨_,_,_,_,e1,by(focus((repeat(first|exact Tr.ab _ _ _|refine(Tr.aa _ _ (by omega)).trans ?_));done)),j3.frame (by(dsimp only;omega)) fun m _ _ _=>(by(repeat(refine(Tr.aa _ _ (by omega)).trans ?_));exact rfl),.inr ⟨n5+1+1,by simp,rfl,by first|omega|(dsimp only;omega),by first|omega|(dsimp only;omega),Eq.trans (b:=some (fQ false 1 1 3 [.sc (.int .i64 (j:Int))])) (by(repeat(first|exact Tr.ab _ _ _|refine(Tr.aa _ _ (by omega)).trans ?_));done) (congrArg some (cR _ _ _ _ [.int .i64 (j:Int)]))⟩⟩,fun m hm=>by(focus((repeat(refine(Tr.aa _ _ (by omega)).trans ?_));exact i12 m hm))⟩,by dsimp only;omega,by(focus((repeat(refine(Tr.aa _ _ (by omega)).trans ?_));exact rfl))⟩)
     ·(repeat(first|(refine an rfl rfl rfl (F.ag _ rfl) (by(repeat(first|assumption|refine(Tr.aa _ _ (by omega)).trans ?_));done) (cM hp so (.slu rw 0 left.length) 1) ?_)|refine ae ?_|refine au rfl ?_|(apply aj;exact rfl;exact rfl;exact rfl)|(apply ap;exact rfl;exact rfl;exact rfl;exact(F.fo _ _ rfl rfl))|(apply bE;exact rfl;exact rfl;exact(F.un _ rfl);exact(F.sz _ rfl);exact rfl;exact(F.ze _ rfl);exact rfl;exact rfl;exact rfl;exact rfl;exact rfl)|refine lW (b:=8) (xs:=left) (a:=(j:Int)) rfl rfl rfl rfl (F.un _ rfl) (.inl ⟨_,F.un _ rfl⟩) (F.sz _ rfl) rfl (by kernel_rfl) (by kernel_rfl) (by(repeat(first|assumption|refine(Tr.aa _ _ (by omega)).trans ?_));done) (by(repeat(exact Tr.ab _ _ _));done) (by exact rfl) ((yE (g:=fun n:Int=>Value.int .i64 n) fun _=>rfl)) (by omega) (by omega) ?_))
      refine aK (cs:=dX N p so (.slu rw 0 left.length)) rfl rfl rfl (F.sz _ rfl) (by(repeat(first|assumption|refine(Tr.aa _ _ (by omega)).trans ?_|refine(Tr.ah _ (by omega)).trans ?_));done) rfl (zp (by rw [ba hp];decide)) ?_
      rw [show ∀ x,(dX N p so (.slu rw 0 left.length)).set (0+1026) x=dX N p so x from fun x=>mc hp _ _ _]
      (repeat(first|refine ac ?_|refine aB ?_))
      refine eg (by(repeat(first|exact Tr.ab _ _ _|refine(Tr.aa _ _ (by omega)).trans ?_|refine(Tr.ah _ (by omega)).trans ?_));done) (.inl ⟨rfl,⟨Tr.ab _ _ _,by(focus((repeat(first|assumption|refine(Tr.aa _ _ (by omega)).trans ?_|refine(Tr.ah _ (by omega)).trans ?_));done)),by(focus((repeat(first|assumption|refine(Tr.aa _ _ (by omega)).trans ?_|refine(Tr.ah _ (by omega)).trans ?_));done)),by dsimp only;omega,by(focus((repeat(first|assumption|refine(Tr.aa _ _ (by omega)).trans ?_|refine(Tr.ah _ (by omega)).trans ?_));done)),by(focus((repeat(first|assumption|refine(Tr.aa _ _ (by omega)).trans ?_|refine(Tr.ah _ (by omega)).trans ?_));done)),by(focus((repeat(first|assumption|refine(Tr.aa _ _ (by omega)).trans ?_|refine(Tr.ah _ (by omega)).trans ?_));done)),by(focus((repeat(first|assumption|refine(Tr.aa _ _ (by omega)).trans ?_|refine(Tr.ah _ (by omega)).trans ?_));done)),by(focus((repeat(first|assumption|refine(Tr.aa _ _ (by omega)).trans ?_|refine(Tr.ah _ (by omega)).trans ?_));done)),⟨_,_,_,_,e1,by(focus((repeat(first|exact Tr.ab _ _ _|refine(Tr.aa _ _ (by omega)).trans ?_));done)),j3.frame (by(dsimp only;omega)) fun m h1 h2 h3=>(by have hmr:m≠rw:=(by rintro rfl;exact kD (h3.symm.trans k4));(focus((repeat(first|refine(Tr.aa _ _ (by omega)).trans ?_|refine(Tr.ah _ (by omega)).trans ?_));exact rfl))),.inr ⟨n5+1+1,by simp,rfl,by first|omega|(dsimp only;omega),by first|omega|(dsimp only;omega),(by(repeat(first|exact Tr.ab _ _ _|refine(Tr.aa _ _ (by omega)).trans ?_));done)⟩⟩,fun m hm=>by(focus((repeat(first|refine(Tr.aa _ _ (by omega)).trans ?_|refine(Tr.ah _ (by omega)).trans ?_));exact i12 m hm))⟩,by dsimp only;omega,by(focus((repeat(first|refine(Tr.aa _ _ (by omega)).trans ?_|refine(Tr.ah _ (by omega)).trans ?_));exact rfl))⟩)
 ·refine⟨Tr.ab _ _ _,by(focus((repeat(first|assumption|refine(Tr.aa _ _ (by omega)).trans ?_));done)),by(focus((repeat(first|assumption|refine(Tr.aa _ _ (by omega)).trans ?_));done)),zD _,by(focus((repeat(first|assumption|refine(Tr.aa _ _ (by omega)).trans ?_));done)),by(focus((repeat(first|assumption|refine(Tr.aa _ _ (by omega)).trans ?_));done)),by(focus((repeat(first|assumption|refine(Tr.aa _ _ (by omega)).trans ?_));done)),by(focus((repeat(first|assumption|refine(Tr.aa _ _ (by omega)).trans ?_));done)),by(focus((repeat(first|exact Tr.ab _ _ _|refine(Tr.aa _ _ (by omega)).trans ?_));done)),⟨[],[],dl,dl,rfl,by(focus((repeat(first|assumption|refine(Tr.aa _ _ (by omega)).trans ?_));done)),.inl ⟨rfl,rfl⟩,.inl ⟨rfl,rfl⟩⟩,fun m hm=>by(focus((repeat(refine(Tr.aa _ _ (by omega)).trans ?_));exact mo m hm))⟩
 ·rintro⟨v,H5,n5⟩ (⟨i1,i2,i3,i4,i5,i6,i7,i8,i9,⟨own,left,so,sl,j1,j2,j3,j4⟩,i12⟩|⟨i1,i4,i7,i8,i9,⟨own,left,so,sl,hl,j2,j3,j4⟩,hno,i12⟩)
  ·dsimp only at i1 i2 i3 i4 i5 i6 i7 i8 i9 j2 j3 j4 i12 ⊢
   have hM:fy p bs i=if vO (mE own) (mE own).length=true then none else some (mE own,left):=by rw [hM,j1]
   have hl:=h12 _ _ _ (zD _) j1
   have hl1:=fF j1
   obtain⟨_,hsp,hsp2⟩:=ig hp hrp
   clear i2 i3 i5 i6 j1 h12
   refine gW i1 (fun h=>by cases h) ?_
   dsimp only [gX]
   (repeat(first|refine aq ?_|refine ae ?_|refine aB ?_|(apply ap;exact rfl;exact rfl;exact rfl;exact(F.fo _ _ rfl rfl))))
   rcases j3 with ⟨rfl,rfl⟩|⟨ra,k1,rfl,k2,k3,k4⟩
   ·have hM:fy p bs i=some ([],left):=by
     rw [hM,show mE []= [] from zz (ji [])]
     rfl
    have hs0:=Ow.sort_spec 0 #[] (by decide) rfl
    (repeat(refine an rfl rfl rfl (F.ag _ rfl) (by(repeat(first|assumption|refine(Tr.aa _ _ (by omega)).trans ?_));done) (cM hp dl sl 0) ?_))
    refine kr 4 123 (d:=78) rfl rfl ?_
    (refine aL rfl rfl rfl (by kernel_rfl) (Ctr.kg (hs0) [n5] rfl ⟨by intro n hn;simp at hn;omega,by simp;try omega⟩ rfl (by repeat(first|exact trivial|refine⟨c7 (by(repeat(exact Tr.ab _ _ _));done),?_⟩)) ?_);rintro _ rfl;refine⟨_,0,[n5],[some _],rfl,(by repeat(first|exact trivial|refine⟨eb _ _ _ _ _ _,?_⟩)),rfl,rfl,?_⟩;dsimp only [wrL])
    (repeat(first|(refine an rfl rfl rfl (F.ag _ rfl) (by(repeat(first|assumption|refine(Tr.aa _ _ (by omega)).trans ?_));done) (cM hp dl sl 0) ?_)|refine aq ?_|refine ae ?_|refine ac ?_|refine aI ?_|(apply aj;exact rfl;exact rfl;exact rfl)|(apply ap;exact rfl;exact rfl;exact rfl;exact(F.fo _ _ rfl rfl))|((apply dB;exact rfl;exact rfl;exact rfl;exact(F.un _ rfl)))))
    refine co (α:=Nat) (fun x=> [(6,.ptr (nx+1+1) 0),(8,.ptr (nx+1+1+1) 0),(11,.ptr (nx+1+1+1+1+1) 0),(82,.sc (.int .i64 0)),(83,.sc (.int .i64 0))])
     (fun x H7 n7=>H7.at' (nx+1+1)=some (ey 0 zeroP dl dl)∧H7.at' (nx+1+1+1)=some (ey N p dl sl)∧H7.at' (nx+1+1+1+1+1)=some (lO false)∧IntsAt H7 sl left (q0+1+1+1+1+1) n7∧H7.at' (q0+1+1)=some (.dfd (some []))∧n5≤n7∧ ∀ m,m<nx→H7.at' m=H.at' m) (fun x=>0) 0
     ⟨by(focus((repeat(first|assumption|refine(Tr.aa _ _ (by omega)).trans ?_));done)),by(focus((repeat(first|assumption|refine(Tr.aa _ _ (by omega)).trans ?_));done)),by(focus((repeat(first|assumption|refine(Tr.aa _ _ (by omega)).trans ?_));done)),j4.frame (by(omega)) fun m h1 h2 _=>(by(repeat(refine(Tr.aa _ _ (by omega)).trans ?_));exact rfl),by(focus((repeat(first|assumption|refine(Tr.aa _ _ (by omega)).trans ?_));done)),by first|omega|(dsimp only;omega),fun m hm=>by(focus((repeat(refine(Tr.aa _ _ (by omega)).trans ?_));exact i12 m hm))⟩ (SlIn.sub (by repeat(first|exact trivial|refine⟨rfl,?_⟩))) ?_
    clear j4 i12 i8 i9 i7 i1
    rintro x H7 n7 ⟨o1,o2,o3,o5,o6,o7,o8⟩ _
    (repeat(first|refine aq ?_|refine ae ?_|refine ac ?_|refine aH ?_|refine a9 rfl ?_|refine au rfl ?_|refine an rfl rfl rfl (F.ag _ rfl) (by assumption) (by exact rfl) ?_|(refine bR rfl rfl rfl rfl (fun hq=>absurd hq (by decide)) (fun _=>?_))))
    (repeat(first|(refine ay rfl rfl rfl (F.ag _ rfl) (by assumption) (ba hp _ _) ?_)|(refine aE rfl rfl rfl (F.sz _ rfl) (by assumption) (ba hp _ _) (by rw [ba ak];exact zD _) (dD _ _ rfl o5.one) (dC ak hp) ?_)|refine ac ?_|(apply ai;exact rfl;exact rfl;exact rfl)));refine gy Tryz.func35 (congrArg Array.toList Tryz.results35) (rs:= [q0+1+1]) rfl (fun r hr=>by rw [List.mem_singleton.1 hr];(focus((repeat(first|assumption|refine(Tr.aa _ _ (by omega)).trans ?_));done))) (by simp) ?_;intro H8 hH8;have kz:H8.at' (nx+1+1)=some (ey N p dl sl):=(hH8 _ (fun h=>absurd (List.mem_singleton.1 h) (by omega))).trans (by(repeat(exact Tr.ab _ _ _));done);refine⟨_,(by(apply ResIs.cell rfl (LoadIs.many (F.ag _ rfl) (by assumption) (ge hp _ _));(repeat(first|exact ResIs.nil|apply ResIs.tmp rfl)))),?_⟩;refine⟨by dsimp only;omega,fun m hm=>(hH8 _ (fun h=>absurd (List.mem_singleton.1 h) (by omega))).trans (by(repeat(refine(Tr.aa _ _ (by omega)).trans ?_));exact o8 m hm),.inr ⟨_,left,dl,sl,hM,rfl,?_,?_⟩⟩
    ·exact .inl ⟨rfl,rfl⟩
    ·exact(o5.frame (by(dsimp only;omega)) fun m h1 h2 _=>(hH8 _ (fun h=>absurd (List.mem_singleton.1 h) (by omega))).trans (by(repeat(refine(Tr.aa _ _ (by omega)).trans ?_));exact rfl)).low (by omega)
   ·have hs0:=Ow.sort_spec own.length own.toArray hl (by simp)
    have hn0:0<own.length:=List.length_pos_iff.2 k1
    refine ki (R:=fun H6 n6=>n5=n6∧H6.at' (nx+1+1)=some (ey 0 zeroP dl dl)∧H6.at' (nx+1+1+1)=some (ey N p (.slu ra 0 own.length) sl)∧H6.at' (nx+1+1+1+1+1)=some (lO false)∧H6.at' ra=some (qh own)∧IntsAt H6 sl left (q0+1+1+1+1+1) n5∧H6.at' (q0+1+1)=some (.dfd (some []))∧ ∀ m,m<nx→H6.at' m=H.at' m) ⟨rfl,by(focus((repeat(first|assumption|refine(Tr.aa _ _ (by omega)).trans ?_));done)),by(focus((repeat(first|assumption|refine(Tr.aa _ _ (by omega)).trans ?_));done)),by(focus((repeat(first|assumption|refine(Tr.aa _ _ (by omega)).trans ?_));done)),by(focus((repeat(first|assumption|refine(Tr.aa _ _ (by omega)).trans ?_));done)),j4.frame (zD _) fun m h1 h2 _=>(by(repeat(refine(Tr.aa _ _ (by omega)).trans ?_));exact rfl),by(focus((repeat(first|assumption|refine(Tr.aa _ _ (by omega)).trans ?_));done)),fun m hm=>by(focus((repeat(refine(Tr.aa _ _ (by omega)).trans ?_));exact i12 m hm))⟩ ?_
    clear i1 i7 i8 i9 i12 k4 j2 j4
    rintro H6 n6 ⟨rfl,b1,b2,b3,b4,b5,b6,b7⟩
    (repeat(refine an rfl rfl rfl (F.ag _ rfl) (by assumption) (cM hp (.slu ra 0 own.length) sl 0) ?_))
    (refine aL rfl rfl rfl (by kernel_rfl) (Ctr.kg (hs0) [ra] rfl ⟨by intro n hn;simp at hn;omega,by simp;try omega⟩ rfl (by repeat(first|exact trivial|refine⟨c7 (by assumption),?_⟩)) ?_);rintro _ rfl;refine⟨_,0,[ra],[some _],rfl,(by repeat(first|exact trivial|refine⟨eb _ _ _ _ _ _,?_⟩)),rfl,rfl,?_⟩;dsimp only [wrL])
    rw [show dat false own.length 4 123 ((Sort.sort Ow.ltP own.toArray).toList.flatMap Ow.elV)=qh (mE own)from p9 own]
    have hsl:=ji own
    rw [← hsl] at hl hn0 b2 ⊢
    generalize mE own=sb at hM hl hn0 b2 ⊢
    clear hs0 hsl k1
    (repeat(first|(refine an rfl rfl rfl (F.ag _ rfl) (by(repeat(first|assumption|refine(Tr.aa _ _ (by omega)).trans ?_));done) (cM hp (.slu ra 0 sb.length) sl 0) ?_)|refine aq ?_|refine ae ?_|refine ac ?_|refine aI ?_|(apply aj;exact rfl;exact rfl;exact rfl)|(apply ap;exact rfl;exact rfl;exact rfl;exact(F.fo _ _ rfl rfl))|(apply a6;exact rfl;exact rfl;exact rfl;exact(F.un _ rfl))))
    refine co (α:=Nat) (fun x=> [(6,.ptr (nx+1+1) 0),(8,.ptr (nx+1+1+1) 0),(11,.ptr (nx+1+1+1+1+1) 0),(82,.sc (.int .i64 (sb.length:Int))),(83,.sc (.int .i64 (x:Int)))])
     (fun x H7 n7=>x≤sb.length∧H7.at' (nx+1+1)=some (ey 0 zeroP dl dl)∧H7.at' (nx+1+1+1)=some (ey N p (.slu ra 0 sb.length) sl)∧H7.at' (nx+1+1+1+1+1)=some (lO (vO sb x))∧H7.at' ra=some (qh sb)∧IntsAt H7 sl left (q0+1+1+1+1+1) n7∧H7.at' (q0+1+1)=some (.dfd (some []))∧n5≤n7∧ ∀ m,m<nx→H7.at' m=H.at' m) (fun x=>sb.length-x) 0
     ⟨zE _,by(focus((repeat(first|assumption|refine(Tr.aa _ _ (by omega)).trans ?_));done)),by(focus((repeat(first|assumption|refine(Tr.aa _ _ (by omega)).trans ?_));done)),by(focus((repeat(first|assumption|refine(Tr.aa _ _ (by omega)).trans ?_));done)),by(focus((repeat(exact Tr.ab _ _ _));done)),b5.frame (by(omega)) fun m h1 h2 h3=>(by have hmr:m≠ra:=(by rintro rfl;exact kD (b4.symm.trans h3));(focus((repeat(refine(Tr.aa _ _ (by omega)).trans ?_));exact rfl))),by(focus((repeat(first|assumption|refine(Tr.aa _ _ (by omega)).trans ?_));done)),by first|omega|(dsimp only;omega),fun m hm=>by(focus((repeat(refine(Tr.aa _ _ (by omega)).trans ?_));exact b7 m hm))⟩ (SlIn.sub (by repeat(first|exact trivial|refine⟨rfl,?_⟩))) ?_
    clear b1 b2 b3 b4 b5 b6 b7
    rintro x H7 n7 ⟨o0,o1,o2,o3,o4,o5,o6,o7,o8⟩ ih
    (repeat(first|refine aq ?_|refine ae ?_))
    refine bR rfl rfl rfl rfl (fun c1=>?_) (fun c1=>?_)
    ·have hx:x<sb.length:=by omega
     (repeat(first|refine aq ?_|refine ae ?_|refine ac ?_|refine aI ?_|refine aH ?_|refine ax rfl ?_|(apply aj;exact rfl;exact rfl;exact rfl)|(apply ai;exact rfl;exact rfl;exact rfl)))
     have hdb:vO sb (x+1)=(vO sb x || (decide (0<x) && gu (sb.getD (x-1) (ei,0)).1 (sb.getD x (ei,0)).1)):=rfl
     cases hd:vO sb x with
     | true=>
       rw [hd] at o3 hdb
       (apply cY;(focus(kernel_rfl));(focus(kernel_rfl)))
       (repeat(first|refine bx rfl rfl rfl (F.ag _ rfl) (by assumption) (by exact rfl) ?_|refine bO rfl rfl rfl (F.sz _ rfl) (by assumption) (by exact rfl) (by exact rfl) ?_|(apply bD;exact rfl;exact rfl;exact rfl)|(apply bP;exact rfl;exact rfl;exact rfl;exact rfl)|(apply cZ;exact rfl;exact rfl)))
       (refine bZ ?_);(refine⟨by kernel_rfl,?_,?_⟩);(focus(repeat(first|exact trivial|refine⟨.inl (bJ rfl),?_⟩|refine⟨.inl (eX rfl),?_⟩|refine⟨.inr ⟨0,by kernel_rfl,AllH.all (fun _=>(by first|exact bC rfl|exact ci rfl rfl)) _⟩,?_⟩|refine⟨.inr ⟨0,by kernel_rfl,(by(refine⟨(by(exact aZ (F.ag _ rfl) rfl (by(repeat(exact Tr.ab _ _ _));done) (aW rfl))),?_⟩;(repeat(refine⟨(by(exact aZ (F.ag _ rfl) rfl (by assumption) (aW rfl))),?_⟩));exact trivial))⟩,?_⟩)))
       (repeat(first|refine ae ?_|refine ac ?_|refine aB ?_|(apply aj;exact rfl;exact rfl;exact rfl)|(apply bn;exact rfl;exact rfl;exact rfl;exact rfl;(focus(omega));(focus(omega)))))
       exact ih _ _ _ (x+1) ⟨hx,by(focus((repeat(first|assumption|refine(Tr.aa _ _ (by omega)).trans ?_));done)),by(focus((repeat(first|assumption|refine(Tr.aa _ _ (by omega)).trans ?_));done)),by rw [hdb];(focus((repeat(exact Tr.ab _ _ _));done)),by(focus((repeat(first|assumption|refine(Tr.aa _ _ (by omega)).trans ?_));done)),o5.frame (by(dsimp only;omega)) fun m h1 h2 h3=>(by(repeat(refine(Tr.aa _ _ (by omega)).trans ?_));exact rfl),by(focus((repeat(first|assumption|refine(Tr.aa _ _ (by omega)).trans ?_));done)),by first|omega|(dsimp only;omega),fun m hm=>by(focus((repeat(refine(Tr.aa _ _ (by omega)).trans ?_));exact o8 m hm))⟩ (by omega) (SlIn.sub (by repeat(first|exact trivial|refine⟨rfl,?_⟩)))
     | false=>
       rw [hd] at o3 hdb
       (apply cY;(focus(kernel_rfl));(focus(kernel_rfl)))
       (repeat(first|refine bx rfl rfl rfl (F.ag _ rfl) (by assumption) (by exact rfl) ?_|(apply bD;exact rfl;exact rfl;exact rfl)))
       refine lD rfl rfl rfl rfl (fun c2=>?_) (fun c2=>?_)
       ·have hx1:x-1<sb.length:=by omega
        have hf1:=fg (f:=Ow.elV) (fun _=>rfl) sb (x-1) 0 3 hx1 (by decide)
        have hf2:=fg (f:=Ow.elV) (fun _=>rfl) sb x 0 3 hx (by decide)
        rw [show sb.getD (x-1) (ei,0)=sb[x-1] by rw [zy,zk hx1];rfl,show sb.getD x (ei,0)=sb[x] by rw [zy,zk hx];rfl,decide_eq_true (by omega:0<x)] at hdb
        cases hse:gu (sb[x-1]).1 (sb[x]).1 with
        | true=>
          rw [hse] at hdb
          (repeat(first|refine bO rfl rfl rfl (F.sz _ rfl) (by assumption) (by exact rfl) (by exact rfl) ?_|(refine bx rfl rfl rfl (F.ag _ rfl) (by assumption) (cM hp (.slu ra 0 sb.length) sl 0) ?_)|refine dK (q:=x-1) rfl rfl rfl rfl (F.un _ rfl) (F.sz _ rfl) (by assumption) (by omega) (by(omega)) (zD _) ?_|refine dK (q:=x) rfl rfl rfl rfl (F.un _ rfl) (F.sz _ rfl) (by assumption) (by omega) (by(omega)) (zD _) ?_|(refine fj (us:=iV (sb[x-1]).1) rfl rfl rfl (F.ag _ rfl) o4 hf1 rfl (by omega) ?_)|(refine fj (us:=iV (sb[x]).1) rfl rfl rfl (F.ag _ rfl) o4 hf2 rfl (by omega) ?_)|((apply bl;exact rfl;exact rfl;exact(fun _ h=>by cases h);exact(mJ (a:=(sb[x-1]).1) (b:=(sb[x]).1) hse rfl rfl)))|(apply bD;exact rfl;exact rfl;exact rfl)|(apply bP;exact rfl;exact rfl;exact rfl;exact rfl)|(apply cp;exact rfl;exact rfl;exact rfl;exact rfl)|(apply bm;exact rfl;exact rfl;exact rfl;exact(F.fo _ _ rfl rfl))|(apply eS;exact rfl;exact rfl;exact rfl;exact rfl;(focus(omega));(focus(omega)))))
          (refine bZ ?_);(refine⟨by kernel_rfl,?_,?_⟩);(focus(repeat(first|exact trivial|refine⟨.inl (bJ rfl),?_⟩|refine⟨.inr ⟨0,by kernel_rfl,AllH.all (fun _=>(by first|exact bC rfl|exact bw (F.fo _ _ rfl rfl) rfl|exact ci rfl rfl|exact cC rfl rfl|exact bU rfl rfl (.inr (.inl ⟨rfl,(zi _ ⟨by omega,by omega⟩).symm⟩)))) _⟩,?_⟩|refine⟨.inr ⟨1,by kernel_rfl,(by(refine⟨(by(exact aZ (F.ag _ rfl) rfl (by assumption) (aW rfl))),?_⟩;(repeat(refine⟨(by skip),?_⟩));exact trivial))⟩,?_⟩|refine⟨.inl (by kernel_rfl),?_⟩)))
          (repeat(first|refine ae ?_|refine ac ?_|refine aB ?_|(apply aj;exact rfl;exact rfl;exact rfl)|(apply bn;exact rfl;exact rfl;exact rfl;exact rfl;(focus(omega));(focus(omega)))))
          exact ih _ _ _ (x+1) ⟨hx,by(focus((repeat(first|assumption|refine(Tr.aa _ _ (by omega)).trans ?_));done)),by(focus((repeat(first|assumption|refine(Tr.aa _ _ (by omega)).trans ?_));done)),by rw [hdb];(focus((repeat(exact Tr.ab _ _ _));done)),by(focus((repeat(first|assumption|refine(Tr.aa _ _ (by omega)).trans ?_));done)),o5.frame (by(dsimp only;omega)) fun m h1 h2 h3=>(by(repeat(refine(Tr.aa _ _ (by omega)).trans ?_));exact rfl),by(focus((repeat(first|assumption|refine(Tr.aa _ _ (by omega)).trans ?_));done)),by first|omega|(dsimp only;omega),fun m hm=>by(focus((repeat(refine(Tr.aa _ _ (by omega)).trans ?_));exact o8 m hm))⟩ (by omega) (SlIn.sub (by repeat(first|exact trivial|refine⟨rfl,?_⟩)))
        | false=>
          rw [hse] at hdb
          (repeat(first|refine bO rfl rfl rfl (F.sz _ rfl) (by assumption) (by exact rfl) (by exact rfl) ?_|(refine bx rfl rfl rfl (F.ag _ rfl) (by assumption) (cM hp (.slu ra 0 sb.length) sl 0) ?_)|refine dK (q:=x-1) rfl rfl rfl rfl (F.un _ rfl) (F.sz _ rfl) (by assumption) (by omega) (by(omega)) (zD _) ?_|refine dK (q:=x) rfl rfl rfl rfl (F.un _ rfl) (F.sz _ rfl) (by assumption) (by omega) (by(omega)) (zD _) ?_|(refine fj (us:=iV (sb[x-1]).1) rfl rfl rfl (F.ag _ rfl) o4 hf1 rfl (by omega) ?_)|(refine fj (us:=iV (sb[x]).1) rfl rfl rfl (F.ag _ rfl) o4 hf2 rfl (by omega) ?_)|((apply bl;exact rfl;exact rfl;exact(fun _ h=>by cases h);exact(mJ (a:=(sb[x-1]).1) (b:=(sb[x]).1) hse rfl rfl)))|(apply bD;exact rfl;exact rfl;exact rfl)|(apply bP;exact rfl;exact rfl;exact rfl;exact rfl)|(apply cp;exact rfl;exact rfl;exact rfl;exact rfl)|(apply bm;exact rfl;exact rfl;exact rfl;exact(F.fo _ _ rfl rfl))|(apply eS;exact rfl;exact rfl;exact rfl;exact rfl;(focus(omega));(focus(omega)))))
          (refine bZ ?_);(refine⟨by kernel_rfl,?_,?_⟩);(focus(repeat(first|exact trivial|refine⟨.inl (bJ rfl),?_⟩|refine⟨.inr ⟨0,by kernel_rfl,AllH.all (fun _=>(by first|exact bC rfl|exact bw (F.fo _ _ rfl rfl) rfl|exact ci rfl rfl|exact cC rfl rfl|exact bU rfl rfl (.inr (.inl ⟨rfl,(zi _ ⟨by omega,by omega⟩).symm⟩)))) _⟩,?_⟩|refine⟨.inr ⟨0,by kernel_rfl,(by(refine⟨(by(exact aZ (F.ag _ rfl) rfl (by(repeat(first|assumption|exact Tr.ab _ _ _|refine(Tr.aa _ _ (by omega)).trans ?_));done) (aW rfl))),?_⟩;(repeat(refine⟨(by(exact aZ (F.ag _ rfl) rfl (by assumption) (aW rfl))),?_⟩));exact trivial))⟩,?_⟩|refine⟨.inl (by kernel_rfl),?_⟩)))
          (repeat(first|refine ae ?_|refine ac ?_|refine aB ?_|(apply aj;exact rfl;exact rfl;exact rfl)|(apply bn;exact rfl;exact rfl;exact rfl;exact rfl;(focus(omega));(focus(omega)))))
          exact ih _ _ _ (x+1) ⟨hx,by(focus((repeat(first|assumption|refine(Tr.aa _ _ (by omega)).trans ?_));done)),by(focus((repeat(first|assumption|refine(Tr.aa _ _ (by omega)).trans ?_));done)),by rw [hdb];(focus((repeat(exact Tr.ab _ _ _));done)),by(focus((repeat(first|assumption|refine(Tr.aa _ _ (by omega)).trans ?_));done)),o5.frame (by(dsimp only;omega)) fun m h1 h2 h3=>(by(repeat(refine(Tr.aa _ _ (by omega)).trans ?_));exact rfl),by(focus((repeat(first|assumption|refine(Tr.aa _ _ (by omega)).trans ?_));done)),by first|omega|(dsimp only;omega),fun m hm=>by(focus((repeat(refine(Tr.aa _ _ (by omega)).trans ?_));exact o8 m hm))⟩ (by omega) (SlIn.sub (by repeat(first|exact trivial|refine⟨rfl,?_⟩)))
       ·rw [decide_eq_false (by omega: ¬ 0<x)] at hdb
        (repeat(first|refine bO rfl rfl rfl (F.sz _ rfl) (by assumption) (by exact rfl) (by exact rfl) ?_|(apply bD;exact rfl;exact rfl;exact rfl)|(apply cp;exact rfl;exact rfl;exact rfl;exact rfl)|(apply cZ;exact rfl;exact rfl)))
        (refine bZ ?_);(refine⟨by kernel_rfl,?_,?_⟩);(focus(repeat(first|exact trivial|refine⟨.inl (bJ rfl),?_⟩|refine⟨.inl (eX rfl),?_⟩|refine⟨.inr ⟨0,by kernel_rfl,AllH.all (fun _=>(by first|exact bC rfl|exact cC rfl rfl)) _⟩,?_⟩|refine⟨.inr ⟨0,by kernel_rfl,(by(refine⟨(by(exact aZ (F.ag _ rfl) rfl (by(repeat(first|assumption|exact Tr.ab _ _ _));done) (aW rfl))),?_⟩;(repeat(refine⟨(by(exact aZ (F.ag _ rfl) rfl (by assumption) (aW rfl))),?_⟩));exact trivial))⟩,?_⟩|refine⟨.inl (by kernel_rfl),?_⟩)))
        (repeat(first|refine ae ?_|refine ac ?_|refine aB ?_|(apply aj;exact rfl;exact rfl;exact rfl)|(apply bn;exact rfl;exact rfl;exact rfl;exact rfl;(focus(omega));(focus(omega)))))
        exact ih _ _ _ (x+1) ⟨hx,by(focus((repeat(first|assumption|refine(Tr.aa _ _ (by omega)).trans ?_));done)),by(focus((repeat(first|assumption|refine(Tr.aa _ _ (by omega)).trans ?_));done)),by rw [hdb];(focus((repeat(exact Tr.ab _ _ _));done)),by(focus((repeat(first|assumption|refine(Tr.aa _ _ (by omega)).trans ?_));done)),o5.frame (by(dsimp only;omega)) fun m h1 h2 h3=>(by(repeat(refine(Tr.aa _ _ (by omega)).trans ?_));exact rfl),by(focus((repeat(first|assumption|refine(Tr.aa _ _ (by omega)).trans ?_));done)),by first|omega|(dsimp only;omega),fun m hm=>by(focus((repeat(refine(Tr.aa _ _ (by omega)).trans ?_));exact o8 m hm))⟩ (by omega) (SlIn.sub (by repeat(first|exact trivial|refine⟨rfl,?_⟩)))
    ·(repeat(first|refine aq ?_|refine ae ?_|refine ac ?_|refine a9 rfl ?_|refine au rfl ?_|refine an rfl rfl rfl (F.ag _ rfl) (by assumption) (by exact rfl) ?_))
     have hin:x=sb.length:=by omega
     subst hin
     cases hd:vO sb sb.length with
     | true=>
       rw [hd] at o3 hM
       have hn:fy p bs i=none:=hM
       (repeat(first|refine aq ?_|refine ae ?_|refine ax rfl ?_))
       (repeat(first|(refine dh rfl rfl nz ?_)|(refine aE rfl rfl rfl (F.sz _ rfl) (by assumption) (ba ak _ _) (by rw [ba ak];exact zD _) (dD _ _ rfl rfl) (dC ak ak) ?_)|refine ac ?_|(apply ai;exact rfl;exact rfl;exact rfl)));refine gy Tryz.func35 (congrArg Array.toList Tryz.results35) (rs:= [q0+1+1]) rfl (fun r hr=>by rw [List.mem_singleton.1 hr];(focus((repeat(first|assumption|refine(Tr.aa _ _ (by omega)).trans ?_));done))) (by simp) ?_;intro H8 hH8;have kz:H8.at' (nx+1+1)=some (ey 0 zeroP dl dl):=(hH8 _ (fun h=>absurd (List.mem_singleton.1 h) (by omega))).trans (by(repeat(exact Tr.ab _ _ _));done);refine⟨_,(by(apply ResIs.cell rfl (LoadIs.many (F.ag _ rfl) (by assumption) (ge ak _ _));(repeat(first|exact ResIs.nil|apply ResIs.tmp rfl)))),?_⟩;exact⟨by dsimp only;omega,fun m hm=>(hH8 _ (fun h=>absurd (List.mem_singleton.1 h) (by omega))).trans (by(repeat(refine(Tr.aa _ _ (by omega)).trans ?_));exact o8 m hm),.inl ⟨hn,rfl⟩⟩
     | false=>
       rw [hd] at o3 hM
       have hn:fy p bs i=some (sb,left):=hM
       (repeat(first|refine aq ?_|refine ae ?_|refine aH ?_|refine au rfl ?_))
       (repeat(first|(refine ay rfl rfl rfl (F.ag _ rfl) (by assumption) (ba hp _ _) ?_)|(refine aE rfl rfl rfl (F.sz _ rfl) (by assumption) (ba hp _ _) (by rw [ba ak];exact zD _) (dD _ _ rfl o5.one) (dC ak hp) ?_)|refine ac ?_|(apply ai;exact rfl;exact rfl;exact rfl)));refine gy Tryz.func35 (congrArg Array.toList Tryz.results35) (rs:= [q0+1+1]) rfl (fun r hr=>by rw [List.mem_singleton.1 hr];(focus((repeat(first|assumption|refine(Tr.aa _ _ (by omega)).trans ?_));done))) (by simp) ?_;intro H8 hH8;have kz:H8.at' (nx+1+1)=some (ey N p (.slu ra 0 sb.length) sl):=(hH8 _ (fun h=>absurd (List.mem_singleton.1 h) (by omega))).trans (by(repeat(exact Tr.ab _ _ _));done);refine⟨_,(by(apply ResIs.cell rfl (LoadIs.many (F.ag _ rfl) (by assumption) (ge hp _ _));(repeat(first|exact ResIs.nil|apply ResIs.tmp rfl)))),?_⟩;refine⟨by dsimp only;omega,fun m hm=>(hH8 _ (fun h=>absurd (List.mem_singleton.1 h) (by omega))).trans (by(repeat(refine(Tr.aa _ _ (by omega)).trans ?_));exact o8 m hm),.inr ⟨_,left,(.slu ra 0 sb.length),sl,hn,rfl,?_,?_⟩⟩
       ·exact .inr ⟨ra,fun h=>by rw [h] at hn0;exact absurd hn0 (by decide),rfl,by omega,by dsimp only;omega,(hH8 _ (fun h=>absurd (List.mem_singleton.1 h) (by omega))).trans (by(repeat(first|assumption|refine(Tr.aa _ _ (by omega)).trans ?_));done)⟩
       ·exact(o5.frame (by(dsimp only;omega)) fun m h1 h2 _=>(hH8 _ (fun h=>absurd (List.mem_singleton.1 h) (by omega))).trans (by(repeat(refine(Tr.aa _ _ (by omega)).trans ?_));exact rfl)).low (by omega)
  ·dsimp only at i1 i4 i7 i8 i9 j2 j3 j4 i12 ⊢
   have hn:fy p bs i=none:=by rw [hM,hno]
   refine gW i1 (fun h=>by cases h) ?_
   dsimp only [gX]
   (repeat(first|refine aq ?_|refine ae ?_|refine a9 rfl ?_|(apply ap;exact rfl;exact rfl;exact rfl;exact(F.fo _ _ rfl rfl))))
   rcases j3 with ⟨rfl,rfl⟩|⟨ra,k1,rfl,k2,k3,k4⟩
   ·have hs0:=Ow.sort_spec 0 #[] (by decide) rfl
    (repeat(refine an rfl rfl rfl (F.ag _ rfl) (by(repeat(first|assumption|refine(Tr.aa _ _ (by omega)).trans ?_));done) (cM hp dl sl 0) ?_))
    refine kr 4 123 (d:=78) rfl rfl ?_
    (refine aL rfl rfl rfl (by kernel_rfl) (Ctr.kg (hs0) [n5] rfl ⟨by intro n hn;simp at hn;omega,by simp;try omega⟩ rfl (by repeat(first|exact trivial|refine⟨c7 (by(repeat(exact Tr.ab _ _ _));done),?_⟩)) ?_);rintro _ rfl;refine⟨_,0,[n5],[some _],rfl,(by repeat(first|exact trivial|refine⟨eb _ _ _ _ _ _,?_⟩)),rfl,rfl,?_⟩;dsimp only [wrL])
    (repeat(first|(refine an rfl rfl rfl (F.ag _ rfl) (by(repeat(first|assumption|refine(Tr.aa _ _ (by omega)).trans ?_));done) (cM hp dl sl 0) ?_)|refine aq ?_|refine ae ?_|refine ac ?_|refine aI ?_|(apply aj;exact rfl;exact rfl;exact rfl)|(apply ap;exact rfl;exact rfl;exact rfl;exact(F.fo _ _ rfl rfl))|((apply dB;exact rfl;exact rfl;exact rfl;exact(F.un _ rfl)))))
    refine co (α:=Nat) (fun x=> [(6,.ptr (nx+1+1) 0),(8,.ptr (nx+1+1+1) 0),(11,.ptr (nx+1+1+1+1+1) 0),(82,.sc (.int .i64 0)),(83,.sc (.int .i64 0))])
     (fun x H7 n7=>H7.at' (nx+1+1)=some (ey 0 zeroP dl dl)∧H7.at' (nx+1+1+1)=some (ey N p dl sl)∧H7.at' (nx+1+1+1+1+1)=some (lO true)∧IntsAt H7 sl left (q0+1+1+1+1+1) n7∧H7.at' (q0+1+1)=some (.dfd (some []))∧n5≤n7∧ ∀ m,m<nx→H7.at' m=H.at' m) (fun x=>0) 0
     ⟨by(focus((repeat(first|assumption|refine(Tr.aa _ _ (by omega)).trans ?_));done)),by(focus((repeat(first|assumption|refine(Tr.aa _ _ (by omega)).trans ?_));done)),by(focus((repeat(first|assumption|refine(Tr.aa _ _ (by omega)).trans ?_));done)),j4.frame (by(omega)) fun m h1 h2 _=>(by(repeat(refine(Tr.aa _ _ (by omega)).trans ?_));exact rfl),by(focus((repeat(first|assumption|refine(Tr.aa _ _ (by omega)).trans ?_));done)),by first|omega|(dsimp only;omega),fun m hm=>by(focus((repeat(refine(Tr.aa _ _ (by omega)).trans ?_));exact i12 m hm))⟩ (SlIn.sub (by repeat(first|exact trivial|refine⟨rfl,?_⟩))) ?_
    clear j4 i12 i8 i9 i7 i1
    rintro x H7 n7 ⟨o1,o2,o3,o5,o6,o7,o8⟩ _
    (repeat(first|refine aq ?_|refine ae ?_|refine ac ?_|refine a9 rfl ?_|refine ax rfl ?_|refine au rfl ?_|refine an rfl rfl rfl (F.ag _ rfl) (by assumption) (by exact rfl) ?_|(refine bR rfl rfl rfl rfl (fun hq=>absurd hq (by decide)) (fun _=>?_))))
    (repeat(first|(refine dh rfl rfl nz ?_)|(refine aE rfl rfl rfl (F.sz _ rfl) (by assumption) (ba ak _ _) (by rw [ba ak];exact zD _) (dD _ _ rfl rfl) (dC ak ak) ?_)|refine ac ?_|(apply ai;exact rfl;exact rfl;exact rfl)));refine gy Tryz.func35 (congrArg Array.toList Tryz.results35) (rs:= [q0+1+1]) rfl (fun r hr=>by rw [List.mem_singleton.1 hr];(focus((repeat(first|assumption|refine(Tr.aa _ _ (by omega)).trans ?_));done))) (by simp) ?_;intro H8 hH8;have kz:H8.at' (nx+1+1)=some (ey 0 zeroP dl dl):=(hH8 _ (fun h=>absurd (List.mem_singleton.1 h) (by omega))).trans (by(repeat(exact Tr.ab _ _ _));done);refine⟨_,(by(apply ResIs.cell rfl (LoadIs.many (F.ag _ rfl) (by assumption) (ge ak _ _));(repeat(first|exact ResIs.nil|apply ResIs.tmp rfl)))),?_⟩;exact⟨by dsimp only;omega,fun m hm=>(hH8 _ (fun h=>absurd (List.mem_singleton.1 h) (by omega))).trans (by(repeat(refine(Tr.aa _ _ (by omega)).trans ?_));exact o8 m hm),.inl ⟨hn,rfl⟩⟩
   ·have hs0:=Ow.sort_spec own.length own.toArray hl (by simp)
    refine ki (R:=fun H6 n6=>n5=n6∧H6.at' (nx+1+1)=some (ey 0 zeroP dl dl)∧H6.at' (nx+1+1+1)=some (ey N p (.slu ra 0 own.length) sl)∧H6.at' (nx+1+1+1+1+1)=some (lO true)∧H6.at' ra=some (qh own)∧IntsAt H6 sl left (q0+1+1+1+1+1) n5∧H6.at' (q0+1+1)=some (.dfd (some []))∧ ∀ m,m<nx→H6.at' m=H.at' m) ⟨rfl,by(focus((repeat(first|assumption|refine(Tr.aa _ _ (by omega)).trans ?_));done)),by(focus((repeat(first|assumption|refine(Tr.aa _ _ (by omega)).trans ?_));done)),by(focus((repeat(first|assumption|refine(Tr.aa _ _ (by omega)).trans ?_));done)),by(focus((repeat(first|assumption|refine(Tr.aa _ _ (by omega)).trans ?_));done)),j4.frame (zD _) fun m h1 h2 _=>(by(repeat(refine(Tr.aa _ _ (by omega)).trans ?_));exact rfl),by(focus((repeat(first|assumption|refine(Tr.aa _ _ (by omega)).trans ?_));done)),fun m hm=>by(focus((repeat(refine(Tr.aa _ _ (by omega)).trans ?_));exact i12 m hm))⟩ ?_
    clear i1 i7 i8 i9 i12 k4 j2 j4
    rintro H6 n6 ⟨rfl,b1,b2,b3,b4,b5,b6,b7⟩
    (repeat(refine an rfl rfl rfl (F.ag _ rfl) (by assumption) (cM hp (.slu ra 0 own.length) sl 0) ?_))
    (refine aL rfl rfl rfl (by kernel_rfl) (Ctr.kg (hs0) [ra] rfl ⟨by intro n hn;simp at hn;omega,by simp;try omega⟩ rfl (by repeat(first|exact trivial|refine⟨c7 (by assumption),?_⟩)) ?_);rintro _ rfl;refine⟨_,0,[ra],[some _],rfl,(by repeat(first|exact trivial|refine⟨eb _ _ _ _ _ _,?_⟩)),rfl,rfl,?_⟩;dsimp only [wrL])
    rw [show dat false own.length 4 123 ((Sort.sort Ow.ltP own.toArray).toList.flatMap Ow.elV)=qh (mE own)from p9 own]
    have hsl:=ji own
    rw [← hsl] at hl b2 ⊢
    generalize mE own=sb at hl b2 ⊢
    clear hs0 hsl k1
    (repeat(first|(refine an rfl rfl rfl (F.ag _ rfl) (by(repeat(first|assumption|refine(Tr.aa _ _ (by omega)).trans ?_));done) (cM hp (.slu ra 0 sb.length) sl 0) ?_)|refine aq ?_|refine ae ?_|refine ac ?_|refine aI ?_|(apply aj;exact rfl;exact rfl;exact rfl)|(apply ap;exact rfl;exact rfl;exact rfl;exact(F.fo _ _ rfl rfl))|(apply a6;exact rfl;exact rfl;exact rfl;exact(F.un _ rfl))))
    refine co (α:=Nat) (fun x=> [(6,.ptr (nx+1+1) 0),(8,.ptr (nx+1+1+1) 0),(11,.ptr (nx+1+1+1+1+1) 0),(82,.sc (.int .i64 (sb.length:Int))),(83,.sc (.int .i64 (x:Int)))])
     (fun x H7 n7=>x≤sb.length∧H7.at' (nx+1+1)=some (ey 0 zeroP dl dl)∧H7.at' (nx+1+1+1)=some (ey N p (.slu ra 0 sb.length) sl)∧H7.at' (nx+1+1+1+1+1)=some (lO true)∧H7.at' ra=some (qh sb)∧IntsAt H7 sl left (q0+1+1+1+1+1) n7∧H7.at' (q0+1+1)=some (.dfd (some []))∧n5≤n7∧ ∀ m,m<nx→H7.at' m=H.at' m) (fun x=>sb.length-x) 0
     ⟨zE _,by(focus((repeat(first|assumption|refine(Tr.aa _ _ (by omega)).trans ?_));done)),by(focus((repeat(first|assumption|refine(Tr.aa _ _ (by omega)).trans ?_));done)),by(focus((repeat(first|assumption|refine(Tr.aa _ _ (by omega)).trans ?_));done)),by(focus((repeat(exact Tr.ab _ _ _));done)),b5.frame (by(omega)) fun m h1 h2 h3=>(by have hmr:m≠ra:=(by rintro rfl;exact kD (b4.symm.trans h3));(focus((repeat(refine(Tr.aa _ _ (by omega)).trans ?_));exact rfl))),by(focus((repeat(first|assumption|refine(Tr.aa _ _ (by omega)).trans ?_));done)),by first|omega|(dsimp only;omega),fun m hm=>by(focus((repeat(refine(Tr.aa _ _ (by omega)).trans ?_));exact b7 m hm))⟩ (SlIn.sub (by repeat(first|exact trivial|refine⟨rfl,?_⟩))) ?_
    clear b1 b2 b3 b4 b5 b6 b7
    rintro x H7 n7 ⟨o0,o1,o2,o3,o4,o5,o6,o7,o8⟩ ih
    (repeat(first|refine aq ?_|refine ae ?_))
    refine bR rfl rfl rfl rfl (fun c1=>?_) (fun c1=>?_)
    ·have hx:x<sb.length:=by omega
     have hdb:true=true:=rfl
     (repeat(first|refine aq ?_|refine ae ?_|refine ac ?_|refine aI ?_|refine aH ?_|refine ax rfl ?_|(apply aj;exact rfl;exact rfl;exact rfl)|(apply ai;exact rfl;exact rfl;exact rfl)))
     (apply cY;(focus(kernel_rfl));(focus(kernel_rfl)))
     (repeat(first|refine bx rfl rfl rfl (F.ag _ rfl) (by assumption) (by exact rfl) ?_|refine bO rfl rfl rfl (F.sz _ rfl) (by assumption) (by exact rfl) (by exact rfl) ?_|(apply bD;exact rfl;exact rfl;exact rfl)|(apply bP;exact rfl;exact rfl;exact rfl;exact rfl)|(apply cZ;exact rfl;exact rfl)))
     (refine bZ ?_);(refine⟨by kernel_rfl,?_,?_⟩);(focus(repeat(first|exact trivial|refine⟨.inl (bJ rfl),?_⟩|refine⟨.inl (eX rfl),?_⟩|refine⟨.inr ⟨0,by kernel_rfl,AllH.all (fun _=>(by first|exact bC rfl|exact ci rfl rfl)) _⟩,?_⟩|refine⟨.inr ⟨0,by kernel_rfl,(by(refine⟨(by(exact aZ (F.ag _ rfl) rfl (by(repeat(exact Tr.ab _ _ _));done) (aW rfl))),?_⟩;(repeat(refine⟨(by(exact aZ (F.ag _ rfl) rfl (by assumption) (aW rfl))),?_⟩));exact trivial))⟩,?_⟩)))
     (repeat(first|refine ae ?_|refine ac ?_|refine aB ?_|(apply aj;exact rfl;exact rfl;exact rfl)|(apply bn;exact rfl;exact rfl;exact rfl;exact rfl;(focus(omega));(focus(omega)))))
     exact ih _ _ _ (x+1) ⟨hx,by(focus((repeat(first|assumption|refine(Tr.aa _ _ (by omega)).trans ?_));done)),by(focus((repeat(first|assumption|refine(Tr.aa _ _ (by omega)).trans ?_));done)),by(focus((repeat(exact Tr.ab _ _ _));done)),by(focus((repeat(first|assumption|refine(Tr.aa _ _ (by omega)).trans ?_));done)),o5.frame (by(dsimp only;omega)) fun m h1 h2 h3=>(by(repeat(refine(Tr.aa _ _ (by omega)).trans ?_));exact rfl),by(focus((repeat(first|assumption|refine(Tr.aa _ _ (by omega)).trans ?_));done)),by first|omega|(dsimp only;omega),fun m hm=>by(focus((repeat(refine(Tr.aa _ _ (by omega)).trans ?_));exact o8 m hm))⟩ (by omega) (SlIn.sub (by repeat(first|exact trivial|refine⟨rfl,?_⟩)))
    ·(repeat(first|(refine an rfl rfl rfl (F.ag _ rfl) o3 rfl ?_)|refine aq ?_|refine ae ?_|refine ac ?_|refine a9 rfl ?_|refine ax rfl ?_|refine au rfl ?_))
     (repeat(first|(refine dh rfl rfl nz ?_)|(refine aE rfl rfl rfl (F.sz _ rfl) (by assumption) (ba ak _ _) (by rw [ba ak];exact zD _) (dD _ _ rfl rfl) (dC ak ak) ?_)|refine ac ?_|(apply ai;exact rfl;exact rfl;exact rfl)));refine gy Tryz.func35 (congrArg Array.toList Tryz.results35) (rs:= [q0+1+1]) rfl (fun r hr=>by rw [List.mem_singleton.1 hr];(focus((repeat(first|assumption|refine(Tr.aa _ _ (by omega)).trans ?_));done))) (by simp) ?_;intro H8 hH8;have kz:H8.at' (nx+1+1)=some (ey 0 zeroP dl dl):=(hH8 _ (fun h=>absurd (List.mem_singleton.1 h) (by omega))).trans (by(repeat(exact Tr.ab _ _ _));done);refine⟨_,(by(apply ResIs.cell rfl (LoadIs.many (F.ag _ rfl) (by assumption) (ge ak _ _));(repeat(first|exact ResIs.nil|apply ResIs.tmp rfl)))),?_⟩;exact⟨by dsimp only;omega,fun m hm=>(hH8 _ (fun h=>absurd (List.mem_singleton.1 h) (by omega))).trans (by(repeat(refine(Tr.aa _ _ (by omega)).trans ?_));exact o8 m hm),.inl ⟨hn,rfl⟩⟩
end Go.Proofs.YtjjgjjlgchidlaaGreat
end
